/- trust.Ask, Look and their references, walked. Conditions: those that each contract writes. -/
import Derived.Test.YtehhhliiehhdjaaDoorTrust2
import Derived.Test.YtehhhliiehhdjaaDoorAppNil
namespace Go.Proofs.YtehhhliiehhdjaaDoor
open Go.RowKit

/- ref.ChallengerCopy: a challenger in memory of its own. -/
end Go.Proofs.YtehhhliiehhdjaaDoor
