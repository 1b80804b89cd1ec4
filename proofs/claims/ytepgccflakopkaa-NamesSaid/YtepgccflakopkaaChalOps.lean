/- trust.Ask, Look and their references, walked. Conditions: those that each contract writes. -/
import Derived.Test.YtepgccflakopkaaTrust2
import Derived.Test.YtepgccflakopkaaAppNil
namespace Go.Proofs.Ytepgccflakopkaa
open Go.RowKit

/- ref.ChallengerCopy: a challenger in memory of its own. -/
end Go.Proofs.Ytepgccflakopkaa
