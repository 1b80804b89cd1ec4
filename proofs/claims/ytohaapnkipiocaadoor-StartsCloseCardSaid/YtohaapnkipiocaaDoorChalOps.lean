/- trust.Ask, Look and their references, walked. Conditions: those that each contract writes. -/
import Derived.Test.YtohaapnkipiocaaDoorTrust2
import Derived.Test.YtohaapnkipiocaaDoorAppNil
namespace Go.Proofs.YtohaapnkipiocaaDoor
open Go.RowKit

/- ref.ChallengerCopy: a challenger in memory of its own. -/
end Go.Proofs.YtohaapnkipiocaaDoor
