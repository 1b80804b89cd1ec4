/- ref.MachineCopy, walked. Conditions: those that each contract writes. -/
import Derived.Test.YtbamacddfonloaaDoorGg
import Derived.Deep.Cut
import Derived.Deep.CutRange
namespace Go.Proofs.YtbamacddfonloaaDoor
open Go.RowKit

end Go.Proofs.YtbamacddfonloaaDoor
