/- A new machine, as plain data. No program is walked. -/
import Derived.Test.YtohaapnkipiocaaDoorMachOps
namespace Go.Proofs.YtohaapnkipiocaaDoor
open Go.RowKit

def newD : MachD := ⟨List.replicate 24 bare, List.replicate 4 emptyEncl, []⟩

end Go.Proofs.YtohaapnkipiocaaDoor
