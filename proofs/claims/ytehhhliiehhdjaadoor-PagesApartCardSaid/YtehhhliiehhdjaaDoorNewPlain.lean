/- A new machine, as plain data. No program is walked. -/
import Derived.Test.YtehhhliiehhdjaaDoorMachOps
namespace Go.Proofs.YtehhhliiehhdjaaDoor
open Go.RowKit

def newD : MachD := ⟨List.replicate 24 bare, List.replicate 4 emptyEncl, []⟩

end Go.Proofs.YtehhhliiehhdjaaDoor
