/- What epc.Put and epc.Measure answer, as plain data. No program is walked. -/
import Derived.Test.YtehhhliiehhdjaaDoorTexts
import Derived.Test.YtehhhliiehhdjaaDoorMachOps
import Derived.Test.YtehhhliiehhdjaaDoorPlace
namespace Go.Proofs.YtehhhliiehhdjaaDoor
open Go.RowKit

def logE (s : List UInt8) (x : EnclD) : EnclD := { x with log := x.log ++ bytesOf s }
def ownF (e p r : Int) (x : FrameD) : FrameD := { x with owner := e, pl := p, rights := r }
def putF (M : MachD) (e f p r : Int) : Int :=
  if askF M e 1 ≠ 0 then askF M e 1 else if f < 0 ∨ 24 ≤ f then 2 else if addF p r ≠ 0 then 2 else
  if (frameOf M f).owner ≠ 0 ∨ 0 ≤ placeF M.frames e p then 6 else
  if 1000 < (((enclOf M e).map (·.log.size)).getD 0) + (addedL p r).length then 7 else 0
def putD (M : MachD) (e f p r : Int) : MachD × Int :=
  if putF M e f p r ≠ 0 then (mach0, putF M e f p r) else
  ({ M with frames := upd M.frames f.toNat (ownF e p r), encl := upd M.encl (e - 1).toNat (logE (addedL p r)) }, 0)
def heldOf (M : MachD) (e p : Int) : List UInt8 := heldL p (frameOf M (placeF M.frames e p)).words
def measF (M : MachD) (e p : Int) : Int :=
  if askF M e 1 ≠ 0 then askF M e 1 else if placeF M.frames e p < 0 then 5 else
  if 1000 < (((enclOf M e).map (·.log.size)).getD 0) + (heldOf M e p).length then 7 else 0
def measD (M : MachD) (e p : Int) : MachD × Int :=
  if measF M e p ≠ 0 then (mach0, measF M e p) else ({ M with encl := upd M.encl (e - 1).toNat (logE (heldOf M e p)) }, 0)

end Go.Proofs.YtehhhliiehhdjaaDoor
