/- trust.Check and its reference, walked. Conditions: those that each contract writes. -/
import Derived.Test.YtehhhliiehhdjaaDoorImageCopy
namespace Go.Proofs.YtehhhliiehhdjaaDoor
open Go.RowKit

def longB (s : ByteArray) : Bool := decide (1000 < s.size)
def chalF (C : ChalD) : Int := if decide (4 < C.trusts.length) || decide (20 < C.nonces.length) then 1 else if C.trusts.any longB || C.nonces.any (fun n => !inR n 0 1) then 8 else 0

end Go.Proofs.YtehhhliiehhdjaaDoor
