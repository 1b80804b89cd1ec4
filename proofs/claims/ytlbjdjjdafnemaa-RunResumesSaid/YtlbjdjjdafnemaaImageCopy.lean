/- image.Copy, walked. Conditions: those that each contract writes. -/
import Derived.Test.YtlbjdjjdafnemaaOwn
namespace Go.Proofs.Ytlbjdjjdafnemaa
open Go.RowKit

def PagesRes (base : Nat) (l : List PageD) (w : World) (e : Ending) (w' : World) : Prop :=
  ∃ a c F, e = .returned (.slice a l.length c) ∧ F.map Prod.fst = l ∧ OwnPages base w' (.slice a l.length c) F ∧ Below base w w'
theorem infoPages : (Try.prog.info? 80).map (fun i => (i.zero, i.size, i.bytes)) = some (some (.agg #[.int .i64 0, .int .i64 0, .slice none 0 0]), 3, 40) := by kernel_rfl

end Go.Proofs.Ytlbjdjjdafnemaa
