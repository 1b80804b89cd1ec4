/- '==' at outcomes and answers. No condition. -/
import Derived.Test.YtlbjdjjdafnemaaBase
import Derived.Laws.StructEq
namespace Go.Proofs.Ytlbjdjjdafnemaa
open Go.RowKit

theorem eqlOut (a b x y : Int) (w : World) : (binOp .eql 29 (.agg #[.int .i64 a, .int .i64 x]) (.agg #[.int .i64 b, .int .i64 y])).run Try.prog w = .ok (.bool (a == b && x == y)) w := by
  have hS : Try.prog.underlying 29 = some (.struct (Try.prog.fieldsOf 29)) := by kernel_rfl
  have hp : Try.prog.stoodInHeld 29 = false := by kernel_rfl
  have u3 := Try.underlying3
  have a3 := Try.isAgg3
  have z3 := Try.sizeOf3
  rw [run_eql_struct, show (10000 : Nat) = 9999 + 1 from rfl, run_equalIn_agg w 9999 29 _ _ hS hp]
  simp only [Program.fieldsOf, Try.underlying29]
  go_simp
  by_cases h1 : a = b <;> by_cases h2 : x = y <;> simp [h1, h2]

end Go.Proofs.Ytlbjdjjdafnemaa
