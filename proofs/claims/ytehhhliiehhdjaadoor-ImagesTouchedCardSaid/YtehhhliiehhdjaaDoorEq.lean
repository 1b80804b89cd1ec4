/- '==' and '!=' at the structs of this program. No condition. -/
import Derived.Test.YtehhhliiehhdjaaDoorBase
import Derived.Laws.StructEq
namespace Go.Proofs.YtehhhliiehhdjaaDoor
open Go.RowKit

theorem eqlQuote (a b : ByteArray) (x y : Int) (w : World) : (binOp .eql 78 (.agg #[.string a, .int .i64 x]) (.agg #[.string b, .int .i64 y])).run Tryd.prog w = .ok (.bool (a.toList == b.toList && x == y)) w := by
  have hS : Tryd.prog.underlying 78 = some (.struct (Tryd.prog.fieldsOf 78)) := by kernel_rfl
  have hp : Tryd.prog.stoodInHeld 78 = false := by kernel_rfl
  have u3 := Tryd.underlying3
  have us := Tryd.underlying9
  have a3 := Tryd.isAgg3
  have a9 := Tryd.isAgg9
  have z3 := Tryd.sizeOf3
  have zs := Tryd.sizeOf9
  rw [run_eql_struct, show (10000 : Nat) = 9999 + 1 from rfl, run_equalIn_agg w 9999 78 _ _ hS hp]
  simp only [Program.fieldsOf, Tryd.underlying78]
  go_simp
  by_cases h1 : a.toList = b.toList <;> by_cases h2 : x = y <;> simp [h1, h2]

/-- A struct against itself, where no part can differ from itself. -/
theorem neqQuote (a : ByteArray) (x : Int) (w : World) : (binOp .neq 78 (.agg #[.string a, .int .i64 x]) (.agg #[.string a, .int .i64 x])).run Tryd.prog w = .ok (.bool false) w := by
  have hS : Tryd.prog.underlying 78 = some (.struct (Tryd.prog.fieldsOf 78)) := by kernel_rfl
  have hp : Tryd.prog.stoodInHeld 78 = false := by kernel_rfl
  have u3 := Tryd.underlying3
  have us := Tryd.underlying9
  have a3 := Tryd.isAgg3
  have a9 := Tryd.isAgg9
  have z3 := Tryd.sizeOf3
  have zs := Tryd.sizeOf9
  rw [run_neq_struct, show (10000 : Nat) = 9999 + 1 from rfl, run_equalIn_agg w 9999 78 _ _ hS hp]
  simp only [Program.fieldsOf, Tryd.underlying78]
  go_simp

theorem eqArr4 (d : Nat) (a0 a1 a2 a3 : Int) (b0 b1 b2 b3 : Int) (w : World) : (Op.equalIn (d + 2) 62 (.agg #[.int .i64 a0, .int .i64 a1, .int .i64 a2, .int .i64 a3]) (.agg #[.int .i64 b0, .int .i64 b1, .int .i64 b2, .int .i64 b3])).run Tryd.prog w = .ok (a0 == b0 && (a1 == b1 && (a2 == b2 && a3 == b3))) w := by
  have u3 := Tryd.underlying3
  have k3 := Tryd.isAgg3
  have z3 := Tryd.sizeOf3
  have hc : Tryd.prog.cellsOf 3 = 1 := by kernel_rfl
  obtain ⟨i, hi⟩ : ∃ i, Tryd.prog.info? 3 = some i := Option.isSome_iff_exists.1 (by kernel_rfl)
  rw [run_equalIn_array w (d + 1) _ _ Tryd.underlying62 hi, hc]
  simp only [show List.range 4 = [0, 1, 2, 3] from rfl, Op.eqItems]
  go_simp
  by_cases h0 : a0 = b0 <;> by_cases h1 : a1 = b1 <;> by_cases h2 : a2 = b2 <;> by_cases h3 : a3 = b3 <;> simp [h0, h1, h2, h3]

theorem neqEncl (s : Int) (g : ByteArray) (p a0 a1 a2 a3 : Int) (w : World) : (binOp .neq 64 (.agg #[.int .i64 s, .string g, .int .i64 p, .int .i64 a0, .int .i64 a1, .int .i64 a2, .int .i64 a3]) (.agg #[.int .i64 s, .string g, .int .i64 p, .int .i64 a0, .int .i64 a1, .int .i64 a2, .int .i64 a3])).run Tryd.prog w = .ok (.bool false) w := by
  have hS : Tryd.prog.underlying 64 = some (.struct (Tryd.prog.fieldsOf 64)) := by kernel_rfl
  have hp : Tryd.prog.stoodInHeld 64 = false := by kernel_rfl
  have u3 := Tryd.underlying3
  have us := Tryd.underlying9
  have k3 := Tryd.isAgg3
  have k9 := Tryd.isAgg9
  have k4 := Tryd.isAgg62
  have z3 := Tryd.sizeOf3
  have zs := Tryd.sizeOf9
  have z4 := Tryd.sizeOf62
  have he := fun w => eqArr4 9997 a0 a1 a2 a3 a0 a1 a2 a3 w
  rw [run_neq_struct, show (10000 : Nat) = 9999 + 1 from rfl, run_equalIn_agg w 9999 64 _ _ hS hp]
  simp only [Program.fieldsOf, Tryd.underlying64]
  go_simp

end Go.Proofs.YtehhhliiehhdjaaDoor
