/- riddlekeep.picked, walked. Conditions: the number is one of int; there is something to pick from. -/
import Derived.Test.YtehhhliiehhdjaaDoorBase
namespace Go.Proofs.YtehhhliiehhdjaaDoor
open Go.RowKit

def pickD (n many : Int) : Int := (if n < 0 then -(n + 1) else n) % many
theorem pickD_lo (n : Int) {many : Int} (h : 0 < many) : 0 ≤ pickD n many := Int.emod_nonneg _ (by omega)
theorem pickD_hi (n : Int) {many : Int} (h : 0 < many) : pickD n many < many := Int.emod_lt_of_pos _ h
theorem emod_le_pos {x m : Int} (h : 0 ≤ x) (hm : 0 < m) : x % m ≤ x := by
  obtain ⟨a, rfl⟩ : ∃ a : Nat, x = a := ⟨x.toNat, by omega⟩
  obtain ⟨c, rfl⟩ : ∃ c : Nat, m = c := ⟨m.toNat, by omega⟩
  have := Nat.mod_le a c
  omega
def Is64 (n : Int) : Prop := -9223372036854775808 ≤ n ∧ n ≤ 9223372036854775807
set_option maxHeartbeats 400000 in
theorem picked_any (n many : Int) (w : World) (hn : Is64 n) (hm : 0 < many) : Calls Tryd.prog 7 #[.int .i64 n, .int .i64 many] w fun x w' => x = .returned (.int .i64 (pickD n many)) ∧ w' = w := by
  obtain ⟨h0, h1⟩ := hn
  have hmz : (many == 0) = false := by rw [beq_eq_false_iff_ne]; omega
  by_cases hneg : n < 0
  · have e1 : IntKind.i64.wrap (n + 1) = n + 1 := by rw [IntKind.wrap_i64]; omega
    have e2 : IntKind.i64.wrap (-(n + 1)) = -(n + 1) := by rw [IntKind.wrap_i64]; omega
    have e3 : (-(n + 1)).tmod many = pickD n many := by rw [pickD, if_pos hneg, Int.tmod_eq_emod_of_nonneg (by omega)]
    have e4 : IntKind.i64.wrap (pickD n many) = pickD n many := by
      have a := pickD_lo n hm
      have b : pickD n many ≤ -(n + 1) := by rw [pickD, if_pos hneg]; exact emod_le_pos (by omega) hm
      rw [IntKind.wrap_i64]; omega
    go_enter Tryd.func7, Tryd.ntmps7
    go_wp2
    go_ret
    exact ⟨rfl, rfl⟩
  · have e3 : n.tmod many = pickD n many := by rw [pickD, if_neg hneg, Int.tmod_eq_emod_of_nonneg (by omega)]
    have e4 : IntKind.i64.wrap (pickD n many) = pickD n many := by
      have a := pickD_lo n hm
      have b : pickD n many ≤ n := by rw [pickD, if_neg hneg]; exact emod_le_pos (by omega) hm
      rw [IntKind.wrap_i64]; omega
    go_enter Tryd.func7, Tryd.ntmps7
    go_wp2
    go_ret
    exact ⟨rfl, rfl⟩

end Go.Proofs.YtehhhliiehhdjaaDoor
