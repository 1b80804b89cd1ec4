/- The laws' own comparisons, where what is compared is alike: they answer true. Condition: fewer than 2^63 elements. -/
import Derived.Test.YtlbjdjjdafnemaaTrust
import Derived.Test.YtlbjdjjdafnemaaEq
import Derived.WalkSmall
namespace Go.Proofs.Ytlbjdjjdafnemaa
open Go.RowKit

set_option maxRecDepth 10000 in
set_option maxHeartbeats 800000 in
theorem sameInts (a b : Option Addr) (l : List Int) (n c d : Nat) (w : World) (hl : l.length = n) (hn : n ≤ 9223372036854775807) (ha : IntsAt w a l) (hb : IntsAt w b l) :
    Calls Try.prog 16 #[.slice a n c, .slice b n d] w fun e w' => e = .returned (.bool true) ∧ Hid (∃ q, w' = w.drewN q) := by
  have HA := hid ha
  have HB := hid hb
  have HL := hid hl
  clear ha hb hl
  go_enter Try.func16, Try.ntmps16
  go_wp2_with fail
  go_loopw [5] (fun j W => ∃ i : Nat, i ≤ n ∧ j = .int .i64 i ∧ Hid (∃ q, W = w.drewN q)) (fun j _ => n - (intOf j).toNat)
  case atStart => exact ⟨0, by omega, rfl, ⟨0, rfl⟩⟩
  case round =>
    obtain ⟨i, hi, rfl, HQ⟩ := hrel
    obtain ⟨q, rfl⟩ := HQ.out
    by_cases hlt : i < n
    · obtain ⟨x, hx⟩ : ∃ x, l[i]? = some x := ⟨_, List.getElem?_eq_getElem (by rw [HL.out]; exact hlt)⟩
      obtain ⟨ab, ao, rfl, k0⟩ := HA.out i x hx
      obtain ⟨bb, bo, rfl, k1⟩ := HB.out i x hx
      clear hx
      have hi0 : (0 : Int) ≤ (i : Int) := Int.natCast_nonneg _
      have hi1 : (i : Int) < (n : Int) := by omega
      go_wp2_with fail
      go_quiet (fail)
      go_wp2_with fail
      go_roundw
      case rel => exact ⟨i + 1, by omega, by go_num, ⟨_, rfl⟩⟩
      case measure => simp [intOf]; omega
    · obtain rfl : i = n := by omega
      go_wp2_with fail
      go_ret
      exact ⟨rfl, ⟨q, rfl⟩⟩

end Go.Proofs.Ytlbjdjjdafnemaa
