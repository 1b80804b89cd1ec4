/- The laws' own comparisons, where what is compared is alike: they answer true. Condition: fewer than 2^63 elements. -/
import Derived.Test.YtaknndkaeelkbaaTrust
import Derived.Test.YtaknndkaeelkbaaEq
import Derived.WalkSmall
namespace Go.Proofs.Ytaknndkaeelkbaa
open Go.RowKit

set_option maxRecDepth 10000 in
set_option maxHeartbeats 800000 in
theorem sameInts (a b : Option Addr) (l : List Int) (n c d : Nat) (w : World) (hl : l.length = n) (hn : n ≤ 9223372036854775807) (ha : IntsAt w a l) (hb : IntsAt w b l) :
    Calls Try.prog 68 #[.slice a n c, .slice b n d] w fun e w' => e = .returned (.bool true) ∧ Hid (∃ q, w' = w.drewN q) := by
  have HA := hid ha
  have HB := hid hb
  have HL := hid hl
  clear ha hb hl
  go_enter Try.func68, Try.ntmps68
  go_wp2_with fail
  go_loopw [5] (fun j W => ∃ i : Nat, i ≤ n ∧ j = .int .i64 i ∧ Hid (∃ q, W = w.drewN q)) (fun j _ => n - (intOf j).toNat)
  case atStart => exact ⟨0, by omega, rfl, ⟨0, rfl⟩⟩
  case round =>
    obtain ⟨i, hi, rfl, HQ⟩ := hrel
    obtain ⟨q, rfl⟩ := HQ.out
    by_cases hlt : i < n
    · obtain ⟨x, hx⟩ : ∃ x, l[i]? = some x := ⟨_, List.getElem?_eq_getElem (by rw [HL.out]; exact hlt)⟩
      obtain ⟨ab, ao, rfl, k0⟩ := HA.out i x hx
      obtain ⟨bb, bo, rfl, k1⟩ := HB.out i x hx
      clear hx
      have hi0 : (0 : Int) ≤ (i : Int) := Int.natCast_nonneg _
      have hi1 : (i : Int) < (n : Int) := by omega
      go_wp2_with fail
      go_quiet (fail)
      go_wp2_with fail
      go_roundw
      case rel => exact ⟨i + 1, by omega, by go_num, ⟨_, rfl⟩⟩
      case measure => simp [intOf]; omega
    · obtain rfl : i = n := by omega
      go_wp2_with fail
      go_ret
      exact ⟨rfl, ⟨q, rfl⟩⟩

set_option maxRecDepth 10000 in
set_option maxHeartbeats 800000 in
theorem sameChallenger (u v : Value) (C : ChalD) (w : World) (hf : C.Fits) (hu : ChalAt w u C) (hv : ChalAt w v C) :
    Calls Try.prog 30 #[u, v] w fun e w' => e = .returned (.bool true) ∧ Below w.heap.size w w' := by
  obtain ⟨ta, tc, na, nc, rfl, ht, hn⟩ := hu
  obtain ⟨tb, td, nb, nd, rfl, ht', hn'⟩ := hv
  obtain ⟨hft, hfn⟩ := hf
  have HA := hid ht
  have HB := hid ht'
  have HN := hid hn
  have HN' := hid hn'
  clear ht ht' hn hn'
  go_enter Try.func30, Try.ntmps30
  go_wp2_with fail
  refine wp_gen (fun W0 => Below w.heap.size w W0 ∧ w.heap.size + 1 < W0.heap.size ∧ W0.cell? ⟨w.heap.size, 0, none⟩ = some (.slice ta C.trusts.length tc) ∧ W0.cell? ⟨w.heap.size, 1, none⟩ = some (.slice na C.nonces.length nc) ∧
    W0.cell? ⟨w.heap.size + 1, 0, none⟩ = some (.slice tb C.trusts.length td) ∧ W0.cell? ⟨w.heap.size + 1, 1, none⟩ = some (.slice nb C.nonces.length nd)) ⟨by go_grown, by go_size, by simp [go_sem], by simp [go_sem], by simp [go_sem], by simp [go_sem]⟩ ?_
  rintro W0 ⟨hb0, hz0, c0, c1, c2, c3⟩
  go_loopw [5] (fun j W => ∃ i : Nat, i ≤ C.trusts.length ∧ j = .int .i64 i ∧ Below W0.heap.size W0 W) (fun j _ => C.trusts.length - (intOf j).toNat)
  case atStart => exact ⟨0, by omega, rfl, Below.refl _ _⟩
  case round =>
    obtain ⟨i, hi, rfl, hb⟩ := hrel
    have d0 := cell_later hb c0
    have d1 := cell_later hb c1
    have d2 := cell_later hb c2
    have d3 := cell_later hb c3
    clear c0 c1 c2 c3
    by_cases hlt : i < C.trusts.length
    · obtain ⟨x, hx⟩ : ∃ x, C.trusts[i]? = some x := ⟨_, List.getElem?_eq_getElem hlt⟩
      obtain ⟨ab, ao, rfl, k0⟩ := HA.out i x hx
      obtain ⟨bb, bo, rfl, k1⟩ := HB.out i x hx
      have l0 := cell_later hb (cell_later hb0 k0)
      have l1 := cell_later hb (cell_later hb0 k1)
      clear hx k0 k1
      have hi0 : (0 : Int) ≤ (i : Int) := Int.natCast_nonneg _
      have hi1 : (i : Int) < (C.trusts.length : Int) := by omega
      go_wp2_with fail
      go_quiet (fail)
      go_wp2_with fail
      go_roundw
      case rel => exact ⟨i + 1, by omega, by go_num, below_drewN hb _⟩
      case measure => simp [intOf]; omega
    · obtain rfl : i = C.trusts.length := by omega
      go_wp2_with fail
      refine (sameInts na nb C.nonces C.nonces.length nc nd _ rfl (by omega) (HN.out.mono (hb0.trans (hb.mono hb0.size))) (HN'.out.mono (hb0.trans (hb.mono hb0.size)))).mono ?_
      rintro e w' ⟨rfl, q, rfl⟩
      go_wp2_with fail
      go_ret
      exact ⟨rfl, below_drewN (hb0.trans (hb.mono hb0.size)) q⟩

end Go.Proofs.Ytaknndkaeelkbaa
