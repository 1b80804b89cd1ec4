/- trust.Check and its reference, walked. Conditions: those that each contract writes. -/
import Derived.Test.YtaknndkaeelkbaaImageCopy
namespace Go.Proofs.Ytaknndkaeelkbaa
open Go.RowKit

def longB (s : ByteArray) : Bool := decide (1000 < s.size)
theorem trustCheck1 (s : ByteArray) (w : World) : Calls Try.prog 79 #[.string s] w fun e w' => e = .returned (.bool (longB s)) ∧ w = w' := by
  by_cases h1 : 1000 < s.size
  all_goals
    go_enter Try.func79, Try.ntmps79
    go_wp2
    go_ret
    exact ⟨by simp [longB]; omega, rfl⟩
theorem trustCheck2 (n : Int) (w : World) : Calls Try.prog 80 #[.int .i64 n] w fun e w' => e = .returned (.bool (!inR n 0 1)) ∧ w = w' := by
  by_cases h1 : n < 0
  all_goals by_cases h2 : 1 < n
  all_goals
    go_enter Try.func80, Try.ntmps80
    go_wp2
    all_goals
      go_ret
      refine ⟨?_, rfl⟩
      simp [inR]; omega
theorem enters_tc1 : ∀ args w, (callFunc 79 args).run Try.prog w = .ok (.enter 79 args) w := enters_of Try.func79 (by kernel_rfl) rfl
theorem enters_tc2 : ∀ args w, (callFunc 80 args).run Try.prog w = .ok (.enter 80 args) w := enters_of Try.func80 (by kernel_rfl) rfl

def chalF (C : ChalD) : Int := if decide (4 < C.trusts.length) || decide (20 < C.nonces.length) then 1 else if C.trusts.any longB || C.nonces.any (fun n => !inR n 0 1) then 8 else 0

set_option maxRecDepth 10000 in
set_option maxHeartbeats 800000 in
theorem trustCheck (v : Value) (C : ChalD) (w : World) (hv : ChalAt w v C) (hf : C.Fits) : Calls Try.prog 36 #[v] w fun e w' => e = .returned (.int .i64 (chalF C)) ∧ Below w.heap.size w w' := by
  obtain ⟨ta, tc, na, nc, rfl, ht, hn⟩ := hv
  obtain ⟨hft, hfn⟩ := hf
  have HT := hid ht
  have HN := hid hn
  clear ht hn
  have B0 : ∀ X, Below w.heap.size w (w.alloc X) := fun X => by go_grown
  by_cases h1 : 4 < C.trusts.length
  · have HF : Hid (chalF C = 1) := by show chalF C = 1; simp [chalF, h1]
    go_enter Try.func36, Try.ntmps36
    go_wp2_with fail
    go_ret
    exact ⟨by rw [HF.out]; rfl, B0 _⟩
  by_cases h2 : 20 < C.nonces.length
  · have HF : Hid (chalF C = 1) := by show chalF C = 1; simp [chalF, h2]
    go_enter Try.func36, Try.ntmps36
    go_wp2_with fail
    go_ret
    exact ⟨by rw [HF.out]; rfl, B0 _⟩
  have HF : Hid (chalF C = if C.trusts.any longB || C.nonces.any (fun n => !inR n 0 1) then 8 else 0) := by show chalF C = _; simp [chalF, h1, h2]
  go_enter Try.func36, Try.ntmps36
  go_wp2_with fail
  refine (containsFuncStrs 79 #[] ta C.trusts C.trusts.length tc longB _ (by omega) rfl enters_tc1 (HT.out.mono (B0 _)) (fun i x _ W hW => (trustCheck1 x W).mono fun e w' ⟨he, hw⟩ => ⟨he, hw ▸ Below.refl _ _⟩)).mono ?_
  rintro e w1 ⟨rfl, hb1⟩
  have p1 : w1.cell? ⟨w.heap.size, 1, none⟩ = some (.slice na C.nonces.length nc) := by rw [(bcell hb1).1 _ _ (by go_size)]; simp [go_sem]
  have B1 : Below w.heap.size w w1 := (B0 _).trans (hb1.mono (by go_size))
  clear hb1
  cases hr1 : C.trusts.any longB with
  | true =>
    rw [hr1] at HF
    clear hr1
    go_wp2_with fail
    go_ret
    exact ⟨by rw [HF.out]; rfl, B1⟩
  | false =>
    rw [hr1] at HF
    clear hr1
    go_wp2_with fail
    refine (containsFuncInts 80 #[] na C.nonces C.nonces.length nc (fun n => !inR n 0 1) _ (by omega) rfl enters_tc2 (HN.out.mono B1) (fun i x _ W hW => (trustCheck2 x W).mono fun e w' ⟨he, hw⟩ => ⟨he, hw ▸ Below.refl _ _⟩)).mono ?_
    rintro e w2 ⟨rfl, hb2⟩
    generalize (C.nonces.any fun n => !inR n 0 1) = r at HF ⊢
    cases r
    all_goals
      go_wp2_with fail
      go_ret
      exact ⟨by rw [HF.out]; rfl, B1.trans (hb2.mono B1.size)⟩

set_option maxRecDepth 10000 in
set_option maxHeartbeats 1600000 in
theorem refChalFault (v : Value) (C : ChalD) (w : World) (hv : ChalAt w v C) (hf : C.Fits) : Calls Try.prog 37 #[v] w fun e w' => e = .returned (.int .i64 (chalF C)) ∧ Below w.heap.size w w' := by
  obtain ⟨ta, tc, na, nc, rfl, ht, hn⟩ := hv
  obtain ⟨hft, hfn⟩ := hf
  have HT := hid ht
  have HN := hid hn
  clear ht hn
  have B0 : ∀ X, Below w.heap.size w (w.alloc X) := fun X => by go_grown
  by_cases h1 : 4 < C.trusts.length
  · have HF : Hid (chalF C = 1) := by show chalF C = 1; simp [chalF, h1]
    go_enter Try.func37, Try.ntmps37
    go_wp2_with fail
    go_ret
    exact ⟨by rw [HF.out]; rfl, B0 _⟩
  by_cases h2 : 20 < C.nonces.length
  · have HF : Hid (chalF C = 1) := by show chalF C = 1; simp [chalF, h2]
    go_enter Try.func37, Try.ntmps37
    go_wp2_with fail
    go_ret
    exact ⟨by rw [HF.out]; rfl, B0 _⟩
  have HF : Hid (chalF C = if C.trusts.any longB || C.nonces.any (fun n => !inR n 0 1) then 8 else 0) := by show chalF C = _; simp [chalF, h1, h2]
  go_enter Try.func37, Try.ntmps37
  go_wp2_with fail
  refine wp_gen (fun W0 => Below w.heap.size w W0 ∧ W0.cell? ⟨w.heap.size, 0, none⟩ = some (.slice ta C.trusts.length tc) ∧ W0.cell? ⟨w.heap.size, 1, none⟩ = some (.slice na C.nonces.length nc)) ⟨by go_grown, by simp [go_sem], by simp [go_sem]⟩ ?_
  rintro W0 ⟨hb0, c0, c1⟩
  go_loop [3] (fun j => ∃ i : Nat, i ≤ C.trusts.length ∧ j = .int .i64 i ∧ Hid (∀ (j : Nat) y, j < i → C.trusts[j]? = some y → longB y = false)) (fun j => C.trusts.length - (intOf j).toNat)
  case atStart => exact ⟨0, by omega, rfl, fun _ _ h => by omega⟩
  case round =>
    obtain ⟨i, hi, rfl, HI⟩ := hrel
    by_cases hlt : i < C.trusts.length
    · obtain ⟨x, hx⟩ : ∃ x, C.trusts[i]? = some x := ⟨_, List.getElem?_eq_getElem hlt⟩
      obtain ⟨b, off, rfl, k0⟩ := HT.out i x hx
      have l0 := cell_later hb0 k0
      have HX := hid hx
      clear hx k0
      by_cases hlong : 1000 < x.size
      · go_wp2_with fail
        go_ret
        refine ⟨?_, hb0⟩
        rw [HF.out, show C.trusts.any longB = true from List.any_eq_true.2 ⟨x, List.mem_of_getElem? HX.out, by simp [longB, hlong]⟩]
        rfl
      · go_wp2_with fail
        go_round
        case rel =>
          refine ⟨i + 1, by omega, by go_num, fun j y hj hy => ?_⟩
          by_cases hji : j < i
          · exact HI.out j y hji hy
          · obtain rfl : j = i := by omega
            rw [HX.out] at hy
            rw [← Option.some.inj hy]
            simp only [longB, decide_eq_false_iff_not]
            omega
        case measure => simp [intOf]; omega
    · have HA : Hid (C.trusts.any longB = false) := by
        show _ = false
        rw [List.any_eq_false]
        intro y hy
        obtain ⟨j, hj, rfl⟩ := List.getElem_of_mem hy
        rw [HI.out j _ (by omega) (List.getElem?_eq_getElem hj)]
        simp
      rw [HA.out] at HF
      clear HA HI
      go_wp2_with fail
      go_loop [4] (fun j => ∃ i : Nat, i ≤ C.nonces.length ∧ j = .int .i64 i ∧ Hid (∀ (j : Nat) y, j < i → C.nonces[j]? = some y → inR y 0 1 = true)) (fun j => C.nonces.length - (intOf j).toNat)
      case atStart => exact ⟨0, by omega, rfl, fun _ _ h => by omega⟩
      case round =>
        obtain ⟨i, hi, rfl, HI⟩ := hrel
        by_cases hlt : i < C.nonces.length
        · obtain ⟨x, hx⟩ : ∃ x, C.nonces[i]? = some x := ⟨_, List.getElem?_eq_getElem hlt⟩
          obtain ⟨b, off, rfl, k0⟩ := HN.out i x hx
          have l0 := cell_later hb0 k0
          have HX := hid hx
          clear hx k0
          cases hin : inR x 0 1 with
          | true =>
            have HY := hid hin
            clear hin
            go_wp2_with fail
            refine (in_any x 0 1 _).mono ?_
            rintro e w' ⟨rfl, rfl⟩
            rw [HY.out]
            go_wp2_with fail
            go_round
            case rel =>
              refine ⟨i + 1, by omega, by go_num, fun j y hj hy => ?_⟩
              by_cases hji : j < i
              · exact HI.out j y hji hy
              · obtain rfl : j = i := by omega
                rw [HX.out] at hy
                rw [← Option.some.inj hy]
                exact HY.out
            case measure => simp [intOf]; omega
          | false =>
            have HY := hid hin
            clear hin
            go_wp2_with fail
            refine (in_any x 0 1 _).mono ?_
            rintro e w' ⟨rfl, rfl⟩
            rw [HY.out]
            go_wp2_with fail
            go_ret
            refine ⟨?_, hb0⟩
            rw [HF.out, show (C.nonces.any fun n => !inR n 0 1) = true from List.any_eq_true.2 ⟨x, List.mem_of_getElem? HX.out, by rw [HY.out]; rfl⟩]
            rfl
        · have HA : Hid ((C.nonces.any fun n => !inR n 0 1) = false) := by
            show _ = false
            rw [List.any_eq_false]
            intro y hy
            obtain ⟨j, hj, rfl⟩ := List.getElem_of_mem hy
            rw [HI.out j _ (by omega) (List.getElem?_eq_getElem hj)]
            simp
          rw [HA.out] at HF
          clear HA HI
          go_wp2_with fail
          go_ret
          exact ⟨by rw [HF.out]; rfl, hb0⟩

end Go.Proofs.Ytaknndkaeelkbaa
