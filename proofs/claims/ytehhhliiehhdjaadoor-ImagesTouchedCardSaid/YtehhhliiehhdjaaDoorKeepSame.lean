/- slices.Equal of ints, slices.EqualFunc of pages, and the test of two images, walked. Conditions: those that each contract writes. -/
import Derived.Test.YtehhhliiehhdjaaDoorAsk
import Derived.Test.YtehhhliiehhdjaaDoorImage2
namespace Go.Proofs.YtehhhliiehhdjaaDoor
open Go.RowKit

theorem take_next {l m : List Int} {i : Nat} {x : Int} (h : l.take i = m.take i) (hx : l[i]? = some x) (hy : m[i]? = some x) : l.take (i + 1) = m.take (i + 1) := by
  rw [List.take_add_one, List.take_add_one, h, hx, hy]
set_option maxRecDepth 10000 in
set_option maxHeartbeats 800000 in
theorem equalInts (a b : Option Addr) (l m : List Int) (n k c d : Nat) (w : World) (hl : l.length = n) (hm : m.length = k) (hn : n ≤ 9223372036854775807) (hk : k ≤ 9223372036854775807) (ha : IntsAt w a l) (hb : IntsAt w b m) :
    Calls Tryd.prog 42 #[.slice a n c, .slice b k d] w fun e w' => e = .returned (.bool (decide (l = m))) ∧ Below w.heap.size w w' := by
  have HA := hid ha
  have HB := hid hb
  have HL := hid hl
  have HM := hid hm
  clear ha hb hl hm
  by_cases hnk : n = k
  rotate_left
  · have hnk2 : ((n : Int) != (k : Int)) = true := by rw [bne_iff_ne]; omega
    have HR : Hid (decide (l = m) = false) := decide_eq_false fun e => hnk (by rw [← HL.out, ← HM.out, e])
    go_enter Tryd.func42, Tryd.ntmps42
    go_wp2_with fail
    go_ret
    exact ⟨by rw [HR.out]; rfl, Below.refl _ _⟩
  subst hnk
  go_enter Tryd.func42, Tryd.ntmps42
  go_wp2_with fail
  go_loopw [13] (fun j W => ∃ i : Nat, i ≤ n ∧ j = .int .i64 i ∧ Hid (l.take i = m.take i) ∧ Below w.heap.size w W) (fun j _ => n - (intOf j).toNat)
  case atStart => exact ⟨0, by omega, rfl, rfl, Below.refl _ _⟩
  case round =>
    obtain ⟨i, hi, rfl, HI, hbw⟩ := hrel
    by_cases hlt : i < n
    · obtain ⟨x, hx⟩ : ∃ x, l[i]? = some x := ⟨_, List.getElem?_eq_getElem (by rw [HL.out]; exact hlt)⟩
      obtain ⟨y, hy⟩ : ∃ y, m[i]? = some y := ⟨_, List.getElem?_eq_getElem (by rw [HM.out]; exact hlt)⟩
      obtain ⟨b1, o1, rfl, k1⟩ := HA.out i x hx
      obtain ⟨b2, o2, rfl, k2⟩ := HB.out i y hy
      replace k1 := cell_later hbw k1
      replace k2 := cell_later hbw k2
      have HX := hid hx
      have HY := hid hy
      clear hx hy
      have hi0 : (0 : Int) ≤ (i : Int) := by omega
      have hi1 : (i : Int) < (n : Int) := by omega
      by_cases hxy : x = y
      · subst hxy
        go_wp2_with fail
        go_quiet (fail)
        go_wp2_with fail
        go_roundw
        case rel => exact ⟨i + 1, by omega, by go_num, take_next HI.out HX.out HY.out, below_drewN hbw _⟩
        case measure => simp [intOf]; omega
      · have hne : (x != y) = true := by rw [bne_iff_ne]; exact hxy
        have HR : Hid (decide (l = m) = false) := decide_eq_false fun e => hxy (by have := HX.out; rw [e, HY.out] at this; exact (Option.some.inj this).symm)
        clear hxy
        go_wp2_with fail
        go_quiet (fail)
        go_wp2_with fail
        go_ret
        exact ⟨by rw [HR.out]; rfl, below_drewN hbw _⟩
    · obtain rfl : i = n := by omega
      have HR : Hid (decide (l = m) = true) := decide_eq_true (by
        have := HI.out
        rwa [List.take_of_length_le (by rw [HL.out]; exact Nat.le_refl _), List.take_of_length_le (by rw [HM.out]; exact Nat.le_refl _)] at this)
      go_wp2_with fail
      go_ret
      exact ⟨by rw [HR.out]; rfl, hbw⟩

def sameP (x y : PageD) : Bool := decide (x.pl = y.pl) && (decide (x.rights = y.rights) && decide (x.words = y.words))
theorem sameP_iff (x y : PageD) : sameP x y = true ↔ x = y := by
  obtain ⟨a, b, c⟩ := x
  obtain ⟨d, e, f⟩ := y
  simp [sameP]
/-- Are two images the same? -/
def sameI (l m : List PageD) : Bool := decide (l.length = m.length) && (List.range l.length).all fun i => match l[i]?, m[i]? with
  | some x, some y => sameP x y
  | _, _ => false
theorem sameI_iff (l m : List PageD) : sameI l m = true ↔ l = m := by
  constructor
  · intro h
    simp only [sameI, Bool.and_eq_true, decide_eq_true_eq, List.all_eq_true, List.mem_range] at h
    refine List.ext_getElem? fun i => ?_
    by_cases hi : i < l.length
    · have := h.2 i hi
      rw [List.getElem?_eq_getElem hi, List.getElem?_eq_getElem (by omega)] at this ⊢
      rw [(sameP_iff _ _).1 this]
    · rw [List.getElem?_eq_none (by omega), List.getElem?_eq_none (by omega)]
  · rintro rfl
    simp only [sameI, decide_true, Bool.true_and, List.all_eq_true, List.mem_range]
    intro i hi
    rw [List.getElem?_eq_getElem hi]
    exact (sameP_iff _ _).2 rfl

set_option maxRecDepth 10000 in
set_option maxHeartbeats 800000 in
theorem same1 (x y : PageD) (a b : Option Addr) (n k c d : Nat) (w : World) (hl : x.words.length = n) (hm : y.words.length = k) (hn : n ≤ 9223372036854775807) (hk : k ≤ 9223372036854775807) (ha : IntsAt w a x.words) (hb : IntsAt w b y.words) :
    Calls Tryd.prog 41 #[.agg #[.int .i64 x.pl, .int .i64 x.rights, .slice a n c], .agg #[.int .i64 y.pl, .int .i64 y.rights, .slice b k d]] w fun e w' => e = .returned (.bool (sameP x y)) ∧ Below w.heap.size w w' := by
  have HA := hid ha
  have HB := hid hb
  clear ha hb
  by_cases h1 : x.pl = y.pl
  rotate_left
  · have h1b : (x.pl == y.pl) = false := by rw [beq_eq_false_iff_ne]; exact h1
    have HR : Hid (sameP x y = false) := by show _ = _; simp [sameP, h1]
    clear h1
    go_enter Tryd.func41, Tryd.ntmps41
    go_wp2_with fail
    go_ret
    exact ⟨by rw [HR.out]; rfl, by go_grown⟩
  have h1b : (x.pl == y.pl) = true := by rw [beq_iff_eq]; exact h1
  by_cases h2 : x.rights = y.rights
  rotate_left
  · have h2b : (x.rights == y.rights) = false := by rw [beq_eq_false_iff_ne]; exact h2
    have HR : Hid (sameP x y = false) := by show _ = _; simp [sameP, h2]
    clear h1 h2
    go_enter Tryd.func41, Tryd.ntmps41
    go_wp2_with fail
    go_ret
    exact ⟨by rw [HR.out]; rfl, by go_grown⟩
  have h2b : (x.rights == y.rights) = true := by rw [beq_iff_eq]; exact h2
  have HR : Hid (sameP x y = decide (x.words = y.words)) := by show _ = _; simp [sameP, h1, h2]
  clear h1 h2
  go_enter Tryd.func41, Tryd.ntmps41
  go_wp2_with fail
  refine (equalInts a b x.words y.words n k c d _ hl hm hn hk (HA.out.mono (by go_grown)) (HB.out.mono (by go_grown))).mono ?_
  rintro e w1 ⟨rfl, hb1⟩
  rw [← HR.out]
  dsimp only
  go_wp2_with fail
  go_ret
  exact ⟨rfl, Below.trans (by go_grown) (hb1.mono (by go_size))⟩

theorem enters_same1 : ∀ args w, (callFunc 41 args).run Tryd.prog w = .ok (.enter 41 args) w := enters_of Tryd.func41 (by kernel_rfl) rfl
theorem same_next {l m : List PageD} {i : Nat} {x y : PageD} (h : ∀ (j : Nat) a b, j < i → l[j]? = some a → m[j]? = some b → sameP a b = true) (hx : l[i]? = some x) (hy : m[i]? = some y) (hs : sameP x y = true) :
    ∀ (j : Nat) a b, j < i + 1 → l[j]? = some a → m[j]? = some b → sameP a b = true := fun j a b hj ha hb => by
  by_cases hji : j < i
  · exact h j a b hji ha hb
  · obtain rfl : j = i := by omega
    rw [hx] at ha
    rw [hy] at hb
    cases ha
    cases hb
    exact hs
set_option maxRecDepth 10000 in
set_option maxHeartbeats 800000 in
theorem equalPages (a b : Option Addr) (l m : List PageD) (n k c d : Nat) (w : World) (hl : l.length = n) (hm : m.length = k) (hf : PagesFit l) (hg : PagesFit m) (ha : PagesAt w a l) (hb : PagesAt w b m) :
    Calls Tryd.prog 40 #[.slice a n c, .slice b k d, .func (.func 41) #[] #[]] w fun e w' => e = .returned (.bool (sameI l m)) ∧ Below w.heap.size w w' := by
  have hn : n * 40 ≤ 140737488351232 := by rw [← hl]; exact hf.n
  have hk : k * 40 ≤ 140737488351232 := by rw [← hm]; exact hg.n
  have HA := hid ha
  have HB := hid hb
  have HL := hid hl
  have HM := hid hm
  have HFL := hid hf.w
  have HGM := hid hg.w
  have eg := enters_same1
  clear ha hb hl hm hf hg
  by_cases hnk : n = k
  rotate_left
  · have hnk2 : ((n : Int) != (k : Int)) = true := by rw [bne_iff_ne]; omega
    have HR : Hid (sameI l m = false) := by
      show _ = _
      cases h : sameI l m with
      | false => rfl
      | true => exact absurd (by rw [← HL.out, ← HM.out, (sameI_iff _ _).1 h]) hnk
    go_enter Tryd.func40, Tryd.ntmps40
    go_wp2_with fail
    go_ret
    exact ⟨by rw [HR.out]; rfl, Below.refl _ _⟩
  subst hnk
  go_enter Tryd.func40, Tryd.ntmps40
  go_wp2_with fail
  go_loopw [17] (fun j W => ∃ i : Nat, i ≤ n ∧ j = .int .i64 i ∧ Hid (∀ (j : Nat) x y, j < i → l[j]? = some x → m[j]? = some y → sameP x y = true) ∧ Below w.heap.size w W) (fun j _ => n - (intOf j).toNat)
  case atStart => exact ⟨0, by omega, rfl, fun _ _ _ h => by omega, Below.refl _ _⟩
  case round =>
    obtain ⟨i, hi, rfl, HI, hbw⟩ := hrel
    by_cases hlt : i < n
    · obtain ⟨x, hx⟩ : ∃ x, l[i]? = some x := ⟨_, List.getElem?_eq_getElem (by rw [HL.out]; exact hlt)⟩
      obtain ⟨y, hy⟩ : ∃ y, m[i]? = some y := ⟨_, List.getElem?_eq_getElem (by rw [HM.out]; exact hlt)⟩
      obtain ⟨b1, o1, wa, wc, rfl, k0, k1, k2, kI⟩ := HA.out i x hx
      obtain ⟨b2, o2, va, vc, rfl, j0, j1, j2, jI⟩ := HB.out i y hy
      replace k0 := cell_later hbw k0
      replace k1 := cell_later hbw k1
      replace k2 := cell_later hbw k2
      replace j0 := cell_later hbw j0
      replace j1 := cell_later hbw j1
      replace j2 := cell_later hbw j2
      have zb1 : b1 < wr.heap.size := World.block_lt_of_cell? _ _ k0
      have zb2 : b2 < wr.heap.size := World.block_lt_of_cell? _ _ j0
      have hxw := HFL.out i x hx
      have hyw := HGM.out i y hy
      have HX := hid hx
      have HY := hid hy
      have HKI := hid kI
      have HJI := hid jI
      have HBW := hid hbw
      clear hx hy kI jI hbw
      have hi0 : (0 : Int) ≤ (i : Int) := by omega
      have hi1 : (i : Int) < (n : Int) := by omega
      obtain ⟨s, hs⟩ : ∃ s, sameP x y = s := ⟨_, rfl⟩
      have HS := hid hs
      clear hs
      go_wp2_with fail
      refine (same1 x y wa va x.words.length y.words.length wc vc _ rfl rfl (by omega) (by omega) (HKI.out.mono (HBW.out.trans (Below.mono (by go_grown) HBW.out.size))) (HJI.out.mono (HBW.out.trans (Below.mono (by go_grown) HBW.out.size)))).mono ?_
      rintro e w1 ⟨rfl, hb1⟩
      have HB1 : Hid (Below w.heap.size w w1) := HBW.out.trans (Below.mono (Below.trans (by go_grown) (hb1.mono (by go_size))) HBW.out.size)
      clear hb1
      rw [HS.out]
      cases s with
      | true =>
        go_wp2_with fail
        go_roundw
        case rel => exact ⟨i + 1, by omega, by go_num, same_next HI.out HX.out HY.out HS.out, HB1.out⟩
        case measure => simp [intOf]; omega
      | false =>
        have HR : Hid (sameI l m = false) := by
          show _ = _
          cases h : sameI l m with
          | false => rfl
          | true =>
            have e := (sameI_iff _ _).1 h
            have h1 := HX.out
            rw [e, HY.out] at h1
            have h2 := HS.out
            rw [(Option.some.inj h1), (sameP_iff _ _).2 rfl] at h2
            cases h2
        go_wp2_with fail
        go_ret
        exact ⟨by rw [HR.out]; rfl, HB1.out⟩
    · obtain rfl : i = n := by omega
      have HR : Hid (sameI l m = true) := by
        show _ = _
        simp only [sameI, Bool.and_eq_true, decide_eq_true_eq, List.all_eq_true, List.mem_range]
        refine ⟨by rw [HL.out, HM.out], fun j hj => ?_⟩
        rw [List.getElem?_eq_getElem hj, List.getElem?_eq_getElem (by rw [HM.out, ← HL.out]; exact hj)]
        exact HI.out j _ _ (by rw [← HL.out]; exact hj) (List.getElem?_eq_getElem hj) (List.getElem?_eq_getElem _)
      go_wp2_with fail
      go_ret
      exact ⟨by rw [HR.out]; rfl, hbw⟩
set_option maxHeartbeats 800000 in
theorem keepSame (a b : Option Addr) (l m : List PageD) (n k c d : Nat) (w : World) (hl : l.length = n) (hm : m.length = k) (hf : PagesFit l) (hg : PagesFit m) (ha : PagesAt w a l) (hb : PagesAt w b m) :
    Calls Tryd.prog 19 #[.slice a n c, .slice b k d] w fun e w' => e = .returned (.bool (sameI l m)) ∧ Below w.heap.size w w' := by
  have HA := hid ha
  have HB := hid hb
  have HL := hid hl
  have HM := hid hm
  clear ha hb hl hm
  go_enter Tryd.func19, Tryd.ntmps19
  go_wp2_with fail
  refine (equalPages a b l m n k c d _ HL.out HM.out hf hg HA.out HB.out).mono ?_
  rintro e w1 ⟨rfl, hb1⟩
  dsimp only
  go_wp2_with fail
  go_ret
  exact ⟨rfl, hb1⟩

end Go.Proofs.YtehhhliiehhdjaaDoor
