/- slices.Equal of ints, slices.EqualFunc of pages, and the test of two images, walked. Conditions: those that each contract writes.
An image of raw things is one that may be; two images that may be have the same text only if they are the same. No program is walked. -/
import Derived.Test.YtbamacddfonloaaDoorGd
import Derived.Test.YtbamacddfonloaaDoorGb
import Derived.Test.YtbamacddfonloaaDoorGq
import Derived.Test.YtbamacddfonloaaDoorGr
namespace Go.Proofs.YtbamacddfonloaaDoor
open Go.RowKit

theorem take_next {l m : List Int} {i : Nat} {x : Int} (h : l.take i = m.take i) (hx : l[i]? = some x) (hy : m[i]? = some x) : l.take (i + 1) = m.take (i + 1) := by
  rw [List.take_add_one, List.take_add_one, h, hx, hy]
set_option maxRecDepth 10000 in
set_option maxHeartbeats 800000 in
theorem equalInts (a b : Option Addr) (l m : List Int) (n k c d : Nat) (w : World) (hl : l.length = n) (hm : m.length = k) (hn : n ≤ 9223372036854775807) (hk : k ≤ 9223372036854775807) (ha : IntsAt w a l) (hb : IntsAt w b m) :
    Calls Tryd.prog 17 #[.slice a n c, .slice b k d] w fun e w' => e = .returned (.bool (decide (l = m))) ∧ Below w.heap.size w w' := by
  have HA := hid ha
  have HB := hid hb
  have HL := hid hl
  have HM := hid hm
  clear ha hb hl hm
  by_cases hnk : n = k
  rotate_left
  · have hnk2 : ((n : Int) != (k : Int)) = true := by rw [bne_iff_ne]; omega
    have HR : Hid (decide (l = m) = false) := decide_eq_false fun e => hnk (by rw [← HL.out, ← HM.out, e])
    go_enter Tryd.func17, Tryd.ntmps17
    go_wp2_with fail
    go_ret
    exact ⟨by rw [HR.out]; rfl, Below.refl _ _⟩
  subst hnk
  go_enter Tryd.func17, Tryd.ntmps17
  go_wp2_with fail
  go_loopw [13] (fun j W => ∃ i : Nat, i ≤ n ∧ j = .int .i64 i ∧ Hid (l.take i = m.take i) ∧ Below w.heap.size w W) (fun j _ => n - (intOf j).toNat)
  case atStart => exact ⟨0, by omega, rfl, rfl, Below.refl _ _⟩
  case round =>
    obtain ⟨i, hi, rfl, HI, hbw⟩ := hrel
    by_cases hlt : i < n
    · obtain ⟨x, hx⟩ : ∃ x, l[i]? = some x := ⟨_, List.getElem?_eq_getElem (by rw [HL.out]; exact hlt)⟩
      obtain ⟨y, hy⟩ : ∃ y, m[i]? = some y := ⟨_, List.getElem?_eq_getElem (by rw [HM.out]; exact hlt)⟩
      obtain ⟨b1, o1, rfl, k1⟩ := HA.out i x hx
      obtain ⟨b2, o2, rfl, k2⟩ := HB.out i y hy
      replace k1 := cell_later hbw k1
      replace k2 := cell_later hbw k2
      have HX := hid hx
      have HY := hid hy
      clear hx hy
      have hi0 : (0 : Int) ≤ (i : Int) := by omega
      have hi1 : (i : Int) < (n : Int) := by omega
      by_cases hxy : x = y
      · subst hxy
        go_wp2_with fail
        go_quiet (fail)
        go_wp2_with fail
        go_roundw
        case rel => exact ⟨i + 1, by omega, by go_num, take_next HI.out HX.out HY.out, below_drewN hbw _⟩
        case measure => simp [intOf]; omega
      · have hne : (x != y) = true := by rw [bne_iff_ne]; exact hxy
        have HR : Hid (decide (l = m) = false) := decide_eq_false fun e => hxy (by have := HX.out; rw [e, HY.out] at this; exact (Option.some.inj this).symm)
        clear hxy
        go_wp2_with fail
        go_quiet (fail)
        go_wp2_with fail
        go_ret
        exact ⟨by rw [HR.out]; rfl, below_drewN hbw _⟩
    · obtain rfl : i = n := by omega
      have HR : Hid (decide (l = m) = true) := decide_eq_true (by
        have := HI.out
        rwa [List.take_of_length_le (by rw [HL.out]; exact Nat.le_refl _), List.take_of_length_le (by rw [HM.out]; exact Nat.le_refl _)] at this)
      go_wp2_with fail
      go_ret
      exact ⟨by rw [HR.out]; rfl, hbw⟩

def sameP (x y : PageD) : Bool := decide (x.pl = y.pl) && (decide (x.rights = y.rights) && decide (x.words = y.words))
theorem sameP_iff (x y : PageD) : sameP x y = true ↔ x = y := by
  obtain ⟨a, b, c⟩ := x
  obtain ⟨d, e, f⟩ := y
  simp [sameP]
/-- Are two images the same? -/
def sameI (l m : List PageD) : Bool := decide (l.length = m.length) && (List.range l.length).all fun i => match l[i]?, m[i]? with
  | some x, some y => sameP x y
  | _, _ => false
theorem sameI_iff (l m : List PageD) : sameI l m = true ↔ l = m := by
  constructor
  · intro h
    simp only [sameI, Bool.and_eq_true, decide_eq_true_eq, List.all_eq_true, List.mem_range] at h
    refine List.ext_getElem? fun i => ?_
    by_cases hi : i < l.length
    · have := h.2 i hi
      rw [List.getElem?_eq_getElem hi, List.getElem?_eq_getElem (by omega)] at this ⊢
      rw [(sameP_iff _ _).1 this]
    · rw [List.getElem?_eq_none (by omega), List.getElem?_eq_none (by omega)]
  · rintro rfl
    simp only [sameI, decide_true, Bool.true_and, List.all_eq_true, List.mem_range]
    intro i hi
    rw [List.getElem?_eq_getElem hi]
    exact (sameP_iff _ _).2 rfl

theorem same_next {l m : List PageD} {i : Nat} {x y : PageD} (h : ∀ (j : Nat) a b, j < i → l[j]? = some a → m[j]? = some b → sameP a b = true) (hx : l[i]? = some x) (hy : m[i]? = some y) (hs : sameP x y = true) :
    ∀ (j : Nat) a b, j < i + 1 → l[j]? = some a → m[j]? = some b → sameP a b = true := fun j a b hj ha hb => by
  by_cases hji : j < i
  · exact h j a b hji ha hb
  · obtain rfl : j = i := by omega
    rw [hx] at ha
    rw [hy] at hb
    cases ha
    cases hb
    exact hs
end Go.Proofs.YtbamacddfonloaaDoor

namespace Go.Proofs.YtbamacddfonloaaDoor
open Go.RowKit

theorem imgF_seq {L : List PageD} : ∀ (k : Nat) (q : Option Int), (∀ (i : Nat) (x : PageD), L[i]? = some x → x.pl = ((k + i : Nat) : Int) ∧ PageOk x) → (q = none ∨ q = some ((k : Int) - 1)) → imgF q L = 0 := by
  induction L with
  | nil => intro k q _ _; rfl
  | cons p L ih =>
    intro k q h hq
    obtain ⟨h0, h1⟩ := h 0 p rfl
    have hg : prevGe q p.pl = false := by
      rcases hq with rfl | rfl
      · rfl
      · simp [prevGe]; omega
    rw [imgF, if_neg (by rw [show pageF p.pl p.rights p.words = 0 from h1]; simp), hg]
    simp only [Bool.false_eq_true, if_false]
    refine ih (k + 1) _ (fun i x hx => ?_) (.inr (by rw [h0]; congr 1; omega))
    obtain ⟨a, b⟩ := h (i + 1) x (by simpa using hx)
    exact ⟨by rw [a]; congr 1; omega, b⟩
theorem page_ok {x : PageD} (h0 : 0 ≤ x.pl ∧ x.pl ≤ 7) (h1 : 0 ≤ x.rights ∧ x.rights ≤ 7) (h2 : x.words.length = 8) (h3 : ∀ n ∈ x.words, 0 ≤ n ∧ n ≤ 65535) : PageOk x := by
  have hw : wordsB x.words = true := by
    simp only [wordsB, h2, decide_true, Bool.true_and, Bool.not_eq_true', List.any_eq_false]
    intro n hn
    have := h3 n hn
    simp [inR]
    omega
  show pageF _ _ _ = 0
  rw [pageF_ok (by simp [inR]; omega), hw]
  rfl
theorem rawI_in (x : RawD) : ∀ n ∈ rawI x, 0 ≤ n ∧ n ≤ 65535 := by
  have a0 := pickD_lo x.kind (many := 9) (by decide)
  have a1 := pickD_hi x.kind (many := 9) (by decide)
  have b0 := pickD_lo x.a (many := 4) (by decide)
  have b1 := pickD_hi x.a (many := 4) (by decide)
  have c0 := pickD_lo x.b (many := 4) (by decide)
  have c1 := pickD_hi x.b (many := 4) (by decide)
  have d0 := pickD_lo x.c (many := 8) (by decide)
  have d1 := pickD_hi x.c (many := 8) (by decide)
  have e0 := pickD_lo x.c (many := 40) (by decide)
  have e1 := pickD_hi x.c (many := 40) (by decide)
  have f0 := pickD_lo x.c (many := 16) (by decide)
  have f1 := pickD_hi x.c (many := 16) (by decide)
  have g0 := pickD_lo x.c (many := 70) (by decide)
  have g1 := pickD_hi x.c (many := 70) (by decide)
  intro n hn
  simp only [rawI, insD, opD, List.mem_cons, List.not_mem_nil, or_false] at hn
  rcases hn with rfl | rfl
  · omega
  · unfold argD
    split
    · omega
    · split
      · omega
      · split
        · omega
        · omega
theorem codeD_in (l : List RawD) : ∀ n ∈ codeD l, 0 ≤ n ∧ n ≤ 65535 := by
  intro n hn
  simp only [codeD, codeT, List.mem_append, List.mem_flatMap, List.mem_flatten, List.mem_replicate] at hn
  rcases hn with ⟨x, _, hx⟩ | ⟨y, ⟨_, rfl⟩, hy⟩
  · exact rawI_in x n hx
  · simp only [List.mem_cons, List.not_mem_nil, or_false] at hy
    omega
theorem morePage_ok (r : RawD) (k : Nat) (hk : k < 4) : PageOk (morePage r k) := by
  have a0 := pickD_lo r.c (many := 8) (by decide)
  have a1 := pickD_hi r.c (many := 8) (by decide)
  refine page_ok ⟨?_, ?_⟩ ?_ (wordsT_len r 8) ?_
  · show (0 : Int) ≤ (k : Int) + 2; omega
  · show (k : Int) + 2 ≤ 7; omega
  · show 0 ≤ (if k = 1 then pickD r.c 8 else 3) ∧ (if k = 1 then pickD r.c 8 else 3) ≤ 7
    split <;> omega
  · intro n hn
    obtain ⟨i, _, rfl⟩ := List.mem_map.1 (show n ∈ (List.range 8).map fun (i : Nat) => pickD (IntKind.i64.wrap (r.a + (i : Int) * 7)) 100 from hn)
    have b0 := pickD_lo (IntKind.i64.wrap (r.a + (i : Int) * 7)) (many := 100) (by decide)
    have b1 := pickD_hi (IntKind.i64.wrap (r.a + (i : Int) * 7)) (many := 100) (by decide)
    omega
theorem imageT_get {l : List RawD} {r : RawD} {k i : Nat} {x : PageD} (hk : k ≤ 4) (h : (imageT l r k)[i]? = some x) : x.pl = ((0 + i : Nat) : Int) ∧ PageOk x := by
  rcases i with _ | _ | i
  · obtain rfl : (⟨0, 5, (codeD l).take 8⟩ : PageD) = x := Option.some.inj h
    exact ⟨rfl, page_ok (show (0 : Int) ≤ 0 ∧ (0 : Int) ≤ 7 by decide) (show (0 : Int) ≤ 5 ∧ (5 : Int) ≤ 7 by decide) (by show (List.take 8 (codeD l)).length = 8; rw [List.length_take, codeD_len]; rfl) (fun n hn => codeD_in l n (List.mem_of_mem_take hn))⟩
  · obtain rfl : (⟨1, 5, (codeD l).drop 8⟩ : PageD) = x := Option.some.inj h
    exact ⟨rfl, page_ok (show (0 : Int) ≤ 1 ∧ (1 : Int) ≤ 7 by decide) (show (0 : Int) ≤ 5 ∧ (5 : Int) ≤ 7 by decide) (by show (List.drop 8 (codeD l)).length = 8; rw [List.length_drop, codeD_len]) (fun n hn => codeD_in l n (List.mem_of_mem_drop hn))⟩
  · have h2 : ((List.range k).map (morePage r))[i]? = some x := h
    rw [List.getElem?_map, Option.map_eq_some_iff] at h2
    obtain ⟨j, hj, rfl⟩ := h2
    rw [List.getElem?_range] at hj
    · obtain rfl := Option.some.inj hj
      have hi : i < k := by
        have : i < (imageT l r k).length - 2 := by have := (List.getElem?_eq_some_iff.1 h).1; omega
        rw [imageT_len] at this; omega
      exact ⟨by show (i : Int) + 2 = _; omega, morePage_ok r i (by omega)⟩
    · have := (List.getElem?_eq_some_iff.1 h).1
      rw [imageT_len] at this; omega
theorem imageD_get {l : List RawD} {r : RawD} {i : Nat} {x : PageD} (h : (imageD l r)[i]? = some x) : x.pl = ((0 + i : Nat) : Int) ∧ PageOk x := imageT_get (moreD_le r).2 h
theorem imageD_good (l : List RawD) (r : RawD) : imageF (imageD l r) = 0 := imgF_seq 0 none (fun _ _ h => imageD_get h) (.inl rfl)
theorem imageD_len (l : List RawD) (r : RawD) : 4 ≤ (imageD l r).length ∧ (imageD l r).length ≤ 6 := by
  have := moreD_le r
  rw [imageD, imageT_len]; omega
theorem good_fit {L : List PageD} (h : imageF L = 0) : PagesFit L := by
  have hl := imageF_len h
  refine ⟨by omega, fun i x hx => ?_⟩
  have := wordsB_len (pageF_zero (imgF_all h x (List.mem_of_getElem? hx))).2.2
  omega
theorem evsOf_inj : ∀ {l m : List PageD}, evsOf l = evsOf m → l = m := by
  intro l
  induction l with
  | nil =>
    intro m h
    cases m with
    | nil => rfl
    | cons y m => simp [evsOf] at h
  | cons x l ih =>
    intro m h
    cases m with
    | nil => simp [evsOf] at h
    | cons y m =>
      have e : ∀ (z : PageD) (k : List PageD), evsOf (z :: k) = .put z.pl z.rights :: .held z.pl z.words :: evsOf k := fun z k => rfl
      rw [e, e] at h
      injection h with h1 h2
      injection h2 with h2 h3
      injection h1 with a b
      injection h2 with _ c
      rw [ih h3]
      obtain ⟨x0, x1, x2⟩ := x
      obtain ⟨y0, y1, y2⟩ := y
      simp only at a b c
      rw [a, b, c]
theorem evsOf_ok {l : List PageD} (h : imageF l = 0) : ∀ x ∈ evsOf l, EvOk x := by
  intro x hx
  obtain ⟨p, hp, hx⟩ := List.mem_flatMap.1 hx
  obtain ⟨h1, h2, h3⟩ := pageF_zero (imgF_all h p hp)
  simp only [List.mem_cons, List.not_mem_nil, or_false] at hx
  rcases hx with rfl | rfl
  · exact ⟨h1.1, h2.1⟩
  · exact ⟨h1.1, fun n hn => (wordsB_in h3 n hn).1⟩
/-- Two images that may be are measured the same only if they are. -/
theorem expectL_iff {l m : List PageD} (hl : imageF l = 0) (hm : imageF m = 0) : expectL l = expectL m ↔ l = m := by
  constructor
  · intro h
    rw [expectL_evs, expectL_evs] at h
    exact evsOf_inj (evs_inj (evsOf_ok hl) (evsOf_ok hm) (List.append_cancel_left h))
  · rintro rfl; rfl
theorem expect_same {l m : List PageD} (hl : imageF l = 0) (hm : imageF m = 0) : ((bytesOf (expectL l)).toList == (bytesOf (expectL m)).toList) = sameI l m := by
  rw [Bool.eq_iff_iff, sameI_iff, beq_iff_eq, ← expectL_iff hl hm]
  constructor
  · intro h
    refine bytesOf_inj ?_
    rw [ByteArray.toList_eq, ByteArray.toList_eq] at h
    rw [← bytesOf_data (bytesOf (expectL l)), h, bytesOf_data]
  · intro h; rw [h]

end Go.Proofs.YtbamacddfonloaaDoor
