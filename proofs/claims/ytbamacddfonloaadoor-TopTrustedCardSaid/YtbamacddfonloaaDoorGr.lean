/- image.Opened, walked: the opening text. No condition.
image.Expect and its reference, walked. Conditions: the library's table reads as it is laid; the image fits the form's own reach. -/
import Derived.Test.YtbamacddfonloaaDoorGb
import Derived.Test.YtbamacddfonloaaDoorHeld
import Derived.Deep.RegionHeld3
namespace Go.Proofs.YtbamacddfonloaaDoor
open Go.RowKit

theorem imageOpened2 (w : World) : Calls Tryd.prog 54 #[] w fun e w' => e = .returned (.string (bytesOf openL)) ∧ w = w' := by
  go_enter Tryd.func54, Tryd.ntmps54
  go_wp2_with fail
  go_ret
  exact ⟨rfl, rfl⟩

end Go.Proofs.YtbamacddfonloaaDoor

namespace Go.Proofs.YtbamacddfonloaaDoor
open Go.RowKit

def expectD (l : List PageD) : List UInt8 × Int := if imageF l ≠ 0 then ([], imageF l) else (expectL l, 0)
theorem expectD_bad {l : List PageD} {e : Int} (h : imageF l = e) (he : e ≠ 0) : expectD l = ([], e) := by
  subst h
  rw [expectD, if_pos he]
theorem expectD_good {l : List PageD} (h : imageF l = 0) : expectD l = (expectL l, 0) := by rw [expectD, if_neg (by simp [h])]
theorem imgF_all {l : List PageD} : ∀ {q : Option Int}, imgF q l = 0 → ∀ x ∈ l, pageF x.pl x.rights x.words = 0 := by
  induction l with
  | nil => intro q _ x hx; cases hx
  | cons p l ih =>
    intro q h x hx
    rw [imgF] at h
    by_cases h1 : pageF p.pl p.rights p.words = 0
    · rw [if_neg (by simp [h1])] at h
      cases h2 : prevGe q p.pl with
      | true => rw [h2] at h; simp at h
      | false =>
        rw [h2] at h
        rcases List.mem_cons.1 hx with rfl | hx
        · exact h1
        · exact ih (by simpa using h) x hx
    · rw [if_pos h1] at h; exact absurd h h1
theorem imgF_len {l : List PageD} : ∀ {q : Int}, imgF (some q) l = 0 → 0 ≤ q → q ≤ 7 → (l.length : Int) ≤ 7 - q := by
  induction l with
  | nil => intro q _ _ h; simp; omega
  | cons p l ih =>
    intro q h h0 h7
    have hp := imgF_all h p (List.mem_cons_self ..)
    obtain ⟨hp1, _, _⟩ := pageF_zero hp
    rw [imgF, if_neg (by simp [hp])] at h
    cases h2 : prevGe (some q) p.pl with
    | true => rw [h2] at h; simp at h
    | false =>
      rw [h2] at h
      have h3 : q < p.pl := by simpa [prevGe] using h2
      have := ih (by simpa using h) hp1.1 hp1.2
      simp only [List.length_cons]
      omega
theorem imageF_len {l : List PageD} (h : imageF l = 0) : l.length ≤ 8 := by
  cases l with
  | nil => simp
  | cons p l =>
    have hp := imgF_all h p (List.mem_cons_self ..)
    obtain ⟨hp1, _, _⟩ := pageF_zero hp
    rw [imageF, imgF, if_neg (by simp [hp])] at h
    have := imgF_len (l := l) (by simpa [prevGe] using h) hp1.1 hp1.2
    simp only [List.length_cons]
    omega
def pageL (p : PageD) : List UInt8 := addedL p.pl p.rights ++ heldL p.pl p.words
def PageOk (x : PageD) : Prop := pageF x.pl x.rights x.words = 0
theorem PageOk.add {x : PageD} (h : PageOk x) : addD x.pl x.rights = (addedL x.pl x.rights, 0) := by
  obtain ⟨h1, h2, _⟩ := pageF_zero h
  exact addF_good (by simp [inR]; omega)
theorem PageOk.held {x : PageD} (h : PageOk x) : heldD x.pl x.words = (heldL x.pl x.words, 0) := by
  obtain ⟨h1, _, h3⟩ := pageF_zero h
  exact heldD_good (by rw [pageF_ok (by simp [inR]; omega), h3]; rfl)
theorem PageOk.size1 {x : PageD} (h : PageOk x) : (bytesOf (addedL x.pl x.rights)).size ≤ 200000 := by
  obtain ⟨h1, h2, _⟩ := pageF_zero h
  have := dec_len h1.1 (by omega)
  have := dec_len h2.1 (by omega)
  rw [bytesOf_size]
  simp only [addedL, List.length_append, List.length_cons, List.length_nil]
  omega
theorem PageOk.size2 {x : PageD} (h : PageOk x) : (bytesOf (heldL x.pl x.words)).size ≤ 700000 := by
  obtain ⟨h1, _, h3⟩ := pageF_zero h
  have := dec_len h1.1 (by omega)
  have := flat_len_le (wordsB_in h3)
  have := wordsB_len h3
  rw [bytesOf_size]
  simp only [heldL, List.length_append, List.length_cons, List.length_nil]
  omega
def expT (l : List PageD) (i : Nat) : List UInt8 := openL ++ (l.take i).flatMap pageL
theorem expT_size {l : List PageD} (h : ∀ x ∈ l, PageOk x) (i : Nat) : (bytesOf (expT l i)).size ≤ 5 + i * 900000 := by
  rw [bytesOf_size]
  induction i with
  | zero => simp [expT, openL]
  | succ i ih =>
    rw [expT, List.take_add_one, List.flatMap_append, ← List.append_assoc, List.length_append]
    have h2 : ((l[i]?).toList.flatMap pageL).length ≤ 900000 := by
      cases hx : l[i]? with
      | none => simp
      | some x =>
        have hk := h x (List.mem_of_getElem? hx)
        have h1 := hk.size1
        have h2 := hk.size2
        rw [bytesOf_size] at h1 h2
        simp [pageL]
        omega
    have : (openL ++ (l.take i).flatMap pageL).length ≤ 5 + i * 900000 := ih
    omega
theorem expT_step {l : List PageD} {i : Nat} {x : PageD} (hx : l[i]? = some x) : bytesOf (expT l i) ++ (bytesOf (addedL x.pl x.rights) ++ bytesOf (heldL x.pl x.words)) = bytesOf (expT l (i + 1)) := by
  rw [bytesOf_append, bytesOf_append, expT, expT, List.take_add_one, hx]
  simp [pageL]
theorem expT_step2 {l : List PageD} {i : Nat} {x : PageD} (hx : l[i]? = some x) : (bytesOf (expT l i) ++ bytesOf (addedL x.pl x.rights)) ++ bytesOf (heldL x.pl x.words) = bytesOf (expT l (i + 1)) := by
  rw [bytesOf_append, bytesOf_append, expT, expT, List.take_add_one, hx]
  simp [pageL]
theorem expT_last {l : List PageD} {n : Nat} (h : l.length = n) : expT l n = expectL l := by
  rw [expT, List.take_of_length_le (by omega)]
  rfl

set_option maxRecDepth 10000 in
set_option maxHeartbeats 1600000 in
theorem imageExpect (a : Option Addr) (l : List PageD) (n cap : Nat) (w : World) (hl : l.length = n) (hf : PagesFit l) (hc : PagesAt w a l) (hT : Tab w) :
    Calls Tryd.prog 28 #[.slice a n cap] w (Text2 w.heap.size (expectD l) w) := by
  have HC := hid hc
  have HL := hid hl
  have HF := hid hf
  clear hc hl hf
  go_enter Tryd.func28, Tryd.ntmps28
  go_wp2_with fail
  refine (imageCheck a l n cap _ HL.out HF.out HC.out).mono ?_
  rintro x w1 ⟨rfl, hb1⟩
  obtain ⟨e, he⟩ : ∃ e, imageF l = e := ⟨_, rfl⟩
  rw [he]
  by_cases h0 : e = 0
  rotate_left
  · have HD := hid (expectD_bad he h0)
    have h0b : (e != 0) = true := by rw [bne_iff_ne]; exact h0
    clear he h0
    dsimp only
    go_wp2_with fail
    go_ret2
    exact Text2.mk HD.out rfl hb1
  subst h0
  have HD := hid (expectD_good he)
  have hn8 : n ≤ 8 := by have := imageF_len he; rw [HL.out] at this; exact this
  have HA := hid (show ∀ x ∈ l, PageOk x from imgF_all he)
  have HB1 := hid hb1
  clear he hb1
  dsimp only
  go_wp2_with (go_at_call 54; refine (imageOpened2 _).mono ?_; rintro x w' ⟨rfl, rfl⟩)
  go_loopw [5, 20] (fun s j W => ∃ i : Nat, s = .string (bytesOf (expT l i)) ∧ i ≤ n ∧ j = .int .i64 i ∧ Below w1.heap.size w1 W) (fun _ j _ => n - (intOf j).toNat)
  case atStart => exact ⟨0, congrArg Value.string (by simp [expT, openL, bytesOf]), by omega, rfl, Below.refl _ _⟩
  case round =>
    obtain ⟨i, rfl, hi, rfl, hbr⟩ := hrel
    by_cases hlt : i < n
    · obtain ⟨x, hx⟩ : ∃ x, l[i]? = some x := ⟨_, List.getElem?_eq_getElem (by rw [HL.out]; exact hlt)⟩
      have hok := HA.out x (List.mem_of_getElem? hx)
      have hs0 : (bytesOf (expT l i)).size ≤ 10000000 := by have := expT_size HA.out i; omega
      have hs1 := hok.size1
      have hs2 := hok.size2
      obtain ⟨bx, ox, wa, wc, rfl, k0, k1, k2, k3⟩ := HC.out i _ hx
      have BW : Below w.heap.size w wr := HB1.out.trans (hbr.mono HB1.out.size)
      replace k0 := cell_later BW k0
      replace k1 := cell_later BW k1
      replace k2 := cell_later BW k2
      have HK := hid (k3.mono BW)
      have HOK := hid hok
      have HS := hid (expT_step hx)
      have hwl : x.words.length ≤ 9223372036854775807 := by have := HF.out.w i x hx; omega
      have HBR := hid hbr
      have HTW := hid (hT.mono BW)
      have hwi : IntKind.i64.wrap ((i : Int) + 1) = (i : Int) + 1 := by rw [IntKind.wrap_i64]; omega
      clear hx hbr hok k3 BW
      go_wp2_with fail
      refine (imageAdded x.pl x.rights _ (HTW.out.mono (by go_grown))).mono ?_
      rintro y w2 ⟨rfl, hb2⟩
      have q0 : w2.cell? ⟨wr.heap.size, 0, none⟩ = some (.int .i64 x.pl) := by rw [(bcell hb2).1 _ _ (by go_size)]; go_simp
      have q1 : w2.cell? ⟨wr.heap.size, 2, none⟩ = some (.slice wa x.words.length wc) := by rw [(bcell hb2).1 _ _ (by go_size)]; go_simp
      have B2 : Below wr.heap.size wr w2 := Below.trans (by go_grown) (hb2.mono (by go_size))
      have HB2 := hid B2
      rw [HOK.out.add]
      clear hb2 B2 k0 k1 k2
      dsimp only
      go_wp2_with fail
      refine (imageHeld x.pl wa x.words _ wc _ rfl hwl (HK.out.mono HB2.out) (HTW.out.mono HB2.out)).mono ?_
      rintro y w3 ⟨rfl, hb3⟩
      have HB3 := hid (HBR.out.trans ((HB2.out.trans (hb3.mono HB2.out.size)).mono HBR.out.size))
      rw [HOK.out.held]
      clear hb3
      dsimp only
      go_wp2_with fail
      go_roundw
      case rel => exact ⟨i + 1, congrArg Value.string HS.out, by omega, by go_num, HB3.out⟩
      case measure => simp [intOf]; omega
    · obtain rfl : i = n := by omega
      have HS := hid (expT_last HL.out)
      go_wp2_with fail
      go_ret2
      exact Text2.mk HD.out (by rw [HS.out]) (HB1.out.trans (hbr.mono HB1.out.size))

end Go.Proofs.YtbamacddfonloaaDoor
