/- What epc.Put and epc.Measure answer, case by case; epc.log, walked.
What a page put, or measured, leaves a machine is one that fits the form's reach. Plain laws. -/
import Derived.Test.YtklbbjionoeofaaGreatDoorGi
import Derived.Test.YtklbbjionoeofaaGreatDoorGr
namespace Go.Proofs.YtklbbjionoeofaaGreatDoor
open Go.RowKit

theorem putD_no {M : MachD} {e f p r x : Int} (h : putF M e f p r = x) (hx : x ≠ 0) : putD M e f p r = (mach0, x) := by
  subst h
  rw [putD, if_pos hx]
theorem putF_1 {M : MachD} {e f p r : Int} (h : askF M e 1 ≠ 0) : putF M e f p r = askF M e 1 := by rw [putF, if_pos h]
theorem putF_2 {M : MachD} {e f p r : Int} (h : askF M e 1 = 0) (h2 : f < 0 ∨ 24 ≤ f) : putF M e f p r = 2 := by rw [putF, if_neg (by simp [h]), if_pos h2]
theorem putF_3 {M : MachD} {e f p r : Int} (h : askF M e 1 = 0) (h2 : ¬ (f < 0 ∨ 24 ≤ f)) (h3 : addF p r ≠ 0) : putF M e f p r = 2 := by rw [putF, if_neg (by simp [h]), if_neg h2, if_pos h3]
theorem putF_4 {M : MachD} {e p r : Int} {i : Nat} {x : FrameD} (h : askF M e 1 = 0) (h2 : ¬ ((i : Int) < 0 ∨ 24 ≤ (i : Int))) (h3 : addF p r = 0) (hx : M.frames[i]? = some x) (h4 : x.owner ≠ 0 ∨ 0 ≤ placeF M.frames e p) : putF M e i p r = 6 := by
  rw [putF, if_neg (by simp [h]), if_neg h2, if_neg (by simp [h3]), if_pos (by rw [show frameOf M i = x by simp [frameOf, hx]]; exact h4)]
theorem enclOf_at {M : MachD} {k : Nat} {y : EnclD} (hk : k < 4) (hy : M.encl[k]? = some y) : enclOf M ((k : Int) + 1) = some y := by
  rw [enclOf, if_pos (by omega), show ((k : Int) + 1 - 1).toNat = k by omega, hy]
theorem putF_5 {M : MachD} {p r : Int} {i k : Nat} {x : FrameD} {y : EnclD} (h : askF M ((k : Int) + 1) 1 = 0) (h2 : ¬ ((i : Int) < 0 ∨ 24 ≤ (i : Int))) (h3 : addF p r = 0) (hx : M.frames[i]? = some x) (h4 : ¬ (x.owner ≠ 0 ∨ 0 ≤ placeF M.frames ((k : Int) + 1) p)) (hk : k < 4) (hy : M.encl[k]? = some y) :
    putF M ((k : Int) + 1) i p r = if 1000 < y.log.size + (addedL p r).length then 7 else 0 := by
  rw [putF, if_neg (by simp [h]), if_neg h2, if_neg (by simp [h3]), if_neg (by rw [show frameOf M i = x by simp [frameOf, hx]]; exact h4), enclOf_at hk hy]
  rfl
theorem putD_yes {M : MachD} {p r : Int} {i k : Nat} {x : FrameD} {y : EnclD} (h : putF M ((k : Int) + 1) i p r = 0) (hx : M.frames[i]? = some x) (hy : M.encl[k]? = some y) :
    putD M ((k : Int) + 1) i p r = (⟨M.frames.set i (ownF ((k : Int) + 1) p r x), M.encl.set k (logE (addedL p r) y), M.quotes⟩, 0) := by
  rw [putD, if_neg (by simp [h]), show ((k : Int) + 1 - 1).toNat = k by omega, Int.toNat_natCast, upd_some hx, upd_some hy]
theorem measD_no {M : MachD} {e p x : Int} (h : measF M e p = x) (hx : x ≠ 0) : measD M e p = (mach0, x) := by
  subst h
  rw [measD, if_pos hx]
theorem measF_1 {M : MachD} {e p : Int} (h : askF M e 1 ≠ 0) : measF M e p = askF M e 1 := by rw [measF, if_pos h]
theorem measF_2 {M : MachD} {e p : Int} (h : askF M e 1 = 0) (h2 : placeF M.frames e p < 0) : measF M e p = 5 := by rw [measF, if_neg (by simp [h]), if_pos h2]
theorem measF_3 {M : MachD} {p : Int} {i k : Nat} {x : FrameD} {y : EnclD} (h : askF M ((k : Int) + 1) 1 = 0) (h2 : placeF M.frames ((k : Int) + 1) p = (i : Int)) (hx : M.frames[i]? = some x) (hk : k < 4) (hy : M.encl[k]? = some y) :
    measF M ((k : Int) + 1) p = if 1000 < y.log.size + (heldL p x.words).length then 7 else 0 := by
  rw [measF, if_neg (by simp [h]), if_neg (by omega), enclOf_at hk hy, heldOf, h2, show frameOf M i = x by simp [frameOf, hx]]
  rfl
theorem measD_yes {M : MachD} {p : Int} {i k : Nat} {x : FrameD} {y : EnclD} (h : measF M ((k : Int) + 1) p = 0) (h2 : placeF M.frames ((k : Int) + 1) p = (i : Int)) (hx : M.frames[i]? = some x) (hy : M.encl[k]? = some y) :
    measD M ((k : Int) + 1) p = (⟨M.frames, M.encl.set k (logE (heldL p x.words) y), M.quotes⟩, 0) := by
  rw [measD, if_neg (by simp [h]), show ((k : Int) + 1 - 1).toNat = k by omega, upd_some hy, heldOf, h2, show frameOf M i = x by simp [frameOf, hx]]
theorem logE_log (s : List UInt8) (y : EnclD) : (logE s y).cs = y.cs.set 1 (.string (y.log ++ bytesOf s)) := rfl
theorem encl_log {M : MachD} (hm : machF M = 0) {k : Nat} {y : EnclD} (hy : M.encl[k]? = some y) : y.log.size ≤ 1000 := by
  have h := machF_encl hm hy
  simp only [enclB, Bool.and_eq_true, Bool.not_eq_true', enclB.longB', decide_eq_false_iff_not] at h
  omega
theorem added_size {p r : Int} (h : addF p r = 0) : (bytesOf (addedL p r)).size ≤ 200000 := by
  have hh : (inR p 0 7 && inR r 0 7) = true := by
    cases hb : (inR p 0 7 && inR r 0 7) with
    | true => rfl
    | false => rw [addF, hb] at h; simp at h
  have h2 : (0 ≤ p ∧ p ≤ 7) ∧ (0 ≤ r ∧ r ≤ 7) := by simpa [inR] using hh
  have a := decDigits_len p.toNat
  have b := decDigits_len r.toNat
  rw [bytesOf_size]
  simp only [addedL, dec, List.length_append, List.length_cons, List.length_nil]
  omega

theorem Mach2.later {r : MachD × Int} {w W W' : World} {x : Ending} (h : Mach2 w.heap.size r w x W) (hb : Below W.heap.size W W') : Mach2 w.heap.size r w x W' := by
  obtain ⟨v, e, hv, hB⟩ := h
  exact ⟨v, e, hv.below hb, hB.trans (hb.mono hB.size)⟩

section
variable {w W : World} {b : Nat} {pv fv ev qv : Value} {F : List (FrameD × Value)} {E : List EnclD} {Q : List QuoteD}
theorem OpenM.ownA {g m c i : Nat} {x : FrameD} {wv : Value} (h : OpenM w (.slice (some ⟨g, 0, none⟩) m c) ev qv F E Q W) (hm : F.length = m) (hx : F[i]? = some (x, wv)) (e p r : Int) :
    OpenM w (.slice (some ⟨g, 0, none⟩) m c) ev qv (F.set i (ownF e p r x, wv)) E Q (((W.setCell ⟨g, i * 4, none⟩ (.int .i64 e)).setCell ⟨g, i * 4 + 1, none⟩ (.int .i64 p)).setCell ⟨g, i * 4 + 2, none⟩ (.int .i64 r)) := by
  have hi : i < F.length := (List.getElem?_eq_some_iff.1 hx).1
  have h1 := h.setF (j := 0) (x' := { x with owner := e }) (u := .int .i64 e) hm hx (by decide) rfl rfl
  have h2 := h1.setF (j := 1) (x' := { x with owner := e, pl := p }) (u := .int .i64 p) (by simpa using hm) (List.getElem?_set_self hi) (by decide) rfl rfl
  rw [List.set_set] at h2
  have h3 := h2.setF (j := 2) (x' := { x with owner := e, pl := p, rights := r }) (u := .int .i64 r) (by simpa using hm) (List.getElem?_set_self hi) (by decide) rfl rfl
  rw [List.set_set] at h3
  exact h3
theorem CopyInv.ownA {g m c i : Nat} {x : FrameD} {wv : Value} (h : CopyInv w b pv (.slice (some ⟨g, 0, none⟩) m c) ev qv F E Q W) (hm : F.length = m) (hx : F[i]? = some (x, wv)) (e p r : Int) :
    CopyInv w b pv (.slice (some ⟨g, 0, none⟩) m c) ev qv (F.set i (ownF e p r x, wv)) E Q (((W.setCell ⟨g, i * 4, none⟩ (.int .i64 e)).setCell ⟨g, i * 4 + 1, none⟩ (.int .i64 p)).setCell ⟨g, i * 4 + 2, none⟩ (.int .i64 r)) := by
  have hi : i < F.length := (List.getElem?_eq_some_iff.1 hx).1
  have h1 := h.setF (j := 0) (x' := { x with owner := e }) (u := .int .i64 e) hm hx (by decide) rfl rfl
  have h2 := h1.setF (j := 1) (x' := { x with owner := e, pl := p }) (u := .int .i64 p) (by simpa using hm) (List.getElem?_set_self hi) (by decide) rfl rfl
  rw [List.set_set] at h2
  have h3 := h2.setF (j := 2) (x' := { x with owner := e, pl := p, rights := r }) (u := .int .i64 r) (by simpa using hm) (List.getElem?_set_self hi) (by decide) rfl rfl
  rw [List.set_set] at h3
  exact h3
end
theorem place_held {M : MachD} {e p : Int} (hm : machF M = 0) (h : 0 ≤ placeF M.frames e p) : ∃ (i : Nat) (x : FrameD), placeF M.frames e p = i ∧ M.frames[i]? = some x ∧ x.words.length = 8 ∧ heldD p x.words = (heldL p x.words, 0) ∧ (bytesOf (heldL p x.words)).size ≤ 700000 := by
  obtain ⟨i, hi⟩ : ∃ i : Nat, placeF M.frames e p = i := ⟨(placeF M.frames e p).toNat, by omega⟩
  obtain ⟨x, hx, hp⟩ := findI_get hi
  have ho := machF_frame hm hx
  simp only [fitsB, Bool.and_eq_true, decide_eq_true_eq] at hp
  obtain ⟨_, rfl⟩ := hp
  have hpl := ho.pl
  refine ⟨i, x, hi, hx, ho.len, heldD_good (by rw [pageF_ok (by simp [inR]; omega), ho.w]; rfl), ?_⟩
  have a := dec_len ho.pl.1 (by omega)
  have b := flat_len_le (wordsB_in ho.w)
  have c := ho.len
  rw [bytesOf_size]
  simp only [heldL, List.length_append, List.length_cons, List.length_nil]
  omega

set_option maxHeartbeats 800000 in
theorem epcLog (g o : Nat) (L s : ByteArray) (w : World) (hc : w.cell? ⟨g, o + 1, none⟩ = some (.string L)) (hz : w.frozen? ⟨g, o + 1, none⟩ = false) (hL : L.size ≤ 1000) (hs : s.size ≤ 100000000) :
    Calls Tryz.prog 65 #[.pointer (some ⟨g, o, none⟩), .string s] w fun x w' => (1000 < L.size + s.size ∧ x = .returned (.int .i64 7) ∧ w' = w) ∨ (L.size + s.size ≤ 1000 ∧ x = .returned (.int .i64 0) ∧ w' = w.setCell ⟨g, o + 1, none⟩ (.string (L ++ s))) := by
  have hw : IntKind.i64.wrap ((L.size : Int) + (s.size : Int)) = (L.size : Int) + (s.size : Int) := by rw [IntKind.wrap_i64]; omega
  by_cases h : 1000 < L.size + s.size
  · have h2 : (1000 : Int) < (L.size : Int) + (s.size : Int) := by omega
    go_enter Tryz.func65, Tryz.ntmps65
    go_wp2_with fail
    go_ret
    first | exact .inl ⟨h, rfl, rfl⟩ | exact ⟨h, rfl, rfl⟩
  · have h2 : ¬ (1000 : Int) < (L.size : Int) + (s.size : Int) := by omega
    go_enter Tryz.func65, Tryz.ntmps65
    go_wp2_with fail
    go_ret
    first | exact .inr ⟨by omega, rfl, rfl⟩ | exact ⟨by omega, rfl, rfl⟩

end Go.Proofs.YtklbbjionoeofaaGreatDoor

namespace Go.Proofs.YtklbbjionoeofaaGreatDoor
open Go.RowKit

theorem putD_fits {M : MachD} (hf : M.Fits) (e f p r : Int) : (putD M e f p r).1.Fits := by
  unfold putD
  split
  · exact mach0_fits
  · refine fits_upd hf (upd_len _ _ _) (upd_len _ _ _) fun i x hx => ?_
    obtain ⟨y, hy, h | h⟩ := upd_get hx
    · rw [h]; exact hf.w i y hy
    · rw [h]; exact hf.w i y hy
theorem measD_fits {M : MachD} (hf : M.Fits) (e p : Int) : (measD M e p).1.Fits := by
  unfold measD
  split
  · exact mach0_fits
  · exact fits_upd hf rfl (upd_len _ _ _) hf.w

end Go.Proofs.YtklbbjionoeofaaGreatDoor
