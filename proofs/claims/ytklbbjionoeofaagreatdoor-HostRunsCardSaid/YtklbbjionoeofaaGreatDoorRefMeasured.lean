/- ref.MeasuredOf, walked. Condition: what fits the form's own reach. -/
import Derived.Test.YtklbbjionoeofaaGreatDoorGo
import Derived.Test.YtklbbjionoeofaaGreatDoorRefMachCopy
import Derived.Test.YtklbbjionoeofaaGreatDoorGl
import Derived.Test.YtklbbjionoeofaaGreatDoorGh
namespace Go.Proofs.YtklbbjionoeofaaGreatDoor
open Go.RowKit

set_option maxRecDepth 10000 in
set_option maxHeartbeats 3200000 in
theorem refMeasuredOf (v : Value) (M : MachD) (e p : Int) (w : World) (hv : MachAt w v M) (hf : M.Fits) : Calls Tryz.prog 17 #[v, .int .i64 e, .int .i64 p] w (Mach2 w.heap.size (measD M e p) w) := by
  have HV := hid hv
  obtain ⟨fa, fc, ea, ec, qa, qc, rfl, hFr, hE, _, _⟩ := hv
  have HFr := hid hFr
  have HE := hid hE
  clear hFr hE
  have B0 : ∀ X Y, Below w.heap.size w ((w.alloc X).alloc Y) := fun X Y => by go_grown
  go_enter Tryz.func17, Tryz.ntmps17
  go_wp2_with fail
  refine (refAsk _ M e 1 _ (HV.out.mono (B0 _ _)) hf).mono ?_
  rintro x w1 ⟨rfl, hb1⟩
  have p0 : w1.cell? ⟨w.heap.size, 0, none⟩ = some (.slice fa M.frames.length fc) := by rw [(bcell hb1).1 _ _ (by go_size)]; go_simp
  have p1 : w1.cell? ⟨w.heap.size, 1, none⟩ = some (.slice ea M.encl.length ec) := by rw [(bcell hb1).1 _ _ (by go_size)]; go_simp
  have p2 : w1.cell? ⟨w.heap.size, 2, none⟩ = some (.slice qa M.quotes.length qc) := by rw [(bcell hb1).1 _ _ (by go_size)]; go_simp
  have p3 : ∀ o, w1.frozen? ⟨w.heap.size, o, none⟩ = false := fun o => by rw [(bcell hb1).2 _ _ (by go_size)]; go_simp
  have r0 : w1.cell? ⟨w.heap.size + 1, 0, none⟩ = some (.slice none 0 0) := by rw [(bcell hb1).1 _ _ (by go_size)]; go_simp
  have r1 : w1.cell? ⟨w.heap.size + 1, 1, none⟩ = some (.slice none 0 0) := by rw [(bcell hb1).1 _ _ (by go_size)]; go_simp
  have r2 : w1.cell? ⟨w.heap.size + 1, 2, none⟩ = some (.slice none 0 0) := by rw [(bcell hb1).1 _ _ (by go_size)]; go_simp
  have r3 : ∀ o, w1.frozen? ⟨w.heap.size + 1, o, none⟩ = false := fun o => by rw [(bcell hb1).2 _ _ (by go_size)]; go_simp
  have z1 : w.heap.size + 1 < w1.heap.size := by have := hb1.size; simp at this; omega
  have B1 : Below w.heap.size w w1 := (B0 _ _).trans (hb1.mono (by go_size))
  clear hb1
  have HFit := hid hf
  by_cases h0 : askF M e 1 = 0
  rotate_left
  · have HD : Hid (measD M e p = (mach0, askF M e 1)) := measD_no (measF_1 h0) h0
    have hE1 : (askF M e 1 != 0) = true := by rw [bne_iff_ne]; exact h0
    have hE2 : (askF M e 1 == 0) = false := by rw [beq_eq_false_iff_ne]; exact h0
    generalize askF M e 1 = E at HD hE1 hE2 h0 ⊢
    clear h0
    go_wp2_with fail
    refine (refPlace fa M.frames _ fc _ _ e p _ rfl (by have := HFit.out.f; omega) (HFr.out.mono B1)).mono ?_
    rintro z w2 ⟨rfl, hb2⟩
    replace p0 := cell_later hb2 p0
    replace p1 := cell_later hb2 p1
    replace p2 := cell_later hb2 p2
    replace p3 : ∀ o, w2.frozen? ⟨w.heap.size, o, none⟩ = false := fun o => by rw [(bcell hb2).2 _ _ (by omega)]; exact p3 o
    replace r0 := cell_later hb2 r0
    replace r1 := cell_later hb2 r1
    replace r2 := cell_later hb2 r2
    replace r3 : ∀ o, w2.frozen? ⟨w.heap.size + 1, o, none⟩ = false := fun o => by rw [(bcell hb2).2 _ _ (by omega)]; exact r3 o
    have B2 := B1.trans (hb2.mono B1.size)
    replace z1 : w.heap.size + 1 < w2.heap.size := by have := hb2.size; omega
    clear B1
    have B1 := B2
    clear B2
    clear hb2 w1
    generalize placeF M.frames e p = P
    go_wp2_with (go_at_call 25; refine (in_any _ _ _ _).mono ?_; rintro e w' ⟨rfl, rfl⟩)
    refine bodyPost_ret (v := .tuple #[.agg #[.slice none 0 0, .slice none 0 0, .slice none 0 0], .int .i64 E]) (by simp [results, Tryz.results17, go_sem, r0, r1, r2]) rfl (Mach2.mk HD.out mach0_from ?_)
    exact below_low3 B1 (by omega) _ _ _
  obtain ⟨hm0, k, y, rfl, hk4, hx, _, _⟩ := askF_zero h0
  rw [h0]
  have HS := hid (machF_sizes hm0)
  have hy1 := encl_log hm0 hx
  have HX := hid hx
  have H0 := hid h0
  have HM := hid hm0
  clear h0 hm0 hx
  have e24 : M.frames.length = 24 := HS.out.1
  have e4 : M.encl.length = 4 := HS.out.2.1
  have HL := hid e24
  have HL4 := hid e4
  have hk1 : (k : Int) < 4 := by omega
  have hk0 : (0 : Int) ≤ (k : Int) := by omega
  rw [e24] at p0
  rw [e4] at p1
  clear e24 e4
  go_wp2_with fail
  refine (refPlace fa M.frames 24 fc _ _ ((k : Int) + 1) p _ HL.out (by omega) (HFr.out.mono B1)).mono ?_
  rintro z w2 ⟨rfl, hb2⟩
  replace p0 := cell_later hb2 p0
  replace p1 := cell_later hb2 p1
  replace p2 := cell_later hb2 p2
  replace p3 : ∀ o, w2.frozen? ⟨w.heap.size, o, none⟩ = false := fun o => by rw [(bcell hb2).2 _ _ (by omega)]; exact p3 o
  replace r0 := cell_later hb2 r0
  replace r1 := cell_later hb2 r1
  replace r2 := cell_later hb2 r2
  replace r3 : ∀ o, w2.frozen? ⟨w.heap.size + 1, o, none⟩ = false := fun o => by rw [(bcell hb2).2 _ _ (by omega)]; exact r3 o
  have B2 := B1.trans (hb2.mono B1.size)
  replace z1 : w.heap.size + 1 < w2.heap.size := by have := hb2.size; omega
  clear B1
  have B1 := B2
  clear B2
  clear hb2 w1
  by_cases h5 : placeF M.frames ((k : Int) + 1) p < 0
  · have HD := hid (measD_no (measF_2 H0.out h5) (by decide))
    generalize placeF M.frames ((k : Int) + 1) p = P at h5
    go_wp2_with (go_at_call 25; refine (in_any _ _ _ _).mono ?_; rintro e w' ⟨rfl, rfl⟩)
    refine bodyPost_ret (v := .tuple #[.agg #[.slice none 0 0, .slice none 0 0, .slice none 0 0], .int .i64 5]) (by simp [results, Tryz.results17, go_sem, r0, r1, r2]) rfl (Mach2.mk HD.out mach0_from ?_)
    exact below_low3 B1 (by omega) _ _ _
  obtain ⟨i, x, hi, hx, h8, hh, hsz⟩ := place_held HM.out (by omega : 0 ≤ placeF M.frames ((k : Int) + 1) p)
  have HPL := hid hi
  have HX2 := hid hx
  have HH := hid hh
  rw [hi]
  have hi24 : i < 24 := by have := (List.getElem?_eq_some_iff.1 hx).1; rw [HL.out] at this; exact this
  have hi1 : (i : Int) < 24 := by omega
  have hi0 : (0 : Int) ≤ (i : Int) := by omega
  obtain ⟨fb, fo, wa, wc, hfa, _, _, _, a3, hIA⟩ := HFr.out i x hx
  obtain ⟨eb, eo, hea, _, b1, _⟩ := HE.out k y HX.out
  subst hfa hea
  have HI := hid hIA
  have c0 := cell_later B1 a3
  have d1 := cell_later B1 b1
  rw [h8] at c0
  have hws : IntKind.i64.wrap ((y.log.size : Int) + ((bytesOf (heldL p x.words)).size : Int)) = (y.log.size : Int) + ((bytesOf (heldL p x.words)).size : Int) := by rw [IntKind.wrap_i64]; omega
  clear hx a3 b1 hi hh hIA h5
  go_wp2_with fail
  refine (refHeld p wa x.words 8 wc _ h8 (by omega) (HI.out.mono B1)).mono ?_
  rintro z w3 ⟨rfl, hb3⟩
  rw [HH.out]
  replace d1 := cell_later hb3 d1
  clear c0
  have hb2 := hb3
  replace p0 := cell_later hb2 p0
  replace p1 := cell_later hb2 p1
  replace p2 := cell_later hb2 p2
  replace p3 : ∀ o, w3.frozen? ⟨w.heap.size, o, none⟩ = false := fun o => by rw [(bcell hb2).2 _ _ (by omega)]; exact p3 o
  replace r0 := cell_later hb2 r0
  replace r1 := cell_later hb2 r1
  replace r2 := cell_later hb2 r2
  replace r3 : ∀ o, w3.frozen? ⟨w.heap.size + 1, o, none⟩ = false := fun o => by rw [(bcell hb2).2 _ _ (by omega)]; exact r3 o
  have B2 := B1.trans (hb2.mono B1.size)
  replace z1 : w.heap.size + 1 < w3.heap.size := by have := hb2.size; omega
  clear B1
  have B1 := B2
  clear B2
  clear hb2 hb3 w2
  dsimp only
  have HQ := hid (measF_3 H0.out HPL.out HX2.out hk4 HX.out)
  by_cases h6 : 1000 < y.log.size + (bytesOf (heldL p x.words)).size
  · have HD := hid (measD_no (HQ.out.trans (if_pos (by rw [← bytesOf_size]; exact h6))) (by decide))
    have h6b : (1000 : Int) < (y.log.size : Int) + ((bytesOf (heldL p x.words)).size : Int) := by omega
    clear h6
    go_wp2_with (go_at_call 25; refine (in_any _ _ _ _).mono ?_; rintro e w' ⟨rfl, rfl⟩)
    refine bodyPost_ret (v := .tuple #[.agg #[.slice none 0 0, .slice none 0 0, .slice none 0 0], .int .i64 7]) (by simp [results, Tryz.results17, go_sem, r0, r1, r2]) rfl (Mach2.mk HD.out mach0_from ?_)
    exact below_low3 B1 (by omega) _ _ _
  have h6b : ¬ (1000 : Int) < (y.log.size : Int) + ((bytesOf (heldL p x.words)).size : Int) := by omega
  have HD := hid (measD_yes (HQ.out.trans (if_neg (by rw [← bytesOf_size]; omega))) HPL.out HX2.out HX.out)
  clear HQ h6
  go_wp2_with fail
  refine (refMachCopy _ M _ HFit.out (by have h := HV.out.mono B1; rw [HL.out, HL4.out] at h; exact h)).mono ?_
  rintro z w2 ⟨fv, ev, qv, F, rfl, hF, hO, hb2⟩
  clear d1 h6b
  have z0 := z1
  replace p0 := cell_later hb2 p0
  replace p1 := cell_later hb2 p1
  replace p2 := cell_later hb2 p2
  replace p3 : ∀ o, w2.frozen? ⟨w.heap.size, o, none⟩ = false := fun o => by rw [(bcell hb2).2 _ _ (by omega)]; exact p3 o
  replace r0 := cell_later hb2 r0
  replace r1 := cell_later hb2 r1
  replace r2 := cell_later hb2 r2
  replace r3 : ∀ o, w2.frozen? ⟨w.heap.size + 1, o, none⟩ = false := fun o => by rw [(bcell hb2).2 _ _ (by omega)]; exact r3 o
  have B2 := B1.trans (hb2.mono B1.size)
  replace z1 : w.heap.size + 1 < w2.heap.size := by have := hb2.size; omega
  clear B1
  have B1 := B2
  clear B2
  have hFl : F.length = 24 := by rw [← HL.out, ← hF, List.length_map]
  have o1 := hO.f.row
  rw [hFl] at o1
  obtain ⟨g, c1, rfl, hg1, hg2⟩ := own_some o1 (by decide)
  have o2 := hO.e
  rw [HL4.out] at o2
  obtain ⟨e, c2, rfl, _, _⟩ := own_some o2 (by decide)
  obtain ⟨qa2, qc2, rfl⟩ := own_slice hO.q
  have HO := hid (CopyInv.of hO (by omega) B1 z1 p0 r0 r1 r2 r3 29)
  have HF := hid hF
  clear o1 o2 hO hF hb2 HV HFr HE
  go_upto_region 13 with fail
  refine wp_gen (CopyInv w w2.heap.size (.slice (some ⟨fb, fo, none⟩) 24 fc) (.slice (some ⟨g, 0, none⟩) 24 c1) (.slice (some ⟨e, 0, none⟩) 4 c2) (.slice qa2 M.quotes.length qc2) F M.encl M.quotes) HO.out ?_
  clear HO p0 p1 p2 p3 r0 r1 r2 r3 B1
  intro W5 HO
  have k0 := HO.c0
  have k1 := HO.c1
  have k2 := HO.c2
  have r0 := HO.r0
  have r1 := HO.r1
  have r2 := HO.r2
  have r3 := HO.rz
  obtain ⟨t0, t1, t2, t3, t4, t5, t6, t9⟩ := HO.own.enclAt HX.out
  obtain ⟨q1, q2⟩ := HO.own.e.lt e rfl
  have n0 : e ≠ w2.heap.size := fun h => HO.ne e rfl h
  have n1 : w2.heap.size ≠ e := fun h => n0 h.symm
  have lo := HO.lo
  have n4 : w.heap.size + 1 ≠ w2.heap.size := by omega
  have n5 : w2.heap.size ≠ w.heap.size + 1 := by omega
  have n6 : e ≠ w.heap.size + 1 := by omega
  have n7 : w.heap.size + 1 ≠ e := by omega
  have K := HO.setE (j := 1) (u := .string (y.log ++ bytesOf (heldL p x.words))) (x' := logE (heldL p x.words) y) HL4.out HX.out (by decide) (logE_log _ _)
  have K2 := K.done (M := ⟨M.frames, M.encl.set k (logE (heldL p x.words) y), M.quotes⟩) HF.out rfl rfl HD.out
  have HK := hid (K2.later (below_drew _))
  clear K K2 HO
  go_wp2_with fail
  go_region
  all_goals
    go_wp2_with fail
    exact bodyPost_ret (v := .tuple #[.agg #[.slice (some ⟨g, 0, none⟩) 24 c1, .slice (some ⟨e, 0, none⟩) 4 c2, .slice qa2 M.quotes.length qc2], .int .i64 0]) (by simp only [results, Tryz.results17]; go_simp) rfl HK.out

end Go.Proofs.YtklbbjionoeofaaGreatDoor
