/- ref.PutOf, walked. Condition: what fits the form's own reach. -/
import Derived.Test.YtklbbjionoeofaaGreatDoorGo
import Derived.Test.YtklbbjionoeofaaGreatDoorRefMachCopy
import Derived.Test.YtklbbjionoeofaaGreatDoorGl
import Derived.Test.YtklbbjionoeofaaGreatDoorGh
namespace Go.Proofs.YtklbbjionoeofaaGreatDoor
open Go.RowKit

set_option maxRecDepth 10000 in
set_option maxHeartbeats 3200000 in
theorem refPutOf (v : Value) (M : MachD) (e f p r : Int) (w : World) (hv : MachAt w v M) (hf : M.Fits) : Calls Tryz.prog 16 #[v, .int .i64 e, .int .i64 f, .int .i64 p, .int .i64 r] w (Mach2 w.heap.size (putD M e f p r) w) := by
  have HV := hid hv
  obtain ⟨fa, fc, ea, ec, qa, qc, rfl, hFr, hE, _, _⟩ := hv
  have HFr := hid hFr
  have HE := hid hE
  clear hFr hE
  have B0 : ∀ X Y, Below w.heap.size w ((w.alloc X).alloc Y) := fun X Y => by go_grown
  go_enter Tryz.func16, Tryz.ntmps16
  go_wp2_with fail
  refine (refAsk _ M e 1 _ (HV.out.mono (B0 _ _)) hf).mono ?_
  rintro x w1 ⟨rfl, hb1⟩
  have p0 : w1.cell? ⟨w.heap.size, 0, none⟩ = some (.slice fa M.frames.length fc) := by rw [(bcell hb1).1 _ _ (by go_size)]; go_simp
  have p1 : w1.cell? ⟨w.heap.size, 1, none⟩ = some (.slice ea M.encl.length ec) := by rw [(bcell hb1).1 _ _ (by go_size)]; go_simp
  have p2 : w1.cell? ⟨w.heap.size, 2, none⟩ = some (.slice qa M.quotes.length qc) := by rw [(bcell hb1).1 _ _ (by go_size)]; go_simp
  have p3 : ∀ o, w1.frozen? ⟨w.heap.size, o, none⟩ = false := fun o => by rw [(bcell hb1).2 _ _ (by go_size)]; go_simp
  have r0 : w1.cell? ⟨w.heap.size + 1, 0, none⟩ = some (.slice none 0 0) := by rw [(bcell hb1).1 _ _ (by go_size)]; go_simp
  have r1 : w1.cell? ⟨w.heap.size + 1, 1, none⟩ = some (.slice none 0 0) := by rw [(bcell hb1).1 _ _ (by go_size)]; go_simp
  have r2 : w1.cell? ⟨w.heap.size + 1, 2, none⟩ = some (.slice none 0 0) := by rw [(bcell hb1).1 _ _ (by go_size)]; go_simp
  have r3 : ∀ o, w1.frozen? ⟨w.heap.size + 1, o, none⟩ = false := fun o => by rw [(bcell hb1).2 _ _ (by go_size)]; go_simp
  have z1 : w.heap.size + 1 < w1.heap.size := by have := hb1.size; simp at this; omega
  have B1 : Below w.heap.size w w1 := (B0 _ _).trans (hb1.mono (by go_size))
  clear hb1
  by_cases h0 : askF M e 1 = 0
  rotate_left
  · have HD : Hid (putD M e f p r = (mach0, askF M e 1)) := putD_no (putF_1 h0) h0
    have hE1 : (askF M e 1 != 0) = true := by rw [bne_iff_ne]; exact h0
    have hE2 : (askF M e 1 == 0) = false := by rw [beq_eq_false_iff_ne]; exact h0
    generalize askF M e 1 = E at HD hE1 hE2 h0 ⊢
    clear h0
    go_wp2_with (go_at_call 25; refine (in_any _ _ _ _).mono ?_; rintro e w' ⟨rfl, rfl⟩)
    refine bodyPost_ret (v := .tuple #[.agg #[.slice none 0 0, .slice none 0 0, .slice none 0 0], .int .i64 E]) (by simp [results, Tryz.results16, go_sem, r0, r1, r2]) rfl (Mach2.mk HD.out mach0_from ?_)
    exact below_low3 B1 (by omega) _ _ _
  obtain ⟨hm0, k, y, rfl, hk4, hx, _, _⟩ := askF_zero h0
  rw [h0]
  have HS := hid (machF_sizes hm0)
  have hy1 := encl_log hm0 hx
  have HX := hid hx
  have H0 := hid h0
  clear h0 hm0 hx
  by_cases hf1 : f < 0 ∨ 24 ≤ f
  · have HD := hid (putD_no (M := M) (p := p) (r := r) (putF_2 H0.out hf1) (by decide))
    have hin : inR f 0 23 = false := by simp [inR]; omega
    clear hf1
    go_wp2_with (go_at_call 25; refine (in_any _ _ _ _).mono ?_; rintro e w' ⟨rfl, rfl⟩)
    refine bodyPost_ret (v := .tuple #[.agg #[.slice none 0 0, .slice none 0 0, .slice none 0 0], .int .i64 2]) (by simp [results, Tryz.results16, go_sem, r0, r1, r2]) rfl (Mach2.mk HD.out mach0_from ?_)
    exact below_low3 B1 (by omega) _ _ _
  obtain ⟨i, rfl⟩ : ∃ i : Nat, f = (i : Int) := ⟨f.toNat, by omega⟩
  have hin : inR (i : Int) 0 23 = true := by simp [inR]; omega
  have hi1 : (i : Int) < 24 := by omega
  have hi0 : (0 : Int) ≤ (i : Int) := by omega
  have H2 := hid hf1
  clear hf1
  go_wp2_with (go_at_call 25; refine (in_any _ _ _ _).mono ?_; rintro e w' ⟨rfl, rfl⟩)
  refine (refPut p r _).mono ?_
  rintro z w2 ⟨rfl, hb2⟩
  replace p0 := cell_later hb2 p0
  replace p1 := cell_later hb2 p1
  replace p2 := cell_later hb2 p2
  replace p3 : ∀ o, w2.frozen? ⟨w.heap.size, o, none⟩ = false := fun o => by rw [(bcell hb2).2 _ _ (by omega)]; exact p3 o
  replace r0 := cell_later hb2 r0
  replace r1 := cell_later hb2 r1
  replace r2 := cell_later hb2 r2
  replace r3 : ∀ o, w2.frozen? ⟨w.heap.size + 1, o, none⟩ = false := fun o => by rw [(bcell hb2).2 _ _ (by omega)]; exact r3 o
  have B2 := B1.trans (hb2.mono B1.size)
  replace z1 : w.heap.size + 1 < w2.heap.size := by have := hb2.size; omega
  clear B1
  have B1 := B2
  clear B2
  clear hb2 w1
  by_cases h3 : addF p r = 0
  rotate_left
  · have HD := hid (putD_no (putF_3 H0.out H2.out h3) (by decide))
    have hA : addD p r = ([], 2) := by
      cases hb : (inR p 0 7 && inR r 0 7) with
      | true => simp [addF, hb] at h3
      | false => exact addF_bad hb
    rw [hA]
    clear h3 hA
    dsimp only
    go_wp2_with (go_at_call 25; refine (in_any _ _ _ _).mono ?_; rintro e w' ⟨rfl, rfl⟩)
    refine bodyPost_ret (v := .tuple #[.agg #[.slice none 0 0, .slice none 0 0, .slice none 0 0], .int .i64 2]) (by simp [results, Tryz.results16, go_sem, r0, r1, r2]) rfl (Mach2.mk HD.out mach0_from ?_)
    exact below_low3 B1 (by omega) _ _ _
  have hA : addD p r = (addedL p r, 0) := by rw [addD, if_neg (by simp [h3])]
  have H3 := hid h3
  have hsz := added_size h3
  rw [hA]
  clear hA h3 hin
  dsimp only
  obtain ⟨x, hx⟩ : ∃ x, M.frames[i]? = some x := ⟨_, List.getElem?_eq_getElem (by rw [HS.out.1]; omega)⟩
  obtain ⟨fb, fo, wa, wc, hfa, a0, _⟩ := HFr.out i x hx
  obtain ⟨eb, eo, hea, _, b1, _⟩ := HE.out k y HX.out
  subst hfa hea
  have HX2 := hid hx
  have e24 : M.frames.length = 24 := HS.out.1
  have e4 : M.encl.length = 4 := HS.out.2.1
  have HL := hid e24
  have HL4 := hid e4
  have c0 := cell_later B1 a0
  have d1 := cell_later B1 b1
  clear hx a0 b1
  rw [e24] at p0
  rw [e4] at p1
  have hk1 : (k : Int) < 4 := by omega
  have hk0 : (0 : Int) ≤ (k : Int) := by omega
  have hws : IntKind.i64.wrap ((y.log.size : Int) + ((bytesOf (addedL p r)).size : Int)) = (y.log.size : Int) + ((bytesOf (addedL p r)).size : Int) := by rw [IntKind.wrap_i64]; omega
  by_cases h4 : x.owner = 0
  rotate_left
  · have HD := hid (putD_no (putF_4 H0.out H2.out H3.out HX2.out (.inl h4)) (by decide))
    have h4b : (x.owner != 0) = true := by rw [bne_iff_ne]; exact h4
    clear h4
    go_wp2_with (go_at_call 25; refine (in_any _ _ _ _).mono ?_; rintro e w' ⟨rfl, rfl⟩)
    refine bodyPost_ret (v := .tuple #[.agg #[.slice none 0 0, .slice none 0 0, .slice none 0 0], .int .i64 6]) (by simp [results, Tryz.results16, go_sem, r0, r1, r2]) rfl (Mach2.mk HD.out mach0_from ?_)
    exact below_low3 B1 (by omega) _ _ _
  have h4b : (x.owner != 0) = false := by simp [h4]
  have H4 := hid h4
  clear h4
  go_wp2_with fail
  refine (refPlace (some ⟨fb, fo, none⟩) M.frames 24 fc _ _ ((k : Int) + 1) p _ HL.out (by omega) (HFr.out.mono B1)).mono ?_
  rintro z w3 ⟨rfl, hb3⟩
  replace c0 := cell_later hb3 c0
  replace d1 := cell_later hb3 d1
  have hb2 := hb3
  replace p0 := cell_later hb2 p0
  replace p1 := cell_later hb2 p1
  replace p2 := cell_later hb2 p2
  replace p3 : ∀ o, w3.frozen? ⟨w.heap.size, o, none⟩ = false := fun o => by rw [(bcell hb2).2 _ _ (by omega)]; exact p3 o
  replace r0 := cell_later hb2 r0
  replace r1 := cell_later hb2 r1
  replace r2 := cell_later hb2 r2
  replace r3 : ∀ o, w3.frozen? ⟨w.heap.size + 1, o, none⟩ = false := fun o => by rw [(bcell hb2).2 _ _ (by omega)]; exact r3 o
  have B2 := B1.trans (hb2.mono B1.size)
  replace z1 : w.heap.size + 1 < w3.heap.size := by have := hb2.size; omega
  clear B1
  have B1 := B2
  clear B2
  clear hb2 hb3 w2
  by_cases h5 : 0 ≤ placeF M.frames ((k : Int) + 1) p
  · have HD := hid (putD_no (putF_4 H0.out H2.out H3.out HX2.out (.inr h5)) (by decide))
    generalize placeF M.frames ((k : Int) + 1) p = P at h5
    go_wp2_with (go_at_call 25; refine (in_any _ _ _ _).mono ?_; rintro e w' ⟨rfl, rfl⟩)
    refine bodyPost_ret (v := .tuple #[.agg #[.slice none 0 0, .slice none 0 0, .slice none 0 0], .int .i64 6]) (by simp [results, Tryz.results16, go_sem, r0, r1, r2]) rfl (Mach2.mk HD.out mach0_from ?_)
    exact below_low3 B1 (by omega) _ _ _
  have HQ := hid (putF_5 H0.out H2.out H3.out HX2.out (by rw [H4.out]; simpa using h5) hk4 HX.out)
  generalize placeF M.frames ((k : Int) + 1) p = P at h5
  by_cases h6 : 1000 < y.log.size + (bytesOf (addedL p r)).size
  · have HD := hid (putD_no (HQ.out.trans (if_pos (by rw [← bytesOf_size]; exact h6))) (by decide))
    have h6b : (1000 : Int) < (y.log.size : Int) + ((bytesOf (addedL p r)).size : Int) := by omega
    clear h6
    go_wp2_with (go_at_call 25; refine (in_any _ _ _ _).mono ?_; rintro e w' ⟨rfl, rfl⟩)
    refine bodyPost_ret (v := .tuple #[.agg #[.slice none 0 0, .slice none 0 0, .slice none 0 0], .int .i64 7]) (by simp [results, Tryz.results16, go_sem, r0, r1, r2]) rfl (Mach2.mk HD.out mach0_from ?_)
    exact below_low3 B1 (by omega) _ _ _
  have h6b : ¬ (1000 : Int) < (y.log.size : Int) + ((bytesOf (addedL p r)).size : Int) := by omega
  have HD := hid (putD_yes (HQ.out.trans (if_neg (by rw [← bytesOf_size]; omega))) HX2.out HX.out)
  clear HQ h6
  go_wp2_with fail
  refine (refMachCopy _ M _ hf (by have h := HV.out.mono B1; rw [HL.out, HL4.out] at h; exact h)).mono ?_
  rintro z w2 ⟨fv, ev, qv, F, rfl, hF, hO, hb2⟩
  clear c0 d1 h5 h6b
  have z0 := z1
  replace p0 := cell_later hb2 p0
  replace p1 := cell_later hb2 p1
  replace p2 := cell_later hb2 p2
  replace p3 : ∀ o, w2.frozen? ⟨w.heap.size, o, none⟩ = false := fun o => by rw [(bcell hb2).2 _ _ (by omega)]; exact p3 o
  replace r0 := cell_later hb2 r0
  replace r1 := cell_later hb2 r1
  replace r2 := cell_later hb2 r2
  replace r3 : ∀ o, w2.frozen? ⟨w.heap.size + 1, o, none⟩ = false := fun o => by rw [(bcell hb2).2 _ _ (by omega)]; exact r3 o
  have B2 := B1.trans (hb2.mono B1.size)
  replace z1 : w.heap.size + 1 < w2.heap.size := by have := hb2.size; omega
  clear B1
  have B1 := B2
  clear B2
  have hFl : F.length = 24 := by rw [← HL.out, ← hF, List.length_map]
  have o1 := hO.f.row
  rw [hFl] at o1
  obtain ⟨g, c1, rfl, hg1, hg2⟩ := own_some o1 (by decide)
  have o2 := hO.e
  rw [HL4.out] at o2
  obtain ⟨e, c2, rfl, _, _⟩ := own_some o2 (by decide)
  obtain ⟨qa2, qc2, rfl⟩ := own_slice hO.q
  obtain ⟨xv, hfx⟩ := frame_val hF HX2.out
  have HFX := hid hfx
  have HO := hid (CopyInv.of hO (by omega) B1 z1 p0 r0 r1 r2 r3 29)
  have HF := hid hF
  clear o1 o2 hO hF hb2 HV hfx HFr HE
  go_upto_region 14 with fail
  refine wp_gen (CopyInv w w2.heap.size (.slice (some ⟨fb, fo, none⟩) 24 fc) (.slice (some ⟨g, 0, none⟩) 24 c1) (.slice (some ⟨e, 0, none⟩) 4 c2) (.slice qa2 M.quotes.length qc2) F M.encl M.quotes) HO.out ?_
  clear HO p0 p1 p2 p3 r0 r1 r2 r3 B1
  intro W HO
  have k0 := HO.c0
  have lo := HO.lo
  obtain ⟨s0, s1, s2, s3, s9⟩ := HO.own.frameAt HFX.out
  simp only at s0 s1 s2 s3
  obtain ⟨q1, q2⟩ := HO.own.f.row.lt g rfl
  have n0 : g ≠ w2.heap.size := fun h => HO.no g rfl h
  have n1 : w2.heap.size ≠ g := fun h => n0 h.symm
  have K := HO.ownA hFl HFX.out ((k : Int) + 1) p r
  clear HO
  go_upto_region 17 with fail
  refine wp_gen (CopyInv w w2.heap.size (.slice (some ⟨fb, fo, none⟩) 24 fc) (.slice (some ⟨g, 0, none⟩) 24 c1) (.slice (some ⟨e, 0, none⟩) 4 c2) (.slice qa2 M.quotes.length qc2) (F.set i (ownF ((k : Int) + 1) p r x, xv)) M.encl M.quotes) K ?_
  clear K k0 s0 s1 s2 s3 s9 q1 q2 n0 n1
  intro W5 HO
  have k0 := HO.c0
  have k1 := HO.c1
  have k2 := HO.c2
  have r0 := HO.r0
  have r1 := HO.r1
  have r2 := HO.r2
  have r3 := HO.rz
  obtain ⟨t0, t1, t2, t3, t4, t5, t6, t9⟩ := HO.own.enclAt HX.out
  obtain ⟨q1, q2⟩ := HO.own.e.lt e rfl
  have n0 : e ≠ w2.heap.size := fun h => HO.ne e rfl h
  have n1 : w2.heap.size ≠ e := fun h => n0 h.symm
  have n4 : w.heap.size + 1 ≠ w2.heap.size := by omega
  have n5 : w2.heap.size ≠ w.heap.size + 1 := by omega
  have n6 : e ≠ w.heap.size + 1 := by omega
  have n7 : w.heap.size + 1 ≠ e := by omega
  have K := HO.setE (j := 1) (u := .string (y.log ++ bytesOf (addedL p r))) (x' := logE (addedL p r) y) HL4.out HX.out (by decide) (logE_log _ _)
  have K2 := K.done (M := ⟨M.frames.set i (ownF ((k : Int) + 1) p r x), M.encl.set k (logE (addedL p r) y), M.quotes⟩) (by rw [map_set_fst, HF.out]) rfl rfl HD.out
  have HK := hid (K2.later (below_drew _))
  clear K K2 HO
  go_wp2_with fail
  go_region
  all_goals
    go_wp2_with fail
    exact bodyPost_ret (v := .tuple #[.agg #[.slice (some ⟨g, 0, none⟩) 24 c1, .slice (some ⟨e, 0, none⟩) 4 c2, .slice qa2 M.quotes.length qc2], .int .i64 0]) (by simp only [results, Tryz.results16]; go_simp) rfl HK.out

end Go.Proofs.YtklbbjionoeofaaGreatDoor
