/- epc.Put, walked. Conditions: the library's table reads as it is laid; what fits the form's own reach. -/
import Derived.Test.YtklbbjionoeofaaGreatDoorGo
import Derived.Test.YtklbbjionoeofaaGreatDoorGl
namespace Go.Proofs.YtklbbjionoeofaaGreatDoor
open Go.RowKit

set_option maxRecDepth 10000 in
set_option maxHeartbeats 3200000 in
theorem epcPut (v : Value) (M : MachD) (e f p r : Int) (w : World) (hv : MachAt w v M) (hf : M.Fits) (hT : Tab w) : Calls Tryz.prog 37 #[v, .int .i64 e, .int .i64 f, .int .i64 p, .int .i64 r] w (Mach2 w.heap.size (putD M e f p r) w) := by
  have HV := hid hv
  have HT := hid hT
  obtain ⟨fa, fc, ea, ec, qa, qc, rfl, _, _, _, _⟩ := hv
  have B0 : ∀ X Y, Below w.heap.size w ((w.alloc X).alloc Y) := fun X Y => by go_grown
  clear hT
  go_enter Tryz.func37, Tryz.ntmps37
  go_wp2_with fail
  refine (epcBegin _ M e 1 _ (HV.out.mono (B0 _ _)) hf).mono ?_
  rintro x w1 ⟨hb1, hx⟩
  have p0 : w1.cell? ⟨w.heap.size, 0, none⟩ = some (.slice fa M.frames.length fc) := by rw [(bcell hb1).1 _ _ (by go_size)]; go_simp
  have p1 : w1.cell? ⟨w.heap.size, 1, none⟩ = some (.slice ea M.encl.length ec) := by rw [(bcell hb1).1 _ _ (by go_size)]; go_simp
  have p2 : w1.cell? ⟨w.heap.size, 2, none⟩ = some (.slice qa M.quotes.length qc) := by rw [(bcell hb1).1 _ _ (by go_size)]; go_simp
  have p3 : ∀ o, w1.frozen? ⟨w.heap.size, o, none⟩ = false := fun o => by rw [(bcell hb1).2 _ _ (by go_size)]; go_simp
  have r0 : w1.cell? ⟨w.heap.size + 1, 0, none⟩ = some (.slice none 0 0) := by rw [(bcell hb1).1 _ _ (by go_size)]; go_simp
  have r1 : w1.cell? ⟨w.heap.size + 1, 1, none⟩ = some (.slice none 0 0) := by rw [(bcell hb1).1 _ _ (by go_size)]; go_simp
  have r2 : w1.cell? ⟨w.heap.size + 1, 2, none⟩ = some (.slice none 0 0) := by rw [(bcell hb1).1 _ _ (by go_size)]; go_simp
  have r3 : ∀ o, w1.frozen? ⟨w.heap.size + 1, o, none⟩ = false := fun o => by rw [(bcell hb1).2 _ _ (by go_size)]; go_simp
  have z1 : w.heap.size + 1 < w1.heap.size := by have := hb1.size; simp at this; omega
  have B1 : Below w.heap.size w w1 := (B0 _ _).trans (hb1.mono (by go_size))
  rcases hx with ⟨hne, rfl⟩ | ⟨h0, hm0, k, y, fb, c1, g, c2, qv, F, rfl, hk4, hx, hy, hs, rfl, hF, hO⟩
  · have HD : Hid (putD M e f p r = (mach0, askF M e 1)) := putD_no (putF_1 hne) hne
    have hE1 : (askF M e 1 != 0) = true := by rw [bne_iff_ne]; exact hne
    generalize askF M e 1 = E at HD hE1 ⊢
    clear hne hb1
    go_wp2_with fail
    refine bodyPost_ret (v := .tuple #[.agg #[.slice none 0 0, .slice none 0 0, .slice none 0 0], .int .i64 E]) (by simp [results, Tryz.results37, go_sem, r0, r1, r2]) rfl (Mach2.mk HD.out mach0_from ?_)
    exact below_low3 (below_low3 B1 (by omega) _ _ _) (by omega) _ _ _
  · have HS := hid (machF_sizes hm0)
    have hy1 := encl_log hm0 hx
    obtain ⟨qa2, qc2, rfl⟩ := own_slice hO.q
    have HO := hid (OpenM.of (hO.mono (b' := w.heap.size + 2) (by go_size)) (Nat.le_refl _) B1 z1 p0 p1 p2 p3 r0 r1 r2 r3)
    have HF := hid hF
    have HX := hid hx
    have H0 := hid h0
    clear hO hF hx h0 hm0 hs hb1 hy HV B0
    go_upto_region 4 with fail
    refine wp_gen (OpenM w (.slice (some ⟨fb, 0, none⟩) 24 c1) (.slice (some ⟨g, 0, none⟩) 4 c2) (.slice qa2 M.quotes.length qc2) F M.encl M.quotes) HO.out ?_
    clear HO p0 p1 p2 p3 r0 r1 r2 r3 B1 z1
    intro W HO
    have HO := hid HO
    have k0 := HO.out.c0
    have k1 := HO.out.c1
    have k2 := HO.out.c2
    have r0 := HO.out.r0
    have r1 := HO.out.r1
    have r2 := HO.out.r2
    have r3 := HO.out.rz
    by_cases hf1 : f < 0
    · have HD := hid (putD_no (M := M) (p := p) (r := r) (putF_2 H0.out (.inl hf1)) (by decide))
      go_wp2_with fail
      refine bodyPost_ret (v := .tuple #[.agg #[.slice none 0 0, .slice none 0 0, .slice none 0 0], .int .i64 2]) (by simp [results, Tryz.results37, go_sem, r0, r1, r2]) rfl (Mach2.mk HD.out mach0_from ?_)
      exact below_low3 HO.out.below (by omega) _ _ _
    by_cases hf2 : 24 ≤ f
    · have HD := hid (putD_no (M := M) (p := p) (r := r) (putF_2 H0.out (.inr hf2)) (by decide))
      go_wp2_with fail
      refine bodyPost_ret (v := .tuple #[.agg #[.slice none 0 0, .slice none 0 0, .slice none 0 0], .int .i64 2]) (by simp [results, Tryz.results37, go_sem, r0, r1, r2]) rfl (Mach2.mk HD.out mach0_from ?_)
      exact below_low3 HO.out.below (by omega) _ _ _
    obtain ⟨i, rfl⟩ : ∃ i : Nat, f = (i : Int) := ⟨f.toNat, by omega⟩
    have hi1 : (i : Int) < 24 := by omega
    have hi0 : (0 : Int) ≤ (i : Int) := by omega
    have H2 : Hid (¬ ((i : Int) < 0 ∨ 24 ≤ (i : Int))) := by show ¬ _; omega
    clear hf1 hf2
    obtain ⟨x, hx⟩ : ∃ x, M.frames[i]? = some x := ⟨_, List.getElem?_eq_getElem (by rw [HS.out.1]; omega)⟩
    obtain ⟨xv, hfx⟩ := frame_val HF.out hx
    have HFX := hid hfx
    have HX2 := hid hx
    clear hfx hx
    go_wp2_with fail
    refine (imageAdded p r _ (HT.out.mono HO.out.below)).mono ?_
    rintro z w2 ⟨rfl, hb2⟩
    replace HO := hid (HO.out.later hb2)
    clear k0 k1 k2 r0 r1 r2 r3
    have k0 := HO.out.c0
    have k1 := HO.out.c1
    have k2 := HO.out.c2
    have r0 := HO.out.r0
    have r1 := HO.out.r1
    have r2 := HO.out.r2
    have r3 := HO.out.rz
    clear hb2
    by_cases h3 : addF p r = 0
    rotate_left
    · have HD := hid (putD_no (putF_3 H0.out H2.out h3) (by decide))
      have hA : addD p r = ([], 2) := by
        cases hb : (inR p 0 7 && inR r 0 7) with
        | true => simp [addF, hb] at h3
        | false => exact addF_bad hb
      rw [hA]
      clear h3 hA
      dsimp only
      go_wp2_with fail
      refine bodyPost_ret (v := .tuple #[.agg #[.slice none 0 0, .slice none 0 0, .slice none 0 0], .int .i64 2]) (by simp [results, Tryz.results37, go_sem, r0, r1, r2]) rfl (Mach2.mk HD.out mach0_from ?_)
      exact below_low3 HO.out.below (by omega) _ _ _
    have hA : addD p r = (addedL p r, 0) := by rw [addD, if_neg (by simp [h3])]
    have H3 := hid h3
    have hsz := added_size h3
    rw [hA]
    clear hA h3
    dsimp only
    obtain ⟨s0, s1, s2, s3, s9⟩ := HO.out.own.frameAt HFX.out
    simp only at s0 s1 s2 s3
    by_cases h4 : x.owner = 0
    rotate_left
    · have HD := hid (putD_no (putF_4 H0.out H2.out H3.out HX2.out (.inl h4)) (by decide))
      have h4b : (x.owner != 0) = true := by rw [bne_iff_ne]; exact h4
      clear h4
      go_wp2_with fail
      refine bodyPost_ret (v := .tuple #[.agg #[.slice none 0 0, .slice none 0 0, .slice none 0 0], .int .i64 6]) (by simp [results, Tryz.results37, go_sem, r0, r1, r2]) rfl (Mach2.mk HD.out mach0_from ?_)
      exact below_low3 HO.out.below (by omega) _ _ _
    have h4b : (x.owner != 0) = false := by simp [h4]
    have H4 := hid h4
    clear h4
    go_wp2_with fail
    refine (epcPlace _ M.frames 24 c1 _ _ ((k : Int) + 1) p _ HS.out.1 (by omega) ?_).mono ?_
    · have h := HO.out.own.f.frames
      rw [HF.out] at h
      obtain ⟨a, c, e, h⟩ := h
      obtain ⟨rfl, _, rfl⟩ := Value.slice.inj e
      exact h
    rintro z w3 ⟨rfl, hb3⟩
    replace HO := hid (HO.out.later hb3)
    clear k0 k1 k2 r0 r1 r2 r3
    have k0 := HO.out.c0
    have k1 := HO.out.c1
    have k2 := HO.out.c2
    have r0 := HO.out.r0
    have r1 := HO.out.r1
    have r2 := HO.out.r2
    have r3 := HO.out.rz
    clear hb3 s0 s1 s2 s3 s9
    by_cases h5 : 0 ≤ placeF M.frames ((k : Int) + 1) p
    · have HD := hid (putD_no (putF_4 H0.out H2.out H3.out HX2.out (.inr h5)) (by decide))
      generalize placeF M.frames ((k : Int) + 1) p = P at h5
      go_wp2_with fail
      refine bodyPost_ret (v := .tuple #[.agg #[.slice none 0 0, .slice none 0 0, .slice none 0 0], .int .i64 6]) (by simp [results, Tryz.results37, go_sem, r0, r1, r2]) rfl (Mach2.mk HD.out mach0_from ?_)
      exact below_low3 HO.out.below (by omega) _ _ _
    have HQ := hid (putF_5 H0.out H2.out H3.out HX2.out (by rw [H4.out]; simpa using h5) hk4 HX.out)
    generalize placeF M.frames ((k : Int) + 1) p = P at h5
    obtain ⟨t0, t1, _, _, _, _, _, t9⟩ := HO.out.own.enclAt HX.out
    go_wp2_with fail
    refine (epcLog g (k * 7) y.log (bytesOf (addedL p r)) _ t1 (t9 _) hy1 (by omega)).mono ?_
    rintro z w4 (⟨h6, rfl, rfl⟩ | ⟨h6, rfl, rfl⟩)
    · have HD := hid (putD_no (HQ.out.trans (if_pos (by rw [← bytesOf_size]; exact h6))) (by decide))
      clear h6
      go_wp2_with fail
      refine bodyPost_ret (v := .tuple #[.agg #[.slice none 0 0, .slice none 0 0, .slice none 0 0], .int .i64 7]) (by simp [results, Tryz.results37, go_sem, r0, r1, r2]) rfl (Mach2.mk HD.out mach0_from ?_)
      exact below_low3 HO.out.below (by omega) _ _ _
    have HD := hid (putD_yes (HQ.out.trans (if_neg (by rw [← bytesOf_size]; omega))) HX2.out HX.out)
    have HL := hid HS.out.2.1
    have K := HO.out.setE (j := 1) (u := .string (y.log ++ bytesOf (addedL p r))) (x' := logE (addedL p r) y) HS.out.2.1 HX.out (by decide) (logE_log _ _)
    clear h6 HQ
    go_upto_region 16 with fail
    refine wp_gen (OpenM w (.slice (some ⟨fb, 0, none⟩) 24 c1) (.slice (some ⟨g, 0, none⟩) 4 c2) (.slice qa2 M.quotes.length qc2) F (M.encl.set k (logE (addedL p r) y)) M.quotes) K ?_
    clear K HO t0 t1 t9
    clear k0 k1 k2 r0 r1 r2 r3
    intro W4 HO
    have HO := hid HO
    have k0 := HO.out.c0
    have k1 := HO.out.c1
    have k2 := HO.out.c2
    have r0 := HO.out.r0
    have r1 := HO.out.r1
    have r2 := HO.out.r2
    have r3 := HO.out.rz
    obtain ⟨s0, s1, s2, s3, s9⟩ := HO.out.own.frameAt HFX.out
    simp only at s0 s1 s2 s3
    have HFl : F.length = 24 := by
      have := congrArg List.length HF.out
      rw [List.length_map] at this
      rw [this, HS.out.1]
    obtain ⟨q1, q2⟩ := HO.out.own.f.row.lt fb rfl
    have n0 : fb ≠ w.heap.size := by omega
    have n1 : w.heap.size ≠ fb := by omega
    have n2 : fb ≠ w.heap.size + 1 := by omega
    have n3 : w.heap.size + 1 ≠ fb := by omega
    have K := HO.out.ownA HFl HFX.out ((k : Int) + 1) p r
    have K2 := K.done (M := ⟨M.frames.set i (ownF ((k : Int) + 1) p r x), M.encl.set k (logE (addedL p r) y), M.quotes⟩) (by rw [map_set_fst, HF.out]) rfl rfl HD.out
    have HK := hid (K2.later (below_drew _))
    clear K K2
    go_wp2_with fail
    go_region
    all_goals
      go_wp2_with fail
      exact bodyPost_ret (v := .tuple #[.agg #[.slice (some ⟨fb, 0, none⟩) 24 c1, .slice (some ⟨g, 0, none⟩) 4 c2, .slice qa2 M.quotes.length qc2], .int .i64 0]) (by simp only [results, Tryz.results37]; go_simp) rfl HK.out

end Go.Proofs.YtklbbjionoeofaaGreatDoor
