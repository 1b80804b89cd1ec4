/- run.run, walked. Conditions: those that the contract writes. -/
import Derived.Test.YtklbbjionoeofaaGreatDoorStep
import Derived.Test.YtklbbjionoeofaaGreatDoorGm
import Derived.StillTailTactics
namespace Go.Proofs.YtklbbjionoeofaaGreatDoor
open Go.RowKit

set_option maxRecDepth 10000 in
set_option maxHeartbeats 3200000 in
theorem runRun (v : Value) (M : MachD) (ei : Nat) (pc r0 r1 r2 r3 : Int) (n : Nat) (y : EnclD) (w : World) (hv : MachAt w v M) (hf : M.Fits) (hm : machF M = 0) (hy : M.encl[ei]? = some y) (hp : 0 ≤ pc ∧ pc ≤ 65535)
    (hR : ∀ (k : Nat) (m : Int), [r0, r1, r2, r3][k]? = some m → 0 ≤ m ∧ m ≤ 65535) (hn : n ≤ 5000) :
    Calls Tryz.prog 69 #[v, .int .i64 ((ei : Int) + 1), .int .i64 pc, .agg #[.int .i64 r0, .int .i64 r1, .int .i64 r2, .int .i64 r3], .int .i64 n] w (RunRes M ei (runM ((ei : Int) + 1) y.log n (core0 M pc [r0, r1, r2, r3])) w) := by
  have HV := hid hv
  obtain ⟨fa, fc, ea, ec, qa, qc, rfl, _, _, _, _⟩ := hv
  have HS := hid (machF_sizes hm)
  have HC0 := hid (core0_ok hm hp rfl hR)
  have hei : ei < 4 := by have := (List.getElem?_eq_some_iff.1 hy).1; have := HS.out.2.1; omega
  have HY := hid hy
  clear hm hp hR hy
  go_enter Tryz.func69, Tryz.ntmps69
  go_wp2_with fail
  refine (epcCopy _ M _ hf (HV.out.mono (by go_grown))).mono ?_
  rintro x w1 ⟨fv, ev, qv, F, rfl, hF, hO, hb1⟩
  have hFl : F.length = 24 := by rw [← HS.out.1, ← hF, List.length_map]
  have o1 := hO.f.row
  rw [hFl] at o1
  obtain ⟨f, c1, rfl, _, _⟩ := own_some o1 (by decide)
  have o2 := hO.e
  rw [HS.out.2.1] at o2
  obtain ⟨g, c2, rfl, hg1, hg2⟩ := own_some o2 (by decide)
  obtain ⟨qa2, qc2, rfl⟩ := own_slice hO.q
  obtain ⟨_, s1, _, _, _, _, _, _⟩ := hO.enclAt HY.out
  have hgn : w.heap.size ≠ g := by simp at hg1; omega
  have B1 : Below w.heap.size w w1 := Below.trans (by go_grown) (hb1.mono (by go_size))
  have z1 : w.heap.size + 3 < w1.heap.size := by have := hb1.size; simp at this; omega
  have p0 : w1.cell? ⟨w.heap.size, 0, none⟩ = some (.slice fa M.frames.length fc) := by rw [(bcell hb1).1 _ _ (by go_size)]; go_simp
  have p1 : w1.cell? ⟨w.heap.size, 1, none⟩ = some (.slice ea M.encl.length ec) := by rw [(bcell hb1).1 _ _ (by go_size)]; go_simp
  have p2 : w1.cell? ⟨w.heap.size, 2, none⟩ = some (.slice qa M.quotes.length qc) := by rw [(bcell hb1).1 _ _ (by go_size)]; go_simp
  have pz : ∀ o, w1.frozen? ⟨w.heap.size, o, none⟩ = false := fun o => by rw [(bcell hb1).2 _ _ (by go_size)]; go_simp
  have q0 : w1.cell? ⟨w.heap.size + 1, 0, none⟩ = some (.int .i64 r0) := by rw [(bcell hb1).1 _ _ (by go_size)]; go_simp
  have q1 : w1.cell? ⟨w.heap.size + 1, 1, none⟩ = some (.int .i64 r1) := by rw [(bcell hb1).1 _ _ (by go_size)]; go_simp
  have q2 : w1.cell? ⟨w.heap.size + 1, 2, none⟩ = some (.int .i64 r2) := by rw [(bcell hb1).1 _ _ (by go_size)]; go_simp
  have q3 : w1.cell? ⟨w.heap.size + 1, 3, none⟩ = some (.int .i64 r3) := by rw [(bcell hb1).1 _ _ (by go_size)]; go_simp
  have a0 : w1.cell? ⟨w.heap.size + 1 + 1, 0, none⟩ = some (.slice none 0 0) := by rw [(bcell hb1).1 _ _ (by go_size)]; go_simp
  have a1 : w1.cell? ⟨w.heap.size + 1 + 1, 1, none⟩ = some (.slice none 0 0) := by rw [(bcell hb1).1 _ _ (by go_size)]; go_simp
  have a2 : w1.cell? ⟨w.heap.size + 1 + 1, 2, none⟩ = some (.slice none 0 0) := by rw [(bcell hb1).1 _ _ (by go_size)]; go_simp
  have az : ∀ o, w1.frozen? ⟨w.heap.size + 1 + 1, o, none⟩ = false := fun o => by rw [(bcell hb1).2 _ _ (by go_size)]; go_simp
  have b0 : w1.cell? ⟨w.heap.size + 1 + 1 + 1, 0, none⟩ = some (.int .i64 0) := by rw [(bcell hb1).1 _ _ (by go_size)]; go_simp
  have b1 : w1.cell? ⟨w.heap.size + 1 + 1 + 1, 1, none⟩ = some (.int .i64 0) := by rw [(bcell hb1).1 _ _ (by go_size)]; go_simp
  have bz : ∀ o, w1.frozen? ⟨w.heap.size + 1 + 1 + 1, o, none⟩ = false := fun o => by rw [(bcell hb1).2 _ _ (by go_size)]; go_simp
  have HO := hid (hO.mono (b' := w.heap.size + 4) (by simp))
  have HF := hid hF
  have hei0 : (0 : Int) ≤ (ei : Int) := by omega
  have hei4 : (ei : Int) < 4 := by omega
  have HB1 := hid B1
  clear o1 o2 hFl hO hF hb1 HV
  have z2 : w.heap.size < w1.heap.size := by omega
  have z3 : w.heap.size + 1 < w1.heap.size := by omega
  have z4 : w.heap.size + 1 + 1 < w1.heap.size := by omega
  have z5 : w.heap.size + 1 + 1 + 1 < w1.heap.size := by omega
  have s1 := s1
  go_wp2_with fail
  have c0 : ∀ X, (((((w1.setCell ⟨w.heap.size, 0, none⟩ (.slice (some ⟨f, 0, none⟩) 24 c1)).setCell ⟨w.heap.size, 1, none⟩ (.slice (some ⟨g, 0, none⟩) 4 c2)).setCell ⟨w.heap.size, 2, none⟩ (.slice qa2 M.quotes.length qc2)).alloc X) : World).heap.size = w1.heap.size + 1 := fun X => by go_size
  refine wp_gen (fun W => Co W w.heap.size (w.heap.size + 4) w.heap.size w1.heap.size ((ei : Int) + 1) (core0 M pc [r0, r1, r2, r3]) M.encl F (.slice (some ⟨f, 0, none⟩) 24 c1) (.slice (some ⟨g, 0, none⟩) 4 c2) (.slice qa2 M.quotes.length qc2) W ∧ Below w.heap.size w W ∧
    (W.cell? ⟨w.heap.size + 1 + 1, 0, none⟩ = some (.slice none 0 0) ∧ W.cell? ⟨w.heap.size + 1 + 1, 1, none⟩ = some (.slice none 0 0) ∧ W.cell? ⟨w.heap.size + 1 + 1, 2, none⟩ = some (.slice none 0 0) ∧ ∀ o, W.frozen? ⟨w.heap.size + 1 + 1, o, none⟩ = false) ∧
    (W.cell? ⟨w.heap.size + 1 + 1 + 1, 0, none⟩ = some (.int .i64 0) ∧ W.cell? ⟨w.heap.size + 1 + 1 + 1, 1, none⟩ = some (.int .i64 0) ∧ ∀ o, W.frozen? ⟨w.heap.size + 1 + 1 + 1, o, none⟩ = false)) ?_ ?_
  · have K := ((HO.out.low3 (b := w.heap.size) (by omega) (.slice (some ⟨f, 0, none⟩) 24 c1) (.slice (some ⟨g, 0, none⟩) 4 c2) (.slice qa2 M.quotes.length qc2)).below (below_alloc _ (.cells #[.pointer (some ⟨w.heap.size, 0, none⟩), .int .i64 ((ei : Int) + 1), .int .i64 pc, .int .i64 r0, .int .i64 r1, .int .i64 r2, .int .i64 r3] 125)))
    refine ⟨⟨St.start K HF.out (by go_simp) (by go_simp) (by go_simp) (fun o => by go_simp) (fun j n hj => ?_) (fun o => by go_simp) (off_low HO.out (by omega)) (off_new HO.out (Nat.le_refl _)) (by omega) (by go_size) (by go_size) (Nat.le_refl _) (by omega) (by omega) (by go_size), by go_simp, by go_simp, by show _ = some (Value.int .i64 pc); go_simp⟩, ?_, ⟨by go_simp, by go_simp, by go_simp, fun o => by go_simp⟩, ⟨by go_simp, by go_simp, fun o => by go_simp⟩⟩
    · have hj2 : [r0, r1, r2, r3][j]? = some n := hj
      rcases j with _ | _ | _ | _ | j
      · simp at hj2; subst hj2; go_simp
      · simp at hj2; subst hj2; go_simp
      · simp at hj2; subst hj2; go_simp
      · simp at hj2; subst hj2; go_simp
      · simp at hj2
    · exact (below_low3 B1 (Nat.le_refl _) _ _ _).trans ((below_alloc _ _).mono (by go_size))
  clear p0 p1 p2 pz q0 q1 q2 q3 a0 a1 a2 az b0 b1 bz HO HF B1 HB1 z2 z3 z4 z5 s1 c0
  rintro W0 ⟨H0, HB0, ⟨a0, a1, a2, az⟩, ⟨b0, b1, bz⟩⟩
  have HE := hid (show M.encl.length = 4 from HS.out.2.1)
  have H0' := hid H0
  go_loopw [4] (fun j W => ∃ (k : Nat) (D : CoreD) (F : List (FrameD × Value)) (qv : Value), j = .int .i64 k ∧ k ≤ n ∧ Hid (Co W0 w.heap.size (w.heap.size + 4) w.heap.size w1.heap.size ((ei : Int) + 1) D M.encl F (.slice (some ⟨f, 0, none⟩) 24 c1) (.slice (some ⟨g, 0, none⟩) 4 c2) qv W) ∧ Hid (CoreOk D) ∧ Hid (runM ((ei : Int) + 1) y.log n (core0 M pc [r0, r1, r2, r3]) = runM ((ei : Int) + 1) y.log k D)) (fun j _ => (intOf j).toNat)
  case atStart => exact ⟨n, _, F, _, rfl, Nat.le_refl _, H0, HC0.out, rfl⟩
  case round =>
    obtain ⟨k, D, F, qv, rfl, hk, HW, HD, HM⟩ := hrel
    have k0 := HW.out.k0
    have k2 := HW.out.k2
    have cz := HW.out.st.rz
    have hs0 := HW.out.st.hm
    have hs1 := HW.out.st.hr
    have m0 := HW.out.st.m0
    have m1 := HW.out.st.m1
    have m2 := HW.out.st.m2
    obtain ⟨e0, _, _, _, _, _, _, ez⟩ := HW.out.st.own.enclAt HY.out
    have hgc := HW.out.st.od.e g rfl
    have hgm := HW.out.st.om.e g rfl
    rcases k with _ | k
    · obtain ⟨ra, rb, rc, rd, hRd⟩ := regs4 HD.out.regs
      have ka := HW.out.st.kr 0 ra (by rw [hRd]; rfl)
      have kb := HW.out.st.kr 1 rb (by rw [hRd]; rfl)
      have kc := HW.out.st.kr 2 rc (by rw [hRd]; rfl)
      have kd := HW.out.st.kr 3 rd (by rw [hRd]; rfl)
      have HRD := hid hRd
      clear hRd
      go_wp2_with fail
      go_still_tail 12, (by kernel_rfl)
      change wpList _ _ _ _ _ wr.drew
      go_upto_region 15 with fail
      obtain ⟨qa3, qc3, rfl⟩ := own_slice HW.out.st.own.q
      refine act_gen (St W0 w.heap.size (w.heap.size + 4) w.heap.size w1.heap.size 3 D (M.encl.set ei ⟨3, y.log, D.pc, ra, rb, rc, rd⟩) F (.slice (some ⟨f, 0, none⟩) 24 c1) (.slice (some ⟨g, 0, none⟩) 4 c2) (.slice qa3 D.Q.length qc3)) ((HW.out.st.setEncl HE.out HY.out ⟨3, y.log, D.pc, ra, rb, rc, rd⟩).later (below_drew _)) ?_
      clear m0 m1 m2 k0 k2 cz e0 ez ka kb kc kd
      intro W5 H5
      have r0 := H5.m0
      have r1 := H5.m1
      have r2 := H5.m2
      have a0 := H5.kept a0 (by omega) (by omega) (by omega)
      have a1 := H5.kept a1 (by omega) (by omega) (by omega)
      have a2 := H5.kept a2 (by omega) (by omega) (by omega)
      have az := H5.keptZ az (by omega) (by omega) (by omega)
      have b0 := H5.kept b0 (by omega) (by omega) (by omega)
      have b1 := H5.kept b1 (by omega) (by omega) (by omega)
      have bz := H5.keptZ bz (by omega) (by omega) (by omega)
      have hs0 := H5.hm
      have hs1 := H5.hr
      go_wp2_with fail
      exact bodyPost_ret (v := .tuple #[.agg #[.slice (some ⟨f, 0, none⟩) 24 c1, .slice (some ⟨g, 0, none⟩) 4 c2, .slice qa3 D.Q.length qc3], .agg #[.int .i64 2, .int .i64 0]]) (by simp only [results, Tryz.results69]; go_simp) rfl (H5.ret HB0 (Nat.le_refl _) (by omega) (by omega) (by omega) (by omega) (D := D) (y := ⟨3, y.log, D.pc, ra, rb, rc, rd⟩) (by rw [HM.out]; simp [runM, HRD.out]) rfl rfl rfl)
    · go_wp2_with fail
      refine (coreStep W0 w.heap.size (w.heap.size + 4) w.heap.size w1.heap.size ((ei : Int) + 1) D M.encl F _ _ qv y wr HW.out HD.out HE.out ⟨by omega, by omega⟩ (by rw [show ((ei : Int) + 1 - 1).toNat = ei by omega]; exact HY.out)).mono ?_
      rintro x w2 ⟨D', F', qv', o, m, b, hCo, hsz, rfl, hcase⟩
      have hcm := hCo.st.hm
      have hcr := hCo.st.hr
      have k0 := hCo.k0
      have cz := hCo.st.rz
      have m0 := hCo.st.m0
      have m1 := hCo.st.m1
      have m2 := hCo.st.m2
      obtain ⟨e0, e1, e2, e3, e4, e5, e6, ez⟩ := hCo.st.own.enclAt HY.out
      have hgz := (hCo.st.own.e.lt g rfl).2
      obtain ⟨qa3, qc3, rfl⟩ := own_slice hCo.st.own.q
      have HW2 := hid hCo
      clear HW hCo hgm hgc
      have hgm : g ≠ w.heap.size := HW2.out.st.om.e g rfl
      have hgc : g ≠ w1.heap.size := HW2.out.st.od.e g rfl
      have hgn2 : g ≠ w2.heap.size := by omega
      have hgn3 : w2.heap.size ≠ g := by omega
      rcases hcase with ⟨hs, hDF, hDQ, rfl, rfl, rfl⟩ | ⟨hs, rfl, rfl, rfl⟩ | ⟨hs, rfl, rfl⟩
      · have HR := hid (HM.out.trans (runM_none hs))
        have HDF := hid hDF
        have HDQ := hid hDQ
        clear hs hDF hDQ
        go_upto_region 10 with fail
        refine act_gen (St W0 w.heap.size (w.heap.size + 4) w.heap.size w1.heap.size 3 D' (M.encl.set ei ⟨4, y.log, 0, 0, 0, 0, 0⟩) F' (.slice (some ⟨f, 0, none⟩) 24 c1) (.slice (some ⟨g, 0, none⟩) 4 c2) (.slice qa3 D'.Q.length qc3)) ((HW2.out.st.setEncl HE.out HY.out ⟨4, y.log, 0, 0, 0, 0, 0⟩).later (below_alloc _ _)) ?_
        clear m0 m1 m2 k0 cz e0 e1 e2 e3 e4 e5 e6 ez
        intro W5 H5
        have r0 := H5.m0
        have r1 := H5.m1
        have r2 := H5.m2
        have a0 := H5.kept a0 (by omega) (by omega) (by omega)
        have a1 := H5.kept a1 (by omega) (by omega) (by omega)
        have a2 := H5.kept a2 (by omega) (by omega) (by omega)
        have az := H5.keptZ az (by omega) (by omega) (by omega)
        have b0 := H5.kept b0 (by omega) (by omega) (by omega)
        have b1 := H5.kept b1 (by omega) (by omega) (by omega)
        have bz := H5.keptZ bz (by omega) (by omega) (by omega)
        have hs0 := H5.hm
        have hs1 := H5.hr
        go_wp2_with fail
        exact bodyPost_ret (v := .tuple #[.agg #[.slice (some ⟨f, 0, none⟩) 24 c1, .slice (some ⟨g, 0, none⟩) 4 c2, .slice qa3 D'.Q.length qc3], .agg #[.int .i64 3, .int .i64 0]]) (by simp only [results, Tryz.results69]; go_simp) rfl (H5.ret HB0 (Nat.le_refl _) (by omega) (by omega) (by omega) (by omega) (D := D) (y := ⟨4, y.log, 0, 0, 0, 0, 0⟩) HR.out HDF.out HDQ.out rfl)
      · have HR := hid (HM.out.trans (runM_go hs))
        have HD2 := hid (stepM_ok HD.out hs).1
        clear hs
        go_wp2_with fail
        go_roundw
        case rel => exact ⟨k, D', F', _, by go_num, by omega, HW2.out.later (below_alloc _ _), HD2.out, HR.out⟩
        case measure => simp [intOf]
      · have HR := hid (HM.out.trans (runM_exit hs))
        clear hs
        go_upto_region 13 with fail
        refine act_gen (fun W => St W0 w.heap.size (w.heap.size + 4) w.heap.size w1.heap.size 3 D' (M.encl.set ei ⟨2, y.log, 0, 0, 0, 0, 0⟩) F' (.slice (some ⟨f, 0, none⟩) 24 c1) (.slice (some ⟨g, 0, none⟩) 4 c2) (.slice qa3 D'.Q.length qc3) W ∧ W.cell? ⟨w2.heap.size, 0, none⟩ = some (.int .i64 1) ∧ W.cell? ⟨w2.heap.size, 1, none⟩ = some (.int .i64 m)) ⟨(HW2.out.st.setEncl HE.out HY.out ⟨2, y.log, 0, 0, 0, 0, 0⟩).later (below_alloc _ _), by go_simp, by go_simp⟩ ?_
        clear m0 m1 m2 k0 cz e0 e1 e2 e3 e4 e5 e6 ez
        rintro W5 ⟨H5, t0, t1⟩
        have r0 := H5.m0
        have r1 := H5.m1
        have r2 := H5.m2
        have a0 := H5.kept a0 (by omega) (by omega) (by omega)
        have a1 := H5.kept a1 (by omega) (by omega) (by omega)
        have a2 := H5.kept a2 (by omega) (by omega) (by omega)
        have az := H5.keptZ az (by omega) (by omega) (by omega)
        have b0 := H5.kept b0 (by omega) (by omega) (by omega)
        have b1 := H5.kept b1 (by omega) (by omega) (by omega)
        have bz := H5.keptZ bz (by omega) (by omega) (by omega)
        have hs0 := H5.hm
        have hs1 := H5.hr
        have hx1 : w2.heap.size ≠ w.heap.size + 1 + 1 := by omega
        have hx2 : w2.heap.size ≠ w.heap.size + 1 + 1 + 1 := by omega
        go_wp2_with fail
        go_region_held3 (fun w' => w'.cell? ⟨w.heap.size, 0, none⟩ = some (.slice (some ⟨f, 0, none⟩) 24 c1) ∧ w'.cell? ⟨w.heap.size, 1, none⟩ = some (.slice (some ⟨g, 0, none⟩) 4 c2) ∧ w'.cell? ⟨w.heap.size, 2, none⟩ = some (.slice qa3 D'.Q.length qc3) ∧ w'.cell? ⟨w2.heap.size, 0, none⟩ = some (.int .i64 1) ∧ w'.cell? ⟨w2.heap.size, 1, none⟩ = some (.int .i64 m))
          (refine ⟨?_, ?_, ?_, ?_, ?_⟩ <;> (go_simp; done))
          (fail)
        go_wp2_with fail
        exact bodyPost_ret (v := .tuple #[.agg #[.slice (some ⟨f, 0, none⟩) 24 c1, .slice (some ⟨g, 0, none⟩) 4 c2, .slice qa3 D'.Q.length qc3], .agg #[.int .i64 1, .int .i64 m]]) (by simp only [results, Tryz.results69]; go_simp) rfl (RunRes.drew (H5.ret HB0 (Nat.le_refl _) (by omega) (by omega) (by omega) (by omega) (D := D') (y := ⟨2, y.log, 0, 0, 0, 0, 0⟩) HR.out rfl rfl rfl))

end Go.Proofs.YtklbbjionoeofaaGreatDoor
