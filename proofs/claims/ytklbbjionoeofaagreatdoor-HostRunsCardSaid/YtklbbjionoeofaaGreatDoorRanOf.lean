/- ref.ranOf, walked. Conditions: those that the contract writes. -/
import Derived.Test.YtklbbjionoeofaaGreatDoorGm
import Derived.Test.YtklbbjionoeofaaGreatDoorRefMachCopy
import Derived.StillTailTactics
namespace Go.Proofs.YtklbbjionoeofaaGreatDoor
open Go.RowKit

set_option linter.unusedSimpArgs false in
set_option maxRecDepth 10000 in
set_option maxHeartbeats 6400000 in
theorem refRan (v : Value) (M : MachD) (ei : Nat) (pc r0 r1 r2 r3 : Int) (n : Nat) (y : EnclD) (w : World) (hv : MachAt w v M) (hf : M.Fits) (hm : machF M = 0) (hy : M.encl[ei]? = some y) (hp : 0 ≤ pc ∧ pc ≤ 65535)
    (hR : ∀ (k : Nat) (m : Int), [r0, r1, r2, r3][k]? = some m → 0 ≤ m ∧ m ≤ 65535) (hn : n ≤ 5000) :
    Calls Tryz.prog 55 #[v, .int .i64 ((ei : Int) + 1), .int .i64 pc, .agg #[.int .i64 r0, .int .i64 r1, .int .i64 r2, .int .i64 r3], .int .i64 n] w (RunRes M ei (runM ((ei : Int) + 1) y.log n (core0 M pc [r0, r1, r2, r3])) w) := by
  have HV := hid hv
  obtain ⟨fa, fc, ea, ec, qa, qc, rfl, _, _, _, _⟩ := hv
  have HS := hid (machF_sizes hm)
  have HC0 := hid (core0_ok hm hp rfl hR)
  have hei : ei < 4 := by have := (List.getElem?_eq_some_iff.1 hy).1; have := HS.out.2.1; omega
  have HY := hid hy
  clear hm hp hR hy
  go_enter Tryz.func55, Tryz.ntmps55
  go_wp2_with fail
  refine (refMachCopy _ M _ hf (HV.out.mono (by go_grown))).mono ?_
  rintro x w1 ⟨fv, ev, qv, F, rfl, hF, hO, hb1⟩
  have hFl : F.length = 24 := by rw [← HS.out.1, ← hF, List.length_map]
  have o1 := hO.f.row
  rw [hFl] at o1
  obtain ⟨f, c1, rfl, _, _⟩ := own_some o1 (by decide)
  have o2 := hO.e
  rw [HS.out.2.1] at o2
  obtain ⟨g, c2, rfl, hg1, hg2⟩ := own_some o2 (by decide)
  obtain ⟨qa2, qc2, rfl⟩ := own_slice hO.q
  have B1 : Below w.heap.size w w1 := Below.trans (by go_grown) (hb1.mono (by go_size))
  have z1 : w.heap.size + 3 < w1.heap.size := by have := hb1.size; simp at this; omega
  have q0 : w1.cell? ⟨w.heap.size + 1, 0, none⟩ = some (.int .i64 r0) := by rw [(bcell hb1).1 _ _ (by go_size)]; go_simp
  have q1 : w1.cell? ⟨w.heap.size + 1, 1, none⟩ = some (.int .i64 r1) := by rw [(bcell hb1).1 _ _ (by go_size)]; go_simp
  have q2 : w1.cell? ⟨w.heap.size + 1, 2, none⟩ = some (.int .i64 r2) := by rw [(bcell hb1).1 _ _ (by go_size)]; go_simp
  have q3 : w1.cell? ⟨w.heap.size + 1, 3, none⟩ = some (.int .i64 r3) := by rw [(bcell hb1).1 _ _ (by go_size)]; go_simp
  have qz : ∀ o, w1.frozen? ⟨w.heap.size + 1, o, none⟩ = false := fun o => by rw [(bcell hb1).2 _ _ (by go_size)]; go_simp
  have a0 : w1.cell? ⟨w.heap.size + 1 + 1, 0, none⟩ = some (.slice none 0 0) := by rw [(bcell hb1).1 _ _ (by go_size)]; go_simp
  have a1 : w1.cell? ⟨w.heap.size + 1 + 1, 1, none⟩ = some (.slice none 0 0) := by rw [(bcell hb1).1 _ _ (by go_size)]; go_simp
  have a2 : w1.cell? ⟨w.heap.size + 1 + 1, 2, none⟩ = some (.slice none 0 0) := by rw [(bcell hb1).1 _ _ (by go_size)]; go_simp
  have az : ∀ o, w1.frozen? ⟨w.heap.size + 1 + 1, o, none⟩ = false := fun o => by rw [(bcell hb1).2 _ _ (by go_size)]; go_simp
  have b0 : w1.cell? ⟨w.heap.size + 1 + 1 + 1, 0, none⟩ = some (.int .i64 0) := by rw [(bcell hb1).1 _ _ (by go_size)]; go_simp
  have b1 : w1.cell? ⟨w.heap.size + 1 + 1 + 1, 1, none⟩ = some (.int .i64 0) := by rw [(bcell hb1).1 _ _ (by go_size)]; go_simp
  have bz : ∀ o, w1.frozen? ⟨w.heap.size + 1 + 1 + 1, o, none⟩ = false := fun o => by rw [(bcell hb1).2 _ _ (by go_size)]; go_simp
  have HO := hid (hO.mono (b' := w.heap.size + 4) (by simp))
  have HF := hid hF
  have hei0 : (0 : Int) ≤ (ei : Int) := by omega
  have hei4 : (ei : Int) < 4 := by omega
  have hwe : IntKind.i64.wrap ((ei : Int) + 1 - 1) = ei := by rw [IntKind.wrap_i64]; omega
  have hwe2 : IntKind.i64.wrap (ei : Int) = ei := by rw [IntKind.wrap_i64]; omega
  clear o1 o2 hFl hO hF hb1 HV
  have z2 : w.heap.size < w1.heap.size := by omega
  have z3 : w.heap.size + 1 < w1.heap.size := by omega
  have z4 : w.heap.size + 1 + 1 < w1.heap.size := by omega
  have z5 : w.heap.size + 1 + 1 + 1 < w1.heap.size := by omega
  rw [HS.out.2.1]
  go_wp2_with fail
  refine wp_gen (fun W => St W w.heap.size (w.heap.size + 4) w1.heap.size (w.heap.size + 1) 0 (core0 M pc [r0, r1, r2, r3]) M.encl F (.slice (some ⟨f, 0, none⟩) 24 c1) (.slice (some ⟨g, 0, none⟩) 4 c2) (.slice qa2 M.quotes.length qc2) W ∧ Below w.heap.size w W ∧
    (W.cell? ⟨w.heap.size + 1 + 1, 0, none⟩ = some (.slice none 0 0) ∧ W.cell? ⟨w.heap.size + 1 + 1, 1, none⟩ = some (.slice none 0 0) ∧ W.cell? ⟨w.heap.size + 1 + 1, 2, none⟩ = some (.slice none 0 0) ∧ ∀ o, W.frozen? ⟨w.heap.size + 1 + 1, o, none⟩ = false) ∧
    (W.cell? ⟨w.heap.size + 1 + 1 + 1, 0, none⟩ = some (.int .i64 0) ∧ W.cell? ⟨w.heap.size + 1 + 1 + 1, 1, none⟩ = some (.int .i64 0) ∧ ∀ o, W.frozen? ⟨w.heap.size + 1 + 1 + 1, o, none⟩ = false)) ?_ ?_
  · have K := HO.out.below (below_alloc _ (.cells #[.slice (some ⟨f, 0, none⟩) 24 c1, .slice (some ⟨g, 0, none⟩) 4 c2, .slice qa2 M.quotes.length qc2] 29))
    refine ⟨St.start K HF.out (by go_simp) (by go_simp) (by go_simp) (fun o => by go_simp) (fun j n hj => ?_) (fun o => by go_simp) (off_new HO.out (Nat.le_refl _)) (off_low HO.out (by omega)) (by omega) (by go_size) (by go_size) (by omega) (by omega) (by omega) (by go_size), ?_, ⟨by go_simp, by go_simp, by go_simp, fun o => by go_simp⟩, ⟨by go_simp, by go_simp, fun o => by go_simp⟩⟩
    · have hj2 : [r0, r1, r2, r3][j]? = some n := hj
      rcases j with _ | _ | _ | _ | j
      · simp at hj2; subst hj2; go_simp
      · simp at hj2; subst hj2; go_simp
      · simp at hj2; subst hj2; go_simp
      · simp at hj2; subst hj2; go_simp
      · simp at hj2
    · exact B1.trans ((below_alloc _ _).mono B1.size)
  clear q0 q1 q2 q3 qz a0 a1 a2 az b0 b1 bz HO HF B1 z2 z3 z4 z5
  rintro W0 ⟨H0, HB0, ⟨a0, a1, a2, az⟩, ⟨b0, b1, bz⟩⟩
  have HE := hid (show M.encl.length = 4 from HS.out.2.1)
  have H0' := hid H0
  go_loopw [2, 4] (fun p j W => ∃ (k : Nat) (D : CoreD) (F : List (FrameD × Value)) (qv : Value), j = .int .i64 k ∧ p = .int .i64 D.pc ∧ k ≤ n ∧ Hid (St W0 w.heap.size (w.heap.size + 4) w1.heap.size (w.heap.size + 1) 0 D M.encl F (.slice (some ⟨f, 0, none⟩) 24 c1) (.slice (some ⟨g, 0, none⟩) 4 c2) qv W) ∧ Hid (CoreOk D) ∧ Hid (runM ((ei : Int) + 1) y.log n (core0 M pc [r0, r1, r2, r3]) = runM ((ei : Int) + 1) y.log k D)) (fun _ j _ => (intOf j).toNat)
  case atStart => exact ⟨n, _, F, _, rfl, rfl, Nat.le_refl _, H0, HC0.out, rfl⟩
  case round =>
    obtain ⟨k, D, F, qv, rfl, rfl, hk, HW, HD, HM⟩ := hrel
    obtain ⟨qa3, qc3, rfl⟩ := own_slice HW.out.own.q
    have plo := HD.out.lo
    have phi := HD.out.hi
    have hs0 := HW.out.hm
    have hs1 := HW.out.hr
    have m0 := HW.out.m0
    have m1 := HW.out.m1
    have m2 := HW.out.m2
    have cz := HW.out.rz
    obtain ⟨e0, e1, e2, e3, e4, e5, e6, ez⟩ := HW.out.own.enclAt HY.out
    have hgc := HW.out.od.e g rfl
    have hgm := HW.out.om.e g rfl
    rcases k with _ | k
    · obtain ⟨ra, rb, rc, rd, hRd⟩ := regs4 HD.out.regs
      have ka := HW.out.kr 0 ra (by rw [hRd]; rfl)
      have kb := HW.out.kr 1 rb (by rw [hRd]; rfl)
      have kc := HW.out.kr 2 rc (by rw [hRd]; rfl)
      have kd := HW.out.kr 3 rd (by rw [hRd]; rfl)
      simp only [Nat.zero_add] at ka kb kc kd
      have HRD := hid hRd
      clear hRd
      go_upto_region 51 with fail
      go_still_tail 14, (by kernel_rfl)
      change wpList _ _ _ _ _ (World.drew _)
      go_upto_region 52 with fail
      have K := HW.out.setEncl HE.out HY.out ⟨3, y.log, D.pc, ra, rb, rc, rd⟩
      have K2 := K.later (below_drew _)
      with_reducible refine act_gen (St W0 w.heap.size (w.heap.size + 4) w1.heap.size (w.heap.size + 1) 0 D (M.encl.set ei ⟨3, y.log, D.pc, ra, rb, rc, rd⟩) F (.slice (some ⟨f, 0, none⟩) 24 c1) (.slice (some ⟨g, 0, none⟩) 4 c2) (.slice qa3 D.Q.length qc3)) ?_ ?_
      · exact K2
      clear K K2
      clear m0 m1 m2 cz hs0 hs1 e0 e1 e2 e3 e4 e5 e6 ez ka kb kc kd
      intro W5 H5
      have r0 := H5.m0
      have r1 := H5.m1
      have r2 := H5.m2
      have a0 := H5.kept a0 (by omega) (by omega) (by omega)
      have a1 := H5.kept a1 (by omega) (by omega) (by omega)
      have a2 := H5.kept a2 (by omega) (by omega) (by omega)
      have az := H5.keptZ az (by omega) (by omega) (by omega)
      have b0 := H5.kept b0 (by omega) (by omega) (by omega)
      have b1 := H5.kept b1 (by omega) (by omega) (by omega)
      have bz := H5.keptZ bz (by omega) (by omega) (by omega)
      have hs0 := H5.hm
      have hs1 := H5.hr
      go_wp2_with fail
      exact bodyPost_ret (v := .tuple #[.agg #[.slice (some ⟨f, 0, none⟩) 24 c1, .slice (some ⟨g, 0, none⟩) 4 c2, .slice qa3 D.Q.length qc3], .agg #[.int .i64 2, .int .i64 0]]) (by simp only [results, Tryz.results55]; go_simp) rfl (H5.ret HB0 (Nat.le_refl _) (by omega) (by omega) (by omega) (by omega) (D := D) (y := ⟨3, y.log, D.pc, ra, rb, rc, rd⟩) (by rw [HM.out]; simp [runM, HRD.out]) rfl rfl rfl)
    · have hw1 : IntKind.i64.wrap (D.pc + 1) = D.pc + 1 := by rw [IntKind.wrap_i64]; omega
      have hw2 : IntKind.i64.wrap (D.pc + 2) = D.pc + 2 := by rw [IntKind.wrap_i64]; omega
      go_wp2_with fail
      refine (refCell HW.out HD.out ((ei : Int) + 1) D.pc 4 plo (by omega) (.inr (.inr rfl))).mono ?_
      rintro x w2 ⟨f1, j1, ok1, rfl, hy1, hn1, hb2⟩
      have S2 := hid (HW.out.later hb2)
      replace m0 := S2.out.m0
      replace m1 := S2.out.m1
      replace m2 := S2.out.m2
      replace cz := S2.out.rz
      have HY1 := hid hy1
      have HN1 := hid hn1
      clear hy1 hn1 hb2 e0 e1 e2 e3 e4 e5 e6 ez
      go_wp2_with fail
      refine (refCell S2.out HD.out ((ei : Int) + 1) (D.pc + 1) 4 (by omega) (by omega) (.inr (.inr rfl))).mono ?_
      rintro x w3 ⟨f2, j2, ok2, rfl, hy2, hn2, hb3⟩
      have S3 := hid (S2.out.later hb3)
      replace m0 := S3.out.m0
      replace m1 := S3.out.m1
      replace m2 := S3.out.m2
      replace cz := S3.out.rz
      replace hs0 := S3.out.hm
      replace hs1 := S3.out.hr
      have X3 := hid (Rx.of S3.out 52)
      clear hb3
      go_upto_region 7 with fail
      with_reducible refine act_gen (Rx W0 w.heap.size (w.heap.size + 4) w1.heap.size (w.heap.size + 1) 0 w3.heap.size D M.encl F (.slice (some ⟨f, 0, none⟩) 24 c1) (.slice (some ⟨g, 0, none⟩) 4 c2) (.slice qa3 D.Q.length qc3) 0 0) ?_ ?_
      · exact X3.out
      clear m0 m1 m2 cz hs0 hs1 X3 S3 S2
      intro W4 X4
      have m0 := X4.st.m0
      have m1 := X4.st.m1
      have m2 := X4.st.m2
      have mz := X4.st.mz
      have cz := X4.st.rz
      have hs0 := X4.st.hm
      have hs1 := X4.st.hr
      have hs2 := X4.z
      have n0 := X4.g0
      have n1 := X4.g1
      have nz := X4.gz
      have nm := X4.nm
      have nr := X4.nr
      have nm2 : w1.heap.size ≠ w3.heap.size := fun e => nm e.symm
      have nr2 : w.heap.size + 1 ≠ w3.heap.size := fun e => nr e.symm
      obtain ⟨e0, e1, e2, e3, e4, e5, e6, ez⟩ := X4.st.own.enclAt HY.out
      have X4 := hid X4
      go_cut [58] from 55 to 58 (fun t58 wc => t58 = .bool (ok1 && ok2) ∧ wc = W4)
      case first =>
        cases ok1 <;> cases ok2
        all_goals
          go_wp2_with fail
          go_meet
          exact ⟨rfl, rfl⟩
      case rest =>
      obtain ⟨rfl, rfl⟩ := hcut
      go_upto_if 58 with fail
      go_cut [2, 15] from 33 to 245 (fun p ok wc => ∃ (D' : CoreD) (F' : List (FrameD × Value)) (qv' : Value) (okb : Bool) (o m : Int), p = .int .i64 D'.pc ∧ ok = .bool okb ∧ Hid (Rx W0 w.heap.size (w.heap.size + 4) w1.heap.size (w.heap.size + 1) 0 w3.heap.size D' M.encl F' (.slice (some ⟨f, 0, none⟩) 24 c1) (.slice (some ⟨g, 0, none⟩) 4 c2) qv' o m wc) ∧
        ((D'.F = D.F ∧ D'.Q = D.Q ∧ o = 0 ∧ (okb && ok2) = false ∧ stepM ((ei : Int) + 1) y.log D = none) ∨ ((okb && ok2) = true ∧ o = 0 ∧ stepM ((ei : Int) + 1) y.log D = some (D', none)) ∨ ((okb && ok2) = true ∧ o = 1 ∧ stepM ((ei : Int) + 1) y.log D = some (D', some m))))
      case first =>
        cases hc1 : cellOf D.F ((ei : Int) + 1) D.pc 4 with
        | none =>
          obtain rfl := HN1.out hc1
          have HR := stepM_no1 (g := y.log) hc1
          clear HY1 HN1 hy2 hn2 hc1
          rw [Bool.false_and]
          go_wp2_with fail
          go_meet
          exact ⟨D, F, _, false, 0, 0, rfl, rfl, X4, .inl ⟨rfl, rfl, rfl, by simp, HR⟩⟩
        | some cc1 =>
        obtain ⟨i1, k1⟩ := cc1
        obtain ⟨rfl, rfl, rfl⟩ := HY1.out _ hc1
        cases hc2 : cellOf D.F ((ei : Int) + 1) (D.pc + 1) 4 with
        | none =>
          obtain rfl := hn2 hc2
          have HR := stepM_no2 (g := y.log) hc2
          clear HY1 HN1 hy2 hn2 hc1 hc2
          rw [Bool.and_false]
          go_wp2_with fail
          go_meet
          exact ⟨D, F, _, true, 0, 0, rfl, rfl, X4, .inl ⟨rfl, rfl, rfl, by simp, HR⟩⟩
        | some cc2 =>
          obtain ⟨i2, k2⟩ := cc2
          obtain ⟨rfl, rfl, rfl⟩ := hy2 _ hc2
          rw [Bool.and_self]
          obtain ⟨y1, g1, q1, v1, hm1, _, hu1, hv1, l1, u1, l1c, l1z, i1b, k1b, l1s⟩ := X4.out.st.word HD.out hc1 plo
          obtain ⟨y2, g2, q2, v2, hm2, _, hu2, hv2, l2, u2, l2c, l2z, i2b, k2b, l2s⟩ := X4.out.st.word HD.out hc2 (by omega)
          have hp64 := cellOf_run hc1
          have HR : Hid (stepM ((ei : Int) + 1) y.log D = opM ((ei : Int) + 1) y.log D v1 v2) := by show _ = _; rw [stepM_at hc1 hc2, hv1, hv2]
          obtain ⟨ai, hai⟩ : ∃ ai : Nat, v1 / 16 % 4 = ai := ⟨(v1 / 16 % 4).toNat, by omega⟩
          obtain ⟨bi, hbi⟩ : ∃ bi : Nat, v1 / 256 % 4 = bi := ⟨(v1 / 256 % 4).toNat, by omega⟩
          have ai4 : (ai : Int) < 4 := by omega
          have bi4 : (bi : Int) < 4 := by omega
          obtain ⟨av, hav⟩ : ∃ av, D.R[ai]? = some av := ⟨_, List.getElem?_eq_getElem (by have := HD.out.regs; omega)⟩
          obtain ⟨bv, hbv⟩ : ∃ bv, D.R[bi]? = some bv := ⟨_, List.getElem?_eq_getElem (by have := HD.out.regs; omega)⟩
          have kb := X4.out.st.kr bi bv hbv
          have ka := X4.out.st.kr ai av hav
          rw [Nat.zero_add] at kb ka
          obtain ⟨a0', a1'⟩ := HD.out.rw ai av hav
          obtain ⟨b0', b1'⟩ := HD.out.rw bi bv hbv
          have HAV := hid hav
          have HBV := hid hbv
          clear HY1 HN1 hy2 hn2 hc1 hc2 hm1 hm2 hu1 hu2 hv1 hv2 hav hbv
          go_upto_region 13 with fail
          clear kb l1c l1z l1s l2c l2z l2s i1b k1b i2b k2b
          by_cases o1 : v1 % 16 = 1
          · as_aux_lemma =>
              have hs := HR.out.trans (opM_1 hai o1)
              clear HR
              go_wp2_with fail
              go_meet
              exact ⟨{ D with pc := D.pc + 2, R := D.R.set ai v2 }, F, _, true, 0, 0, rfl, rfl, hid ((X4.out.setR (Nat.zero_add ai).symm v2).pc (D.pc + 2)), .inr (.inl ⟨rfl, rfl, hs⟩)⟩
          by_cases o2 : v1 % 16 = 2
          · as_aux_lemma =>
              have hs := HR.out.trans (opM_2 hai hbi HAV.out HBV.out o2)
              clear HR
              go_wp2_with fail
              go_meet
              exact ⟨{ D with pc := D.pc + 2, R := D.R.set ai ((av + bv) % 65536) }, F, _, true, 0, 0, rfl, rfl, hid ((X4.out.setR (Nat.zero_add ai).symm _).pc (D.pc + 2)), .inr (.inl ⟨rfl, rfl, hs⟩)⟩
          by_cases o3 : v1 % 16 = 3
          · as_aux_lemma =>
              have hs := HR.out.trans (opM_3 hai hbi HAV.out HBV.out o3)
              clear HR
              go_wp2_with fail
              go_meet
              exact ⟨{ D with pc := D.pc + 2, R := D.R.set ai (bits .xor .i64 av bv) }, F, _, true, 0, 0, rfl, rfl, hid ((X4.out.setR (Nat.zero_add ai).symm _).pc (D.pc + 2)), .inr (.inl ⟨rfl, rfl, hs⟩)⟩
          by_cases o4 : v1 % 16 = 4
          · as_aux_lemma =>
              have hs := HR.out.trans (opM_4 hai hbi HAV.out HBV.out o4)
              clear HR
              by_cases hab : av < bv
              · rw [if_pos hab] at hs
                go_wp2_with fail
                go_meet
                have X5 := ((X4.out.setR (Nat.zero_add ai).symm 0).setR (Nat.zero_add ai).symm 1).pc (D.pc + 2)
                simp only [List.set_set] at X5
                exact ⟨{ D with pc := D.pc + 2, R := D.R.set ai 1 }, F, _, true, 0, 0, rfl, rfl, X5, .inr (.inl ⟨rfl, rfl, hs⟩)⟩
              · rw [if_neg hab] at hs
                go_wp2_with fail
                go_meet
                exact ⟨{ D with pc := D.pc + 2, R := D.R.set ai 0 }, F, _, true, 0, 0, rfl, rfl, hid ((X4.out.setR (Nat.zero_add ai).symm 0).pc (D.pc + 2)), .inr (.inl ⟨rfl, rfl, hs⟩)⟩
          by_cases o7 : v1 % 16 = 7
          · as_aux_lemma =>
              have hs := HR.out.trans (opM_7 hai HAV.out o7)
              clear HR
              by_cases h0 : av = 0
              · have h0b : (av == 0) = true := by simp [h0]
                rw [if_pos h0] at hs
                clear h0
                go_wp2_with fail
                go_meet
                exact ⟨{ D with pc := v2 }, F, _, true, 0, 0, rfl, rfl, hid (X4.out.pc v2), .inr (.inl ⟨rfl, rfl, hs⟩)⟩
              · have h0b : (av == 0) = false := by simp [h0]
                rw [if_neg h0] at hs
                clear h0
                go_wp2_with fail
                go_meet
                exact ⟨{ D with pc := D.pc + 2 }, F, _, true, 0, 0, rfl, rfl, hid (X4.out.pc (D.pc + 2)), .inr (.inl ⟨rfl, rfl, hs⟩)⟩
          by_cases o8 : v1 % 16 = 8
          · as_aux_lemma =>
              have hs := HR.out.trans (opM_8 hai HAV.out o8)
              clear HR
              go_wp2_with fail
              go_meet
              have XK := hid ((X4.out.setO 1 av).pc (D.pc + 2))
              exact ⟨{ D with pc := D.pc + 2 }, F, _, true, 1, av, rfl, rfl, XK, .inr (.inr ⟨rfl, rfl, hs⟩)⟩
          by_cases o5 : v1 % 16 = 5
          · as_aux_lemma =>
              have HS5 := hid (HR.out.trans (opM_5 hai hbi HBV.out o5))
              clear HR
              go_wp2_with fail
              refine (refCell X4.out.st HD.out ((ei : Int) + 1) bv 1 b0' (by omega) (.inl rfl)).mono ?_
              rintro x w5 ⟨f5, j5, ok5, rfl, hy5, hn5, hb5⟩
              dsimp only
              have X5 := X4.out.later hb5
              clear m0 m1 m2 mz cz hs0 hs1 hs2 n0 n1 nz nm nr nm2 nr2 e0 e1 e2 e3 e4 e5 e6 ez ka
              have X4 := X5
              have m0 := X4.st.m0
              have m1 := X4.st.m1
              have m2 := X4.st.m2
              have mz := X4.st.mz
              have cz := X4.st.rz
              have hs0 := X4.st.hm
              have hs1 := X4.st.hr
              have hs2 := X4.z
              have n0 := X4.g0
              have n1 := X4.g1
              have nz := X4.gz
              have nm := X4.nm
              have nr := X4.nr
              have nm2 : w1.heap.size ≠ w3.heap.size := fun e => nm e.symm
              have nr2 : w.heap.size + 1 ≠ w3.heap.size := fun e => nr e.symm
              obtain ⟨e0, e1, e2, e3, e4, e5, e6, ez⟩ := X4.st.own.enclAt HY.out
              have ka := X4.st.kr ai av HAV.out
              rw [Nat.zero_add] at ka
              have X5 := hid X5
              clear X4 hb5
              cases hc5 : cellOf D.F ((ei : Int) + 1) bv 1 with
              | none =>
                obtain rfl := hn5 hc5
                have HS6 : Hid (stepM ((ei : Int) + 1) y.log D = none) := by show _ = _; rw [HS5.out, hc5]
                clear hy5 hn5 hc5 HS5
                go_wp2_with fail
                go_meet
                have XK := hid (X5.out.pc (D.pc + 2))
                exact ⟨{ D with pc := D.pc + 2 }, F, _, false, 0, 0, rfl, rfl, XK, .inl ⟨rfl, rfl, rfl, by simp, HS6.out⟩⟩
              | some cc5 =>
                obtain ⟨i5, k5⟩ := cc5
                obtain ⟨rfl, rfl, rfl⟩ := hy5 _ hc5
                obtain ⟨y5, g5, q5, v5, hm5, _, hu5, hv5, l5, u5, l5c, l5z, i5b, k5b, l5s⟩ := X5.out.st.word HD.out hc5 b0'
                have HS6 : Hid (stepM ((ei : Int) + 1) y.log D = some ({ D with pc := D.pc + 2, R := D.R.set ai v5 }, none)) := by show _ = _; rw [HS5.out, hc5]; simp only [hv5]
                clear hy5 hn5 hc5 hm5 hu5 hv5 HS5
                go_wp2_with fail
                go_meet
                have XK := hid ((X5.out.setR (Nat.zero_add ai).symm v5).pc (D.pc + 2))
                exact ⟨{ D with pc := D.pc + 2, R := D.R.set ai v5 }, F, _, true, 0, 0, rfl, rfl, XK, .inr (.inl ⟨rfl, rfl, HS6.out⟩)⟩
          by_cases o6 : v1 % 16 = 6
          · as_aux_lemma =>
              have HS5 := hid (HR.out.trans (opM_6 hai hbi HAV.out HBV.out o6))
              clear HR
              go_wp2_with fail
              refine (refCell X4.out.st HD.out ((ei : Int) + 1) bv 2 b0' (by omega) (.inr (.inl rfl))).mono ?_
              rintro x w5 ⟨f5, j5, ok5, rfl, hy5, hn5, hb5⟩
              dsimp only
              have X5 := X4.out.later hb5
              clear m0 m1 m2 mz cz hs0 hs1 hs2 n0 n1 nz nm nr nm2 nr2 e0 e1 e2 e3 e4 e5 e6 ez ka
              have X4 := X5
              have m0 := X4.st.m0
              have m1 := X4.st.m1
              have m2 := X4.st.m2
              have mz := X4.st.mz
              have cz := X4.st.rz
              have hs0 := X4.st.hm
              have hs1 := X4.st.hr
              have hs2 := X4.z
              have n0 := X4.g0
              have n1 := X4.g1
              have nz := X4.gz
              have nm := X4.nm
              have nr := X4.nr
              have nm2 : w1.heap.size ≠ w3.heap.size := fun e => nm e.symm
              have nr2 : w.heap.size + 1 ≠ w3.heap.size := fun e => nr e.symm
              obtain ⟨e0, e1, e2, e3, e4, e5, e6, ez⟩ := X4.st.own.enclAt HY.out
              have ka := X4.st.kr ai av HAV.out
              rw [Nat.zero_add] at ka
              have X5 := hid X5
              clear X4 hb5
              cases hc5 : cellOf D.F ((ei : Int) + 1) bv 2 with
              | none =>
                obtain rfl := hn5 hc5
                have HS6 : Hid (stepM ((ei : Int) + 1) y.log D = none) := by show _ = _; rw [HS5.out, hc5]
                clear hy5 hn5 hc5 HS5
                go_wp2_with fail
                go_meet
                have XK := hid (X5.out.pc (D.pc + 2))
                exact ⟨{ D with pc := D.pc + 2 }, F, _, false, 0, 0, rfl, rfl, XK, .inl ⟨rfl, rfl, rfl, by simp, HS6.out⟩⟩
              | some cc5 =>
                obtain ⟨i5, k5⟩ := cc5
                obtain ⟨rfl, rfl, rfl⟩ := hy5 _ hc5
                obtain ⟨y5, g5, q5, v5, hm5, hy58, hu5, hv5, l5, u5, l5c, l5z, i5b, k5b, l5s⟩ := X5.out.st.word HD.out hc5 b0'
                have HS6 : Hid (stepM ((ei : Int) + 1) y.log D = some ({ D with pc := D.pc + 2, F := setWord D.F (i5, k5) av }, none)) := by show _ = _; rw [HS5.out, hc5]
                have HM5 := hid hm5
                have HY5 := hid hy58
                clear hy5 hn5 hc5 hm5 hu5 hv5 hy58 HS5
                go_wp2_with fail
                go_still_tail 10, (by kernel_rfl)
                change wpList _ _ _ _ _ w5.drew
                go_wp2_with fail
                go_meet
                exact ⟨{ D with pc := D.pc + 2, F := setWord D.F (i5, k5) av }, _, _, true, 0, 0, rfl, rfl, ((X5.out.setW HY5.out HM5.out).later (below_drew _)).pc (D.pc + 2), .inr (.inl ⟨rfl, rfl, HS6.out⟩)⟩
          by_cases o9 : v1 % 16 = 9
          · as_aux_lemma =>
              have HS5 := hid (HR.out.trans (opM_9 hai HAV.out o9))
              clear HR
              by_cases hq : D.Q.length = 40
              · have HS6 : Hid (stepM ((ei : Int) + 1) y.log D = none) := by show _ = _; rw [HS5.out, if_pos hq]
                have hqb : decide ((D.Q.length : Int) < 40) = false := by rw [decide_eq_false_iff_not]; omega
                clear hq HS5
                go_wp2_with fail
                go_meet
                have XK := hid (X4.out.pc (D.pc + 2))
                exact ⟨{ D with pc := D.pc + 2 }, F, _, false, 0, 0, rfl, rfl, XK, .inl ⟨rfl, rfl, rfl, by simp, HS6.out⟩⟩
              · have HS6 : Hid (stepM ((ei : Int) + 1) y.log D = some ({ D with pc := D.pc + 2, Q := D.Q ++ [⟨y.log, av⟩] }, none)) := by show _ = _; rw [HS5.out, if_neg hq]
                have hqb : decide ((D.Q.length : Int) < 40) = true := by rw [decide_eq_true_iff]; have := HD.out.q; omega
                have hql := HD.out.q
                clear hq HS5
                obtain ⟨i0, hi0, hz0, hz1, hz2⟩ := info_parts infoQuotes
                go_upto_region 44 with fail
                with_reducible refine act_gen (Rx W0 w.heap.size (w.heap.size + 4) w1.heap.size (w.heap.size + 1) 0 w3.heap.size D M.encl F (.slice (some ⟨f, 0, none⟩) 24 c1) (.slice (some ⟨g, 0, none⟩) 4 c2) (.slice qa3 D.Q.length qc3) 0 0) ?_ ?_
                · exact X4.out
                clear m0 m1 m2 mz cz hs0 hs1 hs2 n0 n1 nz nm nr nm2 nr2 e0 e1 e2 e3 e4 e5 e6 ez ka
                intro W5 X5
                have m1 := X5.st.m1
                have m2 := X5.st.m2
                have mz := X5.st.mz
                have mh := X5.st.hm
                have rh := X5.st.hr
                have nz := X5.gz
                have n0 := X5.g0
                have n1 := X5.g1
                have nzz := X5.z
                obtain ⟨_, e1, _, _, _, _, _, ez⟩ := X5.st.own.enclAt HY.out
                have ka := X5.st.kr ai av HAV.out
                rw [Nat.zero_add] at ka
                have hgz := (X5.st.own.e.lt g rfl).2
                have hbz : w.heap.size + 4 ≤ W5.heap.size := by have := X5.st.hb; have := X5.st.below.size; omega
                have X5 := hid X5
                refine wp_region_held_drew (S := fun w' => w'.cell? ⟨w1.heap.size, 1, none⟩ = some (.slice (some ⟨g, 0, none⟩) 4 c2) ∧ w'.cell? ⟨g, ei * 7 + 1, none⟩ = some (.string y.log) ∧ w'.cell? ⟨w.heap.size + 1, ai, none⟩ = some (.int .i64 av)) (by kernel_rfl) (by refine ⟨?_, ?_, ?_⟩ <;> go_simp) (fun hHeld => ?_)
                refine wpAnyH_take (i := 0) (oi := ?o0) (v := ?v0) ?hi0 ?hs0 ?hf0 ?hr0 ?hQ0 ?hy0 ?hS0 ?rest0
                case hi0 => (simp only [List.getElem?_toArray, List.getElem?_cons_succ, List.getElem?_cons_zero]; rfl)
                case hs0 => kernel_rfl
                case hf0 => kernel_rfl
                case hr0 => kernel_rfl
                case hQ0 => exact fun _ _ _ h => h
                case hS0 => assumption
                case hy0 =>
                  refine Or.inl ⟨by rfl, ?_⟩
                  intro w hSw
                  try dsimp only at hSw
                  go_simp
                  try with_reducible rfl
                try simp only [Act.put, List.setIfInBounds_toArray, List.set_cons_zero, List.set_cons_succ]
                refine wpAnyH_take (i := 2) (oi := ?o2) (v := ?v2) ?hi2 ?hs2 ?hf2 ?hr2 ?hQ2 ?hy2 ?hS2 ?rest2
                case hi2 => (simp only [List.getElem?_toArray, List.getElem?_cons_succ, List.getElem?_cons_zero]; rfl)
                case hs2 => kernel_rfl
                case hf2 => kernel_rfl
                case hr2 => kernel_rfl
                case hQ2 => exact fun _ _ _ h => h
                case hS2 => assumption
                case hy2 =>
                  refine Or.inl ⟨by rfl, ?_⟩
                  intro w hSw
                  try dsimp only at hSw
                  go_simp
                  try with_reducible rfl
                try simp only [Act.put, List.setIfInBounds_toArray, List.set_cons_zero, List.set_cons_succ]
                refine wpAnyH_take (i := 3) (oi := ?o3) (v := ?v3) ?hi3 ?hs3 ?hf3 ?hr3 ?hQ3 ?hy3 ?hS3 ?rest3
                case hi3 => (simp only [List.getElem?_toArray, List.getElem?_cons_succ, List.getElem?_cons_zero]; rfl)
                case hs3 => kernel_rfl
                case hf3 => kernel_rfl
                case hr3 => kernel_rfl
                case hQ3 => exact fun _ _ _ h => h
                case hS3 => assumption
                case hy3 =>
                  refine Or.inl ⟨by rfl, ?_⟩
                  intro w hSw
                  try dsimp only at hSw
                  go_simp
                  try with_reducible rfl
                try simp only [Act.put, List.setIfInBounds_toArray, List.set_cons_zero, List.set_cons_succ]
                refine wpAnyH_take (i := 4) (oi := ?o4) (v := ?v4) ?hi4 ?hs4 ?hf4 ?hr4 ?hQ4 ?hy4 ?hS4 ?rest4
                case hi4 => (simp only [List.getElem?_toArray, List.getElem?_cons_succ, List.getElem?_cons_zero]; rfl)
                case hs4 => kernel_rfl
                case hf4 => kernel_rfl
                case hr4 => kernel_rfl
                case hQ4 => exact fun _ _ _ h => h
                case hS4 => assumption
                case hy4 =>
                  refine Or.inl ⟨by rfl, ?_⟩
                  intro w hSw
                  try dsimp only at hSw
                  go_simp
                  try with_reducible rfl
                try simp only [Act.put, List.setIfInBounds_toArray, List.set_cons_zero, List.set_cons_succ]
                refine wpAnyH_take (i := 5) (oi := ?o5) (v := ?v5) ?hi5 ?hs5 ?hf5 ?hr5 ?hQ5 ?hy5 ?hS5 ?rest5
                case hi5 => (simp only [List.getElem?_toArray, List.getElem?_cons_succ, List.getElem?_cons_zero]; rfl)
                case hs5 => kernel_rfl
                case hf5 => kernel_rfl
                case hr5 => kernel_rfl
                case hQ5 => exact fun _ _ _ h => h
                case hS5 => assumption
                case hy5 =>
                  refine Or.inl ⟨by rfl, ?_⟩
                  intro w hSw
                  try dsimp only at hSw
                  go_simp
                  try with_reducible rfl
                try simp only [Act.put, List.setIfInBounds_toArray, List.set_cons_zero, List.set_cons_succ]
                refine wpAnyH_take (i := 6) (oi := ?o6) (v := ?v6) ?hi6 ?hs6 ?hf6 ?hr6 ?hQ6 ?hy6 ?hS6 ?rest6
                case hi6 => (simp only [List.getElem?_toArray, List.getElem?_cons_succ, List.getElem?_cons_zero]; rfl)
                case hs6 => kernel_rfl
                case hf6 => kernel_rfl
                case hr6 => kernel_rfl
                case hQ6 => exact fun _ _ _ h => h
                case hS6 => assumption
                case hy6 =>
                  refine Or.inl ⟨by rfl, ?_⟩
                  intro w hSw
                  try dsimp only at hSw
                  go_simp
                  try with_reducible rfl
                try simp only [Act.put, List.setIfInBounds_toArray, List.set_cons_zero, List.set_cons_succ]
                refine wpAnyH_take (i := 7) (oi := ?o7) (v := ?v7) ?hi7 ?hs7 ?hf7 ?hr7 ?hQ7 ?hy7 ?hS7 ?rest7
                case hi7 => (simp only [List.getElem?_toArray, List.getElem?_cons_succ, List.getElem?_cons_zero]; rfl)
                case hs7 => kernel_rfl
                case hf7 => kernel_rfl
                case hr7 => kernel_rfl
                case hQ7 => exact fun _ _ _ h => h
                case hS7 => assumption
                case hy7 =>
                  refine Or.inl ⟨by rfl, ?_⟩
                  intro w hSw
                  try dsimp only at hSw
                  go_simp
                  try with_reducible rfl
                try simp only [Act.put, List.setIfInBounds_toArray, List.set_cons_zero, List.set_cons_succ]
                refine wpAnyH_take (i := 8) (oi := ?o8) (v := ?v8) ?hi8 ?hs8 ?hf8 ?hr8 ?hQ8 ?hy8 ?hS8 ?rest8
                case hi8 => (simp only [List.getElem?_toArray, List.getElem?_cons_succ, List.getElem?_cons_zero]; rfl)
                case hs8 => kernel_rfl
                case hf8 => kernel_rfl
                case hr8 => kernel_rfl
                case hQ8 => exact fun _ _ _ h => h
                case hS8 => assumption
                case hy8 =>
                  refine Or.inl ⟨by rfl, ?_⟩
                  intro w hSw
                  try dsimp only at hSw
                  go_simp
                  try with_reducible rfl
                try simp only [Act.put, List.setIfInBounds_toArray, List.set_cons_zero, List.set_cons_succ]
                refine wpAnyH_take (i := 9) (oi := ?o9) (v := ?v9) ?hi9 ?hs9 ?hf9 ?hr9 ?hQ9 ?hy9 ?hS9 ?rest9
                case hi9 => (simp only [List.getElem?_toArray, List.getElem?_cons_succ, List.getElem?_cons_zero]; rfl)
                case hs9 => kernel_rfl
                case hf9 => kernel_rfl
                case hr9 => kernel_rfl
                case hQ9 => exact fun _ _ _ h => h
                case hS9 => assumption
                case hy9 =>
                  refine Or.inl ⟨by rfl, ?_⟩
                  intro w hSw
                  try dsimp only at hSw
                  go_simp
                  try with_reducible rfl
                try simp only [Act.put, List.setIfInBounds_toArray, List.set_cons_zero, List.set_cons_succ]
                refine wpAnyH_take (i := 10) (oi := ?o10) (v := ?v10) ?hi10 ?hs10 ?hf10 ?hr10 ?hQ10 ?hy10 ?hS10 ?rest10
                case hi10 => (simp only [List.getElem?_toArray, List.getElem?_cons_succ, List.getElem?_cons_zero]; rfl)
                case hs10 => kernel_rfl
                case hf10 => kernel_rfl
                case hr10 => kernel_rfl
                case hQ10 => exact fun _ _ _ h => h
                case hS10 => assumption
                case hy10 =>
                  refine Or.inl ⟨by rfl, ?_⟩
                  intro w hSw
                  try dsimp only at hSw
                  go_simp
                  try with_reducible rfl
                try simp only [Act.put, List.setIfInBounds_toArray, List.set_cons_zero, List.set_cons_succ]
                refine wpAnyH_take (i := 11) (oi := ?o11) (v := ?v11) ?hi11 ?hs11 ?hf11 ?hr11 ?hQ11 ?hy11 ?hS11 ?rest11
                case hi11 => (simp only [List.getElem?_toArray, List.getElem?_cons_succ, List.getElem?_cons_zero]; rfl)
                case hs11 => kernel_rfl
                case hf11 => kernel_rfl
                case hr11 => kernel_rfl
                case hQ11 => exact fun _ _ _ h => h
                case hS11 => assumption
                case hy11 =>
                  refine Or.inl ⟨by rfl, ?_⟩
                  intro w hSw
                  try dsimp only at hSw
                  go_simp
                  try with_reducible rfl
                try simp only [Act.put, List.setIfInBounds_toArray, List.set_cons_zero, List.set_cons_succ]
                refine wpAnyH_take (i := 12) (oi := ?o12) (v := ?v12) ?hi12 ?hs12 ?hf12 ?hr12 ?hQ12 ?hy12 ?hS12 ?rest12
                case hi12 => (simp only [List.getElem?_toArray, List.getElem?_cons_succ, List.getElem?_cons_zero]; rfl)
                case hs12 => kernel_rfl
                case hf12 => kernel_rfl
                case hr12 => kernel_rfl
                case hQ12 => exact fun _ _ _ h => h
                case hS12 => assumption
                case hy12 =>
                  refine Or.inl ⟨by rfl, ?_⟩
                  intro w hSw
                  try dsimp only at hSw
                  go_simp
                  try with_reducible rfl
                try simp only [Act.put, List.setIfInBounds_toArray, List.set_cons_zero, List.set_cons_succ]
                refine wpAnyH_ready (rs := [1, 13]) (by kernel_rfl) (by simp) ?_
                refine AllReadyH.cons (o := ?oX) ?hX (fun K hK => ?sX) ?mX
                case hX => (simp only [List.getElem?_toArray, List.getElem?_cons_succ, List.getElem?_cons_zero]; rfl)
                case sX =>
                  go_simp
                  refine hK.out _ _ ?kY (fun hHeld => ?nY)
                  case kY => first | exact ⟨p2, p4, p5⟩ | (refine ⟨?_, ?_, ?_⟩ <;> (go_simp; done))
                  clear hK K
                  try simp only [Act.put, List.setIfInBounds_toArray, List.set_cons_zero, List.set_cons_succ]
                  refine wpAnyH_ready (rs := [13]) (by kernel_rfl) (by simp) ?_
                  refine AllReadyH.cons (o := ?oAX) ?hAX (fun K hK => ?sAX) AllReadyH.nil
                  case hAX => (simp only [List.getElem?_toArray, List.getElem?_cons_succ, List.getElem?_cons_zero]; rfl)
                  go_simp
                  refine hK.out _ _ ?kAX (fun hHeld => ?nAX)
                  case kAX => first | exact ⟨p2, p4, p5⟩ | (refine ⟨?_, ?_, ?_⟩ <;> (go_simp; done))
                  clear hK K
                  try simp only [Act.put, List.setIfInBounds_toArray, List.set_cons_zero, List.set_cons_succ]
                  refine wpAnyH_ready (rs := [14]) (by kernel_rfl) (by simp) ?_
                  refine AllReadyH.cons (o := ?oBX) ?hBX (fun K hK => ?sBX) AllReadyH.nil
                  case hBX => (simp only [List.getElem?_toArray, List.getElem?_cons_succ, List.getElem?_cons_zero]; rfl)
                  refine step_append_lies _ rfl _ _ 27 rfl (w.heap.size + 4) 71 i0 _ 2 24 Tryz.underlying27 hi0 hz0 hz1 hz2 rfl (by decide) (.slice qa3 D.Q.length qc3) D.Q.length (D.Q.flatMap QuoteD.cs) rfl (X5.out.later (by go_grown)).st.own.q ⟨W5.heap.size, 0, none⟩ 1 1 [.string y.log, .int .i64 av] rfl rfl (news_new (by simp) #[_, _] _) (by simp [Value.oneCell']) (by decide) (by unfold maxLen; omega) (by omega) (by simp; omega) (W5.heap.size + 1) (by simp) ?_
                  intro gq cap w4 hrow hg hat hgl
                  have S4 := X5.out.later (W' := (W5.alloc (.cells #[.string y.log, .int .i64 av] 71)).drew) (by go_grown)
                  have qn1 : some (w.heap.size + 1) ≠ Value.ownBlock (.slice qa3 D.Q.length qc3) := fun e => X5.out.st.od.q _ e.symm rfl
                  have qn2 : some w1.heap.size ≠ Value.ownBlock (.slice qa3 D.Q.length qc3) := fun e => X5.out.st.om.q _ e.symm rfl
                  have qn3 : some g ≠ Value.ownBlock (.slice qa3 D.Q.length qc3) := fun e => X5.out.st.own.eq g rfl e.symm
                  have p2 := hg.cell S4.st.m1 qn2
                  have p3 := hg.cell S4.st.m2 qn2
                  have p4 := hg.cell (S4.st.own.enclAt HY.out).2.1 qn3
                  have p5 := hg.cell (S4.st.kr ai av HAV.out) qn1
                  rw [Nat.zero_add] at p5
                  have p6 : ∀ o, w4.frozen? ⟨w1.heap.size, o, none⟩ = false := fun o => by rw [hg.frozen_far ⟨w1.heap.size, o, none⟩ S4.st.hm qn2]; exact S4.st.mz o
                  have H5 := hid (S4.pushQ ⟨y.log, av⟩ hrow rfl hg (by rcases hat with h | h; exact .inl h; exact .inr (by rw [h]; simp)))
                  clear S4 hrow hg hat hgl qn1 qn2 qn3
                  refine hK.out _ _ ?kBX (fun hHeld => ?nBX)
                  case kBX => first | exact ⟨p2, p4, p5⟩ | (refine ⟨?_, ?_, ?_⟩ <;> (go_simp; done))
                  clear hK K
                  try simp only [Act.put, List.setIfInBounds_toArray, List.set_cons_zero, List.set_cons_succ]
                  refine wpAnyH_take (i := 15) (oi := ?o15X) (v := ?v15X) ?hi15X ?hs15X ?hf15X ?hr15X ?hQ15X ?hy15X ?hS15X ?rest15X
                  case hi15X => (simp only [List.getElem?_toArray, List.getElem?_cons_succ, List.getElem?_cons_zero]; rfl)
                  case hs15X => kernel_rfl
                  case hf15X => kernel_rfl
                  case hr15X => kernel_rfl
                  case hQ15X => exact fun _ _ _ h => h
                  case hS15X => assumption
                  case hy15X =>
                    refine Or.inl ⟨by rfl, ?_⟩
                    intro w hSw
                    try dsimp only at hSw
                    go_simp
                    try with_reducible rfl
                  try simp only [Act.put, List.setIfInBounds_toArray, List.set_cons_zero, List.set_cons_succ]
                  refine wpAnyH_ready (rs := [16]) (by kernel_rfl) (by simp) ?_
                  refine AllReadyH.cons (o := ?oCX) ?hCX (fun K hK => ?sCX) AllReadyH.nil
                  case hCX => (simp only [List.getElem?_toArray, List.getElem?_cons_succ, List.getElem?_cons_zero]; rfl)
                  go_simp
                  refine hK.out _ _ ?kCX (fun hHeld => ?nCX)
                  case kCX => first | exact ⟨p2, p4, p5⟩ | (refine ⟨?_, ?_, ?_⟩ <;> (go_simp; done))
                  clear hK K
                  try simp only [Act.put, List.setIfInBounds_toArray, List.set_cons_zero, List.set_cons_succ]
                  refine wpAnyH_done (by kernel_rfl) ?_ _
                  with_reducible refine act_gen (Rx W0 w.heap.size (w.heap.size + 4) w1.heap.size (w.heap.size + 1) 0 w3.heap.size { D with Q := D.Q ++ [⟨y.log, av⟩] } M.encl F (.slice (some ⟨f, 0, none⟩) 24 c1) (.slice (some ⟨g, 0, none⟩) 4 c2) (.slice (some ⟨gq, 0, none⟩) (D.Q.length + 1) cap) 0 0) ?_ ?_
                  · exact H5.out
                  intro W6 H6
                  have H6 := hid H6
                  clear H5 p2 p3 p4 p5 p6
                  go_wp2_with fail
                  go_meet
                  exact ⟨{ D with pc := D.pc + 2, Q := D.Q ++ [⟨y.log, av⟩] }, F, _, true, 0, 0, rfl, rfl, H6.out.pc (D.pc + 2), .inr (.inl ⟨rfl, rfl, HS6.out⟩)⟩
                refine AllReadyH.cons (o := ?oZ) ?hZ (fun K hK => ?sZ) AllReadyH.nil
                case hZ => (simp only [List.getElem?_toArray, List.getElem?_cons_succ, List.getElem?_cons_zero]; rfl)
                go_simp
                refine hK.out _ _ ?kZ (fun hHeld => ?nZ)
                case kZ => first | exact ⟨p2, p4, p5⟩ | (refine ⟨?_, ?_, ?_⟩ <;> (go_simp; done))
                clear hK K
                try simp only [Act.put, List.setIfInBounds_toArray, List.set_cons_zero, List.set_cons_succ]
                refine wpAnyH_ready (rs := [1]) (by kernel_rfl) (by simp) ?_
                refine AllReadyH.cons (o := ?oAZ) ?hAZ (fun K hK => ?sAZ) AllReadyH.nil
                case hAZ => (simp only [List.getElem?_toArray, List.getElem?_cons_succ, List.getElem?_cons_zero]; rfl)
                go_simp
                refine hK.out _ _ ?kAZ (fun hHeld => ?nAZ)
                case kAZ => first | exact ⟨p2, p4, p5⟩ | (refine ⟨?_, ?_, ?_⟩ <;> (go_simp; done))
                clear hK K
                try simp only [Act.put, List.setIfInBounds_toArray, List.set_cons_zero, List.set_cons_succ]
                refine wpAnyH_ready (rs := [14]) (by kernel_rfl) (by simp) ?_
                refine AllReadyH.cons (o := ?oBZ) ?hBZ (fun K hK => ?sBZ) AllReadyH.nil
                case hBZ => (simp only [List.getElem?_toArray, List.getElem?_cons_succ, List.getElem?_cons_zero]; rfl)
                refine step_append_lies _ rfl _ _ 27 rfl (w.heap.size + 4) 71 i0 _ 2 24 Tryz.underlying27 hi0 hz0 hz1 hz2 rfl (by decide) (.slice qa3 D.Q.length qc3) D.Q.length (D.Q.flatMap QuoteD.cs) rfl (X5.out.later (by go_grown)).st.own.q ⟨W5.heap.size, 0, none⟩ 1 1 [.string y.log, .int .i64 av] rfl rfl (news_new (by simp) #[_, _] _) (by simp [Value.oneCell']) (by decide) (by unfold maxLen; omega) (by omega) (by simp; omega) (W5.heap.size + 1) (by simp) ?_
                intro gq cap w4 hrow hg hat hgl
                have S4 := X5.out.later (W' := (W5.alloc (.cells #[.string y.log, .int .i64 av] 71)).drew) (by go_grown)
                have qn1 : some (w.heap.size + 1) ≠ Value.ownBlock (.slice qa3 D.Q.length qc3) := fun e => X5.out.st.od.q _ e.symm rfl
                have qn2 : some w1.heap.size ≠ Value.ownBlock (.slice qa3 D.Q.length qc3) := fun e => X5.out.st.om.q _ e.symm rfl
                have qn3 : some g ≠ Value.ownBlock (.slice qa3 D.Q.length qc3) := fun e => X5.out.st.own.eq g rfl e.symm
                have p2 := hg.cell S4.st.m1 qn2
                have p3 := hg.cell S4.st.m2 qn2
                have p4 := hg.cell (S4.st.own.enclAt HY.out).2.1 qn3
                have p5 := hg.cell (S4.st.kr ai av HAV.out) qn1
                rw [Nat.zero_add] at p5
                have p6 : ∀ o, w4.frozen? ⟨w1.heap.size, o, none⟩ = false := fun o => by rw [hg.frozen_far ⟨w1.heap.size, o, none⟩ S4.st.hm qn2]; exact S4.st.mz o
                have H5 := hid (S4.pushQ ⟨y.log, av⟩ hrow rfl hg (by rcases hat with h | h; exact .inl h; exact .inr (by rw [h]; simp)))
                clear S4 hrow hg hat hgl qn1 qn2 qn3
                refine hK.out _ _ ?kBZ (fun hHeld => ?nBZ)
                case kBZ => first | exact ⟨p2, p4, p5⟩ | (refine ⟨?_, ?_, ?_⟩ <;> (go_simp; done))
                clear hK K
                try simp only [Act.put, List.setIfInBounds_toArray, List.set_cons_zero, List.set_cons_succ]
                refine wpAnyH_take (i := 15) (oi := ?o15Z) (v := ?v15Z) ?hi15Z ?hs15Z ?hf15Z ?hr15Z ?hQ15Z ?hy15Z ?hS15Z ?rest15Z
                case hi15Z => (simp only [List.getElem?_toArray, List.getElem?_cons_succ, List.getElem?_cons_zero]; rfl)
                case hs15Z => kernel_rfl
                case hf15Z => kernel_rfl
                case hr15Z => kernel_rfl
                case hQ15Z => exact fun _ _ _ h => h
                case hS15Z => assumption
                case hy15Z =>
                  refine Or.inl ⟨by rfl, ?_⟩
                  intro w hSw
                  try dsimp only at hSw
                  go_simp
                  try with_reducible rfl
                try simp only [Act.put, List.setIfInBounds_toArray, List.set_cons_zero, List.set_cons_succ]
                refine wpAnyH_ready (rs := [16]) (by kernel_rfl) (by simp) ?_
                refine AllReadyH.cons (o := ?oCZ) ?hCZ (fun K hK => ?sCZ) AllReadyH.nil
                case hCZ => (simp only [List.getElem?_toArray, List.getElem?_cons_succ, List.getElem?_cons_zero]; rfl)
                go_simp
                refine hK.out _ _ ?kCZ (fun hHeld => ?nCZ)
                case kCZ => first | exact ⟨p2, p4, p5⟩ | (refine ⟨?_, ?_, ?_⟩ <;> (go_simp; done))
                clear hK K
                try simp only [Act.put, List.setIfInBounds_toArray, List.set_cons_zero, List.set_cons_succ]
                refine wpAnyH_done (by kernel_rfl) ?_ _
                with_reducible refine act_gen (Rx W0 w.heap.size (w.heap.size + 4) w1.heap.size (w.heap.size + 1) 0 w3.heap.size { D with Q := D.Q ++ [⟨y.log, av⟩] } M.encl F (.slice (some ⟨f, 0, none⟩) 24 c1) (.slice (some ⟨g, 0, none⟩) 4 c2) (.slice (some ⟨gq, 0, none⟩) (D.Q.length + 1) cap) 0 0) ?_ ?_
                · exact H5.out
                intro W6 H6
                have H6 := hid H6
                clear H5 p2 p3 p4 p5 p6
                go_wp2_with fail
                go_meet
                exact ⟨{ D with pc := D.pc + 2, Q := D.Q ++ [⟨y.log, av⟩] }, F, _, true, 0, 0, rfl, rfl, H6.out.pc (D.pc + 2), .inr (.inl ⟨rfl, rfl, HS6.out⟩)⟩
          · as_aux_lemma =>
              have hs := HR.out.trans (opM_0 (by omega))
              clear HR
              have o1b : (v1 % 16 == 1) = false := by rw [beq_eq_false_iff_ne]; exact o1
              have o2b : (v1 % 16 == 2) = false := by rw [beq_eq_false_iff_ne]; exact o2
              have o3b : (v1 % 16 == 3) = false := by rw [beq_eq_false_iff_ne]; exact o3
              have o4b : (v1 % 16 == 4) = false := by rw [beq_eq_false_iff_ne]; exact o4
              have o5b : (v1 % 16 == 5) = false := by rw [beq_eq_false_iff_ne]; exact o5
              have o6b : (v1 % 16 == 6) = false := by rw [beq_eq_false_iff_ne]; exact o6
              have o7b : (v1 % 16 == 7) = false := by rw [beq_eq_false_iff_ne]; exact o7
              have o8b : (v1 % 16 == 8) = false := by rw [beq_eq_false_iff_ne]; exact o8
              have o9b : (v1 % 16 == 9) = false := by rw [beq_eq_false_iff_ne]; exact o9
              clear o1 o2 o3 o4 o5 o6 o7 o8 o9
              go_wp2_with fail
              go_meet
              have XK := hid (X4.out.pc (D.pc + 2))
              exact ⟨{ D with pc := D.pc + 2 }, F, _, false, 0, 0, rfl, rfl, XK, .inl ⟨rfl, rfl, rfl, by simp, hs⟩⟩
      case rest =>
        obtain ⟨D', F', qv', okb, o, m, rfl, rfl, HX, hcase⟩ := hcut
        obtain ⟨qa4, qc4, rfl⟩ := own_slice HX.out.st.own.q
        have HC := hid hcase
        clear hcase
        clear m0 m1 m2 mz cz hs0 hs1 hs2 n0 n1 nz nm nr nm2 nr2 e0 e1 e2 e3 e4 e5 e6 ez
        clear HY1 HN1 hy2 hn2 X4
        with_reducible refine act_gen (Rx W0 w.heap.size (w.heap.size + 4) w1.heap.size (w.heap.size + 1) 0 w3.heap.size D' M.encl F' (.slice (some ⟨f, 0, none⟩) 24 c1) (.slice (some ⟨g, 0, none⟩) 4 c2) (.slice qa4 D'.Q.length qc4) o m) ?_ ?_
        · exact HX.out
        clear HX
        intro W5 X4
        have m0 := X4.st.m0
        have m1 := X4.st.m1
        have m2 := X4.st.m2
        have mz := X4.st.mz
        have cz := X4.st.rz
        have hs0 := X4.st.hm
        have hs1 := X4.st.hr
        have hs2 := X4.z
        have n0 := X4.g0
        have n1 := X4.g1
        have nz := X4.gz
        have nm := X4.nm
        have nr := X4.nr
        have nm2 : w1.heap.size ≠ w3.heap.size := fun e => nm e.symm
        have nr2 : w.heap.size + 1 ≠ w3.heap.size := fun e => nr e.symm
        obtain ⟨e0, e1, e2, e3, e4, e5, e6, ez⟩ := X4.st.own.enclAt HY.out
        have HX := hid X4
        clear X4
        go_upto_region 45 with fail
        go_cut [212] from 207 to 212 (fun t wd => t = .bool (!(okb && ok2)) ∧ wd = W5)
        case first =>
          cases okb <;> cases ok2
          all_goals
            go_wp2_with fail
            go_meet
            exact ⟨rfl, rfl⟩
        case rest =>
        obtain ⟨h1, h2⟩ := hcut
        subst h1
        subst h2
        rcases HC.out with ⟨hF, hQ, rfl, hb, hs⟩ | ⟨hb, rfl, hs⟩ | ⟨hb, rfl, hs⟩
        · rw [hb, Bool.not_false]
          have HR := hid (HM.out.trans (runM_none hs))
          have HDF := hid hF
          have HDQ := hid hQ
          clear hb hs hF hQ HC
          go_upto_region 46 with fail
          go_still_tail 12, (by kernel_rfl)
          change wpList _ _ _ _ _ (World.drew _)
          go_upto_region 47 with fail
          have K := HX.out.st.setEncl HE.out HY.out ⟨4, y.log, 0, 0, 0, 0, 0⟩
          have K2 := K.later (below_drew _)
          with_reducible refine act_gen (St W0 w.heap.size (w.heap.size + 4) w1.heap.size (w.heap.size + 1) 0 D' (M.encl.set ei ⟨4, y.log, 0, 0, 0, 0, 0⟩) F' (.slice (some ⟨f, 0, none⟩) 24 c1) (.slice (some ⟨g, 0, none⟩) 4 c2) (.slice qa4 D'.Q.length qc4)) ?_ ?_
          · exact K2
          clear K K2
          clear HX
          clear m0 m1 m2 mz cz hs0 hs1 hs2 n0 n1 nz nm nr nm2 nr2 e0 e1 e2 e3 e4 e5 e6 ez
          intro W6 H5
          have r0 := H5.m0
          have r1 := H5.m1
          have r2 := H5.m2
          have a0 := H5.kept a0 (by omega) (by omega) (by omega)
          have a1 := H5.kept a1 (by omega) (by omega) (by omega)
          have a2 := H5.kept a2 (by omega) (by omega) (by omega)
          have az := H5.keptZ az (by omega) (by omega) (by omega)
          have b0 := H5.kept b0 (by omega) (by omega) (by omega)
          have b1 := H5.kept b1 (by omega) (by omega) (by omega)
          have bz := H5.keptZ bz (by omega) (by omega) (by omega)
          have hs0 := H5.hm
          have hs1 := H5.hr
          go_wp2_with fail
          exact bodyPost_ret (v := .tuple #[.agg #[.slice (some ⟨f, 0, none⟩) 24 c1, .slice (some ⟨g, 0, none⟩) 4 c2, .slice qa4 D'.Q.length qc4], .agg #[.int .i64 3, .int .i64 0]]) (by simp only [results, Tryz.results55]; go_simp) rfl (H5.ret HB0 (Nat.le_refl _) (by omega) (by omega) (by omega) (by omega) (D := D) (y := ⟨4, y.log, 0, 0, 0, 0, 0⟩) HR.out HDF.out HDQ.out rfl)
        · rw [hb, Bool.not_true]
          have HD2 := hid (stepM_ok HD.out hs).1
          have HR2 := hid (HM.out.trans (runM_go hs))
          clear hb hs HC
          go_wp2_with fail
          go_roundw
          case rel => exact ⟨k, D', F', _, by go_num, rfl, by omega, HX.out.st, HD2.out, HR2.out⟩
          case measure => simp [intOf]
        · rw [hb, Bool.not_true]
          have HR := hid (HM.out.trans (runM_exit hs))
          clear hb hs HC
          go_upto_region 49 with fail
          go_still_tail 12, (by kernel_rfl)
          change wpList _ _ _ _ _ (World.drew _)
          go_upto_region 50 with fail
          have hgob : g ≠ w3.heap.size := HX.out.off.e g rfl
          have hgob2 : w3.heap.size ≠ g := fun e => hgob e.symm
          have K := HX.out.st.setEncl HE.out HY.out ⟨2, y.log, 0, 0, 0, 0, 0⟩
          have K2 := K.later (below_drew _)
          with_reducible refine act_gen (fun W => St W0 w.heap.size (w.heap.size + 4) w1.heap.size (w.heap.size + 1) 0 D' (M.encl.set ei ⟨2, y.log, 0, 0, 0, 0, 0⟩) F' (.slice (some ⟨f, 0, none⟩) 24 c1) (.slice (some ⟨g, 0, none⟩) 4 c2) (.slice qa4 D'.Q.length qc4) W ∧ W.cell? ⟨w3.heap.size, 0, none⟩ = some (.int .i64 1) ∧ W.cell? ⟨w3.heap.size, 1, none⟩ = some (.int .i64 m)) ?_ ?_
          · exact ⟨K2, by go_simp, by go_simp⟩
          clear K K2
          have hob := HX.out.hb
          clear HX hgob hgob2
          clear m0 m1 m2 mz cz hs0 hs1 hs2 n0 n1 nz nm nr nm2 nr2 e0 e1 e2 e3 e4 e5 e6 ez
          rintro W6 ⟨H5, t0, t1⟩
          have r0 := H5.m0
          have r1 := H5.m1
          have r2 := H5.m2
          have a0 := H5.kept a0 (by omega) (by omega) (by omega)
          have a1 := H5.kept a1 (by omega) (by omega) (by omega)
          have a2 := H5.kept a2 (by omega) (by omega) (by omega)
          have az := H5.keptZ az (by omega) (by omega) (by omega)
          have b0 := H5.kept b0 (by omega) (by omega) (by omega)
          have b1 := H5.kept b1 (by omega) (by omega) (by omega)
          have bz := H5.keptZ bz (by omega) (by omega) (by omega)
          have hs0 := H5.hm
          have hs1 := H5.hr
          have hx1 : w3.heap.size ≠ w.heap.size + 1 + 1 := by omega
          have hx2 : w3.heap.size ≠ w.heap.size + 1 + 1 + 1 := by omega
          have hx3 : w1.heap.size ≠ w.heap.size + 1 + 1 := by omega
          have hx4 : w1.heap.size ≠ w.heap.size + 1 + 1 + 1 := by omega
          go_wp2_with fail
          go_region_held3 (fun w' => w'.cell? ⟨w1.heap.size, 0, none⟩ = some (.slice (some ⟨f, 0, none⟩) 24 c1) ∧ w'.cell? ⟨w1.heap.size, 1, none⟩ = some (.slice (some ⟨g, 0, none⟩) 4 c2) ∧ w'.cell? ⟨w1.heap.size, 2, none⟩ = some (.slice qa4 D'.Q.length qc4) ∧ w'.cell? ⟨w3.heap.size, 0, none⟩ = some (.int .i64 1) ∧ w'.cell? ⟨w3.heap.size, 1, none⟩ = some (.int .i64 m))
            (refine ⟨?_, ?_, ?_, ?_, ?_⟩ <;> (go_simp; done))
            (fail)
          go_wp2_with fail
          exact bodyPost_ret (v := .tuple #[.agg #[.slice (some ⟨f, 0, none⟩) 24 c1, .slice (some ⟨g, 0, none⟩) 4 c2, .slice qa4 D'.Q.length qc4], .agg #[.int .i64 1, .int .i64 m]]) (by simp only [results, Tryz.results55]; go_simp) rfl (RunRes.drew (H5.ret HB0 (Nat.le_refl _) (by omega) (by omega) (by omega) (by omega) (D := D') (y := ⟨2, y.log, 0, 0, 0, 0, 0⟩) HR.out rfl rfl rfl))

end Go.Proofs.YtklbbjionoeofaaGreatDoor
