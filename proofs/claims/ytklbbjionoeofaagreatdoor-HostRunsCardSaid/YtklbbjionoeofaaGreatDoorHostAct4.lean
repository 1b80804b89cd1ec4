/- host.act, walked: any other kind. Conditions: those that the contract writes. -/
import Derived.Test.YtklbbjionoeofaaGreatDoorHostAct
namespace Go.Proofs.YtklbbjionoeofaaGreatDoor
open Go.RowKit

set_option maxRecDepth 10000 in
set_option maxHeartbeats 1600000 in
theorem hostAct_else (B : Nat) (h : HostD) (kind ae af ap ar an afu : Int) (w : World) (HA : HostAt B h w) (n1 : kind ≠ 1) (n2 : kind ≠ 2) (n3 : kind ≠ 3) (n4 : kind ≠ 4) (n5 : kind ≠ 5) (n6 : kind ≠ 6) (n7 : kind ≠ 7) (n8 : kind ≠ 8) (n9 : kind ≠ 9) (n10 : kind ≠ 10) (n11 : kind ≠ 11) : Calls Tryz.prog 11 #[.pointer (some ⟨B, 0, none⟩), (⟨kind, ae, af, ap, ar, an, afu⟩ : ActD).v] w (ActRes B h ⟨kind, ae, af, ap, ar, an, afu⟩ w) := by
  have HD : Hid (actD h ⟨kind, ae, af, ap, ar, an, afu⟩ = (h, ⟨3, 0⟩)) := by show _ = _; simp [actD, n1, n2, n3, n4, n5, n6, n7, n8, n9, n10, n11]
  have b1 : (kind == 1) = false := by rw [beq_eq_false_iff_ne]; exact n1
  have b2 : (kind == 2) = false := by rw [beq_eq_false_iff_ne]; exact n2
  have b3 : (kind == 3) = false := by rw [beq_eq_false_iff_ne]; exact n3
  have b4 : (kind == 4) = false := by rw [beq_eq_false_iff_ne]; exact n4
  have b5 : (kind == 5) = false := by rw [beq_eq_false_iff_ne]; exact n5
  have b6 : (kind == 6) = false := by rw [beq_eq_false_iff_ne]; exact n6
  have b7 : (kind == 7) = false := by rw [beq_eq_false_iff_ne]; exact n7
  have b8 : (kind == 8) = false := by rw [beq_eq_false_iff_ne]; exact n8
  have b9 : (kind == 9) = false := by rw [beq_eq_false_iff_ne]; exact n9
  have b10 : (kind == 10) = false := by rw [beq_eq_false_iff_ne]; exact n10
  have b11 : (kind == 11) = false := by rw [beq_eq_false_iff_ne]; exact n11
  clear n1 n2 n3 n4 n5 n6 n7 n8 n9 n10 n11
  dsimp only [ActD.v]
  obtain ⟨fa, fc, ea, ec, qa, qc, ta, tc, na, nc, H0⟩ := HA
  have H0 := hid H0
  go_enter Tryz.func11, Tryz.ntmps11
  go_upto_region 1 with fail
  refine act_gen (fun W => PreSt w W ∧ ArgSt w (⟨kind, ae, af, ap, ar, an, afu⟩ : ActD) W) ⟨⟨by go_grown, by go_size, by go_simp, by go_simp, fun o => by go_simp⟩, ⟨by go_simp, by go_simp, by go_simp, by go_simp, by go_simp, by go_simp, by go_simp⟩⟩ ?_
  rintro W ⟨HP, HG⟩
  have hb0 := H0.out.lt
  have g0 := cell_later HP.below H0.out.c0
  have g1 := cell_later HP.below H0.out.c1
  have g2 := cell_later HP.below H0.out.c2
  have g3 := cell_later HP.below H0.out.c3
  have g4 := cell_later HP.below H0.out.c4
  have i0 := cell_new1 g0
  have i1 := cell_new1 g1
  have i2 := cell_new1 g2
  have i3 := cell_new1 g3
  have i4 := cell_new1 g4
  have j0 := cell_new2 g0
  have j1 := cell_new2 g1
  have j2 := cell_new2 g2
  have j3 := cell_new2 g3
  have j4 := cell_new2 g4
  replace HP := hid HP
  replace HG := hid HG
  go_cut [5, 6] from 9 to 16 (fun p q W => ∃ mb cb, p = .pointer (some ⟨mb, 0, none⟩) ∧ q = .pointer (some ⟨cb, 0, none⟩) ∧ Hid (PreSt w W ∧ ArgSt w (⟨kind, ae, af, ap, ar, an, afu⟩ : ActD) W ∧ TwoSt w mb cb (.slice fa h.m.frames.length fc) (.slice ea h.m.encl.length ec) (.slice qa h.m.quotes.length qc) (.slice ta h.c.trusts.length tc) (.slice na h.c.nonces.length nc) W))
  case first =>
    go_region
    all_goals
      go_wp2_with fail
      go_meet
      first
      | exact ⟨_, _, rfl, rfl, HP.out.later (by go_grown), HG.out.later (by go_grown), (TwoSt.mc' HP.out _ _).later (below_drew _)⟩
      | exact ⟨_, _, rfl, rfl, HP.out.later (by go_grown), HG.out.later (by go_grown), (TwoSt.cm' HP.out _ _).later (below_drew _)⟩
  case rest =>
  obtain ⟨mb, cb, rfl, rfl, HT⟩ := hcut
  clear g0 g1 g2 g3 g4 i0 i1 i2 i3 i4 j0 j1 j2 j3 j4 HP HG W
  go_upto_region 4 with fail
  refine act_gen (fun W => ActSt w mb cb wc.heap.size (wc.heap.size + 1) (wc.heap.size + 2) (.slice fa h.m.frames.length fc) (.slice ea h.m.encl.length ec) (.slice qa h.m.quotes.length qc) (.slice ta h.c.trusts.length tc) (.slice na h.c.nonces.length nc) h.m h.c 0 0 0 0 W ∧ ArgSt w (⟨kind, ae, af, ap, ar, an, afu⟩ : ActD) W)
    ⟨ActSt.start HT.out.1 HT.out.2.2 (.inr ⟨H0.out.m, HT.out.1.below.trans (Below.mono (by go_grown) HT.out.1.below.size)⟩) (.inr ⟨H0.out.c, HT.out.1.below.trans (Below.mono (by go_grown) HT.out.1.below.size)⟩), HT.out.2.1.later (by go_grown)⟩ ?_
  clear HT
  generalize wc.heap.size = ob
  generalize ob + 2 = top
  clear wc
  rintro W ⟨H, HG⟩
  have a0 := HG.a0
  have a1 := HG.a1
  have a2 := HG.a2
  have a3 := HG.a3
  have a4 := HG.a4
  have a5 := HG.a5
  have a6 := HG.a6
  have r0 := H.r0
  have r1 := H.r1
  have rz := H.rz
  have m0 := H.m0
  have m1 := H.m1
  have m2 := H.m2
  have mz := H.mz
  have c0 := H.c0
  have c1 := H.c1
  have cz := H.cz
  have o0 := H.o0
  have o1 := H.o1
  have oz := H.oz
  have u0 := H.u0
  have u1 := H.u1
  have uz := H.uz
  have e1 := H.mc
  have e2 := H.mo
  have e3 := H.mu
  have e4 := H.co
  have e5 := H.cu
  have e6 := H.ou
  have e1' := e1.symm
  have e2' := e2.symm
  have e3' := e3.symm
  have e4' := e4.symm
  have e5' := e5.symm
  have e6' := e6.symm
  replace H := hid H
  go_upto_region 30 with fail
  refine act_gen (ActSt w mb cb ob (ob + 1) top (.slice fa h.m.frames.length fc) (.slice ea h.m.encl.length ec) (.slice qa h.m.quotes.length qc) (.slice ta h.c.trusts.length tc) (.slice na h.c.nonces.length nc) h.m h.c 3 0 0 0) (H.out.setCode _) ?_
  clear r0 r1 rz m0 m1 m2 mz c0 c1 cz o0 o1 oz u0 u1 uz e1 e2 e3 e4 e5 e6 e1' e2' e3' e4' e5' e6'
  clear H a0 a1 a2 a3 a4 a5 a6 HG W
  intro W H
  have r0 := H.r0
  have r1 := H.r1
  have rz := H.rz
  have m0 := H.m0
  have m1 := H.m1
  have m2 := H.m2
  have mz := H.mz
  have c0 := H.c0
  have c1 := H.c1
  have cz := H.cz
  have o0 := H.o0
  have o1 := H.o1
  have oz := H.oz
  have u0 := H.u0
  have u1 := H.u1
  have uz := H.uz
  have e1 := H.mc
  have e2 := H.mo
  have e3 := H.mu
  have e4 := H.co
  have e5 := H.cu
  have e6 := H.ou
  have e1' := e1.symm
  have e2' := e2.symm
  have e3' := e3.symm
  have e4' := e4.symm
  have e5' := e5.symm
  have e6' := e6.symm
  replace H := hid H
  have hbw := H.out.below.size
  have k0 := cell_later H.out.below H0.out.c0
  have k1 := cell_later H.out.below H0.out.c1
  have k2 := cell_later H.out.below H0.out.c2
  have k3 := cell_later H.out.below H0.out.c3
  have k4 := cell_later H.out.below H0.out.c4
  have kz : ∀ o, W.frozen? ⟨B, o, none⟩ = false := fun o => by rw [(bcell H.out.below).2 _ _ hb0]; exact H0.out.cz o
  have t1 : B ≠ mb := by have := H.out.bm; omega
  have t2 : B ≠ cb := by have := H.out.bc; omega
  have t3 : B ≠ ob := by have := H.out.bo; omega
  have t4 : B ≠ ob + 1 := by have := H.out.bu; omega
  have t5 : B ≠ w.heap.size + 1 := by omega
  have t1' := t1.symm
  have t2' := t2.symm
  have t3' := t3.symm
  have t4' := t4.symm
  have t5' := t5.symm
  have f1 : w.heap.size + 1 ≠ ob := by have := H.out.bo; omega
  have f2 : w.heap.size + 1 ≠ ob + 1 := by have := H.out.bu; omega
  have f1' := f1.symm
  have f2' := f2.symm
  go_wp2_with fail
  refine bodyPost_ret (v := .agg #[.int .i64 3, .int .i64 0]) (by simp only [results, Tryz.results11]; go_simp) rfl ⟨by rw [HD.out], ?_⟩
  rw [HD.out]
  have HB := below_low2 H.out.below (b := w.heap.size + 1) (by omega) (.int .i64 3) (.int .i64 0)
  exact ⟨HostAt.later ⟨_, _, _, _, _, _, _, _, _, _, H0.out⟩ HB, grownBy_of_below HB⟩

set_option maxRecDepth 10000 in
set_option maxHeartbeats 1600000 in
theorem hostAct_bad (B : Nat) (h : HostD) (a : ActD) (w : World) (HA : HostAt B h w) (hk : a.kind = 11) (hb : a.pl < 0 ∨ (h.m.quotes.length : Int) ≤ a.pl) : Calls Tryz.prog 11 #[.pointer (some ⟨B, 0, none⟩), a.v] w (ActRes B h a w) := by
  obtain ⟨kind, ae, af, ap, ar, an, afu⟩ := a
  obtain rfl : kind = 11 := hk
  have hbad : ap < 0 ∨ (h.m.quotes.length : Int) ≤ ap := hb
  clear hb
  · have HD : Hid (actD h ⟨11, ae, af, ap, ar, an, afu⟩ = (h, ⟨5, 0⟩)) := by show _ = _; simp [actD, hbad]
    rcases hbad with hbad | hbad
    · dsimp only [ActD.v]
      obtain ⟨fa, fc, ea, ec, qa, qc, ta, tc, na, nc, H0⟩ := HA
      have H0 := hid H0
      go_enter Tryz.func11, Tryz.ntmps11
      go_upto_region 1 with fail
      refine act_gen (fun W => PreSt w W ∧ ArgSt w (⟨11, ae, af, ap, ar, an, afu⟩ : ActD) W) ⟨⟨by go_grown, by go_size, by go_simp, by go_simp, fun o => by go_simp⟩, ⟨by go_simp, by go_simp, by go_simp, by go_simp, by go_simp, by go_simp, by go_simp⟩⟩ ?_
      rintro W ⟨HP, HG⟩
      have hb0 := H0.out.lt
      have g0 := cell_later HP.below H0.out.c0
      have g1 := cell_later HP.below H0.out.c1
      have g2 := cell_later HP.below H0.out.c2
      have g3 := cell_later HP.below H0.out.c3
      have g4 := cell_later HP.below H0.out.c4
      have i0 := cell_new1 g0
      have i1 := cell_new1 g1
      have i2 := cell_new1 g2
      have i3 := cell_new1 g3
      have i4 := cell_new1 g4
      have j0 := cell_new2 g0
      have j1 := cell_new2 g1
      have j2 := cell_new2 g2
      have j3 := cell_new2 g3
      have j4 := cell_new2 g4
      replace HP := hid HP
      replace HG := hid HG
      go_cut [5, 6] from 9 to 16 (fun p q W => ∃ mb cb, p = .pointer (some ⟨mb, 0, none⟩) ∧ q = .pointer (some ⟨cb, 0, none⟩) ∧ Hid (PreSt w W ∧ ArgSt w (⟨11, ae, af, ap, ar, an, afu⟩ : ActD) W ∧ TwoSt w mb cb (.slice fa h.m.frames.length fc) (.slice ea h.m.encl.length ec) (.slice qa h.m.quotes.length qc) (.slice ta h.c.trusts.length tc) (.slice na h.c.nonces.length nc) W))
      case first =>
        go_region
        all_goals
          go_wp2_with fail
          go_meet
          first
          | exact ⟨_, _, rfl, rfl, HP.out.later (by go_grown), HG.out.later (by go_grown), (TwoSt.mc' HP.out _ _).later (below_drew _)⟩
          | exact ⟨_, _, rfl, rfl, HP.out.later (by go_grown), HG.out.later (by go_grown), (TwoSt.cm' HP.out _ _).later (below_drew _)⟩
      case rest =>
      obtain ⟨mb, cb, rfl, rfl, HT⟩ := hcut
      clear g0 g1 g2 g3 g4 i0 i1 i2 i3 i4 j0 j1 j2 j3 j4 HP HG W
      go_upto_region 4 with fail
      refine act_gen (fun W => ActSt w mb cb wc.heap.size (wc.heap.size + 1) (wc.heap.size + 2) (.slice fa h.m.frames.length fc) (.slice ea h.m.encl.length ec) (.slice qa h.m.quotes.length qc) (.slice ta h.c.trusts.length tc) (.slice na h.c.nonces.length nc) h.m h.c 0 0 0 0 W ∧ ArgSt w (⟨11, ae, af, ap, ar, an, afu⟩ : ActD) W)
        ⟨ActSt.start HT.out.1 HT.out.2.2 (.inr ⟨H0.out.m, HT.out.1.below.trans (Below.mono (by go_grown) HT.out.1.below.size)⟩) (.inr ⟨H0.out.c, HT.out.1.below.trans (Below.mono (by go_grown) HT.out.1.below.size)⟩), HT.out.2.1.later (by go_grown)⟩ ?_
      clear HT
      generalize wc.heap.size = ob
      generalize ob + 2 = top
      clear wc
      rintro W ⟨H, HG⟩
      have a0 := HG.a0
      have a1 := HG.a1
      have a2 := HG.a2
      have a3 := HG.a3
      have a4 := HG.a4
      have a5 := HG.a5
      have a6 := HG.a6
      have r0 := H.r0
      have r1 := H.r1
      have rz := H.rz
      have m0 := H.m0
      have m1 := H.m1
      have m2 := H.m2
      have mz := H.mz
      have c0 := H.c0
      have c1 := H.c1
      have cz := H.cz
      have o0 := H.o0
      have o1 := H.o1
      have oz := H.oz
      have u0 := H.u0
      have u1 := H.u1
      have uz := H.uz
      have e1 := H.mc
      have e2 := H.mo
      have e3 := H.mu
      have e4 := H.co
      have e5 := H.cu
      have e6 := H.ou
      have e1' := e1.symm
      have e2' := e2.symm
      have e3' := e3.symm
      have e4' := e4.symm
      have e5' := e5.symm
      have e6' := e6.symm
      replace H := hid H
      go_upto_region 30 with fail
      refine act_gen (ActSt w mb cb ob (ob + 1) top (.slice fa h.m.frames.length fc) (.slice ea h.m.encl.length ec) (.slice qa h.m.quotes.length qc) (.slice ta h.c.trusts.length tc) (.slice na h.c.nonces.length nc) h.m h.c 5 0 0 0) (H.out.setCode _) ?_
      clear r0 r1 rz m0 m1 m2 mz c0 c1 cz o0 o1 oz u0 u1 uz e1 e2 e3 e4 e5 e6 e1' e2' e3' e4' e5' e6'
      clear H a0 a1 a2 a3 a4 a5 a6 HG W
      intro W H
      have r0 := H.r0
      have r1 := H.r1
      have rz := H.rz
      have m0 := H.m0
      have m1 := H.m1
      have m2 := H.m2
      have mz := H.mz
      have c0 := H.c0
      have c1 := H.c1
      have cz := H.cz
      have o0 := H.o0
      have o1 := H.o1
      have oz := H.oz
      have u0 := H.u0
      have u1 := H.u1
      have uz := H.uz
      have e1 := H.mc
      have e2 := H.mo
      have e3 := H.mu
      have e4 := H.co
      have e5 := H.cu
      have e6 := H.ou
      have e1' := e1.symm
      have e2' := e2.symm
      have e3' := e3.symm
      have e4' := e4.symm
      have e5' := e5.symm
      have e6' := e6.symm
      replace H := hid H
      have hbw := H.out.below.size
      have k0 := cell_later H.out.below H0.out.c0
      have k1 := cell_later H.out.below H0.out.c1
      have k2 := cell_later H.out.below H0.out.c2
      have k3 := cell_later H.out.below H0.out.c3
      have k4 := cell_later H.out.below H0.out.c4
      have kz : ∀ o, W.frozen? ⟨B, o, none⟩ = false := fun o => by rw [(bcell H.out.below).2 _ _ hb0]; exact H0.out.cz o
      have t1 : B ≠ mb := by have := H.out.bm; omega
      have t2 : B ≠ cb := by have := H.out.bc; omega
      have t3 : B ≠ ob := by have := H.out.bo; omega
      have t4 : B ≠ ob + 1 := by have := H.out.bu; omega
      have t5 : B ≠ w.heap.size + 1 := by omega
      have t1' := t1.symm
      have t2' := t2.symm
      have t3' := t3.symm
      have t4' := t4.symm
      have t5' := t5.symm
      have f1 : w.heap.size + 1 ≠ ob := by have := H.out.bo; omega
      have f2 : w.heap.size + 1 ≠ ob + 1 := by have := H.out.bu; omega
      have f1' := f1.symm
      have f2' := f2.symm
      go_wp2_with fail
      refine bodyPost_ret (v := .agg #[.int .i64 5, .int .i64 0]) (by simp only [results, Tryz.results11]; go_simp) rfl ⟨by rw [HD.out], ?_⟩
      rw [HD.out]
      have HB := below_low2 H.out.below (b := w.heap.size + 1) (by omega) (.int .i64 5) (.int .i64 0)
      exact ⟨HostAt.later ⟨_, _, _, _, _, _, _, _, _, _, H0.out⟩ HB, grownBy_of_below HB⟩
    · by_cases hneg : ap < 0
      · clear hbad
        dsimp only [ActD.v]
        obtain ⟨fa, fc, ea, ec, qa, qc, ta, tc, na, nc, H0⟩ := HA
        have H0 := hid H0
        go_enter Tryz.func11, Tryz.ntmps11
        go_upto_region 1 with fail
        refine act_gen (fun W => PreSt w W ∧ ArgSt w (⟨11, ae, af, ap, ar, an, afu⟩ : ActD) W) ⟨⟨by go_grown, by go_size, by go_simp, by go_simp, fun o => by go_simp⟩, ⟨by go_simp, by go_simp, by go_simp, by go_simp, by go_simp, by go_simp, by go_simp⟩⟩ ?_
        rintro W ⟨HP, HG⟩
        have hb0 := H0.out.lt
        have g0 := cell_later HP.below H0.out.c0
        have g1 := cell_later HP.below H0.out.c1
        have g2 := cell_later HP.below H0.out.c2
        have g3 := cell_later HP.below H0.out.c3
        have g4 := cell_later HP.below H0.out.c4
        have i0 := cell_new1 g0
        have i1 := cell_new1 g1
        have i2 := cell_new1 g2
        have i3 := cell_new1 g3
        have i4 := cell_new1 g4
        have j0 := cell_new2 g0
        have j1 := cell_new2 g1
        have j2 := cell_new2 g2
        have j3 := cell_new2 g3
        have j4 := cell_new2 g4
        replace HP := hid HP
        replace HG := hid HG
        go_cut [5, 6] from 9 to 16 (fun p q W => ∃ mb cb, p = .pointer (some ⟨mb, 0, none⟩) ∧ q = .pointer (some ⟨cb, 0, none⟩) ∧ Hid (PreSt w W ∧ ArgSt w (⟨11, ae, af, ap, ar, an, afu⟩ : ActD) W ∧ TwoSt w mb cb (.slice fa h.m.frames.length fc) (.slice ea h.m.encl.length ec) (.slice qa h.m.quotes.length qc) (.slice ta h.c.trusts.length tc) (.slice na h.c.nonces.length nc) W))
        case first =>
          go_region
          all_goals
            go_wp2_with fail
            go_meet
            first
            | exact ⟨_, _, rfl, rfl, HP.out.later (by go_grown), HG.out.later (by go_grown), (TwoSt.mc' HP.out _ _).later (below_drew _)⟩
            | exact ⟨_, _, rfl, rfl, HP.out.later (by go_grown), HG.out.later (by go_grown), (TwoSt.cm' HP.out _ _).later (below_drew _)⟩
        case rest =>
        obtain ⟨mb, cb, rfl, rfl, HT⟩ := hcut
        clear g0 g1 g2 g3 g4 i0 i1 i2 i3 i4 j0 j1 j2 j3 j4 HP HG W
        go_upto_region 4 with fail
        refine act_gen (fun W => ActSt w mb cb wc.heap.size (wc.heap.size + 1) (wc.heap.size + 2) (.slice fa h.m.frames.length fc) (.slice ea h.m.encl.length ec) (.slice qa h.m.quotes.length qc) (.slice ta h.c.trusts.length tc) (.slice na h.c.nonces.length nc) h.m h.c 0 0 0 0 W ∧ ArgSt w (⟨11, ae, af, ap, ar, an, afu⟩ : ActD) W)
          ⟨ActSt.start HT.out.1 HT.out.2.2 (.inr ⟨H0.out.m, HT.out.1.below.trans (Below.mono (by go_grown) HT.out.1.below.size)⟩) (.inr ⟨H0.out.c, HT.out.1.below.trans (Below.mono (by go_grown) HT.out.1.below.size)⟩), HT.out.2.1.later (by go_grown)⟩ ?_
        clear HT
        generalize wc.heap.size = ob
        generalize ob + 2 = top
        clear wc
        rintro W ⟨H, HG⟩
        have a0 := HG.a0
        have a1 := HG.a1
        have a2 := HG.a2
        have a3 := HG.a3
        have a4 := HG.a4
        have a5 := HG.a5
        have a6 := HG.a6
        have r0 := H.r0
        have r1 := H.r1
        have rz := H.rz
        have m0 := H.m0
        have m1 := H.m1
        have m2 := H.m2
        have mz := H.mz
        have c0 := H.c0
        have c1 := H.c1
        have cz := H.cz
        have o0 := H.o0
        have o1 := H.o1
        have oz := H.oz
        have u0 := H.u0
        have u1 := H.u1
        have uz := H.uz
        have e1 := H.mc
        have e2 := H.mo
        have e3 := H.mu
        have e4 := H.co
        have e5 := H.cu
        have e6 := H.ou
        have e1' := e1.symm
        have e2' := e2.symm
        have e3' := e3.symm
        have e4' := e4.symm
        have e5' := e5.symm
        have e6' := e6.symm
        replace H := hid H
        go_upto_region 30 with fail
        refine act_gen (ActSt w mb cb ob (ob + 1) top (.slice fa h.m.frames.length fc) (.slice ea h.m.encl.length ec) (.slice qa h.m.quotes.length qc) (.slice ta h.c.trusts.length tc) (.slice na h.c.nonces.length nc) h.m h.c 5 0 0 0) (H.out.setCode _) ?_
        clear r0 r1 rz m0 m1 m2 mz c0 c1 cz o0 o1 oz u0 u1 uz e1 e2 e3 e4 e5 e6 e1' e2' e3' e4' e5' e6'
        clear H a0 a1 a2 a3 a4 a5 a6 HG W
        intro W H
        have r0 := H.r0
        have r1 := H.r1
        have rz := H.rz
        have m0 := H.m0
        have m1 := H.m1
        have m2 := H.m2
        have mz := H.mz
        have c0 := H.c0
        have c1 := H.c1
        have cz := H.cz
        have o0 := H.o0
        have o1 := H.o1
        have oz := H.oz
        have u0 := H.u0
        have u1 := H.u1
        have uz := H.uz
        have e1 := H.mc
        have e2 := H.mo
        have e3 := H.mu
        have e4 := H.co
        have e5 := H.cu
        have e6 := H.ou
        have e1' := e1.symm
        have e2' := e2.symm
        have e3' := e3.symm
        have e4' := e4.symm
        have e5' := e5.symm
        have e6' := e6.symm
        replace H := hid H
        have hbw := H.out.below.size
        have k0 := cell_later H.out.below H0.out.c0
        have k1 := cell_later H.out.below H0.out.c1
        have k2 := cell_later H.out.below H0.out.c2
        have k3 := cell_later H.out.below H0.out.c3
        have k4 := cell_later H.out.below H0.out.c4
        have kz : ∀ o, W.frozen? ⟨B, o, none⟩ = false := fun o => by rw [(bcell H.out.below).2 _ _ hb0]; exact H0.out.cz o
        have t1 : B ≠ mb := by have := H.out.bm; omega
        have t2 : B ≠ cb := by have := H.out.bc; omega
        have t3 : B ≠ ob := by have := H.out.bo; omega
        have t4 : B ≠ ob + 1 := by have := H.out.bu; omega
        have t5 : B ≠ w.heap.size + 1 := by omega
        have t1' := t1.symm
        have t2' := t2.symm
        have t3' := t3.symm
        have t4' := t4.symm
        have t5' := t5.symm
        have f1 : w.heap.size + 1 ≠ ob := by have := H.out.bo; omega
        have f2 : w.heap.size + 1 ≠ ob + 1 := by have := H.out.bu; omega
        have f1' := f1.symm
        have f2' := f2.symm
        go_wp2_with fail
        refine bodyPost_ret (v := .agg #[.int .i64 5, .int .i64 0]) (by simp only [results, Tryz.results11]; go_simp) rfl ⟨by rw [HD.out], ?_⟩
        rw [HD.out]
        have HB := below_low2 H.out.below (b := w.heap.size + 1) (by omega) (.int .i64 5) (.int .i64 0)
        exact ⟨HostAt.later ⟨_, _, _, _, _, _, _, _, _, _, H0.out⟩ HB, grownBy_of_below HB⟩
      · dsimp only [ActD.v]
        obtain ⟨fa, fc, ea, ec, qa, qc, ta, tc, na, nc, H0⟩ := HA
        have H0 := hid H0
        go_enter Tryz.func11, Tryz.ntmps11
        go_upto_region 1 with fail
        refine act_gen (fun W => PreSt w W ∧ ArgSt w (⟨11, ae, af, ap, ar, an, afu⟩ : ActD) W) ⟨⟨by go_grown, by go_size, by go_simp, by go_simp, fun o => by go_simp⟩, ⟨by go_simp, by go_simp, by go_simp, by go_simp, by go_simp, by go_simp, by go_simp⟩⟩ ?_
        rintro W ⟨HP, HG⟩
        have hb0 := H0.out.lt
        have g0 := cell_later HP.below H0.out.c0
        have g1 := cell_later HP.below H0.out.c1
        have g2 := cell_later HP.below H0.out.c2
        have g3 := cell_later HP.below H0.out.c3
        have g4 := cell_later HP.below H0.out.c4
        have i0 := cell_new1 g0
        have i1 := cell_new1 g1
        have i2 := cell_new1 g2
        have i3 := cell_new1 g3
        have i4 := cell_new1 g4
        have j0 := cell_new2 g0
        have j1 := cell_new2 g1
        have j2 := cell_new2 g2
        have j3 := cell_new2 g3
        have j4 := cell_new2 g4
        replace HP := hid HP
        replace HG := hid HG
        go_cut [5, 6] from 9 to 16 (fun p q W => ∃ mb cb, p = .pointer (some ⟨mb, 0, none⟩) ∧ q = .pointer (some ⟨cb, 0, none⟩) ∧ Hid (PreSt w W ∧ ArgSt w (⟨11, ae, af, ap, ar, an, afu⟩ : ActD) W ∧ TwoSt w mb cb (.slice fa h.m.frames.length fc) (.slice ea h.m.encl.length ec) (.slice qa h.m.quotes.length qc) (.slice ta h.c.trusts.length tc) (.slice na h.c.nonces.length nc) W))
        case first =>
          go_region
          all_goals
            go_wp2_with fail
            go_meet
            first
            | exact ⟨_, _, rfl, rfl, HP.out.later (by go_grown), HG.out.later (by go_grown), (TwoSt.mc' HP.out _ _).later (below_drew _)⟩
            | exact ⟨_, _, rfl, rfl, HP.out.later (by go_grown), HG.out.later (by go_grown), (TwoSt.cm' HP.out _ _).later (below_drew _)⟩
        case rest =>
        obtain ⟨mb, cb, rfl, rfl, HT⟩ := hcut
        clear g0 g1 g2 g3 g4 i0 i1 i2 i3 i4 j0 j1 j2 j3 j4 HP HG W
        go_upto_region 4 with fail
        refine act_gen (fun W => ActSt w mb cb wc.heap.size (wc.heap.size + 1) (wc.heap.size + 2) (.slice fa h.m.frames.length fc) (.slice ea h.m.encl.length ec) (.slice qa h.m.quotes.length qc) (.slice ta h.c.trusts.length tc) (.slice na h.c.nonces.length nc) h.m h.c 0 0 0 0 W ∧ ArgSt w (⟨11, ae, af, ap, ar, an, afu⟩ : ActD) W)
          ⟨ActSt.start HT.out.1 HT.out.2.2 (.inr ⟨H0.out.m, HT.out.1.below.trans (Below.mono (by go_grown) HT.out.1.below.size)⟩) (.inr ⟨H0.out.c, HT.out.1.below.trans (Below.mono (by go_grown) HT.out.1.below.size)⟩), HT.out.2.1.later (by go_grown)⟩ ?_
        clear HT
        generalize wc.heap.size = ob
        generalize ob + 2 = top
        clear wc
        rintro W ⟨H, HG⟩
        have a0 := HG.a0
        have a1 := HG.a1
        have a2 := HG.a2
        have a3 := HG.a3
        have a4 := HG.a4
        have a5 := HG.a5
        have a6 := HG.a6
        have r0 := H.r0
        have r1 := H.r1
        have rz := H.rz
        have m0 := H.m0
        have m1 := H.m1
        have m2 := H.m2
        have mz := H.mz
        have c0 := H.c0
        have c1 := H.c1
        have cz := H.cz
        have o0 := H.o0
        have o1 := H.o1
        have oz := H.oz
        have u0 := H.u0
        have u1 := H.u1
        have uz := H.uz
        have e1 := H.mc
        have e2 := H.mo
        have e3 := H.mu
        have e4 := H.co
        have e5 := H.cu
        have e6 := H.ou
        have e1' := e1.symm
        have e2' := e2.symm
        have e3' := e3.symm
        have e4' := e4.symm
        have e5' := e5.symm
        have e6' := e6.symm
        replace H := hid H
        go_upto_region 30 with fail
        refine act_gen (ActSt w mb cb ob (ob + 1) top (.slice fa h.m.frames.length fc) (.slice ea h.m.encl.length ec) (.slice qa h.m.quotes.length qc) (.slice ta h.c.trusts.length tc) (.slice na h.c.nonces.length nc) h.m h.c 5 0 0 0) (H.out.setCode _) ?_
        clear r0 r1 rz m0 m1 m2 mz c0 c1 cz o0 o1 oz u0 u1 uz e1 e2 e3 e4 e5 e6 e1' e2' e3' e4' e5' e6'
        clear H a0 a1 a2 a3 a4 a5 a6 HG W
        intro W H
        have r0 := H.r0
        have r1 := H.r1
        have rz := H.rz
        have m0 := H.m0
        have m1 := H.m1
        have m2 := H.m2
        have mz := H.mz
        have c0 := H.c0
        have c1 := H.c1
        have cz := H.cz
        have o0 := H.o0
        have o1 := H.o1
        have oz := H.oz
        have u0 := H.u0
        have u1 := H.u1
        have uz := H.uz
        have e1 := H.mc
        have e2 := H.mo
        have e3 := H.mu
        have e4 := H.co
        have e5 := H.cu
        have e6 := H.ou
        have e1' := e1.symm
        have e2' := e2.symm
        have e3' := e3.symm
        have e4' := e4.symm
        have e5' := e5.symm
        have e6' := e6.symm
        replace H := hid H
        have hbw := H.out.below.size
        have k0 := cell_later H.out.below H0.out.c0
        have k1 := cell_later H.out.below H0.out.c1
        have k2 := cell_later H.out.below H0.out.c2
        have k3 := cell_later H.out.below H0.out.c3
        have k4 := cell_later H.out.below H0.out.c4
        have kz : ∀ o, W.frozen? ⟨B, o, none⟩ = false := fun o => by rw [(bcell H.out.below).2 _ _ hb0]; exact H0.out.cz o
        have t1 : B ≠ mb := by have := H.out.bm; omega
        have t2 : B ≠ cb := by have := H.out.bc; omega
        have t3 : B ≠ ob := by have := H.out.bo; omega
        have t4 : B ≠ ob + 1 := by have := H.out.bu; omega
        have t5 : B ≠ w.heap.size + 1 := by omega
        have t1' := t1.symm
        have t2' := t2.symm
        have t3' := t3.symm
        have t4' := t4.symm
        have t5' := t5.symm
        have f1 : w.heap.size + 1 ≠ ob := by have := H.out.bo; omega
        have f2 : w.heap.size + 1 ≠ ob + 1 := by have := H.out.bu; omega
        have f1' := f1.symm
        have f2' := f2.symm
        go_wp2_with fail
        refine bodyPost_ret (v := .agg #[.int .i64 5, .int .i64 0]) (by simp only [results, Tryz.results11]; go_simp) rfl ⟨by rw [HD.out], ?_⟩
        rw [HD.out]
        have HB := below_low2 H.out.below (b := w.heap.size + 1) (by omega) (.int .i64 5) (.int .i64 0)
        exact ⟨HostAt.later ⟨_, _, _, _, _, _, _, _, _, _, H0.out⟩ HB, grownBy_of_below HB⟩

end Go.Proofs.YtklbbjionoeofaaGreatDoor
