/- host.act, walked, the other kinds; all kinds together. Conditions: those that each contract writes. -/
import Derived.Test.YtklbbjionoeofaaGreatDoorHostAct
import Derived.Test.YtklbbjionoeofaaGreatDoorPeek
import Derived.Test.YtklbbjionoeofaaGreatDoorEnter
namespace Go.Proofs.YtklbbjionoeofaaGreatDoor
open Go.RowKit

theorem keepR_0 (h : HostD) (m : MachD) (o : Int × Int) : keepR h (m, o, 0) = (⟨m, h.c⟩, ranA o) := rfl
theorem keepR_1 (h : HostD) (m : MachD) (o : Int × Int) {c : Int} (hc : c ≠ 0) : keepR h (m, o, c) = (h, ⟨c, 0⟩) := by rw [keepR, if_pos hc]
theorem runM_end (e : Int) (g : ByteArray) (n : Nat) (c : CoreD) : (runM e g n c).2.2.1 ≠ 0 := by
  induction n generalizing c with
  | zero => simp [runM]
  | succ n ih =>
    rw [runM]
    split
    · simp
    · simp
    · exact ih _
theorem enterD_ends {M : MachD} {e word fuel : Int} (h : (enterD M e word fuel).2.2 = 0) : (enterD M e word fuel).2.1.1 ≠ 0 := by
  unfold enterD at h ⊢
  split at h
  · rename_i h1; exact absurd h h1
  split at h
  · simp [noRun] at h
  split at h
  · rename_i h1 h2 _ y hy
    rw [if_neg h1, if_neg h2]; simp only [ranD]; exact runM_end _ _ _ _
  · simp [noRun] at h
theorem resumeD_ends {M : MachD} {e fuel : Int} (h : (resumeD M e fuel).2.2 = 0) : (resumeD M e fuel).2.1.1 ≠ 0 := by
  unfold resumeD at h ⊢
  split at h
  · rename_i h1; exact absurd h h1
  split at h
  · rename_i h1 _ y hy
    rw [if_neg h1]; simp only [ranD]; exact runM_end _ _ _ _
  · simp [noRun] at h

set_option maxRecDepth 10000 in
set_option maxHeartbeats 1600000 in
theorem hostAct_peek (B : Nat) (h : HostD) (a : ActD) (w : World) (HA : HostAt B h w) (hf : h.m.Fits) (hk : a.kind = 6) : Calls Tryz.prog 11 #[.pointer (some ⟨B, 0, none⟩), a.v] w (ActRes B h a w) := by
  obtain ⟨kind, ae, af, ap, ar, an, afu⟩ := a
  obtain rfl : kind = 6 := hk
  have HD : Hid (actD h ⟨6, ae, af, ap, ar, an, afu⟩ = keepM h h.m (peekD h.m af ap).1 (peekD h.m af ap).2) := by show _ = _; simp [actD]
  dsimp only [ActD.v]
  obtain ⟨fa, fc, ea, ec, qa, qc, ta, tc, na, nc, H0⟩ := HA
  have H0 := hid H0
  go_enter Tryz.func11, Tryz.ntmps11
  go_upto_region 1 with fail
  refine act_gen (fun W => PreSt w W ∧ ArgSt w (⟨6, ae, af, ap, ar, an, afu⟩ : ActD) W) ⟨⟨by go_grown, by go_size, by go_simp, by go_simp, fun o => by go_simp⟩, ⟨by go_simp, by go_simp, by go_simp, by go_simp, by go_simp, by go_simp, by go_simp⟩⟩ ?_
  rintro W ⟨HP, HG⟩
  have hb0 := H0.out.lt
  have g0 := cell_later HP.below H0.out.c0
  have g1 := cell_later HP.below H0.out.c1
  have g2 := cell_later HP.below H0.out.c2
  have g3 := cell_later HP.below H0.out.c3
  have g4 := cell_later HP.below H0.out.c4
  have i0 := cell_new1 g0
  have i1 := cell_new1 g1
  have i2 := cell_new1 g2
  have i3 := cell_new1 g3
  have i4 := cell_new1 g4
  have j0 := cell_new2 g0
  have j1 := cell_new2 g1
  have j2 := cell_new2 g2
  have j3 := cell_new2 g3
  have j4 := cell_new2 g4
  replace HP := hid HP
  replace HG := hid HG
  go_cut [5, 6] from 9 to 16 (fun p q W => ∃ mb cb, p = .pointer (some ⟨mb, 0, none⟩) ∧ q = .pointer (some ⟨cb, 0, none⟩) ∧ Hid (PreSt w W ∧ ArgSt w (⟨6, ae, af, ap, ar, an, afu⟩ : ActD) W ∧ TwoSt w mb cb (.slice fa h.m.frames.length fc) (.slice ea h.m.encl.length ec) (.slice qa h.m.quotes.length qc) (.slice ta h.c.trusts.length tc) (.slice na h.c.nonces.length nc) W))
  case first =>
    go_region
    all_goals
      go_wp2_with fail
      go_meet
      first
      | exact ⟨_, _, rfl, rfl, HP.out.later (by go_grown), HG.out.later (by go_grown), (TwoSt.mc' HP.out _ _).later (below_drew _)⟩
      | exact ⟨_, _, rfl, rfl, HP.out.later (by go_grown), HG.out.later (by go_grown), (TwoSt.cm' HP.out _ _).later (below_drew _)⟩
  case rest =>
  obtain ⟨mb, cb, rfl, rfl, HT⟩ := hcut
  clear g0 g1 g2 g3 g4 i0 i1 i2 i3 i4 j0 j1 j2 j3 j4 HP HG W
  go_upto_region 4 with fail
  refine act_gen (fun W => ActSt w mb cb wc.heap.size (wc.heap.size + 1) (wc.heap.size + 2) (.slice fa h.m.frames.length fc) (.slice ea h.m.encl.length ec) (.slice qa h.m.quotes.length qc) (.slice ta h.c.trusts.length tc) (.slice na h.c.nonces.length nc) h.m h.c 0 0 0 0 W ∧ ArgSt w (⟨6, ae, af, ap, ar, an, afu⟩ : ActD) W)
    ⟨ActSt.start HT.out.1 HT.out.2.2 (.inr ⟨H0.out.m, HT.out.1.below.trans (Below.mono (by go_grown) HT.out.1.below.size)⟩) (.inr ⟨H0.out.c, HT.out.1.below.trans (Below.mono (by go_grown) HT.out.1.below.size)⟩), HT.out.2.1.later (by go_grown)⟩ ?_
  clear HT
  generalize wc.heap.size = ob
  generalize ob + 2 = top
  clear wc
  rintro W ⟨H, HG⟩
  have a0 := HG.a0
  have a1 := HG.a1
  have a2 := HG.a2
  have a3 := HG.a3
  have a4 := HG.a4
  have a5 := HG.a5
  have a6 := HG.a6
  have r0 := H.r0
  have r1 := H.r1
  have rz := H.rz
  have m0 := H.m0
  have m1 := H.m1
  have m2 := H.m2
  have mz := H.mz
  have c0 := H.c0
  have c1 := H.c1
  have cz := H.cz
  have o0 := H.o0
  have o1 := H.o1
  have oz := H.oz
  have u0 := H.u0
  have u1 := H.u1
  have uz := H.uz
  have e1 := H.mc
  have e2 := H.mo
  have e3 := H.mu
  have e4 := H.co
  have e5 := H.cu
  have e6 := H.ou
  have e1' := e1.symm
  have e2' := e2.symm
  have e3' := e3.symm
  have e4' := e4.symm
  have e5' := e5.symm
  have e6' := e6.symm
  replace H := hid H
  go_wp2_with fail
  refine (epcPeek _ h.m af ap _ H.out.mok.at hf).mono ?_
  rintro x w2 ⟨rfl, hb2⟩
  clear r0 r1 rz m0 m1 m2 mz c0 c1 cz o0 o1 oz u0 u1 uz e1 e2 e3 e4 e5 e6 e1' e2' e3' e4' e5' e6'
  clear a0 a1 a2 a3 a4 a5 a6 HG
  replace H := H.out.later hb2
  clear hb2
  have r0 := H.r0
  have r1 := H.r1
  have rz := H.rz
  have m0 := H.m0
  have m1 := H.m1
  have m2 := H.m2
  have mz := H.mz
  have c0 := H.c0
  have c1 := H.c1
  have cz := H.cz
  have o0 := H.o0
  have o1 := H.o1
  have oz := H.oz
  have u0 := H.u0
  have u1 := H.u1
  have uz := H.uz
  have e1 := H.mc
  have e2 := H.mo
  have e3 := H.mu
  have e4 := H.co
  have e5 := H.cu
  have e6 := H.ou
  have e1' := e1.symm
  have e2' := e2.symm
  have e3' := e3.symm
  have e4' := e4.symm
  have e5' := e5.symm
  have e6' := e6.symm
  replace H := hid H
  go_upto_region 30 with fail
  refine act_gen (ActSt w mb cb ob (ob + 1) top (.slice fa h.m.frames.length fc) (.slice ea h.m.encl.length ec) (.slice qa h.m.quotes.length qc) (.slice ta h.c.trusts.length tc) (.slice na h.c.nonces.length nc) h.m h.c (peekD h.m af ap).2 (peekD h.m af ap).1 0 0) ((H.out.setN _).setCode _) ?_
  clear r0 r1 rz m0 m1 m2 mz c0 c1 cz o0 o1 oz u0 u1 uz e1 e2 e3 e4 e5 e6 e1' e2' e3' e4' e5' e6'
  clear H
  generalize (peekD h.m af ap).2 = c2 at HD ⊢
  intro W H
  have r0 := H.r0
  have r1 := H.r1
  have rz := H.rz
  have m0 := H.m0
  have m1 := H.m1
  have m2 := H.m2
  have mz := H.mz
  have c0 := H.c0
  have c1 := H.c1
  have cz := H.cz
  have o0 := H.o0
  have o1 := H.o1
  have oz := H.oz
  have u0 := H.u0
  have u1 := H.u1
  have uz := H.uz
  have e1 := H.mc
  have e2 := H.mo
  have e3 := H.mu
  have e4 := H.co
  have e5 := H.cu
  have e6 := H.ou
  have e1' := e1.symm
  have e2' := e2.symm
  have e3' := e3.symm
  have e4' := e4.symm
  have e5' := e5.symm
  have e6' := e6.symm
  replace H := hid H
  have hbw := H.out.below.size
  have k0 := cell_later H.out.below H0.out.c0
  have k1 := cell_later H.out.below H0.out.c1
  have k2 := cell_later H.out.below H0.out.c2
  have k3 := cell_later H.out.below H0.out.c3
  have k4 := cell_later H.out.below H0.out.c4
  have kz : ∀ o, W.frozen? ⟨B, o, none⟩ = false := fun o => by rw [(bcell H.out.below).2 _ _ hb0]; exact H0.out.cz o
  have t1 : B ≠ mb := by have := H.out.bm; omega
  have t2 : B ≠ cb := by have := H.out.bc; omega
  have t3 : B ≠ ob := by have := H.out.bo; omega
  have t4 : B ≠ ob + 1 := by have := H.out.bu; omega
  have t5 : B ≠ w.heap.size + 1 := by omega
  have t1' := t1.symm
  have t2' := t2.symm
  have t3' := t3.symm
  have t4' := t4.symm
  have t5' := t5.symm
  have f1 : w.heap.size + 1 ≠ ob := by have := H.out.bo; omega
  have f2 : w.heap.size + 1 ≠ ob + 1 := by have := H.out.bu; omega
  have f1' := f1.symm
  have f2' := f2.symm
  by_cases hc2 : c2 = 0
  · subst hc2
    have HD1 := hid (HD.out.trans (keepM_0 _ _ _))
    clear HD
    go_upto_region 32 with fail
    go_region
    all_goals
      refine act_gen (ActEnd w B ob (ob + 1) top fa fc ea ec qa qc ta tc na nc ⟨h.m, h.c⟩ (peekD h.m af ap).1 0 0) ((H.out.fin (h := ⟨h.m, h.c⟩) H0.out).drew) ?_
      clear r0 r1 rz m0 m1 m2 mz c0 c1 cz o0 o1 oz u0 u1 uz e1 e2 e3 e4 e5 e6 e1' e2' e3' e4' e5' e6'
      clear k0 k1 k2 k3 k4 kz H
      intro W H
      have r0 := H.r0
      have r1 := H.r1
      have rz := H.rz
      have o0 := H.o0
      have o1 := H.o1
      have u0 := H.u0
      replace H := hid H
      go_wp2_with fail
      exact bodyPost_ret (v := .agg #[.int .i64 0, .int .i64 (peekD h.m af ap).1]) (by simp only [results, Tryz.results11]; go_simp) rfl ⟨by rw [HD1.out], by rw [HD1.out]; exact (H.out.done 0 (peekD h.m af ap).1)⟩
  · have HD1 := hid (HD.out.trans (keepM_1 _ _ _ hc2))
    have hE1 : (c2 != 0) = true := by rw [bne_iff_ne]; exact hc2
    clear HD hc2
    go_wp2_with fail
    refine bodyPost_ret (v := .agg #[.int .i64 c2, .int .i64 0]) (by simp only [results, Tryz.results11]; go_simp) rfl ⟨by rw [HD1.out], ?_⟩
    rw [HD1.out]
    have HB := below_low2 H.out.below (b := w.heap.size + 1) (by omega) (.int .i64 c2) (.int .i64 0)
    exact ⟨HostAt.later ⟨_, _, _, _, _, _, _, _, _, _, H0.out⟩ HB, grownBy_of_below HB⟩

set_option maxRecDepth 10000 in
set_option maxHeartbeats 1600000 in
theorem hostAct_enter (B : Nat) (h : HostD) (a : ActD) (w : World) (HA : HostAt B h w) (hf : h.m.Fits) (hk : a.kind = 8) : Calls Tryz.prog 11 #[.pointer (some ⟨B, 0, none⟩), a.v] w (ActRes B h a w) := by
  obtain ⟨kind, ae, af, ap, ar, an, afu⟩ := a
  obtain rfl : kind = 8 := hk
  have HD : Hid (actD h ⟨8, ae, af, ap, ar, an, afu⟩ = keepR h (enterD h.m ae an afu)) := by show _ = _; simp [actD]
  have HE := enterD_ends (M := h.m) (e := ae) (word := an) (fuel := afu)
  dsimp only [ActD.v]
  obtain ⟨fa, fc, ea, ec, qa, qc, ta, tc, na, nc, H0⟩ := HA
  have H0 := hid H0
  go_enter Tryz.func11, Tryz.ntmps11
  go_upto_region 1 with fail
  refine act_gen (fun W => PreSt w W ∧ ArgSt w (⟨8, ae, af, ap, ar, an, afu⟩ : ActD) W) ⟨⟨by go_grown, by go_size, by go_simp, by go_simp, fun o => by go_simp⟩, ⟨by go_simp, by go_simp, by go_simp, by go_simp, by go_simp, by go_simp, by go_simp⟩⟩ ?_
  rintro W ⟨HP, HG⟩
  have hb0 := H0.out.lt
  have g0 := cell_later HP.below H0.out.c0
  have g1 := cell_later HP.below H0.out.c1
  have g2 := cell_later HP.below H0.out.c2
  have g3 := cell_later HP.below H0.out.c3
  have g4 := cell_later HP.below H0.out.c4
  have i0 := cell_new1 g0
  have i1 := cell_new1 g1
  have i2 := cell_new1 g2
  have i3 := cell_new1 g3
  have i4 := cell_new1 g4
  have j0 := cell_new2 g0
  have j1 := cell_new2 g1
  have j2 := cell_new2 g2
  have j3 := cell_new2 g3
  have j4 := cell_new2 g4
  replace HP := hid HP
  replace HG := hid HG
  go_cut [5, 6] from 9 to 16 (fun p q W => ∃ mb cb, p = .pointer (some ⟨mb, 0, none⟩) ∧ q = .pointer (some ⟨cb, 0, none⟩) ∧ Hid (PreSt w W ∧ ArgSt w (⟨8, ae, af, ap, ar, an, afu⟩ : ActD) W ∧ TwoSt w mb cb (.slice fa h.m.frames.length fc) (.slice ea h.m.encl.length ec) (.slice qa h.m.quotes.length qc) (.slice ta h.c.trusts.length tc) (.slice na h.c.nonces.length nc) W))
  case first =>
    go_region
    all_goals
      go_wp2_with fail
      go_meet
      first
      | exact ⟨_, _, rfl, rfl, HP.out.later (by go_grown), HG.out.later (by go_grown), (TwoSt.mc' HP.out _ _).later (below_drew _)⟩
      | exact ⟨_, _, rfl, rfl, HP.out.later (by go_grown), HG.out.later (by go_grown), (TwoSt.cm' HP.out _ _).later (below_drew _)⟩
  case rest =>
  obtain ⟨mb, cb, rfl, rfl, HT⟩ := hcut
  clear g0 g1 g2 g3 g4 i0 i1 i2 i3 i4 j0 j1 j2 j3 j4 HP HG W
  go_upto_region 4 with fail
  refine act_gen (fun W => ActSt w mb cb wc.heap.size (wc.heap.size + 1) (wc.heap.size + 2) (.slice fa h.m.frames.length fc) (.slice ea h.m.encl.length ec) (.slice qa h.m.quotes.length qc) (.slice ta h.c.trusts.length tc) (.slice na h.c.nonces.length nc) h.m h.c 0 0 0 0 W ∧ ArgSt w (⟨8, ae, af, ap, ar, an, afu⟩ : ActD) W)
    ⟨ActSt.start HT.out.1 HT.out.2.2 (.inr ⟨H0.out.m, HT.out.1.below.trans (Below.mono (by go_grown) HT.out.1.below.size)⟩) (.inr ⟨H0.out.c, HT.out.1.below.trans (Below.mono (by go_grown) HT.out.1.below.size)⟩), HT.out.2.1.later (by go_grown)⟩ ?_
  clear HT
  generalize wc.heap.size = ob
  generalize ob + 2 = top
  clear wc
  rintro W ⟨H, HG⟩
  have a0 := HG.a0
  have a1 := HG.a1
  have a2 := HG.a2
  have a3 := HG.a3
  have a4 := HG.a4
  have a5 := HG.a5
  have a6 := HG.a6
  have r0 := H.r0
  have r1 := H.r1
  have rz := H.rz
  have m0 := H.m0
  have m1 := H.m1
  have m2 := H.m2
  have mz := H.mz
  have c0 := H.c0
  have c1 := H.c1
  have cz := H.cz
  have o0 := H.o0
  have o1 := H.o1
  have oz := H.oz
  have u0 := H.u0
  have u1 := H.u1
  have uz := H.uz
  have e1 := H.mc
  have e2 := H.mo
  have e3 := H.mu
  have e4 := H.co
  have e5 := H.cu
  have e6 := H.ou
  have e1' := e1.symm
  have e2' := e2.symm
  have e3' := e3.symm
  have e4' := e4.symm
  have e5' := e5.symm
  have e6' := e6.symm
  replace H := hid H
  go_wp2_with fail
  refine (runEnter _ h.m ae an afu _ H.out.mok.at hf).mono ?_
  rintro x w2 ⟨v2, rfl, hA2, hb2⟩
  obtain ⟨fa2, fc2, ea2, ec2, qa2, qc2, rfl, h2⟩ := hA2.at
  clear h2
  clear r0 r1 rz m0 m1 m2 mz c0 c1 cz o0 o1 oz u0 u1 uz e1 e2 e3 e4 e5 e6 e1' e2' e3' e4' e5' e6'
  clear a0 a1 a2 a3 a4 a5 a6 HG
  have HA2 := hid (hA2.mono H.out.tl)
  replace H := H.out.later hb2
  clear hA2 hb2
  have r0 := H.r0
  have r1 := H.r1
  have rz := H.rz
  have m0 := H.m0
  have m1 := H.m1
  have m2 := H.m2
  have mz := H.mz
  have c0 := H.c0
  have c1 := H.c1
  have cz := H.cz
  have o0 := H.o0
  have o1 := H.o1
  have oz := H.oz
  have u0 := H.u0
  have u1 := H.u1
  have uz := H.uz
  have e1 := H.mc
  have e2 := H.mo
  have e3 := H.mu
  have e4 := H.co
  have e5 := H.cu
  have e6 := H.ou
  have e1' := e1.symm
  have e2' := e2.symm
  have e3' := e3.symm
  have e4' := e4.symm
  have e5' := e5.symm
  have e6' := e6.symm
  replace H := hid H
  go_upto_region 30 with fail
  refine act_gen (ActSt w mb cb ob (ob + 1) top (.slice fa2 (enterD h.m ae an afu).1.frames.length fc2) (.slice ea2 (enterD h.m ae an afu).1.encl.length ec2) (.slice qa2 (enterD h.m ae an afu).1.quotes.length qc2) (.slice ta h.c.trusts.length tc) (.slice na h.c.nonces.length nc) (enterD h.m ae an afu).1 h.c (enterD h.m ae an afu).2.2 0 (enterD h.m ae an afu).2.1.1 (enterD h.m ae an afu).2.1.2) (((H.out.setM (.inl HA2.out)).setO _ _).setCode _) ?_
  clear r0 r1 rz m0 m1 m2 mz c0 c1 cz o0 o1 oz u0 u1 uz e1 e2 e3 e4 e5 e6 e1' e2' e3' e4' e5' e6'
  clear H HA2
  generalize enterD h.m ae an afu = R at HD HE ⊢
  obtain ⟨M2, ⟨oe, ov⟩, c2⟩ := R
  dsimp only at HE ⊢
  intro W H
  have r0 := H.r0
  have r1 := H.r1
  have rz := H.rz
  have m0 := H.m0
  have m1 := H.m1
  have m2 := H.m2
  have mz := H.mz
  have c0 := H.c0
  have c1 := H.c1
  have cz := H.cz
  have o0 := H.o0
  have o1 := H.o1
  have oz := H.oz
  have u0 := H.u0
  have u1 := H.u1
  have uz := H.uz
  have e1 := H.mc
  have e2 := H.mo
  have e3 := H.mu
  have e4 := H.co
  have e5 := H.cu
  have e6 := H.ou
  have e1' := e1.symm
  have e2' := e2.symm
  have e3' := e3.symm
  have e4' := e4.symm
  have e5' := e5.symm
  have e6' := e6.symm
  replace H := hid H
  have hbw := H.out.below.size
  have k0 := cell_later H.out.below H0.out.c0
  have k1 := cell_later H.out.below H0.out.c1
  have k2 := cell_later H.out.below H0.out.c2
  have k3 := cell_later H.out.below H0.out.c3
  have k4 := cell_later H.out.below H0.out.c4
  have kz : ∀ o, W.frozen? ⟨B, o, none⟩ = false := fun o => by rw [(bcell H.out.below).2 _ _ hb0]; exact H0.out.cz o
  have t1 : B ≠ mb := by have := H.out.bm; omega
  have t2 : B ≠ cb := by have := H.out.bc; omega
  have t3 : B ≠ ob := by have := H.out.bo; omega
  have t4 : B ≠ ob + 1 := by have := H.out.bu; omega
  have t5 : B ≠ w.heap.size + 1 := by omega
  have t1' := t1.symm
  have t2' := t2.symm
  have t3' := t3.symm
  have t4' := t4.symm
  have t5' := t5.symm
  have f1 : w.heap.size + 1 ≠ ob := by have := H.out.bo; omega
  have f2 : w.heap.size + 1 ≠ ob + 1 := by have := H.out.bu; omega
  have f1' := f1.symm
  have f2' := f2.symm
  by_cases hc2 : c2 = 0
  · subst hc2
    have HD1 := hid (HD.out.trans (keepR_0 _ _ _))
    have HE2 := HE rfl
    have hE1 : (oe != 0) = true := by rw [bne_iff_ne]; exact HE2
    clear HD HE HE2
    go_upto_region 32 with fail
    go_region
    all_goals
      refine act_gen (ActEnd w B ob (ob + 1) top fa2 fc2 ea2 ec2 qa2 qc2 ta tc na nc ⟨M2, h.c⟩ 0 oe ov) ((H.out.fin (h := ⟨M2, h.c⟩) H0.out).drew) ?_
      clear r0 r1 rz m0 m1 m2 mz c0 c1 cz o0 o1 oz u0 u1 uz e1 e2 e3 e4 e5 e6 e1' e2' e3' e4' e5' e6'
      clear k0 k1 k2 k3 k4 kz H
      intro W H
      have u0 := H.u0
      have u1 := H.u1
      replace H := hid H
      go_wp2_with fail
      refine (hostRan oe ov W).mono ?_
      rintro x w2 ⟨rfl, hb2⟩
      replace H := H.out.later hb2
      clear u0 u1 hb2
      have r0 := H.r0
      have r1 := H.r1
      have rz := H.rz
      replace H := hid H
      generalize ranA (oe, ov) = A at HD1 ⊢
      obtain ⟨ac, an'⟩ := A
      dsimp only
      go_wp2_with fail
      exact bodyPost_ret (v := .agg #[.int .i64 ac, .int .i64 an']) (by simp only [results, Tryz.results11]; go_simp) rfl ⟨by rw [HD1.out], by rw [HD1.out]; exact (H.out.done ac an')⟩
  · have HD1 := hid (HD.out.trans (keepR_1 _ _ _ hc2))
    have hE1 : (c2 != 0) = true := by rw [bne_iff_ne]; exact hc2
    clear HD hc2 HE
    go_wp2_with fail
    refine bodyPost_ret (v := .agg #[.int .i64 c2, .int .i64 0]) (by simp only [results, Tryz.results11]; go_simp) rfl ⟨by rw [HD1.out], ?_⟩
    rw [HD1.out]
    have HB := below_low2 H.out.below (b := w.heap.size + 1) (by omega) (.int .i64 c2) (.int .i64 0)
    exact ⟨HostAt.later ⟨_, _, _, _, _, _, _, _, _, _, H0.out⟩ HB, grownBy_of_below HB⟩

set_option maxRecDepth 10000 in
set_option maxHeartbeats 1600000 in
theorem hostAct_resume (B : Nat) (h : HostD) (a : ActD) (w : World) (HA : HostAt B h w) (hf : h.m.Fits) (hk : a.kind = 9) : Calls Tryz.prog 11 #[.pointer (some ⟨B, 0, none⟩), a.v] w (ActRes B h a w) := by
  obtain ⟨kind, ae, af, ap, ar, an, afu⟩ := a
  obtain rfl : kind = 9 := hk
  have HD : Hid (actD h ⟨9, ae, af, ap, ar, an, afu⟩ = keepR h (resumeD h.m ae afu)) := by show _ = _; simp [actD]
  have HE := resumeD_ends (M := h.m) (e := ae) (fuel := afu)
  dsimp only [ActD.v]
  obtain ⟨fa, fc, ea, ec, qa, qc, ta, tc, na, nc, H0⟩ := HA
  have H0 := hid H0
  go_enter Tryz.func11, Tryz.ntmps11
  go_upto_region 1 with fail
  refine act_gen (fun W => PreSt w W ∧ ArgSt w (⟨9, ae, af, ap, ar, an, afu⟩ : ActD) W) ⟨⟨by go_grown, by go_size, by go_simp, by go_simp, fun o => by go_simp⟩, ⟨by go_simp, by go_simp, by go_simp, by go_simp, by go_simp, by go_simp, by go_simp⟩⟩ ?_
  rintro W ⟨HP, HG⟩
  have hb0 := H0.out.lt
  have g0 := cell_later HP.below H0.out.c0
  have g1 := cell_later HP.below H0.out.c1
  have g2 := cell_later HP.below H0.out.c2
  have g3 := cell_later HP.below H0.out.c3
  have g4 := cell_later HP.below H0.out.c4
  have i0 := cell_new1 g0
  have i1 := cell_new1 g1
  have i2 := cell_new1 g2
  have i3 := cell_new1 g3
  have i4 := cell_new1 g4
  have j0 := cell_new2 g0
  have j1 := cell_new2 g1
  have j2 := cell_new2 g2
  have j3 := cell_new2 g3
  have j4 := cell_new2 g4
  replace HP := hid HP
  replace HG := hid HG
  go_cut [5, 6] from 9 to 16 (fun p q W => ∃ mb cb, p = .pointer (some ⟨mb, 0, none⟩) ∧ q = .pointer (some ⟨cb, 0, none⟩) ∧ Hid (PreSt w W ∧ ArgSt w (⟨9, ae, af, ap, ar, an, afu⟩ : ActD) W ∧ TwoSt w mb cb (.slice fa h.m.frames.length fc) (.slice ea h.m.encl.length ec) (.slice qa h.m.quotes.length qc) (.slice ta h.c.trusts.length tc) (.slice na h.c.nonces.length nc) W))
  case first =>
    go_region
    all_goals
      go_wp2_with fail
      go_meet
      first
      | exact ⟨_, _, rfl, rfl, HP.out.later (by go_grown), HG.out.later (by go_grown), (TwoSt.mc' HP.out _ _).later (below_drew _)⟩
      | exact ⟨_, _, rfl, rfl, HP.out.later (by go_grown), HG.out.later (by go_grown), (TwoSt.cm' HP.out _ _).later (below_drew _)⟩
  case rest =>
  obtain ⟨mb, cb, rfl, rfl, HT⟩ := hcut
  clear g0 g1 g2 g3 g4 i0 i1 i2 i3 i4 j0 j1 j2 j3 j4 HP HG W
  go_upto_region 4 with fail
  refine act_gen (fun W => ActSt w mb cb wc.heap.size (wc.heap.size + 1) (wc.heap.size + 2) (.slice fa h.m.frames.length fc) (.slice ea h.m.encl.length ec) (.slice qa h.m.quotes.length qc) (.slice ta h.c.trusts.length tc) (.slice na h.c.nonces.length nc) h.m h.c 0 0 0 0 W ∧ ArgSt w (⟨9, ae, af, ap, ar, an, afu⟩ : ActD) W)
    ⟨ActSt.start HT.out.1 HT.out.2.2 (.inr ⟨H0.out.m, HT.out.1.below.trans (Below.mono (by go_grown) HT.out.1.below.size)⟩) (.inr ⟨H0.out.c, HT.out.1.below.trans (Below.mono (by go_grown) HT.out.1.below.size)⟩), HT.out.2.1.later (by go_grown)⟩ ?_
  clear HT
  generalize wc.heap.size = ob
  generalize ob + 2 = top
  clear wc
  rintro W ⟨H, HG⟩
  have a0 := HG.a0
  have a1 := HG.a1
  have a2 := HG.a2
  have a3 := HG.a3
  have a4 := HG.a4
  have a5 := HG.a5
  have a6 := HG.a6
  have r0 := H.r0
  have r1 := H.r1
  have rz := H.rz
  have m0 := H.m0
  have m1 := H.m1
  have m2 := H.m2
  have mz := H.mz
  have c0 := H.c0
  have c1 := H.c1
  have cz := H.cz
  have o0 := H.o0
  have o1 := H.o1
  have oz := H.oz
  have u0 := H.u0
  have u1 := H.u1
  have uz := H.uz
  have e1 := H.mc
  have e2 := H.mo
  have e3 := H.mu
  have e4 := H.co
  have e5 := H.cu
  have e6 := H.ou
  have e1' := e1.symm
  have e2' := e2.symm
  have e3' := e3.symm
  have e4' := e4.symm
  have e5' := e5.symm
  have e6' := e6.symm
  replace H := hid H
  go_wp2_with fail
  refine (runResume _ h.m ae afu _ H.out.mok.at hf).mono ?_
  rintro x w2 ⟨v2, rfl, hA2, hb2⟩
  obtain ⟨fa2, fc2, ea2, ec2, qa2, qc2, rfl, h2⟩ := hA2.at
  clear h2
  clear r0 r1 rz m0 m1 m2 mz c0 c1 cz o0 o1 oz u0 u1 uz e1 e2 e3 e4 e5 e6 e1' e2' e3' e4' e5' e6'
  clear a0 a1 a2 a3 a4 a5 a6 HG
  have HA2 := hid (hA2.mono H.out.tl)
  replace H := H.out.later hb2
  clear hA2 hb2
  have r0 := H.r0
  have r1 := H.r1
  have rz := H.rz
  have m0 := H.m0
  have m1 := H.m1
  have m2 := H.m2
  have mz := H.mz
  have c0 := H.c0
  have c1 := H.c1
  have cz := H.cz
  have o0 := H.o0
  have o1 := H.o1
  have oz := H.oz
  have u0 := H.u0
  have u1 := H.u1
  have uz := H.uz
  have e1 := H.mc
  have e2 := H.mo
  have e3 := H.mu
  have e4 := H.co
  have e5 := H.cu
  have e6 := H.ou
  have e1' := e1.symm
  have e2' := e2.symm
  have e3' := e3.symm
  have e4' := e4.symm
  have e5' := e5.symm
  have e6' := e6.symm
  replace H := hid H
  go_upto_region 30 with fail
  refine act_gen (ActSt w mb cb ob (ob + 1) top (.slice fa2 (resumeD h.m ae afu).1.frames.length fc2) (.slice ea2 (resumeD h.m ae afu).1.encl.length ec2) (.slice qa2 (resumeD h.m ae afu).1.quotes.length qc2) (.slice ta h.c.trusts.length tc) (.slice na h.c.nonces.length nc) (resumeD h.m ae afu).1 h.c (resumeD h.m ae afu).2.2 0 (resumeD h.m ae afu).2.1.1 (resumeD h.m ae afu).2.1.2) (((H.out.setM (.inl HA2.out)).setO _ _).setCode _) ?_
  clear r0 r1 rz m0 m1 m2 mz c0 c1 cz o0 o1 oz u0 u1 uz e1 e2 e3 e4 e5 e6 e1' e2' e3' e4' e5' e6'
  clear H HA2
  generalize resumeD h.m ae afu = R at HD HE ⊢
  obtain ⟨M2, ⟨oe, ov⟩, c2⟩ := R
  dsimp only at HE ⊢
  intro W H
  have r0 := H.r0
  have r1 := H.r1
  have rz := H.rz
  have m0 := H.m0
  have m1 := H.m1
  have m2 := H.m2
  have mz := H.mz
  have c0 := H.c0
  have c1 := H.c1
  have cz := H.cz
  have o0 := H.o0
  have o1 := H.o1
  have oz := H.oz
  have u0 := H.u0
  have u1 := H.u1
  have uz := H.uz
  have e1 := H.mc
  have e2 := H.mo
  have e3 := H.mu
  have e4 := H.co
  have e5 := H.cu
  have e6 := H.ou
  have e1' := e1.symm
  have e2' := e2.symm
  have e3' := e3.symm
  have e4' := e4.symm
  have e5' := e5.symm
  have e6' := e6.symm
  replace H := hid H
  have hbw := H.out.below.size
  have k0 := cell_later H.out.below H0.out.c0
  have k1 := cell_later H.out.below H0.out.c1
  have k2 := cell_later H.out.below H0.out.c2
  have k3 := cell_later H.out.below H0.out.c3
  have k4 := cell_later H.out.below H0.out.c4
  have kz : ∀ o, W.frozen? ⟨B, o, none⟩ = false := fun o => by rw [(bcell H.out.below).2 _ _ hb0]; exact H0.out.cz o
  have t1 : B ≠ mb := by have := H.out.bm; omega
  have t2 : B ≠ cb := by have := H.out.bc; omega
  have t3 : B ≠ ob := by have := H.out.bo; omega
  have t4 : B ≠ ob + 1 := by have := H.out.bu; omega
  have t5 : B ≠ w.heap.size + 1 := by omega
  have t1' := t1.symm
  have t2' := t2.symm
  have t3' := t3.symm
  have t4' := t4.symm
  have t5' := t5.symm
  have f1 : w.heap.size + 1 ≠ ob := by have := H.out.bo; omega
  have f2 : w.heap.size + 1 ≠ ob + 1 := by have := H.out.bu; omega
  have f1' := f1.symm
  have f2' := f2.symm
  by_cases hc2 : c2 = 0
  · subst hc2
    have HD1 := hid (HD.out.trans (keepR_0 _ _ _))
    have HE2 := HE rfl
    have hE1 : (oe != 0) = true := by rw [bne_iff_ne]; exact HE2
    clear HD HE HE2
    go_upto_region 32 with fail
    go_region
    all_goals
      refine act_gen (ActEnd w B ob (ob + 1) top fa2 fc2 ea2 ec2 qa2 qc2 ta tc na nc ⟨M2, h.c⟩ 0 oe ov) ((H.out.fin (h := ⟨M2, h.c⟩) H0.out).drew) ?_
      clear r0 r1 rz m0 m1 m2 mz c0 c1 cz o0 o1 oz u0 u1 uz e1 e2 e3 e4 e5 e6 e1' e2' e3' e4' e5' e6'
      clear k0 k1 k2 k3 k4 kz H
      intro W H
      have u0 := H.u0
      have u1 := H.u1
      replace H := hid H
      go_wp2_with fail
      refine (hostRan oe ov W).mono ?_
      rintro x w2 ⟨rfl, hb2⟩
      replace H := H.out.later hb2
      clear u0 u1 hb2
      have r0 := H.r0
      have r1 := H.r1
      have rz := H.rz
      replace H := hid H
      generalize ranA (oe, ov) = A at HD1 ⊢
      obtain ⟨ac, an'⟩ := A
      dsimp only
      go_wp2_with fail
      exact bodyPost_ret (v := .agg #[.int .i64 ac, .int .i64 an']) (by simp only [results, Tryz.results11]; go_simp) rfl ⟨by rw [HD1.out], by rw [HD1.out]; exact (H.out.done ac an')⟩
  · have HD1 := hid (HD.out.trans (keepR_1 _ _ _ hc2))
    have hE1 : (c2 != 0) = true := by rw [bne_iff_ne]; exact hc2
    clear HD hc2 HE
    go_wp2_with fail
    refine bodyPost_ret (v := .agg #[.int .i64 c2, .int .i64 0]) (by simp only [results, Tryz.results11]; go_simp) rfl ⟨by rw [HD1.out], ?_⟩
    rw [HD1.out]
    have HB := below_low2 H.out.below (b := w.heap.size + 1) (by omega) (.int .i64 c2) (.int .i64 0)
    exact ⟨HostAt.later ⟨_, _, _, _, _, _, _, _, _, _, H0.out⟩ HB, grownBy_of_below HB⟩

set_option maxRecDepth 10000 in
set_option maxHeartbeats 1600000 in
theorem hostAct_ask (B : Nat) (h : HostD) (a : ActD) (w : World) (HA : HostAt B h w) (hfc : h.c.Fits) (hk : a.kind = 10) : Calls Tryz.prog 11 #[.pointer (some ⟨B, 0, none⟩), a.v] w (ActRes B h a w) := by
  obtain ⟨kind, ae, af, ap, ar, an, afu⟩ := a
  obtain rfl : kind = 10 := hk
  have HD : Hid (actD h ⟨10, ae, af, ap, ar, an, afu⟩ = keepC h (askD h.c).1 (askD h.c).2.1 (askD h.c).2.2) := by show _ = _; simp [actD]
  dsimp only [ActD.v]
  obtain ⟨fa, fc, ea, ec, qa, qc, ta, tc, na, nc, H0⟩ := HA
  have H0 := hid H0
  go_enter Tryz.func11, Tryz.ntmps11
  go_upto_region 1 with fail
  refine act_gen (fun W => PreSt w W ∧ ArgSt w (⟨10, ae, af, ap, ar, an, afu⟩ : ActD) W) ⟨⟨by go_grown, by go_size, by go_simp, by go_simp, fun o => by go_simp⟩, ⟨by go_simp, by go_simp, by go_simp, by go_simp, by go_simp, by go_simp, by go_simp⟩⟩ ?_
  rintro W ⟨HP, HG⟩
  have hb0 := H0.out.lt
  have g0 := cell_later HP.below H0.out.c0
  have g1 := cell_later HP.below H0.out.c1
  have g2 := cell_later HP.below H0.out.c2
  have g3 := cell_later HP.below H0.out.c3
  have g4 := cell_later HP.below H0.out.c4
  have i0 := cell_new1 g0
  have i1 := cell_new1 g1
  have i2 := cell_new1 g2
  have i3 := cell_new1 g3
  have i4 := cell_new1 g4
  have j0 := cell_new2 g0
  have j1 := cell_new2 g1
  have j2 := cell_new2 g2
  have j3 := cell_new2 g3
  have j4 := cell_new2 g4
  replace HP := hid HP
  replace HG := hid HG
  go_cut [5, 6] from 9 to 16 (fun p q W => ∃ mb cb, p = .pointer (some ⟨mb, 0, none⟩) ∧ q = .pointer (some ⟨cb, 0, none⟩) ∧ Hid (PreSt w W ∧ ArgSt w (⟨10, ae, af, ap, ar, an, afu⟩ : ActD) W ∧ TwoSt w mb cb (.slice fa h.m.frames.length fc) (.slice ea h.m.encl.length ec) (.slice qa h.m.quotes.length qc) (.slice ta h.c.trusts.length tc) (.slice na h.c.nonces.length nc) W))
  case first =>
    go_region
    all_goals
      go_wp2_with fail
      go_meet
      first
      | exact ⟨_, _, rfl, rfl, HP.out.later (by go_grown), HG.out.later (by go_grown), (TwoSt.mc' HP.out _ _).later (below_drew _)⟩
      | exact ⟨_, _, rfl, rfl, HP.out.later (by go_grown), HG.out.later (by go_grown), (TwoSt.cm' HP.out _ _).later (below_drew _)⟩
  case rest =>
  obtain ⟨mb, cb, rfl, rfl, HT⟩ := hcut
  clear g0 g1 g2 g3 g4 i0 i1 i2 i3 i4 j0 j1 j2 j3 j4 HP HG W
  go_upto_region 4 with fail
  refine act_gen (fun W => ActSt w mb cb wc.heap.size (wc.heap.size + 1) (wc.heap.size + 2) (.slice fa h.m.frames.length fc) (.slice ea h.m.encl.length ec) (.slice qa h.m.quotes.length qc) (.slice ta h.c.trusts.length tc) (.slice na h.c.nonces.length nc) h.m h.c 0 0 0 0 W ∧ ArgSt w (⟨10, ae, af, ap, ar, an, afu⟩ : ActD) W)
    ⟨ActSt.start HT.out.1 HT.out.2.2 (.inr ⟨H0.out.m, HT.out.1.below.trans (Below.mono (by go_grown) HT.out.1.below.size)⟩) (.inr ⟨H0.out.c, HT.out.1.below.trans (Below.mono (by go_grown) HT.out.1.below.size)⟩), HT.out.2.1.later (by go_grown)⟩ ?_
  clear HT
  generalize wc.heap.size = ob
  generalize ob + 2 = top
  clear wc
  rintro W ⟨H, HG⟩
  have a0 := HG.a0
  have a1 := HG.a1
  have a2 := HG.a2
  have a3 := HG.a3
  have a4 := HG.a4
  have a5 := HG.a5
  have a6 := HG.a6
  have r0 := H.r0
  have r1 := H.r1
  have rz := H.rz
  have m0 := H.m0
  have m1 := H.m1
  have m2 := H.m2
  have mz := H.mz
  have c0 := H.c0
  have c1 := H.c1
  have cz := H.cz
  have o0 := H.o0
  have o1 := H.o1
  have oz := H.oz
  have u0 := H.u0
  have u1 := H.u1
  have uz := H.uz
  have e1 := H.mc
  have e2 := H.mo
  have e3 := H.mu
  have e4 := H.co
  have e5 := H.cu
  have e6 := H.ou
  have e1' := e1.symm
  have e2' := e2.symm
  have e3' := e3.symm
  have e4' := e4.symm
  have e5' := e5.symm
  have e6' := e6.symm
  replace H := hid H
  go_wp2_with fail
  refine (trustAsk _ h.c _ H.out.cok.at hfc).mono ?_
  rintro x w2 ⟨v2, rfl, hA2, hb2⟩
  clear r0 r1 rz m0 m1 m2 mz c0 c1 cz o0 o1 oz u0 u1 uz e1 e2 e3 e4 e5 e6 e1' e2' e3' e4' e5' e6'
  clear a0 a1 a2 a3 a4 a5 a6 HG
  obtain ⟨ta2, tc2, na2, nc2, rfl, h2⟩ := hA2.at
  clear h2
  have HA2 := hid (hA2.mono H.out.tl)
  replace H := H.out.later hb2
  clear hb2 hA2
  have r0 := H.r0
  have r1 := H.r1
  have rz := H.rz
  have m0 := H.m0
  have m1 := H.m1
  have m2 := H.m2
  have mz := H.mz
  have c0 := H.c0
  have c1 := H.c1
  have cz := H.cz
  have o0 := H.o0
  have o1 := H.o1
  have oz := H.oz
  have u0 := H.u0
  have u1 := H.u1
  have uz := H.uz
  have e1 := H.mc
  have e2 := H.mo
  have e3 := H.mu
  have e4 := H.co
  have e5 := H.cu
  have e6 := H.ou
  have e1' := e1.symm
  have e2' := e2.symm
  have e3' := e3.symm
  have e4' := e4.symm
  have e5' := e5.symm
  have e6' := e6.symm
  replace H := hid H
  go_upto_region 30 with fail
  refine act_gen (ActSt w mb cb ob (ob + 1) top (.slice fa h.m.frames.length fc) (.slice ea h.m.encl.length ec) (.slice qa h.m.quotes.length qc) (.slice ta2 (askD h.c).1.trusts.length tc2) (.slice na2 (askD h.c).1.nonces.length nc2) h.m (askD h.c).1 (askD h.c).2.2 (askD h.c).2.1 0 0) (((H.out.setC (.inl HA2.out)).setN _).setCode _) ?_
  clear r0 r1 rz m0 m1 m2 mz c0 c1 cz o0 o1 oz u0 u1 uz e1 e2 e3 e4 e5 e6 e1' e2' e3' e4' e5' e6'
  clear H HA2
  generalize (askD h.c).2.2 = c2 at HD ⊢
  generalize (askD h.c).1 = C2 at HD ⊢
  intro W H
  have r0 := H.r0
  have r1 := H.r1
  have rz := H.rz
  have m0 := H.m0
  have m1 := H.m1
  have m2 := H.m2
  have mz := H.mz
  have c0 := H.c0
  have c1 := H.c1
  have cz := H.cz
  have o0 := H.o0
  have o1 := H.o1
  have oz := H.oz
  have u0 := H.u0
  have u1 := H.u1
  have uz := H.uz
  have e1 := H.mc
  have e2 := H.mo
  have e3 := H.mu
  have e4 := H.co
  have e5 := H.cu
  have e6 := H.ou
  have e1' := e1.symm
  have e2' := e2.symm
  have e3' := e3.symm
  have e4' := e4.symm
  have e5' := e5.symm
  have e6' := e6.symm
  replace H := hid H
  have hbw := H.out.below.size
  have k0 := cell_later H.out.below H0.out.c0
  have k1 := cell_later H.out.below H0.out.c1
  have k2 := cell_later H.out.below H0.out.c2
  have k3 := cell_later H.out.below H0.out.c3
  have k4 := cell_later H.out.below H0.out.c4
  have kz : ∀ o, W.frozen? ⟨B, o, none⟩ = false := fun o => by rw [(bcell H.out.below).2 _ _ hb0]; exact H0.out.cz o
  have t1 : B ≠ mb := by have := H.out.bm; omega
  have t2 : B ≠ cb := by have := H.out.bc; omega
  have t3 : B ≠ ob := by have := H.out.bo; omega
  have t4 : B ≠ ob + 1 := by have := H.out.bu; omega
  have t5 : B ≠ w.heap.size + 1 := by omega
  have t1' := t1.symm
  have t2' := t2.symm
  have t3' := t3.symm
  have t4' := t4.symm
  have t5' := t5.symm
  have f1 : w.heap.size + 1 ≠ ob := by have := H.out.bo; omega
  have f2 : w.heap.size + 1 ≠ ob + 1 := by have := H.out.bu; omega
  have f1' := f1.symm
  have f2' := f2.symm
  by_cases hc2 : c2 = 0
  · subst hc2
    have HD1 := hid (HD.out.trans (keepC_0 _ _ _))
    clear HD
    go_upto_region 32 with fail
    go_region
    all_goals
      refine act_gen (ActEnd w B ob (ob + 1) top fa fc ea ec qa qc ta2 tc2 na2 nc2 ⟨h.m, C2⟩ (askD h.c).2.1 0 0) ((H.out.fin (h := ⟨h.m, C2⟩) H0.out).drew) ?_
      clear r0 r1 rz m0 m1 m2 mz c0 c1 cz o0 o1 oz u0 u1 uz e1 e2 e3 e4 e5 e6 e1' e2' e3' e4' e5' e6'
      clear k0 k1 k2 k3 k4 kz H
      intro W H
      have r0 := H.r0
      have r1 := H.r1
      have rz := H.rz
      have o0 := H.o0
      have o1 := H.o1
      have u0 := H.u0
      replace H := hid H
      go_wp2_with fail
      exact bodyPost_ret (v := .agg #[.int .i64 0, .int .i64 (askD h.c).2.1]) (by simp only [results, Tryz.results11]; go_simp) rfl ⟨by rw [HD1.out], by rw [HD1.out]; exact (H.out.done 0 (askD h.c).2.1)⟩
  · have HD1 := hid (HD.out.trans (keepC_1 _ _ _ hc2))
    have hE1 : (c2 != 0) = true := by rw [bne_iff_ne]; exact hc2
    clear HD hc2
    go_wp2_with fail
    refine bodyPost_ret (v := .agg #[.int .i64 c2, .int .i64 0]) (by simp only [results, Tryz.results11]; go_simp) rfl ⟨by rw [HD1.out], ?_⟩
    rw [HD1.out]
    have HB := below_low2 H.out.below (b := w.heap.size + 1) (by omega) (.int .i64 c2) (.int .i64 0)
    exact ⟨HostAt.later ⟨_, _, _, _, _, _, _, _, _, _, H0.out⟩ HB, grownBy_of_below HB⟩

end Go.Proofs.YtklbbjionoeofaaGreatDoor
