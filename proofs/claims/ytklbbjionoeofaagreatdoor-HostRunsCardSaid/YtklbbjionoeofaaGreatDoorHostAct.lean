/- host.ran and host.act, walked, kind by kind. Conditions: those that each contract writes. -/
import Derived.Test.YtklbbjionoeofaaGreatDoorHostSt
import Derived.Test.YtklbbjionoeofaaGreatDoorPut
import Derived.Test.YtklbbjionoeofaaGreatDoorMeasure
import Derived.Test.YtklbbjionoeofaaGreatDoorGj
import Derived.Test.YtklbbjionoeofaaGreatDoorGl
import Derived.Test.YtklbbjionoeofaaGreatDoorGk
import Derived.Test.YtklbbjionoeofaaGreatDoorGq
import Derived.StillTailTactics
namespace Go.Proofs.YtklbbjionoeofaaGreatDoor
open Go.RowKit

set_option maxHeartbeats 400000 in
theorem hostRan (o n : Int) (w : World) : Calls Tryz.prog 47 #[.agg #[.int .i64 o, .int .i64 n]] w fun x w' => x = .returned (.agg #[.int .i64 (ranA (o, n)).code, .int .i64 (ranA (o, n)).n]) ∧ Below w.heap.size w w' := by
  by_cases h2 : o = 2
  · subst h2
    go_enter Tryz.func47, Tryz.ntmps47
    go_wp2_with fail
    exact bodyPost_ret (v := .agg #[.int .i64 9, .int .i64 0]) (by simp [results, Tryz.results47, go_sem]) rfl ⟨rfl, by go_grown⟩
  by_cases h3 : o = 3
  · subst h3
    go_enter Tryz.func47, Tryz.ntmps47
    go_wp2_with fail
    exact bodyPost_ret (v := .agg #[.int .i64 10, .int .i64 0]) (by simp [results, Tryz.results47, go_sem]) rfl ⟨rfl, by go_grown⟩
  · have e : ranA (o, n) = ⟨0, n⟩ := by simp [ranA, h2, h3]
    have HE := hid e
    have b2 : (o == 2) = false := by rw [beq_eq_false_iff_ne]; exact h2
    have b3 : (o == 3) = false := by rw [beq_eq_false_iff_ne]; exact h3
    clear e
    go_enter Tryz.func47, Tryz.ntmps47
    go_wp2_with fail
    exact bodyPost_ret (v := .agg #[.int .i64 0, .int .i64 n]) (by simp [results, Tryz.results47, go_sem]) rfl ⟨by rw [HE.out], by go_grown⟩

def ActRes (B : Nat) (h : HostD) (a : ActD) (w : World) (e : Ending) (w' : World) : Prop :=
  e = .returned (.agg #[.int .i64 (actD h a).2.code, .int .i64 (actD h a).2.n]) ∧ HostAt B (actD h a).1 w' ∧ w.grownBy w' (some B)

theorem keepM_0 (h : HostD) (m : MachD) (n : Int) : keepM h m n 0 = (⟨m, h.c⟩, ⟨0, n⟩) := rfl
theorem keepM_1 (h : HostD) (m : MachD) (n : Int) {c : Int} (hc : c ≠ 0) : keepM h m n c = (h, ⟨c, 0⟩) := by rw [keepM, if_pos hc]
theorem keepC_0 (h : HostD) (c : ChalD) (n : Int) : keepC h c n 0 = (⟨h.m, c⟩, ⟨0, n⟩) := rfl
theorem keepC_1 (h : HostD) (d : ChalD) (n : Int) {c : Int} (hc : c ≠ 0) : keepC h d n c = (h, ⟨c, 0⟩) := by rw [keepC, if_pos hc]
set_option maxRecDepth 10000 in
set_option maxHeartbeats 1600000 in
theorem hostAct_create (B : Nat) (h : HostD) (a : ActD) (w : World) (HA : HostAt B h w) (hf : h.m.Fits) (hT : Tab w) (hk : a.kind = 1) : Calls Tryz.prog 11 #[.pointer (some ⟨B, 0, none⟩), a.v] w (ActRes B h a w) := by
  obtain ⟨kind, ae, af, ap, ar, an, afu⟩ := a
  obtain rfl : kind = 1 := hk
  have HTab := hid hT
  have HD : Hid (actD h ⟨1, ae, af, ap, ar, an, afu⟩ = keepM h (createD h.m).1 (createD h.m).2.1 (createD h.m).2.2) := by show _ = _; simp [actD]
  dsimp only [ActD.v]
  obtain ⟨fa, fc, ea, ec, qa, qc, ta, tc, na, nc, H0⟩ := HA
  have H0 := hid H0
  go_enter Tryz.func11, Tryz.ntmps11
  go_upto_region 1 with fail
  refine act_gen (fun W => PreSt w W ∧ ArgSt w (⟨1, ae, af, ap, ar, an, afu⟩ : ActD) W) ⟨⟨by go_grown, by go_size, by go_simp, by go_simp, fun o => by go_simp⟩, ⟨by go_simp, by go_simp, by go_simp, by go_simp, by go_simp, by go_simp, by go_simp⟩⟩ ?_
  rintro W ⟨HP, HG⟩
  have hb0 := H0.out.lt
  have g0 := cell_later HP.below H0.out.c0
  have g1 := cell_later HP.below H0.out.c1
  have g2 := cell_later HP.below H0.out.c2
  have g3 := cell_later HP.below H0.out.c3
  have g4 := cell_later HP.below H0.out.c4
  have i0 := cell_new1 g0
  have i1 := cell_new1 g1
  have i2 := cell_new1 g2
  have i3 := cell_new1 g3
  have i4 := cell_new1 g4
  have j0 := cell_new2 g0
  have j1 := cell_new2 g1
  have j2 := cell_new2 g2
  have j3 := cell_new2 g3
  have j4 := cell_new2 g4
  replace HP := hid HP
  replace HG := hid HG
  go_cut [5, 6] from 9 to 16 (fun p q W => ∃ mb cb, p = .pointer (some ⟨mb, 0, none⟩) ∧ q = .pointer (some ⟨cb, 0, none⟩) ∧ Hid (PreSt w W ∧ ArgSt w (⟨1, ae, af, ap, ar, an, afu⟩ : ActD) W ∧ TwoSt w mb cb (.slice fa h.m.frames.length fc) (.slice ea h.m.encl.length ec) (.slice qa h.m.quotes.length qc) (.slice ta h.c.trusts.length tc) (.slice na h.c.nonces.length nc) W))
  case first =>
    go_region
    all_goals
      go_wp2_with fail
      go_meet
      first
      | exact ⟨_, _, rfl, rfl, HP.out.later (by go_grown), HG.out.later (by go_grown), (TwoSt.mc' HP.out _ _).later (below_drew _)⟩
      | exact ⟨_, _, rfl, rfl, HP.out.later (by go_grown), HG.out.later (by go_grown), (TwoSt.cm' HP.out _ _).later (below_drew _)⟩
  case rest =>
  obtain ⟨mb, cb, rfl, rfl, HT⟩ := hcut
  clear g0 g1 g2 g3 g4 i0 i1 i2 i3 i4 j0 j1 j2 j3 j4 HP HG W
  go_upto_region 4 with fail
  refine act_gen (fun W => ActSt w mb cb wc.heap.size (wc.heap.size + 1) (wc.heap.size + 2) (.slice fa h.m.frames.length fc) (.slice ea h.m.encl.length ec) (.slice qa h.m.quotes.length qc) (.slice ta h.c.trusts.length tc) (.slice na h.c.nonces.length nc) h.m h.c 0 0 0 0 W ∧ ArgSt w (⟨1, ae, af, ap, ar, an, afu⟩ : ActD) W)
    ⟨ActSt.start HT.out.1 HT.out.2.2 (.inr ⟨H0.out.m, HT.out.1.below.trans (Below.mono (by go_grown) HT.out.1.below.size)⟩) (.inr ⟨H0.out.c, HT.out.1.below.trans (Below.mono (by go_grown) HT.out.1.below.size)⟩), HT.out.2.1.later (by go_grown)⟩ ?_
  clear HT
  generalize wc.heap.size = ob
  generalize ob + 2 = top
  clear wc
  rintro W ⟨H, HG⟩
  have a0 := HG.a0
  have a1 := HG.a1
  have a2 := HG.a2
  have a3 := HG.a3
  have a4 := HG.a4
  have a5 := HG.a5
  have a6 := HG.a6
  have r0 := H.r0
  have r1 := H.r1
  have rz := H.rz
  have m0 := H.m0
  have m1 := H.m1
  have m2 := H.m2
  have mz := H.mz
  have c0 := H.c0
  have c1 := H.c1
  have cz := H.cz
  have o0 := H.o0
  have o1 := H.o1
  have oz := H.oz
  have u0 := H.u0
  have u1 := H.u1
  have uz := H.uz
  have e1 := H.mc
  have e2 := H.mo
  have e3 := H.mu
  have e4 := H.co
  have e5 := H.cu
  have e6 := H.ou
  have e1' := e1.symm
  have e2' := e2.symm
  have e3' := e3.symm
  have e4' := e4.symm
  have e5' := e5.symm
  have e6' := e6.symm
  replace H := hid H
  go_wp2_with fail
  refine (epcCreate _ h.m _ H.out.mok.at hf).mono ?_
  rintro x w2 ⟨v2, rfl, hA2, hb2⟩
  obtain ⟨fa2, fc2, ea2, ec2, qa2, qc2, rfl, h2⟩ := hA2.at
  clear h2
  clear r0 r1 rz m0 m1 m2 mz c0 c1 cz o0 o1 oz u0 u1 uz e1 e2 e3 e4 e5 e6 e1' e2' e3' e4' e5' e6'
  clear a0 a1 a2 a3 a4 a5 a6 HG
  have HA2 := hid (hA2.mono H.out.tl)
  replace H := H.out.later hb2
  clear hA2 hb2
  have r0 := H.r0
  have r1 := H.r1
  have rz := H.rz
  have m0 := H.m0
  have m1 := H.m1
  have m2 := H.m2
  have mz := H.mz
  have c0 := H.c0
  have c1 := H.c1
  have cz := H.cz
  have o0 := H.o0
  have o1 := H.o1
  have oz := H.oz
  have u0 := H.u0
  have u1 := H.u1
  have uz := H.uz
  have e1 := H.mc
  have e2 := H.mo
  have e3 := H.mu
  have e4 := H.co
  have e5 := H.cu
  have e6 := H.ou
  have e1' := e1.symm
  have e2' := e2.symm
  have e3' := e3.symm
  have e4' := e4.symm
  have e5' := e5.symm
  have e6' := e6.symm
  replace H := hid H
  go_upto_region 30 with fail
  refine act_gen (ActSt w mb cb ob (ob + 1) top (.slice fa2 ((createD h.m).1).frames.length fc2) (.slice ea2 ((createD h.m).1).encl.length ec2) (.slice qa2 ((createD h.m).1).quotes.length qc2) (.slice ta h.c.trusts.length tc) (.slice na h.c.nonces.length nc) ((createD h.m).1) h.c ((createD h.m).2.2) ((createD h.m).2.1) 0 0) ((((H.out.setM (.inl HA2.out)).setN _).setCode _)) ?_
  clear r0 r1 rz m0 m1 m2 mz c0 c1 cz o0 o1 oz u0 u1 uz e1 e2 e3 e4 e5 e6 e1' e2' e3' e4' e5' e6'
  clear H HA2
  generalize (createD h.m).1 = M2 at HD ⊢
  generalize (createD h.m).2.2 = c2 at HD ⊢
  intro W H
  have r0 := H.r0
  have r1 := H.r1
  have rz := H.rz
  have m0 := H.m0
  have m1 := H.m1
  have m2 := H.m2
  have mz := H.mz
  have c0 := H.c0
  have c1 := H.c1
  have cz := H.cz
  have o0 := H.o0
  have o1 := H.o1
  have oz := H.oz
  have u0 := H.u0
  have u1 := H.u1
  have uz := H.uz
  have e1 := H.mc
  have e2 := H.mo
  have e3 := H.mu
  have e4 := H.co
  have e5 := H.cu
  have e6 := H.ou
  have e1' := e1.symm
  have e2' := e2.symm
  have e3' := e3.symm
  have e4' := e4.symm
  have e5' := e5.symm
  have e6' := e6.symm
  replace H := hid H
  have hbw := H.out.below.size
  have k0 := cell_later H.out.below H0.out.c0
  have k1 := cell_later H.out.below H0.out.c1
  have k2 := cell_later H.out.below H0.out.c2
  have k3 := cell_later H.out.below H0.out.c3
  have k4 := cell_later H.out.below H0.out.c4
  have kz : ∀ o, W.frozen? ⟨B, o, none⟩ = false := fun o => by rw [(bcell H.out.below).2 _ _ hb0]; exact H0.out.cz o
  have t1 : B ≠ mb := by have := H.out.bm; omega
  have t2 : B ≠ cb := by have := H.out.bc; omega
  have t3 : B ≠ ob := by have := H.out.bo; omega
  have t4 : B ≠ ob + 1 := by have := H.out.bu; omega
  have t5 : B ≠ w.heap.size + 1 := by omega
  have t1' := t1.symm
  have t2' := t2.symm
  have t3' := t3.symm
  have t4' := t4.symm
  have t5' := t5.symm
  have f1 : w.heap.size + 1 ≠ ob := by have := H.out.bo; omega
  have f2 : w.heap.size + 1 ≠ ob + 1 := by have := H.out.bu; omega
  have f1' := f1.symm
  have f2' := f2.symm
  by_cases hc2 : c2 = 0
  · subst hc2
    have HD1 := hid (HD.out.trans (keepM_0 _ _ _))
    clear HD
    go_upto_region 32 with fail
    go_region
    all_goals
      refine act_gen (ActEnd w B ob (ob + 1) top fa2 fc2 ea2 ec2 qa2 qc2 ta tc na nc ⟨M2, h.c⟩ ((createD h.m).2.1) 0 0) ((H.out.fin (h := ⟨M2, h.c⟩) H0.out).drew) ?_
      clear r0 r1 rz m0 m1 m2 mz c0 c1 cz o0 o1 oz u0 u1 uz e1 e2 e3 e4 e5 e6 e1' e2' e3' e4' e5' e6'
      clear k0 k1 k2 k3 k4 kz H
      intro W H
      have r0 := H.r0
      have r1 := H.r1
      have rz := H.rz
      have o0 := H.o0
      have o1 := H.o1
      have u0 := H.u0
      replace H := hid H
      go_wp2_with fail
      exact bodyPost_ret (v := .agg #[.int .i64 0, .int .i64 ((createD h.m).2.1)]) (by simp only [results, Tryz.results11]; go_simp) rfl ⟨by rw [HD1.out], by rw [HD1.out]; exact (H.out.done 0 ((createD h.m).2.1))⟩
  · have HD1 := hid (HD.out.trans (keepM_1 _ _ _ hc2))
    have hE1 : (c2 != 0) = true := by rw [bne_iff_ne]; exact hc2
    clear HD hc2
    go_wp2_with fail
    refine bodyPost_ret (v := .agg #[.int .i64 c2, .int .i64 0]) (by simp only [results, Tryz.results11]; go_simp) rfl ⟨by rw [HD1.out], ?_⟩
    rw [HD1.out]
    have HB := below_low2 H.out.below (b := w.heap.size + 1) (by omega) (.int .i64 c2) (.int .i64 0)
    exact ⟨HostAt.later ⟨_, _, _, _, _, _, _, _, _, _, H0.out⟩ HB, grownBy_of_below HB⟩

set_option maxRecDepth 10000 in
set_option maxHeartbeats 1600000 in
theorem hostAct_put (B : Nat) (h : HostD) (a : ActD) (w : World) (HA : HostAt B h w) (hf : h.m.Fits) (hT : Tab w) (hk : a.kind = 2) : Calls Tryz.prog 11 #[.pointer (some ⟨B, 0, none⟩), a.v] w (ActRes B h a w) := by
  obtain ⟨kind, ae, af, ap, ar, an, afu⟩ := a
  obtain rfl : kind = 2 := hk
  have HTab := hid hT
  have HD : Hid (actD h ⟨2, ae, af, ap, ar, an, afu⟩ = keepM h (putD h.m ae af ap ar).1 0 (putD h.m ae af ap ar).2) := by show _ = _; simp [actD]
  dsimp only [ActD.v]
  obtain ⟨fa, fc, ea, ec, qa, qc, ta, tc, na, nc, H0⟩ := HA
  have H0 := hid H0
  go_enter Tryz.func11, Tryz.ntmps11
  go_upto_region 1 with fail
  refine act_gen (fun W => PreSt w W ∧ ArgSt w (⟨2, ae, af, ap, ar, an, afu⟩ : ActD) W) ⟨⟨by go_grown, by go_size, by go_simp, by go_simp, fun o => by go_simp⟩, ⟨by go_simp, by go_simp, by go_simp, by go_simp, by go_simp, by go_simp, by go_simp⟩⟩ ?_
  rintro W ⟨HP, HG⟩
  have hb0 := H0.out.lt
  have g0 := cell_later HP.below H0.out.c0
  have g1 := cell_later HP.below H0.out.c1
  have g2 := cell_later HP.below H0.out.c2
  have g3 := cell_later HP.below H0.out.c3
  have g4 := cell_later HP.below H0.out.c4
  have i0 := cell_new1 g0
  have i1 := cell_new1 g1
  have i2 := cell_new1 g2
  have i3 := cell_new1 g3
  have i4 := cell_new1 g4
  have j0 := cell_new2 g0
  have j1 := cell_new2 g1
  have j2 := cell_new2 g2
  have j3 := cell_new2 g3
  have j4 := cell_new2 g4
  replace HP := hid HP
  replace HG := hid HG
  go_cut [5, 6] from 9 to 16 (fun p q W => ∃ mb cb, p = .pointer (some ⟨mb, 0, none⟩) ∧ q = .pointer (some ⟨cb, 0, none⟩) ∧ Hid (PreSt w W ∧ ArgSt w (⟨2, ae, af, ap, ar, an, afu⟩ : ActD) W ∧ TwoSt w mb cb (.slice fa h.m.frames.length fc) (.slice ea h.m.encl.length ec) (.slice qa h.m.quotes.length qc) (.slice ta h.c.trusts.length tc) (.slice na h.c.nonces.length nc) W))
  case first =>
    go_region
    all_goals
      go_wp2_with fail
      go_meet
      first
      | exact ⟨_, _, rfl, rfl, HP.out.later (by go_grown), HG.out.later (by go_grown), (TwoSt.mc' HP.out _ _).later (below_drew _)⟩
      | exact ⟨_, _, rfl, rfl, HP.out.later (by go_grown), HG.out.later (by go_grown), (TwoSt.cm' HP.out _ _).later (below_drew _)⟩
  case rest =>
  obtain ⟨mb, cb, rfl, rfl, HT⟩ := hcut
  clear g0 g1 g2 g3 g4 i0 i1 i2 i3 i4 j0 j1 j2 j3 j4 HP HG W
  go_upto_region 4 with fail
  refine act_gen (fun W => ActSt w mb cb wc.heap.size (wc.heap.size + 1) (wc.heap.size + 2) (.slice fa h.m.frames.length fc) (.slice ea h.m.encl.length ec) (.slice qa h.m.quotes.length qc) (.slice ta h.c.trusts.length tc) (.slice na h.c.nonces.length nc) h.m h.c 0 0 0 0 W ∧ ArgSt w (⟨2, ae, af, ap, ar, an, afu⟩ : ActD) W)
    ⟨ActSt.start HT.out.1 HT.out.2.2 (.inr ⟨H0.out.m, HT.out.1.below.trans (Below.mono (by go_grown) HT.out.1.below.size)⟩) (.inr ⟨H0.out.c, HT.out.1.below.trans (Below.mono (by go_grown) HT.out.1.below.size)⟩), HT.out.2.1.later (by go_grown)⟩ ?_
  clear HT
  generalize wc.heap.size = ob
  generalize ob + 2 = top
  clear wc
  rintro W ⟨H, HG⟩
  have a0 := HG.a0
  have a1 := HG.a1
  have a2 := HG.a2
  have a3 := HG.a3
  have a4 := HG.a4
  have a5 := HG.a5
  have a6 := HG.a6
  have r0 := H.r0
  have r1 := H.r1
  have rz := H.rz
  have m0 := H.m0
  have m1 := H.m1
  have m2 := H.m2
  have mz := H.mz
  have c0 := H.c0
  have c1 := H.c1
  have cz := H.cz
  have o0 := H.o0
  have o1 := H.o1
  have oz := H.oz
  have u0 := H.u0
  have u1 := H.u1
  have uz := H.uz
  have e1 := H.mc
  have e2 := H.mo
  have e3 := H.mu
  have e4 := H.co
  have e5 := H.cu
  have e6 := H.ou
  have e1' := e1.symm
  have e2' := e2.symm
  have e3' := e3.symm
  have e4' := e4.symm
  have e5' := e5.symm
  have e6' := e6.symm
  replace H := hid H
  go_wp2_with fail
  refine (epcPut _ h.m ae af ap ar _ H.out.mok.at hf (HTab.out.mono H.out.below)).mono ?_
  rintro x w2 ⟨v2, rfl, hA2, hb2⟩
  obtain ⟨fa2, fc2, ea2, ec2, qa2, qc2, rfl, h2⟩ := hA2.at
  clear h2
  clear r0 r1 rz m0 m1 m2 mz c0 c1 cz o0 o1 oz u0 u1 uz e1 e2 e3 e4 e5 e6 e1' e2' e3' e4' e5' e6'
  clear a0 a1 a2 a3 a4 a5 a6 HG
  have HA2 := hid (hA2.mono H.out.tl)
  replace H := H.out.later hb2
  clear hA2 hb2
  have r0 := H.r0
  have r1 := H.r1
  have rz := H.rz
  have m0 := H.m0
  have m1 := H.m1
  have m2 := H.m2
  have mz := H.mz
  have c0 := H.c0
  have c1 := H.c1
  have cz := H.cz
  have o0 := H.o0
  have o1 := H.o1
  have oz := H.oz
  have u0 := H.u0
  have u1 := H.u1
  have uz := H.uz
  have e1 := H.mc
  have e2 := H.mo
  have e3 := H.mu
  have e4 := H.co
  have e5 := H.cu
  have e6 := H.ou
  have e1' := e1.symm
  have e2' := e2.symm
  have e3' := e3.symm
  have e4' := e4.symm
  have e5' := e5.symm
  have e6' := e6.symm
  replace H := hid H
  go_upto_region 30 with fail
  refine act_gen (ActSt w mb cb ob (ob + 1) top (.slice fa2 ((putD h.m ae af ap ar).1).frames.length fc2) (.slice ea2 ((putD h.m ae af ap ar).1).encl.length ec2) (.slice qa2 ((putD h.m ae af ap ar).1).quotes.length qc2) (.slice ta h.c.trusts.length tc) (.slice na h.c.nonces.length nc) ((putD h.m ae af ap ar).1) h.c ((putD h.m ae af ap ar).2) ((0 : Int)) 0 0) (((H.out.setM (.inl HA2.out)).setCode _)) ?_
  clear r0 r1 rz m0 m1 m2 mz c0 c1 cz o0 o1 oz u0 u1 uz e1 e2 e3 e4 e5 e6 e1' e2' e3' e4' e5' e6'
  clear H HA2
  generalize (putD h.m ae af ap ar).1 = M2 at HD ⊢
  generalize (putD h.m ae af ap ar).2 = c2 at HD ⊢
  intro W H
  have r0 := H.r0
  have r1 := H.r1
  have rz := H.rz
  have m0 := H.m0
  have m1 := H.m1
  have m2 := H.m2
  have mz := H.mz
  have c0 := H.c0
  have c1 := H.c1
  have cz := H.cz
  have o0 := H.o0
  have o1 := H.o1
  have oz := H.oz
  have u0 := H.u0
  have u1 := H.u1
  have uz := H.uz
  have e1 := H.mc
  have e2 := H.mo
  have e3 := H.mu
  have e4 := H.co
  have e5 := H.cu
  have e6 := H.ou
  have e1' := e1.symm
  have e2' := e2.symm
  have e3' := e3.symm
  have e4' := e4.symm
  have e5' := e5.symm
  have e6' := e6.symm
  replace H := hid H
  have hbw := H.out.below.size
  have k0 := cell_later H.out.below H0.out.c0
  have k1 := cell_later H.out.below H0.out.c1
  have k2 := cell_later H.out.below H0.out.c2
  have k3 := cell_later H.out.below H0.out.c3
  have k4 := cell_later H.out.below H0.out.c4
  have kz : ∀ o, W.frozen? ⟨B, o, none⟩ = false := fun o => by rw [(bcell H.out.below).2 _ _ hb0]; exact H0.out.cz o
  have t1 : B ≠ mb := by have := H.out.bm; omega
  have t2 : B ≠ cb := by have := H.out.bc; omega
  have t3 : B ≠ ob := by have := H.out.bo; omega
  have t4 : B ≠ ob + 1 := by have := H.out.bu; omega
  have t5 : B ≠ w.heap.size + 1 := by omega
  have t1' := t1.symm
  have t2' := t2.symm
  have t3' := t3.symm
  have t4' := t4.symm
  have t5' := t5.symm
  have f1 : w.heap.size + 1 ≠ ob := by have := H.out.bo; omega
  have f2 : w.heap.size + 1 ≠ ob + 1 := by have := H.out.bu; omega
  have f1' := f1.symm
  have f2' := f2.symm
  by_cases hc2 : c2 = 0
  · subst hc2
    have HD1 := hid (HD.out.trans (keepM_0 _ _ _))
    clear HD
    go_upto_region 32 with fail
    go_region
    all_goals
      refine act_gen (ActEnd w B ob (ob + 1) top fa2 fc2 ea2 ec2 qa2 qc2 ta tc na nc ⟨M2, h.c⟩ ((0 : Int)) 0 0) ((H.out.fin (h := ⟨M2, h.c⟩) H0.out).drew) ?_
      clear r0 r1 rz m0 m1 m2 mz c0 c1 cz o0 o1 oz u0 u1 uz e1 e2 e3 e4 e5 e6 e1' e2' e3' e4' e5' e6'
      clear k0 k1 k2 k3 k4 kz H
      intro W H
      have r0 := H.r0
      have r1 := H.r1
      have rz := H.rz
      have o0 := H.o0
      have o1 := H.o1
      have u0 := H.u0
      replace H := hid H
      go_wp2_with fail
      exact bodyPost_ret (v := .agg #[.int .i64 0, .int .i64 ((0 : Int))]) (by simp only [results, Tryz.results11]; go_simp) rfl ⟨by rw [HD1.out], by rw [HD1.out]; exact (H.out.done 0 ((0 : Int)))⟩
  · have HD1 := hid (HD.out.trans (keepM_1 _ _ _ hc2))
    have hE1 : (c2 != 0) = true := by rw [bne_iff_ne]; exact hc2
    clear HD hc2
    go_wp2_with fail
    refine bodyPost_ret (v := .agg #[.int .i64 c2, .int .i64 0]) (by simp only [results, Tryz.results11]; go_simp) rfl ⟨by rw [HD1.out], ?_⟩
    rw [HD1.out]
    have HB := below_low2 H.out.below (b := w.heap.size + 1) (by omega) (.int .i64 c2) (.int .i64 0)
    exact ⟨HostAt.later ⟨_, _, _, _, _, _, _, _, _, _, H0.out⟩ HB, grownBy_of_below HB⟩

set_option maxRecDepth 10000 in
set_option maxHeartbeats 1600000 in
theorem hostAct_meas (B : Nat) (h : HostD) (a : ActD) (w : World) (HA : HostAt B h w) (hf : h.m.Fits) (hT : Tab w) (hk : a.kind = 3) : Calls Tryz.prog 11 #[.pointer (some ⟨B, 0, none⟩), a.v] w (ActRes B h a w) := by
  obtain ⟨kind, ae, af, ap, ar, an, afu⟩ := a
  obtain rfl : kind = 3 := hk
  have HTab := hid hT
  have HD : Hid (actD h ⟨3, ae, af, ap, ar, an, afu⟩ = keepM h (measD h.m ae ap).1 0 (measD h.m ae ap).2) := by show _ = _; simp [actD]
  dsimp only [ActD.v]
  obtain ⟨fa, fc, ea, ec, qa, qc, ta, tc, na, nc, H0⟩ := HA
  have H0 := hid H0
  go_enter Tryz.func11, Tryz.ntmps11
  go_upto_region 1 with fail
  refine act_gen (fun W => PreSt w W ∧ ArgSt w (⟨3, ae, af, ap, ar, an, afu⟩ : ActD) W) ⟨⟨by go_grown, by go_size, by go_simp, by go_simp, fun o => by go_simp⟩, ⟨by go_simp, by go_simp, by go_simp, by go_simp, by go_simp, by go_simp, by go_simp⟩⟩ ?_
  rintro W ⟨HP, HG⟩
  have hb0 := H0.out.lt
  have g0 := cell_later HP.below H0.out.c0
  have g1 := cell_later HP.below H0.out.c1
  have g2 := cell_later HP.below H0.out.c2
  have g3 := cell_later HP.below H0.out.c3
  have g4 := cell_later HP.below H0.out.c4
  have i0 := cell_new1 g0
  have i1 := cell_new1 g1
  have i2 := cell_new1 g2
  have i3 := cell_new1 g3
  have i4 := cell_new1 g4
  have j0 := cell_new2 g0
  have j1 := cell_new2 g1
  have j2 := cell_new2 g2
  have j3 := cell_new2 g3
  have j4 := cell_new2 g4
  replace HP := hid HP
  replace HG := hid HG
  go_cut [5, 6] from 9 to 16 (fun p q W => ∃ mb cb, p = .pointer (some ⟨mb, 0, none⟩) ∧ q = .pointer (some ⟨cb, 0, none⟩) ∧ Hid (PreSt w W ∧ ArgSt w (⟨3, ae, af, ap, ar, an, afu⟩ : ActD) W ∧ TwoSt w mb cb (.slice fa h.m.frames.length fc) (.slice ea h.m.encl.length ec) (.slice qa h.m.quotes.length qc) (.slice ta h.c.trusts.length tc) (.slice na h.c.nonces.length nc) W))
  case first =>
    go_region
    all_goals
      go_wp2_with fail
      go_meet
      first
      | exact ⟨_, _, rfl, rfl, HP.out.later (by go_grown), HG.out.later (by go_grown), (TwoSt.mc' HP.out _ _).later (below_drew _)⟩
      | exact ⟨_, _, rfl, rfl, HP.out.later (by go_grown), HG.out.later (by go_grown), (TwoSt.cm' HP.out _ _).later (below_drew _)⟩
  case rest =>
  obtain ⟨mb, cb, rfl, rfl, HT⟩ := hcut
  clear g0 g1 g2 g3 g4 i0 i1 i2 i3 i4 j0 j1 j2 j3 j4 HP HG W
  go_upto_region 4 with fail
  refine act_gen (fun W => ActSt w mb cb wc.heap.size (wc.heap.size + 1) (wc.heap.size + 2) (.slice fa h.m.frames.length fc) (.slice ea h.m.encl.length ec) (.slice qa h.m.quotes.length qc) (.slice ta h.c.trusts.length tc) (.slice na h.c.nonces.length nc) h.m h.c 0 0 0 0 W ∧ ArgSt w (⟨3, ae, af, ap, ar, an, afu⟩ : ActD) W)
    ⟨ActSt.start HT.out.1 HT.out.2.2 (.inr ⟨H0.out.m, HT.out.1.below.trans (Below.mono (by go_grown) HT.out.1.below.size)⟩) (.inr ⟨H0.out.c, HT.out.1.below.trans (Below.mono (by go_grown) HT.out.1.below.size)⟩), HT.out.2.1.later (by go_grown)⟩ ?_
  clear HT
  generalize wc.heap.size = ob
  generalize ob + 2 = top
  clear wc
  rintro W ⟨H, HG⟩
  have a0 := HG.a0
  have a1 := HG.a1
  have a2 := HG.a2
  have a3 := HG.a3
  have a4 := HG.a4
  have a5 := HG.a5
  have a6 := HG.a6
  have r0 := H.r0
  have r1 := H.r1
  have rz := H.rz
  have m0 := H.m0
  have m1 := H.m1
  have m2 := H.m2
  have mz := H.mz
  have c0 := H.c0
  have c1 := H.c1
  have cz := H.cz
  have o0 := H.o0
  have o1 := H.o1
  have oz := H.oz
  have u0 := H.u0
  have u1 := H.u1
  have uz := H.uz
  have e1 := H.mc
  have e2 := H.mo
  have e3 := H.mu
  have e4 := H.co
  have e5 := H.cu
  have e6 := H.ou
  have e1' := e1.symm
  have e2' := e2.symm
  have e3' := e3.symm
  have e4' := e4.symm
  have e5' := e5.symm
  have e6' := e6.symm
  replace H := hid H
  go_wp2_with fail
  refine (epcMeasure _ h.m ae ap _ H.out.mok.at hf (HTab.out.mono H.out.below)).mono ?_
  rintro x w2 ⟨v2, rfl, hA2, hb2⟩
  obtain ⟨fa2, fc2, ea2, ec2, qa2, qc2, rfl, h2⟩ := hA2.at
  clear h2
  clear r0 r1 rz m0 m1 m2 mz c0 c1 cz o0 o1 oz u0 u1 uz e1 e2 e3 e4 e5 e6 e1' e2' e3' e4' e5' e6'
  clear a0 a1 a2 a3 a4 a5 a6 HG
  have HA2 := hid (hA2.mono H.out.tl)
  replace H := H.out.later hb2
  clear hA2 hb2
  have r0 := H.r0
  have r1 := H.r1
  have rz := H.rz
  have m0 := H.m0
  have m1 := H.m1
  have m2 := H.m2
  have mz := H.mz
  have c0 := H.c0
  have c1 := H.c1
  have cz := H.cz
  have o0 := H.o0
  have o1 := H.o1
  have oz := H.oz
  have u0 := H.u0
  have u1 := H.u1
  have uz := H.uz
  have e1 := H.mc
  have e2 := H.mo
  have e3 := H.mu
  have e4 := H.co
  have e5 := H.cu
  have e6 := H.ou
  have e1' := e1.symm
  have e2' := e2.symm
  have e3' := e3.symm
  have e4' := e4.symm
  have e5' := e5.symm
  have e6' := e6.symm
  replace H := hid H
  go_upto_region 30 with fail
  refine act_gen (ActSt w mb cb ob (ob + 1) top (.slice fa2 ((measD h.m ae ap).1).frames.length fc2) (.slice ea2 ((measD h.m ae ap).1).encl.length ec2) (.slice qa2 ((measD h.m ae ap).1).quotes.length qc2) (.slice ta h.c.trusts.length tc) (.slice na h.c.nonces.length nc) ((measD h.m ae ap).1) h.c ((measD h.m ae ap).2) ((0 : Int)) 0 0) (((H.out.setM (.inl HA2.out)).setCode _)) ?_
  clear r0 r1 rz m0 m1 m2 mz c0 c1 cz o0 o1 oz u0 u1 uz e1 e2 e3 e4 e5 e6 e1' e2' e3' e4' e5' e6'
  clear H HA2
  generalize (measD h.m ae ap).1 = M2 at HD ⊢
  generalize (measD h.m ae ap).2 = c2 at HD ⊢
  intro W H
  have r0 := H.r0
  have r1 := H.r1
  have rz := H.rz
  have m0 := H.m0
  have m1 := H.m1
  have m2 := H.m2
  have mz := H.mz
  have c0 := H.c0
  have c1 := H.c1
  have cz := H.cz
  have o0 := H.o0
  have o1 := H.o1
  have oz := H.oz
  have u0 := H.u0
  have u1 := H.u1
  have uz := H.uz
  have e1 := H.mc
  have e2 := H.mo
  have e3 := H.mu
  have e4 := H.co
  have e5 := H.cu
  have e6 := H.ou
  have e1' := e1.symm
  have e2' := e2.symm
  have e3' := e3.symm
  have e4' := e4.symm
  have e5' := e5.symm
  have e6' := e6.symm
  replace H := hid H
  have hbw := H.out.below.size
  have k0 := cell_later H.out.below H0.out.c0
  have k1 := cell_later H.out.below H0.out.c1
  have k2 := cell_later H.out.below H0.out.c2
  have k3 := cell_later H.out.below H0.out.c3
  have k4 := cell_later H.out.below H0.out.c4
  have kz : ∀ o, W.frozen? ⟨B, o, none⟩ = false := fun o => by rw [(bcell H.out.below).2 _ _ hb0]; exact H0.out.cz o
  have t1 : B ≠ mb := by have := H.out.bm; omega
  have t2 : B ≠ cb := by have := H.out.bc; omega
  have t3 : B ≠ ob := by have := H.out.bo; omega
  have t4 : B ≠ ob + 1 := by have := H.out.bu; omega
  have t5 : B ≠ w.heap.size + 1 := by omega
  have t1' := t1.symm
  have t2' := t2.symm
  have t3' := t3.symm
  have t4' := t4.symm
  have t5' := t5.symm
  have f1 : w.heap.size + 1 ≠ ob := by have := H.out.bo; omega
  have f2 : w.heap.size + 1 ≠ ob + 1 := by have := H.out.bu; omega
  have f1' := f1.symm
  have f2' := f2.symm
  by_cases hc2 : c2 = 0
  · subst hc2
    have HD1 := hid (HD.out.trans (keepM_0 _ _ _))
    clear HD
    go_upto_region 32 with fail
    go_region
    all_goals
      refine act_gen (ActEnd w B ob (ob + 1) top fa2 fc2 ea2 ec2 qa2 qc2 ta tc na nc ⟨M2, h.c⟩ ((0 : Int)) 0 0) ((H.out.fin (h := ⟨M2, h.c⟩) H0.out).drew) ?_
      clear r0 r1 rz m0 m1 m2 mz c0 c1 cz o0 o1 oz u0 u1 uz e1 e2 e3 e4 e5 e6 e1' e2' e3' e4' e5' e6'
      clear k0 k1 k2 k3 k4 kz H
      intro W H
      have r0 := H.r0
      have r1 := H.r1
      have rz := H.rz
      have o0 := H.o0
      have o1 := H.o1
      have u0 := H.u0
      replace H := hid H
      go_wp2_with fail
      exact bodyPost_ret (v := .agg #[.int .i64 0, .int .i64 ((0 : Int))]) (by simp only [results, Tryz.results11]; go_simp) rfl ⟨by rw [HD1.out], by rw [HD1.out]; exact (H.out.done 0 ((0 : Int)))⟩
  · have HD1 := hid (HD.out.trans (keepM_1 _ _ _ hc2))
    have hE1 : (c2 != 0) = true := by rw [bne_iff_ne]; exact hc2
    clear HD hc2
    go_wp2_with fail
    refine bodyPost_ret (v := .agg #[.int .i64 c2, .int .i64 0]) (by simp only [results, Tryz.results11]; go_simp) rfl ⟨by rw [HD1.out], ?_⟩
    rw [HD1.out]
    have HB := below_low2 H.out.below (b := w.heap.size + 1) (by omega) (.int .i64 c2) (.int .i64 0)
    exact ⟨HostAt.later ⟨_, _, _, _, _, _, _, _, _, _, H0.out⟩ HB, grownBy_of_below HB⟩

set_option maxRecDepth 10000 in
set_option maxHeartbeats 1600000 in
theorem hostAct_start (B : Nat) (h : HostD) (a : ActD) (w : World) (HA : HostAt B h w) (hf : h.m.Fits) (hT : Tab w) (hk : a.kind = 4) : Calls Tryz.prog 11 #[.pointer (some ⟨B, 0, none⟩), a.v] w (ActRes B h a w) := by
  obtain ⟨kind, ae, af, ap, ar, an, afu⟩ := a
  obtain rfl : kind = 4 := hk
  have HTab := hid hT
  have HD : Hid (actD h ⟨4, ae, af, ap, ar, an, afu⟩ = keepM h (startD h.m ae).1 0 (startD h.m ae).2) := by show _ = _; simp [actD]
  dsimp only [ActD.v]
  obtain ⟨fa, fc, ea, ec, qa, qc, ta, tc, na, nc, H0⟩ := HA
  have H0 := hid H0
  go_enter Tryz.func11, Tryz.ntmps11
  go_upto_region 1 with fail
  refine act_gen (fun W => PreSt w W ∧ ArgSt w (⟨4, ae, af, ap, ar, an, afu⟩ : ActD) W) ⟨⟨by go_grown, by go_size, by go_simp, by go_simp, fun o => by go_simp⟩, ⟨by go_simp, by go_simp, by go_simp, by go_simp, by go_simp, by go_simp, by go_simp⟩⟩ ?_
  rintro W ⟨HP, HG⟩
  have hb0 := H0.out.lt
  have g0 := cell_later HP.below H0.out.c0
  have g1 := cell_later HP.below H0.out.c1
  have g2 := cell_later HP.below H0.out.c2
  have g3 := cell_later HP.below H0.out.c3
  have g4 := cell_later HP.below H0.out.c4
  have i0 := cell_new1 g0
  have i1 := cell_new1 g1
  have i2 := cell_new1 g2
  have i3 := cell_new1 g3
  have i4 := cell_new1 g4
  have j0 := cell_new2 g0
  have j1 := cell_new2 g1
  have j2 := cell_new2 g2
  have j3 := cell_new2 g3
  have j4 := cell_new2 g4
  replace HP := hid HP
  replace HG := hid HG
  go_cut [5, 6] from 9 to 16 (fun p q W => ∃ mb cb, p = .pointer (some ⟨mb, 0, none⟩) ∧ q = .pointer (some ⟨cb, 0, none⟩) ∧ Hid (PreSt w W ∧ ArgSt w (⟨4, ae, af, ap, ar, an, afu⟩ : ActD) W ∧ TwoSt w mb cb (.slice fa h.m.frames.length fc) (.slice ea h.m.encl.length ec) (.slice qa h.m.quotes.length qc) (.slice ta h.c.trusts.length tc) (.slice na h.c.nonces.length nc) W))
  case first =>
    go_region
    all_goals
      go_wp2_with fail
      go_meet
      first
      | exact ⟨_, _, rfl, rfl, HP.out.later (by go_grown), HG.out.later (by go_grown), (TwoSt.mc' HP.out _ _).later (below_drew _)⟩
      | exact ⟨_, _, rfl, rfl, HP.out.later (by go_grown), HG.out.later (by go_grown), (TwoSt.cm' HP.out _ _).later (below_drew _)⟩
  case rest =>
  obtain ⟨mb, cb, rfl, rfl, HT⟩ := hcut
  clear g0 g1 g2 g3 g4 i0 i1 i2 i3 i4 j0 j1 j2 j3 j4 HP HG W
  go_upto_region 4 with fail
  refine act_gen (fun W => ActSt w mb cb wc.heap.size (wc.heap.size + 1) (wc.heap.size + 2) (.slice fa h.m.frames.length fc) (.slice ea h.m.encl.length ec) (.slice qa h.m.quotes.length qc) (.slice ta h.c.trusts.length tc) (.slice na h.c.nonces.length nc) h.m h.c 0 0 0 0 W ∧ ArgSt w (⟨4, ae, af, ap, ar, an, afu⟩ : ActD) W)
    ⟨ActSt.start HT.out.1 HT.out.2.2 (.inr ⟨H0.out.m, HT.out.1.below.trans (Below.mono (by go_grown) HT.out.1.below.size)⟩) (.inr ⟨H0.out.c, HT.out.1.below.trans (Below.mono (by go_grown) HT.out.1.below.size)⟩), HT.out.2.1.later (by go_grown)⟩ ?_
  clear HT
  generalize wc.heap.size = ob
  generalize ob + 2 = top
  clear wc
  rintro W ⟨H, HG⟩
  have a0 := HG.a0
  have a1 := HG.a1
  have a2 := HG.a2
  have a3 := HG.a3
  have a4 := HG.a4
  have a5 := HG.a5
  have a6 := HG.a6
  have r0 := H.r0
  have r1 := H.r1
  have rz := H.rz
  have m0 := H.m0
  have m1 := H.m1
  have m2 := H.m2
  have mz := H.mz
  have c0 := H.c0
  have c1 := H.c1
  have cz := H.cz
  have o0 := H.o0
  have o1 := H.o1
  have oz := H.oz
  have u0 := H.u0
  have u1 := H.u1
  have uz := H.uz
  have e1 := H.mc
  have e2 := H.mo
  have e3 := H.mu
  have e4 := H.co
  have e5 := H.cu
  have e6 := H.ou
  have e1' := e1.symm
  have e2' := e2.symm
  have e3' := e3.symm
  have e4' := e4.symm
  have e5' := e5.symm
  have e6' := e6.symm
  replace H := hid H
  go_wp2_with fail
  refine (epcStart _ h.m ae _ H.out.mok.at hf).mono ?_
  rintro x w2 ⟨v2, rfl, hA2, hb2⟩
  obtain ⟨fa2, fc2, ea2, ec2, qa2, qc2, rfl, h2⟩ := hA2.at
  clear h2
  clear r0 r1 rz m0 m1 m2 mz c0 c1 cz o0 o1 oz u0 u1 uz e1 e2 e3 e4 e5 e6 e1' e2' e3' e4' e5' e6'
  clear a0 a1 a2 a3 a4 a5 a6 HG
  have HA2 := hid (hA2.mono H.out.tl)
  replace H := H.out.later hb2
  clear hA2 hb2
  have r0 := H.r0
  have r1 := H.r1
  have rz := H.rz
  have m0 := H.m0
  have m1 := H.m1
  have m2 := H.m2
  have mz := H.mz
  have c0 := H.c0
  have c1 := H.c1
  have cz := H.cz
  have o0 := H.o0
  have o1 := H.o1
  have oz := H.oz
  have u0 := H.u0
  have u1 := H.u1
  have uz := H.uz
  have e1 := H.mc
  have e2 := H.mo
  have e3 := H.mu
  have e4 := H.co
  have e5 := H.cu
  have e6 := H.ou
  have e1' := e1.symm
  have e2' := e2.symm
  have e3' := e3.symm
  have e4' := e4.symm
  have e5' := e5.symm
  have e6' := e6.symm
  replace H := hid H
  go_upto_region 30 with fail
  refine act_gen (ActSt w mb cb ob (ob + 1) top (.slice fa2 ((startD h.m ae).1).frames.length fc2) (.slice ea2 ((startD h.m ae).1).encl.length ec2) (.slice qa2 ((startD h.m ae).1).quotes.length qc2) (.slice ta h.c.trusts.length tc) (.slice na h.c.nonces.length nc) ((startD h.m ae).1) h.c ((startD h.m ae).2) ((0 : Int)) 0 0) (((H.out.setM (.inl HA2.out)).setCode _)) ?_
  clear r0 r1 rz m0 m1 m2 mz c0 c1 cz o0 o1 oz u0 u1 uz e1 e2 e3 e4 e5 e6 e1' e2' e3' e4' e5' e6'
  clear H HA2
  generalize (startD h.m ae).1 = M2 at HD ⊢
  generalize (startD h.m ae).2 = c2 at HD ⊢
  intro W H
  have r0 := H.r0
  have r1 := H.r1
  have rz := H.rz
  have m0 := H.m0
  have m1 := H.m1
  have m2 := H.m2
  have mz := H.mz
  have c0 := H.c0
  have c1 := H.c1
  have cz := H.cz
  have o0 := H.o0
  have o1 := H.o1
  have oz := H.oz
  have u0 := H.u0
  have u1 := H.u1
  have uz := H.uz
  have e1 := H.mc
  have e2 := H.mo
  have e3 := H.mu
  have e4 := H.co
  have e5 := H.cu
  have e6 := H.ou
  have e1' := e1.symm
  have e2' := e2.symm
  have e3' := e3.symm
  have e4' := e4.symm
  have e5' := e5.symm
  have e6' := e6.symm
  replace H := hid H
  have hbw := H.out.below.size
  have k0 := cell_later H.out.below H0.out.c0
  have k1 := cell_later H.out.below H0.out.c1
  have k2 := cell_later H.out.below H0.out.c2
  have k3 := cell_later H.out.below H0.out.c3
  have k4 := cell_later H.out.below H0.out.c4
  have kz : ∀ o, W.frozen? ⟨B, o, none⟩ = false := fun o => by rw [(bcell H.out.below).2 _ _ hb0]; exact H0.out.cz o
  have t1 : B ≠ mb := by have := H.out.bm; omega
  have t2 : B ≠ cb := by have := H.out.bc; omega
  have t3 : B ≠ ob := by have := H.out.bo; omega
  have t4 : B ≠ ob + 1 := by have := H.out.bu; omega
  have t5 : B ≠ w.heap.size + 1 := by omega
  have t1' := t1.symm
  have t2' := t2.symm
  have t3' := t3.symm
  have t4' := t4.symm
  have t5' := t5.symm
  have f1 : w.heap.size + 1 ≠ ob := by have := H.out.bo; omega
  have f2 : w.heap.size + 1 ≠ ob + 1 := by have := H.out.bu; omega
  have f1' := f1.symm
  have f2' := f2.symm
  by_cases hc2 : c2 = 0
  · subst hc2
    have HD1 := hid (HD.out.trans (keepM_0 _ _ _))
    clear HD
    go_upto_region 32 with fail
    go_region
    all_goals
      refine act_gen (ActEnd w B ob (ob + 1) top fa2 fc2 ea2 ec2 qa2 qc2 ta tc na nc ⟨M2, h.c⟩ ((0 : Int)) 0 0) ((H.out.fin (h := ⟨M2, h.c⟩) H0.out).drew) ?_
      clear r0 r1 rz m0 m1 m2 mz c0 c1 cz o0 o1 oz u0 u1 uz e1 e2 e3 e4 e5 e6 e1' e2' e3' e4' e5' e6'
      clear k0 k1 k2 k3 k4 kz H
      intro W H
      have r0 := H.r0
      have r1 := H.r1
      have rz := H.rz
      have o0 := H.o0
      have o1 := H.o1
      have u0 := H.u0
      replace H := hid H
      go_wp2_with fail
      exact bodyPost_ret (v := .agg #[.int .i64 0, .int .i64 ((0 : Int))]) (by simp only [results, Tryz.results11]; go_simp) rfl ⟨by rw [HD1.out], by rw [HD1.out]; exact (H.out.done 0 ((0 : Int)))⟩
  · have HD1 := hid (HD.out.trans (keepM_1 _ _ _ hc2))
    have hE1 : (c2 != 0) = true := by rw [bne_iff_ne]; exact hc2
    clear HD hc2
    go_wp2_with fail
    refine bodyPost_ret (v := .agg #[.int .i64 c2, .int .i64 0]) (by simp only [results, Tryz.results11]; go_simp) rfl ⟨by rw [HD1.out], ?_⟩
    rw [HD1.out]
    have HB := below_low2 H.out.below (b := w.heap.size + 1) (by omega) (.int .i64 c2) (.int .i64 0)
    exact ⟨HostAt.later ⟨_, _, _, _, _, _, _, _, _, _, H0.out⟩ HB, grownBy_of_below HB⟩

set_option maxRecDepth 10000 in
set_option maxHeartbeats 1600000 in
theorem hostAct_remove (B : Nat) (h : HostD) (a : ActD) (w : World) (HA : HostAt B h w) (hf : h.m.Fits) (hT : Tab w) (hk : a.kind = 5) : Calls Tryz.prog 11 #[.pointer (some ⟨B, 0, none⟩), a.v] w (ActRes B h a w) := by
  obtain ⟨kind, ae, af, ap, ar, an, afu⟩ := a
  obtain rfl : kind = 5 := hk
  have HTab := hid hT
  have HD : Hid (actD h ⟨5, ae, af, ap, ar, an, afu⟩ = keepM h (removeD h.m ae).1 0 (removeD h.m ae).2) := by show _ = _; simp [actD]
  dsimp only [ActD.v]
  obtain ⟨fa, fc, ea, ec, qa, qc, ta, tc, na, nc, H0⟩ := HA
  have H0 := hid H0
  go_enter Tryz.func11, Tryz.ntmps11
  go_upto_region 1 with fail
  refine act_gen (fun W => PreSt w W ∧ ArgSt w (⟨5, ae, af, ap, ar, an, afu⟩ : ActD) W) ⟨⟨by go_grown, by go_size, by go_simp, by go_simp, fun o => by go_simp⟩, ⟨by go_simp, by go_simp, by go_simp, by go_simp, by go_simp, by go_simp, by go_simp⟩⟩ ?_
  rintro W ⟨HP, HG⟩
  have hb0 := H0.out.lt
  have g0 := cell_later HP.below H0.out.c0
  have g1 := cell_later HP.below H0.out.c1
  have g2 := cell_later HP.below H0.out.c2
  have g3 := cell_later HP.below H0.out.c3
  have g4 := cell_later HP.below H0.out.c4
  have i0 := cell_new1 g0
  have i1 := cell_new1 g1
  have i2 := cell_new1 g2
  have i3 := cell_new1 g3
  have i4 := cell_new1 g4
  have j0 := cell_new2 g0
  have j1 := cell_new2 g1
  have j2 := cell_new2 g2
  have j3 := cell_new2 g3
  have j4 := cell_new2 g4
  replace HP := hid HP
  replace HG := hid HG
  go_cut [5, 6] from 9 to 16 (fun p q W => ∃ mb cb, p = .pointer (some ⟨mb, 0, none⟩) ∧ q = .pointer (some ⟨cb, 0, none⟩) ∧ Hid (PreSt w W ∧ ArgSt w (⟨5, ae, af, ap, ar, an, afu⟩ : ActD) W ∧ TwoSt w mb cb (.slice fa h.m.frames.length fc) (.slice ea h.m.encl.length ec) (.slice qa h.m.quotes.length qc) (.slice ta h.c.trusts.length tc) (.slice na h.c.nonces.length nc) W))
  case first =>
    go_region
    all_goals
      go_wp2_with fail
      go_meet
      first
      | exact ⟨_, _, rfl, rfl, HP.out.later (by go_grown), HG.out.later (by go_grown), (TwoSt.mc' HP.out _ _).later (below_drew _)⟩
      | exact ⟨_, _, rfl, rfl, HP.out.later (by go_grown), HG.out.later (by go_grown), (TwoSt.cm' HP.out _ _).later (below_drew _)⟩
  case rest =>
  obtain ⟨mb, cb, rfl, rfl, HT⟩ := hcut
  clear g0 g1 g2 g3 g4 i0 i1 i2 i3 i4 j0 j1 j2 j3 j4 HP HG W
  go_upto_region 4 with fail
  refine act_gen (fun W => ActSt w mb cb wc.heap.size (wc.heap.size + 1) (wc.heap.size + 2) (.slice fa h.m.frames.length fc) (.slice ea h.m.encl.length ec) (.slice qa h.m.quotes.length qc) (.slice ta h.c.trusts.length tc) (.slice na h.c.nonces.length nc) h.m h.c 0 0 0 0 W ∧ ArgSt w (⟨5, ae, af, ap, ar, an, afu⟩ : ActD) W)
    ⟨ActSt.start HT.out.1 HT.out.2.2 (.inr ⟨H0.out.m, HT.out.1.below.trans (Below.mono (by go_grown) HT.out.1.below.size)⟩) (.inr ⟨H0.out.c, HT.out.1.below.trans (Below.mono (by go_grown) HT.out.1.below.size)⟩), HT.out.2.1.later (by go_grown)⟩ ?_
  clear HT
  generalize wc.heap.size = ob
  generalize ob + 2 = top
  clear wc
  rintro W ⟨H, HG⟩
  have a0 := HG.a0
  have a1 := HG.a1
  have a2 := HG.a2
  have a3 := HG.a3
  have a4 := HG.a4
  have a5 := HG.a5
  have a6 := HG.a6
  have r0 := H.r0
  have r1 := H.r1
  have rz := H.rz
  have m0 := H.m0
  have m1 := H.m1
  have m2 := H.m2
  have mz := H.mz
  have c0 := H.c0
  have c1 := H.c1
  have cz := H.cz
  have o0 := H.o0
  have o1 := H.o1
  have oz := H.oz
  have u0 := H.u0
  have u1 := H.u1
  have uz := H.uz
  have e1 := H.mc
  have e2 := H.mo
  have e3 := H.mu
  have e4 := H.co
  have e5 := H.cu
  have e6 := H.ou
  have e1' := e1.symm
  have e2' := e2.symm
  have e3' := e3.symm
  have e4' := e4.symm
  have e5' := e5.symm
  have e6' := e6.symm
  replace H := hid H
  go_wp2_with fail
  refine (epcRemove _ h.m ae _ H.out.mok.at hf).mono ?_
  rintro x w2 ⟨v2, rfl, hA2, hb2⟩
  obtain ⟨fa2, fc2, ea2, ec2, qa2, qc2, rfl, h2⟩ := hA2.at
  clear h2
  clear r0 r1 rz m0 m1 m2 mz c0 c1 cz o0 o1 oz u0 u1 uz e1 e2 e3 e4 e5 e6 e1' e2' e3' e4' e5' e6'
  clear a0 a1 a2 a3 a4 a5 a6 HG
  have HA2 := hid (hA2.mono H.out.tl)
  replace H := H.out.later hb2
  clear hA2 hb2
  have r0 := H.r0
  have r1 := H.r1
  have rz := H.rz
  have m0 := H.m0
  have m1 := H.m1
  have m2 := H.m2
  have mz := H.mz
  have c0 := H.c0
  have c1 := H.c1
  have cz := H.cz
  have o0 := H.o0
  have o1 := H.o1
  have oz := H.oz
  have u0 := H.u0
  have u1 := H.u1
  have uz := H.uz
  have e1 := H.mc
  have e2 := H.mo
  have e3 := H.mu
  have e4 := H.co
  have e5 := H.cu
  have e6 := H.ou
  have e1' := e1.symm
  have e2' := e2.symm
  have e3' := e3.symm
  have e4' := e4.symm
  have e5' := e5.symm
  have e6' := e6.symm
  replace H := hid H
  go_upto_region 30 with fail
  refine act_gen (ActSt w mb cb ob (ob + 1) top (.slice fa2 ((removeD h.m ae).1).frames.length fc2) (.slice ea2 ((removeD h.m ae).1).encl.length ec2) (.slice qa2 ((removeD h.m ae).1).quotes.length qc2) (.slice ta h.c.trusts.length tc) (.slice na h.c.nonces.length nc) ((removeD h.m ae).1) h.c ((removeD h.m ae).2) ((0 : Int)) 0 0) (((H.out.setM (.inl HA2.out)).setCode _)) ?_
  clear r0 r1 rz m0 m1 m2 mz c0 c1 cz o0 o1 oz u0 u1 uz e1 e2 e3 e4 e5 e6 e1' e2' e3' e4' e5' e6'
  clear H HA2
  generalize (removeD h.m ae).1 = M2 at HD ⊢
  generalize (removeD h.m ae).2 = c2 at HD ⊢
  intro W H
  have r0 := H.r0
  have r1 := H.r1
  have rz := H.rz
  have m0 := H.m0
  have m1 := H.m1
  have m2 := H.m2
  have mz := H.mz
  have c0 := H.c0
  have c1 := H.c1
  have cz := H.cz
  have o0 := H.o0
  have o1 := H.o1
  have oz := H.oz
  have u0 := H.u0
  have u1 := H.u1
  have uz := H.uz
  have e1 := H.mc
  have e2 := H.mo
  have e3 := H.mu
  have e4 := H.co
  have e5 := H.cu
  have e6 := H.ou
  have e1' := e1.symm
  have e2' := e2.symm
  have e3' := e3.symm
  have e4' := e4.symm
  have e5' := e5.symm
  have e6' := e6.symm
  replace H := hid H
  have hbw := H.out.below.size
  have k0 := cell_later H.out.below H0.out.c0
  have k1 := cell_later H.out.below H0.out.c1
  have k2 := cell_later H.out.below H0.out.c2
  have k3 := cell_later H.out.below H0.out.c3
  have k4 := cell_later H.out.below H0.out.c4
  have kz : ∀ o, W.frozen? ⟨B, o, none⟩ = false := fun o => by rw [(bcell H.out.below).2 _ _ hb0]; exact H0.out.cz o
  have t1 : B ≠ mb := by have := H.out.bm; omega
  have t2 : B ≠ cb := by have := H.out.bc; omega
  have t3 : B ≠ ob := by have := H.out.bo; omega
  have t4 : B ≠ ob + 1 := by have := H.out.bu; omega
  have t5 : B ≠ w.heap.size + 1 := by omega
  have t1' := t1.symm
  have t2' := t2.symm
  have t3' := t3.symm
  have t4' := t4.symm
  have t5' := t5.symm
  have f1 : w.heap.size + 1 ≠ ob := by have := H.out.bo; omega
  have f2 : w.heap.size + 1 ≠ ob + 1 := by have := H.out.bu; omega
  have f1' := f1.symm
  have f2' := f2.symm
  by_cases hc2 : c2 = 0
  · subst hc2
    have HD1 := hid (HD.out.trans (keepM_0 _ _ _))
    clear HD
    go_upto_region 32 with fail
    go_region
    all_goals
      refine act_gen (ActEnd w B ob (ob + 1) top fa2 fc2 ea2 ec2 qa2 qc2 ta tc na nc ⟨M2, h.c⟩ ((0 : Int)) 0 0) ((H.out.fin (h := ⟨M2, h.c⟩) H0.out).drew) ?_
      clear r0 r1 rz m0 m1 m2 mz c0 c1 cz o0 o1 oz u0 u1 uz e1 e2 e3 e4 e5 e6 e1' e2' e3' e4' e5' e6'
      clear k0 k1 k2 k3 k4 kz H
      intro W H
      have r0 := H.r0
      have r1 := H.r1
      have rz := H.rz
      have o0 := H.o0
      have o1 := H.o1
      have u0 := H.u0
      replace H := hid H
      go_wp2_with fail
      exact bodyPost_ret (v := .agg #[.int .i64 0, .int .i64 ((0 : Int))]) (by simp only [results, Tryz.results11]; go_simp) rfl ⟨by rw [HD1.out], by rw [HD1.out]; exact (H.out.done 0 ((0 : Int)))⟩
  · have HD1 := hid (HD.out.trans (keepM_1 _ _ _ hc2))
    have hE1 : (c2 != 0) = true := by rw [bne_iff_ne]; exact hc2
    clear HD hc2
    go_wp2_with fail
    refine bodyPost_ret (v := .agg #[.int .i64 c2, .int .i64 0]) (by simp only [results, Tryz.results11]; go_simp) rfl ⟨by rw [HD1.out], ?_⟩
    rw [HD1.out]
    have HB := below_low2 H.out.below (b := w.heap.size + 1) (by omega) (.int .i64 c2) (.int .i64 0)
    exact ⟨HostAt.later ⟨_, _, _, _, _, _, _, _, _, _, H0.out⟩ HB, grownBy_of_below HB⟩

set_option maxRecDepth 10000 in
set_option maxHeartbeats 1600000 in
theorem hostAct_poke (B : Nat) (h : HostD) (a : ActD) (w : World) (HA : HostAt B h w) (hf : h.m.Fits) (hT : Tab w) (hk : a.kind = 7) : Calls Tryz.prog 11 #[.pointer (some ⟨B, 0, none⟩), a.v] w (ActRes B h a w) := by
  obtain ⟨kind, ae, af, ap, ar, an, afu⟩ := a
  obtain rfl : kind = 7 := hk
  have HTab := hid hT
  have HD : Hid (actD h ⟨7, ae, af, ap, ar, an, afu⟩ = keepM h (pokeD h.m af ap an).1 0 (pokeD h.m af ap an).2) := by show _ = _; simp [actD]
  dsimp only [ActD.v]
  obtain ⟨fa, fc, ea, ec, qa, qc, ta, tc, na, nc, H0⟩ := HA
  have H0 := hid H0
  go_enter Tryz.func11, Tryz.ntmps11
  go_upto_region 1 with fail
  refine act_gen (fun W => PreSt w W ∧ ArgSt w (⟨7, ae, af, ap, ar, an, afu⟩ : ActD) W) ⟨⟨by go_grown, by go_size, by go_simp, by go_simp, fun o => by go_simp⟩, ⟨by go_simp, by go_simp, by go_simp, by go_simp, by go_simp, by go_simp, by go_simp⟩⟩ ?_
  rintro W ⟨HP, HG⟩
  have hb0 := H0.out.lt
  have g0 := cell_later HP.below H0.out.c0
  have g1 := cell_later HP.below H0.out.c1
  have g2 := cell_later HP.below H0.out.c2
  have g3 := cell_later HP.below H0.out.c3
  have g4 := cell_later HP.below H0.out.c4
  have i0 := cell_new1 g0
  have i1 := cell_new1 g1
  have i2 := cell_new1 g2
  have i3 := cell_new1 g3
  have i4 := cell_new1 g4
  have j0 := cell_new2 g0
  have j1 := cell_new2 g1
  have j2 := cell_new2 g2
  have j3 := cell_new2 g3
  have j4 := cell_new2 g4
  replace HP := hid HP
  replace HG := hid HG
  go_cut [5, 6] from 9 to 16 (fun p q W => ∃ mb cb, p = .pointer (some ⟨mb, 0, none⟩) ∧ q = .pointer (some ⟨cb, 0, none⟩) ∧ Hid (PreSt w W ∧ ArgSt w (⟨7, ae, af, ap, ar, an, afu⟩ : ActD) W ∧ TwoSt w mb cb (.slice fa h.m.frames.length fc) (.slice ea h.m.encl.length ec) (.slice qa h.m.quotes.length qc) (.slice ta h.c.trusts.length tc) (.slice na h.c.nonces.length nc) W))
  case first =>
    go_region
    all_goals
      go_wp2_with fail
      go_meet
      first
      | exact ⟨_, _, rfl, rfl, HP.out.later (by go_grown), HG.out.later (by go_grown), (TwoSt.mc' HP.out _ _).later (below_drew _)⟩
      | exact ⟨_, _, rfl, rfl, HP.out.later (by go_grown), HG.out.later (by go_grown), (TwoSt.cm' HP.out _ _).later (below_drew _)⟩
  case rest =>
  obtain ⟨mb, cb, rfl, rfl, HT⟩ := hcut
  clear g0 g1 g2 g3 g4 i0 i1 i2 i3 i4 j0 j1 j2 j3 j4 HP HG W
  go_upto_region 4 with fail
  refine act_gen (fun W => ActSt w mb cb wc.heap.size (wc.heap.size + 1) (wc.heap.size + 2) (.slice fa h.m.frames.length fc) (.slice ea h.m.encl.length ec) (.slice qa h.m.quotes.length qc) (.slice ta h.c.trusts.length tc) (.slice na h.c.nonces.length nc) h.m h.c 0 0 0 0 W ∧ ArgSt w (⟨7, ae, af, ap, ar, an, afu⟩ : ActD) W)
    ⟨ActSt.start HT.out.1 HT.out.2.2 (.inr ⟨H0.out.m, HT.out.1.below.trans (Below.mono (by go_grown) HT.out.1.below.size)⟩) (.inr ⟨H0.out.c, HT.out.1.below.trans (Below.mono (by go_grown) HT.out.1.below.size)⟩), HT.out.2.1.later (by go_grown)⟩ ?_
  clear HT
  generalize wc.heap.size = ob
  generalize ob + 2 = top
  clear wc
  rintro W ⟨H, HG⟩
  have a0 := HG.a0
  have a1 := HG.a1
  have a2 := HG.a2
  have a3 := HG.a3
  have a4 := HG.a4
  have a5 := HG.a5
  have a6 := HG.a6
  have r0 := H.r0
  have r1 := H.r1
  have rz := H.rz
  have m0 := H.m0
  have m1 := H.m1
  have m2 := H.m2
  have mz := H.mz
  have c0 := H.c0
  have c1 := H.c1
  have cz := H.cz
  have o0 := H.o0
  have o1 := H.o1
  have oz := H.oz
  have u0 := H.u0
  have u1 := H.u1
  have uz := H.uz
  have e1 := H.mc
  have e2 := H.mo
  have e3 := H.mu
  have e4 := H.co
  have e5 := H.cu
  have e6 := H.ou
  have e1' := e1.symm
  have e2' := e2.symm
  have e3' := e3.symm
  have e4' := e4.symm
  have e5' := e5.symm
  have e6' := e6.symm
  replace H := hid H
  go_wp2_with fail
  refine (epcPoke _ h.m af ap an _ H.out.mok.at hf).mono ?_
  rintro x w2 ⟨v2, rfl, hA2, hb2⟩
  obtain ⟨fa2, fc2, ea2, ec2, qa2, qc2, rfl, h2⟩ := hA2.at
  clear h2
  clear r0 r1 rz m0 m1 m2 mz c0 c1 cz o0 o1 oz u0 u1 uz e1 e2 e3 e4 e5 e6 e1' e2' e3' e4' e5' e6'
  clear a0 a1 a2 a3 a4 a5 a6 HG
  have HA2 := hid (hA2.mono H.out.tl)
  replace H := H.out.later hb2
  clear hA2 hb2
  have r0 := H.r0
  have r1 := H.r1
  have rz := H.rz
  have m0 := H.m0
  have m1 := H.m1
  have m2 := H.m2
  have mz := H.mz
  have c0 := H.c0
  have c1 := H.c1
  have cz := H.cz
  have o0 := H.o0
  have o1 := H.o1
  have oz := H.oz
  have u0 := H.u0
  have u1 := H.u1
  have uz := H.uz
  have e1 := H.mc
  have e2 := H.mo
  have e3 := H.mu
  have e4 := H.co
  have e5 := H.cu
  have e6 := H.ou
  have e1' := e1.symm
  have e2' := e2.symm
  have e3' := e3.symm
  have e4' := e4.symm
  have e5' := e5.symm
  have e6' := e6.symm
  replace H := hid H
  go_upto_region 30 with fail
  refine act_gen (ActSt w mb cb ob (ob + 1) top (.slice fa2 ((pokeD h.m af ap an).1).frames.length fc2) (.slice ea2 ((pokeD h.m af ap an).1).encl.length ec2) (.slice qa2 ((pokeD h.m af ap an).1).quotes.length qc2) (.slice ta h.c.trusts.length tc) (.slice na h.c.nonces.length nc) ((pokeD h.m af ap an).1) h.c ((pokeD h.m af ap an).2) ((0 : Int)) 0 0) (((H.out.setM (.inl HA2.out)).setCode _)) ?_
  clear r0 r1 rz m0 m1 m2 mz c0 c1 cz o0 o1 oz u0 u1 uz e1 e2 e3 e4 e5 e6 e1' e2' e3' e4' e5' e6'
  clear H HA2
  generalize (pokeD h.m af ap an).1 = M2 at HD ⊢
  generalize (pokeD h.m af ap an).2 = c2 at HD ⊢
  intro W H
  have r0 := H.r0
  have r1 := H.r1
  have rz := H.rz
  have m0 := H.m0
  have m1 := H.m1
  have m2 := H.m2
  have mz := H.mz
  have c0 := H.c0
  have c1 := H.c1
  have cz := H.cz
  have o0 := H.o0
  have o1 := H.o1
  have oz := H.oz
  have u0 := H.u0
  have u1 := H.u1
  have uz := H.uz
  have e1 := H.mc
  have e2 := H.mo
  have e3 := H.mu
  have e4 := H.co
  have e5 := H.cu
  have e6 := H.ou
  have e1' := e1.symm
  have e2' := e2.symm
  have e3' := e3.symm
  have e4' := e4.symm
  have e5' := e5.symm
  have e6' := e6.symm
  replace H := hid H
  have hbw := H.out.below.size
  have k0 := cell_later H.out.below H0.out.c0
  have k1 := cell_later H.out.below H0.out.c1
  have k2 := cell_later H.out.below H0.out.c2
  have k3 := cell_later H.out.below H0.out.c3
  have k4 := cell_later H.out.below H0.out.c4
  have kz : ∀ o, W.frozen? ⟨B, o, none⟩ = false := fun o => by rw [(bcell H.out.below).2 _ _ hb0]; exact H0.out.cz o
  have t1 : B ≠ mb := by have := H.out.bm; omega
  have t2 : B ≠ cb := by have := H.out.bc; omega
  have t3 : B ≠ ob := by have := H.out.bo; omega
  have t4 : B ≠ ob + 1 := by have := H.out.bu; omega
  have t5 : B ≠ w.heap.size + 1 := by omega
  have t1' := t1.symm
  have t2' := t2.symm
  have t3' := t3.symm
  have t4' := t4.symm
  have t5' := t5.symm
  have f1 : w.heap.size + 1 ≠ ob := by have := H.out.bo; omega
  have f2 : w.heap.size + 1 ≠ ob + 1 := by have := H.out.bu; omega
  have f1' := f1.symm
  have f2' := f2.symm
  by_cases hc2 : c2 = 0
  · subst hc2
    have HD1 := hid (HD.out.trans (keepM_0 _ _ _))
    clear HD
    go_upto_region 32 with fail
    go_region
    all_goals
      refine act_gen (ActEnd w B ob (ob + 1) top fa2 fc2 ea2 ec2 qa2 qc2 ta tc na nc ⟨M2, h.c⟩ ((0 : Int)) 0 0) ((H.out.fin (h := ⟨M2, h.c⟩) H0.out).drew) ?_
      clear r0 r1 rz m0 m1 m2 mz c0 c1 cz o0 o1 oz u0 u1 uz e1 e2 e3 e4 e5 e6 e1' e2' e3' e4' e5' e6'
      clear k0 k1 k2 k3 k4 kz H
      intro W H
      have r0 := H.r0
      have r1 := H.r1
      have rz := H.rz
      have o0 := H.o0
      have o1 := H.o1
      have u0 := H.u0
      replace H := hid H
      go_wp2_with fail
      exact bodyPost_ret (v := .agg #[.int .i64 0, .int .i64 ((0 : Int))]) (by simp only [results, Tryz.results11]; go_simp) rfl ⟨by rw [HD1.out], by rw [HD1.out]; exact (H.out.done 0 ((0 : Int)))⟩
  · have HD1 := hid (HD.out.trans (keepM_1 _ _ _ hc2))
    have hE1 : (c2 != 0) = true := by rw [bne_iff_ne]; exact hc2
    clear HD hc2
    go_wp2_with fail
    refine bodyPost_ret (v := .agg #[.int .i64 c2, .int .i64 0]) (by simp only [results, Tryz.results11]; go_simp) rfl ⟨by rw [HD1.out], ?_⟩
    rw [HD1.out]
    have HB := below_low2 H.out.below (b := w.heap.size + 1) (by omega) (.int .i64 c2) (.int .i64 0)
    exact ⟨HostAt.later ⟨_, _, _, _, _, _, _, _, _, _, H0.out⟩ HB, grownBy_of_below HB⟩

end Go.Proofs.YtklbbjionoeofaaGreatDoor
