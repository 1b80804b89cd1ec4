/- host.act, walked: the kind Check. Conditions: those that each contract writes. -/
import Derived.Test.YtklbbjionoeofaaGreatDoorHostAct
import Derived.Test.YtklbbjionoeofaaGreatDoorRegionAny
import Derived.Deep.CutBlock
namespace Go.Proofs.YtklbbjionoeofaaGreatDoor
open Go.RowKit

/-- What the operations of the region that looks leave. -/
def LkT (top : Nat) (C2 : ChalD) (c2 : Int) (v : Value) (w : World) : Prop := ∃ ta tc na nc, v = .tuple #[.agg #[.slice ta C2.trusts.length tc, .slice na C2.nonces.length nc], .int .i64 c2] ∧ ChalFrom top w (.agg #[.slice ta C2.trusts.length tc, .slice na C2.nonces.length nc]) C2
theorem LkT.later {top : Nat} {C2 : ChalD} {c2 : Int} {v : Value} {w w' : World} (h : LkT top C2 c2 v w) (hb : Below w.heap.size w w') : LkT top C2 c2 v w' := by
  obtain ⟨ta, tc, na, nc, e, hC⟩ := h
  exact ⟨ta, tc, na, nc, e, hC.below hb⟩
def lookG (cv p1 qv p5 : Value) (i : Nat) (p7 : Value) (q : QuoteD) (top : Nat) (C2 : ChalD) (c2 : Int) : Nat → Value → World → Prop
  | 0, v, _ => v = cv
  | 1, v, _ => v = p1
  | 2, v, _ => v = qv
  | 3, v, _ => v = p1
  | 4, v, _ => v = qv
  | 5, v, _ => v = p5
  | 6, v, _ => v = .int .i64 i
  | 7, v, _ => v = p7
  | 8, v, _ => v = .agg #[.string q.log, .int .i64 q.data]
  | 9, v, w => LkT top C2 c2 v w
  | 10, v, w => LkT top C2 c2 v w
  | 11, v, w => ∃ ta tc na nc, v = .agg #[.slice ta C2.trusts.length tc, .slice na C2.nonces.length nc] ∧ ChalFrom top w (.agg #[.slice ta C2.trusts.length tc, .slice na C2.nonces.length nc]) C2
  | 12, v, _ => v = .int .i64 c2
  | _, _, _ => True
theorem lookG_later {cv p1 qv p5 : Value} {i : Nat} {p7 : Value} {q : QuoteD} {top : Nat} {C2 : ChalD} {c2 : Int} (j : Nat) (v : Value) (w w' : World) (hb : Below w.heap.size w w') (h : lookG cv p1 qv p5 i p7 q top C2 c2 j v w) : lookG cv p1 qv p5 i p7 q top C2 c2 j v w' := by
  match j, h with
  | 0, h | 1, h | 2, h | 3, h | 4, h | 5, h | 6, h | 7, h | 8, h | 12, h => exact h
  | 9, h | 10, h => exact LkT.later h hb
  | 11, ⟨ta, tc, na, nc, e, hC⟩ => exact ⟨ta, tc, na, nc, e, hC.below hb⟩
  | _ + 13, h => exact h

set_option maxRecDepth 10000 in
set_option maxHeartbeats 4000000 in
theorem hostAct_check (B : Nat) (h : HostD) (i : Nat) (ae af ar an afu : Int) (w : World) (HA : HostAt B h w) (hf : h.m.Fits) (hfc : h.c.Fits) (hi : i < h.m.quotes.length) : Calls Tryz.prog 11 #[.pointer (some ⟨B, 0, none⟩), (⟨11, ae, af, i, ar, an, afu⟩ : ActD).v] w (ActRes B h ⟨11, ae, af, i, ar, an, afu⟩ w) := by
  have hge : ¬ ((h.m.quotes.length : Int) ≤ (i : Int)) := by omega
  have h0i : (0 : Int) ≤ (i : Int) := by omega
  have hii : (i : Int) < (h.m.quotes.length : Int) := by omega
  obtain ⟨q, hq⟩ : ∃ q, h.m.quotes[i]? = some q := ⟨_, List.getElem?_eq_getElem hi⟩
  have HD : Hid (actD h ⟨11, ae, af, i, ar, an, afu⟩ = keepC h (lookD h.c h.m.quotes q).1 0 (lookD h.c h.m.quotes q).2) := by
    show _ = _
    simp [actD, quoteOf, hq, hge]
    intro hn
    omega
  have HQ := hid hq
  have hql : h.m.quotes.length ≤ 9223372036854775807 := by have := hf.q; omega
  clear hq
  dsimp only [ActD.v]
  obtain ⟨fa, fc, ea, ec, qa, qc, ta, tc, na, nc, H0⟩ := HA
  have H0 := hid H0
  go_enter Tryz.func11, Tryz.ntmps11
  go_upto_region 1 with fail
  refine act_gen (fun W => PreSt w W ∧ ArgSt w (⟨11, ae, af, i, ar, an, afu⟩ : ActD) W) ⟨⟨by go_grown, by go_size, by go_simp, by go_simp, fun o => by go_simp⟩, ⟨by go_simp, by go_simp, by go_simp, by go_simp, by go_simp, by go_simp, by go_simp⟩⟩ ?_
  rintro W ⟨HP, HG⟩
  have hb0 := H0.out.lt
  have g0 := cell_later HP.below H0.out.c0
  have g1 := cell_later HP.below H0.out.c1
  have g2 := cell_later HP.below H0.out.c2
  have g3 := cell_later HP.below H0.out.c3
  have g4 := cell_later HP.below H0.out.c4
  have i0 := cell_new1 g0
  have i1 := cell_new1 g1
  have i2 := cell_new1 g2
  have i3 := cell_new1 g3
  have i4 := cell_new1 g4
  have j0 := cell_new2 g0
  have j1 := cell_new2 g1
  have j2 := cell_new2 g2
  have j3 := cell_new2 g3
  have j4 := cell_new2 g4
  replace HP := hid HP
  replace HG := hid HG
  go_cut [5, 6] from 9 to 16 (fun p q W => ∃ mb cb, p = .pointer (some ⟨mb, 0, none⟩) ∧ q = .pointer (some ⟨cb, 0, none⟩) ∧ Hid (PreSt w W ∧ ArgSt w (⟨11, ae, af, i, ar, an, afu⟩ : ActD) W ∧ TwoSt w mb cb (.slice fa h.m.frames.length fc) (.slice ea h.m.encl.length ec) (.slice qa h.m.quotes.length qc) (.slice ta h.c.trusts.length tc) (.slice na h.c.nonces.length nc) W))
  case first =>
    go_region
    all_goals
      go_wp2_with fail
      go_meet
      first
      | exact ⟨_, _, rfl, rfl, HP.out.later (by go_grown), HG.out.later (by go_grown), (TwoSt.mc' HP.out _ _).later (below_drew _)⟩
      | exact ⟨_, _, rfl, rfl, HP.out.later (by go_grown), HG.out.later (by go_grown), (TwoSt.cm' HP.out _ _).later (below_drew _)⟩
  case rest =>
  obtain ⟨mb, cb, rfl, rfl, HT⟩ := hcut
  clear g0 g1 g2 g3 g4 i0 i1 i2 i3 i4 j0 j1 j2 j3 j4 HP HG W
  go_upto_region 4 with fail
  refine act_gen (fun W => ActSt w mb cb wc.heap.size (wc.heap.size + 1) (wc.heap.size + 2) (.slice fa h.m.frames.length fc) (.slice ea h.m.encl.length ec) (.slice qa h.m.quotes.length qc) (.slice ta h.c.trusts.length tc) (.slice na h.c.nonces.length nc) h.m h.c 0 0 0 0 W ∧ ArgSt w (⟨11, ae, af, i, ar, an, afu⟩ : ActD) W)
    ⟨ActSt.start HT.out.1 HT.out.2.2 (.inr ⟨H0.out.m, HT.out.1.below.trans (Below.mono (by go_grown) HT.out.1.below.size)⟩) (.inr ⟨H0.out.c, HT.out.1.below.trans (Below.mono (by go_grown) HT.out.1.below.size)⟩), HT.out.2.1.later (by go_grown)⟩ ?_
  clear HT
  generalize wc.heap.size = ob
  generalize ob + 2 = top
  clear wc
  rintro W ⟨H, HG⟩
  have a0 := HG.a0
  have a1 := HG.a1
  have a2 := HG.a2
  have a3 := HG.a3
  have a4 := HG.a4
  have a5 := HG.a5
  have a6 := HG.a6
  have r0 := H.r0
  have r1 := H.r1
  have rz := H.rz
  have m0 := H.m0
  have m1 := H.m1
  have m2 := H.m2
  have mz := H.mz
  have c0 := H.c0
  have c1 := H.c1
  have cz := H.cz
  have o0 := H.o0
  have o1 := H.o1
  have oz := H.oz
  have u0 := H.u0
  have u1 := H.u1
  have uz := H.uz
  have e1 := H.mc
  have e2 := H.mo
  have e3 := H.mu
  have e4 := H.co
  have e5 := H.cu
  have e6 := H.ou
  have e1' := e1.symm
  have e2' := e2.symm
  have e3' := e3.symm
  have e4' := e4.symm
  have e5' := e5.symm
  have e6' := e6.symm
  replace H := hid H
  have hqs : QuotesAt W qa h.m.quotes := by
    obtain ⟨_, _, _, _, _, _, e, _, _, h3, _⟩ := H.out.mok.at
    simp only [Value.agg.injEq, Array.mk.injEq, List.cons.injEq, Value.slice.injEq] at e
    obtain ⟨_, _, ⟨rfl, _, _⟩, _⟩ := e
    exact h3
  obtain ⟨qb, qo, rfl, q0, q1⟩ := hqs i q HQ.out
  have HQS := hid hqs
  clear hqs
  go_upto_block 0 with fail
  go_cut [] from 20 to 171 (fun W => ∃ ta2 tc2 na2 nc2, ActSt w mb cb ob (ob + 1) top (.slice fa h.m.frames.length fc) (.slice ea h.m.encl.length ec) (.slice (some ⟨qb, qo, none⟩) h.m.quotes.length qc) (.slice ta2 (lookD h.c h.m.quotes q).1.trusts.length tc2) (.slice na2 (lookD h.c h.m.quotes q).1.nonces.length nc2) h.m (lookD h.c h.m.quotes q).1 (lookD h.c h.m.quotes q).2 0 0 0 W)
  case first =>
    clear r0 r1 rz m0 m1 mz u0 u1 uz a0 a1 a2 a4 a5 a6 o0 o1 oz cz
    go_upto_region 29 with fail
    obtain ⟨C2, hC2⟩ : ∃ C2, (lookD h.c h.m.quotes q).1 = C2 := ⟨_, rfl⟩
    obtain ⟨k2, hk2⟩ : ∃ k2, (lookD h.c h.m.quotes q).2 = k2 := ⟨_, rfl⟩
    have HC2 := hid hC2
    have HK2 := hid hk2
    clear hC2 hk2
    refine wp_region_specs [159, 160, 161, 162, 163, 164, 165, 166, 167, 168, 158, 169, 170] [12] 13 (lookG (.agg #[.slice ta h.c.trusts.length tc, .slice na h.c.nonces.length nc]) (.pointer (some ⟨mb, 2, none⟩)) (.slice (some ⟨qb, qo, none⟩) h.m.quotes.length qc) (.pointer (some ⟨w.heap.size, 3, none⟩)) i (.pointer (some ⟨qb, qo + i * 2, none⟩)) q top C2 k2)
      (by kernel_rfl) (by kernel_rfl) (fun t ht => by simp only [List.mem_cons, List.not_mem_nil, or_false] at ht; show t < 192; omega) (fun _ _ _ _ _ h => h) lookG_later ?_ ?_ ?_
    · intro j hj o ho a w2 hs hb hd
      simp only [List.mem_cons, List.not_mem_nil, or_false] at hj
      subst hj
      obtain rfl := Option.some.inj ho
      obtain ⟨v, hv, ta2, tc2, na2, nc2, rfl, hC⟩ := hd 10 (by kernel_rfl)
      have h158 : a.tmps[158]? = _ := hv
      exact ⟨_, .inl ⟨rfl, fun w => by go_simp⟩, rfl⟩
    · intro j hj hjL o ho a w2 hs hb hd
      have hbW := (below_drew W).trans hb
      have HH := hid (H.out.later hbW)
      rcases j with _ | _ | _ | _ | _ | _ | _ | _ | _ | _ | _ | _ | _ | j
      all_goals try obtain rfl := Option.some.inj ho
      · have h6 : a.tmps[6]? = some (.pointer (some ⟨cb, 0, none⟩)) := (hs.rest 6 (by decide)).trans rfl
        have x0 := HH.out.c0
        have x1 := HH.out.c1
        go_simp
        exact ⟨_, rfl, rfl, Below.refl _ _⟩
      · have h5 : a.tmps[5]? = some (.pointer (some ⟨mb, 0, none⟩)) := (hs.rest 5 (by decide)).trans rfl
        go_simp
        exact ⟨_, rfl, rfl, Below.refl _ _⟩
      · obtain ⟨v, hv, rfl⟩ := hd 1 (by kernel_rfl)
        have h160 : a.tmps[160]? = _ := hv
        have x2 := HH.out.m2
        go_simp
        exact ⟨_, rfl, rfl, Below.refl _ _⟩
      · have h5 : a.tmps[5]? = some (.pointer (some ⟨mb, 0, none⟩)) := (hs.rest 5 (by decide)).trans rfl
        go_simp
        exact ⟨_, rfl, rfl, Below.refl _ _⟩
      · obtain ⟨v, hv, rfl⟩ := hd 3 (by kernel_rfl)
        have h162 : a.tmps[162]? = _ := hv
        have x2 := HH.out.m2
        go_simp
        exact ⟨_, rfl, rfl, Below.refl _ _⟩
      · have h3 : a.tmps[3]? = some (.pointer (some ⟨w.heap.size, 0, none⟩)) := (hs.rest 3 (by decide)).trans rfl
        go_simp
        exact ⟨_, rfl, rfl, Below.refl _ _⟩
      · obtain ⟨v, hv, rfl⟩ := hd 5 (by kernel_rfl)
        have h164 : a.tmps[164]? = _ := hv
        have x3 := cell_later hbW a3
        go_simp
        exact ⟨_, rfl, rfl, Below.refl _ _⟩
      · obtain ⟨v, hv, rfl⟩ := hd 4 (by kernel_rfl)
        obtain ⟨u, hu, rfl⟩ := hd 6 (by kernel_rfl)
        have h163 : a.tmps[163]? = _ := hv
        have h165 : a.tmps[165]? = _ := hu
        go_simp
        exact ⟨_, rfl, rfl, Below.refl _ _⟩
      · obtain ⟨v, hv, rfl⟩ := hd 7 (by kernel_rfl)
        have h166 : a.tmps[166]? = _ := hv
        have x0 := cell_later hbW q0
        have x1 := cell_later hbW q1
        go_simp
        exact ⟨_, rfl, rfl, Below.refl _ _⟩
      · obtain ⟨v, hv, rfl⟩ := hd 0 (by kernel_rfl)
        obtain ⟨u, hu, rfl⟩ := hd 2 (by kernel_rfl)
        obtain ⟨t, ht, rfl⟩ := hd 8 (by kernel_rfl)
        have h159 : a.tmps[159]? = _ := hv
        have h161 : a.tmps[161]? = _ := hu
        have h167 : a.tmps[167]? = _ := ht
        go_simp
        refine (trustLook _ h.c _ h.m.quotes _ q _ HH.out.cok.at hfc (HQS.out.mono hbW) hql).mono ?_
        rintro x w7 ⟨v2, rfl, hA2, hb7⟩
        rw [HC2.out] at hA2
        rw [HK2.out]
        obtain ⟨ta2, tc2, na2, nc2, rfl, _⟩ := hA2.at
        exact ⟨_, rfl, ⟨ta2, tc2, na2, nc2, rfl, hA2.mono HH.out.tl⟩, hb7⟩
      · obtain ⟨v, hv, ht⟩ := hd 9 (by kernel_rfl)
        have h168 : a.tmps[168]? = _ := hv
        go_simp
        exact ⟨_, rfl, ht, Below.refl _ _⟩
      · obtain ⟨v, hv, ta2, tc2, na2, nc2, rfl, hC⟩ := hd 10 (by kernel_rfl)
        have h158 : a.tmps[158]? = _ := hv
        go_simp
        exact ⟨_, rfl, ⟨ta2, tc2, na2, nc2, rfl, hC⟩, Below.refl _ _⟩
      · exact absurd (by decide) hjL
      · omega
    · intro a w2 hs hb hd
      obtain ⟨v0, t0, _⟩ := hd 0 (by omega)
      obtain ⟨v1, t1, _⟩ := hd 1 (by omega)
      obtain ⟨v2, t2, _⟩ := hd 2 (by omega)
      obtain ⟨v3, t3, _⟩ := hd 3 (by omega)
      obtain ⟨v4, t4, _⟩ := hd 4 (by omega)
      obtain ⟨v5, t5, _⟩ := hd 5 (by omega)
      obtain ⟨v6, t6, _⟩ := hd 6 (by omega)
      obtain ⟨v7, t7, _⟩ := hd 7 (by omega)
      obtain ⟨v8, t8, _⟩ := hd 8 (by omega)
      obtain ⟨v9, t9, _⟩ := hd 9 (by omega)
      obtain ⟨v10, t10, _⟩ := hd 10 (by omega)
      obtain ⟨v11, t11, ta2, tc2, na2, nc2, rfl, hC⟩ := hd 11 (by omega)
      obtain ⟨v12, t12, rfl⟩ := hd 12 (by omega)
      have ea := hs.is [(159, _), (160, _), (161, _), (162, _), (163, _), (164, _), (165, _), (166, _), (167, _), (168, _), (158, _), (169, _), (170, _)] rfl (by decide) (fun t ht => by simp only [List.mem_cons, List.not_mem_nil, or_false] at ht; show t < 192; omega) (fun p hp => by
        simp only [List.mem_cons, List.not_mem_nil, or_false] at hp
        rcases hp with rfl | rfl | rfl | rfl | rfl | rfl | rfl | rfl | rfl | rfl | rfl | rfl | rfl
        · exact t0
        · exact t1
        · exact t2
        · exact t3
        · exact t4
        · exact t5
        · exact t6
        · exact t7
        · exact t8
        · exact t9
        · exact t10
        · exact t11
        · exact t12)
      subst ea
      have HH := hid (H.out.later ((below_drew W).trans hb))
      have HCC := hid hC
      have x0 := HH.out.c0
      have x1 := HH.out.c1
      have xz := HH.out.cz
      have y0 := HH.out.o0
      have yz := HH.out.oz
      have f1 := HH.out.co
      have f2 := f1.symm
      clear t0 t1 t2 t3 t4 t5 t6 t7 t8 t9 t10 t11 t12 hd hs hb hC
      simp only [List.drop_succ_cons, List.drop_zero, putAll, Act.put, List.setIfInBounds_toArray, List.set_cons_succ, List.set_cons_zero]
      go_wp2_with fail
      go_meet
      rw [HC2.out, HK2.out]
      exact ⟨ta2, tc2, na2, nc2, (HH.out.setC (.inl HCC.out)).setCode _⟩
  case rest =>
  obtain ⟨ta2, tc2, na2, nc2, HX⟩ := hcut
  clear r0 r1 rz m0 m1 m2 mz c0 c1 cz o0 o1 oz u0 u1 uz e1 e2 e3 e4 e5 e6 e1' e2' e3' e4' e5' e6'
  clear H HG a0 a1 a2 a3 a4 a5 a6 q0 q1 HQS HQ hql
  generalize (lookD h.c h.m.quotes q).1 = C2 at HD HX ⊢
  generalize (lookD h.c h.m.quotes q).2 = c2 at HD HX ⊢
  have H := HX
  clear HX W
  go_upto_region 30 with fail
  refine act_gen (ActSt w mb cb ob (ob + 1) top (.slice fa h.m.frames.length fc) (.slice ea h.m.encl.length ec) (.slice (some ⟨qb, qo, none⟩) h.m.quotes.length qc) (.slice ta2 C2.trusts.length tc2) (.slice na2 C2.nonces.length nc2) h.m C2 c2 0 0 0) H ?_
  clear H
  intro W H
  have r0 := H.r0
  have r1 := H.r1
  have rz := H.rz
  have m0 := H.m0
  have m1 := H.m1
  have m2 := H.m2
  have mz := H.mz
  have c0 := H.c0
  have c1 := H.c1
  have cz := H.cz
  have o0 := H.o0
  have o1 := H.o1
  have oz := H.oz
  have u0 := H.u0
  have u1 := H.u1
  have uz := H.uz
  have e1 := H.mc
  have e2 := H.mo
  have e3 := H.mu
  have e4 := H.co
  have e5 := H.cu
  have e6 := H.ou
  have e1' := e1.symm
  have e2' := e2.symm
  have e3' := e3.symm
  have e4' := e4.symm
  have e5' := e5.symm
  have e6' := e6.symm
  replace H := hid H
  have hbw := H.out.below.size
  have k0 := cell_later H.out.below H0.out.c0
  have k1 := cell_later H.out.below H0.out.c1
  have k2 := cell_later H.out.below H0.out.c2
  have k3 := cell_later H.out.below H0.out.c3
  have k4 := cell_later H.out.below H0.out.c4
  have kz : ∀ o, W.frozen? ⟨B, o, none⟩ = false := fun o => by rw [(bcell H.out.below).2 _ _ hb0]; exact H0.out.cz o
  have t1 : B ≠ mb := by have := H.out.bm; omega
  have t2 : B ≠ cb := by have := H.out.bc; omega
  have t3 : B ≠ ob := by have := H.out.bo; omega
  have t4 : B ≠ ob + 1 := by have := H.out.bu; omega
  have t5 : B ≠ w.heap.size + 1 := by omega
  have t1' := t1.symm
  have t2' := t2.symm
  have t3' := t3.symm
  have t4' := t4.symm
  have t5' := t5.symm
  have f1 : w.heap.size + 1 ≠ ob := by have := H.out.bo; omega
  have f2 : w.heap.size + 1 ≠ ob + 1 := by have := H.out.bu; omega
  have f1' := f1.symm
  have f2' := f2.symm
  by_cases hc2 : c2 = 0
  · subst hc2
    have HD1 := hid (HD.out.trans (keepC_0 _ _ _))
    clear HD
    go_upto_region 32 with fail
    go_region
    all_goals
      refine act_gen (ActEnd w B ob (ob + 1) top fa fc ea ec (some ⟨qb, qo, none⟩) qc ta2 tc2 na2 nc2 ⟨h.m, C2⟩ (0 : Int) 0 0) ((H.out.fin (h := ⟨h.m, C2⟩) H0.out).drew) ?_
      clear r0 r1 rz m0 m1 m2 mz c0 c1 cz o0 o1 oz u0 u1 uz e1 e2 e3 e4 e5 e6 e1' e2' e3' e4' e5' e6'
      clear k0 k1 k2 k3 k4 kz H
      intro W H
      have r0 := H.r0
      have r1 := H.r1
      have rz := H.rz
      have o0 := H.o0
      have o1 := H.o1
      have u0 := H.u0
      replace H := hid H
      go_wp2_with fail
      exact bodyPost_ret (v := .agg #[.int .i64 0, .int .i64 (0 : Int)]) (by simp only [results, Tryz.results11]; go_simp) rfl ⟨by rw [HD1.out], by rw [HD1.out]; exact (H.out.done 0 (0 : Int))⟩
  · have HD1 := hid (HD.out.trans (keepC_1 _ _ _ hc2))
    have hE1 : (c2 != 0) = true := by rw [bne_iff_ne]; exact hc2
    clear HD hc2
    go_wp2_with fail
    refine bodyPost_ret (v := .agg #[.int .i64 c2, .int .i64 0]) (by simp only [results, Tryz.results11]; go_simp) rfl ⟨by rw [HD1.out], ?_⟩
    rw [HD1.out]
    have HB := below_low2 H.out.below (b := w.heap.size + 1) (by omega) (.int .i64 c2) (.int .i64 0)
    exact ⟨HostAt.later ⟨_, _, _, _, _, _, _, _, _, _, H0.out⟩ HB, grownBy_of_below HB⟩

end Go.Proofs.YtklbbjionoeofaaGreatDoor
