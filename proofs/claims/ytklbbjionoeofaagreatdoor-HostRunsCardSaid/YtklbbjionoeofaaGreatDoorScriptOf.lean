/- ref.ScriptOf, walked. Conditions: what fits the form's own reach. -/
import Derived.Test.YtklbbjionoeofaaGreatDoorGx
import Derived.Test.YtklbbjionoeofaaGreatDoorHostRunSt
import Derived.Test.YtklbbjionoeofaaGreatDoorPeek
import Derived.Test.YtklbbjionoeofaaGreatDoorRefPutOf
import Derived.Test.YtklbbjionoeofaaGreatDoorRefMeasured
import Derived.Test.YtklbbjionoeofaaGreatDoorGj
import Derived.Test.YtklbbjionoeofaaGreatDoorRefRemove
import Derived.Test.YtklbbjionoeofaaGreatDoorGk
import Derived.Test.YtklbbjionoeofaaGreatDoorRefCreate
import Derived.Test.YtklbbjionoeofaaGreatDoorGq
import Derived.Test.YtklbbjionoeofaaGreatDoorRefLook
import Derived.Test.YtklbbjionoeofaaGreatDoorRefMachCopy
import Derived.Test.YtklbbjionoeofaaGreatDoorGd
import Derived.Test.YtklbbjionoeofaaGreatDoorGp
import Derived.Test.YtklbbjionoeofaaGreatDoorRegionAny
import Derived.Test.YtklbbjionoeofaaGreatDoorEnterRef
import Derived.Deep.CutBlock
namespace Go.Proofs.YtklbbjionoeofaaGreatDoor
open Go.RowKit

/-- What the operations of the region that looks leave. -/
def LkV (C2 : ChalD) (c2 : Int) (v : Value) (w : World) : Prop := ∃ ta tc na nc, v = .tuple #[.agg #[.slice ta C2.trusts.length tc, .slice na C2.nonces.length nc], .int .i64 c2] ∧ ChalFrom 0 w (.agg #[.slice ta C2.trusts.length tc, .slice na C2.nonces.length nc]) C2
theorem LkV.later {C2 : ChalD} {c2 : Int} {v : Value} {w w' : World} (h : LkV C2 c2 v w) (hb : Below w.heap.size w w') : LkV C2 c2 v w' := by
  obtain ⟨ta, tc, na, nc, e, hC⟩ := h
  exact ⟨ta, tc, na, nc, e, hC.below hb⟩
def lkG (cv p1 qv p5 : Value) (i : Nat) (p7 : Value) (q : QuoteD) (C2 : ChalD) (c2 : Int) : Nat → Value → World → Prop
  | 0, v, _ => v = cv
  | 1, v, _ => v = p1
  | 2, v, _ => v = qv
  | 3, v, _ => v = p1
  | 4, v, _ => v = qv
  | 5, v, _ => v = p5
  | 6, v, _ => v = .int .i64 i
  | 7, v, _ => v = p7
  | 8, v, _ => v = .agg #[.string q.log, .int .i64 q.data]
  | 9, v, w => LkV C2 c2 v w
  | 10, v, w => LkV C2 c2 v w
  | 11, v, w => ∃ ta tc na nc, v = .agg #[.slice ta C2.trusts.length tc, .slice na C2.nonces.length nc] ∧ ChalFrom 0 w (.agg #[.slice ta C2.trusts.length tc, .slice na C2.nonces.length nc]) C2
  | 12, v, _ => v = .int .i64 c2
  | _, _, _ => True
theorem lkG_later {cv p1 qv p5 : Value} {i : Nat} {p7 : Value} {q : QuoteD} {C2 : ChalD} {c2 : Int} (j : Nat) (v : Value) (w w' : World) (hb : Below w.heap.size w w') (h : lkG cv p1 qv p5 i p7 q C2 c2 j v w) : lkG cv p1 qv p5 i p7 q C2 c2 j v w' := by
  match j, h with
  | 0, h | 1, h | 2, h | 3, h | 4, h | 5, h | 6, h | 7, h | 8, h | 12, h => exact h
  | 9, h | 10, h => exact LkV.later h hb
  | 11, ⟨ta, tc, na, nc, e, hC⟩ => exact ⟨ta, tc, na, nc, e, hC.below hb⟩
  | _ + 13, h => exact h
/-- What the copies of the last region leave. -/
def cpG (base : Nat) (ov mv cv : Value) (M : MachD) (C : ChalD) : Nat → Value → World → Prop
  | 0, v, _ => v = ov
  | 1, v, _ => v = mv
  | 2, v, w => ∃ fa fc ea ec qa qc, v = .agg #[.slice fa M.frames.length fc, .slice ea M.encl.length ec, .slice qa M.quotes.length qc] ∧ MachFrom base w (.agg #[.slice fa M.frames.length fc, .slice ea M.encl.length ec, .slice qa M.quotes.length qc]) M
  | 3, v, _ => v = cv
  | 4, v, w => ∃ ta tc na nc, v = .agg #[.slice ta C.trusts.length tc, .slice na C.nonces.length nc] ∧ ChalFrom base w (.agg #[.slice ta C.trusts.length tc, .slice na C.nonces.length nc]) C
  | _, _, _ => True
theorem cpG_later {base : Nat} {ov mv cv : Value} {M : MachD} {C : ChalD} (j : Nat) (v : Value) (w w' : World) (hb : Below w.heap.size w w') (h : cpG base ov mv cv M C j v w) : cpG base ov mv cv M C j v w' := by
  match j, h with
  | 0, h | 1, h | 3, h => exact h
  | 2, ⟨fa, fc, ea, ec, qa, qc, e, hM⟩ => exact ⟨fa, fc, ea, ec, qa, qc, e, hM.below hb⟩
  | 4, ⟨ta, tc, na, nc, e, hC⟩ => exact ⟨ta, tc, na, nc, e, hC.below hb⟩
  | _ + 5, h => exact h



set_option maxRecDepth 10000 in
set_option maxHeartbeats 8000000 in
theorem refScript (ta0 : Option Addr) (tc0 : Nat) (T : List ByteArray) (a : Option Addr) (cap n : Nat) (L : List ActD) (w : World) (hl : L.length = n) (hS : StrsAt w ta0 T) (hA : ActsAt w a L) (h1 : T.length * 16 ≤ 140737488351232) (h2 : n * 56 ≤ 140737488351232) :
    Calls Tryz.prog 5 #[.slice ta0 T.length tc0, .slice a n cap] w (RunsRes w.heap.size (scriptD T L) w) := by
  obtain ⟨s0, hs0, hy0, hy1, hy2⟩ := info_parts infoStrs
  obtain ⟨i0, hi0, hz0, hz1, hz2⟩ := info_parts infoAns
  have HS := hid hS
  have HA := hid hA
  have HL := hid hl
  have hn : n ≤ 9223372036854775807 := by omega
  clear hS hA hl
  go_enter Tryz.func5, Tryz.ntmps5
  go_wp2_with (at_builtin; refine wpList_append_nil rfl _ _ 22 rfl 9 s0 _ 1 16 Tryz.underlying22 hs0 hy0 hy1 hy2 rfl (by decide) rfl ta0 T.length tc0 (strCells T) rfl (by simp [strCells]) (HS.out.cells.mono (by go_grown)) (strCells_one _) (by unfold maxLen; omega) (by omega) ?_)
  intro ga gc w1 hrow hgrow
  have hb1 := below_grown hgrow
  have HR1 : Hid (ResSt w w1) := (show ResSt w _ from ⟨by go_simp, by go_simp, by go_simp, fun o => by go_simp, by go_simp, by go_simp, fun o => by go_simp, by go_size⟩ : ResSt w ((w.alloc (.cells #[.slice none 0 0, .slice none 0 0, .slice none 0 0] 29)).alloc (.cells #[.slice none 0 0, .slice none 0 0] 32))).later hb1
  have HB1 : Hid (Below w.heap.size w w1) := Below.trans (by go_grown) (hb1.mono (by go_size))
  have HC1 : Hid (ChalFrom 0 w1 (.agg #[.slice ga T.length gc, .slice none 0 0]) ⟨T, []⟩) := ⟨_, _, rfl, ownsRow_mono hrow (Nat.zero_le _), World.ownsRow_nil _ _ _ _⟩
  clear hrow hgrow hb1
  go_upto_region 2 with fail
  refine act_gen (fun W => Below w.heap.size w W ∧ ResSt w W ∧ CBx w1.heap.size ga gc none 0 ⟨T, []⟩ W) ⟨HB1.out.trans (Below.mono (by go_grown) HB1.out.size), HR1.out.later (by go_grown), CBx.new rfl HC1.out⟩ ?_
  have lc := HR1.out.lt
  have lc' : w.heap.size + 2 ≤ w1.heap.size := by omega
  clear HR1 HB1 HC1 lc
  generalize w1.heap.size = cb at lc'
  clear w1
  rintro W ⟨hB, hR, hC⟩
  have c0 := hC.c0
  have c1 := hC.c1
  have HB := hid hB
  have HR := hid hR
  have HC := hid hC
  clear hB hR hC
  have HFT : Hid ((⟨T, []⟩ : ChalD).Fits) := ⟨by simpa using h1, by simp⟩
  go_wp2_with fail
  refine (refChalFault _ ⟨T, []⟩ _ HC.out.c.at HFT.out).mono ?_
  rintro x w2 ⟨rfl, hb2⟩
  replace HB := hid (HB.out.trans (hb2.mono HB.out.size))
  replace HR := hid (HR.out.later hb2)
  replace HC := hid (HC.out.later hb2)
  have r0 := HR.out.r0
  have r1 := HR.out.r1
  have r2 := HR.out.r2
  have rz := HR.out.rz
  have q0 := HR.out.q0
  have q1 := HR.out.q1
  have qz := HR.out.qz
  clear hb2 c0 c1
  by_cases hf0 : chalF ⟨T, []⟩ = 0
  rotate_left
  · have HD : Hid (scriptD T L = ⟨[], mach0, chal0, chalF ⟨T, []⟩⟩) := by
      show _ = _
      have : scriptF T L = chalF ⟨T, []⟩ := by rw [scriptF, if_pos hf0]
      rw [scriptD, this, if_pos hf0]
    have hE1 : (chalF ⟨T, []⟩ != 0) = true := by rw [bne_iff_ne]; exact hf0
    have hE2 : (chalF ⟨T, []⟩ == 0) = false := by rw [beq_eq_false_iff_ne]; exact hf0
    generalize chalF ⟨T, []⟩ = E at HD hE1 hE2 hf0 ⊢
    clear hf0
    go_wp2_with fail
    refine bodyPost_ret (v := .tuple #[.slice none 0 0, .agg #[.slice none 0 0, .slice none 0 0, .slice none 0 0], .agg #[.slice none 0 0, .slice none 0 0], .int .i64 E]) (by simp only [results, Tryz.results5]; go_simp) rfl ?_
    rw [HD.out]
    refine ⟨_, _, _, rfl, World.ownsRow_nil _ _ _ _, mach0_from, chal0_from, ?_⟩
    exact below_low2 (below_low3 HB.out (by omega) _ _ _) (by omega) _ _
  rw [hf0]
  by_cases h200 : 200 < n
  · have HD : Hid (scriptD T L = ⟨[], mach0, chal0, 1⟩) := by
      show _ = _
      have : scriptF T L = 1 := by rw [scriptF, if_neg (by simpa using hf0), HL.out, if_pos h200]
      rw [scriptD, this]; rfl
    have h200' : (200 : Int) < (n : Int) := by omega
    clear hf0
    go_wp2_with fail
    refine bodyPost_ret (v := .tuple #[.slice none 0 0, .agg #[.slice none 0 0, .slice none 0 0, .slice none 0 0], .agg #[.slice none 0 0, .slice none 0 0], .int .i64 1]) (by simp only [results, Tryz.results5]; go_simp) rfl ?_
    rw [HD.out]
    refine ⟨_, _, _, rfl, World.ownsRow_nil _ _ _ _, mach0_from, chal0_from, ?_⟩
    exact below_low2 (below_low3 HB.out (by omega) _ _ _) (by omega) _ _
  have HD : Hid (scriptD T L = ⟨(actsD ⟨newD, ⟨T, []⟩⟩ L).2, (actsD ⟨newD, ⟨T, []⟩⟩ L).1.m, (actsD ⟨newD, ⟨T, []⟩⟩ L).1.c, 0⟩) := by
    show _ = _
    have : scriptF T L = 0 := by rw [scriptF, if_neg (by simpa using hf0), HL.out, if_neg h200]
    rw [scriptD, this]; rfl
  have h200' : ¬ ((200 : Int) < (n : Int)) := by omega
  have HFit : Hid (newD.Fits ∧ (⟨T, []⟩ : ChalD).Fits) := ⟨newD_fits, HFT.out⟩
  clear hf0 h1 h2 r0 r1 r2 rz q0 q1 qz HFT
  go_wp2_with fail
  refine (refNew _).mono ?_
  rintro x w3 ⟨fv1, ev1, qv1, F1, rfl, hF1, hO1, hb3⟩
  have hM1 : MachFrom 0 w3 (.agg #[fv1, ev1, qv1]) newD := ⟨fv1, ev1, qv1, F1, rfl, hF1, hO1.mono (Nat.zero_le _)⟩
  obtain ⟨fa, fc, ea, ec, qa, qc, e1⟩ := hM1.parts
  simp only [Value.agg.injEq, Array.mk.injEq, List.cons.injEq, and_true] at e1
  obtain ⟨rfl, rfl, rfl⟩ := e1
  have HM1 := hid hM1
  replace HB := hid (HB.out.trans (hb3.mono HB.out.size))
  replace HR := hid (HR.out.later hb3)
  replace HC := hid (HC.out.later hb3)
  clear hF1 hO1 hb3 hM1
  go_upto_region 8 with fail
  refine act_gen (ScSt w w3.heap.size cb ⟨newD, ⟨T, []⟩⟩ [] (.slice none 0 0)) ⟨HB.out.trans (Below.mono (by go_grown) HB.out.size), by have := HR.out.lt; omega, lc', HR.out.later (by go_grown), ⟨_, _, _, _, _, _, MBox.new HM1.out⟩, ⟨_, _, _, _, HC.out.later (by go_grown)⟩, World.ownsRow_nil _ _ _ _⟩ ?_
  clear HB HR HC HM1 lc'
  generalize w3.heap.size = mb
  clear w3 w2
  intro W H
  replace H := hid H
  go_wp2_with fail
  go_loopw [11, 12] (fun ov j W => ∃ i : Nat, i ≤ n ∧ j = .int .i64 i ∧ Hid (ScSt w mb cb (actsD ⟨newD, ⟨T, []⟩⟩ (L.take i)).1 (actsD ⟨newD, ⟨T, []⟩⟩ (L.take i)).2 ov W)) (fun _ j _ => n - (intOf j).toNat)
  case atStart => exact ⟨0, by omega, rfl, H⟩
  case round =>
    obtain ⟨i, hi, rfl, HI⟩ := hrel
    clear H
    by_cases hlt : i < n
    · obtain ⟨⟨kd, ae, af, ap, ar, an, afu⟩, hx⟩ : ∃ x, L[i]? = some x := ⟨_, List.getElem?_eq_getElem (by rw [HL.out]; exact hlt)⟩
      obtain ⟨lb, lo, rfl, l0, l1, l2, l3, l4, l5, l6⟩ := HA.out.mono HI.out.below i _ hx
      have HSN := hid (actsD_snoc (h := ⟨newD, ⟨T, []⟩⟩) hx)
      have HFI := hid (actsD_fits (h := ⟨newD, ⟨T, []⟩⟩) (L.take i) HFit.out)
      have HXL : Hid ((actsD ⟨newD, ⟨T, []⟩⟩ (L.take i)).2.length = i) := by show _ = _; rw [actsD_len, List.length_take, HL.out]; omega
      clear hx
      generalize actsD ⟨newD, ⟨T, []⟩⟩ (L.take i) = R at HI HSN HFI HXL
      obtain ⟨hst, X⟩ := R
      replace HFI : Hid (hst.m.Fits ∧ hst.c.Fits) := HFI
      replace HXL : Hid (X.length = i) := HXL
      obtain ⟨fa, fc, ea, ec, qa, qc, HM⟩ := HI.out.m
      obtain ⟨ta, tc, na, nc, HC⟩ := HI.out.c
      obtain ⟨oa, oc, rfl⟩ := own_slice HI.out.own
      have k0 := cell_new2 HM.c0
      have k1 := cell_new2 HM.c1
      have k2 := cell_new2 HM.c2
      have q0 : ∀ X Y Z U, ((((wr.alloc X).alloc Y).alloc Z).alloc U).cell? ⟨cb, 0, none⟩ = some (.slice ta hst.c.trusts.length tc) := fun _ _ _ _ => cell_later (by go_grown) HC.c0
      have q1 : ∀ X Y Z U, ((((wr.alloc X).alloc Y).alloc Z).alloc U).cell? ⟨cb, 1, none⟩ = some (.slice na hst.c.nonces.length nc) := fun _ _ _ _ => cell_later (by go_grown) HC.c1
      replace HM := hid HM
      replace HC := hid HC
      go_upto_region 17 with fail
      have HRD := RdSt.start HI.out HM.out HC.out ⟨kd, ae, af, ap, ar, an, afu⟩
      refine act_gen (RdSt w mb cb wr.heap.size (wr.heap.size + 1) (wr.heap.size + 1 + 1) (wr.heap.size + 1 + 1 + 1) (wr.heap.size + 1 + 1 + 1 + 1) hst X (.slice oa X.length oc) ⟨kd, ae, af, ap, ar, an, afu⟩ 0 0 hst.m 0 0 hst.c) HRD ?_
      clear HRD HI HM HC k0 k1 k2 q0 q1 l0 l1 l2 l3 l4 l5 l6
      generalize wr.heap.size = ab
      generalize ab + 1 = xb
      generalize xb + 1 = nb
      generalize nb + 1 = ob
      generalize ob + 1 = db
      clear wr
      intro W H
      replace H := hid H
      obtain ⟨fa, fc, ea, ec, qa, qc, HM⟩ := H.out.s.m
      obtain ⟨ta, tc, na, nc, HC⟩ := H.out.s.c
      have m0 := HM.c0
      have m1 := HM.c1
      have m2 := HM.c2
      have c0 := HC.c0
      have c1 := HC.c1
      have a0 := H.out.a.a0
      have a1 := H.out.a.a1
      have a2 := H.out.a.a2
      have a3 := H.out.a.a3
      have a4 := H.out.a.a4
      have a5 := H.out.a.a5
      have a6 := H.out.a.a6
      have HMA := hid HM.at
      have HCA := hid HC.c
      have HMF := hid HM.m
      clear HM HC
      go_upto_block 2 with fail
      go_cut [] from 52 to 199 (fun W => ∃ code k M2 oe oo C2, RdSt w mb cb ab xb nb ob db hst X (.slice oa X.length oc) ⟨kd, ae, af, ap, ar, an, afu⟩ code k M2 oe oo C2 W ∧ finD hst code k M2 oe oo C2 = actD hst ⟨kd, ae, af, ap, ar, an, afu⟩)
      case first =>
        by_cases k1 : kd = 1
        · subst k1
          as_aux_lemma =>
            go_wp2_with fail
            refine (refCreated _ hst.m _ HMA.out HFI.out.1).mono ?_
            rintro v w2 ⟨v2, rfl, hA2, hb2⟩
            obtain ⟨fa2, fc2, ea2, ec2, qa2, qc2, rfl⟩ := hA2.parts
            have HA2 := hid (hA2.mono (Nat.zero_le _))
            clear hA2
            have H2 := hid (H.out.later hb2)
            clear hb2 m0 m1 m2 c0 c1 a0 a1 a2 a3 a4 a5 a6 HMA HCA H
            obtain ⟨_, _, _, _, _, _, HN⟩ := H2.out.n
            obtain ⟨_, _, _, _, HDD⟩ := H2.out.d
            have n0 := HN.c0
            have n1 := HN.c1
            have n2 := HN.c2
            have nz := HN.cz
            have x0 := H2.out.x.c0
            have x1 := H2.out.x.c1
            have xz := H2.out.x.cz
            have o0 := H2.out.o.c0
            have o1 := H2.out.o.c1
            have oz := H2.out.o.cz
            have d0 := HDD.c0
            have d1 := HDD.c1
            have dz := HDD.cz
            have e1 := blk_ne HN.bt H2.out.x.bt (by decide)
            have e2 := blk_ne HN.bt H2.out.o.bt (by decide)
            have e3 := blk_ne H2.out.o.bt H2.out.x.bt (by decide)
            have e4 := blk_ne HDD.bt H2.out.x.bt (by decide)
            have e1' := e1.symm
            have e2' := e2.symm
            have e3' := e3.symm
            have e4' := e4.symm
            clear HN HDD
            go_wp2_with fail
            go_meet
            exact ⟨_, _, _, _, _, _, ((H2.out.setNext HA2.out).setN _).setCode _, fin1 ..⟩
        by_cases k2 : kd = 2
        · subst k2
          as_aux_lemma =>
            go_wp2_with fail
            refine (refPutOf _ hst.m ae af ap ar _ HMA.out HFI.out.1).mono ?_
            rintro v w2 ⟨v2, rfl, hA2, hb2⟩
            obtain ⟨fa2, fc2, ea2, ec2, qa2, qc2, rfl⟩ := hA2.parts
            have HA2 := hid (hA2.mono (Nat.zero_le _))
            clear hA2
            have H2 := hid (H.out.later hb2)
            clear hb2 m0 m1 m2 c0 c1 a0 a1 a2 a3 a4 a5 a6 HMA HCA H
            obtain ⟨_, _, _, _, _, _, HN⟩ := H2.out.n
            obtain ⟨_, _, _, _, HDD⟩ := H2.out.d
            have n0 := HN.c0
            have n1 := HN.c1
            have n2 := HN.c2
            have nz := HN.cz
            have x0 := H2.out.x.c0
            have x1 := H2.out.x.c1
            have xz := H2.out.x.cz
            have o0 := H2.out.o.c0
            have o1 := H2.out.o.c1
            have oz := H2.out.o.cz
            have d0 := HDD.c0
            have d1 := HDD.c1
            have dz := HDD.cz
            have e1 := blk_ne HN.bt H2.out.x.bt (by decide)
            have e2 := blk_ne HN.bt H2.out.o.bt (by decide)
            have e3 := blk_ne H2.out.o.bt H2.out.x.bt (by decide)
            have e4 := blk_ne HDD.bt H2.out.x.bt (by decide)
            have e1' := e1.symm
            have e2' := e2.symm
            have e3' := e3.symm
            have e4' := e4.symm
            clear HN HDD
            go_wp2_with fail
            go_meet
            exact ⟨_, _, _, _, _, _, (H2.out.setNext HA2.out).setCode _, fin2 ..⟩
        by_cases k3 : kd = 3
        · subst k3
          as_aux_lemma =>
            go_wp2_with fail
            refine (refMeasuredOf _ hst.m ae ap _ HMA.out HFI.out.1).mono ?_
            rintro v w2 ⟨v2, rfl, hA2, hb2⟩
            obtain ⟨fa2, fc2, ea2, ec2, qa2, qc2, rfl⟩ := hA2.parts
            have HA2 := hid (hA2.mono (Nat.zero_le _))
            clear hA2
            have H2 := hid (H.out.later hb2)
            clear hb2 m0 m1 m2 c0 c1 a0 a1 a2 a3 a4 a5 a6 HMA HCA H
            obtain ⟨_, _, _, _, _, _, HN⟩ := H2.out.n
            obtain ⟨_, _, _, _, HDD⟩ := H2.out.d
            have n0 := HN.c0
            have n1 := HN.c1
            have n2 := HN.c2
            have nz := HN.cz
            have x0 := H2.out.x.c0
            have x1 := H2.out.x.c1
            have xz := H2.out.x.cz
            have o0 := H2.out.o.c0
            have o1 := H2.out.o.c1
            have oz := H2.out.o.cz
            have d0 := HDD.c0
            have d1 := HDD.c1
            have dz := HDD.cz
            have e1 := blk_ne HN.bt H2.out.x.bt (by decide)
            have e2 := blk_ne HN.bt H2.out.o.bt (by decide)
            have e3 := blk_ne H2.out.o.bt H2.out.x.bt (by decide)
            have e4 := blk_ne HDD.bt H2.out.x.bt (by decide)
            have e1' := e1.symm
            have e2' := e2.symm
            have e3' := e3.symm
            have e4' := e4.symm
            clear HN HDD
            go_wp2_with fail
            go_meet
            exact ⟨_, _, _, _, _, _, (H2.out.setNext HA2.out).setCode _, fin3 ..⟩
        by_cases k4 : kd = 4
        · subst k4
          as_aux_lemma =>
            go_wp2_with fail
            refine (refStarted _ hst.m ae _ HMA.out HFI.out.1).mono ?_
            rintro v w2 ⟨v2, rfl, hA2, hb2⟩
            obtain ⟨fa2, fc2, ea2, ec2, qa2, qc2, rfl⟩ := hA2.parts
            have HA2 := hid (hA2.mono (Nat.zero_le _))
            clear hA2
            have H2 := hid (H.out.later hb2)
            clear hb2 m0 m1 m2 c0 c1 a0 a1 a2 a3 a4 a5 a6 HMA HCA H
            obtain ⟨_, _, _, _, _, _, HN⟩ := H2.out.n
            obtain ⟨_, _, _, _, HDD⟩ := H2.out.d
            have n0 := HN.c0
            have n1 := HN.c1
            have n2 := HN.c2
            have nz := HN.cz
            have x0 := H2.out.x.c0
            have x1 := H2.out.x.c1
            have xz := H2.out.x.cz
            have o0 := H2.out.o.c0
            have o1 := H2.out.o.c1
            have oz := H2.out.o.cz
            have d0 := HDD.c0
            have d1 := HDD.c1
            have dz := HDD.cz
            have e1 := blk_ne HN.bt H2.out.x.bt (by decide)
            have e2 := blk_ne HN.bt H2.out.o.bt (by decide)
            have e3 := blk_ne H2.out.o.bt H2.out.x.bt (by decide)
            have e4 := blk_ne HDD.bt H2.out.x.bt (by decide)
            have e1' := e1.symm
            have e2' := e2.symm
            have e3' := e3.symm
            have e4' := e4.symm
            clear HN HDD
            go_wp2_with fail
            go_meet
            exact ⟨_, _, _, _, _, _, (H2.out.setNext HA2.out).setCode _, fin4 ..⟩
        by_cases k5 : kd = 5
        · subst k5
          as_aux_lemma =>
            go_wp2_with fail
            refine (refRemoved _ hst.m ae _ HMA.out HFI.out.1).mono ?_
            rintro v w2 ⟨v2, rfl, hA2, hb2⟩
            obtain ⟨fa2, fc2, ea2, ec2, qa2, qc2, rfl⟩ := hA2.parts
            have HA2 := hid (hA2.mono (Nat.zero_le _))
            clear hA2
            have H2 := hid (H.out.later hb2)
            clear hb2 m0 m1 m2 c0 c1 a0 a1 a2 a3 a4 a5 a6 HMA HCA H
            obtain ⟨_, _, _, _, _, _, HN⟩ := H2.out.n
            obtain ⟨_, _, _, _, HDD⟩ := H2.out.d
            have n0 := HN.c0
            have n1 := HN.c1
            have n2 := HN.c2
            have nz := HN.cz
            have x0 := H2.out.x.c0
            have x1 := H2.out.x.c1
            have xz := H2.out.x.cz
            have o0 := H2.out.o.c0
            have o1 := H2.out.o.c1
            have oz := H2.out.o.cz
            have d0 := HDD.c0
            have d1 := HDD.c1
            have dz := HDD.cz
            have e1 := blk_ne HN.bt H2.out.x.bt (by decide)
            have e2 := blk_ne HN.bt H2.out.o.bt (by decide)
            have e3 := blk_ne H2.out.o.bt H2.out.x.bt (by decide)
            have e4 := blk_ne HDD.bt H2.out.x.bt (by decide)
            have e1' := e1.symm
            have e2' := e2.symm
            have e3' := e3.symm
            have e4' := e4.symm
            clear HN HDD
            go_wp2_with fail
            go_meet
            exact ⟨_, _, _, _, _, _, (H2.out.setNext HA2.out).setCode _, fin5 ..⟩
        by_cases k6 : kd = 6
        · subst k6
          as_aux_lemma =>
            go_wp2_with fail
            refine (refPeeked _ hst.m af ap _ HMA.out HFI.out.1).mono ?_
            rintro v w2 ⟨rfl, hb2⟩
            have H2 := hid (H.out.later hb2)
            clear hb2 m0 m1 m2 c0 c1 a0 a1 a2 a3 a4 a5 a6 HMA HCA H
            obtain ⟨_, _, _, _, _, _, HN⟩ := H2.out.n
            obtain ⟨_, _, _, _, HDD⟩ := H2.out.d
            have n0 := HN.c0
            have n1 := HN.c1
            have n2 := HN.c2
            have nz := HN.cz
            have x0 := H2.out.x.c0
            have x1 := H2.out.x.c1
            have xz := H2.out.x.cz
            have o0 := H2.out.o.c0
            have o1 := H2.out.o.c1
            have oz := H2.out.o.cz
            have d0 := HDD.c0
            have d1 := HDD.c1
            have dz := HDD.cz
            have e1 := blk_ne HN.bt H2.out.x.bt (by decide)
            have e2 := blk_ne HN.bt H2.out.o.bt (by decide)
            have e3 := blk_ne H2.out.o.bt H2.out.x.bt (by decide)
            have e4 := blk_ne HDD.bt H2.out.x.bt (by decide)
            have e1' := e1.symm
            have e2' := e2.symm
            have e3' := e3.symm
            have e4' := e4.symm
            clear HN HDD
            go_wp2_with fail
            go_meet
            exact ⟨_, _, _, _, _, _, (H2.out.setN _).setCode _, fin6 ..⟩
        by_cases k7 : kd = 7
        · subst k7
          as_aux_lemma =>
            go_wp2_with fail
            refine (refPoked _ hst.m af ap an _ HMA.out HFI.out.1).mono ?_
            rintro v w2 ⟨v2, rfl, hA2, hb2⟩
            obtain ⟨fa2, fc2, ea2, ec2, qa2, qc2, rfl⟩ := hA2.parts
            have HA2 := hid (hA2.mono (Nat.zero_le _))
            clear hA2
            have H2 := hid (H.out.later hb2)
            clear hb2 m0 m1 m2 c0 c1 a0 a1 a2 a3 a4 a5 a6 HMA HCA H
            obtain ⟨_, _, _, _, _, _, HN⟩ := H2.out.n
            obtain ⟨_, _, _, _, HDD⟩ := H2.out.d
            have n0 := HN.c0
            have n1 := HN.c1
            have n2 := HN.c2
            have nz := HN.cz
            have x0 := H2.out.x.c0
            have x1 := H2.out.x.c1
            have xz := H2.out.x.cz
            have o0 := H2.out.o.c0
            have o1 := H2.out.o.c1
            have oz := H2.out.o.cz
            have d0 := HDD.c0
            have d1 := HDD.c1
            have dz := HDD.cz
            have e1 := blk_ne HN.bt H2.out.x.bt (by decide)
            have e2 := blk_ne HN.bt H2.out.o.bt (by decide)
            have e3 := blk_ne H2.out.o.bt H2.out.x.bt (by decide)
            have e4 := blk_ne HDD.bt H2.out.x.bt (by decide)
            have e1' := e1.symm
            have e2' := e2.symm
            have e3' := e3.symm
            have e4' := e4.symm
            clear HN HDD
            go_wp2_with fail
            go_meet
            exact ⟨_, _, _, _, _, _, (H2.out.setNext HA2.out).setCode _, fin7 ..⟩
        by_cases k8 : kd = 8
        · subst k8
          as_aux_lemma =>
            go_wp2_with fail
            refine (refEntered _ hst.m ae an afu _ HMA.out HFI.out.1).mono ?_
            rintro v w2 ⟨v2, rfl, hA2, hb2⟩
            obtain ⟨fa2, fc2, ea2, ec2, qa2, qc2, rfl⟩ := hA2.parts
            have HA2 := hid (hA2.mono (Nat.zero_le _))
            clear hA2
            have H2 := hid (H.out.later hb2)
            clear hb2 m0 m1 m2 c0 c1 a0 a1 a2 a3 a4 a5 a6 HMA HCA H
            obtain ⟨_, _, _, _, _, _, HN⟩ := H2.out.n
            obtain ⟨_, _, _, _, HDD⟩ := H2.out.d
            have n0 := HN.c0
            have n1 := HN.c1
            have n2 := HN.c2
            have nz := HN.cz
            have x0 := H2.out.x.c0
            have x1 := H2.out.x.c1
            have xz := H2.out.x.cz
            have o0 := H2.out.o.c0
            have o1 := H2.out.o.c1
            have oz := H2.out.o.cz
            have d0 := HDD.c0
            have d1 := HDD.c1
            have dz := HDD.cz
            have e1 := blk_ne HN.bt H2.out.x.bt (by decide)
            have e2 := blk_ne HN.bt H2.out.o.bt (by decide)
            have e3 := blk_ne H2.out.o.bt H2.out.x.bt (by decide)
            have e4 := blk_ne HDD.bt H2.out.x.bt (by decide)
            have e1' := e1.symm
            have e2' := e2.symm
            have e3' := e3.symm
            have e4' := e4.symm
            clear HN HDD
            go_wp2_with fail
            go_meet
            exact ⟨_, _, _, _, _, _, ((H2.out.setNext HA2.out).setO1 _ _).setCode _, fin8 ..⟩
        by_cases k9 : kd = 9
        · subst k9
          as_aux_lemma =>
            go_wp2_with fail
            refine (refResumed _ hst.m ae afu _ HMA.out HFI.out.1).mono ?_
            rintro v w2 ⟨v2, rfl, hA2, hb2⟩
            obtain ⟨fa2, fc2, ea2, ec2, qa2, qc2, rfl⟩ := hA2.parts
            have HA2 := hid (hA2.mono (Nat.zero_le _))
            clear hA2
            have H2 := hid (H.out.later hb2)
            clear hb2 m0 m1 m2 c0 c1 a0 a1 a2 a3 a4 a5 a6 HMA HCA H
            obtain ⟨_, _, _, _, _, _, HN⟩ := H2.out.n
            obtain ⟨_, _, _, _, HDD⟩ := H2.out.d
            have n0 := HN.c0
            have n1 := HN.c1
            have n2 := HN.c2
            have nz := HN.cz
            have x0 := H2.out.x.c0
            have x1 := H2.out.x.c1
            have xz := H2.out.x.cz
            have o0 := H2.out.o.c0
            have o1 := H2.out.o.c1
            have oz := H2.out.o.cz
            have d0 := HDD.c0
            have d1 := HDD.c1
            have dz := HDD.cz
            have e1 := blk_ne HN.bt H2.out.x.bt (by decide)
            have e2 := blk_ne HN.bt H2.out.o.bt (by decide)
            have e3 := blk_ne H2.out.o.bt H2.out.x.bt (by decide)
            have e4 := blk_ne HDD.bt H2.out.x.bt (by decide)
            have e1' := e1.symm
            have e2' := e2.symm
            have e3' := e3.symm
            have e4' := e4.symm
            clear HN HDD
            go_wp2_with fail
            go_meet
            exact ⟨_, _, _, _, _, _, ((H2.out.setNext HA2.out).setO1 _ _).setCode _, fin9 ..⟩
        by_cases k10 : kd = 10
        · subst k10
          as_aux_lemma =>
            go_wp2_with fail
            refine (refAsked _ hst.c _ HCA.out.at HFI.out.2).mono ?_
            rintro v w2 ⟨v2, rfl, hA2, hb2⟩
            have HA2 := hid (hA2.mono (Nat.zero_le _))
            obtain ⟨ta2, tc2, na2, nc2, rfl, _⟩ := hA2.at
            clear hA2
            have H2 := hid (H.out.later hb2)
            clear hb2 m0 m1 m2 c0 c1 a0 a1 a2 a3 a4 a5 a6 HMA HCA H
            obtain ⟨_, _, _, _, _, _, HN⟩ := H2.out.n
            obtain ⟨_, _, _, _, HDD⟩ := H2.out.d
            have n0 := HN.c0
            have n1 := HN.c1
            have n2 := HN.c2
            have nz := HN.cz
            have x0 := H2.out.x.c0
            have x1 := H2.out.x.c1
            have xz := H2.out.x.cz
            have o0 := H2.out.o.c0
            have o1 := H2.out.o.c1
            have oz := H2.out.o.cz
            have d0 := HDD.c0
            have d1 := HDD.c1
            have dz := HDD.cz
            have e1 := blk_ne HN.bt H2.out.x.bt (by decide)
            have e2 := blk_ne HN.bt H2.out.o.bt (by decide)
            have e3 := blk_ne H2.out.o.bt H2.out.x.bt (by decide)
            have e4 := blk_ne HDD.bt H2.out.x.bt (by decide)
            have e1' := e1.symm
            have e2' := e2.symm
            have e3' := e3.symm
            have e4' := e4.symm
            clear HN HDD
            go_wp2_with fail
            go_meet
            exact ⟨_, _, _, _, _, _, ((H2.out.setD HA2.out).setN _).setCode _, fin10 ..⟩
        by_cases k11 : kd = 11
        · subst k11
          as_aux_lemma =>
            have hql : hst.m.quotes.length ≤ 9223372036854775807 := by have := HFI.out.1.q; omega
            have hwl : IntKind.i64.wrap ((hst.m.quotes.length : Int) - 1) = (hst.m.quotes.length : Int) - 1 := by rw [IntKind.wrap_i64]; omega
            by_cases hp : ap < 0 ∨ (hst.m.quotes.length : Int) ≤ ap
            · have hin : inR ap 0 ((hst.m.quotes.length : Int) - 1) = false := by simp [inR]; omega
              have HFN := hid (fin11no hst ae af ap ar an afu hp)
              clear hp
              have x0 := H.out.x.c0
              have x1 := H.out.x.c1
              have xz := H.out.x.cz
              go_wp2_with (go_at_call 25; refine (in_any _ _ _ _).mono ?_; rintro e w' ⟨rfl, rfl⟩)
              go_meet
              exact ⟨_, _, _, _, _, _, H.out.setCode _, HFN.out⟩
            · obtain ⟨i, rfl⟩ : ∃ i : Nat, ap = i := ⟨ap.toNat, by omega⟩
              have h0i : (0 : Int) ≤ (i : Int) := by omega
              have hii : (i : Int) < (hst.m.quotes.length : Int) := by omega
              have hil : i < hst.m.quotes.length := by omega
              have hin : inR i 0 ((hst.m.quotes.length : Int) - 1) = true := by simp [inR]; omega
              obtain ⟨q, hq⟩ : ∃ q, hst.m.quotes[i]? = some q := ⟨_, List.getElem?_eq_getElem hil⟩
              have HQ := hid hq
              clear hp hq
              have hqs : QuotesAt W qa hst.m.quotes := by
                obtain ⟨_, _, _, _, _, _, e, _, _, h3, _⟩ := HMA.out
                simp only [Value.agg.injEq, Array.mk.injEq, List.cons.injEq, Value.slice.injEq] at e
                obtain ⟨_, _, ⟨rfl, _, _⟩, _⟩ := e
                exact h3
              obtain ⟨qb, qo, rfl, q0, q1⟩ := hqs i q HQ.out
              have HQS := hid hqs
              clear hqs
              clear a0 a1 a2 a4 a5 a6
              go_upto_region 41 with (go_at_call 25; refine (in_any _ _ _ _).mono ?_; rintro e w' ⟨rfl, rfl⟩)
              obtain ⟨C2, hC2⟩ : ∃ C2, (lookD hst.c hst.m.quotes q).1 = C2 := ⟨_, rfl⟩
              obtain ⟨k2, hk2⟩ : ∃ k2, (lookD hst.c hst.m.quotes q).2 = k2 := ⟨_, rfl⟩
              have HC2 := hid hC2
              have HK2 := hid hk2
              clear hC2 hk2
              refine wp_region_specs [186, 187, 188, 189, 190, 191, 192, 193, 194, 195, 185, 196, 197] [12] 13 (lkG (.agg #[.slice ta hst.c.trusts.length tc, .slice na hst.c.nonces.length nc]) (.pointer (some ⟨mb, 2, none⟩)) (.slice (some ⟨qb, qo, none⟩) hst.m.quotes.length qc) (.pointer (some ⟨ab, 3, none⟩)) i (.pointer (some ⟨qb, qo + i * 2, none⟩)) q C2 k2)
                (by kernel_rfl) (by kernel_rfl) (fun t ht => by simp only [List.mem_cons, List.not_mem_nil, or_false] at ht; show t < 228; omega) (fun _ _ _ _ _ h => h) lkG_later ?_ ?_ ?_
              · intro j hj o ho a w2 hs hb hd
                simp only [List.mem_cons, List.not_mem_nil, or_false] at hj
                subst hj
                obtain rfl := Option.some.inj ho
                obtain ⟨v, hv, ta2, tc2, na2, nc2, rfl, hC⟩ := hd 10 (by kernel_rfl)
                have h185 : a.tmps[185]? = _ := hv
                exact ⟨_, .inl ⟨rfl, fun w => by go_simp⟩, rfl⟩
              · intro j hj hjL o ho a w2 hs hb hd
                have hbW := (below_drew W).trans hb
                have m2' := cell_later hbW m2
                rcases j with _ | _ | _ | _ | _ | _ | _ | _ | _ | _ | _ | _ | _ | j
                all_goals try obtain rfl := Option.some.inj ho
                · have h8 : a.tmps[8]? = some (.pointer (some ⟨cb, 0, none⟩)) := (hs.rest 8 (by decide)).trans rfl
                  have c0' := cell_later hbW c0
                  have c1' := cell_later hbW c1
                  go_simp
                  exact ⟨_, rfl, rfl, Below.refl _ _⟩
                · have h10 : a.tmps[10]? = some (.pointer (some ⟨mb, 0, none⟩)) := (hs.rest 10 (by decide)).trans rfl
                  go_simp
                  exact ⟨_, rfl, rfl, Below.refl _ _⟩
                · obtain ⟨v, hv, rfl⟩ := hd 1 (by kernel_rfl)
                  have h187 : a.tmps[187]? = _ := hv
                  go_simp
                  exact ⟨_, rfl, rfl, Below.refl _ _⟩
                · have h10 : a.tmps[10]? = some (.pointer (some ⟨mb, 0, none⟩)) := (hs.rest 10 (by decide)).trans rfl
                  go_simp
                  exact ⟨_, rfl, rfl, Below.refl _ _⟩
                · obtain ⟨v, hv, rfl⟩ := hd 3 (by kernel_rfl)
                  have h189 : a.tmps[189]? = _ := hv
                  go_simp
                  exact ⟨_, rfl, rfl, Below.refl _ _⟩
                · have h13 : a.tmps[13]? = some (.pointer (some ⟨ab, 0, none⟩)) := (hs.rest 13 (by decide)).trans rfl
                  go_simp
                  exact ⟨_, rfl, rfl, Below.refl _ _⟩
                · obtain ⟨v, hv, rfl⟩ := hd 5 (by kernel_rfl)
                  have h191 : a.tmps[191]? = _ := hv
                  have a3' := cell_later hbW a3
                  go_simp
                  exact ⟨_, rfl, rfl, Below.refl _ _⟩
                · obtain ⟨v, hv, rfl⟩ := hd 4 (by kernel_rfl)
                  obtain ⟨u, hu, rfl⟩ := hd 6 (by kernel_rfl)
                  have h190 : a.tmps[190]? = _ := hv
                  have h192 : a.tmps[192]? = _ := hu
                  go_simp
                  exact ⟨_, rfl, rfl, Below.refl _ _⟩
                · obtain ⟨v, hv, rfl⟩ := hd 7 (by kernel_rfl)
                  have h193 : a.tmps[193]? = _ := hv
                  have q0' := cell_later hbW q0
                  have q1' := cell_later hbW q1
                  go_simp
                  exact ⟨_, rfl, rfl, Below.refl _ _⟩
                · obtain ⟨v, hv, rfl⟩ := hd 0 (by kernel_rfl)
                  obtain ⟨u, hu, rfl⟩ := hd 2 (by kernel_rfl)
                  obtain ⟨t, ht, rfl⟩ := hd 8 (by kernel_rfl)
                  have h186 : a.tmps[186]? = _ := hv
                  have h188 : a.tmps[188]? = _ := hu
                  have h194 : a.tmps[194]? = _ := ht
                  go_simp
                  refine (refLooked _ hst.c _ hst.m.quotes _ q.log q.data _ (HCA.out.below hbW).at HFI.out.2 (HQS.out.mono hbW) hql).mono ?_
                  rintro x w7 ⟨v2, rfl, hA2, hb7⟩
                  rw [HC2.out] at hA2
                  rw [HK2.out]
                  obtain ⟨ta2, tc2, na2, nc2, rfl, _⟩ := hA2.at
                  exact ⟨_, rfl, ⟨ta2, tc2, na2, nc2, rfl, hA2.mono (Nat.zero_le _)⟩, hb7⟩
                · obtain ⟨v, hv, ht⟩ := hd 9 (by kernel_rfl)
                  have h195 : a.tmps[195]? = _ := hv
                  go_simp
                  exact ⟨_, rfl, ht, Below.refl _ _⟩
                · obtain ⟨v, hv, ta2, tc2, na2, nc2, rfl, hC⟩ := hd 10 (by kernel_rfl)
                  have h185 : a.tmps[185]? = _ := hv
                  go_simp
                  exact ⟨_, rfl, ⟨ta2, tc2, na2, nc2, rfl, hC⟩, Below.refl _ _⟩
                · exact absurd (by decide) hjL
                · omega
              · intro a w2 hs hb hd
                obtain ⟨v0, t0, _⟩ := hd 0 (by omega)
                obtain ⟨v1, t1, _⟩ := hd 1 (by omega)
                obtain ⟨v2, t2, _⟩ := hd 2 (by omega)
                obtain ⟨v3, t3, _⟩ := hd 3 (by omega)
                obtain ⟨v4, t4, _⟩ := hd 4 (by omega)
                obtain ⟨v5, t5, _⟩ := hd 5 (by omega)
                obtain ⟨v6, t6, _⟩ := hd 6 (by omega)
                obtain ⟨v7, t7, _⟩ := hd 7 (by omega)
                obtain ⟨v8, t8, _⟩ := hd 8 (by omega)
                obtain ⟨v9, t9, _⟩ := hd 9 (by omega)
                obtain ⟨v10, t10, _⟩ := hd 10 (by omega)
                obtain ⟨v11, t11, ta2, tc2, na2, nc2, rfl, hC⟩ := hd 11 (by omega)
                obtain ⟨v12, t12, rfl⟩ := hd 12 (by omega)
                have ea := hs.is [(186, _), (187, _), (188, _), (189, _), (190, _), (191, _), (192, _), (193, _), (194, _), (195, _), (185, _), (196, _), (197, _)] rfl (by decide) (fun t ht => by simp only [List.mem_cons, List.not_mem_nil, or_false] at ht; show t < 228; omega) (fun p hp => by
                  simp only [List.mem_cons, List.not_mem_nil, or_false] at hp
                  rcases hp with rfl | rfl | rfl | rfl | rfl | rfl | rfl | rfl | rfl | rfl | rfl | rfl | rfl
                  · exact t0
                  · exact t1
                  · exact t2
                  · exact t3
                  · exact t4
                  · exact t5
                  · exact t6
                  · exact t7
                  · exact t8
                  · exact t9
                  · exact t10
                  · exact t11
                  · exact t12)
                subst ea
                have hb2 := (below_drew W).trans hb
                have HCC := hid hC
                have a0 := a3
                have a1 := a3
                have a2 := a3
                have a4 := a3
                have a5 := a3
                have a6 := a3
                clear t0 t1 t2 t3 t4 t5 t6 t7 t8 t9 t10 t11 t12 hd hs hb hC q0 q1
                have H2 := hid (H.out.later hb2)
                clear hb2 m0 m1 m2 c0 c1 a0 a1 a2 a3 a4 a5 a6 HMA HCA H
                obtain ⟨_, _, _, _, _, _, HN⟩ := H2.out.n
                obtain ⟨_, _, _, _, HDD⟩ := H2.out.d
                have n0 := HN.c0
                have n1 := HN.c1
                have n2 := HN.c2
                have nz := HN.cz
                have x0 := H2.out.x.c0
                have x1 := H2.out.x.c1
                have xz := H2.out.x.cz
                have o0 := H2.out.o.c0
                have o1 := H2.out.o.c1
                have oz := H2.out.o.cz
                have d0 := HDD.c0
                have d1 := HDD.c1
                have dz := HDD.cz
                have e1 := blk_ne HN.bt H2.out.x.bt (by decide)
                have e2 := blk_ne HN.bt H2.out.o.bt (by decide)
                have e3 := blk_ne H2.out.o.bt H2.out.x.bt (by decide)
                have e4 := blk_ne HDD.bt H2.out.x.bt (by decide)
                have e1' := e1.symm
                have e2' := e2.symm
                have e3' := e3.symm
                have e4' := e4.symm
                clear HN HDD
                simp only [List.drop_succ_cons, List.drop_zero, putAll, Act.put, List.setIfInBounds_toArray, List.set_cons_succ, List.set_cons_zero]
                go_wp2_with fail
                go_meet
                rw [← HC2.out, ← HK2.out]
                exact ⟨_, _, _, _, _, _, (H2.out.setD (by rw [HC2.out]; exact HCC.out)).setCode _, fin11 _ _ _ _ _ _ HQ.out⟩
        as_aux_lemma =>
          have f1 : (kd == 1) = false := by rw [beq_eq_false_iff_ne]; exact k1
          have f2 : (kd == 2) = false := by rw [beq_eq_false_iff_ne]; exact k2
          have f3 : (kd == 3) = false := by rw [beq_eq_false_iff_ne]; exact k3
          have f4 : (kd == 4) = false := by rw [beq_eq_false_iff_ne]; exact k4
          have f5 : (kd == 5) = false := by rw [beq_eq_false_iff_ne]; exact k5
          have f6 : (kd == 6) = false := by rw [beq_eq_false_iff_ne]; exact k6
          have f7 : (kd == 7) = false := by rw [beq_eq_false_iff_ne]; exact k7
          have f8 : (kd == 8) = false := by rw [beq_eq_false_iff_ne]; exact k8
          have f9 : (kd == 9) = false := by rw [beq_eq_false_iff_ne]; exact k9
          have f10 : (kd == 10) = false := by rw [beq_eq_false_iff_ne]; exact k10
          have f11 : (kd == 11) = false := by rw [beq_eq_false_iff_ne]; exact k11
          have HFN := hid (fin0 hst ae af ap ar an afu k1 k2 k3 k4 k5 k6 k7 k8 k9 k10 k11)
          have x0 := H.out.x.c0
          have x1 := H.out.x.c1
          have xz := H.out.x.cz
          clear k1 k2 k3 k4 k5 k6 k7 k8 k9 k10 k11
          go_wp2_with fail
          go_meet
          exact ⟨_, _, _, _, _, _, H.out.setCode _, HFN.out⟩
      case rest =>
      obtain ⟨code, k, M2, oe, oo, C2, HX, hfin⟩ := hcut
      have HE := hid hfin
      clear H HMA HCA HMF m0 m1 m2 c0 c1 a0 a1 a2 a3 a4 a5 a6 hfin W
      have H := HX
      clear HX
      obtain ⟨fa, fc, ea, ec, qa, qc, HM⟩ := H.s.m
      obtain ⟨ta, tc, na, nc, HC⟩ := H.s.c
      obtain ⟨fa2, fc2, ea2, ec2, qa2, qc2, HN⟩ := H.n
      obtain ⟨ta2, tc2, na2, nc2, HDD⟩ := H.d
      have m0 := HM.c0
      have m1 := HM.c1
      have m2 := HM.c2
      have mz := HM.cz
      have c0 := HC.c0
      have c1 := HC.c1
      have cz := HC.cz
      have n0 := HN.c0
      have n1 := HN.c1
      have n2 := HN.c2
      have d0 := HDD.c0
      have d1 := HDD.c1
      have x0 := H.x.c0
      have x1 := H.x.c1
      have xz := H.x.cz
      have o0 := H.o.c0
      have o1 := H.o.c1
      replace HN := hid HN.m
      replace HDD := hid HDD.c
      clear HM HC
      replace H := hid H
      go_upto_if 202 with fail
      go_cut [] from 202 to 218 (fun W => ∃ M3 C3 c' n', RdSt w mb cb ab xb nb ob db ⟨M3, C3⟩ X (.slice oa X.length oc) ⟨kd, ae, af, ap, ar, an, afu⟩ c' n' M2 oe oo C2 W ∧ ((⟨M3, C3⟩, ⟨c', n'⟩) : HostD × AnsD) = actD hst ⟨kd, ae, af, ap, ar, an, afu⟩)
      case first =>
        as_aux_lemma =>
          by_cases h0 : code = 0
          · subst h0
            go_upto_region 45 with fail
            refine act_gen (RdSt w mb cb ab xb nb ob db ⟨M2, hst.c⟩ X (.slice oa X.length oc) ⟨kd, ae, af, ap, ar, an, afu⟩ 0 k M2 oe oo C2) (H.out.moveM HN.out) ?_
            clear m0 m1 m2 mz c0 c1 cz n0 n1 n2 d0 d1 x0 x1 xz o0 o1 HN HDD H
            intro W H
            obtain ⟨fa, fc, ea, ec, qa, qc, HM⟩ := H.s.m
            obtain ⟨ta, tc, na, nc, HC⟩ := H.s.c
            obtain ⟨fa2, fc2, ea2, ec2, qa2, qc2, HN⟩ := H.n
            obtain ⟨ta2, tc2, na2, nc2, HDD⟩ := H.d
            have m0 := HM.c0
            have m1 := HM.c1
            have m2 := HM.c2
            have mz := HM.cz
            have c0 := HC.c0
            have c1 := HC.c1
            have cz := HC.cz
            have n0 := HN.c0
            have n1 := HN.c1
            have n2 := HN.c2
            have d0 := HDD.c0
            have d1 := HDD.c1
            have x0 := H.x.c0
            have x1 := H.x.c1
            have xz := H.x.cz
            have o0 := H.o.c0
            have o1 := H.o.c1
            replace HN := hid HN.m
            replace HDD := hid HDD.c
            clear HM HC
            replace H := hid H
            go_upto_region 46 with fail
            refine act_gen (RdSt w mb cb ab xb nb ob db ⟨M2, C2⟩ X (.slice oa X.length oc) ⟨kd, ae, af, ap, ar, an, afu⟩ 0 k M2 oe oo C2) (H.out.moveC HDD.out) ?_
            clear m0 m1 m2 mz c0 c1 cz n0 n1 n2 d0 d1 x0 x1 xz o0 o1 HN HDD H
            intro W H
            obtain ⟨fa, fc, ea, ec, qa, qc, HM⟩ := H.s.m
            obtain ⟨ta, tc, na, nc, HC⟩ := H.s.c
            obtain ⟨fa2, fc2, ea2, ec2, qa2, qc2, HN⟩ := H.n
            obtain ⟨ta2, tc2, na2, nc2, HDD⟩ := H.d
            have m0 := HM.c0
            have m1 := HM.c1
            have m2 := HM.c2
            have mz := HM.cz
            have c0 := HC.c0
            have c1 := HC.c1
            have cz := HC.cz
            have n0 := HN.c0
            have n1 := HN.c1
            have n2 := HN.c2
            have d0 := HDD.c0
            have d1 := HDD.c1
            have x0 := H.x.c0
            have x1 := H.x.c1
            have xz := H.x.cz
            have o0 := H.o.c0
            have o1 := H.o.c1
            replace HN := hid HN.m
            replace HDD := hid HDD.c
            clear HM HC
            replace H := hid H
            by_cases g1 : oe = 1
            · subst g1
              go_wp2_with fail
              go_meet
              exact ⟨M2, C2, 0, oo, H.out.setN oo, HE.out⟩
            by_cases g2 : oe = 2
            · subst g2
              go_wp2_with fail
              go_meet
              exact ⟨M2, C2, 9, k, H.out.setCode 9, HE.out⟩
            by_cases g3 : oe = 3
            · subst g3
              go_wp2_with fail
              go_meet
              exact ⟨M2, C2, 10, k, H.out.setCode 10, HE.out⟩
            have f1 : (oe == 1) = false := by rw [beq_eq_false_iff_ne]; exact g1
            have f2 : (oe == 2) = false := by rw [beq_eq_false_iff_ne]; exact g2
            have f3 : (oe == 3) = false := by rw [beq_eq_false_iff_ne]; exact g3
            have HF := hid (HE.out.symm.trans (by rw [finD, if_pos rfl, if_neg g1, if_neg g2, if_neg g3] : _ = ((⟨M2, C2⟩, ⟨0, k⟩) : HostD × AnsD)))
            clear g1 g2 g3
            go_wp2_with fail
            go_meet
            exact ⟨M2, C2, 0, k, H.out, HF.out.symm⟩
          · have f0 : (code == 0) = false := by rw [beq_eq_false_iff_ne]; exact h0
            have HF := hid (HE.out.symm.trans (by rw [finD, if_neg h0] : _ = ((hst, ⟨code, 0⟩) : HostD × AnsD)))
            clear h0
            go_wp2_with fail
            go_meet
            exact ⟨hst.m, hst.c, code, 0, H.out.setN 0, HF.out.symm⟩
      case rest =>
      obtain ⟨M3, C3, c', n', HX, hact⟩ := hcut
      have HAC := hid hact
      clear m0 m1 m2 mz c0 c1 cz n0 n1 n2 d0 d1 x0 x1 xz o0 o1 HN HDD H
      clear hact
      refine act_gen (RdSt w mb cb ab xb nb ob db ⟨M3, C3⟩ X (.slice oa X.length oc) ⟨kd, ae, af, ap, ar, an, afu⟩ c' n' M2 oe oo C2) HX ?_
      clear HX
      intro W H
      have x0 := H.x.c0
      have x1 := H.x.c1
      have hsz := H.s.r.lt
      have HO2 : Hid (∀ Y, ScSt w mb cb ⟨M3, C3⟩ X (.slice oa X.length oc) (W.alloc Y)) := fun Y => H.s.later (below_alloc _ Y)
      clear H
      go_wp2_with (at_builtin; refine wpList_append_lies _ rfl _ _ 24 rfl (w.heap.size + 2) 39 i0 _ 2 16 Tryz.underlying24 hi0 hz0 hz1 hz2 rfl (by decide) _ X.length (X.flatMap AnsD.cs) rfl (HO2.out _).own ⟨W.heap.size, 0, none⟩ 1 1 [.int .i64 c', .int .i64 n'] rfl rfl (news_new (by simp) #[_, _] _) (by simp [Value.oneCell']) (by decide) ?c2 ?c3 ?c4 (W.heap.size + 1) ?c5 ?_)
      case c2 => unfold maxLen; have := HXL.out; omega
      case c3 => have := HXL.out; omega
      case c4 => first | omega | (simp; omega)
      first | (case c5 => simp) | skip
      intro g cap' W' hrow hgrow _ _
      have HR := hid hrow
      have HG := hid hgrow
      clear hrow hgrow
      go_wp2_with fail
      go_roundw
      case rel =>
        refine ⟨i + 1, by omega, by go_num, ?_⟩
        rw [HSN.out]
        show Hid (ScSt w mb cb (actD hst ⟨kd, ae, af, ap, ar, an, afu⟩).1 (X ++ [(actD hst ⟨kd, ae, af, ap, ar, an, afu⟩).2]) _ _)
        rw [← HAC.out]
        exact (HO2.out _).push HR.out rfl HG.out
      case measure => simp [intOf]; omega
    · obtain rfl : i = n := by omega
      rw [show L.take i = L by rw [← HL.out, List.take_length]] at HI
      have HFI := hid (actsD_fits (h := ⟨newD, ⟨T, []⟩⟩) L HFit.out)
      generalize actsD ⟨newD, ⟨T, []⟩⟩ L = R at HI HD HFI
      obtain ⟨hst, X⟩ := R
      replace HFI : Hid (hst.m.Fits ∧ hst.c.Fits) := HFI
      obtain ⟨fa, fc, ea, ec, qa, qc, HM⟩ := HI.out.m
      obtain ⟨ta, tc, na, nc, HC⟩ := HI.out.c
      obtain ⟨oa, oc, rfl⟩ := own_slice HI.out.own
      have m0 := HM.c0
      have m1 := HM.c1
      have m2 := HM.c2
      have c0 := HC.c0
      have c1 := HC.c1
      replace HM := hid HM
      replace HC := hid HC
      go_upto_region 55 with fail
      refine wp_region_specs [223, 224, 225, 226, 227] [] 5 (cpG (w.heap.size + 2) (.slice oa X.length oc) (.agg #[.slice fa hst.m.frames.length fc, .slice ea hst.m.encl.length ec, .slice qa hst.m.quotes.length qc]) (.agg #[.slice ta hst.c.trusts.length tc, .slice na hst.c.nonces.length nc]) hst.m hst.c)
        (by kernel_rfl) (by kernel_rfl) (fun t ht => by simp only [List.mem_cons, List.not_mem_nil, or_false] at ht; show t < 228; omega) (fun _ _ _ _ _ h => h) cpG_later ?_ ?_ ?_
      · intro j hj
        exact absurd hj List.not_mem_nil
      · intro j hj hjL o ho a w2 hs hb hd
        have hbW := (below_drew wr).trans hb
        have hlt2 := (HI.out.r.later hbW).lt
        rcases j with _ | _ | _ | _ | _ | j
        all_goals try obtain rfl := Option.some.inj ho
        · have h11 : a.tmps[11]? = some (.slice oa X.length oc) := (hs.rest 11 (by decide)).trans rfl
          go_simp
          exact ⟨_, rfl, rfl, Below.refl _ _⟩
        · have h10 : a.tmps[10]? = some (.pointer (some ⟨mb, 0, none⟩)) := (hs.rest 10 (by decide)).trans rfl
          have m0' := cell_later hbW m0
          have m1' := cell_later hbW m1
          have m2' := cell_later hbW m2
          go_simp
          exact ⟨_, rfl, rfl, Below.refl _ _⟩
        · obtain ⟨v, hv, rfl⟩ := hd 1 (by kernel_rfl)
          have h224 : a.tmps[224]? = _ := hv
          go_simp
          refine (refMachCopy _ hst.m _ HFI.out.1 (HM.out.m.below hbW).at).mono ?_
          rintro x w7 ⟨fv2, ev2, qv2, F2, rfl, hF2, hO2, hb7⟩
          have hM2 : MachFrom (w.heap.size + 2) w7 (.agg #[fv2, ev2, qv2]) hst.m := ⟨_, _, _, F2, rfl, hF2, hO2.mono (by omega)⟩
          obtain ⟨fa2, fc2, ea2, ec2, qa2, qc2, e1⟩ := hM2.parts
          simp only [Value.agg.injEq, Array.mk.injEq, List.cons.injEq, and_true] at e1
          obtain ⟨rfl, rfl, rfl⟩ := e1
          exact ⟨_, rfl, ⟨_, _, _, _, _, _, rfl, hM2⟩, hb7⟩
        · have h8 : a.tmps[8]? = some (.pointer (some ⟨cb, 0, none⟩)) := (hs.rest 8 (by decide)).trans rfl
          have c0' := cell_later hbW c0
          have c1' := cell_later hbW c1
          go_simp
          exact ⟨_, rfl, rfl, Below.refl _ _⟩
        · obtain ⟨v, hv, rfl⟩ := hd 3 (by kernel_rfl)
          have h226 : a.tmps[226]? = _ := hv
          go_simp
          refine (refChalCopy _ hst.c _ (HC.out.c.below hbW).at HFI.out.2).mono ?_
          rintro x w7 ⟨v3, rfl, ⟨tv3, nv3, rfl, ht3, hn3, _⟩, hb7⟩
          obtain ⟨ta3, tc3, rfl⟩ := own_slice ht3
          obtain ⟨na3, nc3, rfl⟩ := own_slice hn3
          exact ⟨_, rfl, ⟨_, _, _, _, rfl, _, _, rfl, ownsRow_mono ht3 (by omega), ownsRow_mono hn3 (by omega)⟩, hb7⟩
        · omega
      · intro a w2 hs hb hd
        obtain ⟨v0, t0, rfl⟩ := hd 0 (by omega)
        obtain ⟨v1, t1, _⟩ := hd 1 (by omega)
        obtain ⟨v2, t2, fa2, fc2, ea2, ec2, qa2, qc2, rfl, hM⟩ := hd 2 (by omega)
        obtain ⟨v3, t3, _⟩ := hd 3 (by omega)
        obtain ⟨v4, t4, ta3, tc3, na3, nc3, rfl, hC⟩ := hd 4 (by omega)
        have ea := hs.is [(223, _), (224, _), (225, _), (226, _), (227, _)] rfl (by decide) (fun t ht => by simp only [List.mem_cons, List.not_mem_nil, or_false] at ht; show t < 228; omega) (fun p hp => by
          simp only [List.mem_cons, List.not_mem_nil, or_false] at hp
          rcases hp with rfl | rfl | rfl | rfl | rfl
          · exact t0
          · exact t1
          · exact t2
          · exact t3
          · exact t4)
        subst ea
        have HH := hid (HI.out.later ((below_drew wr).trans hb))
        have r0 := HH.out.r.r0
        have r1 := HH.out.r.r1
        have r2 := HH.out.r.r2
        have rz := HH.out.r.rz
        have q0 := HH.out.r.q0
        have q1 := HH.out.r.q1
        have qz := HH.out.r.qz
        have HMM := hid hM
        have HCC := hid hC
        clear t0 t1 t2 t3 t4 hd hs hb hM hC m0 m1 m2 c0 c1 HI
        simp only [List.drop_succ_cons, List.drop_zero, putAll, Act.put, List.setIfInBounds_toArray, List.set_cons_succ, List.set_cons_zero]
        go_wp2_with fail
        have hX := below_low2 (below_low3 HH.out.below (b := w.heap.size) (by omega) (.slice fa2 hst.m.frames.length fc2) (.slice ea2 hst.m.encl.length ec2) (.slice qa2 hst.m.quotes.length qc2)) (b := w.heap.size + 1) (by omega) (.slice ta3 hst.c.trusts.length tc3) (.slice na3 hst.c.nonces.length nc3)
        have hO5 := ownsRow_low2 (ownsRow_setCell_below (ownsRow_setCell_below (ownsRow_setCell_below HH.out.own (a := ⟨w.heap.size, 0, none⟩) (by simp only; omega) (.slice fa2 hst.m.frames.length fc2)) (a := ⟨w.heap.size, 1, none⟩) (by simp only; omega) (.slice ea2 hst.m.encl.length ec2)) (a := ⟨w.heap.size, 2, none⟩) (by simp only; omega) (.slice qa2 hst.m.quotes.length qc2)) (b := w.heap.size + 1) (by omega) (.slice ta3 hst.c.trusts.length tc3) (.slice na3 hst.c.nonces.length nc3)
        have hM := HMM.out
        have hC := HCC.out
        refine bodyPost_ret (v := .tuple #[.slice oa X.length oc, .agg #[.slice fa2 hst.m.frames.length fc2, .slice ea2 hst.m.encl.length ec2, .slice qa2 hst.m.quotes.length qc2], .agg #[.slice ta3 hst.c.trusts.length tc3, .slice na3 hst.c.nonces.length nc3], .int .i64 0]) (by simp only [results, Tryz.results5]; go_simp) rfl ?_
        rw [HD.out]
        refine ⟨_, _, _, rfl, ownsRow_mono hO5 (by omega), ?_, ?_, hX⟩
        · exact (((((hM.low (a := ⟨w.heap.size, 0, none⟩) (by simp only; omega) _).low (a := ⟨w.heap.size, 1, none⟩) (by simp only; omega) _).low (a := ⟨w.heap.size, 2, none⟩) (by simp only; omega) _).low (a := ⟨w.heap.size + 1, 0, none⟩) (by simp only; omega) _).low (a := ⟨w.heap.size + 1, 1, none⟩) (by simp only; omega) _).mono (by omega)
        · exact (((((hC.low (a := ⟨w.heap.size, 0, none⟩) (by simp only; omega) _).low (a := ⟨w.heap.size, 1, none⟩) (by simp only; omega) _).low (a := ⟨w.heap.size, 2, none⟩) (by simp only; omega) _).low (a := ⟨w.heap.size + 1, 0, none⟩) (by simp only; omega) _).low (a := ⟨w.heap.size + 1, 1, none⟩) (by simp only; omega) _).mono (by omega)

end Go.Proofs.YtklbbjionoeofaaGreatDoor
