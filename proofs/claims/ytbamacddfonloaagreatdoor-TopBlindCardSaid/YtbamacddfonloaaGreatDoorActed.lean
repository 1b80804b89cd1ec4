/- riddletop.acted, walked, kind by kind. Conditions: those that the contract writes. -/
import Derived.Test.YtbamacddfonloaaGreatDoorHostSt
import Derived.Test.YtbamacddfonloaaGreatDoorGx
import Derived.Test.YtbamacddfonloaaGreatDoorPut
import Derived.Test.YtbamacddfonloaaGreatDoorGj
import Derived.Test.YtbamacddfonloaaGreatDoorGl
import Derived.Test.YtbamacddfonloaaGreatDoorGk
import Derived.Test.YtbamacddfonloaaGreatDoorPeek
import Derived.Test.YtbamacddfonloaaGreatDoorBlindPlain
namespace Go.Proofs.YtbamacddfonloaaGreatDoor
open Go.RowKit

/-- The call's boxes: m, the act, the result. -/
structure AdSt (w : World) (v0 v1 v2 : Value) (M : MachD) (W : World) : Prop where
  below : Below w.heap.size w W
  tl : w.heap.size + 3 ≤ W.heap.size
  m0 : W.cell? ⟨w.heap.size, 0, none⟩ = some v0
  m1 : W.cell? ⟨w.heap.size, 1, none⟩ = some v1
  m2 : W.cell? ⟨w.heap.size, 2, none⟩ = some v2
  mz : ∀ o, W.frozen? ⟨w.heap.size, o, none⟩ = false
  r0 : W.cell? ⟨w.heap.size + 2, 0, none⟩ = some (.slice none 0 0)
  r1 : W.cell? ⟨w.heap.size + 2, 1, none⟩ = some (.slice none 0 0)
  r2 : W.cell? ⟨w.heap.size + 2, 2, none⟩ = some (.slice none 0 0)
  rz : ∀ o, W.frozen? ⟨w.heap.size + 2, o, none⟩ = false
  mok : MachHeld w (w.heap.size + 3) W (.agg #[v0, v1, v2]) M
structure AdArg (w : World) (a : ActD) (W : World) : Prop where
  a0 : W.cell? ⟨w.heap.size + 1, 0, none⟩ = some (.int .i64 a.kind)
  a1 : W.cell? ⟨w.heap.size + 1, 1, none⟩ = some (.int .i64 a.e)
  a2 : W.cell? ⟨w.heap.size + 1, 2, none⟩ = some (.int .i64 a.f)
  a3 : W.cell? ⟨w.heap.size + 1, 3, none⟩ = some (.int .i64 a.pl)
  a4 : W.cell? ⟨w.heap.size + 1, 4, none⟩ = some (.int .i64 a.rights)
  a5 : W.cell? ⟨w.heap.size + 1, 5, none⟩ = some (.int .i64 a.n)
section
variable {w W W' : World} {v0 v1 v2 : Value} {M : MachD}
theorem AdSt.later (h : AdSt w v0 v1 v2 M W) (hb : Below W.heap.size W W') : AdSt w v0 v1 v2 M W' := by
  have hz := h.tl
  exact ⟨h.below.trans (hb.mono h.below.size), Nat.le_trans hz hb.size, cell_later hb h.m0, cell_later hb h.m1, cell_later hb h.m2, fun o => by rw [(bcell hb).2 _ _ (by omega)]; exact h.mz o, cell_later hb h.r0, cell_later hb h.r1, cell_later hb h.r2,
    fun o => by rw [(bcell hb).2 _ _ (by omega)]; exact h.rz o, h.mok.later h.below.size hb⟩
theorem AdSt.setM (h : AdSt w v0 v1 v2 M W) {x0 x1 x2 : Value} {M' : MachD} (hM : MachHeld w (w.heap.size + 3) W (.agg #[x0, x1, x2]) M') :
    AdSt w x0 x1 x2 M' (((W.setCell ⟨w.heap.size, 0, none⟩ x0).setCell ⟨w.heap.size, 1, none⟩ x1).setCell ⟨w.heap.size, 2, none⟩ x2) := by
  have hbl := h.below
  have ht := h.tl
  have m0 := h.m0
  have m1 := h.m1
  have m2 := h.m2
  have mz := h.mz
  have r0 := h.r0
  have r1 := h.r1
  have r2 := h.r2
  have rz := h.rz
  exact ⟨below_low3 hbl (Nat.le_refl _) _ _ _, by simpa [World.setCell] using ht, by go_simp, by go_simp, by go_simp, fun o => by go_simp, by go_simp, by go_simp, by go_simp, fun o => by go_simp,
    ((hM.set (a := ⟨w.heap.size, 0, none⟩) (Nat.le_refl _) (by simp only; omega) _).set (a := ⟨w.heap.size, 1, none⟩) (Nat.le_refl _) (by simp only; omega) _).set (a := ⟨w.heap.size, 2, none⟩) (Nat.le_refl _) (by simp only; omega) _⟩
theorem AdSt.done (h : AdSt w v0 v1 v2 M W) : MachFrom 0 (((W.setCell ⟨w.heap.size + 2, 0, none⟩ v0).setCell ⟨w.heap.size + 2, 1, none⟩ v1).setCell ⟨w.heap.size + 2, 2, none⟩ v2) (.agg #[v0, v1, v2]) M ∧
    Below w.heap.size w (((W.setCell ⟨w.heap.size + 2, 0, none⟩ v0).setCell ⟨w.heap.size + 2, 1, none⟩ v1).setCell ⟨w.heap.size + 2, 2, none⟩ v2) :=
  ⟨(((h.mok.set (a := ⟨w.heap.size + 2, 0, none⟩) (by simp only; omega) (by simp only; omega) _).set (a := ⟨w.heap.size + 2, 1, none⟩) (by simp only; omega) (by simp only; omega) _).set (a := ⟨w.heap.size + 2, 2, none⟩) (by simp only; omega) (by simp only; omega) _).from0,
    below_low3 h.below (by omega) _ _ _⟩
end
def ActedRes (M : MachD) (a : ActD) (w : World) (x : Ending) (w' : World) : Prop :=
  ∃ v, x = .returned (.tuple #[v, .int .i64 (actedD M a).2.1, .int .i64 (actedD M a).2.2]) ∧ MachFrom 0 w' v (actedD M a).1 ∧ Below w.heap.size w w'
theorem ActedRes.mk {M : MachD} {a : ActD} {w w' : World} {v : Value} {D : MachD} {n er : Int} (h : actedD M a = (D, n, er)) (hv : MachFrom 0 w' v D ∧ Below w.heap.size w w') : ActedRes M a w (.returned (.tuple #[v, .int .i64 n, .int .i64 er])) w' := by
  unfold ActedRes
  rw [h]
  exact ⟨v, rfl, hv⟩
set_option maxRecDepth 10000 in
set_option maxHeartbeats 1600000 in
theorem acted_create (v : Value) (M : MachD) (a : ActD) (w : World) (HM : MachFrom 0 w v M) (hf : M.Fits) (hT : Tab w) (hk : a.kind = 1) : Calls Tryz.prog 11 #[v, a.v] w (ActedRes M a w) := by
  obtain ⟨kind, ae, af, ap, ar, an, afu⟩ := a
  obtain rfl : kind = 1 := hk
  have HTab := hid hT
  have HD : Hid (actedD M ⟨1, ae, af, ap, ar, an, afu⟩ = ((createD M).1, (createD M).2.1, (createD M).2.2)) := by show _ = _; simp [actedD]
  dsimp only [ActD.v]
  have hM0 := HM
  obtain ⟨fa, fc, ea, ec, qa, qc, rfl⟩ := hM0.parts
  clear hM0
  have HMM := hid HM
  clear HM
  go_enter Tryz.func11, Tryz.ntmps11
  go_upto_region 3 with fail
  refine act_gen (fun W => AdSt w (.slice fa M.frames.length fc) (.slice ea M.encl.length ec) (.slice qa M.quotes.length qc) M W ∧ AdArg w (⟨1, ae, af, ap, ar, an, afu⟩ : ActD) W)
    ⟨⟨by go_grown, by go_size, by go_simp, by go_simp, by go_simp, fun o => by go_simp, by go_simp, by go_simp, by go_simp, fun o => by go_simp, .inr ⟨HMM.out, by go_grown⟩⟩, ⟨by go_simp, by go_simp, by go_simp, by go_simp, by go_simp, by go_simp⟩⟩ ?_
  rintro W ⟨H, HG⟩
  have a0 := HG.a0
  have a1 := HG.a1
  have a2 := HG.a2
  have a3 := HG.a3
  have a4 := HG.a4
  have a5 := HG.a5
  have m0 := H.m0
  have m1 := H.m1
  have m2 := H.m2
  have mz := H.mz
  have r0 := H.r0
  have r1 := H.r1
  have r2 := H.r2
  have rz := H.rz
  replace H := hid H
  go_wp2_with fail
  refine (epcCreate _ M _ H.out.mok.at hf).mono ?_
  rintro x w2 ⟨v2, rfl, hA2, hb2⟩
  obtain ⟨fa2, fc2, ea2, ec2, qa2, qc2, rfl⟩ := hA2.parts
  clear m0 m1 m2 mz r0 r1 r2 rz
  clear a0 a1 a2 a3 a4 a5 HG
  have HA2 := hid (hA2.mono H.out.tl)
  replace H := H.out.later hb2
  clear hA2 hb2
  have m0 := H.m0
  have m1 := H.m1
  have m2 := H.m2
  have mz := H.mz
  have r0 := H.r0
  have r1 := H.r1
  have r2 := H.r2
  have rz := H.rz
  replace H := hid H
  go_upto_region 15 with fail
  refine act_gen (AdSt w (.slice fa2 ((createD M).1).frames.length fc2) (.slice ea2 ((createD M).1).encl.length ec2) (.slice qa2 ((createD M).1).quotes.length qc2) ((createD M).1)) (H.out.setM (.inl HA2.out)) ?_
  clear m0 m1 m2 mz r0 r1 r2 rz
  clear H HA2
  generalize (createD M).1 = M2 at HD ⊢
  generalize (createD M).2.1 = n2 at HD ⊢
  generalize (createD M).2.2 = c2 at HD ⊢
  intro W H
  have m0 := H.m0
  have m1 := H.m1
  have m2 := H.m2
  have mz := H.mz
  have r0 := H.r0
  have r1 := H.r1
  have r2 := H.r2
  have rz := H.rz
  replace H := hid H
  go_wp2_with fail
  exact bodyPost_ret (by simp only [results, Tryz.results11]; go_simp) rfl (ActedRes.mk HD.out H.out.done)

set_option maxRecDepth 10000 in
set_option maxHeartbeats 1600000 in
theorem acted_put (v : Value) (M : MachD) (a : ActD) (w : World) (HM : MachFrom 0 w v M) (hf : M.Fits) (hT : Tab w) (hk : a.kind = 2) : Calls Tryz.prog 11 #[v, a.v] w (ActedRes M a w) := by
  obtain ⟨kind, ae, af, ap, ar, an, afu⟩ := a
  obtain rfl : kind = 2 := hk
  have HTab := hid hT
  have HD : Hid (actedD M ⟨2, ae, af, ap, ar, an, afu⟩ = ((putD M ae af ap ar).1, 0, (putD M ae af ap ar).2)) := by show _ = _; simp [actedD]
  dsimp only [ActD.v]
  have hM0 := HM
  obtain ⟨fa, fc, ea, ec, qa, qc, rfl⟩ := hM0.parts
  clear hM0
  have HMM := hid HM
  clear HM
  go_enter Tryz.func11, Tryz.ntmps11
  go_upto_region 3 with fail
  refine act_gen (fun W => AdSt w (.slice fa M.frames.length fc) (.slice ea M.encl.length ec) (.slice qa M.quotes.length qc) M W ∧ AdArg w (⟨2, ae, af, ap, ar, an, afu⟩ : ActD) W)
    ⟨⟨by go_grown, by go_size, by go_simp, by go_simp, by go_simp, fun o => by go_simp, by go_simp, by go_simp, by go_simp, fun o => by go_simp, .inr ⟨HMM.out, by go_grown⟩⟩, ⟨by go_simp, by go_simp, by go_simp, by go_simp, by go_simp, by go_simp⟩⟩ ?_
  rintro W ⟨H, HG⟩
  have a0 := HG.a0
  have a1 := HG.a1
  have a2 := HG.a2
  have a3 := HG.a3
  have a4 := HG.a4
  have a5 := HG.a5
  have m0 := H.m0
  have m1 := H.m1
  have m2 := H.m2
  have mz := H.mz
  have r0 := H.r0
  have r1 := H.r1
  have r2 := H.r2
  have rz := H.rz
  replace H := hid H
  go_wp2_with fail
  refine (epcPut _ M ae af ap ar _ H.out.mok.at hf (HTab.out.mono H.out.below)).mono ?_
  rintro x w2 ⟨v2, rfl, hA2, hb2⟩
  obtain ⟨fa2, fc2, ea2, ec2, qa2, qc2, rfl⟩ := hA2.parts
  clear m0 m1 m2 mz r0 r1 r2 rz
  clear a0 a1 a2 a3 a4 a5 HG
  have HA2 := hid (hA2.mono H.out.tl)
  replace H := H.out.later hb2
  clear hA2 hb2
  have m0 := H.m0
  have m1 := H.m1
  have m2 := H.m2
  have mz := H.mz
  have r0 := H.r0
  have r1 := H.r1
  have r2 := H.r2
  have rz := H.rz
  replace H := hid H
  go_upto_region 15 with fail
  refine act_gen (AdSt w (.slice fa2 ((putD M ae af ap ar).1).frames.length fc2) (.slice ea2 ((putD M ae af ap ar).1).encl.length ec2) (.slice qa2 ((putD M ae af ap ar).1).quotes.length qc2) ((putD M ae af ap ar).1)) (H.out.setM (.inl HA2.out)) ?_
  clear m0 m1 m2 mz r0 r1 r2 rz
  clear H HA2
  generalize (putD M ae af ap ar).1 = M2 at HD ⊢
  generalize (0 : Int) = n2 at HD ⊢
  generalize (putD M ae af ap ar).2 = c2 at HD ⊢
  intro W H
  have m0 := H.m0
  have m1 := H.m1
  have m2 := H.m2
  have mz := H.mz
  have r0 := H.r0
  have r1 := H.r1
  have r2 := H.r2
  have rz := H.rz
  replace H := hid H
  go_wp2_with fail
  exact bodyPost_ret (by simp only [results, Tryz.results11]; go_simp) rfl (ActedRes.mk HD.out H.out.done)

set_option maxRecDepth 10000 in
set_option maxHeartbeats 1600000 in
theorem acted_start (v : Value) (M : MachD) (a : ActD) (w : World) (HM : MachFrom 0 w v M) (hf : M.Fits) (hT : Tab w) (hk : a.kind = 4) : Calls Tryz.prog 11 #[v, a.v] w (ActedRes M a w) := by
  obtain ⟨kind, ae, af, ap, ar, an, afu⟩ := a
  obtain rfl : kind = 4 := hk
  have HTab := hid hT
  have HD : Hid (actedD M ⟨4, ae, af, ap, ar, an, afu⟩ = ((startD M ae).1, 0, (startD M ae).2)) := by show _ = _; simp [actedD]
  dsimp only [ActD.v]
  have hM0 := HM
  obtain ⟨fa, fc, ea, ec, qa, qc, rfl⟩ := hM0.parts
  clear hM0
  have HMM := hid HM
  clear HM
  go_enter Tryz.func11, Tryz.ntmps11
  go_upto_region 3 with fail
  refine act_gen (fun W => AdSt w (.slice fa M.frames.length fc) (.slice ea M.encl.length ec) (.slice qa M.quotes.length qc) M W ∧ AdArg w (⟨4, ae, af, ap, ar, an, afu⟩ : ActD) W)
    ⟨⟨by go_grown, by go_size, by go_simp, by go_simp, by go_simp, fun o => by go_simp, by go_simp, by go_simp, by go_simp, fun o => by go_simp, .inr ⟨HMM.out, by go_grown⟩⟩, ⟨by go_simp, by go_simp, by go_simp, by go_simp, by go_simp, by go_simp⟩⟩ ?_
  rintro W ⟨H, HG⟩
  have a0 := HG.a0
  have a1 := HG.a1
  have a2 := HG.a2
  have a3 := HG.a3
  have a4 := HG.a4
  have a5 := HG.a5
  have m0 := H.m0
  have m1 := H.m1
  have m2 := H.m2
  have mz := H.mz
  have r0 := H.r0
  have r1 := H.r1
  have r2 := H.r2
  have rz := H.rz
  replace H := hid H
  go_wp2_with fail
  refine (epcStart _ M ae _ H.out.mok.at hf).mono ?_
  rintro x w2 ⟨v2, rfl, hA2, hb2⟩
  obtain ⟨fa2, fc2, ea2, ec2, qa2, qc2, rfl⟩ := hA2.parts
  clear m0 m1 m2 mz r0 r1 r2 rz
  clear a0 a1 a2 a3 a4 a5 HG
  have HA2 := hid (hA2.mono H.out.tl)
  replace H := H.out.later hb2
  clear hA2 hb2
  have m0 := H.m0
  have m1 := H.m1
  have m2 := H.m2
  have mz := H.mz
  have r0 := H.r0
  have r1 := H.r1
  have r2 := H.r2
  have rz := H.rz
  replace H := hid H
  go_upto_region 15 with fail
  refine act_gen (AdSt w (.slice fa2 ((startD M ae).1).frames.length fc2) (.slice ea2 ((startD M ae).1).encl.length ec2) (.slice qa2 ((startD M ae).1).quotes.length qc2) ((startD M ae).1)) (H.out.setM (.inl HA2.out)) ?_
  clear m0 m1 m2 mz r0 r1 r2 rz
  clear H HA2
  generalize (startD M ae).1 = M2 at HD ⊢
  generalize (0 : Int) = n2 at HD ⊢
  generalize (startD M ae).2 = c2 at HD ⊢
  intro W H
  have m0 := H.m0
  have m1 := H.m1
  have m2 := H.m2
  have mz := H.mz
  have r0 := H.r0
  have r1 := H.r1
  have r2 := H.r2
  have rz := H.rz
  replace H := hid H
  go_wp2_with fail
  exact bodyPost_ret (by simp only [results, Tryz.results11]; go_simp) rfl (ActedRes.mk HD.out H.out.done)

set_option maxRecDepth 10000 in
set_option maxHeartbeats 1600000 in
theorem acted_remove (v : Value) (M : MachD) (a : ActD) (w : World) (HM : MachFrom 0 w v M) (hf : M.Fits) (hT : Tab w) (hk : a.kind = 5) : Calls Tryz.prog 11 #[v, a.v] w (ActedRes M a w) := by
  obtain ⟨kind, ae, af, ap, ar, an, afu⟩ := a
  obtain rfl : kind = 5 := hk
  have HTab := hid hT
  have HD : Hid (actedD M ⟨5, ae, af, ap, ar, an, afu⟩ = ((removeD M ae).1, 0, (removeD M ae).2)) := by show _ = _; simp [actedD]
  dsimp only [ActD.v]
  have hM0 := HM
  obtain ⟨fa, fc, ea, ec, qa, qc, rfl⟩ := hM0.parts
  clear hM0
  have HMM := hid HM
  clear HM
  go_enter Tryz.func11, Tryz.ntmps11
  go_upto_region 3 with fail
  refine act_gen (fun W => AdSt w (.slice fa M.frames.length fc) (.slice ea M.encl.length ec) (.slice qa M.quotes.length qc) M W ∧ AdArg w (⟨5, ae, af, ap, ar, an, afu⟩ : ActD) W)
    ⟨⟨by go_grown, by go_size, by go_simp, by go_simp, by go_simp, fun o => by go_simp, by go_simp, by go_simp, by go_simp, fun o => by go_simp, .inr ⟨HMM.out, by go_grown⟩⟩, ⟨by go_simp, by go_simp, by go_simp, by go_simp, by go_simp, by go_simp⟩⟩ ?_
  rintro W ⟨H, HG⟩
  have a0 := HG.a0
  have a1 := HG.a1
  have a2 := HG.a2
  have a3 := HG.a3
  have a4 := HG.a4
  have a5 := HG.a5
  have m0 := H.m0
  have m1 := H.m1
  have m2 := H.m2
  have mz := H.mz
  have r0 := H.r0
  have r1 := H.r1
  have r2 := H.r2
  have rz := H.rz
  replace H := hid H
  go_wp2_with fail
  refine (epcRemove _ M ae _ H.out.mok.at hf).mono ?_
  rintro x w2 ⟨v2, rfl, hA2, hb2⟩
  obtain ⟨fa2, fc2, ea2, ec2, qa2, qc2, rfl⟩ := hA2.parts
  clear m0 m1 m2 mz r0 r1 r2 rz
  clear a0 a1 a2 a3 a4 a5 HG
  have HA2 := hid (hA2.mono H.out.tl)
  replace H := H.out.later hb2
  clear hA2 hb2
  have m0 := H.m0
  have m1 := H.m1
  have m2 := H.m2
  have mz := H.mz
  have r0 := H.r0
  have r1 := H.r1
  have r2 := H.r2
  have rz := H.rz
  replace H := hid H
  go_upto_region 15 with fail
  refine act_gen (AdSt w (.slice fa2 ((removeD M ae).1).frames.length fc2) (.slice ea2 ((removeD M ae).1).encl.length ec2) (.slice qa2 ((removeD M ae).1).quotes.length qc2) ((removeD M ae).1)) (H.out.setM (.inl HA2.out)) ?_
  clear m0 m1 m2 mz r0 r1 r2 rz
  clear H HA2
  generalize (removeD M ae).1 = M2 at HD ⊢
  generalize (0 : Int) = n2 at HD ⊢
  generalize (removeD M ae).2 = c2 at HD ⊢
  intro W H
  have m0 := H.m0
  have m1 := H.m1
  have m2 := H.m2
  have mz := H.mz
  have r0 := H.r0
  have r1 := H.r1
  have r2 := H.r2
  have rz := H.rz
  replace H := hid H
  go_wp2_with fail
  exact bodyPost_ret (by simp only [results, Tryz.results11]; go_simp) rfl (ActedRes.mk HD.out H.out.done)

set_option maxRecDepth 10000 in
set_option maxHeartbeats 1600000 in
theorem acted_poke (v : Value) (M : MachD) (a : ActD) (w : World) (HM : MachFrom 0 w v M) (hf : M.Fits) (hT : Tab w) (hk : a.kind = 7) : Calls Tryz.prog 11 #[v, a.v] w (ActedRes M a w) := by
  obtain ⟨kind, ae, af, ap, ar, an, afu⟩ := a
  obtain rfl : kind = 7 := hk
  have HTab := hid hT
  have HD : Hid (actedD M ⟨7, ae, af, ap, ar, an, afu⟩ = ((pokeD M af ap an).1, 0, (pokeD M af ap an).2)) := by show _ = _; simp [actedD]
  dsimp only [ActD.v]
  have hM0 := HM
  obtain ⟨fa, fc, ea, ec, qa, qc, rfl⟩ := hM0.parts
  clear hM0
  have HMM := hid HM
  clear HM
  go_enter Tryz.func11, Tryz.ntmps11
  go_upto_region 3 with fail
  refine act_gen (fun W => AdSt w (.slice fa M.frames.length fc) (.slice ea M.encl.length ec) (.slice qa M.quotes.length qc) M W ∧ AdArg w (⟨7, ae, af, ap, ar, an, afu⟩ : ActD) W)
    ⟨⟨by go_grown, by go_size, by go_simp, by go_simp, by go_simp, fun o => by go_simp, by go_simp, by go_simp, by go_simp, fun o => by go_simp, .inr ⟨HMM.out, by go_grown⟩⟩, ⟨by go_simp, by go_simp, by go_simp, by go_simp, by go_simp, by go_simp⟩⟩ ?_
  rintro W ⟨H, HG⟩
  have a0 := HG.a0
  have a1 := HG.a1
  have a2 := HG.a2
  have a3 := HG.a3
  have a4 := HG.a4
  have a5 := HG.a5
  have m0 := H.m0
  have m1 := H.m1
  have m2 := H.m2
  have mz := H.mz
  have r0 := H.r0
  have r1 := H.r1
  have r2 := H.r2
  have rz := H.rz
  replace H := hid H
  go_wp2_with fail
  refine (epcPoke _ M af ap an _ H.out.mok.at hf).mono ?_
  rintro x w2 ⟨v2, rfl, hA2, hb2⟩
  obtain ⟨fa2, fc2, ea2, ec2, qa2, qc2, rfl⟩ := hA2.parts
  clear m0 m1 m2 mz r0 r1 r2 rz
  clear a0 a1 a2 a3 a4 a5 HG
  have HA2 := hid (hA2.mono H.out.tl)
  replace H := H.out.later hb2
  clear hA2 hb2
  have m0 := H.m0
  have m1 := H.m1
  have m2 := H.m2
  have mz := H.mz
  have r0 := H.r0
  have r1 := H.r1
  have r2 := H.r2
  have rz := H.rz
  replace H := hid H
  go_upto_region 15 with fail
  refine act_gen (AdSt w (.slice fa2 ((pokeD M af ap an).1).frames.length fc2) (.slice ea2 ((pokeD M af ap an).1).encl.length ec2) (.slice qa2 ((pokeD M af ap an).1).quotes.length qc2) ((pokeD M af ap an).1)) (H.out.setM (.inl HA2.out)) ?_
  clear m0 m1 m2 mz r0 r1 r2 rz
  clear H HA2
  generalize (pokeD M af ap an).1 = M2 at HD ⊢
  generalize (0 : Int) = n2 at HD ⊢
  generalize (pokeD M af ap an).2 = c2 at HD ⊢
  intro W H
  have m0 := H.m0
  have m1 := H.m1
  have m2 := H.m2
  have mz := H.mz
  have r0 := H.r0
  have r1 := H.r1
  have r2 := H.r2
  have rz := H.rz
  replace H := hid H
  go_wp2_with fail
  exact bodyPost_ret (by simp only [results, Tryz.results11]; go_simp) rfl (ActedRes.mk HD.out H.out.done)

set_option maxRecDepth 10000 in
set_option maxHeartbeats 1600000 in
theorem acted_peek (v : Value) (M : MachD) (a : ActD) (w : World) (HM : MachFrom 0 w v M) (hf : M.Fits) (hT : Tab w) (hk : a.kind = 6) : Calls Tryz.prog 11 #[v, a.v] w (ActedRes M a w) := by
  obtain ⟨kind, ae, af, ap, ar, an, afu⟩ := a
  obtain rfl : kind = 6 := hk
  have HTab := hid hT
  have HD : Hid (actedD M ⟨6, ae, af, ap, ar, an, afu⟩ = (M, (peekD M af ap).1, (peekD M af ap).2)) := by show _ = _; simp [actedD]
  dsimp only [ActD.v]
  have hM0 := HM
  obtain ⟨fa, fc, ea, ec, qa, qc, rfl⟩ := hM0.parts
  clear hM0
  have HMM := hid HM
  clear HM
  go_enter Tryz.func11, Tryz.ntmps11
  go_upto_region 3 with fail
  refine act_gen (fun W => AdSt w (.slice fa M.frames.length fc) (.slice ea M.encl.length ec) (.slice qa M.quotes.length qc) M W ∧ AdArg w (⟨6, ae, af, ap, ar, an, afu⟩ : ActD) W)
    ⟨⟨by go_grown, by go_size, by go_simp, by go_simp, by go_simp, fun o => by go_simp, by go_simp, by go_simp, by go_simp, fun o => by go_simp, .inr ⟨HMM.out, by go_grown⟩⟩, ⟨by go_simp, by go_simp, by go_simp, by go_simp, by go_simp, by go_simp⟩⟩ ?_
  rintro W ⟨H, HG⟩
  have a0 := HG.a0
  have a1 := HG.a1
  have a2 := HG.a2
  have a3 := HG.a3
  have a4 := HG.a4
  have a5 := HG.a5
  have m0 := H.m0
  have m1 := H.m1
  have m2 := H.m2
  have mz := H.mz
  have r0 := H.r0
  have r1 := H.r1
  have r2 := H.r2
  have rz := H.rz
  replace H := hid H
  go_wp2_with fail
  refine (epcPeek _ M af ap _ H.out.mok.at hf).mono ?_
  rintro x w2 ⟨rfl, hb2⟩
  clear m0 m1 m2 mz r0 r1 r2 rz
  clear a0 a1 a2 a3 a4 a5 HG
  replace H := H.out.later hb2
  clear hb2
  have m0 := H.m0
  have m1 := H.m1
  have m2 := H.m2
  have mz := H.mz
  have r0 := H.r0
  have r1 := H.r1
  have r2 := H.r2
  have rz := H.rz
  replace H := hid H
  generalize (peekD M af ap).1 = n2 at HD ⊢
  generalize (peekD M af ap).2 = c2 at HD ⊢
  go_wp2_with fail
  exact bodyPost_ret (by simp only [results, Tryz.results11]; go_simp) rfl (ActedRes.mk HD.out H.out.done)

theorem topActed (v : Value) (M : MachD) (a : ActD) (w : World) (HM : MachFrom 0 w v M) (hf : M.Fits) (hT : Tab w) (hk : 1 ≤ a.kind ∧ a.kind ≤ 7 ∧ a.kind ≠ 3) : Calls Tryz.prog 11 #[v, a.v] w (ActedRes M a w) := by
  have h : a.kind = 1 ∨ a.kind = 2 ∨ a.kind = 4 ∨ a.kind = 5 ∨ a.kind = 6 ∨ a.kind = 7 := by omega
  rcases h with h | h | h | h | h | h
  · exact acted_create v M a w HM hf hT h
  · exact acted_put v M a w HM hf hT h
  · exact acted_start v M a w HM hf hT h
  · exact acted_remove v M a w HM hf hT h
  · exact acted_peek v M a w HM hf hT h
  · exact acted_poke v M a w HM hf hT h

end Go.Proofs.YtbamacddfonloaaGreatDoor
