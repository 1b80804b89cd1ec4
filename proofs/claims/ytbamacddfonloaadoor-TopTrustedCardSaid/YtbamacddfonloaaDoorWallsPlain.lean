/- Two images that are built one behind the other, and what a run of the first leaves of the machine. Plain laws; no program is walked. -/
import Derived.Test.YtbamacddfonloaaDoorGu
namespace Go.Proofs.YtbamacddfonloaaDoor
open Go.RowKit

theorem findI_of_map {α β : Type} (p : β → Bool) (g : α → β) (l : List α) : findI p (l.map g) = findI (fun x => p (g x)) l := by
  unfold findI
  rw [List.findIdx?_map]
  rfl
def spotF (x : FrameD) : Int × Int := (x.owner, x.pl)
theorem StepF.spots {e : Int} {F F' : List FrameD} (h : StepF e F F') : F'.map spotF = F.map spotF := by
  apply List.ext_getElem?
  intro i
  rw [List.getElem?_map, List.getElem?_map]
  cases hx : F'[i]? with
  | none =>
    have : F[i]? = none := by
      rw [List.getElem?_eq_none_iff] at hx ⊢
      rw [← h.len]; exact hx
    rw [this]
  | some x' =>
    obtain ⟨x, hx1, h1, h2, _⟩ := h.at' i x' hx
    rw [hx1]
    simp [spotF, h1, h2]
theorem StepF.place {e : Int} {F F' : List FrameD} (h : StepF e F F') (k q : Int) : placeF F' k q = placeF F k q := by
  have e1 : ∀ L : List FrameD, placeF L k q = findI (fun t : Int × Int => decide (t.1 = k) && decide (0 < t.1) && decide (t.2 = q)) (L.map spotF) := fun L => by
    rw [findI_of_map]; rfl
  rw [e1, e1, h.spots]
theorem StepF.owned {e : Int} {F F' : List FrameD} (h : StepF e F F') (k : Int) : ownedBy k F' = ownedBy k F := by
  have e1 : ∀ L : List FrameD, ownedBy k L = (L.map spotF).countP (fun t : Int × Int => t.1 == k) := fun L => by
    rw [List.countP_map]; rfl
  rw [e1, e1, h.spots]
theorem StepF.get {e : Int} {F F' : List FrameD} (h : StepF e F F') {i : Nat} {x : FrameD} (hx : F[i]? = some x) :
    ∃ x', F'[i]? = some x' ∧ x'.owner = x.owner ∧ x'.pl = x.pl ∧ x'.rights = x.rights ∧ (x'.words = x.words ∨ x.owner = 0 ∨ (x.owner = e ∧ hasR x.rights 2 = true)) := by
  have hi : i < F'.length := by rw [h.len]; exact (List.getElem?_eq_some_iff.1 hx).1
  obtain ⟨y, hy, h1⟩ := h.at' i _ (List.getElem?_eq_getElem hi)
  obtain rfl : y = x := Option.some.inj (hy.symm.trans hx)
  exact ⟨_, List.getElem?_eq_getElem hi, h1⟩
/-- What another enclave has stays as it is. -/
theorem StepF.has {e k : Int} {M N : MachD} {L : List PageD} (h : StepF e M.frames N.frames) (hh : HasD M k L) (hk : 0 < k) (hne : k ≠ e) : HasD N k L := by
  refine ⟨by rw [h.owned]; exact hh.many, fun i p hp => ?_⟩
  obtain ⟨j, x, h1, h2, h3, h4⟩ := hh.page i p hp
  obtain ⟨x', g1, g2, g3, g4, g5⟩ := h.get h2
  obtain ⟨z, hz, hz1, _⟩ := placeF_get h1
  obtain rfl : z = x := Option.some.inj (hz.symm.trans h2)
  refine ⟨j, x', by rw [h.place]; exact h1, g1, by rw [g4, h3], ?_⟩
  rcases g5 with g5 | g5 | g5
  · rw [g5, h4]
  · omega
  · omega

/-- Two images, one behind the other. -/
def bothM (A B : List PageD) : MachD := builtM (startedM A 0) B 1 10
def bothL (A B : List PageD) : List ActD := planD A 1 0 ++ planD B 2 10
section
variable {A B : List PageD}
theorem startedM_first (A : List PageD) (fr : Nat) : firstEmpty (startedM A fr) = ((1 : Nat) : Int) := by
  refine findI_some (x := emptyEncl) rfl (by decide) (fun j y hj hy => ?_)
  obtain rfl : j = 0 := by omega
  rw [started_encl] at hy
  obtain rfl := Option.some.inj hy
  rfl
theorem both_free (hA : A.length ≤ 8) (j : Nat) (hj : j < 14) : ∃ x, (startedM A 0).frames[10 + j]? = some x ∧ x.owner = 0 := by
  obtain ⟨x, hx, h0⟩ := newD_free (j := 10 + j) (by omega)
  refine ⟨x, ?_, h0⟩
  show (setAt newD.frames 0 _)[10 + j]? = _
  rw [setAt_get _ _ _ _ (by rw [List.length_map]; have : newD.frames.length = 24 := newD_good.fl; omega), if_neg (by rw [List.length_map]; omega)]
  exact hx
theorem both_runs (hA : imageF A = 0) (hB : imageF B = 0) : Runs ⟨newD, ⟨[], []⟩⟩ (bothL A B) ⟨bothM A B, ⟨[], []⟩⟩ := by
  have a8 := imageF_len hA
  have b8 := imageF_len hB
  have R1 := plan_runs (C := ⟨[], []⟩) newD_good hA newD_first (fr := 0) (by omega) (fun j hj => newD_free (by omega))
  have R2 := plan_runs (C := ⟨[], []⟩) (startedM_good hA (fr := 0) (by omega)) hB (startedM_first A 0) (fr := 10) (by omega) (fun j hj => both_free a8 j (by omega))
  exact R1.append R2
theorem both_len (hA : imageF A = 0) (hB : imageF B = 0) : (bothL A B).length ≤ 200 := by
  have a8 := imageF_len hA
  have b8 := imageF_len hB
  have h1 := pokesT_le (l := A) (fun x hx => PageOk.len (imgF_all hA x hx)) 0 A.length
  have h2 := putsT_le A 1 0 A.length
  have h3 := pokesT_le (l := B) (fun x hx => PageOk.len (imgF_all hB x hx)) 10 B.length
  have h4 := putsT_le B 2 10 B.length
  simp only [bothL, planD, List.length_append, List.length_cons, List.length_nil] at h1 h2 h3 h4 ⊢
  omega
theorem both_script (hA : imageF A = 0) (hB : imageF B = 0) : scriptD [] (bothL A B) = ⟨(actsD (⟨newD, ⟨[], []⟩⟩) (bothL A B)).2, bothM A B, ⟨[], []⟩, 0⟩ := by
  have hs : scriptF [] (bothL A B) = 0 := by
    rw [scriptF, if_neg (by decide), if_neg (by have := both_len hA hB; omega)]
  rw [scriptD, hs, if_neg (by simp), (both_runs hA hB).1]
theorem both_good (hA : imageF A = 0) (hB : imageF B = 0) : Good (bothM A B) := by
  have := actsD_ok (bothL A B) (h := ⟨newD, ⟨[], []⟩⟩) ⟨newD_good, show chalF ⟨[], []⟩ = 0 by decide⟩
  rw [(both_runs hA hB).1] at this
  exact this.1
theorem both_sized (hA : imageF A = 0) (hB : imageF B = 0) : Sized (bothM A B) := ⟨(both_good hA hB).fl, (both_good hA hB).el, rfl⟩
theorem both_none (hA : A.length ≤ 8) : ownedBy 2 (startedM A 0).frames = 0 := by
  have : ownedBy 2 (startedM A 0).frames = ownedBy 2 newD.frames + ownedBy 2 (A.map (ownP 1)) :=
    ownedBy_setAt (by omega) _ _ _ (by rw [List.length_map]; exact fun j hj => newD_free (by omega))
  rw [this, newD_none 2 (by omega), ownedBy, List.countP_eq_zero.2]
  intro x hx
  obtain ⟨p, _, rfl⟩ := List.mem_map.1 hx
  simp [ownP]
theorem both_has (hA : imageF A = 0) (hB : imageF B = 0) : HasD (bothM A B) 2 B := by
  have a8 := imageF_len hA
  have b8 := imageF_len hB
  have h24 := (startedM_good hA (fr := 0) (by omega)).fl
  exact built_has (k := 1) (both_good hA hB) (by omega) (fun j hj => both_free a8 j (by omega)) (both_none a8)
theorem both_encl (A B : List PageD) : (bothM A B).encl[0]? = some (readyE A) ∧ (bothM A B).encl[1]? = some (readyE B) := ⟨rfl, rfl⟩
theorem ready_ask {M : MachD} (h : Good M) {y : EnclD} (hy : M.encl[0]? = some y) (hs : y.state = 2) : askF M 1 2 = 0 := by
  unfold askF
  rw [if_neg (by simpa using h.mf), show (1 : Int) = ((0 : Nat) : Int) + 1 by omega, enclOf_at (by omega) hy]
  simp only
  rw [if_neg (by omega), if_neg (by omega)]
theorem both_ask (hA : imageF A = 0) (hB : imageF B = 0) : askF (bothM A B) 1 2 = 0 := ready_ask (both_good hA hB) (both_encl A B).1 rfl
/-- The machine behind a run of the first. -/
def ranM (A B : List PageD) (word fuel : Int) : MachD := (enterD (bothM A B) 1 word fuel).1
structure WallD (M N : MachD) : Prop where
  good : Good N
  step : StepF 1 M.frames N.frames
  e1 : N.encl[1]? = M.encl[1]?
  log : ∃ y z, M.encl[0]? = some y ∧ N.encl[0]? = some z ∧ z.log = y.log
theorem enter_wall (hA : imageF A = 0) (hB : imageF B = 0) {word fuel : Int} (hw : 0 ≤ word ∧ word < 65536) (hf : 0 ≤ fuel ∧ fuel < 200) : (enterD (bothM A B) 1 word fuel).2.2 = 0 ∧ WallD (bothM A B) (ranM A B word fuel) := by
  have hG := both_good hA hB
  have hm : mayF (bothM A B) 1 2 fuel = 0 := by rw [mayF, if_neg (by simpa using both_ask hA hB), if_neg (by omega)]
  have he : enterD (bothM A B) 1 word fuel = ranD (bothM A B) 0 (readyE A) 0 [word, 0, 0, 0] fuel.toNat := by
    rw [enterD, if_neg (by simpa using hm), if_neg (by omega), show ((1 : Int) - 1).toNat = 0 by omega, (both_encl A B).1]
  have h0 : (enterD (bothM A B) 1 word fuel).2.2 = 0 := by rw [he]; rfl
  refine ⟨h0, enterD_good hG h0, ?_, ?_, ?_⟩
  all_goals
    rw [ranM, he]
  · have hc : CoreOk (core0 (bothM A B) 0 [word, 0, 0, 0]) := core0_ok hG.mf (by omega) rfl (fun k m hk => by
      rcases k with _ | _ | _ | _ | k
      all_goals
        simp at hk
        try subst hk
        try omega)
    exact (runM_does (e := ((0 : Nat) : Int) + 1) (g := (readyE A).log) fuel.toNat hc).1
  · simp only [ranD]
    rw [List.getElem?_set_ne (by omega)]
  · refine ⟨_, (runM (((0 : Nat) : Int) + 1) (readyE A).log fuel.toNat (core0 (bothM A B) 0 [word, 0, 0, 0])).2.1, (both_encl A B).1, ?_, ?_⟩
    · simp only [ranD]
      rw [List.getElem?_set_self (by rw [hG.el]; omega)]
    · rcases runM_encl (e := ((0 : Nat) : Int) + 1) (g := (readyE A).log) fuel.toNat (core0 (bothM A B) 0 [word, 0, 0, 0]) with ⟨h, _⟩ | ⟨h, _⟩ | ⟨h, _⟩ <;> rw [h]
end

end Go.Proofs.YtbamacddfonloaaDoor
