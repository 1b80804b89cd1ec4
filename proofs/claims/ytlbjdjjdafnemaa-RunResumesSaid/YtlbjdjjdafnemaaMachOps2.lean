/- More plain laws on a machine in memory of its own: a whole enclave written; what a machine that may be is. No program is walked. -/
import Derived.Test.YtlbjdjjdafnemaaMachOps
import Derived.Test.YtlbjdjjdafnemaaCheck
namespace Go.Proofs.Ytlbjdjjdafnemaa
open Go.RowKit

section
variable {base : Nat} {W : World} {fv ev qv : Value} {F : List (FrameD × Value)} {E : List EnclD} {Q : List QuoteD}
/-- A whole enclave is written. -/
theorem OwnMach.setEncl {g m c i : Nat} {x : EnclD} (h : OwnMach base W fv (.slice (some ⟨g, 0, none⟩) m c) qv F E Q) (hm : E.length = m) (hx : E[i]? = some x) (y : EnclD) :
    OwnMach base (((((((W.setCell ⟨g, i * 7, none⟩ (.int .i64 y.state)).setCell ⟨g, i * 7 + 1, none⟩ (.string y.log)).setCell ⟨g, i * 7 + 2, none⟩ (.int .i64 y.pc)).setCell ⟨g, i * 7 + 3, none⟩ (.int .i64 y.r0)).setCell ⟨g, i * 7 + 4, none⟩ (.int .i64 y.r1)).setCell ⟨g, i * 7 + 5, none⟩ (.int .i64 y.r2)).setCell ⟨g, i * 7 + 6, none⟩ (.int .i64 y.r3))
      fv (.slice (some ⟨g, 0, none⟩) m c) qv F (E.set i y) Q := by
  subst hm
  have hi : i < E.length := (List.getElem?_eq_some_iff.1 hx).1
  have step : ∀ {W : World} {E' : List EnclD} {x' : EnclD} (j : Nat) (u : Value) (x'' : EnclD), OwnMach base W fv (.slice (some ⟨g, 0, none⟩) E.length c) qv F (E.set i x') Q → j < 7 → x''.cs = x'.cs.set j u → OwnMach base (W.setCell ⟨g, i * 7 + j, none⟩ u) fv (.slice (some ⟨g, 0, none⟩) E.length c) qv F (E.set i x'') Q := fun {W E' x'} j u x'' h hj hu => by
    have := h.setE (i := i) (j := j) (x := x') (x' := x'') (u := u) (by simp) (by rw [List.getElem?_set_self hi]) hj hu
    rwa [List.set_set] at this
  have h0 : OwnMach base W fv (.slice (some ⟨g, 0, none⟩) E.length c) qv F (E.set i x) Q := by
    have e : E.set i x = E := by
      apply List.ext_getElem?
      intro k
      by_cases hk : i = k
      · subst hk; rw [List.getElem?_set_self hi, hx]
      · rw [List.getElem?_set_ne hk]
    rw [e]; exact h
  have h1 := step (E' := E) 0 (.int .i64 y.state) ⟨y.state, x.log, x.pc, x.r0, x.r1, x.r2, x.r3⟩ h0 (by decide) rfl
  have h2 := step (E' := E) 1 (.string y.log) ⟨y.state, y.log, x.pc, x.r0, x.r1, x.r2, x.r3⟩ h1 (by decide) rfl
  have h3 := step (E' := E) 2 (.int .i64 y.pc) ⟨y.state, y.log, y.pc, x.r0, x.r1, x.r2, x.r3⟩ h2 (by decide) rfl
  have h4 := step (E' := E) 3 (.int .i64 y.r0) ⟨y.state, y.log, y.pc, y.r0, x.r1, x.r2, x.r3⟩ h3 (by decide) rfl
  have h5 := step (E' := E) 4 (.int .i64 y.r1) ⟨y.state, y.log, y.pc, y.r0, y.r1, x.r2, x.r3⟩ h4 (by decide) rfl
  have h6 := step (E' := E) 5 (.int .i64 y.r2) ⟨y.state, y.log, y.pc, y.r0, y.r1, y.r2, x.r3⟩ h5 (by decide) rfl
  exact step (E' := E) 6 (.int .i64 y.r3) y h6 (by decide) rfl
theorem below_encl {n : Nat} {w : World} (h : Below n w W) {b : Nat} (hb : n ≤ b) (o0 o1 o2 o3 o4 o5 o6 : Nat) (u0 u1 u2 u3 u4 u5 u6 : Value) :
    Below n w (((((((W.setCell ⟨b, o0, none⟩ u0).setCell ⟨b, o1, none⟩ u1).setCell ⟨b, o2, none⟩ u2).setCell ⟨b, o3, none⟩ u3).setCell ⟨b, o4, none⟩ u4).setCell ⟨b, o5, none⟩ u5).setCell ⟨b, o6, none⟩ u6) :=
  below_at (below_at (below_at (below_at (below_at (below_at (below_at h hb o0 u0) hb o1 u1) hb o2 u2) hb o3 u3) hb o4 u4) hb o5 u5) hb o6 u6
end

theorem frAll_frB {E : List EnclD} {l : List FrameD} : ∀ {pre : List FrameD}, frAll E pre l = true → ∀ (i : Nat) (x : FrameD), l[i]? = some x → ∃ pre', frB E pre' x = true := by
  induction l with
  | nil => intro pre _ i x hx; simp at hx
  | cons y l ih =>
    intro pre h i x hx
    simp only [frAll, Bool.and_eq_true] at h
    cases i with
    | zero => simp only [List.getElem?_cons_zero, Option.some.injEq] at hx; subst hx; exact ⟨pre, h.1⟩
    | succ i => simp only [List.getElem?_cons_succ] at hx; exact ih h.2 i x hx
/-- What is known of each frame of a machine that may be. -/
structure FrameOk (M : MachD) (x : FrameD) : Prop where
  w : wordsB x.words = true
  len : x.words.length = 8
  lo : 0 ≤ x.owner
  hi : x.owner ≤ 4
  free : x.owner = 0 → x.pl = 0 ∧ x.rights = 0
  pl : 0 ≤ x.pl ∧ x.pl ≤ 7
  rights : 0 ≤ x.rights ∧ x.rights ≤ 7
  own : x.owner ≠ 0 → stateAt M.encl (x.owner - 1) ≠ 0
theorem machF_machB {M : MachD} (h : machF M = 0) : machB M = true := by
  unfold machF at h
  cases hs : sizeB M with
  | false => rw [hs] at h; simp at h
  | true =>
    rw [hs] at h
    cases hm : machB M with
    | false => rw [hm] at h; simp at h
    | true => rfl
theorem machF_frame {M : MachD} (h : machF M = 0) {i : Nat} {x : FrameD} (hx : M.frames[i]? = some x) : FrameOk M x := by
  have hm := machF_machB h
  simp only [machB, Bool.and_eq_true] at hm
  obtain ⟨pre, hb⟩ := frAll_frB hm.2.1 i x hx
  simp only [frB, Bool.and_eq_true] at hb
  obtain ⟨⟨hw, ho⟩, hr⟩ := hb
  have hl : x.words.length = 8 := by
    simp only [wordsB, Bool.and_eq_true, decide_eq_true_eq] at hw
    exact hw.1
  have ho' : 0 ≤ x.owner ∧ x.owner ≤ 4 := by simpa [inR] using ho
  by_cases h0 : x.owner = 0
  · rw [if_pos h0] at hr
    simp only [Bool.and_eq_true, beq_iff_eq] at hr
    exact ⟨hw, hl, ho'.1, ho'.2, fun _ => hr, by omega, by omega, fun h => absurd h0 h⟩
  · rw [if_neg h0] at hr
    simp only [Bool.and_eq_true, beq_iff_eq] at hr
    have hp : inR x.pl 0 7 = true ∧ inR x.rights 0 7 = true := by
      have h2 := hr.2.1
      unfold pageF at h2
      by_cases h3 : inR x.pl 0 7 && inR x.rights 0 7
      · simpa using h3
      · simp [h3] at h2
    have h5 : (0 ≤ x.pl ∧ x.pl ≤ 7) ∧ (0 ≤ x.rights ∧ x.rights ≤ 7) := by simpa [inR] using hp
    exact ⟨hw, hl, ho'.1, ho'.2, fun h => absurd h h0, h5.1, h5.2, fun _ => by simpa using hr.1⟩
theorem machF_encl {M : MachD} (h : machF M = 0) {i : Nat} {x : EnclD} (hx : M.encl[i]? = some x) : enclB x = true := by
  have hm := machF_machB h
  simp only [machB, Bool.and_eq_true] at hm
  exact List.all_eq_true.1 hm.1 x (List.mem_of_getElem? hx)

end Go.Proofs.Ytlbjdjjdafnemaa
