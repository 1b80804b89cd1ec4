/- What stays so from step to step of a run. No program is walked. -/
import Derived.Test.YtlbjdjjdafnemaaRunPlain
namespace Go.Proofs.Ytlbjdjjdafnemaa
open Go.RowKit

theorem cellOf_get {F : List FrameD} {e n right : Int} {c : Nat × Nat} (h : cellOf F e n right = some c) (_h0 : 0 ≤ n) : c.2 < 8 ∧ ∃ x, F[c.1]? = some x := by
  unfold cellOf at h
  split at h
  · split at h
    · cases h
    · split at h
      · rename_i x hx
        split at h
        · cases h
          exact ⟨by simp only; omega, x, hx⟩
        · cases h
      · cases h
  · split at h
    · cases h
    · split at h
      · rename_i x hx
        split at h
        · cases h
          exact ⟨by simp only; omega, x, hx⟩
        · cases h
      · cases h
theorem wordAt_ok {c : CoreD} (hc : CoreOk c) {e n right : Int} {w : Nat × Nat} (h : cellOf c.F e n right = some w) (h0 : 0 ≤ n) : 0 ≤ wordAt c.F w ∧ wordAt c.F w ≤ 65535 := by
  obtain ⟨h8, x, hx⟩ := cellOf_get h h0
  obtain ⟨hl, hw, _⟩ := hc.fr _ x hx
  obtain ⟨v, hv⟩ : ∃ v, x.words[w.2]? = some v := ⟨_, List.getElem?_eq_getElem (by omega)⟩
  have : wordAt c.F w = v := by simp [wordAt, hx, hv]
  rw [this]
  exact hw _ _ hv
theorem reg_ok {c : CoreD} (hc : CoreOk c) (i : Nat) : 0 ≤ (c.R[i]?).getD 0 ∧ (c.R[i]?).getD 0 ≤ 65535 := by
  cases h : c.R[i]? with
  | none => simp
  | some n => exact hc.rw i n h
theorem regs_set {c : CoreD} (hc : CoreOk c) {i : Nat} {n : Int} (h : 0 ≤ n ∧ n ≤ 65535) {p : Int} (hp : 0 ≤ p ∧ p ≤ 65537) : CoreOk { c with pc := p, R := c.R.set i n } :=
  ⟨hc.len, hc.fr, by simp only [List.length_set]; exact hc.regs, fun k m hk => by
    by_cases hi : i = k
    · subst hi
      have hl : i < (c.R.set i n).length := (List.getElem?_eq_some_iff.1 hk).1
      rw [List.length_set] at hl
      simp only at hk
      rw [List.getElem?_set_self hl] at hk
      cases hk
      exact h
    · simp only at hk
      rw [List.getElem?_set_ne hi] at hk
      exact hc.rw k m hk, hc.q, hp.1, hp.2⟩
theorem setWord_ok {c : CoreD} (hc : CoreOk c) {w : Nat × Nat} {n : Int} (h : 0 ≤ n ∧ n ≤ 65535) {p : Int} (hp : 0 ≤ p ∧ p ≤ 65537) : CoreOk { c with pc := p, F := setWord c.F w n } := by
  refine ⟨by simp only [setWord, upd_len]; exact hc.len, fun i x hx => ?_, hc.regs, hc.rw, hc.q, hp.1, hp.2⟩
  obtain ⟨y, hy, rfl | rfl⟩ := upd_get hx
  · exact hc.fr i _ hy
  · obtain ⟨h1, h2, h3⟩ := hc.fr i y hy
    refine ⟨by simpa using h1, fun k m hk => ?_, h3⟩
    by_cases hi : w.2 = k
    · subst hi
      have hl : w.2 < (y.words.set w.2 n).length := (List.getElem?_eq_some_iff.1 hk).1
      rw [List.length_set] at hl
      simp only at hk
      rw [List.getElem?_set_self hl] at hk
      cases hk
      exact h
    · simp only at hk
      rw [List.getElem?_set_ne hi] at hk
      exact h2 k m hk

/-- An instruction can be run only below the shared frames. -/
theorem cellOf_run {F : List FrameD} {e n : Int} {c : Nat × Nat} (h : cellOf F e n 4 = some c) : n < 64 := by
  unfold cellOf at h
  split at h
  · simp at h
  · omega
theorem stepM_ok {e : Int} {g : ByteArray} {c d : CoreD} {o : Option Int} (hc : CoreOk c) (h : stepM e g c = some (d, o)) : CoreOk d ∧ d.pc ≤ 65535 ∧ ∀ v, o = some v → 0 ≤ v ∧ v ≤ 65535 := by
  unfold stepM at h
  split at h
  · rename_i i k hi hk
    have hn := cellOf_run hi
    have hn2 := cellOf_run hk
    have hx := wordAt_ok hc hi hc.lo
    have hw := wordAt_ok hc hk (by have := hc.lo; omega)
    have hlo := hc.lo
    have ha := reg_ok hc (wordAt c.F i / 16 % 4).toNat
    have hb := reg_ok hc (wordAt c.F i / 256 % 4).toNat
    have hp : 0 ≤ c.pc + 2 ∧ c.pc + 2 ≤ 65537 := by omega
    have nv : ∀ v : Int, (none : Option Int) = some v → 0 ≤ v ∧ v ≤ 65535 := fun v h => by cases h
    simp only at h
    split at h
    · cases h; exact ⟨regs_set hc hw hp, by simp only; omega, nv⟩
    split at h
    · cases h; exact ⟨regs_set hc (by omega) hp, by simp only; omega, nv⟩
    split at h
    · cases h; exact ⟨regs_set hc (xor_word _ _ ha.1 ha.2 hb.1 hb.2) hp, by simp only; omega, nv⟩
    split at h
    · cases h; exact ⟨regs_set hc (by split <;> omega) hp, by simp only; omega, nv⟩
    split at h
    · split at h
      · rename_i w hw2
        cases h
        exact ⟨regs_set hc (wordAt_ok hc hw2 hb.1) hp, by simp only; omega, nv⟩
      · cases h
    split at h
    · split at h
      · cases h; exact ⟨setWord_ok hc ha hp, by simp only; omega, nv⟩
      · cases h
    split at h
    · cases h
      split
      · exact ⟨⟨hc.len, hc.fr, hc.regs, hc.rw, hc.q, hw.1, by simp only; omega⟩, hw.2, nv⟩
      · exact ⟨⟨hc.len, hc.fr, hc.regs, hc.rw, hc.q, hp.1, hp.2⟩, by simp only; omega, nv⟩
    split at h
    · cases h; exact ⟨⟨hc.len, hc.fr, hc.regs, hc.rw, hc.q, hp.1, hp.2⟩, by simp only; omega, fun v hv => by cases hv; exact ha⟩
    split at h
    · split at h
      · cases h
      · rename_i hq
        cases h
        have := hc.q
        exact ⟨⟨hc.len, hc.fr, hc.regs, hc.rw, by simp; omega, hp.1, hp.2⟩, by simp only; omega, nv⟩
    · cases h
  · cases h

end Go.Proofs.Ytlbjdjjdafnemaa
