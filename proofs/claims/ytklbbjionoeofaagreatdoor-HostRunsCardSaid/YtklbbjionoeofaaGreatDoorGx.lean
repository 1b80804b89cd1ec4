/- A machine that may be, as facts; each act keeps it so. Plain laws; no program is walked.
What a run of an enclave leaves of a machine; every act keeps a machine good. Plain laws; no program is walked.
Machines and outcomes in boxes of the call's own; stores into other boxes leave them. Plain laws; no program is walked.
The memory of ref.ScriptOf: boxes of the machine, the challenger, an act, its answer, what comes next. Plain laws; no program is walked.
What ref.ScriptOf makes of an act: one form for all kinds; its boxes at a round's start, behind an append. Plain laws; no program is walked. -/
import Derived.Test.YtklbbjionoeofaaGreatDoorHostPlain
import Derived.Test.YtklbbjionoeofaaGreatDoorGo
import Derived.Test.YtklbbjionoeofaaGreatDoorHostSt
import Derived.Test.YtklbbjionoeofaaGreatDoorHostRunSt
namespace Go.Proofs.YtklbbjionoeofaaGreatDoor
open Go.RowKit

structure EnclOk (y : EnclD) : Prop where
  lo : 0 ≤ y.state
  hi : y.state ≤ 4
  log : y.log.size ≤ 1000
  empty : y.state = 0 → y.log.toList = []
  run : y.state = 3 → (0 ≤ y.pc ∧ y.pc ≤ 65535) ∧ (0 ≤ y.r0 ∧ y.r0 ≤ 65535) ∧ (0 ≤ y.r1 ∧ y.r1 ≤ 65535) ∧ (0 ≤ y.r2 ∧ y.r2 ≤ 65535) ∧ (0 ≤ y.r3 ∧ y.r3 ≤ 65535)
  rest : y.state ≠ 3 → y.pc = 0 ∧ y.r0 = 0 ∧ y.r1 = 0 ∧ y.r2 = 0 ∧ y.r3 = 0
theorem inR_iff {n a b : Int} : inR n a b = true ↔ a ≤ n ∧ n ≤ b := by simp [inR]
theorem wordRegs_iff (y : EnclD) : wordRegs y = true ↔ ((0 ≤ y.r0 ∧ y.r0 ≤ 65535) ∧ (0 ≤ y.r1 ∧ y.r1 ≤ 65535) ∧ (0 ≤ y.r2 ∧ y.r2 ≤ 65535) ∧ (0 ≤ y.r3 ∧ y.r3 ≤ 65535)) := by
  simp [wordRegs, inR]
theorem zeroRegs_iff (y : EnclD) : zeroRegs y = true ↔ (y.r0 = 0 ∧ y.r1 = 0 ∧ y.r2 = 0 ∧ y.r3 = 0) := by simp [zeroRegs]
theorem enclB_iff (y : EnclD) : enclB y = true ↔ EnclOk y := by
  have e1 : (!enclB.longB' y.log) = true ↔ y.log.size ≤ 1000 := by simp [enclB.longB']
  have e2 : (!(y.state == 0 && !y.log.toList.isEmpty)) = true ↔ (y.state = 0 → y.log.toList = []) := by
    simp only [Bool.not_eq_true', Bool.and_eq_false_imp, beq_iff_eq, Bool.not_eq_false', List.isEmpty_iff]
  unfold enclB
  simp only [Bool.and_eq_true, inR_iff, e1, e2]
  by_cases h3 : y.state = 3
  · rw [if_pos h3]
    simp only [Bool.and_eq_true, inR_iff, wordRegs_iff]
    exact ⟨fun ⟨⟨⟨a, b⟩, c⟩, d⟩ => ⟨a.1, a.2, b, c, fun _ => d, fun h => absurd h3 h⟩, fun h => ⟨⟨⟨⟨h.lo, h.hi⟩, h.log⟩, h.empty⟩, h.run h3⟩⟩
  · rw [if_neg h3]
    simp only [Bool.and_eq_true, beq_iff_eq, zeroRegs_iff]
    exact ⟨fun ⟨⟨⟨a, b⟩, c⟩, d⟩ => ⟨a.1, a.2, b, c, fun h => absurd h h3, fun _ => d⟩, fun h => ⟨⟨⟨⟨h.lo, h.hi⟩, h.log⟩, h.empty⟩, h.rest h3⟩⟩

structure FrOk (E : List EnclD) (x : FrameD) : Prop where
  len : x.words.length = 8
  w : ∀ n ∈ x.words, 0 ≤ n ∧ n ≤ 65535
  lo : 0 ≤ x.owner
  hi : x.owner ≤ 4
  free : x.owner = 0 → x.pl = 0 ∧ x.rights = 0
  pl : 0 ≤ x.pl ∧ x.pl ≤ 7
  rights : 0 ≤ x.rights ∧ x.rights ≤ 7
  own : x.owner ≠ 0 → stateAt E (x.owner - 1) ≠ 0
theorem wordsB_iff (l : List Int) : wordsB l = true ↔ l.length = 8 ∧ ∀ n ∈ l, 0 ≤ n ∧ n ≤ 65535 := by
  simp [wordsB, inR]
theorem pageF_iff (p r : Int) (l : List Int) : pageF p r l = 0 ↔ (0 ≤ p ∧ p ≤ 7) ∧ (0 ≤ r ∧ r ≤ 7) ∧ wordsB l = true := by
  unfold pageF
  by_cases h : (inR p 0 7 && inR r 0 7) = true
  · rw [if_pos h]
    simp only [Bool.and_eq_true, inR_iff] at h
    by_cases h2 : wordsB l = true
    · simp [h2, h]
    · simp [h2]
  · rw [if_neg h]
    simp only [Bool.and_eq_true, inR_iff] at h
    constructor
    · intro h3; omega
    · intro h3; exact absurd ⟨h3.1, h3.2.1⟩ h
theorem frB_iff (E : List EnclD) (pre : List FrameD) (f : FrameD) : frB E pre f = true ↔ FrOk E f ∧ (f.owner ≠ 0 → ∀ g ∈ pre, ¬ (g.owner = f.owner ∧ g.pl = f.pl)) := by
  unfold frB
  simp only [Bool.and_eq_true, wordsB_iff, inR_iff]
  by_cases h0 : f.owner = 0
  · rw [if_pos h0]
    simp only [Bool.and_eq_true, beq_iff_eq]
    constructor
    · rintro ⟨⟨⟨a, b⟩, c⟩, d⟩
      exact ⟨⟨a, b, c.1, c.2, fun _ => d, by omega, by omega, fun h => absurd h0 h⟩, fun h => absurd h0 h⟩
    · rintro ⟨h, _⟩
      exact ⟨⟨⟨h.len, h.w⟩, h.lo, h.hi⟩, h.free h0⟩
  · rw [if_neg h0]
    have e : (!(pre.any (twinB f.owner f.pl))) = true ↔ ∀ g ∈ pre, ¬ (g.owner = f.owner ∧ g.pl = f.pl) := by
      simp [twinB]
    simp only [Bool.and_eq_true, beq_iff_eq, pageF_iff, wordsB_iff, e, Bool.not_eq_true', beq_eq_false_iff_ne]
    constructor
    · rintro ⟨⟨⟨a, b⟩, c⟩, d, ⟨e1, e2, _⟩, g⟩
      exact ⟨⟨a, b, c.1, c.2, fun h => absurd h h0, e1, e2, fun _ => d⟩, fun _ => g⟩
    · rintro ⟨h, h2⟩
      exact ⟨⟨⟨h.len, h.w⟩, h.lo, h.hi⟩, h.own h0, ⟨h.pl, h.rights, h.len, h.w⟩, h2 h0⟩
theorem frAll_iff (E : List EnclD) (l : List FrameD) : ∀ (pre : List FrameD), frAll E pre l = true ↔ ∀ (i : Nat) (x : FrameD), l[i]? = some x → frB E (pre ++ l.take i) x = true := by
  induction l with
  | nil => intro pre; simp [frAll]
  | cons y l ih =>
    intro pre
    rw [frAll, Bool.and_eq_true, ih]
    constructor
    · rintro ⟨h1, h2⟩ i x hx
      cases i with
      | zero => simp only [List.getElem?_cons_zero, Option.some.injEq] at hx; subst hx; simpa using h1
      | succ i =>
        simp only [List.getElem?_cons_succ] at hx
        have := h2 i x hx
        simpa using this
    · intro h
      refine ⟨by simpa using h 0 y rfl, fun i x hx => ?_⟩
      have := h (i + 1) x (by simpa using hx)
      simpa using this
/-- A machine that may be. -/
structure Good (M : MachD) : Prop where
  fl : M.frames.length = 24
  el : M.encl.length = 4
  ql : M.quotes.length ≤ 40
  e : ∀ (k : Nat) (y : EnclD), M.encl[k]? = some y → EnclOk y
  f : ∀ (i : Nat) (x : FrameD), M.frames[i]? = some x → FrOk M.encl x
  u : ∀ (i j : Nat) (x y : FrameD), i ≠ j → M.frames[i]? = some x → M.frames[j]? = some y → x.owner ≠ 0 → ¬ (y.owner = x.owner ∧ y.pl = x.pl)
  q : ∀ q ∈ M.quotes, q.log.size ≤ 1000 ∧ 0 ≤ q.data ∧ q.data ≤ 65535
theorem quoteB_iff (q : QuoteD) : quoteB q = true ↔ q.log.size ≤ 1000 ∧ 0 ≤ q.data ∧ q.data ≤ 65535 := by simp [quoteB, inR]
theorem good_of {M : MachD} (h : machF M = 0) : Good M := by
  obtain ⟨h1, h2, h3⟩ := machF_sizes h
  have hm := machF_machB h
  simp only [machB, Bool.and_eq_true, List.all_eq_true] at hm
  obtain ⟨m1, m2, m3⟩ := hm
  have m4 := (frAll_iff M.encl M.frames []).1 m2
  have lt : ∀ (i j : Nat) (x y : FrameD), j < i → M.frames[i]? = some x → M.frames[j]? = some y → x.owner ≠ 0 → ¬ (y.owner = x.owner ∧ y.pl = x.pl) := fun i j x y hj hx hy h0 => by
    have := ((frB_iff _ _ _).1 (m4 i x hx)).2 h0 y (by
      rw [List.nil_append, List.mem_take_iff_getElem]
      have hjl := (List.getElem?_eq_some_iff.1 hy).1
      exact ⟨j, by omega, (List.getElem?_eq_some_iff.1 hy).2⟩)
    exact this
  refine ⟨h1, h2, h3, fun k y hy => (enclB_iff y).1 (m1 y (List.mem_of_getElem? hy)), fun i x hx => ((frB_iff _ _ _).1 (m4 i x hx)).1, fun i j x y hij hx hy h0 => ?_, fun q hq => (quoteB_iff q).1 (m3 q hq)⟩
  rcases Nat.lt_or_gt_of_ne hij with h | h
  · intro ⟨e1, e2⟩
    exact lt j i y x h hy hx (by rw [e1]; exact h0) ⟨e1.symm, e2.symm⟩
  · exact lt i j x y h hx hy h0
theorem Good.mf {M : MachD} (h : Good M) : machF M = 0 := by
  have hs : sizeB M = true := by simp [sizeB, h.fl, h.el, h.ql]
  have hm : machB M = true := by
    simp only [machB, Bool.and_eq_true, List.all_eq_true]
    refine ⟨fun y hy => ?_, (frAll_iff M.encl M.frames []).2 fun i x hx => (frB_iff _ _ _).2 ⟨h.f i x hx, fun h0 g hg => ?_⟩, fun q hq => (quoteB_iff q).2 (h.q q hq)⟩
    · obtain ⟨k, hk⟩ := List.getElem?_of_mem hy
      exact (enclB_iff y).2 (h.e k y hk)
    · rw [List.nil_append, List.mem_take_iff_getElem] at hg
      obtain ⟨j, hj, hgj⟩ := hg
      exact h.u i j x g (by omega) hx (List.getElem?_eq_some_iff.2 ⟨by omega, hgj⟩) h0
  unfold machF; rw [if_pos hs, if_pos hm]
theorem good_iff {M : MachD} : machF M = 0 ↔ Good M := ⟨good_of, Good.mf⟩

theorem stateAt_set {E : List EnclD} {k : Nat} {y y' : EnclD} (hy : E[k]? = some y) (hs : y.state ≠ 0 → y'.state ≠ 0) {j : Int} (h : stateAt E j ≠ 0) : stateAt (E.set k y') j ≠ 0 := by
  unfold stateAt at h ⊢
  by_cases hj : k = j.toNat
  · subst hj
    rw [List.getElem?_set_self (List.getElem?_eq_some_iff.1 hy).1]
    rw [hy] at h
    exact hs h
  · rw [List.getElem?_set_ne hj]
    exact h
theorem FrOk.setE {E : List EnclD} {k : Nat} {y y' : EnclD} {x : FrameD} (h : FrOk E x) (hy : E[k]? = some y) (hs : y.state ≠ 0 → y'.state ≠ 0) : FrOk (E.set k y') x :=
  ⟨h.len, h.w, h.lo, h.hi, h.free, h.pl, h.rights, fun h0 => stateAt_set hy hs (h.own h0)⟩
theorem get_set {α : Type} {l : List α} {i j : Nat} {x y : α} (h : (l.set i x)[j]? = some y) : (i = j ∧ y = x) ∨ (i ≠ j ∧ l[j]? = some y) := by
  by_cases hij : i = j
  · subst hij
    refine .inl ⟨rfl, ?_⟩
    rw [List.getElem?_set] at h
    simp only [if_true] at h
    split at h
    · exact (Option.some.inj h).symm
    · cases h
  · rw [List.getElem?_set_ne hij] at h
    exact .inr ⟨hij, h⟩
theorem Good.setE {M : MachD} (h : Good M) {k : Nat} {y : EnclD} (hy : M.encl[k]? = some y) {y' : EnclD} (ho : EnclOk y') (hs : y.state ≠ 0 → y'.state ≠ 0) : Good ⟨M.frames, M.encl.set k y', M.quotes⟩ :=
  ⟨h.fl, by simp [h.el], h.ql, fun j z hz => by
    rcases get_set hz with ⟨_, rfl⟩ | ⟨_, hz⟩
    · exact ho
    · exact h.e j z hz, fun i x hx => (h.f i x hx).setE hy hs, h.u, h.q⟩
theorem Good.setF {M : MachD} (h : Good M) {i : Nat} {x x' : FrameD} (_hx : M.frames[i]? = some x) (ho : FrOk M.encl x') (hu : x'.owner ≠ 0 → ∀ (j : Nat) (y : FrameD), j ≠ i → M.frames[j]? = some y → ¬ (y.owner = x'.owner ∧ y.pl = x'.pl)) : Good ⟨M.frames.set i x', M.encl, M.quotes⟩ := by
  refine ⟨by simp [h.fl], h.el, h.ql, h.e, fun j z hz => ?_, fun j k z t hjk hz ht h0 => ?_, h.q⟩
  · rcases get_set hz with ⟨_, rfl⟩ | ⟨_, hz⟩
    · exact ho
    · exact h.f j z hz
  · rcases get_set hz with ⟨e1, e3⟩ | ⟨e1, hz'⟩
    · subst e3
      rcases get_set ht with ⟨e2, _⟩ | ⟨e2, ht'⟩
      · omega
      · exact hu h0 k t (by omega) ht'
    · rcases get_set ht with ⟨e2, e4⟩ | ⟨e2, ht'⟩
      · subst e4
        intro ⟨a, b⟩
        exact hu (by rw [a]; exact h0) j z (by omega) hz' ⟨a.symm, b.symm⟩
      · exact h.u j k z t hjk hz' ht' h0

theorem newEncl_ok : EnclOk newEncl := ⟨by decide, by decide, by decide +kernel, fun h => absurd h (by decide), fun h => absurd h (by decide), fun _ => ⟨rfl, rfl, rfl, rfl, rfl⟩⟩
theorem emptyEncl_ok : EnclOk emptyEncl := ⟨by decide, by decide, by decide, fun _ => by kernel_rfl, fun h => absurd h (by decide), fun _ => ⟨rfl, rfl, rfl, rfl, rfl⟩⟩
theorem createD_good {M : MachD} (h : Good M) (h0 : (createD M).2.2 = 0) : Good (createD M).1 := by
  unfold createD at h0 ⊢
  have hm := h.mf
  by_cases h1 : firstEmpty M < 0
  · rw [if_neg (by simpa using hm), if_pos h1] at h0; simp at h0
  · rw [if_neg (by simpa using hm), if_neg h1]
    have hge : -1 ≤ firstEmpty M := findI_ge
    obtain ⟨i, hi⟩ : ∃ i : Nat, firstEmpty M = i := ⟨(firstEmpty M).toNat, by omega⟩
    obtain ⟨y, hy, _⟩ := findI_get (p := fun x : EnclD => x.state == 0) (l := M.encl) (i := i) hi
    rw [hi, Int.toNat_natCast]
    exact h.setE hy newEncl_ok (fun _ => by decide)
theorem startD_good {M : MachD} {e : Int} (h : Good M) (h0 : (startD M e).2 = 0) : Good (startD M e).1 := by
  unfold startD at h0 ⊢
  by_cases h1 : askF M e 1 = 0
  · rw [if_neg (by simpa using h1)]
    obtain ⟨_, k, y, rfl, hk, hy, hs, hst⟩ := askF_zero h1
    have hst := hst (by decide)
    show Good ⟨M.frames, upd M.encl _ _, M.quotes⟩
    rw [show ((k : Int) + 1 - 1).toNat = k by omega, upd_some hy]
    have ho := h.e k y hy
    exact h.setE hy ⟨show (0 : Int) ≤ 2 by omega, show (2 : Int) ≤ 4 by omega, ho.log, fun h => absurd (show (2 : Int) = 0 from h) (by omega), fun h => absurd (show (2 : Int) = 3 from h) (by omega), fun _ => ho.rest (by omega)⟩ (fun _ => show (2 : Int) ≠ 0 by omega)
  · rw [if_pos h1] at h0; exact absurd h0 h1
theorem measD_good {M : MachD} {e p : Int} (h : Good M) (h0 : (measD M e p).2 = 0) : Good (measD M e p).1 := by
  unfold measD at h0 ⊢
  by_cases h1 : measF M e p = 0
  · rw [if_neg (by simpa using h1)]
    unfold measF at h1
    by_cases h2 : askF M e 1 = 0
    · rw [if_neg (by simpa using h2)] at h1
      by_cases h3 : placeF M.frames e p < 0
      · rw [if_pos h3] at h1; omega
      rw [if_neg h3] at h1
      obtain ⟨_, k, y, rfl, hk, hy, hs, hst⟩ := askF_zero h2
      have hst := hst (by decide)
      rw [enclOf_at hk hy] at h1
      simp only [Option.map_some, Option.getD_some] at h1
      show Good ⟨M.frames, upd M.encl _ _, M.quotes⟩
      rw [show ((k : Int) + 1 - 1).toNat = k by omega, upd_some hy]
      have ho := h.e k y hy
      by_cases h4 : 1000 < y.log.size + (heldOf M ((k : Int) + 1) p).length
      · rw [if_pos h4] at h1; omega
      exact h.setE hy ⟨ho.lo, ho.hi, by simp only [logE, ByteArray.size_append, bytesOf_size]; omega, fun h => absurd (show y.state = 0 from h) hs, fun h => absurd (show y.state = 3 from h) (by omega), fun _ => ho.rest (by omega)⟩ (fun _ => hs)
    · rw [if_pos h2] at h1; exact absurd h1 h2
  · rw [if_pos h1] at h0; exact absurd h0 h1
theorem placeF_none {L : List FrameD} {e q : Int} (h : placeF L e q < 0) (he : 0 < e) {j : Nat} {y : FrameD} (hy : L[j]? = some y) : ¬ (y.owner = e ∧ y.pl = q) := by
  intro ⟨a, b⟩
  have h1 := findI_any (fitsB e q) L
  have h2 : L.any (fitsB e q) = true := List.any_eq_true.2 ⟨y, List.mem_of_getElem? hy, by simp [fitsB, a, b, he]⟩
  rw [h2, decide_eq_true_eq] at h1
  exact absurd h1 (by unfold placeF at h; omega)
theorem putD_good {M : MachD} {e f p r : Int} (h : Good M) (h0 : (putD M e f p r).2 = 0) : Good (putD M e f p r).1 := by
  unfold putD at h0 ⊢
  by_cases h1 : putF M e f p r = 0
  · rw [if_neg (by simpa using h1)]
    unfold putF at h1
    by_cases h2 : askF M e 1 = 0
    · rw [if_neg (by simpa using h2)] at h1
      by_cases h3 : f < 0 ∨ 24 ≤ f
      · rw [if_pos h3] at h1; omega
      rw [if_neg h3] at h1
      by_cases h4 : addF p r = 0
      · rw [if_neg (by simpa using h4)] at h1
        by_cases h5 : (frameOf M f).owner ≠ 0 ∨ 0 ≤ placeF M.frames e p
        · rw [if_pos h5] at h1; omega
        rw [if_neg h5] at h1
        obtain ⟨_, k, y, rfl, hk, hy, hs, hst⟩ := askF_zero h2
        have hst := hst (by decide)
        rw [enclOf_at hk hy] at h1
        simp only [Option.map_some, Option.getD_some] at h1
        obtain ⟨i, rfl⟩ : ∃ i : Nat, f = i := ⟨f.toNat, by omega⟩
        obtain ⟨x, hx⟩ : ∃ x, M.frames[i]? = some x := ⟨_, List.getElem?_eq_getElem (by rw [h.fl]; omega)⟩
        show Good ⟨upd M.frames _ _, upd M.encl _ _, M.quotes⟩
        rw [show ((k : Int) + 1 - 1).toNat = k by omega, upd_some hy, Int.toNat_natCast, upd_some hx]
        have ho := h.e k y hy
        have hfx := h.f i x hx
        have hpr : (0 ≤ p ∧ p ≤ 7) ∧ (0 ≤ r ∧ r ≤ 7) := by
          unfold addF at h4
          by_cases hh : (inR p 0 7 && inR r 0 7) = true
          · simpa [inR] using hh
          · rw [if_neg hh] at h4; omega
        by_cases h6 : 1000 < y.log.size + (addedL p r).length
        · rw [if_pos h6] at h1; omega
        have h7 : placeF M.frames ((k : Int) + 1) p < 0 := by omega
        have hG := h.setF (x' := ownF ((k : Int) + 1) p r x) hx ⟨hfx.len, hfx.w, by simp only [ownF]; omega, by simp only [ownF]; omega, fun e => by simp only [ownF] at e; omega, hpr.1, hpr.2, fun _ => by
          simp only [ownF, stateAt]
          rw [show ((k : Int) + 1 - 1).toNat = k by omega, hy]
          exact hs⟩ (fun _ j z hj hz => placeF_none h7 (by omega) hz)
        exact hG.setE (k := k) (y := y) hy ⟨ho.lo, ho.hi, by simp only [logE, ByteArray.size_append, bytesOf_size]; omega, fun h => absurd (show y.state = 0 from h) hs, fun h => absurd (show y.state = 3 from h) (by omega), fun _ => ho.rest (by omega)⟩ (fun _ => hs)
      · rw [if_pos h4] at h1; omega
    · rw [if_pos h2] at h1; exact absurd h1 h2
  · rw [if_pos h1] at h0; exact absurd h0 h1
theorem words_set {ws : List Int} {k : Nat} {n : Int} (h : ∀ m ∈ ws, 0 ≤ m ∧ m ≤ 65535) (hn : 0 ≤ n ∧ n ≤ 65535) : ∀ m ∈ ws.set k n, 0 ≤ m ∧ m ≤ 65535 := fun m hm => by
  rcases List.mem_or_eq_of_mem_set hm with hm | rfl
  · exact h m hm
  · exact hn
theorem pokeD_good {M : MachD} {f p n : Int} (h : Good M) (h0 : (pokeD M f p n).2 = 0) : Good (pokeD M f p n).1 := by
  unfold pokeD at h0 ⊢
  by_cases h1 : wordF M f p = 0
  · rw [if_neg (by simpa using h1)] at h0 ⊢
    by_cases h2 : n < 0 ∨ 65535 < n
    · rw [if_pos h2] at h0; simp at h0
    rw [if_neg h2]
    by_cases h3 : (frameOf M f).owner = 0
    · rw [if_pos h3]
      unfold wordF at h1
      rw [if_neg (by simpa using h.mf)] at h1
      by_cases h4 : f < 0 ∨ 24 ≤ f ∨ p < 0 ∨ 8 ≤ p
      · rw [if_pos h4] at h1; omega
      obtain ⟨i, rfl⟩ : ∃ i : Nat, f = i := ⟨f.toNat, by omega⟩
      obtain ⟨x, hx⟩ : ∃ x, M.frames[i]? = some x := ⟨_, List.getElem?_eq_getElem (by rw [h.fl]; omega)⟩
      show Good ⟨upd M.frames _ _, M.encl, M.quotes⟩
      rw [Int.toNat_natCast, upd_some hx]
      have hfx := h.f i x hx
      exact h.setF hx ⟨by simp [hfx.len], words_set hfx.w (by omega), hfx.lo, hfx.hi, hfx.free, hfx.pl, hfx.rights, hfx.own⟩ (fun h0 j y hj hy => h.u i j x y (by omega) hx hy h0)
    · rw [if_neg h3]; exact h
  · rw [if_pos h1] at h0; exact absurd h0 h1
theorem bare_ok (E : List EnclD) : FrOk E bare := ⟨rfl, by decide, by decide, by decide, fun _ => ⟨rfl, rfl⟩, by decide, by decide, fun h => absurd rfl h⟩
theorem removeD_good {M : MachD} {e : Int} (h : Good M) (h0 : (removeD M e).2 = 0) : Good (removeD M e).1 := by
  unfold removeD at h0 ⊢
  by_cases h1 : askF M e (-1) = 0
  · rw [if_neg (by simpa using h1)]
    obtain ⟨_, k, y, rfl, hk, hy, hs, _⟩ := askF_zero h1
    rw [show ((k : Int) + 1 - 1).toNat = k by omega]
    refine ⟨by simp [h.fl], by simp [h.el], h.ql, fun j z hz => ?_, fun i x hx => ?_, fun i j x z hij hx hz hne => ?_, h.q⟩
    · rcases get_set hz with ⟨_, rfl⟩ | ⟨_, hz⟩
      · exact emptyEncl_ok
      · exact h.e j z hz
    · simp only [List.getElem?_map, Option.map_eq_some_iff] at hx
      obtain ⟨x0, hx0, rfl⟩ := hx
      split
      · exact bare_ok _
      · rename_i hne
        have hf := h.f i x0 hx0
        refine ⟨hf.len, hf.w, hf.lo, hf.hi, hf.free, hf.pl, hf.rights, fun h0 => ?_⟩
        have := hf.own h0
        have hlo := hf.lo
        unfold stateAt at this ⊢
        rw [List.getElem?_set_ne (by omega)]
        exact this
    · simp only [List.getElem?_map, Option.map_eq_some_iff] at hx hz
      obtain ⟨x0, hx0, rfl⟩ := hx
      obtain ⟨z0, hz0, rfl⟩ := hz
      split at hne
      · exact absurd rfl hne
      · rename_i hx1
        rw [if_neg hx1]
        split
        · intro ⟨a, _⟩
          exact hne a.symm
        · exact h.u i j x0 z0 hij hx0 hz0 hne
  · rw [if_pos h1] at h0; exact absurd h0 h1

end Go.Proofs.YtklbbjionoeofaaGreatDoor

namespace Go.Proofs.YtklbbjionoeofaaGreatDoor
open Go.RowKit

/-- What the enclave e may have done to frames. -/
structure StepF (e : Int) (F F' : List FrameD) : Prop where
  len : F'.length = F.length
  at' : ∀ (i : Nat) (x' : FrameD), F'[i]? = some x' → ∃ x, F[i]? = some x ∧ x'.owner = x.owner ∧ x'.pl = x.pl ∧ x'.rights = x.rights ∧ (x'.words = x.words ∨ x.owner = 0 ∨ (x.owner = e ∧ hasR x.rights 2 = true))
theorem StepF.refl (e : Int) (F : List FrameD) : StepF e F F := ⟨rfl, fun _ x h => ⟨x, h, rfl, rfl, rfl, .inl rfl⟩⟩
theorem StepF.trans {e : Int} {F G H : List FrameD} (h : StepF e F G) (k : StepF e G H) : StepF e F H :=
  ⟨k.len.trans h.len, fun i x' hx => by
    obtain ⟨y, hy, a1, a2, a3, a4⟩ := k.at' i x' hx
    obtain ⟨x, hx, b1, b2, b3, b4⟩ := h.at' i y hy
    refine ⟨x, hx, a1.trans b1, a2.trans b2, a3.trans b3, ?_⟩
    rcases a4 with a4 | a4 | a4
    · rcases b4 with b4 | b4
      · exact .inl (a4.trans b4)
      · exact .inr b4
    · exact .inr (.inl (by omega))
    · exact .inr (.inr ⟨by omega, by rw [← b3]; exact a4.2⟩)⟩
theorem placeF_get {L : List FrameD} {e q : Int} {i : Nat} (h : placeF L e q = i) : ∃ x, L[i]? = some x ∧ x.owner = e ∧ 0 < x.owner ∧ x.pl = q := by
  obtain ⟨x, hx, hf⟩ := findI_get (p := fitsB e q) h
  simp only [fitsB, Bool.and_eq_true, decide_eq_true_eq] at hf
  exact ⟨x, hx, hf.1.1, hf.1.2, hf.2⟩
theorem cellOf_may {F : List FrameD} {e n : Int} {c : Nat × Nat} (h : cellOf F e n 2 = some c) : ∃ x, F[c.1]? = some x ∧ (x.owner = 0 ∨ (x.owner = e ∧ hasR x.rights 2 = true)) := by
  unfold cellOf at h
  split at h
  · split at h
    · cases h
    · split at h
      · rename_i x hx
        split at h
        · rename_i ho
          cases h
          exact ⟨x, hx, .inl ho⟩
        · cases h
      · cases h
  · split at h
    · cases h
    · rename_i hp
      split at h
      · rename_i x hx
        split at h
        · rename_i hr
          cases h
          obtain ⟨i, hi⟩ : ∃ i : Nat, placeF F e (n / 8) = i := ⟨(placeF F e (n / 8)).toNat, by omega⟩
          obtain ⟨y, hy, ho, _⟩ := placeF_get hi
          rw [hi, Int.toNat_natCast] at hx
          have hxy : x = y := Option.some.inj (hx.symm.trans hy)
          exact ⟨x, by simp only [hi, Int.toNat_natCast]; exact hx, .inr ⟨by rw [hxy]; exact ho, hr⟩⟩
        · cases h
      · cases h
theorem setWord_step {F : List FrameD} {e n m : Int} {c : Nat × Nat} (h : cellOf F e n 2 = some c) : StepF e F (setWord F c m) := by
  obtain ⟨x, hx, ho⟩ := cellOf_may h
  refine ⟨by simp [setWord, upd_len], fun i x' hx' => ?_⟩
  rw [setWord, upd_some hx] at hx'
  rcases get_set hx' with ⟨e1, rfl⟩ | ⟨_, h2⟩
  · subst e1
    exact ⟨x, hx, rfl, rfl, rfl, .inr ho⟩
  · exact ⟨x', h2, rfl, rfl, rfl, .inl rfl⟩
/-- The quotes behind a run. -/
def QuotesBy (g : ByteArray) (Q Q' : List QuoteD) : Prop := ∃ R, Q' = Q ++ R ∧ ∀ q ∈ R, q.log = g ∧ 0 ≤ q.data ∧ q.data ≤ 65535
theorem QuotesBy.refl (g : ByteArray) (Q : List QuoteD) : QuotesBy g Q Q := ⟨[], by simp, fun _ h => by simp at h⟩
theorem QuotesBy.trans {g : ByteArray} {Q Q' Q'' : List QuoteD} (h : QuotesBy g Q Q') (k : QuotesBy g Q' Q'') : QuotesBy g Q Q'' := by
  obtain ⟨R, rfl, h1⟩ := h
  obtain ⟨R', rfl, h2⟩ := k
  exact ⟨R ++ R', by simp, fun q hq => by rcases List.mem_append.1 hq with hq | hq; exact h1 q hq; exact h2 q hq⟩
theorem stepM_does {e : Int} {g : ByteArray} {c d : CoreD} {o : Option Int} (hc : CoreOk c) (h : stepM e g c = some (d, o)) : StepF e c.F d.F ∧ QuotesBy g c.Q d.Q := by
  unfold stepM at h
  split at h
  · rename_i i k hi hk
    have ha := reg_ok hc (wordAt c.F i / 16 % 4).toNat
    simp only at h
    split at h
    · cases h; exact ⟨StepF.refl _ _, QuotesBy.refl _ _⟩
    split at h
    · cases h; exact ⟨StepF.refl _ _, QuotesBy.refl _ _⟩
    split at h
    · cases h; exact ⟨StepF.refl _ _, QuotesBy.refl _ _⟩
    split at h
    · cases h; exact ⟨StepF.refl _ _, QuotesBy.refl _ _⟩
    split at h
    · split at h
      · cases h; exact ⟨StepF.refl _ _, QuotesBy.refl _ _⟩
      · cases h
    split at h
    · split at h
      · rename_i w hw
        cases h; exact ⟨setWord_step hw, QuotesBy.refl _ _⟩
      · cases h
    split at h
    · cases h
      split <;> exact ⟨StepF.refl _ _, QuotesBy.refl _ _⟩
    split at h
    · cases h; exact ⟨StepF.refl _ _, QuotesBy.refl _ _⟩
    split at h
    · split at h
      · cases h
      · cases h
        exact ⟨StepF.refl _ _, ⟨[_], rfl, fun q hq => by
          rw [List.mem_singleton] at hq
          subst hq
          exact ⟨rfl, ha⟩⟩⟩
    · cases h
  · cases h
theorem runM_does {e : Int} {g : ByteArray} (n : Nat) {c : CoreD} (hc : CoreOk c) : StepF e c.F (runM e g n c).1.F ∧ QuotesBy g c.Q (runM e g n c).1.Q := by
  induction n generalizing c with
  | zero => exact ⟨StepF.refl _ _, QuotesBy.refl _ _⟩
  | succ n ih =>
    rw [runM]
    cases h : stepM e g c with
    | none => exact ⟨StepF.refl _ _, QuotesBy.refl _ _⟩
    | some p =>
      obtain ⟨d, o⟩ := p
      have hd := stepM_ok hc h
      have hs := stepM_does hc h
      cases o with
      | none =>
        have := ih hd.1
        exact ⟨hs.1.trans this.1, hs.2.trans this.2⟩
      | some v => exact hs
theorem runM_pc {e : Int} {g : ByteArray} (n : Nat) {c : CoreD} (hc : CoreOk c) (hp : c.pc ≤ 65535) : (runM e g n c).1.pc ≤ 65535 := by
  induction n generalizing c with
  | zero => exact hp
  | succ n ih =>
    rw [runM]
    cases h : stepM e g c with
    | none => exact hp
    | some p =>
      obtain ⟨d, o⟩ := p
      have hd := stepM_ok hc h
      cases o with
      | none => exact ih hd.1 hd.2.1
      | some v => exact hd.2.1
/-- How a run ends: what becomes of the enclave. -/
theorem runM_encl {e : Int} {g : ByteArray} (n : Nat) (c : CoreD) : ((runM e g n c).2.1 = ⟨3, g, (runM e g n c).1.pc, ((runM e g n c).1.R[0]?).getD 0, ((runM e g n c).1.R[1]?).getD 0, ((runM e g n c).1.R[2]?).getD 0, ((runM e g n c).1.R[3]?).getD 0⟩ ∧ (runM e g n c).2.2 = (2, 0)) ∨
    ((runM e g n c).2.1 = ⟨4, g, 0, 0, 0, 0, 0⟩ ∧ (runM e g n c).2.2 = (3, 0)) ∨ ((runM e g n c).2.1 = ⟨2, g, 0, 0, 0, 0, 0⟩ ∧ ∃ v, (runM e g n c).2.2 = (1, v)) := by
  induction n generalizing c with
  | zero => exact .inl ⟨rfl, rfl⟩
  | succ n ih =>
    rw [runM]
    cases h : stepM e g c with
    | none => exact .inr (.inl ⟨rfl, rfl⟩)
    | some p =>
      obtain ⟨d, o⟩ := p
      cases o with
      | none => exact ih d
      | some v => exact .inr (.inr ⟨rfl, v, rfl⟩)
theorem runM_enclOk {e : Int} {g : ByteArray} (n : Nat) {c : CoreD} (hc : CoreOk c) (hp : c.pc ≤ 65535) (hg : g.size ≤ 1000) : EnclOk (runM e g n c).2.1 ∧ (runM e g n c).2.1.state ≠ 0 := by
  have h1 := runM_ok (e := e) (g := g) n hc
  have h2 := runM_pc (e := e) (g := g) n hc hp
  rcases runM_encl (e := e) (g := g) n c with ⟨h, _⟩ | ⟨h, _⟩ | ⟨h, _⟩
  · rw [h]
    exact ⟨⟨show (0 : Int) ≤ 3 by omega, show (3 : Int) ≤ 4 by omega, hg, fun h => absurd (show (3 : Int) = 0 from h) (by omega), fun _ => ⟨⟨h1.lo, h2⟩, reg_ok h1 0, reg_ok h1 1, reg_ok h1 2, reg_ok h1 3⟩, fun h => absurd (show (3 : Int) = 3 from rfl) h⟩, show (3 : Int) ≠ 0 by omega⟩
  · rw [h]
    exact ⟨⟨show (0 : Int) ≤ 4 by omega, show (4 : Int) ≤ 4 by omega, hg, fun h => absurd (show (4 : Int) = 0 from h) (by omega), fun h => absurd (show (4 : Int) = 3 from h) (by omega), fun _ => ⟨rfl, rfl, rfl, rfl, rfl⟩⟩, show (4 : Int) ≠ 0 by omega⟩
  · rw [h]
    exact ⟨⟨show (0 : Int) ≤ 2 by omega, show (2 : Int) ≤ 4 by omega, hg, fun h => absurd (show (2 : Int) = 0 from h) (by omega), fun h => absurd (show (2 : Int) = 3 from h) (by omega), fun _ => ⟨rfl, rfl, rfl, rfl, rfl⟩⟩, show (2 : Int) ≠ 0 by omega⟩
theorem ranD_good {M : MachD} (h : Good M) {ei : Nat} {y : EnclD} {pc : Int} {R : List Int} (n : Nat) (hy : M.encl[ei]? = some y) (hp : 0 ≤ pc ∧ pc ≤ 65535) (hl : R.length = 4) (hR : ∀ (k : Nat) (m : Int), R[k]? = some m → 0 ≤ m ∧ m ≤ 65535) : Good (ranD M ei y pc R n).1 := by
  have hc := core0_ok h.mf hp hl hR
  have ho := runM_ok (e := (ei : Int) + 1) (g := y.log) n hc
  have hd := runM_does (e := (ei : Int) + 1) (g := y.log) n hc
  have hk := runM_enclOk (e := (ei : Int) + 1) (g := y.log) n hc hp.2 (h.e ei y hy).log
  simp only [ranD]
  generalize runM ((ei : Int) + 1) y.log n (core0 M pc R) = r at ho hd hk
  obtain ⟨d, z, o⟩ := r
  simp only at ho hd hk ⊢
  have hd1 : StepF ((ei : Int) + 1) M.frames d.F := hd.1
  refine ⟨ho.len, by simp [h.el], ho.q, fun j t ht => ?_, fun i x' hx' => ?_, fun i j x' z' hij hx' hz' h0 => ?_, fun q hq => ?_⟩
  · rcases get_set ht with ⟨_, rfl⟩ | ⟨_, ht'⟩
    · exact hk.1
    · exact h.e j t ht'
  · obtain ⟨x, hx, a1, a2, a3, _⟩ := hd1.at' i x' hx'
    have hf := (h.f i x hx).setE hy (fun _ => hk.2)
    obtain ⟨b1, b2, b3⟩ := ho.fr i x' hx'
    refine ⟨b1, fun n hn => ?_, by rw [a1]; exact hf.lo, by rw [a1]; exact hf.hi, by rw [a1, a2, a3]; exact hf.free, by rw [a2]; exact hf.pl, by rw [a3]; exact hf.rights, by rw [a1]; exact hf.own⟩
    obtain ⟨k, hk⟩ := List.getElem?_of_mem hn
    exact b2 k n hk
  · obtain ⟨x, hx, a1, a2, _⟩ := hd1.at' i x' hx'
    obtain ⟨z0, hz, b1, b2, _⟩ := hd1.at' j z' hz'
    rw [a1, a2, b1, b2]
    rw [a1] at h0
    exact h.u i j x z0 hij hx hz h0
  · obtain ⟨S, hS, hSq⟩ := hd.2
    have hS' : d.Q = M.quotes ++ S := hS
    rw [hS'] at hq
    rcases List.mem_append.1 hq with hq | hq
    · exact h.q q hq
    · have := hSq q hq
      exact ⟨by rw [this.1]; exact (h.e ei y hy).log, this.2⟩
theorem enterD_good {M : MachD} {e word fuel : Int} (h : Good M) (h0 : (enterD M e word fuel).2.2 = 0) : Good (enterD M e word fuel).1 := by
  unfold enterD at h0 ⊢
  by_cases h1 : mayF M e 2 fuel = 0
  · rw [if_neg (by simpa using h1)] at h0 ⊢
    by_cases h2 : word < 0 ∨ 65535 < word
    · rw [if_pos h2] at h0; simp [noRun] at h0
    rw [if_neg h2]
    obtain ⟨k, y, rfl, _, hy, hs⟩ := askF_encl (mayF_ok h1).1 (by decide)
    rw [show ((k : Int) + 1 - 1).toNat = k by omega, hy]
    refine ranD_good h _ hy (by omega) rfl (fun k m hk => ?_)
    rcases k with _ | _ | _ | _ | k
    all_goals
      simp at hk
      try subst hk
      try omega
  · rw [if_pos h1] at h0; exact absurd h0 h1
theorem resumeD_good {M : MachD} {e fuel : Int} (h : Good M) (h0 : (resumeD M e fuel).2.2 = 0) : Good (resumeD M e fuel).1 := by
  unfold resumeD at h0 ⊢
  by_cases h1 : mayF M e 3 fuel = 0
  · rw [if_neg (by simpa using h1)] at h0 ⊢
    obtain ⟨k, y, rfl, _, hy, hs⟩ := askF_encl (mayF_ok h1).1 (by decide)
    rw [show ((k : Int) + 1 - 1).toNat = k by omega, hy]
    have hw := stopped_words h.mf hy hs
    exact ranD_good h _ hy hw.1 rfl hw.2
  · rw [if_pos h1] at h0; exact absurd h0 h1

theorem askD_ok {C : ChalD} (h : chalF C = 0) (h0 : (askD C).2.2 = 0) : chalF (askD C).1 = 0 := by
  unfold askD at h0 ⊢
  rw [if_neg (by simpa using h)] at h0 ⊢
  by_cases h1 : C.nonces.length = 20
  · rw [if_pos h1] at h0; simp at h0
  rw [if_neg h1]
  have hl := chalF_le h
  unfold chalF at h ⊢
  by_cases h2 : (decide (4 < C.trusts.length) || decide (20 < C.nonces.length)) = true
  · rw [if_pos h2] at h; omega
  rw [if_neg h2] at h
  rw [if_neg (by simp; omega)]
  by_cases h3 : (C.trusts.any longB || C.nonces.any fun n => !inR n 0 1) = true
  · rw [if_pos h3] at h; omega
  rw [if_neg]
  simp only [Bool.not_eq_true, Bool.or_eq_false_iff] at h3 ⊢
  refine ⟨h3.1, ?_⟩
  rw [List.any_append, h3.2]
  rfl
theorem lookD_ok {C : ChalD} {L : List QuoteD} {q : QuoteD} (h : chalF C = 0) (h0 : (lookD C L q).2 = 0) : chalF (lookD C L q).1 = 0 := by
  have key : lookD C L q = (⟨C.trusts, C.nonces.set (q.data - 1).toNat 1⟩, 0) := by
    unfold lookD at h0 ⊢
    rw [if_neg (by simpa using h)] at h0 ⊢
    split at h0
    · simp at h0
    rename_i h1
    rw [if_neg h1]
    split at h0
    · simp at h0
    rename_i h2
    rw [if_neg h2]
    split at h0
    · simp at h0
    rename_i h3
    rw [if_neg h3]
    split at h0
    · simp at h0
    rename_i h4
    rw [if_neg h4]
  rw [key]
  have hl := chalF_le h
  unfold chalF at h ⊢
  by_cases h2 : (decide (4 < C.trusts.length) || decide (20 < C.nonces.length)) = true
  · rw [if_pos h2] at h; omega
  rw [if_neg h2] at h
  rw [if_neg (by simp; omega)]
  by_cases h3 : (C.trusts.any longB || C.nonces.any fun n => !inR n 0 1) = true
  · rw [if_pos h3] at h; omega
  rw [if_neg]
  simp only [Bool.not_eq_true, Bool.or_eq_false_iff] at h3 ⊢
  refine ⟨h3.1, ?_⟩
  have h4 := List.any_eq_false.1 h3.2
  rw [List.any_eq_false]
  intro n hn
  rcases List.mem_or_eq_of_mem_set hn with hn | rfl
  · exact h4 n hn
  · decide

/-- A host that may be. -/
def HostOk (h : HostD) : Prop := Good h.m ∧ chalF h.c = 0
theorem keepM_ok {h : HostD} {m : MachD} {n c : Int} (hh : HostOk h) (hm : c = 0 → Good m) : HostOk (keepM h m n c).1 := by
  unfold keepM
  split
  · exact hh
  · rename_i h0
    exact ⟨hm (by simpa using h0), hh.2⟩
theorem keepC_ok {h : HostD} {d : ChalD} {n c : Int} (hh : HostOk h) (hd : c = 0 → chalF d = 0) : HostOk (keepC h d n c).1 := by
  unfold keepC
  split
  · exact hh
  · rename_i h0
    exact ⟨hh.1, hd (by simpa using h0)⟩
theorem keepR_ok {h : HostD} {r : MachD × (Int × Int) × Int} (hh : HostOk h) (hm : r.2.2 = 0 → Good r.1) : HostOk (keepR h r).1 := by
  unfold keepR
  split
  · exact hh
  · rename_i h0
    exact ⟨hm (by simpa using h0), hh.2⟩
theorem actD_ok {h : HostD} (a : ActD) (hh : HostOk h) : HostOk (actD h a).1 := by
  unfold actD
  by_cases h1 : a.kind = 1
  · rw [if_pos h1]; exact keepM_ok hh (createD_good hh.1)
  rw [if_neg h1]
  by_cases h2 : a.kind = 2
  · rw [if_pos h2]; exact keepM_ok hh (putD_good hh.1)
  rw [if_neg h2]
  by_cases h3 : a.kind = 3
  · rw [if_pos h3]; exact keepM_ok hh (measD_good hh.1)
  rw [if_neg h3]
  by_cases h4 : a.kind = 4
  · rw [if_pos h4]; exact keepM_ok hh (startD_good hh.1)
  rw [if_neg h4]
  by_cases h5 : a.kind = 5
  · rw [if_pos h5]; exact keepM_ok hh (removeD_good hh.1)
  rw [if_neg h5]
  by_cases h6 : a.kind = 6
  · rw [if_pos h6]; exact keepM_ok hh (fun _ => hh.1)
  rw [if_neg h6]
  by_cases h7 : a.kind = 7
  · rw [if_pos h7]; exact keepM_ok hh (pokeD_good hh.1)
  rw [if_neg h7]
  by_cases h8 : a.kind = 8
  · rw [if_pos h8]; exact keepR_ok hh (enterD_good hh.1)
  rw [if_neg h8]
  by_cases h9 : a.kind = 9
  · rw [if_pos h9]; exact keepR_ok hh (resumeD_good hh.1)
  rw [if_neg h9]
  by_cases h10 : a.kind = 10
  · rw [if_pos h10]; exact keepC_ok hh (askD_ok hh.2)
  rw [if_neg h10]
  by_cases h11 : a.kind = 11
  · rw [if_pos h11]
    by_cases h12 : a.pl < 0 ∨ (h.m.quotes.length : Int) ≤ a.pl
    · rw [if_pos h12]; exact hh
    · rw [if_neg h12]; exact keepC_ok hh (lookD_ok hh.2)
  · rw [if_neg h11]; exact hh
theorem actsD_ok (L : List ActD) {h : HostD} (hh : HostOk h) : HostOk (actsD h L).1 := by
  induction L generalizing h with
  | nil => exact hh
  | cons a l ih => exact ih (actD_ok a hh)
theorem newD_good : Good newD := good_of (by kernel_rfl)

end Go.Proofs.YtklbbjionoeofaaGreatDoor

namespace Go.Proofs.YtklbbjionoeofaaGreatDoor
open Go.RowKit

structure MBox (b : Nat) (fa : Option Addr) (fc : Nat) (ea : Option Addr) (ec : Nat) (qa : Option Addr) (qc : Nat) (M : MachD) (W : World) : Prop where
  c0 : W.cell? ⟨b, 0, none⟩ = some (.slice fa M.frames.length fc)
  c1 : W.cell? ⟨b, 1, none⟩ = some (.slice ea M.encl.length ec)
  c2 : W.cell? ⟨b, 2, none⟩ = some (.slice qa M.quotes.length qc)
  cz : ∀ o, W.frozen? ⟨b, o, none⟩ = false
  bt : BlkT W b 29
  m : MachFrom 0 W (.agg #[.slice fa M.frames.length fc, .slice ea M.encl.length ec, .slice qa M.quotes.length qc]) M
structure OBox (b : Nat) (o v : Int) (W : World) : Prop where
  c0 : W.cell? ⟨b, 0, none⟩ = some (.int .i64 o)
  c1 : W.cell? ⟨b, 1, none⟩ = some (.int .i64 v)
  cz : ∀ o, W.frozen? ⟨b, o, none⟩ = false
  bt : BlkT W b 52
section
variable {b b' : Nat} {fa ea qa fa' ea' qa' : Option Addr} {fc ec qc fc' ec' qc' : Nat} {M M' : MachD} {W W' : World} {o v o' v' : Int}
theorem MachFrom.parts {base : Nat} {x : Value} (h : MachFrom base W x M) : ∃ fa fc ea ec qa qc, x = .agg #[.slice fa M.frames.length fc, .slice ea M.encl.length ec, .slice qa M.quotes.length qc] := by
  obtain ⟨fa, fc, ea, ec, qa, qc, rfl, _⟩ := h.at
  exact ⟨fa, fc, ea, ec, qa, qc, rfl⟩
theorem MBox.lt (h : MBox b fa fc ea ec qa qc M W) : b < W.heap.size := World.block_lt_of_cell? W _ h.c0
theorem OBox.lt (h : OBox b o v W) : b < W.heap.size := World.block_lt_of_cell? W _ h.c0
theorem MBox.at (h : MBox b fa fc ea ec qa qc M W) : MachAt W (.agg #[.slice fa M.frames.length fc, .slice ea M.encl.length ec, .slice qa M.quotes.length qc]) M := h.m.at
theorem MBox.new {base : Nat} (h : MachFrom base W (.agg #[.slice fa M.frames.length fc, .slice ea M.encl.length ec, .slice qa M.quotes.length qc]) M) :
    MBox W.heap.size fa fc ea ec qa qc M (W.alloc (.cells #[.slice fa M.frames.length fc, .slice ea M.encl.length ec, .slice qa M.quotes.length qc] 29)) :=
  ⟨by go_simp, by go_simp, by go_simp, fun o => by go_simp, BlkT.new rfl _ _, (h.mono (Nat.zero_le _)).below (below_alloc _ _)⟩
theorem OBox.new (W : World) (o v : Int) : OBox W.heap.size o v (W.alloc (.cells #[.int .i64 o, .int .i64 v] 52)) :=
  ⟨by go_simp, by go_simp, fun o => by go_simp, BlkT.new rfl _ _⟩
theorem MBox.later (h : MBox b fa fc ea ec qa qc M W) (hb : Below W.heap.size W W') : MBox b fa fc ea ec qa qc M W' :=
  ⟨cell_later hb h.c0, cell_later hb h.c1, cell_later hb h.c2, fun o => by rw [(bcell hb).2 _ _ h.lt]; exact h.cz o, h.bt.below hb, h.m.below hb⟩
theorem OBox.later (h : OBox b o v W) (hb : Below W.heap.size W W') : OBox b o v W' :=
  ⟨cell_later hb h.c0, cell_later hb h.c1, fun o => by rw [(bcell hb).2 _ _ h.lt]; exact h.cz o, h.bt.below hb⟩
theorem far_frozen {a : Addr} {u : Value} {b o : Nat} (h : b ≠ a.block) : (W.setCell a u).frozen? ⟨b, o, none⟩ = W.frozen? ⟨b, o, none⟩ :=
  World.frozen?_of_block (w := W) (Below.heap_setCell W a u b h)
theorem MBox.far {t : TypeId} (h : MBox b fa fc ea ec qa qc M W) (hn : b ≠ b') (hT : BlkT W b' t) (h1 : 73 ≠ t) (h2 : 77 ≠ t) (h3 : 71 ≠ t) (h4 : 3 ≠ t) (k : Nat) (u : Value) : MBox b fa fc ea ec qa qc M (W.setCell ⟨b', k, none⟩ u) :=
  ⟨(far_set hn).trans h.c0, (far_set hn).trans h.c1, (far_set hn).trans h.c2, fun o => (far_frozen hn).trans (h.cz o), h.bt.set _ _, h.m.setT hT h1 h2 h3 h4 k u⟩
theorem OBox.far (h : OBox b o v W) (hn : b ≠ b') (k : Nat) (u : Value) : OBox b o v (W.setCell ⟨b', k, none⟩ u) :=
  ⟨(far_set hn).trans h.c0, (far_set hn).trans h.c1, fun o => (far_frozen hn).trans (h.cz o), h.bt.set _ _⟩
/-- Another machine's box written. -/
theorem MBox.farM (h : MBox b fa fc ea ec qa qc M W) (hn : b ≠ b') (hT : BlkT W b' 29) (u0 u1 u2 : Value) : MBox b fa fc ea ec qa qc M (((W.setCell ⟨b', 0, none⟩ u0).setCell ⟨b', 1, none⟩ u1).setCell ⟨b', 2, none⟩ u2) :=
  ((h.far hn hT (by decide) (by decide) (by decide) (by decide) 0 u0).far hn (hT.set _ _) (by decide) (by decide) (by decide) (by decide) 1 u1).far hn ((hT.set _ _).set _ _) (by decide) (by decide) (by decide) (by decide) 2 u2
theorem MBox.farO (h : MBox b fa fc ea ec qa qc M W) (hn : b ≠ b') (hT : BlkT W b' 52) (u0 u1 : Value) : MBox b fa fc ea ec qa qc M ((W.setCell ⟨b', 0, none⟩ u0).setCell ⟨b', 1, none⟩ u1) :=
  (h.far hn hT (by decide) (by decide) (by decide) (by decide) 0 u0).far hn (hT.set _ _) (by decide) (by decide) (by decide) (by decide) 1 u1
theorem OBox.farM (h : OBox b o v W) (hn : b ≠ b') (u0 u1 u2 : Value) : OBox b o v (((W.setCell ⟨b', 0, none⟩ u0).setCell ⟨b', 1, none⟩ u1).setCell ⟨b', 2, none⟩ u2) := ((h.far hn 0 u0).far hn 1 u1).far hn 2 u2
theorem OBox.farO (h : OBox b o v W) (hn : b ≠ b') (u0 u1 : Value) : OBox b o v ((W.setCell ⟨b', 0, none⟩ u0).setCell ⟨b', 1, none⟩ u1) := (h.far hn 0 u0).far hn 1 u1
/-- The box written itself. -/
theorem MBox.put (h : MBox b fa fc ea ec qa qc M W) (h' : MachFrom 0 W (.agg #[.slice fa' M'.frames.length fc', .slice ea' M'.encl.length ec', .slice qa' M'.quotes.length qc']) M') :
    MBox b fa' fc' ea' ec' qa' qc' M' (((W.setCell ⟨b, 0, none⟩ (.slice fa' M'.frames.length fc')).setCell ⟨b, 1, none⟩ (.slice ea' M'.encl.length ec')).setCell ⟨b, 2, none⟩ (.slice qa' M'.quotes.length qc')) := by
  have c0 := h.c0
  have c1 := h.c1
  have c2 := h.c2
  have cz := h.cz
  have bt := h.bt
  exact ⟨by go_simp, by go_simp, by go_simp, fun o => by go_simp, ((bt.set _ _).set _ _).set _ _, ((h'.setT bt (by decide) (by decide) (by decide) (by decide) 0 _).setT (bt.set _ _) (by decide) (by decide) (by decide) (by decide) 1 _).setT ((bt.set _ _).set _ _) (by decide) (by decide) (by decide) (by decide) 2 _⟩
theorem OBox.put (h : OBox b o v W) (o' v' : Int) : OBox b o' v' ((W.setCell ⟨b, 0, none⟩ (.int .i64 o')).setCell ⟨b, 1, none⟩ (.int .i64 v')) := by
  have c0 := h.c0
  have c1 := h.c1
  have cz := h.cz
  have bt := h.bt
  exact ⟨by go_simp, by go_simp, fun o => by go_simp, (bt.set _ _).set _ _⟩
end

end Go.Proofs.YtklbbjionoeofaaGreatDoor

namespace Go.Proofs.YtklbbjionoeofaaGreatDoor
open Go.RowKit

theorem blk_ne {W : World} {b b' : Nat} {t t' : TypeId} (h : BlkT W b t) (h' : BlkT W b' t') (hn : t ≠ t') : b ≠ b' := by
  rintro rfl
  obtain ⟨c1, f1, g1⟩ := h
  obtain ⟨c2, f2, g2⟩ := h'
  rw [g1] at g2
  injection g2 with g3
  injection g3 with _ g4 _
  exact hn g4
structure CBx (b : Nat) (ta : Option Addr) (tc : Nat) (na : Option Addr) (nc : Nat) (C : ChalD) (W : World) : Prop where
  c0 : W.cell? ⟨b, 0, none⟩ = some (.slice ta C.trusts.length tc)
  c1 : W.cell? ⟨b, 1, none⟩ = some (.slice na C.nonces.length nc)
  cz : ∀ o, W.frozen? ⟨b, o, none⟩ = false
  bt : BlkT W b 32
  c : ChalFrom 0 W (.agg #[.slice ta C.trusts.length tc, .slice na C.nonces.length nc]) C
structure XBx (b : Nat) (code n : Int) (W : World) : Prop where
  c0 : W.cell? ⟨b, 0, none⟩ = some (.int .i64 code)
  c1 : W.cell? ⟨b, 1, none⟩ = some (.int .i64 n)
  cz : ∀ o, W.frozen? ⟨b, o, none⟩ = false
  bt : BlkT W b 39
structure ABx (b : Nat) (a : ActD) (W : World) : Prop where
  a0 : W.cell? ⟨b, 0, none⟩ = some (.int .i64 a.kind)
  a1 : W.cell? ⟨b, 1, none⟩ = some (.int .i64 a.e)
  a2 : W.cell? ⟨b, 2, none⟩ = some (.int .i64 a.f)
  a3 : W.cell? ⟨b, 3, none⟩ = some (.int .i64 a.pl)
  a4 : W.cell? ⟨b, 4, none⟩ = some (.int .i64 a.rights)
  a5 : W.cell? ⟨b, 5, none⟩ = some (.int .i64 a.n)
  a6 : W.cell? ⟨b, 6, none⟩ = some (.int .i64 a.fuel)
  bt : BlkT W b 48
section
variable {b b' : Nat} {ta na ta' na' : Option Addr} {tc nc tc' nc' : Nat} {C C' : ChalD} {W W' : World} {code n : Int} {a : ActD} {t : TypeId}
theorem CBx.lt (h : CBx b ta tc na nc C W) : b < W.heap.size := World.block_lt_of_cell? W _ h.c0
theorem CBx.later (h : CBx b ta tc na nc C W) (hb : Below W.heap.size W W') : CBx b ta tc na nc C W' :=
  ⟨cell_later hb h.c0, cell_later hb h.c1, fun o => by rw [(bcell hb).2 _ _ h.lt]; exact h.cz o, h.bt.below hb, h.c.below hb⟩
theorem CBx.far (h : CBx b ta tc na nc C W) (hT : BlkT W b' t) (hn : b ≠ b') (h1 : 9 ≠ t) (h2 : 3 ≠ t) (k : Nat) (u : Value) : CBx b ta tc na nc C (W.setCell ⟨b', k, none⟩ u) :=
  ⟨(far_set hn).trans h.c0, (far_set hn).trans h.c1, fun o => (far_frozen hn).trans (h.cz o), h.bt.set _ _, h.c.setT hT h1 h2 k u⟩
theorem CBx.put (h : CBx b ta tc na nc C W) (h' : ChalFrom 0 W (.agg #[.slice ta' C'.trusts.length tc', .slice na' C'.nonces.length nc']) C') :
    CBx b ta' tc' na' nc' C' ((W.setCell ⟨b, 0, none⟩ (.slice ta' C'.trusts.length tc')).setCell ⟨b, 1, none⟩ (.slice na' C'.nonces.length nc')) := by
  have c0 := h.c0
  have c1 := h.c1
  have cz := h.cz
  have bt := h.bt
  exact ⟨by go_simp, by go_simp, fun o => by go_simp, (bt.set _ _).set _ _, (h'.setT bt (by decide) (by decide) 0 _).setT (bt.set _ _) (by decide) (by decide) 1 _⟩
theorem CBx.new {base : Nat} (hn : W.heap.size = b) (h : ChalFrom base W (.agg #[.slice ta C.trusts.length tc, .slice na C.nonces.length nc]) C) : CBx b ta tc na nc C (W.alloc (.cells #[.slice ta C.trusts.length tc, .slice na C.nonces.length nc] 32)) := by
  subst hn
  exact ⟨by go_simp, by go_simp, fun o => by go_simp, BlkT.new rfl _ _, (h.mono (Nat.zero_le _)).below (below_alloc _ _)⟩
theorem XBx.lt (h : XBx b code n W) : b < W.heap.size := World.block_lt_of_cell? W _ h.c0
theorem XBx.later (h : XBx b code n W) (hb : Below W.heap.size W W') : XBx b code n W' :=
  ⟨cell_later hb h.c0, cell_later hb h.c1, fun o => by rw [(bcell hb).2 _ _ h.lt]; exact h.cz o, h.bt.below hb⟩
theorem XBx.far (h : XBx b code n W) (hn : b ≠ b') (k : Nat) (u : Value) : XBx b code n (W.setCell ⟨b', k, none⟩ u) :=
  ⟨(far_set hn).trans h.c0, (far_set hn).trans h.c1, fun o => (far_frozen hn).trans (h.cz o), h.bt.set _ _⟩
theorem XBx.setCode (h : XBx b code n W) (k : Int) : XBx b k n (W.setCell ⟨b, 0, none⟩ (.int .i64 k)) := by
  have c0 := h.c0
  have c1 := h.c1
  have cz := h.cz
  exact ⟨by go_simp, by go_simp, fun o => by go_simp, h.bt.set _ _⟩
theorem XBx.setN (h : XBx b code n W) (k : Int) : XBx b code k (W.setCell ⟨b, 1, none⟩ (.int .i64 k)) := by
  have c0 := h.c0
  have c1 := h.c1
  have cz := h.cz
  exact ⟨by go_simp, by go_simp, fun o => by go_simp, h.bt.set _ _⟩
theorem ABx.later (h : ABx b a W) (hb : Below W.heap.size W W') : ABx b a W' :=
  ⟨cell_later hb h.a0, cell_later hb h.a1, cell_later hb h.a2, cell_later hb h.a3, cell_later hb h.a4, cell_later hb h.a5, cell_later hb h.a6, h.bt.below hb⟩
theorem ABx.far (h : ABx b a W) (hn : b ≠ b') (k : Nat) (u : Value) : ABx b a (W.setCell ⟨b', k, none⟩ u) :=
  ⟨(far_set hn).trans h.a0, (far_set hn).trans h.a1, (far_set hn).trans h.a2, (far_set hn).trans h.a3, (far_set hn).trans h.a4, (far_set hn).trans h.a5, (far_set hn).trans h.a6, h.bt.set _ _⟩
end
/-- The boxes of the results: empty so far. -/
structure ResSt (w : World) (W : World) : Prop where
  r0 : W.cell? ⟨w.heap.size, 0, none⟩ = some (.slice none 0 0)
  r1 : W.cell? ⟨w.heap.size, 1, none⟩ = some (.slice none 0 0)
  r2 : W.cell? ⟨w.heap.size, 2, none⟩ = some (.slice none 0 0)
  rz : ∀ o, W.frozen? ⟨w.heap.size, o, none⟩ = false
  q0 : W.cell? ⟨w.heap.size + 1, 0, none⟩ = some (.slice none 0 0)
  q1 : W.cell? ⟨w.heap.size + 1, 1, none⟩ = some (.slice none 0 0)
  qz : ∀ o, W.frozen? ⟨w.heap.size + 1, o, none⟩ = false
  lt : w.heap.size + 1 < W.heap.size
theorem ResSt.later {w W W' : World} (h : ResSt w W) (hb : Below W.heap.size W W') : ResSt w W' :=
  ⟨cell_later hb h.r0, cell_later hb h.r1, cell_later hb h.r2, fun o => by rw [(bcell hb).2 _ _ (by have := h.lt; omega)]; exact h.rz o, cell_later hb h.q0, cell_later hb h.q1, fun o => by rw [(bcell hb).2 _ _ h.lt]; exact h.qz o, by have := h.lt; have := hb.size; omega⟩
theorem ResSt.far {w W : World} (h : ResSt w W) {b : Nat} (hb : w.heap.size + 2 ≤ b) (k : Nat) (u : Value) : ResSt w (W.setCell ⟨b, k, none⟩ u) :=
  ⟨(far_set (by simp only; omega)).trans h.r0, (far_set (by simp only; omega)).trans h.r1, (far_set (by simp only; omega)).trans h.r2, fun o => (far_frozen (by simp only; omega)).trans (h.rz o), (far_set (by simp only; omega)).trans h.q0, (far_set (by simp only; omega)).trans h.q1, fun o => (far_frozen (by simp only; omega)).trans (h.qz o), by simpa [World.setCell] using h.lt⟩
/-- Between two acts: the machine, the challenger, the answers. -/
structure ScSt (w : World) (mb cb : Nat) (h : HostD) (X : List AnsD) (ov : Value) (W : World) : Prop where
  below : Below w.heap.size w W
  lm : w.heap.size + 2 ≤ mb
  lc : w.heap.size + 2 ≤ cb
  r : ResSt w W
  m : ∃ fa fc ea ec qa qc, MBox mb fa fc ea ec qa qc h.m W
  c : ∃ ta tc na nc, CBx cb ta tc na nc h.c W
  own : W.ownsRow (w.heap.size + 2) 39 2 ov X.length (X.flatMap AnsD.cs)
theorem ScSt.later {w : World} {mb cb : Nat} {h : HostD} {X : List AnsD} {ov : Value} {W W' : World} (H : ScSt w mb cb h X ov W) (hb : Below W.heap.size W W') : ScSt w mb cb h X ov W' := by
  obtain ⟨fa, fc, ea, ec, qa, qc, hm⟩ := H.m
  obtain ⟨ta, tc, na, nc, hc⟩ := H.c
  exact ⟨H.below.trans (hb.mono H.below.size), H.lm, H.lc, H.r.later hb, ⟨_, _, _, _, _, _, hm.later hb⟩, ⟨_, _, _, _, hc.later hb⟩, ownsRow_below H.own hb⟩
/-- In a round: the act, its answer so far, the next machine, the outcome, the next challenger, in boxes. -/
structure RdSt (w : World) (mb cb ab xb nb ob db : Nat) (h : HostD) (X : List AnsD) (ov : Value) (a : ActD) (code n : Int) (M2 : MachD) (oe oo : Int) (C2 : ChalD) (W : World) : Prop where
  s : ScSt w mb cb h X ov W
  ln : w.heap.size + 2 ≤ nb
  lx : w.heap.size + 2 ≤ xb
  lo : w.heap.size + 2 ≤ ob
  ld : w.heap.size + 2 ≤ db
  mn : mb ≠ nb
  cd : cb ≠ db
  nx : ∀ k, ov.ownBlock = some k → k ≠ xb
  a : ABx ab a W
  x : XBx xb code n W
  n : ∃ fa fc ea ec qa qc, MBox nb fa fc ea ec qa qc M2 W
  o : OBox ob oe oo W
  d : ∃ ta tc na nc, CBx db ta tc na nc C2 W
section
variable {w W W' : World} {mb cb ab xb nb ob db : Nat} {h : HostD} {X : List AnsD} {ov : Value} {a : ActD} {code n : Int} {M2 M3 : MachD} {oe oo : Int} {C2 C3 : ChalD}
theorem RdSt.later (H : RdSt w mb cb ab xb nb ob db h X ov a code n M2 oe oo C2 W) (hb : Below W.heap.size W W') : RdSt w mb cb ab xb nb ob db h X ov a code n M2 oe oo C2 W' := by
  obtain ⟨fa, fc, ea, ec, qa, qc, hn⟩ := H.n
  obtain ⟨ta, tc, na, nc, hd⟩ := H.d
  exact ⟨H.s.later hb, H.ln, H.lx, H.lo, H.ld, H.mn, H.cd, H.nx, H.a.later hb, H.x.later hb, ⟨_, _, _, _, _, _, hn.later hb⟩, H.o.later hb, ⟨_, _, _, _, hd.later hb⟩⟩
/-- A cell of a box of another type than answers' written: what lies between two acts stays. -/
theorem ScSt.far (H : ScSt w mb cb h X ov W) {b : Nat} {t : TypeId} (hT : BlkT W b t) (hl : w.heap.size + 2 ≤ b) (h1 : mb ≠ b) (h2 : cb ≠ b) (t1 : 73 ≠ t) (t2 : 77 ≠ t) (t3 : 71 ≠ t) (t4 : 3 ≠ t) (t5 : 9 ≠ t) (ho : ∀ k, ov.ownBlock = some k → k ≠ b) (k : Nat) (u : Value) :
    ScSt w mb cb h X ov (W.setCell ⟨b, k, none⟩ u) := by
  obtain ⟨fa, fc, ea, ec, qa, qc, hm⟩ := H.m
  obtain ⟨ta, tc, na, nc, hc⟩ := H.c
  exact ⟨below_at H.below (by omega) _ _, H.lm, H.lc, H.r.far hl k u, ⟨_, _, _, _, _, _, hm.far h1 hT t1 t2 t3 t4 k u⟩, ⟨_, _, _, _, hc.far hT h2 t5 t4 k u⟩, ownsRow_setCell_ne H.own (a := ⟨b, k, none⟩) (ho) u⟩
theorem RdSt.setCode (H : RdSt w mb cb ab xb nb ob db h X ov a code n M2 oe oo C2 W) (k : Int) : RdSt w mb cb ab xb nb ob db h X ov a k n M2 oe oo C2 (W.setCell ⟨xb, 0, none⟩ (.int .i64 k)) := by
  obtain ⟨fa, fc, ea, ec, qa, qc, hn⟩ := H.n
  obtain ⟨ta, tc, na, nc, hd⟩ := H.d
  obtain ⟨_, _, _, _, _, _, hm⟩ := H.s.m
  obtain ⟨_, _, _, _, hc⟩ := H.s.c
  have bx := H.x.bt
  exact ⟨H.s.far bx H.lx (blk_ne hm.bt bx (by decide)) (blk_ne hc.bt bx (by decide)) (by decide) (by decide) (by decide) (by decide) (by decide) H.nx 0 _, H.ln, H.lx, H.lo, H.ld, H.mn, H.cd, H.nx, H.a.far (blk_ne H.a.bt bx (by decide)) 0 _, H.x.setCode k,
    ⟨_, _, _, _, _, _, hn.far (blk_ne hn.bt bx (by decide)) bx (by decide) (by decide) (by decide) (by decide) 0 _⟩, H.o.far (blk_ne H.o.bt bx (by decide)) 0 _, ⟨_, _, _, _, hd.far bx (blk_ne hd.bt bx (by decide)) (by decide) (by decide) 0 _⟩⟩
theorem RdSt.setN (H : RdSt w mb cb ab xb nb ob db h X ov a code n M2 oe oo C2 W) (k : Int) : RdSt w mb cb ab xb nb ob db h X ov a code k M2 oe oo C2 (W.setCell ⟨xb, 1, none⟩ (.int .i64 k)) := by
  obtain ⟨fa, fc, ea, ec, qa, qc, hn⟩ := H.n
  obtain ⟨ta, tc, na, nc, hd⟩ := H.d
  obtain ⟨_, _, _, _, _, _, hm⟩ := H.s.m
  obtain ⟨_, _, _, _, hc⟩ := H.s.c
  have bx := H.x.bt
  exact ⟨H.s.far bx H.lx (blk_ne hm.bt bx (by decide)) (blk_ne hc.bt bx (by decide)) (by decide) (by decide) (by decide) (by decide) (by decide) H.nx 1 _, H.ln, H.lx, H.lo, H.ld, H.mn, H.cd, H.nx, H.a.far (blk_ne H.a.bt bx (by decide)) 1 _, H.x.setN k,
    ⟨_, _, _, _, _, _, hn.far (blk_ne hn.bt bx (by decide)) bx (by decide) (by decide) (by decide) (by decide) 1 _⟩, H.o.far (blk_ne H.o.bt bx (by decide)) 1 _, ⟨_, _, _, _, hd.far bx (blk_ne hd.bt bx (by decide)) (by decide) (by decide) 1 _⟩⟩
theorem RdSt.ownNo (H : RdSt w mb cb ab xb nb ob db h X ov a code n M2 oe oo C2 W) {b : Nat} {t : TypeId} (hT : BlkT W b t) (ht : 39 ≠ t) : ∀ k, ov.ownBlock = some k → k ≠ b := fun k hk e => own_type H.s.own hT ht k hk e
theorem RdSt.setO1 (H : RdSt w mb cb ab xb nb ob db h X ov a code n M2 oe oo C2 W) (o v : Int) : RdSt w mb cb ab xb nb ob db h X ov a code n M2 o v C2 ((W.setCell ⟨ob, 0, none⟩ (.int .i64 o)).setCell ⟨ob, 1, none⟩ (.int .i64 v)) := by
  obtain ⟨fa, fc, ea, ec, qa, qc, hn⟩ := H.n
  obtain ⟨ta, tc, na, nc, hd⟩ := H.d
  obtain ⟨_, _, _, _, _, _, hm⟩ := H.s.m
  obtain ⟨_, _, _, _, hc⟩ := H.s.c
  have bx := H.o.bt
  have by' := bx.set ⟨ob, 0, none⟩ (.int .i64 o)
  have e1 := blk_ne hm.bt bx (by decide)
  have e2 := blk_ne hc.bt bx (by decide)
  have e3 := blk_ne H.a.bt bx (by decide)
  have e4 := blk_ne H.x.bt bx (by decide)
  have e5 := blk_ne hn.bt bx (by decide)
  have e6 := blk_ne hd.bt bx (by decide)
  have e7 := H.ownNo bx (by decide)
  exact ⟨(H.s.far bx H.lo e1 e2 (by decide) (by decide) (by decide) (by decide) (by decide) e7 0 _).far by' H.lo e1 e2 (by decide) (by decide) (by decide) (by decide) (by decide) e7 1 _, H.ln, H.lx, H.lo, H.ld, H.mn, H.cd, H.nx, (H.a.far e3 0 _).far e3 1 _, (H.x.far e4 0 _).far e4 1 _,
    ⟨_, _, _, _, _, _, (hn.far e5 bx (by decide) (by decide) (by decide) (by decide) 0 _).far e5 by' (by decide) (by decide) (by decide) (by decide) 1 _⟩, H.o.put o v, ⟨_, _, _, _, (hd.far bx e6 (by decide) (by decide) 0 _).far by' e6 (by decide) (by decide) 1 _⟩⟩
theorem RdSt.setNext (H : RdSt w mb cb ab xb nb ob db h X ov a code n M2 oe oo C2 W) {fa ea qa : Option Addr} {fc ec qc : Nat} (h' : MachFrom 0 W (.agg #[.slice fa M3.frames.length fc, .slice ea M3.encl.length ec, .slice qa M3.quotes.length qc]) M3) :
    RdSt w mb cb ab xb nb ob db h X ov a code n M3 oe oo C2 (((W.setCell ⟨nb, 0, none⟩ (.slice fa M3.frames.length fc)).setCell ⟨nb, 1, none⟩ (.slice ea M3.encl.length ec)).setCell ⟨nb, 2, none⟩ (.slice qa M3.quotes.length qc)) := by
  obtain ⟨_, _, _, _, _, _, hn⟩ := H.n
  obtain ⟨ta, tc, na, nc, hd⟩ := H.d
  obtain ⟨_, _, _, _, _, _, hm⟩ := H.s.m
  obtain ⟨_, _, _, _, hc⟩ := H.s.c
  have b0 := hn.bt
  have b1 := b0.set ⟨nb, 0, none⟩ (.slice fa M3.frames.length fc)
  have b2 := b1.set ⟨nb, 1, none⟩ (.slice ea M3.encl.length ec)
  have e2 := blk_ne hc.bt b0 (by decide)
  have e3 := blk_ne H.a.bt b0 (by decide)
  have e4 := blk_ne H.x.bt b0 (by decide)
  have e5 := blk_ne H.o.bt b0 (by decide)
  have e6 := blk_ne hd.bt b0 (by decide)
  have e7 := H.ownNo b0 (by decide)
  exact ⟨((H.s.far b0 H.ln H.mn e2 (by decide) (by decide) (by decide) (by decide) (by decide) e7 0 _).far b1 H.ln H.mn e2 (by decide) (by decide) (by decide) (by decide) (by decide) e7 1 _).far b2 H.ln H.mn e2 (by decide) (by decide) (by decide) (by decide) (by decide) e7 2 _,
    H.ln, H.lx, H.lo, H.ld, H.mn, H.cd, H.nx, ((H.a.far e3 0 _).far e3 1 _).far e3 2 _, ((H.x.far e4 0 _).far e4 1 _).far e4 2 _, ⟨_, _, _, _, _, _, hn.put h'⟩, ((H.o.far e5 0 _).far e5 1 _).far e5 2 _,
    ⟨_, _, _, _, ((hd.far b0 e6 (by decide) (by decide) 0 _).far b1 e6 (by decide) (by decide) 1 _).far b2 e6 (by decide) (by decide) 2 _⟩⟩
theorem RdSt.setD (H : RdSt w mb cb ab xb nb ob db h X ov a code n M2 oe oo C2 W) {ta na : Option Addr} {tc nc : Nat} (h' : ChalFrom 0 W (.agg #[.slice ta C3.trusts.length tc, .slice na C3.nonces.length nc]) C3) :
    RdSt w mb cb ab xb nb ob db h X ov a code n M2 oe oo C3 ((W.setCell ⟨db, 0, none⟩ (.slice ta C3.trusts.length tc)).setCell ⟨db, 1, none⟩ (.slice na C3.nonces.length nc)) := by
  obtain ⟨_, _, _, _, _, _, hn⟩ := H.n
  obtain ⟨_, _, _, _, hd⟩ := H.d
  obtain ⟨_, _, _, _, _, _, hm⟩ := H.s.m
  obtain ⟨_, _, _, _, hc⟩ := H.s.c
  have b0 := hd.bt
  have b1 := b0.set ⟨db, 0, none⟩ (.slice ta C3.trusts.length tc)
  have e1 := blk_ne hm.bt b0 (by decide)
  have e3 := blk_ne H.a.bt b0 (by decide)
  have e4 := blk_ne H.x.bt b0 (by decide)
  have e5 := blk_ne H.o.bt b0 (by decide)
  have e6 := blk_ne hn.bt b0 (by decide)
  have e7 := H.ownNo b0 (by decide)
  exact ⟨(H.s.far b0 H.ld e1 H.cd (by decide) (by decide) (by decide) (by decide) (by decide) e7 0 _).far b1 H.ld e1 H.cd (by decide) (by decide) (by decide) (by decide) (by decide) e7 1 _,
    H.ln, H.lx, H.lo, H.ld, H.mn, H.cd, H.nx, (H.a.far e3 0 _).far e3 1 _, (H.x.far e4 0 _).far e4 1 _, ⟨_, _, _, _, _, _, (hn.far e6 b0 (by decide) (by decide) (by decide) (by decide) 0 _).far e6 b1 (by decide) (by decide) (by decide) (by decide) 1 _⟩, (H.o.far e5 0 _).far e5 1 _, ⟨_, _, _, _, hd.put h'⟩⟩
/-- What was next is now. -/
theorem RdSt.moveM (H : RdSt w mb cb ab xb nb ob db h X ov a code n M2 oe oo C2 W) {fa ea qa : Option Addr} {fc ec qc : Nat} (h' : MachFrom 0 W (.agg #[.slice fa M2.frames.length fc, .slice ea M2.encl.length ec, .slice qa M2.quotes.length qc]) M2) :
    RdSt w mb cb ab xb nb ob db ⟨M2, h.c⟩ X ov a code n M2 oe oo C2 (((W.setCell ⟨mb, 0, none⟩ (.slice fa M2.frames.length fc)).setCell ⟨mb, 1, none⟩ (.slice ea M2.encl.length ec)).setCell ⟨mb, 2, none⟩ (.slice qa M2.quotes.length qc)) := by
  obtain ⟨_, _, _, _, _, _, hn⟩ := H.n
  obtain ⟨ta, tc, na, nc, hd⟩ := H.d
  obtain ⟨_, _, _, _, _, _, hm⟩ := H.s.m
  obtain ⟨_, _, _, _, hc⟩ := H.s.c
  have b0 := hm.bt
  have b1 := b0.set ⟨mb, 0, none⟩ (.slice fa M2.frames.length fc)
  have b2 := b1.set ⟨mb, 1, none⟩ (.slice ea M2.encl.length ec)
  have e2 := blk_ne hc.bt b0 (by decide)
  have e3 := blk_ne H.a.bt b0 (by decide)
  have e4 := blk_ne H.x.bt b0 (by decide)
  have e5 := blk_ne H.o.bt b0 (by decide)
  have e6 := blk_ne hd.bt b0 (by decide)
  have lm := H.s.lm
  exact ⟨⟨below_low3 H.s.below (by omega) _ _ _, H.s.lm, H.s.lc, ((H.s.r.far H.s.lm 0 _).far H.s.lm 1 _).far H.s.lm 2 _, ⟨_, _, _, _, _, _, hm.put h'⟩, ⟨_, _, _, _, ((hc.far b0 e2 (by decide) (by decide) 0 _).far b1 e2 (by decide) (by decide) 1 _).far b2 e2 (by decide) (by decide) 2 _⟩,
      ownsRow_set3 H.s.own (own_type H.s.own b0 (by decide)) _ _ _ _ _ _⟩,
    H.ln, H.lx, H.lo, H.ld, H.mn, H.cd, H.nx, ((H.a.far e3 0 _).far e3 1 _).far e3 2 _, ((H.x.far e4 0 _).far e4 1 _).far e4 2 _, ⟨_, _, _, _, _, _, hn.farM H.mn.symm b0 _ _ _⟩, ((H.o.far e5 0 _).far e5 1 _).far e5 2 _,
    ⟨_, _, _, _, ((hd.far b0 e6 (by decide) (by decide) 0 _).far b1 e6 (by decide) (by decide) 1 _).far b2 e6 (by decide) (by decide) 2 _⟩⟩
theorem RdSt.moveC (H : RdSt w mb cb ab xb nb ob db h X ov a code n M2 oe oo C2 W) {ta na : Option Addr} {tc nc : Nat} (h' : ChalFrom 0 W (.agg #[.slice ta C2.trusts.length tc, .slice na C2.nonces.length nc]) C2) :
    RdSt w mb cb ab xb nb ob db ⟨h.m, C2⟩ X ov a code n M2 oe oo C2 ((W.setCell ⟨cb, 0, none⟩ (.slice ta C2.trusts.length tc)).setCell ⟨cb, 1, none⟩ (.slice na C2.nonces.length nc)) := by
  obtain ⟨_, _, _, _, _, _, hn⟩ := H.n
  obtain ⟨_, _, _, _, hd⟩ := H.d
  obtain ⟨_, _, _, _, _, _, hm⟩ := H.s.m
  obtain ⟨_, _, _, _, hc⟩ := H.s.c
  have b0 := hc.bt
  have b1 := b0.set ⟨cb, 0, none⟩ (.slice ta C2.trusts.length tc)
  have e1 := blk_ne hm.bt b0 (by decide)
  have e3 := blk_ne H.a.bt b0 (by decide)
  have e4 := blk_ne H.x.bt b0 (by decide)
  have e5 := blk_ne H.o.bt b0 (by decide)
  have e6 := blk_ne hn.bt b0 (by decide)
  have e7 := H.ownNo b0 (by decide)
  have lc := H.s.lc
  exact ⟨⟨below_low2 H.s.below (by omega) _ _, H.s.lm, H.s.lc, (H.s.r.far H.s.lc 0 _).far H.s.lc 1 _, ⟨_, _, _, _, _, _, (hm.far e1 b0 (by decide) (by decide) (by decide) (by decide) 0 _).far e1 b1 (by decide) (by decide) (by decide) (by decide) 1 _⟩, ⟨_, _, _, _, hc.put h'⟩,
      ownsRow_setCell_ne (ownsRow_setCell_ne H.s.own (a := ⟨cb, 0, none⟩) e7 _) (a := ⟨cb, 1, none⟩) e7 _⟩,
    H.ln, H.lx, H.lo, H.ld, H.mn, H.cd, H.nx, (H.a.far e3 0 _).far e3 1 _, (H.x.far e4 0 _).far e4 1 _, ⟨_, _, _, _, _, _, (hn.far e6 b0 (by decide) (by decide) (by decide) (by decide) 0 _).far e6 b1 (by decide) (by decide) (by decide) (by decide) 1 _⟩, (H.o.far e5 0 _).far e5 1 _,
    ⟨_, _, _, _, (hd.far b0 H.cd.symm (by decide) (by decide) 0 _).far b1 H.cd.symm (by decide) (by decide) 1 _⟩⟩
end

end Go.Proofs.YtklbbjionoeofaaGreatDoor

namespace Go.Proofs.YtklbbjionoeofaaGreatDoor
open Go.RowKit

/-- What a round leaves, of what its kind's arm left. -/
def finD (h : HostD) (code n : Int) (M2 : MachD) (oe oo : Int) (C2 : ChalD) : HostD × AnsD :=
  if code = 0 then (⟨M2, C2⟩, if oe = 1 then ⟨0, oo⟩ else if oe = 2 then ⟨9, n⟩ else if oe = 3 then ⟨10, n⟩ else ⟨0, n⟩) else (h, ⟨code, 0⟩)
theorem fin_keepM (h : HostD) (m : MachD) (n c : Int) : finD h c n m 0 0 h.c = keepM h m n c := by
  by_cases hc : c = 0
  · subst hc; rfl
  · rw [finD, if_neg hc, keepM, if_pos hc]
theorem fin_keepC (h : HostD) (d : ChalD) (n c : Int) : finD h c n h.m 0 0 d = keepC h d n c := by
  by_cases hc : c = 0
  · subst hc; rfl
  · rw [finD, if_neg hc, keepC, if_pos hc]
theorem fin_keepR (h : HostD) (r : MachD × (Int × Int) × Int) (hr : r.2.2 = 0 → r.2.1.1 = 1 ∨ r.2.1.1 = 2 ∨ r.2.1.1 = 3) : finD h r.2.2 0 r.1 r.2.1.1 r.2.1.2 h.c = keepR h r := by
  by_cases hc : r.2.2 = 0
  · simp only [finD, keepR, ranA, hc, if_true, ne_eq, not_true_eq_false, if_false]
    rcases hr hc with e | e | e <;> simp [e]
  · rw [finD, if_neg hc, keepR, if_pos hc]
theorem ranD_end (M : MachD) (i : Nat) (y : EnclD) (pc : Int) (R : List Int) (n : Nat) : (ranD M i y pc R n).2.1.1 = 1 ∨ (ranD M i y pc R n).2.1.1 = 2 ∨ (ranD M i y pc R n).2.1.1 = 3 := by
  simp only [ranD]
  rcases runM_encl (e := (i : Int) + 1) (g := y.log) n (core0 M pc R) with ⟨_, h⟩ | ⟨_, h⟩ | ⟨_, v, h⟩ <;> rw [h] <;> simp
theorem noRun_no {f : Int} (h : (noRun f).2.2 = 0) (hf : f ≠ 0) : False := hf h
theorem enterD_end (M : MachD) (e word fuel : Int) (h0 : (enterD M e word fuel).2.2 = 0) : (enterD M e word fuel).2.1.1 = 1 ∨ (enterD M e word fuel).2.1.1 = 2 ∨ (enterD M e word fuel).2.1.1 = 3 := by
  unfold enterD at h0 ⊢
  by_cases h1 : mayF M e 2 fuel ≠ 0
  · rw [if_pos h1] at h0; exact absurd h0 h1
  rw [if_neg h1] at h0 ⊢
  by_cases h2 : word < 0 ∨ 65535 < word
  · rw [if_pos h2] at h0; simp [noRun] at h0
  rw [if_neg h2] at h0 ⊢
  cases hy : M.encl[(e - 1).toNat]? with
  | none => rw [hy] at h0; simp [noRun] at h0
  | some y => exact ranD_end _ _ _ _ _ _
theorem resumeD_end (M : MachD) (e fuel : Int) (h0 : (resumeD M e fuel).2.2 = 0) : (resumeD M e fuel).2.1.1 = 1 ∨ (resumeD M e fuel).2.1.1 = 2 ∨ (resumeD M e fuel).2.1.1 = 3 := by
  unfold resumeD at h0 ⊢
  by_cases h1 : mayF M e 3 fuel ≠ 0
  · rw [if_pos h1] at h0; exact absurd h0 h1
  rw [if_neg h1] at h0 ⊢
  cases hy : M.encl[(e - 1).toNat]? with
  | none => rw [hy] at h0; simp [noRun] at h0
  | some y => exact ranD_end _ _ _ _ _ _
section
variable (h : HostD) (e f p r n u : Int)
theorem fin1 : finD h (createD h.m).2.2 (createD h.m).2.1 (createD h.m).1 0 0 h.c = actD h ⟨1, e, f, p, r, n, u⟩ := (fin_keepM _ _ _ _).trans rfl
theorem fin2 : finD h (putD h.m e f p r).2 0 (putD h.m e f p r).1 0 0 h.c = actD h ⟨2, e, f, p, r, n, u⟩ := (fin_keepM _ _ _ _).trans rfl
theorem fin3 : finD h (measD h.m e p).2 0 (measD h.m e p).1 0 0 h.c = actD h ⟨3, e, f, p, r, n, u⟩ := (fin_keepM _ _ _ _).trans rfl
theorem fin4 : finD h (startD h.m e).2 0 (startD h.m e).1 0 0 h.c = actD h ⟨4, e, f, p, r, n, u⟩ := (fin_keepM _ _ _ _).trans rfl
theorem fin5 : finD h (removeD h.m e).2 0 (removeD h.m e).1 0 0 h.c = actD h ⟨5, e, f, p, r, n, u⟩ := (fin_keepM _ _ _ _).trans rfl
theorem fin6 : finD h (peekD h.m f p).2 (peekD h.m f p).1 h.m 0 0 h.c = actD h ⟨6, e, f, p, r, n, u⟩ := (fin_keepM _ _ _ _).trans rfl
theorem fin7 : finD h (pokeD h.m f p n).2 0 (pokeD h.m f p n).1 0 0 h.c = actD h ⟨7, e, f, p, r, n, u⟩ := (fin_keepM _ _ _ _).trans rfl
theorem fin8 : finD h (enterD h.m e n u).2.2 0 (enterD h.m e n u).1 (enterD h.m e n u).2.1.1 (enterD h.m e n u).2.1.2 h.c = actD h ⟨8, e, f, p, r, n, u⟩ := (fin_keepR _ _ (enterD_end _ _ _ _)).trans rfl
theorem fin9 : finD h (resumeD h.m e u).2.2 0 (resumeD h.m e u).1 (resumeD h.m e u).2.1.1 (resumeD h.m e u).2.1.2 h.c = actD h ⟨9, e, f, p, r, n, u⟩ := (fin_keepR _ _ (resumeD_end _ _ _)).trans rfl
theorem fin10 : finD h (askD h.c).2.2 (askD h.c).2.1 h.m 0 0 (askD h.c).1 = actD h ⟨10, e, f, p, r, n, u⟩ := (fin_keepC _ _ _ _).trans rfl
theorem fin11no (hp : p < 0 ∨ (h.m.quotes.length : Int) ≤ p) : finD h 5 0 h.m 0 0 h.c = actD h ⟨11, e, f, p, r, n, u⟩ := by
  simp [actD, hp, finD]
theorem fin11 {i : Nat} {q : QuoteD} (hq : h.m.quotes[i]? = some q) : finD h (lookD h.c h.m.quotes q).2 0 h.m 0 0 (lookD h.c h.m.quotes q).1 = actD h ⟨11, e, f, i, r, n, u⟩ := by
  have hi : i < h.m.quotes.length := (List.getElem?_eq_some_iff.1 hq).1
  have hge : ¬ ((h.m.quotes.length : Int) ≤ (i : Int)) := by omega
  have h0i : ¬ ((i : Int) < 0) := by omega
  rw [fin_keepC]
  simp [actD, quoteOf, hq, hge, h0i]
theorem fin0 {k : Int} (k1 : k ≠ 1) (k2 : k ≠ 2) (k3 : k ≠ 3) (k4 : k ≠ 4) (k5 : k ≠ 5) (k6 : k ≠ 6) (k7 : k ≠ 7) (k8 : k ≠ 8) (k9 : k ≠ 9) (k10 : k ≠ 10) (k11 : k ≠ 11) : finD h 3 0 h.m 0 0 h.c = actD h ⟨k, e, f, p, r, n, u⟩ := by
  simp [actD, k1, k2, k3, k4, k5, k6, k7, k8, k9, k10, k11, finD]
end

section
variable {w W W' : World} {mb cb : Nat} {h : HostD} {X : List AnsD} {ov : Value} {b : Nat} {M : MachD} {C : ChalD} {fa ea qa ta na : Option Addr} {fc ec qc tc nc : Nat}
theorem ABx.new (hn : W.heap.size = b) (a : ActD) : ABx b a (W.alloc (.cells #[.int .i64 a.kind, .int .i64 a.e, .int .i64 a.f, .int .i64 a.pl, .int .i64 a.rights, .int .i64 a.n, .int .i64 a.fuel] 48)) := by
  subst hn
  exact ⟨by go_simp, by go_simp, by go_simp, by go_simp, by go_simp, by go_simp, by go_simp, BlkT.new rfl _ _⟩
theorem XBx.new (hn : W.heap.size = b) (c n : Int) : XBx b c n (W.alloc (.cells #[.int .i64 c, .int .i64 n] 39)) := by
  subst hn
  exact ⟨by go_simp, by go_simp, fun o => by go_simp, BlkT.new rfl _ _⟩
theorem OBox.new' (hn : W.heap.size = b) (c n : Int) : OBox b c n (W.alloc (.cells #[.int .i64 c, .int .i64 n] 52)) := by
  subst hn
  exact OBox.new W c n
theorem MBox.new' {base : Nat} (hn : W.heap.size = b) (h : MachFrom base W (.agg #[.slice fa M.frames.length fc, .slice ea M.encl.length ec, .slice qa M.quotes.length qc]) M) : MBox b fa fc ea ec qa qc M (W.alloc (.cells #[.slice fa M.frames.length fc, .slice ea M.encl.length ec, .slice qa M.quotes.length qc] 29)) := by
  subst hn
  exact MBox.new h
/-- A round's boxes, just laid. -/
theorem RdSt.start (H : ScSt w mb cb h X ov W) (hm : MBox mb fa fc ea ec qa qc h.m W) (hc : CBx cb ta tc na nc h.c W) (a : ActD) :
    RdSt w mb cb W.heap.size (W.heap.size + 1) (W.heap.size + 1 + 1) (W.heap.size + 1 + 1 + 1) (W.heap.size + 1 + 1 + 1 + 1) h X ov a 0 0 h.m 0 0 h.c
      (((((W.alloc (.cells #[.int .i64 a.kind, .int .i64 a.e, .int .i64 a.f, .int .i64 a.pl, .int .i64 a.rights, .int .i64 a.n, .int .i64 a.fuel] 48)).alloc (.cells #[.int .i64 0, .int .i64 0] 39)).alloc (.cells #[.slice fa h.m.frames.length fc, .slice ea h.m.encl.length ec, .slice qa h.m.quotes.length qc] 29)).alloc (.cells #[.int .i64 0, .int .i64 0] 52)).alloc (.cells #[.slice ta h.c.trusts.length tc, .slice na h.c.nonces.length nc] 32)) := by
  have l1 := hm.lt
  have l2 := hc.lt
  have l3 := H.r.lt
  have hb := H.below.size
  have y1 : ∀ X Y Z U, ABx W.heap.size a (((((W.alloc (.cells #[.int .i64 a.kind, .int .i64 a.e, .int .i64 a.f, .int .i64 a.pl, .int .i64 a.rights, .int .i64 a.n, .int .i64 a.fuel] 48)).alloc X).alloc Y).alloc Z).alloc U) := fun X Y Z U => (ABx.new rfl a).later (by go_grown)
  have y2 : ∀ X Y Z U, XBx (W.heap.size + 1) 0 0 (((((W.alloc X).alloc (.cells #[.int .i64 0, .int .i64 0] 39)).alloc Y).alloc Z).alloc U) := fun X Y Z U => (XBx.new (W := W.alloc X) (by simp) 0 0).later (by go_grown)
  have y3 : ∀ X Y Z U, MBox (W.heap.size + 1 + 1) fa fc ea ec qa qc h.m (((((W.alloc X).alloc Y).alloc (.cells #[.slice fa h.m.frames.length fc, .slice ea h.m.encl.length ec, .slice qa h.m.quotes.length qc] 29)).alloc Z).alloc U) :=
    fun X Y Z U => (MBox.new' (W := (W.alloc X).alloc Y) (by simp) (hm.m.below (by go_grown))).later (by go_grown)
  have y4 : ∀ X Y Z U, OBox (W.heap.size + 1 + 1 + 1) 0 0 (((((W.alloc X).alloc Y).alloc Z).alloc (.cells #[.int .i64 0, .int .i64 0] 52)).alloc U) := fun X Y Z U => (OBox.new' (W := ((W.alloc X).alloc Y).alloc Z) (by simp) 0 0).later (by go_grown)
  have y5 : ∀ X Y Z U, CBx (W.heap.size + 1 + 1 + 1 + 1) ta tc na nc h.c (((((W.alloc X).alloc Y).alloc Z).alloc U).alloc (.cells #[.slice ta h.c.trusts.length tc, .slice na h.c.nonces.length nc] 32)) :=
    fun X Y Z U => CBx.new (W := (((W.alloc X).alloc Y).alloc Z).alloc U) (by simp) (hc.c.below (by go_grown))
  exact ⟨H.later (by go_grown), by omega, by omega, by omega, by omega, by omega, by omega, fun k hk => by have := (H.own.lt k hk).2; omega,
    y1 _ _ _ _, y2 _ _ _ _, ⟨_, _, _, _, _, _, y3 _ _ _ _⟩, y4 _ _ _ _, ⟨_, _, _, _, y5 _ _ _ _⟩⟩
theorem ResSt.grown (H : ResSt w W) {base n : Nat} {xs : List Value} (ho : W.ownsRow base 39 2 ov n xs) (hb : w.heap.size + 2 ≤ base) (hg : W.grownBy W' ov.ownBlock) : ResSt w W' := by
  have n0 : some w.heap.size ≠ ov.ownBlock := fun e => by have := (ho.lt _ e.symm).1; omega
  have n1 : some (w.heap.size + 1) ≠ ov.ownBlock := fun e => by have := (ho.lt _ e.symm).1; omega
  have hl := H.lt
  have hs := hg.size
  exact ⟨hg.cell H.r0 n0, hg.cell H.r1 n0, hg.cell H.r2 n0, fun o => by rw [hg.frozen_far ⟨w.heap.size, o, none⟩ (by simp only; omega) n0]; exact H.rz o, hg.cell H.q0 n1, hg.cell H.q1 n1,
    fun o => by rw [hg.frozen_far ⟨w.heap.size + 1, o, none⟩ (by simp only; omega) n1]; exact H.qz o, by omega⟩
theorem MBox.grownAns (H : MBox mb fa fc ea ec qa qc M W) {base n : Nat} {xs : List Value} (ho : W.ownsRow base 39 2 ov n xs) (hg : W.grownBy W' ov.ownBlock) : MBox mb fa fc ea ec qa qc M W' := by
  cases hv : ov.ownBlock with
  | none => rw [hv] at hg; exact H.later (grownBy_none hg)
  | some g =>
    rw [hv] at hg
    have hb := own_blk ho hv
    have hne : mb ≠ g := fun e => by
      subst e
      exact own_type ho H.bt (by decide) _ hv rfl
    have hne' : some mb ≠ some g := fun e => hne (Option.some.inj e)
    obtain ⟨cs, fr, hbt⟩ := H.bt
    exact ⟨hg.cell H.c0 hne', hg.cell H.c1 hne', hg.cell H.c2 hne', fun o => by rw [hg.frozen_far ⟨mb, o, none⟩ H.lt hne']; exact H.cz o, ⟨cs, fr, (hg.block mb H.lt hne').trans hbt⟩, H.m.grownT hb (by decide) (by decide) (by decide) (by decide) hg⟩
theorem CBx.grownAns (H : CBx cb ta tc na nc C W) {base n : Nat} {xs : List Value} (ho : W.ownsRow base 39 2 ov n xs) (hg : W.grownBy W' ov.ownBlock) : CBx cb ta tc na nc C W' := by
  cases hv : ov.ownBlock with
  | none => rw [hv] at hg; exact H.later (grownBy_none hg)
  | some g =>
    rw [hv] at hg
    have hb := own_blk ho hv
    have hne : cb ≠ g := fun e => by
      subst e
      exact own_type ho H.bt (by decide) _ hv rfl
    have hne' : some cb ≠ some g := fun e => hne (Option.some.inj e)
    obtain ⟨cs, fr, hbt⟩ := H.bt
    exact ⟨hg.cell H.c0 hne', hg.cell H.c1 hne', fun o => by rw [hg.frozen_far ⟨cb, o, none⟩ H.lt hne']; exact H.cz o, ⟨cs, fr, (hg.block cb H.lt hne').trans hbt⟩, H.c.grownT hb (by decide) (by decide) hg⟩
theorem ScSt.push (H : ScSt w mb cb h X ov W) {x : AnsD} {v' : Value} {n : Nat} (hr : W'.ownsRow (w.heap.size + 2) 39 2 v' n (X.flatMap AnsD.cs ++ x.cs)) (hn : n = X.length + 1) (hg : W.grownBy W' ov.ownBlock) : ScSt w mb cb h (X ++ [x]) v' W' := by
  subst hn
  obtain ⟨fa, fc, ea, ec, qa, qc, hm⟩ := H.m
  obtain ⟨ta, tc, na, nc, hc⟩ := H.c
  have hz := H.r.lt
  exact ⟨H.below.grown hg (by omega) (fun k hk => by have := (H.own.lt _ hk).1; omega), H.lm, H.lc, H.r.grown H.own (Nat.le_refl _) hg, ⟨_, _, _, _, _, _, hm.grownAns H.own hg⟩, ⟨_, _, _, _, hc.grownAns H.own hg⟩, by simpa using hr⟩
end

end Go.Proofs.YtklbbjionoeofaaGreatDoor
