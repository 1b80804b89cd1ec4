/- A machine that may be, as facts; each act keeps it so. Plain laws; no program is walked.
What a run of an enclave leaves of a machine; every act keeps a machine good. Plain laws; no program is walked.
image.Plan, walked, at an image that may be and a place that is there. Conditions: those.
An image that is built as it is planned: what the acts do, one by one. Plain laws; no program is walked.
A machine with an image of raw things as its first enclave, as plain data. No program is walked. -/
import Derived.Test.YtbamacddfonloaaDoorHostPlain
import Derived.Test.YtbamacddfonloaaDoorGo
import Derived.Test.YtbamacddfonloaaDoorGr
import Derived.Test.YtbamacddfonloaaDoorHostRunSt
import Derived.Test.YtbamacddfonloaaDoorGs
namespace Go.Proofs.YtbamacddfonloaaDoor
open Go.RowKit

structure EnclOk (y : EnclD) : Prop where
  lo : 0 ≤ y.state
  hi : y.state ≤ 4
  log : y.log.size ≤ 1000
  empty : y.state = 0 → y.log.toList = []
  run : y.state = 3 → (0 ≤ y.pc ∧ y.pc ≤ 65535) ∧ (0 ≤ y.r0 ∧ y.r0 ≤ 65535) ∧ (0 ≤ y.r1 ∧ y.r1 ≤ 65535) ∧ (0 ≤ y.r2 ∧ y.r2 ≤ 65535) ∧ (0 ≤ y.r3 ∧ y.r3 ≤ 65535)
  rest : y.state ≠ 3 → y.pc = 0 ∧ y.r0 = 0 ∧ y.r1 = 0 ∧ y.r2 = 0 ∧ y.r3 = 0
theorem inR_iff {n a b : Int} : inR n a b = true ↔ a ≤ n ∧ n ≤ b := by simp [inR]
theorem wordRegs_iff (y : EnclD) : wordRegs y = true ↔ ((0 ≤ y.r0 ∧ y.r0 ≤ 65535) ∧ (0 ≤ y.r1 ∧ y.r1 ≤ 65535) ∧ (0 ≤ y.r2 ∧ y.r2 ≤ 65535) ∧ (0 ≤ y.r3 ∧ y.r3 ≤ 65535)) := by
  simp [wordRegs, inR]
theorem zeroRegs_iff (y : EnclD) : zeroRegs y = true ↔ (y.r0 = 0 ∧ y.r1 = 0 ∧ y.r2 = 0 ∧ y.r3 = 0) := by simp [zeroRegs]
theorem enclB_iff (y : EnclD) : enclB y = true ↔ EnclOk y := by
  have e1 : (!enclB.longB' y.log) = true ↔ y.log.size ≤ 1000 := by simp [enclB.longB']
  have e2 : (!(y.state == 0 && !y.log.toList.isEmpty)) = true ↔ (y.state = 0 → y.log.toList = []) := by
    simp only [Bool.not_eq_true', Bool.and_eq_false_imp, beq_iff_eq, Bool.not_eq_false', List.isEmpty_iff]
  unfold enclB
  simp only [Bool.and_eq_true, inR_iff, e1, e2]
  by_cases h3 : y.state = 3
  · rw [if_pos h3]
    simp only [Bool.and_eq_true, inR_iff, wordRegs_iff]
    exact ⟨fun ⟨⟨⟨a, b⟩, c⟩, d⟩ => ⟨a.1, a.2, b, c, fun _ => d, fun h => absurd h3 h⟩, fun h => ⟨⟨⟨⟨h.lo, h.hi⟩, h.log⟩, h.empty⟩, h.run h3⟩⟩
  · rw [if_neg h3]
    simp only [Bool.and_eq_true, beq_iff_eq, zeroRegs_iff]
    exact ⟨fun ⟨⟨⟨a, b⟩, c⟩, d⟩ => ⟨a.1, a.2, b, c, fun h => absurd h h3, fun _ => d⟩, fun h => ⟨⟨⟨⟨h.lo, h.hi⟩, h.log⟩, h.empty⟩, h.rest h3⟩⟩

structure FrOk (E : List EnclD) (x : FrameD) : Prop where
  len : x.words.length = 8
  w : ∀ n ∈ x.words, 0 ≤ n ∧ n ≤ 65535
  lo : 0 ≤ x.owner
  hi : x.owner ≤ 4
  free : x.owner = 0 → x.pl = 0 ∧ x.rights = 0
  pl : 0 ≤ x.pl ∧ x.pl ≤ 7
  rights : 0 ≤ x.rights ∧ x.rights ≤ 7
  own : x.owner ≠ 0 → stateAt E (x.owner - 1) ≠ 0
theorem wordsB_iff (l : List Int) : wordsB l = true ↔ l.length = 8 ∧ ∀ n ∈ l, 0 ≤ n ∧ n ≤ 65535 := by
  simp [wordsB, inR]
theorem pageF_iff (p r : Int) (l : List Int) : pageF p r l = 0 ↔ (0 ≤ p ∧ p ≤ 7) ∧ (0 ≤ r ∧ r ≤ 7) ∧ wordsB l = true := by
  unfold pageF
  by_cases h : (inR p 0 7 && inR r 0 7) = true
  · rw [if_pos h]
    simp only [Bool.and_eq_true, inR_iff] at h
    by_cases h2 : wordsB l = true
    · simp [h2, h]
    · simp [h2]
  · rw [if_neg h]
    simp only [Bool.and_eq_true, inR_iff] at h
    constructor
    · intro h3; omega
    · intro h3; exact absurd ⟨h3.1, h3.2.1⟩ h
theorem frB_iff (E : List EnclD) (pre : List FrameD) (f : FrameD) : frB E pre f = true ↔ FrOk E f ∧ (f.owner ≠ 0 → ∀ g ∈ pre, ¬ (g.owner = f.owner ∧ g.pl = f.pl)) := by
  unfold frB
  simp only [Bool.and_eq_true, wordsB_iff, inR_iff]
  by_cases h0 : f.owner = 0
  · rw [if_pos h0]
    simp only [Bool.and_eq_true, beq_iff_eq]
    constructor
    · rintro ⟨⟨⟨a, b⟩, c⟩, d⟩
      exact ⟨⟨a, b, c.1, c.2, fun _ => d, by omega, by omega, fun h => absurd h0 h⟩, fun h => absurd h0 h⟩
    · rintro ⟨h, _⟩
      exact ⟨⟨⟨h.len, h.w⟩, h.lo, h.hi⟩, h.free h0⟩
  · rw [if_neg h0]
    have e : (!(pre.any (twinB f.owner f.pl))) = true ↔ ∀ g ∈ pre, ¬ (g.owner = f.owner ∧ g.pl = f.pl) := by
      simp [twinB]
    simp only [Bool.and_eq_true, beq_iff_eq, pageF_iff, wordsB_iff, e, Bool.not_eq_true', beq_eq_false_iff_ne]
    constructor
    · rintro ⟨⟨⟨a, b⟩, c⟩, d, ⟨e1, e2, _⟩, g⟩
      exact ⟨⟨a, b, c.1, c.2, fun h => absurd h h0, e1, e2, fun _ => d⟩, fun _ => g⟩
    · rintro ⟨h, h2⟩
      exact ⟨⟨⟨h.len, h.w⟩, h.lo, h.hi⟩, h.own h0, ⟨h.pl, h.rights, h.len, h.w⟩, h2 h0⟩
theorem frAll_iff (E : List EnclD) (l : List FrameD) : ∀ (pre : List FrameD), frAll E pre l = true ↔ ∀ (i : Nat) (x : FrameD), l[i]? = some x → frB E (pre ++ l.take i) x = true := by
  induction l with
  | nil => intro pre; simp [frAll]
  | cons y l ih =>
    intro pre
    rw [frAll, Bool.and_eq_true, ih]
    constructor
    · rintro ⟨h1, h2⟩ i x hx
      cases i with
      | zero => simp only [List.getElem?_cons_zero, Option.some.injEq] at hx; subst hx; simpa using h1
      | succ i =>
        simp only [List.getElem?_cons_succ] at hx
        have := h2 i x hx
        simpa using this
    · intro h
      refine ⟨by simpa using h 0 y rfl, fun i x hx => ?_⟩
      have := h (i + 1) x (by simpa using hx)
      simpa using this
/-- A machine that may be. -/
structure Good (M : MachD) : Prop where
  fl : M.frames.length = 24
  el : M.encl.length = 4
  ql : M.quotes.length ≤ 40
  e : ∀ (k : Nat) (y : EnclD), M.encl[k]? = some y → EnclOk y
  f : ∀ (i : Nat) (x : FrameD), M.frames[i]? = some x → FrOk M.encl x
  u : ∀ (i j : Nat) (x y : FrameD), i ≠ j → M.frames[i]? = some x → M.frames[j]? = some y → x.owner ≠ 0 → ¬ (y.owner = x.owner ∧ y.pl = x.pl)
  q : ∀ q ∈ M.quotes, q.log.size ≤ 1000 ∧ 0 ≤ q.data ∧ q.data ≤ 65535
theorem quoteB_iff (q : QuoteD) : quoteB q = true ↔ q.log.size ≤ 1000 ∧ 0 ≤ q.data ∧ q.data ≤ 65535 := by simp [quoteB, inR]
theorem good_of {M : MachD} (h : machF M = 0) : Good M := by
  obtain ⟨h1, h2, h3⟩ := machF_sizes h
  have hm := machF_machB h
  simp only [machB, Bool.and_eq_true, List.all_eq_true] at hm
  obtain ⟨m1, m2, m3⟩ := hm
  have m4 := (frAll_iff M.encl M.frames []).1 m2
  have lt : ∀ (i j : Nat) (x y : FrameD), j < i → M.frames[i]? = some x → M.frames[j]? = some y → x.owner ≠ 0 → ¬ (y.owner = x.owner ∧ y.pl = x.pl) := fun i j x y hj hx hy h0 => by
    have := ((frB_iff _ _ _).1 (m4 i x hx)).2 h0 y (by
      rw [List.nil_append, List.mem_take_iff_getElem]
      have hjl := (List.getElem?_eq_some_iff.1 hy).1
      exact ⟨j, by omega, (List.getElem?_eq_some_iff.1 hy).2⟩)
    exact this
  refine ⟨h1, h2, h3, fun k y hy => (enclB_iff y).1 (m1 y (List.mem_of_getElem? hy)), fun i x hx => ((frB_iff _ _ _).1 (m4 i x hx)).1, fun i j x y hij hx hy h0 => ?_, fun q hq => (quoteB_iff q).1 (m3 q hq)⟩
  rcases Nat.lt_or_gt_of_ne hij with h | h
  · intro ⟨e1, e2⟩
    exact lt j i y x h hy hx (by rw [e1]; exact h0) ⟨e1.symm, e2.symm⟩
  · exact lt i j x y h hx hy h0
theorem Good.mf {M : MachD} (h : Good M) : machF M = 0 := by
  have hs : sizeB M = true := by simp [sizeB, h.fl, h.el, h.ql]
  have hm : machB M = true := by
    simp only [machB, Bool.and_eq_true, List.all_eq_true]
    refine ⟨fun y hy => ?_, (frAll_iff M.encl M.frames []).2 fun i x hx => (frB_iff _ _ _).2 ⟨h.f i x hx, fun h0 g hg => ?_⟩, fun q hq => (quoteB_iff q).2 (h.q q hq)⟩
    · obtain ⟨k, hk⟩ := List.getElem?_of_mem hy
      exact (enclB_iff y).2 (h.e k y hk)
    · rw [List.nil_append, List.mem_take_iff_getElem] at hg
      obtain ⟨j, hj, hgj⟩ := hg
      exact h.u i j x g (by omega) hx (List.getElem?_eq_some_iff.2 ⟨by omega, hgj⟩) h0
  unfold machF; rw [if_pos hs, if_pos hm]
theorem good_iff {M : MachD} : machF M = 0 ↔ Good M := ⟨good_of, Good.mf⟩

theorem stateAt_set {E : List EnclD} {k : Nat} {y y' : EnclD} (hy : E[k]? = some y) (hs : y.state ≠ 0 → y'.state ≠ 0) {j : Int} (h : stateAt E j ≠ 0) : stateAt (E.set k y') j ≠ 0 := by
  unfold stateAt at h ⊢
  by_cases hj : k = j.toNat
  · subst hj
    rw [List.getElem?_set_self (List.getElem?_eq_some_iff.1 hy).1]
    rw [hy] at h
    exact hs h
  · rw [List.getElem?_set_ne hj]
    exact h
theorem FrOk.setE {E : List EnclD} {k : Nat} {y y' : EnclD} {x : FrameD} (h : FrOk E x) (hy : E[k]? = some y) (hs : y.state ≠ 0 → y'.state ≠ 0) : FrOk (E.set k y') x :=
  ⟨h.len, h.w, h.lo, h.hi, h.free, h.pl, h.rights, fun h0 => stateAt_set hy hs (h.own h0)⟩
theorem get_set {α : Type} {l : List α} {i j : Nat} {x y : α} (h : (l.set i x)[j]? = some y) : (i = j ∧ y = x) ∨ (i ≠ j ∧ l[j]? = some y) := by
  by_cases hij : i = j
  · subst hij
    refine .inl ⟨rfl, ?_⟩
    rw [List.getElem?_set] at h
    simp only [if_true] at h
    split at h
    · exact (Option.some.inj h).symm
    · cases h
  · rw [List.getElem?_set_ne hij] at h
    exact .inr ⟨hij, h⟩
theorem Good.setE {M : MachD} (h : Good M) {k : Nat} {y : EnclD} (hy : M.encl[k]? = some y) {y' : EnclD} (ho : EnclOk y') (hs : y.state ≠ 0 → y'.state ≠ 0) : Good ⟨M.frames, M.encl.set k y', M.quotes⟩ :=
  ⟨h.fl, by simp [h.el], h.ql, fun j z hz => by
    rcases get_set hz with ⟨_, rfl⟩ | ⟨_, hz⟩
    · exact ho
    · exact h.e j z hz, fun i x hx => (h.f i x hx).setE hy hs, h.u, h.q⟩
theorem Good.setF {M : MachD} (h : Good M) {i : Nat} {x x' : FrameD} (_hx : M.frames[i]? = some x) (ho : FrOk M.encl x') (hu : x'.owner ≠ 0 → ∀ (j : Nat) (y : FrameD), j ≠ i → M.frames[j]? = some y → ¬ (y.owner = x'.owner ∧ y.pl = x'.pl)) : Good ⟨M.frames.set i x', M.encl, M.quotes⟩ := by
  refine ⟨by simp [h.fl], h.el, h.ql, h.e, fun j z hz => ?_, fun j k z t hjk hz ht h0 => ?_, h.q⟩
  · rcases get_set hz with ⟨_, rfl⟩ | ⟨_, hz⟩
    · exact ho
    · exact h.f j z hz
  · rcases get_set hz with ⟨e1, e3⟩ | ⟨e1, hz'⟩
    · subst e3
      rcases get_set ht with ⟨e2, _⟩ | ⟨e2, ht'⟩
      · omega
      · exact hu h0 k t (by omega) ht'
    · rcases get_set ht with ⟨e2, e4⟩ | ⟨e2, ht'⟩
      · subst e4
        intro ⟨a, b⟩
        exact hu (by rw [a]; exact h0) j z (by omega) hz' ⟨a.symm, b.symm⟩
      · exact h.u j k z t hjk hz' ht' h0

theorem newEncl_ok : EnclOk newEncl := ⟨by decide, by decide, by decide +kernel, fun h => absurd h (by decide), fun h => absurd h (by decide), fun _ => ⟨rfl, rfl, rfl, rfl, rfl⟩⟩
theorem emptyEncl_ok : EnclOk emptyEncl := ⟨by decide, by decide, by decide, fun _ => by kernel_rfl, fun h => absurd h (by decide), fun _ => ⟨rfl, rfl, rfl, rfl, rfl⟩⟩
theorem createD_good {M : MachD} (h : Good M) (h0 : (createD M).2.2 = 0) : Good (createD M).1 := by
  unfold createD at h0 ⊢
  have hm := h.mf
  by_cases h1 : firstEmpty M < 0
  · rw [if_neg (by simpa using hm), if_pos h1] at h0; simp at h0
  · rw [if_neg (by simpa using hm), if_neg h1]
    have hge : -1 ≤ firstEmpty M := findI_ge
    obtain ⟨i, hi⟩ : ∃ i : Nat, firstEmpty M = i := ⟨(firstEmpty M).toNat, by omega⟩
    obtain ⟨y, hy, _⟩ := findI_get (p := fun x : EnclD => x.state == 0) (l := M.encl) (i := i) hi
    rw [hi, Int.toNat_natCast]
    exact h.setE hy newEncl_ok (fun _ => by decide)
theorem startD_good {M : MachD} {e : Int} (h : Good M) (h0 : (startD M e).2 = 0) : Good (startD M e).1 := by
  unfold startD at h0 ⊢
  by_cases h1 : askF M e 1 = 0
  · rw [if_neg (by simpa using h1)]
    obtain ⟨_, k, y, rfl, hk, hy, hs, hst⟩ := askF_zero h1
    have hst := hst (by decide)
    show Good ⟨M.frames, upd M.encl _ _, M.quotes⟩
    rw [show ((k : Int) + 1 - 1).toNat = k by omega, upd_some hy]
    have ho := h.e k y hy
    exact h.setE hy ⟨show (0 : Int) ≤ 2 by omega, show (2 : Int) ≤ 4 by omega, ho.log, fun h => absurd (show (2 : Int) = 0 from h) (by omega), fun h => absurd (show (2 : Int) = 3 from h) (by omega), fun _ => ho.rest (by omega)⟩ (fun _ => show (2 : Int) ≠ 0 by omega)
  · rw [if_pos h1] at h0; exact absurd h0 h1
theorem measD_good {M : MachD} {e p : Int} (h : Good M) (h0 : (measD M e p).2 = 0) : Good (measD M e p).1 := by
  unfold measD at h0 ⊢
  by_cases h1 : measF M e p = 0
  · rw [if_neg (by simpa using h1)]
    unfold measF at h1
    by_cases h2 : askF M e 1 = 0
    · rw [if_neg (by simpa using h2)] at h1
      by_cases h3 : placeF M.frames e p < 0
      · rw [if_pos h3] at h1; omega
      rw [if_neg h3] at h1
      obtain ⟨_, k, y, rfl, hk, hy, hs, hst⟩ := askF_zero h2
      have hst := hst (by decide)
      rw [enclOf_at hk hy] at h1
      simp only [Option.map_some, Option.getD_some] at h1
      show Good ⟨M.frames, upd M.encl _ _, M.quotes⟩
      rw [show ((k : Int) + 1 - 1).toNat = k by omega, upd_some hy]
      have ho := h.e k y hy
      by_cases h4 : 1000 < y.log.size + (heldOf M ((k : Int) + 1) p).length
      · rw [if_pos h4] at h1; omega
      exact h.setE hy ⟨ho.lo, ho.hi, by simp only [logE, ByteArray.size_append, bytesOf_size]; omega, fun h => absurd (show y.state = 0 from h) hs, fun h => absurd (show y.state = 3 from h) (by omega), fun _ => ho.rest (by omega)⟩ (fun _ => hs)
    · rw [if_pos h2] at h1; exact absurd h1 h2
  · rw [if_pos h1] at h0; exact absurd h0 h1
theorem placeF_none {L : List FrameD} {e q : Int} (h : placeF L e q < 0) (he : 0 < e) {j : Nat} {y : FrameD} (hy : L[j]? = some y) : ¬ (y.owner = e ∧ y.pl = q) := by
  intro ⟨a, b⟩
  have h1 := findI_any (fitsB e q) L
  have h2 : L.any (fitsB e q) = true := List.any_eq_true.2 ⟨y, List.mem_of_getElem? hy, by simp [fitsB, a, b, he]⟩
  rw [h2, decide_eq_true_eq] at h1
  exact absurd h1 (by unfold placeF at h; omega)
theorem putD_good {M : MachD} {e f p r : Int} (h : Good M) (h0 : (putD M e f p r).2 = 0) : Good (putD M e f p r).1 := by
  unfold putD at h0 ⊢
  by_cases h1 : putF M e f p r = 0
  · rw [if_neg (by simpa using h1)]
    unfold putF at h1
    by_cases h2 : askF M e 1 = 0
    · rw [if_neg (by simpa using h2)] at h1
      by_cases h3 : f < 0 ∨ 24 ≤ f
      · rw [if_pos h3] at h1; omega
      rw [if_neg h3] at h1
      by_cases h4 : addF p r = 0
      · rw [if_neg (by simpa using h4)] at h1
        by_cases h5 : (frameOf M f).owner ≠ 0 ∨ 0 ≤ placeF M.frames e p
        · rw [if_pos h5] at h1; omega
        rw [if_neg h5] at h1
        obtain ⟨_, k, y, rfl, hk, hy, hs, hst⟩ := askF_zero h2
        have hst := hst (by decide)
        rw [enclOf_at hk hy] at h1
        simp only [Option.map_some, Option.getD_some] at h1
        obtain ⟨i, rfl⟩ : ∃ i : Nat, f = i := ⟨f.toNat, by omega⟩
        obtain ⟨x, hx⟩ : ∃ x, M.frames[i]? = some x := ⟨_, List.getElem?_eq_getElem (by rw [h.fl]; omega)⟩
        show Good ⟨upd M.frames _ _, upd M.encl _ _, M.quotes⟩
        rw [show ((k : Int) + 1 - 1).toNat = k by omega, upd_some hy, Int.toNat_natCast, upd_some hx]
        have ho := h.e k y hy
        have hfx := h.f i x hx
        have hpr : (0 ≤ p ∧ p ≤ 7) ∧ (0 ≤ r ∧ r ≤ 7) := by
          unfold addF at h4
          by_cases hh : (inR p 0 7 && inR r 0 7) = true
          · simpa [inR] using hh
          · rw [if_neg hh] at h4; omega
        by_cases h6 : 1000 < y.log.size + (addedL p r).length
        · rw [if_pos h6] at h1; omega
        have h7 : placeF M.frames ((k : Int) + 1) p < 0 := by omega
        have hG := h.setF (x' := ownF ((k : Int) + 1) p r x) hx ⟨hfx.len, hfx.w, by simp only [ownF]; omega, by simp only [ownF]; omega, fun e => by simp only [ownF] at e; omega, hpr.1, hpr.2, fun _ => by
          simp only [ownF, stateAt]
          rw [show ((k : Int) + 1 - 1).toNat = k by omega, hy]
          exact hs⟩ (fun _ j z hj hz => placeF_none h7 (by omega) hz)
        exact hG.setE (k := k) (y := y) hy ⟨ho.lo, ho.hi, by simp only [logE, ByteArray.size_append, bytesOf_size]; omega, fun h => absurd (show y.state = 0 from h) hs, fun h => absurd (show y.state = 3 from h) (by omega), fun _ => ho.rest (by omega)⟩ (fun _ => hs)
      · rw [if_pos h4] at h1; omega
    · rw [if_pos h2] at h1; exact absurd h1 h2
  · rw [if_pos h1] at h0; exact absurd h0 h1
theorem words_set {ws : List Int} {k : Nat} {n : Int} (h : ∀ m ∈ ws, 0 ≤ m ∧ m ≤ 65535) (hn : 0 ≤ n ∧ n ≤ 65535) : ∀ m ∈ ws.set k n, 0 ≤ m ∧ m ≤ 65535 := fun m hm => by
  rcases List.mem_or_eq_of_mem_set hm with hm | rfl
  · exact h m hm
  · exact hn
theorem pokeD_good {M : MachD} {f p n : Int} (h : Good M) (h0 : (pokeD M f p n).2 = 0) : Good (pokeD M f p n).1 := by
  unfold pokeD at h0 ⊢
  by_cases h1 : wordF M f p = 0
  · rw [if_neg (by simpa using h1)] at h0 ⊢
    by_cases h2 : n < 0 ∨ 65535 < n
    · rw [if_pos h2] at h0; simp at h0
    rw [if_neg h2]
    by_cases h3 : (frameOf M f).owner = 0
    · rw [if_pos h3]
      unfold wordF at h1
      rw [if_neg (by simpa using h.mf)] at h1
      by_cases h4 : f < 0 ∨ 24 ≤ f ∨ p < 0 ∨ 8 ≤ p
      · rw [if_pos h4] at h1; omega
      obtain ⟨i, rfl⟩ : ∃ i : Nat, f = i := ⟨f.toNat, by omega⟩
      obtain ⟨x, hx⟩ : ∃ x, M.frames[i]? = some x := ⟨_, List.getElem?_eq_getElem (by rw [h.fl]; omega)⟩
      show Good ⟨upd M.frames _ _, M.encl, M.quotes⟩
      rw [Int.toNat_natCast, upd_some hx]
      have hfx := h.f i x hx
      exact h.setF hx ⟨by simp [hfx.len], words_set hfx.w (by omega), hfx.lo, hfx.hi, hfx.free, hfx.pl, hfx.rights, hfx.own⟩ (fun h0 j y hj hy => h.u i j x y (by omega) hx hy h0)
    · rw [if_neg h3]; exact h
  · rw [if_pos h1] at h0; exact absurd h0 h1
theorem bare_ok (E : List EnclD) : FrOk E bare := ⟨rfl, by decide, by decide, by decide, fun _ => ⟨rfl, rfl⟩, by decide, by decide, fun h => absurd rfl h⟩
theorem removeD_good {M : MachD} {e : Int} (h : Good M) (h0 : (removeD M e).2 = 0) : Good (removeD M e).1 := by
  unfold removeD at h0 ⊢
  by_cases h1 : askF M e (-1) = 0
  · rw [if_neg (by simpa using h1)]
    obtain ⟨_, k, y, rfl, hk, hy, hs, _⟩ := askF_zero h1
    rw [show ((k : Int) + 1 - 1).toNat = k by omega]
    refine ⟨by simp [h.fl], by simp [h.el], h.ql, fun j z hz => ?_, fun i x hx => ?_, fun i j x z hij hx hz hne => ?_, h.q⟩
    · rcases get_set hz with ⟨_, rfl⟩ | ⟨_, hz⟩
      · exact emptyEncl_ok
      · exact h.e j z hz
    · simp only [List.getElem?_map, Option.map_eq_some_iff] at hx
      obtain ⟨x0, hx0, rfl⟩ := hx
      split
      · exact bare_ok _
      · rename_i hne
        have hf := h.f i x0 hx0
        refine ⟨hf.len, hf.w, hf.lo, hf.hi, hf.free, hf.pl, hf.rights, fun h0 => ?_⟩
        have := hf.own h0
        have hlo := hf.lo
        unfold stateAt at this ⊢
        rw [List.getElem?_set_ne (by omega)]
        exact this
    · simp only [List.getElem?_map, Option.map_eq_some_iff] at hx hz
      obtain ⟨x0, hx0, rfl⟩ := hx
      obtain ⟨z0, hz0, rfl⟩ := hz
      split at hne
      · exact absurd rfl hne
      · rename_i hx1
        rw [if_neg hx1]
        split
        · intro ⟨a, _⟩
          exact hne a.symm
        · exact h.u i j x0 z0 hij hx0 hz0 hne
  · rw [if_pos h1] at h0; exact absurd h0 h1

end Go.Proofs.YtbamacddfonloaaDoor

namespace Go.Proofs.YtbamacddfonloaaDoor
open Go.RowKit

/-- What the enclave e may have done to frames. -/
structure StepF (e : Int) (F F' : List FrameD) : Prop where
  len : F'.length = F.length
  at' : ∀ (i : Nat) (x' : FrameD), F'[i]? = some x' → ∃ x, F[i]? = some x ∧ x'.owner = x.owner ∧ x'.pl = x.pl ∧ x'.rights = x.rights ∧ (x'.words = x.words ∨ x.owner = 0 ∨ (x.owner = e ∧ hasR x.rights 2 = true))
theorem StepF.refl (e : Int) (F : List FrameD) : StepF e F F := ⟨rfl, fun _ x h => ⟨x, h, rfl, rfl, rfl, .inl rfl⟩⟩
theorem StepF.trans {e : Int} {F G H : List FrameD} (h : StepF e F G) (k : StepF e G H) : StepF e F H :=
  ⟨k.len.trans h.len, fun i x' hx => by
    obtain ⟨y, hy, a1, a2, a3, a4⟩ := k.at' i x' hx
    obtain ⟨x, hx, b1, b2, b3, b4⟩ := h.at' i y hy
    refine ⟨x, hx, a1.trans b1, a2.trans b2, a3.trans b3, ?_⟩
    rcases a4 with a4 | a4 | a4
    · rcases b4 with b4 | b4
      · exact .inl (a4.trans b4)
      · exact .inr b4
    · exact .inr (.inl (by omega))
    · exact .inr (.inr ⟨by omega, by rw [← b3]; exact a4.2⟩)⟩
theorem placeF_get {L : List FrameD} {e q : Int} {i : Nat} (h : placeF L e q = i) : ∃ x, L[i]? = some x ∧ x.owner = e ∧ 0 < x.owner ∧ x.pl = q := by
  obtain ⟨x, hx, hf⟩ := findI_get (p := fitsB e q) h
  simp only [fitsB, Bool.and_eq_true, decide_eq_true_eq] at hf
  exact ⟨x, hx, hf.1.1, hf.1.2, hf.2⟩
theorem cellOf_may {F : List FrameD} {e n : Int} {c : Nat × Nat} (h : cellOf F e n 2 = some c) : ∃ x, F[c.1]? = some x ∧ (x.owner = 0 ∨ (x.owner = e ∧ hasR x.rights 2 = true)) := by
  unfold cellOf at h
  split at h
  · split at h
    · cases h
    · split at h
      · rename_i x hx
        split at h
        · rename_i ho
          cases h
          exact ⟨x, hx, .inl ho⟩
        · cases h
      · cases h
  · split at h
    · cases h
    · rename_i hp
      split at h
      · rename_i x hx
        split at h
        · rename_i hr
          cases h
          obtain ⟨i, hi⟩ : ∃ i : Nat, placeF F e (n / 8) = i := ⟨(placeF F e (n / 8)).toNat, by omega⟩
          obtain ⟨y, hy, ho, _⟩ := placeF_get hi
          rw [hi, Int.toNat_natCast] at hx
          have hxy : x = y := Option.some.inj (hx.symm.trans hy)
          exact ⟨x, by simp only [hi, Int.toNat_natCast]; exact hx, .inr ⟨by rw [hxy]; exact ho, hr⟩⟩
        · cases h
      · cases h
theorem setWord_step {F : List FrameD} {e n m : Int} {c : Nat × Nat} (h : cellOf F e n 2 = some c) : StepF e F (setWord F c m) := by
  obtain ⟨x, hx, ho⟩ := cellOf_may h
  refine ⟨by simp [setWord, upd_len], fun i x' hx' => ?_⟩
  rw [setWord, upd_some hx] at hx'
  rcases get_set hx' with ⟨e1, rfl⟩ | ⟨_, h2⟩
  · subst e1
    exact ⟨x, hx, rfl, rfl, rfl, .inr ho⟩
  · exact ⟨x', h2, rfl, rfl, rfl, .inl rfl⟩
/-- The quotes behind a run. -/
def QuotesBy (g : ByteArray) (Q Q' : List QuoteD) : Prop := ∃ R, Q' = Q ++ R ∧ ∀ q ∈ R, q.log = g ∧ 0 ≤ q.data ∧ q.data ≤ 65535
theorem QuotesBy.refl (g : ByteArray) (Q : List QuoteD) : QuotesBy g Q Q := ⟨[], by simp, fun _ h => by simp at h⟩
theorem QuotesBy.trans {g : ByteArray} {Q Q' Q'' : List QuoteD} (h : QuotesBy g Q Q') (k : QuotesBy g Q' Q'') : QuotesBy g Q Q'' := by
  obtain ⟨R, rfl, h1⟩ := h
  obtain ⟨R', rfl, h2⟩ := k
  exact ⟨R ++ R', by simp, fun q hq => by rcases List.mem_append.1 hq with hq | hq; exact h1 q hq; exact h2 q hq⟩
theorem stepM_does {e : Int} {g : ByteArray} {c d : CoreD} {o : Option Int} (hc : CoreOk c) (h : stepM e g c = some (d, o)) : StepF e c.F d.F ∧ QuotesBy g c.Q d.Q := by
  unfold stepM at h
  split at h
  · rename_i i k hi hk
    have ha := reg_ok hc (wordAt c.F i / 16 % 4).toNat
    simp only at h
    split at h
    · cases h; exact ⟨StepF.refl _ _, QuotesBy.refl _ _⟩
    split at h
    · cases h; exact ⟨StepF.refl _ _, QuotesBy.refl _ _⟩
    split at h
    · cases h; exact ⟨StepF.refl _ _, QuotesBy.refl _ _⟩
    split at h
    · cases h; exact ⟨StepF.refl _ _, QuotesBy.refl _ _⟩
    split at h
    · split at h
      · cases h; exact ⟨StepF.refl _ _, QuotesBy.refl _ _⟩
      · cases h
    split at h
    · split at h
      · rename_i w hw
        cases h; exact ⟨setWord_step hw, QuotesBy.refl _ _⟩
      · cases h
    split at h
    · cases h
      split <;> exact ⟨StepF.refl _ _, QuotesBy.refl _ _⟩
    split at h
    · cases h; exact ⟨StepF.refl _ _, QuotesBy.refl _ _⟩
    split at h
    · split at h
      · cases h
      · cases h
        exact ⟨StepF.refl _ _, ⟨[_], rfl, fun q hq => by
          rw [List.mem_singleton] at hq
          subst hq
          exact ⟨rfl, ha⟩⟩⟩
    · cases h
  · cases h
theorem runM_does {e : Int} {g : ByteArray} (n : Nat) {c : CoreD} (hc : CoreOk c) : StepF e c.F (runM e g n c).1.F ∧ QuotesBy g c.Q (runM e g n c).1.Q := by
  induction n generalizing c with
  | zero => exact ⟨StepF.refl _ _, QuotesBy.refl _ _⟩
  | succ n ih =>
    rw [runM]
    cases h : stepM e g c with
    | none => exact ⟨StepF.refl _ _, QuotesBy.refl _ _⟩
    | some p =>
      obtain ⟨d, o⟩ := p
      have hd := stepM_ok hc h
      have hs := stepM_does hc h
      cases o with
      | none =>
        have := ih hd.1
        exact ⟨hs.1.trans this.1, hs.2.trans this.2⟩
      | some v => exact hs
theorem runM_pc {e : Int} {g : ByteArray} (n : Nat) {c : CoreD} (hc : CoreOk c) (hp : c.pc ≤ 65535) : (runM e g n c).1.pc ≤ 65535 := by
  induction n generalizing c with
  | zero => exact hp
  | succ n ih =>
    rw [runM]
    cases h : stepM e g c with
    | none => exact hp
    | some p =>
      obtain ⟨d, o⟩ := p
      have hd := stepM_ok hc h
      cases o with
      | none => exact ih hd.1 hd.2.1
      | some v => exact hd.2.1
/-- How a run ends: what becomes of the enclave. -/
theorem runM_encl {e : Int} {g : ByteArray} (n : Nat) (c : CoreD) : ((runM e g n c).2.1 = ⟨3, g, (runM e g n c).1.pc, ((runM e g n c).1.R[0]?).getD 0, ((runM e g n c).1.R[1]?).getD 0, ((runM e g n c).1.R[2]?).getD 0, ((runM e g n c).1.R[3]?).getD 0⟩ ∧ (runM e g n c).2.2 = (2, 0)) ∨
    ((runM e g n c).2.1 = ⟨4, g, 0, 0, 0, 0, 0⟩ ∧ (runM e g n c).2.2 = (3, 0)) ∨ ((runM e g n c).2.1 = ⟨2, g, 0, 0, 0, 0, 0⟩ ∧ ∃ v, (runM e g n c).2.2 = (1, v)) := by
  induction n generalizing c with
  | zero => exact .inl ⟨rfl, rfl⟩
  | succ n ih =>
    rw [runM]
    cases h : stepM e g c with
    | none => exact .inr (.inl ⟨rfl, rfl⟩)
    | some p =>
      obtain ⟨d, o⟩ := p
      cases o with
      | none => exact ih d
      | some v => exact .inr (.inr ⟨rfl, v, rfl⟩)
theorem runM_enclOk {e : Int} {g : ByteArray} (n : Nat) {c : CoreD} (hc : CoreOk c) (hp : c.pc ≤ 65535) (hg : g.size ≤ 1000) : EnclOk (runM e g n c).2.1 ∧ (runM e g n c).2.1.state ≠ 0 := by
  have h1 := runM_ok (e := e) (g := g) n hc
  have h2 := runM_pc (e := e) (g := g) n hc hp
  rcases runM_encl (e := e) (g := g) n c with ⟨h, _⟩ | ⟨h, _⟩ | ⟨h, _⟩
  · rw [h]
    exact ⟨⟨show (0 : Int) ≤ 3 by omega, show (3 : Int) ≤ 4 by omega, hg, fun h => absurd (show (3 : Int) = 0 from h) (by omega), fun _ => ⟨⟨h1.lo, h2⟩, reg_ok h1 0, reg_ok h1 1, reg_ok h1 2, reg_ok h1 3⟩, fun h => absurd (show (3 : Int) = 3 from rfl) h⟩, show (3 : Int) ≠ 0 by omega⟩
  · rw [h]
    exact ⟨⟨show (0 : Int) ≤ 4 by omega, show (4 : Int) ≤ 4 by omega, hg, fun h => absurd (show (4 : Int) = 0 from h) (by omega), fun h => absurd (show (4 : Int) = 3 from h) (by omega), fun _ => ⟨rfl, rfl, rfl, rfl, rfl⟩⟩, show (4 : Int) ≠ 0 by omega⟩
  · rw [h]
    exact ⟨⟨show (0 : Int) ≤ 2 by omega, show (2 : Int) ≤ 4 by omega, hg, fun h => absurd (show (2 : Int) = 0 from h) (by omega), fun h => absurd (show (2 : Int) = 3 from h) (by omega), fun _ => ⟨rfl, rfl, rfl, rfl, rfl⟩⟩, show (2 : Int) ≠ 0 by omega⟩
theorem ranD_good {M : MachD} (h : Good M) {ei : Nat} {y : EnclD} {pc : Int} {R : List Int} (n : Nat) (hy : M.encl[ei]? = some y) (hp : 0 ≤ pc ∧ pc ≤ 65535) (hl : R.length = 4) (hR : ∀ (k : Nat) (m : Int), R[k]? = some m → 0 ≤ m ∧ m ≤ 65535) : Good (ranD M ei y pc R n).1 := by
  have hc := core0_ok h.mf hp hl hR
  have ho := runM_ok (e := (ei : Int) + 1) (g := y.log) n hc
  have hd := runM_does (e := (ei : Int) + 1) (g := y.log) n hc
  have hk := runM_enclOk (e := (ei : Int) + 1) (g := y.log) n hc hp.2 (h.e ei y hy).log
  simp only [ranD]
  generalize runM ((ei : Int) + 1) y.log n (core0 M pc R) = r at ho hd hk
  obtain ⟨d, z, o⟩ := r
  simp only at ho hd hk ⊢
  have hd1 : StepF ((ei : Int) + 1) M.frames d.F := hd.1
  refine ⟨ho.len, by simp [h.el], ho.q, fun j t ht => ?_, fun i x' hx' => ?_, fun i j x' z' hij hx' hz' h0 => ?_, fun q hq => ?_⟩
  · rcases get_set ht with ⟨_, rfl⟩ | ⟨_, ht'⟩
    · exact hk.1
    · exact h.e j t ht'
  · obtain ⟨x, hx, a1, a2, a3, _⟩ := hd1.at' i x' hx'
    have hf := (h.f i x hx).setE hy (fun _ => hk.2)
    obtain ⟨b1, b2, b3⟩ := ho.fr i x' hx'
    refine ⟨b1, fun n hn => ?_, by rw [a1]; exact hf.lo, by rw [a1]; exact hf.hi, by rw [a1, a2, a3]; exact hf.free, by rw [a2]; exact hf.pl, by rw [a3]; exact hf.rights, by rw [a1]; exact hf.own⟩
    obtain ⟨k, hk⟩ := List.getElem?_of_mem hn
    exact b2 k n hk
  · obtain ⟨x, hx, a1, a2, _⟩ := hd1.at' i x' hx'
    obtain ⟨z0, hz, b1, b2, _⟩ := hd1.at' j z' hz'
    rw [a1, a2, b1, b2]
    rw [a1] at h0
    exact h.u i j x z0 hij hx hz h0
  · obtain ⟨S, hS, hSq⟩ := hd.2
    have hS' : d.Q = M.quotes ++ S := hS
    rw [hS'] at hq
    rcases List.mem_append.1 hq with hq | hq
    · exact h.q q hq
    · have := hSq q hq
      exact ⟨by rw [this.1]; exact (h.e ei y hy).log, this.2⟩
theorem enterD_good {M : MachD} {e word fuel : Int} (h : Good M) (h0 : (enterD M e word fuel).2.2 = 0) : Good (enterD M e word fuel).1 := by
  unfold enterD at h0 ⊢
  by_cases h1 : mayF M e 2 fuel = 0
  · rw [if_neg (by simpa using h1)] at h0 ⊢
    by_cases h2 : word < 0 ∨ 65535 < word
    · rw [if_pos h2] at h0; simp [noRun] at h0
    rw [if_neg h2]
    obtain ⟨k, y, rfl, _, hy, hs⟩ := askF_encl (mayF_ok h1).1 (by decide)
    rw [show ((k : Int) + 1 - 1).toNat = k by omega, hy]
    refine ranD_good h _ hy (by omega) rfl (fun k m hk => ?_)
    rcases k with _ | _ | _ | _ | k
    all_goals
      simp at hk
      try subst hk
      try omega
  · rw [if_pos h1] at h0; exact absurd h0 h1
theorem resumeD_good {M : MachD} {e fuel : Int} (h : Good M) (h0 : (resumeD M e fuel).2.2 = 0) : Good (resumeD M e fuel).1 := by
  unfold resumeD at h0 ⊢
  by_cases h1 : mayF M e 3 fuel = 0
  · rw [if_neg (by simpa using h1)] at h0 ⊢
    obtain ⟨k, y, rfl, _, hy, hs⟩ := askF_encl (mayF_ok h1).1 (by decide)
    rw [show ((k : Int) + 1 - 1).toNat = k by omega, hy]
    have hw := stopped_words h.mf hy hs
    exact ranD_good h _ hy hw.1 rfl hw.2
  · rw [if_pos h1] at h0; exact absurd h0 h1

theorem askD_ok {C : ChalD} (h : chalF C = 0) (h0 : (askD C).2.2 = 0) : chalF (askD C).1 = 0 := by
  unfold askD at h0 ⊢
  rw [if_neg (by simpa using h)] at h0 ⊢
  by_cases h1 : C.nonces.length = 20
  · rw [if_pos h1] at h0; simp at h0
  rw [if_neg h1]
  have hl := chalF_le h
  unfold chalF at h ⊢
  by_cases h2 : (decide (4 < C.trusts.length) || decide (20 < C.nonces.length)) = true
  · rw [if_pos h2] at h; omega
  rw [if_neg h2] at h
  rw [if_neg (by simp; omega)]
  by_cases h3 : (C.trusts.any longB || C.nonces.any fun n => !inR n 0 1) = true
  · rw [if_pos h3] at h; omega
  rw [if_neg]
  simp only [Bool.not_eq_true, Bool.or_eq_false_iff] at h3 ⊢
  refine ⟨h3.1, ?_⟩
  rw [List.any_append, h3.2]
  rfl
theorem lookD_ok {C : ChalD} {L : List QuoteD} {q : QuoteD} (h : chalF C = 0) (h0 : (lookD C L q).2 = 0) : chalF (lookD C L q).1 = 0 := by
  have key : lookD C L q = (⟨C.trusts, C.nonces.set (q.data - 1).toNat 1⟩, 0) := by
    unfold lookD at h0 ⊢
    rw [if_neg (by simpa using h)] at h0 ⊢
    split at h0
    · simp at h0
    rename_i h1
    rw [if_neg h1]
    split at h0
    · simp at h0
    rename_i h2
    rw [if_neg h2]
    split at h0
    · simp at h0
    rename_i h3
    rw [if_neg h3]
    split at h0
    · simp at h0
    rename_i h4
    rw [if_neg h4]
  rw [key]
  have hl := chalF_le h
  unfold chalF at h ⊢
  by_cases h2 : (decide (4 < C.trusts.length) || decide (20 < C.nonces.length)) = true
  · rw [if_pos h2] at h; omega
  rw [if_neg h2] at h
  rw [if_neg (by simp; omega)]
  by_cases h3 : (C.trusts.any longB || C.nonces.any fun n => !inR n 0 1) = true
  · rw [if_pos h3] at h; omega
  rw [if_neg]
  simp only [Bool.not_eq_true, Bool.or_eq_false_iff] at h3 ⊢
  refine ⟨h3.1, ?_⟩
  have h4 := List.any_eq_false.1 h3.2
  rw [List.any_eq_false]
  intro n hn
  rcases List.mem_or_eq_of_mem_set hn with hn | rfl
  · exact h4 n hn
  · decide

/-- A host that may be. -/
def HostOk (h : HostD) : Prop := Good h.m ∧ chalF h.c = 0
theorem keepM_ok {h : HostD} {m : MachD} {n c : Int} (hh : HostOk h) (hm : c = 0 → Good m) : HostOk (keepM h m n c).1 := by
  unfold keepM
  split
  · exact hh
  · rename_i h0
    exact ⟨hm (by simpa using h0), hh.2⟩
theorem keepC_ok {h : HostD} {d : ChalD} {n c : Int} (hh : HostOk h) (hd : c = 0 → chalF d = 0) : HostOk (keepC h d n c).1 := by
  unfold keepC
  split
  · exact hh
  · rename_i h0
    exact ⟨hh.1, hd (by simpa using h0)⟩
theorem keepR_ok {h : HostD} {r : MachD × (Int × Int) × Int} (hh : HostOk h) (hm : r.2.2 = 0 → Good r.1) : HostOk (keepR h r).1 := by
  unfold keepR
  split
  · exact hh
  · rename_i h0
    exact ⟨hm (by simpa using h0), hh.2⟩
theorem actD_ok {h : HostD} (a : ActD) (hh : HostOk h) : HostOk (actD h a).1 := by
  unfold actD
  by_cases h1 : a.kind = 1
  · rw [if_pos h1]; exact keepM_ok hh (createD_good hh.1)
  rw [if_neg h1]
  by_cases h2 : a.kind = 2
  · rw [if_pos h2]; exact keepM_ok hh (putD_good hh.1)
  rw [if_neg h2]
  by_cases h3 : a.kind = 3
  · rw [if_pos h3]; exact keepM_ok hh (measD_good hh.1)
  rw [if_neg h3]
  by_cases h4 : a.kind = 4
  · rw [if_pos h4]; exact keepM_ok hh (startD_good hh.1)
  rw [if_neg h4]
  by_cases h5 : a.kind = 5
  · rw [if_pos h5]; exact keepM_ok hh (removeD_good hh.1)
  rw [if_neg h5]
  by_cases h6 : a.kind = 6
  · rw [if_pos h6]; exact keepM_ok hh (fun _ => hh.1)
  rw [if_neg h6]
  by_cases h7 : a.kind = 7
  · rw [if_pos h7]; exact keepM_ok hh (pokeD_good hh.1)
  rw [if_neg h7]
  by_cases h8 : a.kind = 8
  · rw [if_pos h8]; exact keepR_ok hh (enterD_good hh.1)
  rw [if_neg h8]
  by_cases h9 : a.kind = 9
  · rw [if_pos h9]; exact keepR_ok hh (resumeD_good hh.1)
  rw [if_neg h9]
  by_cases h10 : a.kind = 10
  · rw [if_pos h10]; exact keepC_ok hh (askD_ok hh.2)
  rw [if_neg h10]
  by_cases h11 : a.kind = 11
  · rw [if_pos h11]
    by_cases h12 : a.pl < 0 ∨ (h.m.quotes.length : Int) ≤ a.pl
    · rw [if_pos h12]; exact hh
    · rw [if_neg h12]; exact keepC_ok hh (lookD_ok hh.2)
  · rw [if_neg h11]; exact hh
theorem actsD_ok (L : List ActD) {h : HostD} (hh : HostOk h) : HostOk (actsD h L).1 := by
  induction L generalizing h with
  | nil => exact hh
  | cons a l ih => exact ih (actD_ok a hh)
theorem newD_good : Good newD := good_of (by kernel_rfl)

end Go.Proofs.YtbamacddfonloaaDoor

namespace Go.Proofs.YtbamacddfonloaaDoor
open Go.RowKit

def ActD.cs (a : ActD) : List Value := [.int .i64 a.kind, .int .i64 a.e, .int .i64 a.f, .int .i64 a.pl, .int .i64 a.rights, .int .i64 a.n, .int .i64 a.fuel]
theorem ActD.cs_len (x : ActD) : x.cs.length = 7 := rfl
theorem infoActs : (Tryd.prog.info? 33).map (fun i => (i.zero, i.size, i.bytes)) = some (some (.agg #[.int .i64 0, .int .i64 0, .int .i64 0, .int .i64 0, .int .i64 0, .int .i64 0, .int .i64 0]), 7, 56) := by kernel_rfl
theorem CellsAt.acts {w : World} {a : Option Addr} {l : List ActD} (h : CellsAt w a (l.flatMap ActD.cs)) : ActsAt w a l := fun i x hx => by
  have g := fun j hj => flat_get ActD.cs 7 ActD.cs_len l i j hj
  obtain ⟨b, off, rfl, h0⟩ := h (i * 7 + 0) (.int .i64 x.kind) (by rw [g 0 (by decide), hx]; rfl)
  have k := fun (j : Nat) (u : Value) (hu : (l.flatMap ActD.cs)[i * 7 + j]? = some u) => (show (World.cell? w ⟨b, off + i * 7 + j, none⟩ = some u) from by
    obtain ⟨b1, off1, e1, h1⟩ := h (i * 7 + j) u hu
    cases e1
    rw [Nat.add_assoc]; exact h1)
  exact ⟨b, off, rfl, h0, k 1 _ (by rw [g 1 (by decide), hx]; rfl), k 2 _ (by rw [g 2 (by decide), hx]; rfl), k 3 _ (by rw [g 3 (by decide), hx]; rfl), k 4 _ (by rw [g 4 (by decide), hx]; rfl),
    k 5 _ (by rw [g 5 (by decide), hx]; rfl), k 6 _ (by rw [g 6 (by decide), hx]; rfl)⟩
/-- A row of acts of the call's own. -/
def OwnActs (base : Nat) (w : World) (v : Value) (l : List ActD) : Prop := w.ownsRow base 33 7 v l.length (l.flatMap ActD.cs)
theorem OwnActs.at {base : Nat} {w : World} {v : Value} {l : List ActD} (h : OwnActs base w v l) : ∃ a c, v = .slice a l.length c ∧ ActsAt w a l := by
  obtain ⟨a, c, rfl, hc⟩ := CellsAt.of_own h
  exact ⟨a, c, rfl, hc.acts⟩
theorem OwnActs.below {base : Nat} {w w' : World} {v : Value} {l : List ActD} (h : OwnActs base w v l) (hb : Below w.heap.size w w') : OwnActs base w' v l := ownsRow_below h hb
theorem OwnActs.mono {base b' : Nat} {w : World} {v : Value} {l : List ActD} (h : OwnActs base w v l) (hb : b' ≤ base) : OwnActs b' w v l := ownsRow_mono h hb
theorem OwnActs.push {base : Nat} {w : World} {v : Value} {l : List ActD} {x : ActD} {n : Nat} (h : w.ownsRow base 33 7 v n (l.flatMap ActD.cs ++ x.cs)) (hn : n = l.length + 1) : OwnActs base w v (l ++ [x]) := by
  subst hn
  show w.ownsRow base 33 7 v (l ++ [x]).length ((l ++ [x]).flatMap ActD.cs)
  simpa using h
theorem OwnActs.push2 {base : Nat} {w : World} {v : Value} {l : List ActD} {x y : ActD} {n : Nat} (h : w.ownsRow base 33 7 v n (l.flatMap ActD.cs ++ (x.cs ++ y.cs))) (hn : n = l.length + 2) : OwnActs base w v (l ++ [x, y]) := by
  subst hn
  show w.ownsRow base 33 7 v (l ++ [x, y]).length ((l ++ [x, y]).flatMap ActD.cs)
  simpa using h

def pokeA (f : Int) (k : Nat) (n : Int) : ActD := ⟨7, 0, f, k, 0, n, 0⟩
/-- A page's words, poked one by one from the word k on. -/
def pokesW (f : Int) (ws : List Int) : List ActD := ws.mapIdx (pokeA f)
def pokesT (l : List PageD) (fr : Int) (i : Nat) : List ActD := ((l.take i).mapIdx fun k (p : PageD) => pokesW (fr + (k : Int)) p.words).flatten
def putsOf (e f : Int) (p : PageD) : List ActD := [⟨2, e, f, p.pl, p.rights, 0, 0⟩, ⟨3, e, 0, p.pl, 0, 0, 0⟩]
def putsT (l : List PageD) (e fr : Int) (i : Nat) : List ActD := ((l.take i).mapIdx fun k (p : PageD) => putsOf e (fr + (k : Int)) p).flatten
def createA : ActD := ⟨1, 0, 0, 0, 0, 0, 0⟩
def startA (e : Int) : ActD := ⟨4, e, 0, 0, 0, 0, 0⟩
def planD (l : List PageD) (e fr : Int) : List ActD := pokesT l fr l.length ++ [createA] ++ putsT l e fr l.length ++ [startA e]
theorem take_one {α : Type} {l : List α} {i : Nat} {x : α} (hx : l[i]? = some x) : l.take (i + 1) = l.take i ++ [x] := by rw [List.take_add_one, hx]; rfl
theorem take_len {α : Type} {l : List α} {i : Nat} {x : α} (hx : l[i]? = some x) : (l.take i).length = i := by
  have := (List.getElem?_eq_some_iff.1 hx).1
  rw [List.length_take]; omega
theorem pokesT_step {l : List PageD} {i : Nat} {x : PageD} (hx : l[i]? = some x) (fr : Int) : pokesT l fr (i + 1) = pokesT l fr i ++ pokesW (fr + (i : Int)) x.words := by
  rw [pokesT, take_one hx, List.mapIdx_concat, List.flatten_append, take_len hx]
  simp [pokesT]
theorem putsT_step {l : List PageD} {i : Nat} {x : PageD} (hx : l[i]? = some x) (e fr : Int) : putsT l e fr (i + 1) = putsT l e fr i ++ putsOf e (fr + (i : Int)) x := by
  rw [putsT, take_one hx, List.mapIdx_concat, List.flatten_append, take_len hx]
  simp [putsT]
theorem pokesW_step {ws : List Int} {k : Nat} {n : Int} (hn : ws[k]? = some n) (f : Int) : pokesW f (ws.take (k + 1)) = pokesW f (ws.take k) ++ [pokeA f k n] := by
  rw [pokesW, take_one hn, List.mapIdx_concat, take_len hn]
  rfl
theorem pokesW_len (f : Int) (ws : List Int) : (pokesW f ws).length = ws.length := by simp [pokesW]
theorem pokesT_le {l : List PageD} (h : ∀ x ∈ l, x.words.length = 8) (fr : Int) (i : Nat) : (pokesT l fr i).length ≤ 8 * i := by
  induction i with
  | zero => simp [pokesT]
  | succ i ih =>
    by_cases hi : i < l.length
    · have hx : l[i]? = some l[i] := List.getElem?_eq_getElem hi
      rw [pokesT_step hx, List.length_append, pokesW_len, h _ (List.getElem_mem hi)]
      omega
    · have : pokesT l fr (i + 1) = pokesT l fr i := by rw [pokesT, pokesT, List.take_of_length_le (by omega), List.take_of_length_le (by omega)]
      rw [this]
      omega
theorem putsT_le (l : List PageD) (e fr : Int) (i : Nat) : (putsT l e fr i).length ≤ 2 * i := by
  induction i with
  | zero => simp [putsT]
  | succ i ih =>
    by_cases hi : i < l.length
    · have hx : l[i]? = some l[i] := List.getElem?_eq_getElem hi
      rw [putsT_step hx, List.length_append]
      simp [putsOf]
      omega
    · have : putsT l e fr (i + 1) = putsT l e fr i := by rw [putsT, putsT, List.take_of_length_le (by omega), List.take_of_length_le (by omega)]
      rw [this]
      omega

theorem PageOk.len {x : PageD} (h : PageOk x) : x.words.length = 8 := by
  by_cases hw : wordsB x.words = true
  · rw [wordsB] at hw
    simp only [Bool.and_eq_true, decide_eq_true_eq] at hw
    omega
  · unfold PageOk pageF at h
    simp only [hw] at h
    split at h <;> simp at h
def PlanRes (base : Nat) (L : List ActD) (w : World) (x : Ending) (w' : World) : Prop := ∃ v, x = .returned (.tuple #[v, .int .i64 0]) ∧ OwnActs base w' v L ∧ Below base w w'

set_option maxRecDepth 10000 in
set_option maxHeartbeats 1600000 in
theorem imagePlan (a : Option Addr) (l : List PageD) (n cap : Nat) (e : Int) (fr : Nat) (w : World) (hl : l.length = n) (hf : PagesFit l) (hc : PagesAt w a l) (h0 : imageF l = 0) (he1 : 1 ≤ e) (he4 : e ≤ 4) (hfr : fr + n ≤ 24) :
    Calls Tryd.prog 9 #[.slice a n cap, .int .i64 e, .int .i64 fr] w (PlanRes w.heap.size (planD l e fr) w) := by
  obtain ⟨j0, hj0, hy0, hy1, hy2⟩ := info_parts infoActs
  have HC := hid hc
  have HL := hid hl
  have HF := hid hf
  have H0 := hid h0
  have HA := hid (show ∀ x ∈ l, PageOk x from imgF_all h0)
  have HP := hid (pokesT_le (l := l) (fun x hx => (HA.out x hx).len) (fr : Int))
  clear hl hf hc h0
  go_enter Tryd.func9, Tryd.ntmps9
  go_wp2_with fail
  refine (imageCheck a l n cap _ HL.out HF.out HC.out).mono ?_
  rintro x w1 ⟨rfl, hb1⟩
  rw [H0.out]
  have HB1 := hid hb1
  have HC1 := hid (HC.out.mono hb1)
  clear hb1 HC
  have q1 : ¬ (e < 1) := by omega
  have q2 : ¬ ((4 : Int) < e) := by omega
  have q3 : ¬ ((fr : Int) < 0) := by omega
  have q4 : IntKind.i64.wrap ((fr : Int) + (n : Int)) = (fr : Int) + (n : Int) := by rw [IntKind.wrap_i64]; omega
  have q5 : ¬ ((24 : Int) < (fr : Int) + (n : Int)) := by omega
  go_wp2_with fail
  go_loopw [9, 40] (fun ov j W => ∃ i : Nat, i ≤ n ∧ j = .int .i64 i ∧ Hid (OwnActs w1.heap.size W ov (pokesT l fr i)) ∧ Below w1.heap.size w1 W) (fun _ j _ => n - (intOf j).toNat)
  case atStart => exact ⟨0, by omega, rfl, World.ownsRow_nil _ _ _ _, Below.refl _ _⟩
  case round =>
    obtain ⟨i, hi, rfl, HO, hb⟩ := hrel
    have hsz := hb.size
    obtain ⟨oa, oc, rfl, _⟩ := HO.out.at
    by_cases hlt : i < n
    · obtain ⟨x, hx⟩ : ∃ x, l[i]? = some x := ⟨_, List.getElem?_eq_getElem (by rw [HL.out]; exact hlt)⟩
      have hok := HA.out x (List.mem_of_getElem? hx)
      have h8 := PageOk.len hok
      obtain ⟨bx, ox, wa, wc, rfl, k0, k1, k2, k3⟩ := HC1.out i _ hx
      replace k0 := cell_later hb k0
      replace k1 := cell_later hb k1
      replace k2 := cell_later hb k2
      rw [h8] at k2
      have HK := hid k3
      have HS := hid (pokesT_step hx (fr : Int))
      have H8 := hid h8
      have HB := hid hb
      have HPI := hid (HP.out i)
      have HO2 : Hid (∀ X, OwnActs w1.heap.size (wr.alloc X) (.slice oa (pokesT l fr i).length oc) (pokesT l fr i)) := fun X => HO.out.below (below_alloc _ _)
      have hwi : IntKind.i64.wrap ((fr : Int) + (i : Int)) = (fr : Int) + (i : Int) := by rw [IntKind.wrap_i64]; omega
      clear hx hok h8 k3 hb
      go_wp2_with fail
      go_loopw [9, 48] (fun ov j W => ∃ k : Nat, k ≤ 8 ∧ j = .int .i64 k ∧ Hid (OwnActs w1.heap.size W ov (pokesT l fr i ++ pokesW ((fr : Int) + (i : Int)) (x.words.take k))) ∧ Below w1.heap.size w1 W) (fun _ j _ => 8 - (intOf j).toNat)
      case atStart => exact ⟨0, by omega, rfl, by rw [List.take_zero, show pokesW ((fr : Int) + (i : Int)) [] = [] from rfl, List.append_nil]; exact HO2.out _, HB.out.trans (Below.mono (by go_grown) HB.out.size)⟩
      case round =>
        clear k0 k1 k2 HO HO2 HB hsz
        obtain ⟨k, hk, rfl, HO, hb⟩ := hrel
        have hsz := hb.size
        obtain ⟨oa, oc, rfl, _⟩ := HO.out.at
        by_cases hlk : k < 8
        · obtain ⟨m, hm⟩ : ∃ m, x.words[k]? = some m := ⟨_, List.getElem?_eq_getElem (by rw [H8.out]; exact hlk)⟩
          obtain ⟨bw, ow, rfl, kw⟩ := HK.out k m hm
          replace kw := cell_later hb kw
          have HSW := hid (pokesW_step hm ((fr : Int) + (i : Int)))
          have HLn : Hid ((pokesT l fr i ++ pokesW ((fr : Int) + (i : Int)) (x.words.take k)).length ≤ 300) := by
            show _ ≤ _
            have := HPI.out
            rw [List.length_append, pokesW_len, List.length_take]; omega
          have HO2 : Hid (∀ X, OwnActs w1.heap.size (wr.alloc X) (.slice oa (pokesT l fr i ++ pokesW ((fr : Int) + (i : Int)) (x.words.take k)).length oc) (pokesT l fr i ++ pokesW ((fr : Int) + (i : Int)) (x.words.take k))) := fun X => HO.out.below (below_alloc _ _)
          have HB := hid hb
          clear hm hb HO
          generalize hG : pokesT l fr i ++ pokesW ((fr : Int) + (i : Int)) (x.words.take k) = G at HLn HO2
          have HG0 := hid hG
          clear hG
          go_wp2_with (at_builtin; refine wpList_append_lies _ rfl _ _ 25 rfl w1.heap.size 33 j0 _ 7 56 Tryd.underlying25 hj0 hy0 hy1 hy2 rfl (by decide) _ G.length (G.flatMap ActD.cs) rfl ((HO2.out _)) ⟨wr.heap.size, 0, none⟩ 1 1 [.int .i64 7, .int .i64 0, .int .i64 ((fr : Int) + (i : Int)), .int .i64 k, .int .i64 0, .int .i64 m, .int .i64 0] rfl rfl (news_new (by simp) #[_, _, _, _, _, _, _] _) (by simp [Value.oneCell']) (by decide) ?c2 ?c3 ?c4 (wr.heap.size + 1) ?c5 ?_)
          case c2 => unfold maxLen; have := HLn.out; omega
          case c3 => have := HLn.out; omega
          case c4 => simp; omega
          case c5 => simp
          intro g cap' W' hrow hgrow _ _
          have HR := hid hrow
          have HGr := hid hgrow
          clear hrow hgrow
          go_wp2_with fail
          go_roundw
          case rel =>
            refine ⟨k + 1, by omega, by go_num, ?_, ?_⟩
            · rw [HSW.out, ← List.append_assoc, HG0.out]
              exact OwnActs.push (x := pokeA ((fr : Int) + (i : Int)) k m) HR.out rfl
            · exact (HB.out.trans (Below.mono (by go_grown) hsz)).grown HGr.out (by simp; omega) (fun q hq => ((HO2.out (.cells #[] 0)).lt q hq).1)
          case measure => simp [intOf]; omega
        · obtain rfl : k = 8 := by omega
          have e8 : x.words.take 8 = x.words := List.take_of_length_le (by rw [H8.out]; omega)
          have hwj : IntKind.i64.wrap ((i : Int) + 1) = (i : Int) + 1 := by rw [IntKind.wrap_i64]; omega
          have HE8 := hid e8
          clear e8
          go_wp2_with fail
          refine ⟨⟨i + 1, by omega, by go_num, ?_, hb⟩, by simp [intOf]; omega⟩
          have K := HO.out
          rw [HS.out]
          rw [HE8.out] at K ⊢
          exact K
    · obtain rfl : i = n := by omega
      have HLn : Hid ((pokesT l fr i).length ≤ 8 * i) := HP.out i
      have HB := hid hb
      have HO2 : Hid (∀ X, OwnActs w1.heap.size (wr.alloc X) (.slice oa (pokesT l fr i).length oc) (pokesT l fr i)) := fun X => HO.out.below (below_alloc _ _)
      clear hb HO HP
      generalize hG : pokesT l fr i = G at HLn HO2
      have HG := hid hG
      clear hG
      go_wp2_with (at_builtin; refine wpList_append_lies _ rfl _ _ 25 rfl w1.heap.size 33 j0 _ 7 56 Tryd.underlying25 hj0 hy0 hy1 hy2 rfl (by decide) _ G.length (G.flatMap ActD.cs) rfl (HO2.out _) ⟨wr.heap.size, 0, none⟩ 1 1 [.int .i64 1, .int .i64 0, .int .i64 0, .int .i64 0, .int .i64 0, .int .i64 0, .int .i64 0] rfl rfl (news_new (by simp) #[_, _, _, _, _, _, _] _) (by simp [Value.oneCell']) (by decide) ?c2 ?c3 ?c4 (wr.heap.size + 1) ?c5 ?_)
      case c2 => unfold maxLen; have := HLn.out; omega
      case c3 => have := HLn.out; omega
      case c4 => simp; omega
      case c5 => simp
      intro g1 cap1 W1 hrow hgrow _ _
      have HO1 : Hid (OwnActs w1.heap.size W1 (.slice (some ⟨g1, 0, none⟩) (G.length + 1) cap1) (G ++ [createA])) := OwnActs.push (x := createA) hrow rfl
      have HB1' : Hid (Below w1.heap.size w1 W1) := (HB.out.trans (Below.mono (by go_grown) hsz)).grown hgrow (by simp; omega) (fun q hq => ((HO2.out (.cells #[] 0)).lt q hq).1)
      clear hrow hgrow HO2 HB hsz
      go_wp2_with fail
      go_loopw [9, 70] (fun ov j W => ∃ k : Nat, k ≤ i ∧ j = .int .i64 k ∧ Hid (OwnActs w1.heap.size W ov (G ++ [createA] ++ putsT l e fr k)) ∧ Below w1.heap.size w1 W) (fun _ j _ => i - (intOf j).toNat)
      case atStart => exact ⟨0, by omega, rfl, by rw [show putsT l e fr 0 = [] from rfl, List.append_nil]; exact HO1.out, HB1'.out⟩
      case round =>
        clear HO1 HB1'
        obtain ⟨k, hk, rfl, HO, hb⟩ := hrel
        have hsz := hb.size
        obtain ⟨oa, oc, rfl, _⟩ := HO.out.at
        have HGn : Hid ((G ++ [createA] ++ putsT l e fr k).length ≤ 300) := by
          show _ ≤ _
          have := HLn.out
          have := putsT_le l e fr k
          rw [List.length_append, List.length_append, List.length_singleton]; omega
        have HO2 : Hid (∀ X, OwnActs w1.heap.size (wr.alloc X) (.slice oa (G ++ [createA] ++ putsT l e fr k).length oc) (G ++ [createA] ++ putsT l e fr k)) := fun X => HO.out.below (below_alloc _ _)
        have HO3 : Hid (∀ X Y, OwnActs w1.heap.size ((wr.alloc X).alloc Y) (.slice oa (G ++ [createA] ++ putsT l e fr k).length oc) (G ++ [createA] ++ putsT l e fr k)) := fun X Y => (HO2.out X).below (below_alloc _ _)
        have HB := hid hb
        by_cases hlk : k < i
        · obtain ⟨x, hx⟩ : ∃ x, l[k]? = some x := ⟨_, List.getElem?_eq_getElem (by rw [HL.out]; exact hlk)⟩
          obtain ⟨bx, ox, wa, wc, rfl, k0, k1, k2, _⟩ := HC1.out k _ hx
          replace k0 := cell_later hb k0
          replace k1 := cell_later hb k1
          replace k2 := cell_later hb k2
          have HS := hid (putsT_step hx e (fr : Int))
          have hwi : IntKind.i64.wrap ((fr : Int) + (k : Int)) = (fr : Int) + (k : Int) := by rw [IntKind.wrap_i64]; omega
          have hwj : IntKind.i64.wrap ((k : Int) + 1) = (k : Int) + 1 := by rw [IntKind.wrap_i64]; omega
          clear hx hb HO
          generalize hH : G ++ [createA] ++ putsT l e fr k = H at HGn HO2 HO3
          have HH := hid hH
          clear hH
          go_wp2_with (at_builtin; refine wpList_append_lies _ rfl _ _ 25 rfl w1.heap.size 33 j0 _ 7 56 Tryd.underlying25 hj0 hy0 hy1 hy2 rfl (by decide) _ H.length (H.flatMap ActD.cs) rfl (HO3.out _ _) ⟨wr.heap.size + 1, 0, none⟩ 2 2 [.int .i64 2, .int .i64 e, .int .i64 ((fr : Int) + (k : Int)), .int .i64 x.pl, .int .i64 x.rights, .int .i64 0, .int .i64 0, .int .i64 3, .int .i64 e, .int .i64 0, .int .i64 x.pl, .int .i64 0, .int .i64 0, .int .i64 0] rfl rfl (news_new (by simp) #[_, _, _, _, _, _, _, _, _, _, _, _, _, _] _) (by simp [Value.oneCell']) (by decide) ?c2 ?c3 ?c4 (wr.heap.size + 1 + 1) ?c5 ?_)
          case c2 => unfold maxLen; have := HGn.out; omega
          case c3 => have := HGn.out; omega
          case c4 => simp; omega
          case c5 => simp
          intro g cap' W' hrow hgrow _ _
          have HR := hid hrow
          have HGr := hid hgrow
          clear hrow hgrow
          go_wp2_with fail
          go_roundw
          case rel =>
            refine ⟨k + 1, by omega, by go_num, ?_, ?_⟩
            · rw [HS.out, ← List.append_assoc, HH.out]
              exact OwnActs.push2 (x := ⟨2, e, (fr : Int) + (k : Int), x.pl, x.rights, 0, 0⟩) (y := ⟨3, e, 0, x.pl, 0, 0, 0⟩) HR.out rfl
            · exact (HB.out.trans (Below.mono (by go_grown) hsz)).grown HGr.out (by simp; omega) (fun q hq => ((HO3.out (.cells #[] 0) (.cells #[] 0)).lt q hq).1)
          case measure => simp [intOf]; omega
        · obtain rfl : k = i := by omega
          have HD : Hid (planD l e fr = G ++ [createA] ++ putsT l e fr k ++ [startA e]) := by show _ = _; rw [planD, HL.out, HG.out]
          clear hb HO HG
          generalize G ++ [createA] ++ putsT l e fr k = H at HGn HO2 HO3 HD
          go_wp2_with (at_builtin; refine wpList_append_lies _ rfl _ _ 25 rfl w1.heap.size 33 j0 _ 7 56 Tryd.underlying25 hj0 hy0 hy1 hy2 rfl (by decide) _ H.length (H.flatMap ActD.cs) rfl (HO2.out _) ⟨wr.heap.size, 0, none⟩ 1 1 [.int .i64 4, .int .i64 e, .int .i64 0, .int .i64 0, .int .i64 0, .int .i64 0, .int .i64 0] rfl rfl (news_new (by simp) #[_, _, _, _, _, _, _] _) (by simp [Value.oneCell']) (by decide) ?c2 ?c3 ?c4 (wr.heap.size + 1) ?c5 ?_)
          case c2 => unfold maxLen; have := HGn.out; omega
          case c3 => have := HGn.out; omega
          case c4 => simp; omega
          case c5 => simp
          intro g cap' W' hrow hgrow _ _
          have HR : Hid (OwnActs w1.heap.size W' (.slice (some ⟨g, 0, none⟩) (H.length + 1) cap') (H ++ [startA e])) := OwnActs.push (x := startA e) hrow rfl
          have HBW : Hid (Below w1.heap.size w1 W') := (HB.out.trans (Below.mono (by go_grown) hsz)).grown hgrow (by simp; omega) (fun q hq => ((HO2.out (.cells #[] 0)).lt q hq).1)
          clear hrow hgrow
          go_wp2_with fail
          go_ret2
          exact ⟨_, rfl, by rw [HD.out]; exact HR.out.mono HB1.out.size, HB1.out.trans (HBW.out.mono HB1.out.size)⟩

end Go.Proofs.YtbamacddfonloaaDoor

namespace Go.Proofs.YtbamacddfonloaaDoor
open Go.RowKit

/-- Acts that are all taken: from a host to a host. -/
def Runs (h : HostD) (L : List ActD) (h' : HostD) : Prop := (actsD h L).1 = h' ∧ ∀ x ∈ (actsD h L).2, x.code = 0
theorem Runs.nil (h : HostD) : Runs h [] h := ⟨rfl, fun _ hx => by simp [actsD] at hx⟩
theorem Runs.append {h h1 h2 : HostD} {L K : List ActD} (a : Runs h L h1) (b : Runs h1 K h2) : Runs h (L ++ K) h2 := by
  obtain ⟨rfl, a2⟩ := a
  obtain ⟨rfl, b2⟩ := b
  refine ⟨by rw [actsD_append], fun x hx => ?_⟩
  rw [actsD_append] at hx
  rcases List.mem_append.1 hx with hx | hx
  · exact a2 x hx
  · exact b2 x hx
theorem Runs.one {h h' : HostD} {a : ActD} {n : Int} (e : actD h a = (h', ⟨0, n⟩)) : Runs h [a] h' := by
  refine ⟨by simp [actsD, e], fun x hx => ?_⟩
  simp only [actsD, e, List.mem_singleton] at hx
  subst hx
  rfl
theorem Runs.cons {h h1 h2 : HostD} {a : ActD} {L : List ActD} {n : Int} (e : actD h a = (h1, ⟨0, n⟩)) (b : Runs h1 L h2) : Runs h (a :: L) h2 := (Runs.one e).append b

/-- Frames laid one behind the other from one on. -/
def setAt (F : List FrameD) (fr : Nat) : List FrameD → List FrameD
  | [] => F
  | g :: G => setAt (F.set fr g) (fr + 1) G
theorem setAt_len (G : List FrameD) : ∀ (F : List FrameD) (fr : Nat), (setAt F fr G).length = F.length := by
  induction G with
  | nil => intro F fr; rfl
  | cons g G ih => intro F fr; rw [setAt, ih, List.length_set]
theorem setAt_get (G : List FrameD) : ∀ (F : List FrameD) (fr j : Nat), fr + G.length ≤ F.length → (setAt F fr G)[j]? = if fr ≤ j ∧ j < fr + G.length then G[j - fr]? else F[j]? := by
  induction G with
  | nil => intro F fr j _; rw [setAt, if_neg (by simp only [List.length_nil]; omega)]
  | cons g G ih =>
    intro F fr j hl
    simp only [List.length_cons] at hl
    rw [setAt, ih _ _ _ (by rw [List.length_set]; omega)]
    by_cases h1 : fr + 1 ≤ j ∧ j < fr + 1 + G.length
    · rw [if_pos h1, if_pos (by simp only [List.length_cons]; omega), show j - fr = (j - (fr + 1)) + 1 by omega, List.getElem?_cons_succ]
    · rw [if_neg h1]
      by_cases h2 : fr = j
      · subst h2
        rw [if_pos (by simp only [List.length_cons]; omega), List.getElem?_set_self (by omega), Nat.sub_self]
        rfl
      · rw [if_neg (by simp only [List.length_cons]; omega), List.getElem?_set_ne h2]
theorem setAt_set (G : List FrameD) : ∀ (F : List FrameD) (fr j : Nat) (x : FrameD), j < fr → setAt (F.set j x) fr G = (setAt F fr G).set j x := by
  induction G with
  | nil => intro F fr j x _; rfl
  | cons g G ih =>
    intro F fr j x hj
    rw [setAt, setAt, List.set_comm _ _ (by omega), ih _ _ _ _ (by omega)]
theorem setAt_twice (G : List FrameD) : ∀ (H F : List FrameD) (fr : Nat), G.length = H.length → setAt (setAt F fr G) fr H = setAt F fr H := by
  induction G with
  | nil =>
    intro H F fr hl
    have : H = [] := List.eq_nil_of_length_eq_zero (by simpa using hl.symm)
    subst this; rfl
  | cons g G ih =>
    intro H F fr hl
    cases H with
    | nil => simp at hl
    | cons x H =>
      rw [setAt, setAt, setAt, ← setAt_set G _ _ _ _ (by omega), List.set_set, ih H _ _ (by simpa using hl)]

def freeW (p : PageD) : FrameD := ⟨0, 0, 0, p.words⟩
def ownP (e : Int) (p : PageD) : FrameD := ⟨e, p.pl, p.rights, p.words⟩
def pokesR : List PageD → Nat → List ActD
  | [], _ => []
  | p :: l, fr => pokesW fr p.words ++ pokesR l (fr + 1)
def putsR (e : Int) : List PageD → Nat → List ActD
  | [], _ => []
  | p :: l, fr => putsOf e fr p ++ putsR e l (fr + 1)
theorem pokesT_R (l : List PageD) (fr : Nat) : pokesT l fr l.length = pokesR l fr := by
  rw [pokesT, List.take_length]
  induction l generalizing fr with
  | nil => rfl
  | cons p l ih =>
    rw [List.mapIdx_cons, List.flatten_cons, pokesR, ← ih (fr + 1)]
    have e' : (fun (i : Nat) (q : PageD) => pokesW ((fr : Int) + ((i + 1 : Nat) : Int)) q.words) = fun (i : Nat) (q : PageD) => pokesW (((fr + 1 : Nat) : Int) + (i : Int)) q.words := by
      funext i q
      rw [show ((fr : Int) + ((i + 1 : Nat) : Int)) = ((fr + 1 : Nat) : Int) + (i : Int) by omega]
    rw [e', show ((fr : Int) + ((0 : Nat) : Int)) = (fr : Int) by omega]
theorem putsT_R (l : List PageD) (e : Int) (fr : Nat) : putsT l e fr l.length = putsR e l fr := by
  rw [putsT, List.take_length]
  induction l generalizing fr with
  | nil => rfl
  | cons p l ih =>
    rw [List.mapIdx_cons, List.flatten_cons, putsR, ← ih (fr + 1)]
    have e' : (fun (i : Nat) (q : PageD) => putsOf e ((fr : Int) + ((i + 1 : Nat) : Int)) q) = fun (i : Nat) (q : PageD) => putsOf e (((fr + 1 : Nat) : Int) + (i : Int)) q := by
      funext i q
      rw [show ((fr : Int) + ((i + 1 : Nat) : Int)) = ((fr + 1 : Nat) : Int) + (i : Int) by omega]
    rw [e', show ((fr : Int) + ((0 : Nat) : Int)) = (fr : Int) by omega]
theorem planD_R (l : List PageD) (e : Int) (fr : Nat) : planD l e fr = pokesR l fr ++ [createA] ++ putsR e l fr ++ [startA e] := by
  rw [planD, pokesT_R, putsT_R]

/-- One poke of a shared frame. -/
theorem poke_one {M : MachD} {C : ChalD} (h : Good M) {f : Nat} {x : FrameD} (hx : M.frames[f]? = some x) (h0 : x.owner = 0) {k : Nat} (hk : k < 8) {n : Int} (hn : 0 ≤ n ∧ n ≤ 65535) :
    actD ⟨M, C⟩ (pokeA f k n) = (⟨⟨M.frames.set f { x with words := x.words.set k n }, M.encl, M.quotes⟩, C⟩, ⟨0, 0⟩) := by
  have hf : f < 24 := by have := (List.getElem?_eq_some_iff.1 hx).1; rw [h.fl] at this; exact this
  have hw : wordF M f k = 0 := by rw [wordF, if_neg (by simpa using h.mf), if_neg (by omega)]
  have hfo : frameOf M f = x := by simp [frameOf, hx]
  have hp : pokeD M f k n = (⟨M.frames.set f { x with words := x.words.set k n }, M.encl, M.quotes⟩, 0) := by
    rw [pokeD, if_neg (by simpa using hw), if_neg (by omega), if_pos (by rw [hfo]; exact h0), Int.toNat_natCast, Int.toNat_natCast, upd_some hx]
  simp [actD, pokeA, hp, keepM]
theorem pokes_page {C : ChalD} {f : Nat} {ws : List Int} (hw : ws.length = 8) (hn : ∀ n ∈ ws, 0 ≤ n ∧ n ≤ 65535) (i : Nat) : i ≤ 8 → ∀ {M : MachD} {x : FrameD}, Good M → M.frames[f]? = some x → x.owner = 0 →
    Runs ⟨M, C⟩ (pokesW f (ws.take i)) ⟨⟨M.frames.set f { x with words := ws.take i ++ x.words.drop i }, M.encl, M.quotes⟩, C⟩ := by
  induction i with
  | zero =>
    intro _ M x _ hx _
    rw [List.take_zero, List.nil_append, List.drop_zero]
    have e : M.frames.set f { x with words := x.words } = M.frames := set_self hx
    rw [e]
    exact Runs.nil _
  | succ i ih =>
    intro hi M x h hx h0
    have hl : x.words.length = 8 := (h.f f x hx).len
    obtain ⟨n, hnn⟩ : ∃ n, ws[i]? = some n := ⟨_, List.getElem?_eq_getElem (by omega)⟩
    rw [pokesW_step hnn]
    have R := ih (by omega) h hx h0
    have hfl : f < M.frames.length := (List.getElem?_eq_some_iff.1 hx).1
    have hG : Good ⟨M.frames.set f { x with words := ws.take i ++ x.words.drop i }, M.encl, M.quotes⟩ := by
      have hk := h.f f x hx
      refine h.setF hx ⟨by simp; omega, fun m hm => ?_, hk.lo, hk.hi, hk.free, hk.pl, hk.rights, hk.own⟩ (fun hne => absurd h0 hne)
      rcases List.mem_append.1 hm with hm | hm
      · exact hn m (List.mem_of_mem_take hm)
      · exact hk.w m (List.mem_of_mem_drop hm)
    have P := poke_one (C := C) hG (f := f) (x := { x with words := ws.take i ++ x.words.drop i }) (by simp [List.getElem?_set_self hfl]) h0 (k := i) (by omega) (hn n (List.mem_of_getElem? hnn))
    have e : (ws.take i ++ x.words.drop i).set i n = ws.take (i + 1) ++ x.words.drop (i + 1) := by
      rw [take_one hnn, List.set_append_right _ _ (by rw [List.length_take]; omega), List.length_take, show i - min i ws.length = 0 by omega]
      obtain ⟨m, hm⟩ : ∃ m, x.words[i]? = some m := ⟨_, List.getElem?_eq_getElem (by omega)⟩
      rw [List.drop_eq_getElem_cons (by omega), List.set_cons_zero]
      simp
    simp only [List.set_set, e] at P
    exact R.append (Runs.one P)
theorem pokes_all {C : ChalD} (l : List PageD) : ∀ (fr : Nat) {M : MachD}, Good M → (∀ p ∈ l, PageOk p) → (∀ (j : Nat), j < l.length → ∃ x, M.frames[fr + j]? = some x ∧ x.owner = 0) →
    Runs ⟨M, C⟩ (pokesR l fr) ⟨⟨setAt M.frames fr (l.map freeW), M.encl, M.quotes⟩, C⟩ := by
  induction l with
  | nil => intro fr M _ _ _; exact Runs.nil _
  | cons p l ih =>
    intro fr M h hp hx
    obtain ⟨x, hx0, h0⟩ := hx 0 (by simp)
    rw [Nat.add_zero] at hx0
    have hpk : PageOk p := hp p (List.mem_cons_self ..)
    have h8 := PageOk.len hpk
    have hw : ∀ n ∈ p.words, 0 ≤ n ∧ n ≤ 65535 := ((wordsB_iff _).1 ((pageF_iff _ _ _).1 hpk).2.2).2
    have R := pokes_page (C := C) (f := fr) h8 hw 8 (by omega) h hx0 h0
    have hk := h.f fr x hx0
    have hf0 := hk.free h0
    rw [List.take_of_length_le (by omega), List.drop_of_length_le (by rw [hk.len]; omega), List.append_nil] at R
    have ef : ({ x with words := p.words } : FrameD) = freeW p := by
      obtain ⟨xo, xp, xr, xw⟩ := x
      simp only at h0 hf0
      simp [freeW, h0, hf0]
    rw [ef] at R
    have hG : Good ⟨M.frames.set fr (freeW p), M.encl, M.quotes⟩ := h.setF hx0 ⟨h8, hw, show (0 : Int) ≤ 0 by omega, show (0 : Int) ≤ 4 by omega, fun _ => ⟨rfl, rfl⟩, show (0 : Int) ≤ 0 ∧ (0 : Int) ≤ 7 by omega, show (0 : Int) ≤ 0 ∧ (0 : Int) ≤ 7 by omega, fun hne => absurd rfl hne⟩ (fun hne => absurd rfl hne)
    refine R.append (ih (fr + 1) hG (fun q hq => hp q (List.mem_cons_of_mem _ hq)) (fun j hj => ?_))
    obtain ⟨y, hy, hy0⟩ := hx (j + 1) (by simpa using hj)
    exact ⟨y, by simp only; rw [List.getElem?_set_ne (by omega), show fr + 1 + j = fr + (j + 1) by omega]; exact hy, hy0⟩

theorem askF_is {M : MachD} (h : Good M) {k : Nat} {y : EnclD} (hk : k < 4) (hy : M.encl[k]? = some y) (hs : y.state = 1) : askF M ((k : Int) + 1) 1 = 0 := by
  unfold askF
  rw [if_neg (by simpa using h.mf), enclOf_at hk hy]
  simp only
  rw [if_neg (by omega), if_neg (by omega)]
theorem put_one {M : MachD} {C : ChalD} (h : Good M) {k : Nat} {y : EnclD} (hk : k < 4) (hy : M.encl[k]? = some y) (hs : y.state = 1) {f : Nat} {x : FrameD} (hx : M.frames[f]? = some x) (h0 : x.owner = 0) {p : PageD} (hp : PageOk p)
    (hno : ∀ (j : Nat) (z : FrameD), M.frames[j]? = some z → z.owner = (k : Int) + 1 → z.pl ≠ p.pl) (hl : y.log.size + (addedL p.pl p.rights).length ≤ 1000) :
    actD ⟨M, C⟩ ⟨2, (k : Int) + 1, f, p.pl, p.rights, 0, 0⟩ = (⟨⟨M.frames.set f (ownF ((k : Int) + 1) p.pl p.rights x), M.encl.set k (logE (addedL p.pl p.rights) y), M.quotes⟩, C⟩, ⟨0, 0⟩) := by
  have hf : f < 24 := by have := (List.getElem?_eq_some_iff.1 hx).1; rw [h.fl] at this; exact this
  have hpr := (pageF_iff _ _ _).1 hp
  have ha : addF p.pl p.rights = 0 := by
    unfold addF
    rw [if_pos (by simp only [Bool.and_eq_true, inR_iff]; exact ⟨hpr.1, hpr.2.1⟩)]
  have hpl : placeF M.frames ((k : Int) + 1) p.pl < 0 := by
    have h1 := findI_any (fitsB ((k : Int) + 1) p.pl) M.frames
    have h2 : M.frames.any (fitsB ((k : Int) + 1) p.pl) = false := by
      rw [List.any_eq_false]
      intro z hz hb
      simp only [fitsB, Bool.and_eq_true, decide_eq_true_eq] at hb
      obtain ⟨j, hj⟩ := List.getElem?_of_mem hz
      exact hno j z hj hb.1.1 hb.2
    rw [h2, decide_eq_false_iff_not] at h1
    unfold placeF
    omega
  have hfo : frameOf M f = x := by simp [frameOf, hx]
  have hF : putF M ((k : Int) + 1) f p.pl p.rights = 0 := by
    rw [putF_5 (askF_is h hk hy hs) (by omega) ha hx (by omega) hk hy, if_neg (by omega)]
  simp [actD, putD_yes hF hx hy, keepM]
theorem meas_one {M : MachD} {C : ChalD} (h : Good M) {k : Nat} {y : EnclD} (hk : k < 4) (hy : M.encl[k]? = some y) (hs : y.state = 1) {f : Nat} {x : FrameD} (hx : M.frames[f]? = some x) (h0 : x.owner = (k : Int) + 1) (hl : y.log.size + (heldL x.pl x.words).length ≤ 1000) :
    actD ⟨M, C⟩ ⟨3, (k : Int) + 1, 0, x.pl, 0, 0, 0⟩ = (⟨⟨M.frames, M.encl.set k (logE (heldL x.pl x.words) y), M.quotes⟩, C⟩, ⟨0, 0⟩) := by
  have hpl : placeF M.frames ((k : Int) + 1) x.pl = (f : Int) := by
    refine findI_some hx (by simp [fitsB, h0]) (fun j z hj hz => ?_)
    cases hb : fitsB ((k : Int) + 1) x.pl z with
    | false => rfl
    | true =>
      simp only [fitsB, Bool.and_eq_true, decide_eq_true_eq] at hb
      exact absurd ⟨by omega, hb.2⟩ (h.u f j x z (by omega) hx hz (by omega))
  have hF : measF M ((k : Int) + 1) x.pl = 0 := by
    rw [measF_3 (askF_is h hk hy hs) hpl hx hk hy, if_neg (by omega)]
  simp [actD, measD_yes hF hpl hx hy, keepM]
theorem logE_twice (s t : List UInt8) (y : EnclD) : logE t (logE s y) = logE (s ++ t) y := by
  simp only [logE, EnclD.mk.injEq, true_and]
  refine ⟨?_, trivial⟩
  rw [ByteArray.append_assoc, bytesOf_append]
/-- Pages put and measured, one by one. -/
theorem puts_all {C : ChalD} {k : Nat} (hk : k < 4) (l : List PageD) : ∀ (fr : Nat) {M : MachD} {y : EnclD}, Good M → M.encl[k]? = some y → y.state = 1 → (∀ p ∈ l, PageOk p) → (∀ (j : Nat) (p : PageD), l[j]? = some p → M.frames[fr + j]? = some (freeW p)) →
    (∀ (j : Nat) (z : FrameD), M.frames[j]? = some z → z.owner = (k : Int) + 1 → ∀ p ∈ l, z.pl ≠ p.pl) → l.Pairwise (fun p q => p.pl ≠ q.pl) → y.log.size + (l.flatMap pageL).length ≤ 1000 →
    Runs ⟨M, C⟩ (putsR ((k : Int) + 1) l fr) ⟨⟨setAt M.frames fr (l.map (ownP ((k : Int) + 1))), M.encl.set k (logE (l.flatMap pageL) y), M.quotes⟩, C⟩ := by
  induction l with
  | nil =>
    intro fr M y _ hy _ _ _ _ _ _
    have e : logE [] y = y := by
      simp only [logE]
      have : y.log ++ bytesOf [] = y.log := by
        apply ByteArray.ext
        simp [bytesOf, ByteArray.data_append]
      rw [this]
    rw [List.flatMap_nil, e, set_self hy]
    exact Runs.nil _
  | cons p l ih =>
    intro fr M y h hy hs hp hx hno hpw hl
    have hpk : PageOk p := hp p (List.mem_cons_self ..)
    have hx0 := hx 0 p rfl
    rw [Nat.add_zero] at hx0
    have hlen : (pageL p).length = (addedL p.pl p.rights).length + (heldL p.pl p.words).length := by rw [pageL, List.length_append]
    rw [List.flatMap_cons, List.length_append] at hl
    have hfl : fr < M.frames.length := (List.getElem?_eq_some_iff.1 hx0).1
    have hkl : k < M.encl.length := (List.getElem?_eq_some_iff.1 hy).1
    have P1 := put_one (C := C) h hk hy hs hx0 rfl hpk (fun j z hz ho => hno j z hz ho p (List.mem_cons_self ..)) (by omega)
    have hG1 := actD_ok ⟨2, (k : Int) + 1, fr, p.pl, p.rights, 0, 0⟩ (h := ⟨M, ⟨[], []⟩⟩) ⟨h, show chalF ⟨[], []⟩ = 0 by decide⟩
    have P1' := put_one (C := ⟨[], []⟩) h hk hy hs hx0 rfl hpk (fun j z hz ho => hno j z hz ho p (List.mem_cons_self ..)) (by omega)
    rw [P1'] at hG1
    have hG1 : Good _ := hG1.1
    have eo : ownF ((k : Int) + 1) p.pl p.rights (freeW p) = ownP ((k : Int) + 1) p := rfl
    rw [eo] at P1 hG1
    have hy1 : (M.encl.set k (logE (addedL p.pl p.rights) y))[k]? = some (logE (addedL p.pl p.rights) y) := List.getElem?_set_self hkl
    have hx1 : (M.frames.set fr (ownP ((k : Int) + 1) p))[fr]? = some (ownP ((k : Int) + 1) p) := List.getElem?_set_self hfl
    have hl1 : (logE (addedL p.pl p.rights) y).log.size + (heldL p.pl p.words).length ≤ 1000 := by
      simp only [logE, ByteArray.size_append, bytesOf_size]; omega
    have P2 := meas_one (C := C) hG1 hk hy1 hs hx1 rfl hl1
    have P2' := meas_one (C := ⟨[], []⟩) hG1 hk hy1 hs hx1 rfl hl1
    have hG2 := actD_ok ⟨3, (k : Int) + 1, 0, p.pl, 0, 0, 0⟩ (h := ⟨_, ⟨[], []⟩⟩) ⟨hG1, show chalF ⟨[], []⟩ = 0 by decide⟩
    simp only [ownP] at P2' P2
    simp only [ownP] at hG2
    rw [P2'] at hG2
    have hG2 : Good _ := hG2.1
    rw [List.set_set, logE_twice] at P2 hG2
    have R := ih (fr + 1) hG2 (y := logE (addedL p.pl p.rights ++ heldL p.pl p.words) y) (List.getElem?_set_self hkl) hs (fun q hq => hp q (List.mem_cons_of_mem _ hq))
      (fun j q hq => by
        have := hx (j + 1) q (by simpa using hq)
        simp only
        rw [List.getElem?_set_ne (by omega), show fr + 1 + j = fr + (j + 1) by omega]
        exact this)
      (fun j z hz ho q hq => by
        simp only at hz
        rcases get_set hz with ⟨_, rfl⟩ | ⟨_, hz'⟩
        · exact (List.pairwise_cons.1 hpw).1 q hq
        · exact hno j z hz' ho q (List.mem_cons_of_mem _ hq))
      (List.pairwise_cons.1 hpw).2 (by simp only [logE, ByteArray.size_append, bytesOf_size, List.length_append]; omega)
    simp only [List.set_set, logE_twice] at R
    have e2 : addedL p.pl p.rights ++ heldL p.pl p.words ++ l.flatMap pageL = (p :: l).flatMap pageL := by rw [List.flatMap_cons]; rfl
    rw [e2] at R
    exact Runs.cons P1 (Runs.cons P2 R)

theorem imgF_pw {l : List PageD} : ∀ {q : Option Int}, imgF q l = 0 → l.Pairwise (fun a b => a.pl < b.pl) := by
  have key : ∀ (l : List PageD) (q : Int), imgF (some q) l = 0 → ∀ x ∈ l, q < x.pl := by
    intro l
    induction l with
    | nil => intro q _ x hx; cases hx
    | cons p l ih =>
      intro q h x hx
      have hp := imgF_all h p (List.mem_cons_self ..)
      rw [imgF, if_neg (by simp [hp])] at h
      cases h2 : prevGe (some q) p.pl with
      | true => rw [h2] at h; simp at h
      | false =>
        rw [h2] at h
        have h3 : q < p.pl := by simpa [prevGe] using h2
        rcases List.mem_cons.1 hx with rfl | hx
        · exact h3
        · have := ih p.pl (by simpa using h) x hx
          omega
  induction l with
  | nil => intro q _; exact List.Pairwise.nil
  | cons p l ih =>
    intro q h
    have hp := imgF_all h p (List.mem_cons_self ..)
    rw [imgF, if_neg (by simp [hp])] at h
    cases h2 : prevGe q p.pl with
    | true => rw [h2] at h; simp at h
    | false =>
      rw [h2] at h
      have h3 : imgF (some p.pl) l = 0 := by simpa using h
      exact List.Pairwise.cons (key l p.pl h3) (ih h3)
theorem dec1 {n : Int} (h : 0 ≤ n ∧ n ≤ 7) : (dec n).length = 1 := by
  obtain rfl | rfl | rfl | rfl | rfl | rfl | rfl | rfl : n = 0 ∨ n = 1 ∨ n = 2 ∨ n = 3 ∨ n = 4 ∨ n = 5 ∨ n = 6 ∨ n = 7 := by omega
  all_goals kernel_rfl
theorem decDigits_5 (n : Nat) (h : n < 100000) : (Lib.decDigits n).length ≤ 5 := by
  have step : ∀ (m k : Nat), (m < 10 → (Lib.decDigits m).length ≤ 1) ∧ (10 ≤ m → (Lib.decDigits m).length = (Lib.decDigits (m / 10)).length + 1) := fun m k => by
    constructor
    · intro hm; rw [Lib.decDigits, dif_pos hm]; simp
    · intro hm; rw [Lib.decDigits, dif_neg (by omega)]; simp
  have one : ∀ m : Nat, m < 10 → (Lib.decDigits m).length ≤ 1 := fun m hm => (step m 0).1 hm
  have up : ∀ (c d : Nat), (∀ m : Nat, m < c → (Lib.decDigits m).length ≤ d) → 1 ≤ d → ∀ m : Nat, m < c * 10 → (Lib.decDigits m).length ≤ d + 1 := fun c d hc hd m hm => by
    by_cases h10 : m < 10
    · have := one m h10; omega
    · rw [(step m 0).2 (by omega)]
      have := hc (m / 10) (by omega)
      omega
  exact up 10000 4 (up 1000 3 (up 100 2 (up 10 1 one (by omega)) (by omega)) (by omega)) (by omega) n (by omega)
theorem page_size {p : PageD} (h : PageOk p) : (pageL p).length ≤ 70 := by
  have hp := (pageF_iff _ _ _).1 h
  have hw := (wordsB_iff _).1 hp.2.2
  have hf : ∀ (ws : List Int), (∀ n ∈ ws, 0 ≤ n ∧ n ≤ 65535) → (ws.flatMap fun n => 32 :: dec n).length ≤ 6 * ws.length := by
    intro ws
    induction ws with
    | nil => intro _; simp
    | cons n ws ih =>
      intro hn
      have h1 := ih (fun m hm => hn m (List.mem_cons_of_mem _ hm))
      have h2 := hn n (List.mem_cons_self ..)
      have h3 := decDigits_5 n.toNat (by omega)
      rw [List.flatMap_cons, List.length_append, List.length_cons, List.length_cons]
      rw [dec]
      omega
  have h1 := hf p.words hw.2
  have h2 := dec1 hp.1
  have h3 := dec1 hp.2.1
  rw [hw.1] at h1
  simp only [pageL, addedL, heldL, List.length_append, List.length_cons, List.length_nil]
  omega
theorem pages_size (l : List PageD) (h : ∀ p ∈ l, PageOk p) : (l.flatMap pageL).length ≤ 70 * l.length := by
  induction l with
  | nil => simp
  | cons p l ih =>
    rw [List.flatMap_cons, List.length_append, List.length_cons]
    have := ih (fun q hq => h q (List.mem_cons_of_mem _ hq))
    have := page_size (h p (List.mem_cons_self ..))
    omega
theorem openLog_bytes : openLog = bytesOf openL := by kernel_rfl
/-- The enclave behind its image's acts. -/
def readyE (l : List PageD) : EnclD := ⟨2, bytesOf (expectL l), 0, 0, 0, 0, 0⟩
/-- The machine behind an image's acts. -/
def builtM (M : MachD) (l : List PageD) (k fr : Nat) : MachD := ⟨setAt M.frames fr (l.map (ownP ((k : Int) + 1))), M.encl.set k (readyE l), M.quotes⟩
theorem plan_runs {M : MachD} {C : ChalD} (h : Good M) {l : List PageD} (hi : imageF l = 0) {k fr : Nat} (hk : firstEmpty M = k) (hfr : fr + l.length ≤ 24) (hx : ∀ (j : Nat), j < l.length → ∃ x, M.frames[fr + j]? = some x ∧ x.owner = 0) :
    Runs ⟨M, C⟩ (planD l ((k : Int) + 1) fr) ⟨builtM M l k fr, C⟩ := by
  have hp : ∀ p ∈ l, PageOk p := imgF_all hi
  have h8 := imageF_len hi
  obtain ⟨y0, hy0, hs0⟩ := findI_get (p := fun x : EnclD => x.state == 0) (l := M.encl) (i := k) hk
  have hs0 : y0.state = 0 := by simpa using hs0
  have hk4 : k < 4 := by have := (List.getElem?_eq_some_iff.1 hy0).1; rw [h.el] at this; exact this
  have R1 := pokes_all (C := C) l fr h hp hx
  have hG1 : Good ⟨setAt M.frames fr (l.map freeW), M.encl, M.quotes⟩ := by
    have := actsD_ok (pokesR l fr) (h := ⟨M, ⟨[], []⟩⟩) ⟨h, show chalF ⟨[], []⟩ = 0 by decide⟩
    rw [(pokes_all (C := ⟨[], []⟩) l fr h hp hx).1] at this
    exact this.1
  have e1 : actD ⟨⟨setAt M.frames fr (l.map freeW), M.encl, M.quotes⟩, C⟩ createA = (⟨⟨setAt M.frames fr (l.map freeW), M.encl.set k newEncl, M.quotes⟩, C⟩, ⟨0, (k : Int) + 1⟩) := by
    have hf : firstEmpty ⟨setAt M.frames fr (l.map freeW), M.encl, M.quotes⟩ = k := hk
    have : createD ⟨setAt M.frames fr (l.map freeW), M.encl, M.quotes⟩ = (⟨setAt M.frames fr (l.map freeW), M.encl.set k newEncl, M.quotes⟩, (k : Int) + 1, 0) := by
      rw [createD, if_neg (by simpa using hG1.mf), hf, if_neg (by omega), Int.toNat_natCast]
    simp [actD, createA, this, keepM]
  have hG2 : Good ⟨setAt M.frames fr (l.map freeW), M.encl.set k newEncl, M.quotes⟩ := hG1.setE (k := k) (y := y0) hy0 newEncl_ok (fun _ => show (1 : Int) ≠ 0 by omega)
  have hkl : k < M.encl.length := (List.getElem?_eq_some_iff.1 hy0).1
  have hsz : newEncl.log.size = 5 := by kernel_rfl
  have R3 := puts_all (C := C) hk4 l fr hG2 (y := newEncl) (List.getElem?_set_self hkl) rfl hp (fun j p hj => by
      have hjl := (List.getElem?_eq_some_iff.1 hj).1
      simp only
      rw [setAt_get _ _ _ _ (by rw [List.length_map, h.fl]; omega), if_pos (by rw [List.length_map]; omega), show fr + j - fr = j by omega, List.getElem?_map, hj]
      rfl)
    (fun j z hz ho p hpm => by
      simp only at hz
      rw [setAt_get _ _ _ _ (by rw [List.length_map, h.fl]; omega)] at hz
      split at hz
      · rw [List.getElem?_map, Option.map_eq_some_iff] at hz
        obtain ⟨q, _, rfl⟩ := hz
        simp only [freeW] at ho
        omega
      · have := (h.f j z hz).own (by omega)
        rw [ho, stateAt, show ((k : Int) + 1 - 1).toNat = k by omega, hy0] at this
        exact absurd hs0 this)
    ((imgF_pw hi).imp (fun hlt => by omega)) (by have := pages_size l hp; rw [hsz]; omega)
  simp only [List.set_set] at R3
  have hy3 : (M.encl.set k (logE (l.flatMap pageL) newEncl))[k]? = some (logE (l.flatMap pageL) newEncl) := List.getElem?_set_self hkl
  rw [setAt_twice _ _ _ _ (by simp)] at R3
  have hG3 : Good ⟨setAt M.frames fr (l.map (ownP ((k : Int) + 1))), M.encl.set k (logE (l.flatMap pageL) newEncl), M.quotes⟩ := by
    have R3' := puts_all (C := ⟨[], []⟩) hk4 l fr hG2 (y := newEncl) (List.getElem?_set_self hkl) rfl hp (fun j p hj => by
        have hjl := (List.getElem?_eq_some_iff.1 hj).1
        simp only
        rw [setAt_get _ _ _ _ (by rw [List.length_map, h.fl]; omega), if_pos (by rw [List.length_map]; omega), show fr + j - fr = j by omega, List.getElem?_map, hj]
        rfl)
      (fun j z hz ho p hpm => by
        simp only at hz
        rw [setAt_get _ _ _ _ (by rw [List.length_map, h.fl]; omega)] at hz
        split at hz
        · rw [List.getElem?_map, Option.map_eq_some_iff] at hz
          obtain ⟨q, _, rfl⟩ := hz
          simp only [freeW] at ho
          omega
        · have := (h.f j z hz).own (by omega)
          rw [ho, stateAt, show ((k : Int) + 1 - 1).toNat = k by omega, hy0] at this
          exact absurd hs0 this)
      ((imgF_pw hi).imp (fun hlt => by omega)) (by have := pages_size l hp; rw [hsz]; omega)
    simp only [List.set_set] at R3'
    rw [setAt_twice _ _ _ _ (by simp)] at R3'
    have := actsD_ok (putsR ((k : Int) + 1) l fr) (h := ⟨_, ⟨[], []⟩⟩) ⟨hG2, show chalF ⟨[], []⟩ = 0 by decide⟩
    rw [R3'.1] at this
    exact this.1
  have e4 : actD ⟨⟨setAt M.frames fr (l.map (ownP ((k : Int) + 1))), M.encl.set k (logE (l.flatMap pageL) newEncl), M.quotes⟩, C⟩ (startA ((k : Int) + 1)) = (⟨builtM M l k fr, C⟩, ⟨0, 0⟩) := by
    have hak := askF_is hG3 hk4 hy3 rfl
    have : startD ⟨setAt M.frames fr (l.map (ownP ((k : Int) + 1))), M.encl.set k (logE (l.flatMap pageL) newEncl), M.quotes⟩ ((k : Int) + 1) = (builtM M l k fr, 0) := by
      rw [startD, if_neg (by simpa using hak), show ((k : Int) + 1 - 1).toNat = k by omega]
      simp only
      rw [upd_some hy3, List.set_set, builtM]
      have e5 : ({ logE (l.flatMap pageL) newEncl with state := 2 } : EnclD) = readyE l := by
        simp only [logE, newEncl, readyE, EnclD.mk.injEq, true_and, and_true]
        rw [openLog_bytes, bytesOf_append]
        rfl
      rw [e5]
    simp [actD, startA, this, keepM]
  rw [planD_R]
  exact ((R1.append (Runs.one e1)).append R3).append (Runs.one e4)

end Go.Proofs.YtbamacddfonloaaDoor

namespace Go.Proofs.YtbamacddfonloaaDoor
open Go.RowKit

theorem newD_first : firstEmpty newD = ((0 : Nat) : Int) := by kernel_rfl
theorem newD_free {j : Nat} (h : j < 24) : ∃ x, newD.frames[j]? = some x ∧ x.owner = 0 := by
  refine ⟨bare, ?_, rfl⟩
  simp only [newD]
  rw [List.getElem?_replicate, if_pos h]
/-- The frame from which on the image lies. -/
def frameD (l : List RawD) (r : RawD) (f : Int) : Nat := (pickD f (25 - ((imageD l r).length : Int))).toNat
theorem frameD_in (l : List RawD) (r : RawD) (f : Int) : (frameD l r f : Int) = pickD f (25 - ((imageD l r).length : Int)) ∧ frameD l r f + (imageD l r).length ≤ 24 := by
  have h := imageD_len l r
  have h0 := pickD_lo f (many := 25 - ((imageD l r).length : Int)) (by omega)
  have h1 := pickD_hi f (many := 25 - ((imageD l r).length : Int)) (by omega)
  unfold frameD
  omega
def startedM (L : List PageD) (fr : Nat) : MachD := builtM newD L 0 fr
theorem script_plan {L : List PageD} (hi : imageF L = 0) {fr : Nat} (hfr : fr + L.length ≤ 24) :
    scriptD [] (planD L 1 fr) = ⟨(actsD (⟨newD, ⟨[], []⟩⟩) (planD L 1 fr)).2, startedM L fr, ⟨[], []⟩, 0⟩ ∧ ∀ x ∈ (actsD (⟨newD, ⟨[], []⟩⟩) (planD L 1 fr)).2, x.code = 0 := by
  have R := plan_runs (C := ⟨[], []⟩) newD_good hi newD_first hfr (fun j hj => newD_free (by omega))
  have e : ((0 : Nat) : Int) + 1 = 1 := by omega
  rw [e] at R
  have hs : scriptF [] (planD L 1 fr) = 0 := by
    have hp := pokesT_le (l := L) (fun x hx => PageOk.len (imgF_all hi x hx)) (fr : Int) L.length
    have hq := putsT_le L 1 (fr : Int) L.length
    have h8 := imageF_len hi
    have hl : (planD L 1 fr).length ≤ 200 := by
      simp only [planD, List.length_append, List.length_cons, List.length_nil]; omega
    rw [scriptF, if_neg (by decide), if_neg (by omega)]
  refine ⟨?_, R.2⟩
  rw [scriptD, hs, if_neg (by simp)]
  rw [R.1]
  rfl
theorem startedM_good {L : List PageD} (hi : imageF L = 0) {fr : Nat} (hfr : fr + L.length ≤ 24) : Good (startedM L fr) := by
  have R := plan_runs (C := ⟨[], []⟩) newD_good hi newD_first hfr (fun j hj => newD_free (by omega))
  have := actsD_ok (planD L (((0 : Nat) : Int) + 1) fr) (h := ⟨newD, ⟨[], []⟩⟩) ⟨newD_good, show chalF ⟨[], []⟩ = 0 by decide⟩
  rw [R.1] at this
  exact this.1
theorem startedM_sized {L : List PageD} (hi : imageF L = 0) {fr : Nat} (hfr : fr + L.length ≤ 24) : Sized (startedM L fr) := by
  have := startedM_good hi hfr
  exact ⟨this.fl, this.el, rfl⟩
theorem planD_look {L : List PageD} {e fr : Int} : ∀ a ∈ planD L e fr, a.kind ≠ 11 := by
  intro a ha
  simp only [planD, pokesT, putsT, List.mem_append, List.mem_flatten, List.mem_singleton] at ha
  rcases ha with ((⟨K, hK, ha⟩ | rfl) | ⟨K, hK, ha⟩) | rfl
  · obtain ⟨i, _, rfl⟩ := List.mem_mapIdx.1 hK
    simp only [pokesW] at ha
    obtain ⟨j, _, rfl⟩ := List.mem_mapIdx.1 ha
    simp [pokeA]
  · simp [createA]
  · obtain ⟨i, _, rfl⟩ := List.mem_mapIdx.1 hK
    simp only [putsOf, List.mem_cons, List.not_mem_nil, or_false] at ha
    rcases ha with rfl | rfl <;> simp
  · simp [startA]
/-- The enclave of an image has just its pages. -/
theorem setAt_own {L : List PageD} {F : List FrameD} {fr : Nat} {e : Int} (hl : fr + L.length ≤ F.length) {j : Nat} {p : PageD} (hp : L[j]? = some p) : (setAt F fr (L.map (ownP e)))[fr + j]? = some (ownP e p) := by
  have hj := (List.getElem?_eq_some_iff.1 hp).1
  rw [setAt_get _ _ _ _ (by rw [List.length_map]; exact hl), if_pos (by rw [List.length_map]; omega), show fr + j - fr = j by omega, List.getElem?_map, hp]
  rfl

end Go.Proofs.YtbamacddfonloaaDoor
