/- A region that draws its order, each operation by facts of its own: whatever order is drawn, each operation's slot holds what its fact says, and the world has grown; the last operations, a forced chain, are walked. No program. -/
import Derived.Test.YtklbbjionoeofaaGreatDoorGa
import Derived.StillTail
namespace Go.Proofs.YtklbbjionoeofaaGreatDoor
open Go.RowKit

section
variable {P : Program} {ops : Array Oper} {Q : Exit → Act → World → Prop}

/-- Slots that are none of the region's own, and what is deferred, are as they were. -/
structure SlotsAt (D : List Nat) (A a : Act) : Prop where
  size : a.tmps.size = A.tmps.size
  rest : ∀ t, t ∉ D → a.tmps[t]? = A.tmps[t]?
  defers : a.defers = A.defers
def slotOf (D : List Nat) (i : Nat) : Nat := D.getD i 0
/-- The operation i has its value in its slot. -/
def Has (D : List Nat) (G : Nat → Value → World → Prop) (a : Act) (w : World) (i : Nat) : Prop := ∃ v, a.tmps[slotOf D i]? = some v ∧ G i v w
def needA (ops : Array Oper) (i : Nat) : Array Bool := ((List.range ops.size).map fun j => Region.waitsFor .any ops i j).toArray
def headA (n m : Nat) : Array Bool := ((List.range n).map fun j => decide (j < m)).toArray
def ownB (D : List Nat) (ops : Array Oper) (i : Nat) : Bool := match ops[i]? with
  | some o => o.dst == some (slotOf D i) && o.guard.isNone && o.after.all fun e => !Region.binds .any e || decide (e.on < i)
  | none => false
/-- The operation j waits for i, by way of others. -/
def reachB (ops : Array Oper) : Nat → Nat → Nat → Bool
  | 0, _, _ => false
  | n + 1, j, i => Region.waitsFor .any ops j i || (List.range ops.size).any fun k => Region.waitsFor .any ops j k && reachB ops n k i
def lateB (L : List Nat) (m : Nat) (ops : Array Oper) (i : Nat) : Bool := Region.waitsFor .any ops m i || (L.contains i && match ops[i]? with
  | some o => o.after.all fun e => !Region.binds .any e || Region.waitsFor .any ops m e.on
  | none => false) || (List.range m).any fun k => Region.waitsFor .any ops m k && reachB ops 3 k i
/-- The region's form: m operations ahead, each with a slot of its own, of which those of L may be taken as soon as they can; then a chain. -/
def regionB (D L : List Nat) (m : Nat) (ops : Array Oper) : Bool :=
  decide (m < ops.size) && Region.noSelect ops && decide (D.length = m) && decide D.Nodup && L.all (fun i => decide (i < m)) &&
  (List.range m).all (ownB D ops) && (List.range m).all (lateB L m ops) && (List.range ops.size).all (fun t => decide (t ≤ m) || Region.waitsFor .any ops t (t - 1)) &&
  L.all (fun i => Region.free .any ops (needA ops i) i) && Region.seqB .any ops (ops.size - m) m (headA ops.size m)

theorem slots_put {D : List Nat} {A a : Act} (h : SlotsAt D A a) {t : Nat} (ht : t ∈ D) (v : Value) : SlotsAt D A (a.put (some t) v) :=
  ⟨by simp only [Act.put, Array.size_setIfInBounds]; exact h.size, fun u hu => by
    have hne : t ≠ u := fun e => hu (e ▸ ht)
    simp only [Act.put]
    rw [Array.getElem?_setIfInBounds_ne hne]
    exact h.rest u hu, h.defers⟩
theorem put_get {a : Act} {t : Nat} (h : t < a.tmps.size) (v : Value) : (a.put (some t) v).tmps[t]? = some v := by
  simp [Act.put, h]
theorem put_far {a : Act} {t u : Nat} (h : t ≠ u) (v : Value) : (a.put (some t) v).tmps[u]? = a.tmps[u]? := by
  simp only [Act.put]
  exact Array.getElem?_setIfInBounds_ne h
theorem nodup_getD {D : List Nat} (h : D.Nodup) {i j : Nat} (hi : i < D.length) (hj : j < D.length) (hne : i ≠ j) : slotOf D i ≠ slotOf D j := by
  unfold slotOf
  rw [List.getD_eq_getElem?_getD, List.getD_eq_getElem?_getD, List.getElem?_eq_getElem hi, List.getElem?_eq_getElem hj]
  simp only [Option.getD_some]
  intro e
  rcases Nat.lt_or_gt_of_ne hne with hlt | hlt
  · exact List.pairwise_iff_getElem.1 h i j hi hj hlt e
  · exact List.pairwise_iff_getElem.1 h j i hj hi hlt e.symm
theorem slotOf_mem {D : List Nat} {i : Nat} (hi : i < D.length) : slotOf D i ∈ D := by
  unfold slotOf
  rw [List.getD_eq_getElem?_getD, List.getElem?_eq_getElem hi]
  exact List.getElem_mem hi
theorem waits_of {ops : Array Oper} {j i : Nat} {o : Oper} (ho : ops[j]? = some o) {e : Edge} (he : e ∈ o.after) (hb : Region.binds .any e = true) (hi : e.on = i) : Region.waitsFor .any ops j i = true := by
  unfold Region.waitsFor
  rw [ho]
  simp only
  rw [Array.any_eq_true']
  exact ⟨e, he, by simp [hb, hi]⟩
theorem needA_get {ops : Array Oper} {i j : Nat} (h : (needA ops i).getD j true = false ∨ ops.size ≤ j) : Region.waitsFor .any ops i j = false ∨ ops.size ≤ j := by
  rcases h with h | h
  · by_cases hj : j < ops.size
    · left
      simpa [needA, hj] using h
    · exact .inr (by omega)
  · exact .inr h

structure RegI (D : List Nat) (G : Nat → Value → World → Prop) (m n : Nat) (A : Act) (W : World) (listed : Array Bool) (a : Act) (w : World) : Prop where
  lsize : listed.size = n
  tail : ∀ t, m ≤ t → t < n → listed.getD t true = false
  slots : SlotsAt D A a
  below : Below W.heap.size W w
  facts : ∀ i, i < m → listed.getD i false = true → Has D G a w i

theorem RegI.set {D : List Nat} {G : Nat → Value → World → Prop} {m n : Nat} {A a : Act} {W w w' : World} {listed : Array Bool} (h : RegI D G m n A W listed a w) (hD : D.Nodup) (hl : D.length = m) (hsz : ∀ t ∈ D, t < A.tmps.size)
    (hG : ∀ i v w w', Below w.heap.size w w' → G i v w → G i v w') {i : Nat} (hi : i < m) {v : Value} (hv : G i v w') (hb : Below w.heap.size w w') :
    RegI D G m n A W (listed.setIfInBounds i true) (a.put (some (slotOf D i)) v) w' := by
  have hiD : i < D.length := by omega
  refine ⟨by simp [h.lsize], fun t ht htn => ?_, slots_put h.slots (slotOf_mem hiD) v, h.below.trans (hb.mono h.below.size), fun j hj hlj => ?_⟩
  · rw [getD_set_ne true (by omega)]
    exact h.tail t ht htn
  · by_cases hij : i = j
    · subst hij
      exact ⟨v, put_get (by rw [h.slots.size]; exact hsz _ (slotOf_mem hiD)) v, hv⟩
    · rw [getD_set_ne false hij] at hlj
      obtain ⟨u, h1, h2⟩ := h.facts j hj hlj
      exact ⟨u, by rw [put_far (nodup_getD hD hiD (by omega) hij)]; exact h1, hG j u w w' hb h2⟩

theorem reach_listed {m : Nat} {listed : Array Bool} (hcl : ∀ j, j < m → listed.getD j false = true → ∀ k, Region.waitsFor .any ops j k = true → listed.getD k false = true) (hlt : ∀ j, j < m → ∀ k, Region.waitsFor .any ops j k = true → k < j) :
    ∀ (n j i : Nat), j < m → listed.getD j false = true → reachB ops n j i = true → listed.getD i false = true
  | 0, _, _, _, _, h => by simp [reachB] at h
  | n + 1, j, i, hj, hlj, h => by
    simp only [reachB, Bool.or_eq_true, List.any_eq_true, Bool.and_eq_true, List.mem_range] at h
    rcases h with h | ⟨k, _, h1, h2⟩
    · exact hcl j hj hlj i h
    · exact reach_listed hcl hlt n k i (by have := hlt j hj k h1; omega) (hcl j hj hlj k h1) h2
theorem closed_set {m : Nat} {listed : Array Bool} {i : Nat} (hcl : ∀ j, j < m → listed.getD j false = true → ∀ k, Region.waitsFor .any ops j k = true → listed.getD k false = true) (hi : i < listed.size)
    (hd : ∀ k, Region.waitsFor .any ops i k = true → listed.getD k false = true) :
    ∀ j, j < m → (listed.setIfInBounds i true).getD j false = true → ∀ k, Region.waitsFor .any ops j k = true → (listed.setIfInBounds i true).getD k false = true := fun j hj hlj k hk => by
  by_cases hik : i = k
  · subst hik
    simp [hi]
  · rw [getD_set_ne false hik]
    by_cases hij : i = j
    · subst hij
      exact hd k hk
    · rw [getD_set_ne false hij] at hlj
      exact hcl j hj hlj k hk

theorem wp_region_specs {id : Nat} {A : Act} {W0 : World} {l : List Oper} (D L : List Nat) (m : Nat) (G : Nat → Value → World → Prop) (hm : P.follows .mixedOrders = true) (hB : regionB D L m l.toArray = true) (hsz : ∀ t ∈ D, t < A.tmps.size)
    (hQ : ∀ c a (t : Nat) v w, Q (.panic c) (a.put (some t) v) w → Q (.panic c) a w) (hG : ∀ i v w w', Below w.heap.size w w' → G i v w → G i v w')
    (hpure : ∀ i ∈ L, ∀ o, l[i]? = some o → ∀ a w, SlotsAt D A a → Below W0.drew.heap.size W0.drew w → (∀ j, Region.waitsFor .any l.toArray i j = true → Has D G a w j) → ∃ v, Yields P l.toArray o v a ∧ G i v w)
    (hstep : ∀ i, i < m → i ∉ L → ∀ o, l[i]? = some o → ∀ a w, SlotsAt D A a → Below W0.drew.heap.size W0.drew w → (∀ j, Region.waitsFor .any l.toArray i j = true → Has D G a w j) →
      o.wp P a w (fun a' w' => ∃ v, a' = a.put o.dst v ∧ G i v w' ∧ Below w.heap.size w w') Q)
    (htail : ∀ a w, SlotsAt D A a → Below W0.drew.heap.size W0.drew w → (∀ i, i < m → Has D G a w i) → wpList P l.toArray Q (l.drop m) a w) : (Code.region id l.toArray true).wp P Q A W0 := by
  simp only [regionB, Bool.and_eq_true, decide_eq_true_eq] at hB
  obtain ⟨⟨⟨⟨⟨⟨⟨⟨⟨hmn, hsel⟩, hDl⟩, hDn⟩, hLm⟩, hown⟩, hlate⟩, hchain⟩, hfree⟩, hseq⟩ := hB
  have hLm : ∀ i ∈ L, i < m := fun i hi => by simpa using List.all_eq_true.1 hLm i hi
  have own : ∀ i, i < m → ∃ o, l[i]? = some o ∧ o.dst = some (slotOf D i) ∧ o.guard = none ∧ ∀ e ∈ o.after, Region.binds .any e = true → e.on < i := fun i hi => by
    have h := List.all_eq_true.1 hown i (List.mem_range.2 hi)
    unfold ownB at h
    split at h
    · rename_i o ho
      simp only [Bool.and_eq_true, beq_iff_eq, Option.isNone_iff_eq_none] at h
      refine ⟨o, by simpa using ho, h.1.1, h.1.2, fun e he hb => ?_⟩
      have := Array.all_eq_true_iff_forall_mem.1 h.2 e he
      simpa [hb] using this
    · cases h
  have main : ∀ (k : Nat) (un : List Nat) (listed : Array Bool) (a : Act) (w : World), un.length = k → un.Nodup → (∀ i, i ∈ un ↔ i < m ∧ listed.getD i true = false) → RegI D G m l.toArray.size A W0.drew listed a w →
      (∀ j, j < m → listed.getD j false = true → ∀ k, Region.waitsFor .any l.toArray j k = true → listed.getD k false = true) →
      wpAny P .any l.toArray Q ((l.toArray.size - m) + k) listed a w := by
    intro k
    induction k with
    | zero =>
      intro un listed a w hk _ hmem hI _
      have hun : un = [] := List.eq_nil_of_length_eq_zero hk
      subst hun
      have all : ∀ i, i < m → listed.getD i false = true := fun i hi => by
        have h1 : ¬ (listed.getD i true = false) := fun h => by have := (hmem i).2 ⟨hi, h⟩; simp at this
        have hlt : i < listed.size := by rw [hI.lsize]; omega
        simpa [hlt] using h1
      have hL : listed = headA l.toArray.size m := by
        apply Array.ext
        · simp [headA, hI.lsize]
        · intro j h1 h2
          by_cases hj : j < m
          · have h3 : listed[j] = true := by
              have := all j hj
              simpa [h1] using this
            simp [headA, hj, h3]
          · have := hI.tail j (by omega) (by rw [← hI.lsize]; exact h1)
            have h3 : listed[j] = false := by simpa [h1] using this
            simp [headA, hj, h3]
      have h := htail a w hI.slots hI.below (fun i hi => hI.facts i hi (all i hi))
      rw [hL]
      have := wpAny_of_seq (P := P) (md := .any) (ops := l.toArray) (Q' := Q) (l.drop m) m (headA l.toArray.size m) a w (fun j => by simp [List.getElem?_drop]) (by rw [List.length_drop]; simpa using hseq) h
      rw [List.length_drop] at this
      simpa using this
    | succ k ih =>
      intro un listed a w hk hnd hmem hI hcl
      have unset : ∀ i, i ∈ un → (un.erase i).length = k ∧ (un.erase i).Nodup ∧ ∀ j, j ∈ un.erase i ↔ j < m ∧ (listed.setIfInBounds i true).getD j true = false := fun i hi => by
        refine ⟨by rw [List.length_erase_of_mem hi, hk]; rfl, hnd.erase i, fun j => ?_⟩
        rw [hnd.mem_erase_iff, hmem]
        by_cases hij : i = j
        · subst hij
          have hlt : i < listed.size := by rw [hI.lsize]; have := ((hmem i).1 hi).1; omega
          constructor
          · intro h; exact absurd rfl h.1
          · rintro ⟨_, h⟩
            simp [hlt] at h
        · rw [getD_set_ne true hij]
          constructor
          · intro h; exact h.2
          · intro h; exact ⟨fun e => hij e.symm, h⟩
      have depsL : ∀ i, i ∈ Region.ready .any l.toArray listed → ∀ j, Region.waitsFor .any l.toArray i j = true → listed.getD j false = true := fun i hr j hj => by
        obtain ⟨_, o', ho', hall⟩ := mem_ready.1 hr
        obtain ⟨o2, ho2, e, he, hb, hon⟩ := Region.waitsFor_spec hj
        have e1 : o2 = o' := Option.some.inj (ho2.symm.trans ho')
        subst e1
        have h1 := hall e he hb
        rw [hon] at h1
        exact h1
      have deps : ∀ i o, l[i]? = some o → i < m → i ∈ Region.ready .any l.toArray listed → ∀ j, Region.waitsFor .any l.toArray i j = true → Has D G a w j := fun i o ho him hr j hj => by
        have h1 := depsL i hr j hj
        obtain ⟨o2, ho2, e, he, hb, hon⟩ := Region.waitsFor_spec hj
        obtain ⟨o3, ho3, _, _, hlt⟩ := own i him
        have e2 : o3 = o2 := Option.some.inj ((show l.toArray[i]? = some o3 by simpa using ho3).symm.trans ho2)
        subst e2
        have h2 := hlt e he hb
        exact hI.facts j (by omega) h1
      have inun : ∀ i, i < m → i ∈ Region.ready .any l.toArray listed → i ∈ un := fun i hi hr => (hmem i).2 ⟨hi, (mem_ready.1 hr).1⟩
      by_cases hp : ∃ i ∈ L, i ∈ Region.ready .any l.toArray listed
      · obtain ⟨i, hiL, hr⟩ := hp
        have him := hLm i hiL
        obtain ⟨o, ho, hdst, _, _⟩ := own i him
        obtain ⟨v, hy, hg⟩ := hpure i hiL o ho a w hI.slots hI.below (deps i o ho him hr)
        obtain ⟨u1, u2, u3⟩ := unset i (inun i him hr)
        have H := ih (un.erase i) _ (a.put o.dst v) w u1 u2 u3 (by rw [hdst]; exact hI.set hDn hDl hsz hG him hg (Below.refl _ _)) (closed_set hcl (by rw [hI.lsize]; omega) (depsL i hr))
        refine wpAny_first (i := i) (oi := o) (v := v) (by simpa using ho) (Region.noSelect_spec hsel) (fun c a w h => hQ c a (slotOf D i) v w (by rw [← hdst]; exact h)) _ listed a w (fun j oj hoj hji hun hno => ?_) hr hy H
        have hf : Region.free .any l.toArray (needA l.toArray i) i = true := List.all_eq_true.1 hfree i hiL
        refine Region.free_spec (by simpa using ho) hf j oj hoj hji ?_ hno
        have hjs : j < l.toArray.size := (Array.getElem?_eq_some_iff.1 hoj).1
        have hw : Region.waitsFor .any l.toArray i j = false := by
          cases hc : Region.waitsFor .any l.toArray i j with
          | false => rfl
          | true =>
            obtain ⟨o2, ho2, e, he, hb, hon⟩ := Region.waitsFor_spec hc
            obtain ⟨_, o', ho', hall⟩ := mem_ready.1 hr
            have e1 : o2 = o' := Option.some.inj (ho2.symm.trans ho')
            subst e1
            have h1 := hall e he hb
            rw [hon, getD_both hun] at h1
            cases h1
        have hjs' : j < l.length := by simpa using hjs
        simp only [needA]
        simp [hjs', hw]
      · have hnp : ∀ i, i ∈ L → i ∉ Region.ready .any l.toArray listed := fun i hi hr => hp ⟨i, hi, hr⟩
        obtain ⟨i1, hi1⟩ : ∃ i, i ∈ un := by
          cases un with
          | nil => simp at hk
          | cons x _ => exact ⟨x, List.mem_cons_self ..⟩
        have least : ∃ i, i ∈ un ∧ ∀ j, j < i → j ∉ un := by
          induction i1 using Nat.strongRecOn with
          | _ i1 ihm =>
            by_cases h : ∃ j, j < i1 ∧ j ∈ un
            · obtain ⟨j, h1, h2⟩ := h
              exact ihm j h1 h2
            · exact ⟨i1, hi1, fun j hj hju => h ⟨j, hj, hju⟩⟩
        obtain ⟨i0, hi0, hmin⟩ := least
        obtain ⟨hi0m, hi0u⟩ := (hmem i0).1 hi0
        have hr0 : i0 ∈ Region.ready .any l.toArray listed := by
          obtain ⟨o, ho, _, _, hlt⟩ := own i0 hi0m
          refine mem_ready.2 ⟨hi0u, o, by simpa using ho, fun e he hb => ?_⟩
          have h1 := hlt e he hb
          have h2 : ¬ (e.on ∈ un) := hmin _ h1
          rw [hmem] at h2
          have hlts : e.on < listed.size := by rw [hI.lsize]; omega
          have h3 : ¬ (listed.getD e.on true = false) := fun h => h2 ⟨by omega, h⟩
          simpa [hlts] using h3
        refine ⟨fun h => (by rw [h] at hr0; cases hr0), fun i hr => ?_⟩
        by_cases him : i < m
        · obtain ⟨o, ho, hdst, hgd, _⟩ := own i him
          have hiL : i ∉ L := fun h => hnp i h hr
          have hs := hstep i him hiL o ho a w hI.slots hI.below (deps i o ho him hr)
          obtain ⟨u1, u2, u3⟩ := unset i (inun i him hr)
          have hw : Region.wanted o (yielded l.toArray a.tmps) = true := by simp [Region.wanted, hgd]
          have ho' : l.toArray[i]? = some o := by simpa using ho
          unfold wpOp
          simp only [ho', hw, if_true]
          refine .inl (Oper.wp_mono (fun a' w' h => ?_) hs)
          obtain ⟨v, rfl, hg, hb⟩ := h
          exact ih (un.erase i) _ _ w' u1 u2 u3 (by rw [hdst]; exact hI.set hDn hDl hsz hG him hg hb) (closed_set hcl (by rw [hI.lsize]; omega) (depsL i hr))
        · exfalso
          obtain ⟨hiu, o, ho, hall⟩ := mem_ready.1 hr
          have hin : i < l.toArray.size := (Array.getElem?_eq_some_iff.1 ho).1
          by_cases hie : i = m
          · subst hie
            have h1 := List.all_eq_true.1 hlate i0 (List.mem_range.2 hi0m)
            unfold lateB at h1
            have listedOn : ∀ j, Region.waitsFor .any l.toArray i j = true → listed.getD j false = true := fun j hj => by
              obtain ⟨o2, ho2, e, he, hb, hon⟩ := Region.waitsFor_spec hj
              have e1 : o2 = o := Option.some.inj (ho2.symm.trans ho)
              subst e1
              have := hall e he hb
              rw [hon] at this
              exact this
            simp only [Bool.or_eq_true] at h1
            rcases h1 with (h1 | h1) | h1
            · have := listedOn i0 h1
              rw [getD_both hi0u] at this
              cases this
            · simp only [Bool.and_eq_true, List.contains_iff_mem] at h1
              exact hnp i0 h1.1 hr0
            · simp only [List.any_eq_true, Bool.and_eq_true, List.mem_range] at h1
              obtain ⟨k, hk, h2, h3⟩ := h1
              have := reach_listed hcl (fun j hj k hk => by
                obtain ⟨o3, ho3, _, _, hlt⟩ := own j hj
                obtain ⟨o2, ho2, e, he, hb, hon⟩ := Region.waitsFor_spec hk
                have e2 : o3 = o2 := Option.some.inj ((show l.toArray[j]? = some o3 by simpa using ho3).symm.trans ho2)
                subst e2
                have := hlt e he hb
                omega) 3 k i0 hk (listedOn k h2) h3
              rw [getD_both hi0u] at this
              cases this
          · have h1 := List.all_eq_true.1 hchain i (List.mem_range.2 hin)
            simp only [Bool.or_eq_true, decide_eq_true_eq] at h1
            rcases h1 with h1 | h1
            · omega
            · obtain ⟨o2, ho2, e, he, hb, hon⟩ := Region.waitsFor_spec h1
              have e1 : o2 = o := Option.some.inj (ho2.symm.trans ho)
              subst e1
              have h2 := hall e he hb
              rw [hon, getD_both (hI.tail (i - 1) (by omega) (by omega))] at h2
              cases h2
  refine wp_region_any hm ?_
  have := main m (List.range m) (Array.replicate l.toArray.size false) A W0.drew (List.length_range) List.nodup_range (fun i => ?_) ?_ ?_
  · rw [show l.toArray.size - m + m = l.toArray.size by omega] at this
    exact this
  · rw [List.mem_range]
    constructor
    · intro h
      refine ⟨h, ?_⟩
      have : i < l.length := by simp at hmn; omega
      simp [this]
    · intro h; exact h.1
  · refine ⟨by simp, fun t _ htn => ?_, ⟨rfl, fun _ _ => rfl, rfl⟩, Below.refl _ _, fun i _ h => ?_⟩
    · have : t < l.length := by simpa using htn
      simp [this]
    · rw [getD_replicate_false] at h
      cases h
  · intro j _ h
    rw [getD_replicate_false] at h
    cases h

theorem eval_at {a : Act} {t : Nat} {v : Value} (h : a.tmps[t]? = some v) : a.eval (.tmp t) = v := by
  simp [Act.eval, h]
def putAll : List (Nat × Value) → Act → Act
  | [], a => a
  | (t, v) :: r, a => putAll r (a.put (some t) v)
theorem putAll_size (L : List (Nat × Value)) : ∀ a : Act, (putAll L a).tmps.size = a.tmps.size := by
  induction L with
  | nil => intro a; rfl
  | cons p L ih => intro a; rw [putAll, ih]; simp [Act.put]
theorem putAll_defers (L : List (Nat × Value)) : ∀ a : Act, (putAll L a).defers = a.defers := by
  induction L with
  | nil => intro a; rfl
  | cons p L ih => intro a; rw [putAll, ih]; rfl
theorem putAll_far (L : List (Nat × Value)) (t : Nat) (h : ∀ p ∈ L, p.1 ≠ t) : ∀ a : Act, (putAll L a).tmps[t]? = a.tmps[t]? := by
  induction L with
  | nil => intro a; rfl
  | cons p L ih =>
    intro a
    rw [putAll, ih (fun q hq => h q (List.mem_cons_of_mem _ hq)), put_far (h p (List.mem_cons_self ..))]
theorem putAll_get (L : List (Nat × Value)) (hn : (L.map Prod.fst).Nodup) (t : Nat) (v : Value) (h : (t, v) ∈ L) : ∀ a : Act, t < a.tmps.size → (putAll L a).tmps[t]? = some v := by
  induction L with
  | nil => cases h
  | cons p L ih =>
    intro a ha
    rw [List.map_cons, List.nodup_cons] at hn
    rw [putAll]
    rcases List.mem_cons.1 h with rfl | h
    · rw [putAll_far L t (fun q hq e => hn.1 (List.mem_map.2 ⟨q, hq, e⟩))]
      exact put_get ha v
    · exact ih hn.2 h _ (by simpa [Act.put] using ha)
/-- The frame written out. -/
theorem SlotsAt.is {D : List Nat} {A a : Act} (hs : SlotsAt D A a) (L : List (Nat × Value)) (hD : L.map Prod.fst = D) (hn : D.Nodup) (hsz : ∀ t ∈ D, t < A.tmps.size) (h : ∀ p ∈ L, a.tmps[p.1]? = some p.2) : a = putAll L A := by
  obtain ⟨at', ad⟩ := a
  have h1 : at' = (putAll L A).tmps := by
    apply Array.ext_getElem?
    intro t
    by_cases ht : t ∈ D
    · have ht' := ht
      rw [← hD] at ht'
      obtain ⟨p, hp, rfl⟩ := List.mem_map.1 ht'
      rw [putAll_get L (by rw [hD]; exact hn) p.1 p.2 hp A (hsz _ ht)]
      exact h p hp
    · rw [putAll_far L t (fun q hq e => ht (by rw [← hD, ← e]; exact List.mem_map.2 ⟨q, hq, rfl⟩))]
      exact hs.rest t ht
  have h2 : ad = (putAll L A).defers := by rw [putAll_defers]; exact hs.defers
  rw [h1, h2]
/-- A call of a Go function. -/
theorem wp_callF {o : Oper} {a : Act} {w : World} {K : Act → World → Prop} (f : FuncId) (vals : Array Value) (hrun : (execOp a.eval o).run P w = .ok (.enter f vals) w) (h : Calls P f vals w fun e w' => ∃ v, e = .returned v ∧ K (a.put o.dst v) w') : o.wp P a w K Q := by
  unfold Oper.wp
  rw [hrun, Oper.upon_enter]
  refine h.mono fun e w' he => ?_
  obtain ⟨v, rfl, hk⟩ := he
  exact hk
/-- An operation that leaves a value. -/
theorem wp_value {o : Oper} {a : Act} {w w' : World} {K : Act → World → Prop} (v : Value) (hrun : (execOp a.eval o).run P w = .ok (.value v) w') (h : K (a.put o.dst v) w') : o.wp P a w K Q := by
  unfold Oper.wp
  rw [hrun]
  exact h
end

end Go.Proofs.YtklbbjionoeofaaGreatDoor
