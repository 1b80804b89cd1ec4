/- What an argument reads as, opened to cells: for each type of this program's data. No condition beyond the form's own. -/
import Derived.Test.YtehhhliiehhdjaaDoorLift
import Derived.Test.YtehhhliiehhdjaaDoorTrust
import Derived.Deep.Slices
namespace Go.Proofs.YtehhhliiehhdjaaDoor
open Go.ChangeShapes Go.WideShapes Go.ChangeAt Go.RowKit

section
variable {H : Type} {enc : TypeId × Value → H} {P : Program} {w : World}

/-- The cells read as data of the type, and each size in it is within the reach. -/
def Rd (enc : TypeId × Value → H) (P : Program) (w : World) (t : TypeId) (cs : List Value) : Prop :=
  ∃ (fuel : Nat) (x : DataW H × List MemPlace), DataW.trod enc P w 0 (fun _ => true) true fuel t cs = some x ∧ ∀ n ∈ x.1.weights P t, n ≤ reachBytes

theorem Rd.int {t : TypeId} {k : IntKind} {cs : List Value} (ht : P.underlying t = some (.int k)) (h : Rd enc P w t cs) : ∃ n, cs = [.int k n] ∧ (Lit.int k n).wf = true := by
  obtain ⟨fuel, x, h, _⟩ := h
  obtain ⟨n, h1, _, h2⟩ := DataW.trod_int ht h
  exact ⟨n, h1, h2⟩
theorem Rd.string {t : TypeId} {cs : List Value} (ht : P.underlying t = some .string) (h : Rd enc P w t cs) : ∃ s : ByteArray, cs = [.string s] ∧ s.size ≤ reachBytes := by
  obtain ⟨fuel, x, h, hz⟩ := h
  obtain ⟨s, h1, rfl, _⟩ := DataW.trod_string ht h
  refine ⟨s, h1, ?_⟩
  have := hz s.data.toList.length (by simp [DataW.weights])
  simpa using this
theorem weightsEach_get {ts : List TypeId} {ds : List (DataW H)} (h : ∀ n ∈ DataW.weightsEach P ts ds, n ≤ reachBytes) {j : Nat} {t : TypeId} {d : DataW H} (ht : ts[j]? = some t) (hd : ds[j]? = some d) : ∀ n ∈ d.weights P t, n ≤ reachBytes :=
  fun n hn => h n (DataW.weights_mem_each ht hd n hn)
theorem weightsAll_get {e : TypeId} : ∀ {ds : List (DataW H)}, (∀ n ∈ DataW.weightsAll P e ds, n ≤ reachBytes) → ∀ {j : Nat} {d : DataW H}, ds[j]? = some d → ∀ n ∈ d.weights P e, n ≤ reachBytes
  | [], _, _, _, hd, _, _ => by simp at hd
  | d0 :: ds, h, 0, d, hd, n, hn => by
    simp only [List.getElem?_cons_zero, Option.some.injEq] at hd
    subst hd
    exact h n (by simp only [DataW.weightsAll, List.mem_append]; exact .inl hn)
  | d0 :: ds, h, j + 1, d, hd, n, hn => by
    simp only [List.getElem?_cons_succ] at hd
    exact weightsAll_get (fun m hm => h m (by simp only [DataW.weightsAll, List.mem_append]; exact .inr hm)) hd n hn
theorem Rd.struct {t : TypeId} {fs : Array Field} {cs : List Value} (ht : P.underlying t = some (.struct fs)) (h : Rd enc P w t cs) :
    cs.length = P.cellsOf t ∧ ∀ (i : Nat) (f : Field), fs[i]? = some f → Rd enc P w f.type ((cs.drop f.offset).take (P.cellsOf f.type)) := by
  obtain ⟨fuel, x, h, hz⟩ := h
  obtain ⟨xs, n, rfl, rfl, hl, hx, hg⟩ := DataW.trod_struct ht h
  refine ⟨hl, fun i f hf => ?_⟩
  have hi : i < xs.length := by rw [hx]; exact (Array.getElem?_eq_some_iff.1 hf).1
  refine ⟨n, xs[i], (hg i f hf).trans (List.getElem?_eq_getElem hi), ?_⟩
  simp only [DataW.weights, ht] at hz
  exact weightsEach_get hz (j := i) (by simp [hf]) (by simp [List.getElem?_eq_getElem hi])
theorem Rd.array {t e : TypeId} {m : Nat} {cs : List Value} (ht : P.underlying t = some (.array m e)) (h : Rd enc P w t cs) :
    cs.length = P.cellsOf t ∧ ∀ i, i < m → Rd enc P w e ((cs.drop (i * P.cellsOf e)).take (P.cellsOf e)) := by
  obtain ⟨fuel, x, h, hz⟩ := h
  obtain ⟨xs, n, rfl, rfl, hl, hx, hg⟩ := DataW.trod_array ht h
  refine ⟨hl, fun i hi => ?_⟩
  have hi' : i < xs.length := by omega
  refine ⟨n, xs[i], (hg i hi).trans (List.getElem?_eq_getElem hi'), ?_⟩
  simp only [DataW.weights, ht] at hz
  exact weightsAll_get hz (j := i) (by simp [List.getElem?_eq_getElem hi'])
theorem Rd.slice {t e : TypeId} {cs : List Value} (ht : P.underlying t = some (.slice e)) (hC : 0 < P.cellsOf e) (h : Rd enc P w t cs) :
    ∃ (a : Option Addr) (n cap : Nat), cs = [.slice a n cap] ∧ n ≤ cap ∧ n * P.bytesOf e ≤ reachBytes ∧
      ∀ i, i < n → ∃ b off cs', a = some ⟨b, off, none⟩ ∧ cs'.length = P.cellsOf e ∧ (∀ j u, cs'[j]? = some u → w.cell? ⟨b, off + (i * P.cellsOf e + j), none⟩ = some u) ∧ Rd enc P w e cs' := by
  obtain ⟨fuel, x, h, hz⟩ := h
  rcases DataW.trod_slice ht h with ⟨rfl, rfl⟩ | ⟨a, len, cap, elems, rest, n, rfl, rfl, rfl, hb, hl, hm, hlen, hel, hsp, hns⟩
  · exact ⟨none, 0, 0, rfl, Nat.le_refl _, by simp, fun i hi => by omega⟩
  · simp only [DataW.weights, ht, List.mem_cons, List.mem_append] at hz
    refine ⟨some a, len, cap, rfl, hl, ?_, fun i hi => ?_⟩
    · have := hz _ (.inl rfl)
      simp only [List.length_map] at this
      exact Nat.le_trans (Nat.mul_le_mul_right _ (by omega)) this
    · have hi' : i < elems.length := by omega
      have he := (hel i hi).trans (List.getElem?_eq_getElem hi')
      cases hcs : w.cells? 0 (a.add (i * P.cellsOf e)) (P.cellsOf e) with
      | none => rw [hcs] at he; simp at he
      | some cs' =>
        rw [hcs] at he
        obtain ⟨_, hcl, hat⟩ := World.cells?_some hcs
        obtain ⟨b, off, spot⟩ := a
        have hs : spot = none := by
          have h0 := hat 0 hC
          rw [List.getElem?_eq_getElem (by omega)] at h0
          have := World.cell?_spot h0
          by_cases hz0 : i * P.cellsOf e = 0
          · simpa [Addr.add, hz0] using this
          · -- the first element's cell shows it
            have he0 := (hel 0 (by omega)).trans (List.getElem?_eq_getElem (by omega))
            cases hcs0 : w.cells? 0 ((⟨b, off, spot⟩ : Addr).add (0 * P.cellsOf e)) (P.cellsOf e) with
            | none => rw [hcs0] at he0; simp at he0
            | some cs0 =>
              obtain ⟨_, hcl0, hat0⟩ := World.cells?_some hcs0
              have h00 := hat0 0 hC
              rw [List.getElem?_eq_getElem (by omega)] at h00
              simpa [Addr.add] using World.cell?_spot h00
        subst hs
        refine ⟨b, off, cs', rfl, hcl, fun j u hj => ?_, n, elems[i], he, ?_⟩
        · have hjl : j < P.cellsOf e := by rw [← hcl]; exact (List.getElem?_eq_some_iff.1 hj).1
          have := hat j hjl
          rw [add_plain, add_plain, hj] at this
          rw [← this, Nat.add_assoc]
        · exact weightsAll_get (P := P) (fun m hm => hz m (.inr (.inl hm))) (j := i) (by simp [List.getElem?_eq_getElem hi'])

theorem choose_list {α : Type} {n : Nat} {R : Nat → α → Prop} (h : ∀ i, i < n → ∃ x, R i x) : ∃ l : List α, l.length = n ∧ ∀ i x, l[i]? = some x → R i x := by
  induction n with
  | zero => exact ⟨[], rfl, fun i x hx => by simp at hx⟩
  | succ n ih =>
    obtain ⟨l, hl, hr⟩ := ih fun i hi => h i (by omega)
    obtain ⟨x, hx⟩ := h n (by omega)
    refine ⟨l ++ [x], by simp [hl], fun i y hy => ?_⟩
    by_cases hi : i < l.length
    · rw [List.getElem?_append_left hi] at hy
      exact hr i y hy
    · rw [List.getElem?_append_right (by omega)] at hy
      have : i - l.length = 0 := by
        cases hk : i - l.length with
        | zero => rfl
        | succ k => rw [hk] at hy; simp at hy
      rw [this] at hy
      simp only [List.getElem?_cons_zero, Option.some.injEq] at hy
      subst hy
      obtain rfl : i = n := by omega
      exact hx

/-- An argument by its value, its type and its sizes. -/
theorem Rd.of_trod {t : TypeId} {v : Value} {d : DataW H} {p : List MemPlace} (h : DataW.Trod enc P w 0 (fun _ => true) true t v d p) (hz : ∀ n ∈ d.weights P t, n ≤ reachBytes) : Rd enc P w t v.cells.toList := by
  obtain ⟨fuel, hf⟩ := h
  exact ⟨fuel, _, hf, hz⟩
/-- All arguments. -/
theorem rd_args {ts : List TypeId} {vs : List Value} {ds : List (DataW H)} {ps : List MemPlace} (h : DataW.TrodAll enc P w 0 (fun _ => true) true ts vs ds ps) (hz : ∀ n ∈ DataW.weightsEach P ts ds, n ≤ reachBytes) :
    ∀ (j : Nat) (t : TypeId) (v : Value), ts[j]? = some t → vs[j]? = some v → Rd enc P w t v.cells.toList := by
  induction ts generalizing vs ds ps with
  | nil => intro j t v ht; simp at ht
  | cons t0 ts ih =>
    match vs, ds, h with
    | v0 :: vs, d0 :: ds, h =>
      obtain ⟨p, q, h1, h2, rfl⟩ := h
      intro j t v ht hv
      cases j with
      | zero =>
        simp only [List.getElem?_cons_zero, Option.some.injEq] at ht hv
        subst ht; subst hv
        exact Rd.of_trod h1 fun n hn => hz n (by simp only [DataW.weightsEach, List.mem_append]; exact .inl hn)
      | succ j =>
        simp only [List.getElem?_cons_succ] at ht hv
        exact ih h2 (fun n hn => hz n (by simp only [DataW.weightsEach, List.mem_append]; exact .inr hn)) j t v ht hv

/-- What a law's own walk owes, and the row's step from it. -/
theorem law_contract {f : FuncId} {fn : Func} {s : ChangeSpec} {apart : Bool} {tb : TypeId} (hl : laidOutB P = true) (hr : (fn.params.toList.all fun t => P.readableRec t && decide (t < P.types.size)) = true) (hrt : fn.resultTypes = #[tb]) (hub : P.underlying tb = some .bool) (hv : s.vars = [])
    (hfn : ∀ ds : List (DataW H), ds.length = fn.params.size → (s.fn H (ds ++ [])).results = [.lit (.bool true)] ∧ (s.fn H (ds ++ [])).args = ds ∧ (s.fn H (ds ++ [])).vars = [])
    {W : World} {base : Nat} {args : Array Value} {ds gs : List (DataW H)} {before : List MemPlace}
    (hval : ∀ (j : Nat) t v, fn.params[j]? = some t → args[j]? = some v → Value.okWide P W .any base t v)
    (hW : DataW.Whole enc P fn.params.toList s.vars apart W args.toList ds gs before)
    (hsz : (DataW.weightsEach P (fn.params.toList ++ s.plain.varTypes P) (ds ++ gs)).all (· ≤ reachBytes) = true)
    (hcall : args.size = fn.params.size → (∀ (j : Nat) t v, fn.params[j]? = some t → args[j]? = some v → Value.okWide P W .any base t v ∧ Rd enc P W t v.cells.toList) → Calls P f args W fun e W' => e = .returned (.bool true) ∧ Below W.heap.size W W') :
    Calls P f args W fun e W' => ∃ v, e = .returned v ∧ s.post enc P fn apart true false false W args v W' := by
  have hW' := hW
  obtain ⟨p, q, hA, hV, rfl, _, _⟩ := hW
  have hlen := trodAll_len hA
  have hV' := hV
  rw [hv] at hV'
  obtain ⟨rfl, rfl⟩ := trodVars_none hV'
  have hz : ∀ n ∈ DataW.weightsEach P fn.params.toList ds, n ≤ reachBytes := fun n hn => by
    have e : DataW.weightsEach P (fn.params.toList ++ s.plain.varTypes P) (ds ++ []) = DataW.weightsEach P fn.params.toList ds := by
      have : s.plain.varTypes P = [] := by
        have hv' : s.plain.vars = [] := hv
        simp [DataSpec.varTypes, hv']
      rw [this, List.append_nil, List.append_nil]
    rw [e] at hsz
    simpa using List.all_eq_true.1 hsz n hn
  have hrd := rd_args hA hz
  refine (hcall (by simpa using hlen.1) fun j t v ht hvj => ⟨hval j t v ht hvj, hrd j t v (by simpa using ht) (by simpa using hvj)⟩).mono fun e W' ⟨he, hb⟩ => ⟨_, he, ?_⟩
  exact law_post hl hr hrt hub hW' hv (hfn ds) hb
end

end Go.Proofs.YtehhhliiehhdjaaDoor
