/- What an argument reads as, opened to cells: for each type of this program's data. No condition beyond the form's own.
The arguments' types of this program, opened. No condition beyond the form's own.
A machine that comes in, opened. No condition beyond the form's own.
A machine or a challenger stored over another one: what else reads as data reads so still. Plain laws; no program is walked. -/
import Derived.Test.YtklbbjionoeofaaGreatDoorGa
import Derived.Deep.Slices
import Derived.Test.YtklbbjionoeofaaGreatDoorGb
namespace Go.Proofs.YtklbbjionoeofaaGreatDoor
open Go.ChangeShapes Go.WideShapes Go.ChangeAt Go.RowKit

section
variable {H : Type} {enc : TypeId × Value → H} {P : Program} {w : World}

/-- The cells read as data of the type, and each size in it is within the reach. -/
def Rd (enc : TypeId × Value → H) (P : Program) (w : World) (t : TypeId) (cs : List Value) : Prop :=
  ∃ (fuel : Nat) (x : DataW H × List MemPlace), DataW.trod enc P w 0 (fun _ => true) true fuel t cs = some x ∧ ∀ n ∈ x.1.weights P t, n ≤ reachBytes

theorem Rd.int {t : TypeId} {k : IntKind} {cs : List Value} (ht : P.underlying t = some (.int k)) (h : Rd enc P w t cs) : ∃ n, cs = [.int k n] ∧ (Lit.int k n).wf = true := by
  obtain ⟨fuel, x, h, _⟩ := h
  obtain ⟨n, h1, _, h2⟩ := DataW.trod_int ht h
  exact ⟨n, h1, h2⟩
theorem Rd.string {t : TypeId} {cs : List Value} (ht : P.underlying t = some .string) (h : Rd enc P w t cs) : ∃ s : ByteArray, cs = [.string s] ∧ s.size ≤ reachBytes := by
  obtain ⟨fuel, x, h, hz⟩ := h
  obtain ⟨s, h1, rfl, _⟩ := DataW.trod_string ht h
  refine ⟨s, h1, ?_⟩
  have := hz s.data.toList.length (by simp [DataW.weights])
  simpa using this
theorem weightsEach_get {ts : List TypeId} {ds : List (DataW H)} (h : ∀ n ∈ DataW.weightsEach P ts ds, n ≤ reachBytes) {j : Nat} {t : TypeId} {d : DataW H} (ht : ts[j]? = some t) (hd : ds[j]? = some d) : ∀ n ∈ d.weights P t, n ≤ reachBytes :=
  fun n hn => h n (DataW.weights_mem_each ht hd n hn)
theorem weightsAll_get {e : TypeId} : ∀ {ds : List (DataW H)}, (∀ n ∈ DataW.weightsAll P e ds, n ≤ reachBytes) → ∀ {j : Nat} {d : DataW H}, ds[j]? = some d → ∀ n ∈ d.weights P e, n ≤ reachBytes
  | [], _, _, _, hd, _, _ => by simp at hd
  | d0 :: ds, h, 0, d, hd, n, hn => by
    simp only [List.getElem?_cons_zero, Option.some.injEq] at hd
    subst hd
    exact h n (by simp only [DataW.weightsAll, List.mem_append]; exact .inl hn)
  | d0 :: ds, h, j + 1, d, hd, n, hn => by
    simp only [List.getElem?_cons_succ] at hd
    exact weightsAll_get (fun m hm => h m (by simp only [DataW.weightsAll, List.mem_append]; exact .inr hm)) hd n hn
theorem Rd.struct {t : TypeId} {fs : Array Field} {cs : List Value} (ht : P.underlying t = some (.struct fs)) (h : Rd enc P w t cs) :
    cs.length = P.cellsOf t ∧ ∀ (i : Nat) (f : Field), fs[i]? = some f → Rd enc P w f.type ((cs.drop f.offset).take (P.cellsOf f.type)) := by
  obtain ⟨fuel, x, h, hz⟩ := h
  obtain ⟨xs, n, rfl, rfl, hl, hx, hg⟩ := DataW.trod_struct ht h
  refine ⟨hl, fun i f hf => ?_⟩
  have hi : i < xs.length := by rw [hx]; exact (Array.getElem?_eq_some_iff.1 hf).1
  refine ⟨n, xs[i], (hg i f hf).trans (List.getElem?_eq_getElem hi), ?_⟩
  simp only [DataW.weights, ht] at hz
  exact weightsEach_get hz (j := i) (by simp [hf]) (by simp [List.getElem?_eq_getElem hi])
theorem Rd.array {t e : TypeId} {m : Nat} {cs : List Value} (ht : P.underlying t = some (.array m e)) (h : Rd enc P w t cs) :
    cs.length = P.cellsOf t ∧ ∀ i, i < m → Rd enc P w e ((cs.drop (i * P.cellsOf e)).take (P.cellsOf e)) := by
  obtain ⟨fuel, x, h, hz⟩ := h
  obtain ⟨xs, n, rfl, rfl, hl, hx, hg⟩ := DataW.trod_array ht h
  refine ⟨hl, fun i hi => ?_⟩
  have hi' : i < xs.length := by omega
  refine ⟨n, xs[i], (hg i hi).trans (List.getElem?_eq_getElem hi'), ?_⟩
  simp only [DataW.weights, ht] at hz
  exact weightsAll_get hz (j := i) (by simp [List.getElem?_eq_getElem hi'])
theorem Rd.slice {t e : TypeId} {cs : List Value} (ht : P.underlying t = some (.slice e)) (hC : 0 < P.cellsOf e) (h : Rd enc P w t cs) :
    ∃ (a : Option Addr) (n cap : Nat), cs = [.slice a n cap] ∧ n ≤ cap ∧ n * P.bytesOf e ≤ reachBytes ∧
      ∀ i, i < n → ∃ b off cs', a = some ⟨b, off, none⟩ ∧ cs'.length = P.cellsOf e ∧ (∀ j u, cs'[j]? = some u → w.cell? ⟨b, off + (i * P.cellsOf e + j), none⟩ = some u) ∧ Rd enc P w e cs' := by
  obtain ⟨fuel, x, h, hz⟩ := h
  rcases DataW.trod_slice ht h with ⟨rfl, rfl⟩ | ⟨a, len, cap, elems, rest, n, rfl, rfl, rfl, hb, hl, hm, hlen, hel, hsp, hns⟩
  · exact ⟨none, 0, 0, rfl, Nat.le_refl _, by simp, fun i hi => by omega⟩
  · simp only [DataW.weights, ht, List.mem_cons, List.mem_append] at hz
    refine ⟨some a, len, cap, rfl, hl, ?_, fun i hi => ?_⟩
    · have := hz _ (.inl rfl)
      simp only [List.length_map] at this
      exact Nat.le_trans (Nat.mul_le_mul_right _ (by omega)) this
    · have hi' : i < elems.length := by omega
      have he := (hel i hi).trans (List.getElem?_eq_getElem hi')
      cases hcs : w.cells? 0 (a.add (i * P.cellsOf e)) (P.cellsOf e) with
      | none => rw [hcs] at he; simp at he
      | some cs' =>
        rw [hcs] at he
        obtain ⟨_, hcl, hat⟩ := World.cells?_some hcs
        obtain ⟨b, off, spot⟩ := a
        have hs : spot = none := by
          have h0 := hat 0 hC
          rw [List.getElem?_eq_getElem (by omega)] at h0
          have := World.cell?_spot h0
          by_cases hz0 : i * P.cellsOf e = 0
          · simpa [Addr.add, hz0] using this
          · -- the first element's cell shows it
            have he0 := (hel 0 (by omega)).trans (List.getElem?_eq_getElem (by omega))
            cases hcs0 : w.cells? 0 ((⟨b, off, spot⟩ : Addr).add (0 * P.cellsOf e)) (P.cellsOf e) with
            | none => rw [hcs0] at he0; simp at he0
            | some cs0 =>
              obtain ⟨_, hcl0, hat0⟩ := World.cells?_some hcs0
              have h00 := hat0 0 hC
              rw [List.getElem?_eq_getElem (by omega)] at h00
              simpa [Addr.add] using World.cell?_spot h00
        subst hs
        refine ⟨b, off, cs', rfl, hcl, fun j u hj => ?_, n, elems[i], he, ?_⟩
        · have hjl : j < P.cellsOf e := by rw [← hcl]; exact (List.getElem?_eq_some_iff.1 hj).1
          have := hat j hjl
          rw [add_plain, add_plain, hj] at this
          rw [← this, Nat.add_assoc]
        · exact weightsAll_get (P := P) (fun m hm => hz m (.inr (.inl hm))) (j := i) (by simp [List.getElem?_eq_getElem hi'])

theorem choose_list {α : Type} {n : Nat} {R : Nat → α → Prop} (h : ∀ i, i < n → ∃ x, R i x) : ∃ l : List α, l.length = n ∧ ∀ i x, l[i]? = some x → R i x := by
  induction n with
  | zero => exact ⟨[], rfl, fun i x hx => by simp at hx⟩
  | succ n ih =>
    obtain ⟨l, hl, hr⟩ := ih fun i hi => h i (by omega)
    obtain ⟨x, hx⟩ := h n (by omega)
    refine ⟨l ++ [x], by simp [hl], fun i y hy => ?_⟩
    by_cases hi : i < l.length
    · rw [List.getElem?_append_left hi] at hy
      exact hr i y hy
    · rw [List.getElem?_append_right (by omega)] at hy
      have : i - l.length = 0 := by
        cases hk : i - l.length with
        | zero => rfl
        | succ k => rw [hk] at hy; simp at hy
      rw [this] at hy
      simp only [List.getElem?_cons_zero, Option.some.injEq] at hy
      subst hy
      obtain rfl : i = n := by omega
      exact hx

/-- An argument by its value, its type and its sizes. -/
theorem Rd.of_trod {t : TypeId} {v : Value} {d : DataW H} {p : List MemPlace} (h : DataW.Trod enc P w 0 (fun _ => true) true t v d p) (hz : ∀ n ∈ d.weights P t, n ≤ reachBytes) : Rd enc P w t v.cells.toList := by
  obtain ⟨fuel, hf⟩ := h
  exact ⟨fuel, _, hf, hz⟩
/-- All arguments. -/
theorem rd_args {ts : List TypeId} {vs : List Value} {ds : List (DataW H)} {ps : List MemPlace} (h : DataW.TrodAll enc P w 0 (fun _ => true) true ts vs ds ps) (hz : ∀ n ∈ DataW.weightsEach P ts ds, n ≤ reachBytes) :
    ∀ (j : Nat) (t : TypeId) (v : Value), ts[j]? = some t → vs[j]? = some v → Rd enc P w t v.cells.toList := by
  induction ts generalizing vs ds ps with
  | nil => intro j t v ht; simp at ht
  | cons t0 ts ih =>
    match vs, ds, h with
    | v0 :: vs, d0 :: ds, h =>
      obtain ⟨p, q, h1, h2, rfl⟩ := h
      intro j t v ht hv
      cases j with
      | zero =>
        simp only [List.getElem?_cons_zero, Option.some.injEq] at ht hv
        subst ht; subst hv
        exact Rd.of_trod h1 fun n hn => hz n (by simp only [DataW.weightsEach, List.mem_append]; exact .inl hn)
      | succ j =>
        simp only [List.getElem?_cons_succ] at ht hv
        exact ih h2 (fun n hn => hz n (by simp only [DataW.weightsEach, List.mem_append]; exact .inr hn)) j t v ht hv

/-- What a law's own walk owes, and the row's step from it. -/
theorem law_contract {f : FuncId} {fn : Func} {s : ChangeSpec} {apart : Bool} {tb : TypeId} (hl : laidOutB P = true) (hr : (fn.params.toList.all fun t => P.readableRec t && decide (t < P.types.size)) = true) (hrt : fn.resultTypes = #[tb]) (hub : P.underlying tb = some .bool) (hv : s.vars = [])
    (hfn : ∀ ds : List (DataW H), ds.length = fn.params.size → (s.fn H (ds ++ [])).results = [.lit (.bool true)] ∧ (s.fn H (ds ++ [])).args = ds ∧ (s.fn H (ds ++ [])).vars = [])
    {W : World} {base : Nat} {args : Array Value} {ds gs : List (DataW H)} {before : List MemPlace}
    (hval : ∀ (j : Nat) t v, fn.params[j]? = some t → args[j]? = some v → Value.okWide P W .any base t v)
    (hW : DataW.Whole enc P fn.params.toList s.vars apart W args.toList ds gs before)
    (hsz : (DataW.weightsEach P (fn.params.toList ++ s.plain.varTypes P) (ds ++ gs)).all (· ≤ reachBytes) = true)
    (hcall : args.size = fn.params.size → (∀ (j : Nat) t v, fn.params[j]? = some t → args[j]? = some v → Value.okWide P W .any base t v ∧ Rd enc P W t v.cells.toList) → Calls P f args W fun e W' => e = .returned (.bool true) ∧ Below W.heap.size W W') :
    Calls P f args W fun e W' => ∃ v, e = .returned v ∧ s.post enc P fn apart true false false W args v W' := by
  have hW' := hW
  obtain ⟨p, q, hA, hV, rfl, _, _⟩ := hW
  have hlen := trodAll_len hA
  have hV' := hV
  rw [hv] at hV'
  obtain ⟨rfl, rfl⟩ := trodVars_none hV'
  have hz : ∀ n ∈ DataW.weightsEach P fn.params.toList ds, n ≤ reachBytes := fun n hn => by
    have e : DataW.weightsEach P (fn.params.toList ++ s.plain.varTypes P) (ds ++ []) = DataW.weightsEach P fn.params.toList ds := by
      have : s.plain.varTypes P = [] := by
        have hv' : s.plain.vars = [] := hv
        simp [DataSpec.varTypes, hv']
      rw [this, List.append_nil, List.append_nil]
    rw [e] at hsz
    simpa using List.all_eq_true.1 hsz n hn
  have hrd := rd_args hA hz
  refine (hcall (by simpa using hlen.1) fun j t v ht hvj => ⟨hval j t v ht hvj, hrd j t v (by simpa using ht) (by simpa using hvj)⟩).mono fun e W' ⟨he, hb⟩ => ⟨_, he, ?_⟩
  exact law_post hl hr hrt hub hW' hv (hfn ds) hb
end

end Go.Proofs.YtklbbjionoeofaaGreatDoor

namespace Go.Proofs.YtklbbjionoeofaaGreatDoor
open Go.ChangeShapes Go.WideShapes Go.ChangeAt Go.RowKit

section
variable {H : Type} {enc : TypeId × Value → H} {w : World}

theorem reach_eq : reachBytes = 140737488351232 := by decide
theorem cInt : Tryz.prog.cellsOf 3 = 1 := by kernel_rfl
theorem cStr : Tryz.prog.cellsOf 9 = 1 := by kernel_rfl
theorem bInt : Tryz.prog.bytesOf 3 = 8 := by kernel_rfl
theorem bStr : Tryz.prog.bytesOf 9 = 16 := by kernel_rfl
theorem cInts : Tryz.prog.cellsOf 30 = 1 := by kernel_rfl

theorem one_of {cs : List Value} (h : cs.length = 1) : ∃ u, cs = [u] := by
  match cs, h with
  | [u], _ => exact ⟨u, rfl⟩

theorem rd_ints {cs : List Value} (h : Rd enc Tryz.prog w 30 cs) : ∃ a l cap, cs = [.slice a (List.length l) cap] ∧ l.length * 8 ≤ 140737488351232 ∧ IntsAt w a l := by
  obtain ⟨a, n, cap, rfl, hcap, hz, hi⟩ := h.slice Tryz.underlying30 (by rw [cInt]; decide)
  obtain ⟨l, hl, hr⟩ := choose_list (R := fun i x => ∃ b off, a = some ⟨b, off, none⟩ ∧ w.cell? ⟨b, off + i, none⟩ = some (.int .i64 x)) fun i him => by
    obtain ⟨b, off, cs', ha, hcl, hc, hx⟩ := hi i him
    obtain ⟨x, rfl, _⟩ := hx.int Tryz.underlying3
    exact ⟨x, b, off, ha, by have := hc 0 _ rfl; rw [cInt] at this; simpa using this⟩
  rw [bInt, reach_eq] at hz
  subst hl
  exact ⟨a, l, cap, rfl, hz, hr⟩

theorem rd_strs {cs : List Value} (h : Rd enc Tryz.prog w 22 cs) : ∃ a l cap, cs = [.slice a (List.length l) cap] ∧ l.length * 16 ≤ 140737488351232 ∧ StrsAt w a l ∧ ∀ s ∈ l, s.size ≤ reachBytes := by
  obtain ⟨a, n, cap, rfl, hcap, hz, hi⟩ := h.slice Tryz.underlying22 (by rw [cStr]; decide)
  obtain ⟨l, hl, hr⟩ := choose_list (R := fun i x => (∃ b off, a = some ⟨b, off, none⟩ ∧ w.cell? ⟨b, off + i, none⟩ = some (.string x)) ∧ x.size ≤ reachBytes) fun i him => by
    obtain ⟨b, off, cs', ha, hcl, hc, hx⟩ := hi i him
    obtain ⟨x, rfl, hxz⟩ := hx.string Tryz.underlying9
    exact ⟨x, ⟨b, off, ha, by have := hc 0 _ rfl; rw [cStr] at this; simpa using this⟩, hxz⟩
  rw [bStr, reach_eq] at hz
  subst hl
  refine ⟨a, l, cap, rfl, hz, fun i x hx => (hr i x hx).1, fun s hs => ?_⟩
  obtain ⟨j, hj, rfl⟩ := List.getElem_of_mem hs
  exact (hr j _ (List.getElem?_eq_getElem hj)).2

/-- A field of one cell. -/
theorem rd_field1 {t : TypeId} {fs : Array Field} {cs : List Value} (ht : Tryz.prog.underlying t = some (.struct fs)) (h : Rd enc Tryz.prog w t cs) (i : Nat) {f : Field} (hf : fs[i]? = some f) (hc : Tryz.prog.cellsOf f.type = 1) (u : Value) (hu : cs[f.offset]? = some u) : Rd enc Tryz.prog w f.type [u] := by
  have := (h.struct ht).2 i f hf
  rw [hc] at this
  have hlt : f.offset < cs.length := (List.getElem?_eq_some_iff.1 hu).1
  have e : (cs.drop f.offset).take 1 = [u] := by
    rw [List.drop_eq_getElem_cons hlt]
    have : cs[f.offset] = u := by rw [List.getElem?_eq_getElem hlt] at hu; exact Option.some.inj hu
    simp [this]
  rw [e] at this
  exact this

set_option maxRecDepth 100000 in
theorem rd_chal {v : Value} {b0 : Nat} (hv : Value.okWide Tryz.prog w .any b0 32 v) (h : Rd enc Tryz.prog w 32 v.cells.toList) : ∃ C : ChalD, ChalAt w v C ∧ C.Fits ∧ ∀ s ∈ C.trusts, s.size ≤ reachBytes := by
  obtain ⟨cs, rfl, hsz⟩ := okWide_struct Tryz.underlying32 hv
  obtain ⟨l⟩ := cs
  match l, hsz.trans (show Tryz.prog.cellsOf 32 = 2 by kernel_rfl) with
  | [u0, u1], _ =>
    obtain ⟨a, l0, c0, e0, z0, r0, s0⟩ := rd_strs (rd_field1 Tryz.underlying32 h 0 rfl (by kernel_rfl) u0 rfl)
    obtain ⟨b, l1, c1, e1, z1, r1⟩ := rd_ints (rd_field1 Tryz.underlying32 h 1 rfl (by kernel_rfl) u1 rfl)
    cases e0; cases e1
    exact ⟨⟨l0, l1⟩, ⟨_, _, _, _, rfl, r0, r1⟩, ⟨z0, z1⟩, s0⟩

theorem cPage : Tryz.prog.cellsOf 118 = 3 := by kernel_rfl
theorem bPage : Tryz.prog.bytesOf 118 = 40 := by kernel_rfl
set_option maxRecDepth 100000 in
theorem rd_page {v : Value} {b0 : Nat} (hv : Value.okWide Tryz.prog w .any b0 118 v) (h : Rd enc Tryz.prog w 118 v.cells.toList) :
    ∃ pl r wa wl wc, v = .agg #[.int .i64 pl, .int .i64 r, .slice wa (List.length wl) wc] ∧ wl.length * 8 ≤ 140737488351232 ∧ IntsAt w wa wl := by
  obtain ⟨cs, rfl, hsz⟩ := okWide_struct Tryz.underlying118 hv
  obtain ⟨l⟩ := cs
  match l, hsz.trans cPage with
  | [u0, u1, u2], _ =>
    obtain ⟨x0, e0, _⟩ := (rd_field1 Tryz.underlying118 h 0 rfl cInt u0 rfl).int Tryz.underlying3
    obtain ⟨x1, e1, _⟩ := (rd_field1 Tryz.underlying118 h 1 rfl cInt u1 rfl).int Tryz.underlying3
    obtain ⟨wa, wl, wc, e2, z2, r2⟩ := rd_ints (rd_field1 Tryz.underlying118 h 2 rfl cInts u2 rfl)
    cases e0; cases e1; cases e2
    exact ⟨x0, x1, wa, wl, wc, rfl, z2, r2⟩
set_option maxRecDepth 100000 in
/-- A slice argument's value. -/
theorem rd_slice_v {t e : TypeId} {v : Value} {b0 : Nat} (ht : Tryz.prog.underlying t = some (.slice e)) (hv : Value.okWide Tryz.prog w .any b0 t v) : v.cells.toList = [v] := by
  obtain ⟨a, n, c, rfl⟩ := okWide_slice ht hv
  rfl
set_option maxRecDepth 100000 in
theorem rd_int_v {v : Value} {b0 : Nat} (hv : Value.okWide Tryz.prog w .any b0 3 v) (h : Rd enc Tryz.prog w 3 v.cells.toList) : ∃ n, v = .int .i64 n ∧ -9223372036854775808 ≤ n ∧ n ≤ 9223372036854775807 := by
  obtain ⟨n, e, hw⟩ := h.int Tryz.underlying3
  simp only [Value.okWide, Tryz.underlying3, Cell.okWide] at hv
  have : v = .int .i64 n := by cases v <;> simp_all [Cell.ok, Value.cells]
  refine ⟨n, this, ?_⟩
  have h1 : IntKind.i64.min = -9223372036854775808 := rfl
  have h2 : IntKind.i64.max = 9223372036854775807 := rfl
  simp only [Lit.wf, Bool.and_eq_true, decide_eq_true_eq] at hw
  omega

end

end Go.Proofs.YtklbbjionoeofaaGreatDoor

namespace Go.Proofs.YtklbbjionoeofaaGreatDoor
open Go.ChangeShapes Go.WideShapes Go.ChangeAt Go.RowKit

section
variable {H : Type} {enc : TypeId × Value → H} {w : World}
theorem cFrame : Tryz.prog.cellsOf 73 = 4 := by kernel_rfl
theorem bFrame : Tryz.prog.bytesOf 73 = 48 := by kernel_rfl
theorem cEncl : Tryz.prog.cellsOf 77 = 7 := by kernel_rfl
theorem bEncl : Tryz.prog.bytesOf 77 = 64 := by kernel_rfl
theorem cQuote : Tryz.prog.cellsOf 71 = 2 := by kernel_rfl
theorem bQuote : Tryz.prog.bytesOf 71 = 24 := by kernel_rfl
theorem cArr : Tryz.prog.cellsOf 75 = 4 := by kernel_rfl

set_option maxRecDepth 100000 in
theorem rd_quotes {cs : List Value} (h : Rd enc Tryz.prog w 27 cs) : ∃ a l cap, cs = [.slice a (List.length l) cap] ∧ l.length * 24 ≤ 140737488351232 ∧ QuotesAt w a l ∧ ∀ q ∈ l, q.log.size ≤ reachBytes := by
  obtain ⟨a, n, cap, rfl, hcap, hz, hi⟩ := h.slice Tryz.underlying27 (by rw [cQuote]; decide)
  obtain ⟨l, hl, hr⟩ := choose_list (R := fun i (x : QuoteD) => (∃ b off, a = some ⟨b, off, none⟩ ∧ w.cell? ⟨b, off + i * 2, none⟩ = some (.string x.log) ∧ w.cell? ⟨b, off + i * 2 + 1, none⟩ = some (.int .i64 x.data)) ∧ x.log.size ≤ reachBytes) fun i him => by
    obtain ⟨b, off, cs', ha, hcl, hc, hx⟩ := hi i him
    rw [cQuote] at hcl hc
    match cs', hcl with
    | [u0, u1], _ =>
      obtain ⟨x0, e0, z0⟩ := (rd_field1 Tryz.underlying71 hx 0 rfl cStr u0 rfl).string Tryz.underlying9
      obtain ⟨x1, e1, _⟩ := (rd_field1 Tryz.underlying71 hx 1 rfl cInt u1 rfl).int Tryz.underlying3
      cases e0; cases e1
      exact ⟨⟨x0, x1⟩, ⟨b, off, ha, hc 0 _ rfl, by have := hc 1 _ rfl; rw [← Nat.add_assoc] at this; exact this⟩, z0⟩
  rw [bQuote, reach_eq] at hz
  subst hl
  refine ⟨a, l, cap, rfl, hz, fun i x hx => (hr i x hx).1, fun s hs => ?_⟩
  obtain ⟨j, hj, rfl⟩ := List.getElem_of_mem hs
  exact (hr j _ (List.getElem?_eq_getElem hj)).2

set_option maxRecDepth 100000 in
theorem rd_encls {cs : List Value} (h : Rd enc Tryz.prog w 26 cs) : ∃ a l cap, cs = [.slice a (List.length l) cap] ∧ l.length * 64 ≤ 140737488351232 ∧ EnclsAt w a l ∧ ∀ x ∈ l, x.log.size ≤ reachBytes := by
  obtain ⟨a, n, cap, rfl, hcap, hz, hi⟩ := h.slice Tryz.underlying26 (by rw [cEncl]; decide)
  obtain ⟨l, hl, hr⟩ := choose_list (R := fun i (x : EnclD) => (∃ b off, a = some ⟨b, off, none⟩ ∧ w.cell? ⟨b, off + i * 7, none⟩ = some (.int .i64 x.state) ∧ w.cell? ⟨b, off + i * 7 + 1, none⟩ = some (.string x.log) ∧
    w.cell? ⟨b, off + i * 7 + 2, none⟩ = some (.int .i64 x.pc) ∧ w.cell? ⟨b, off + i * 7 + 3, none⟩ = some (.int .i64 x.r0) ∧ w.cell? ⟨b, off + i * 7 + 4, none⟩ = some (.int .i64 x.r1) ∧
    w.cell? ⟨b, off + i * 7 + 5, none⟩ = some (.int .i64 x.r2) ∧ w.cell? ⟨b, off + i * 7 + 6, none⟩ = some (.int .i64 x.r3)) ∧ x.log.size ≤ reachBytes) fun i him => by
    obtain ⟨b, off, cs', ha, hcl, hc, hx⟩ := hi i him
    rw [cEncl] at hcl hc
    match cs', hcl with
    | [u0, u1, u2, u3, u4, u5, u6], _ =>
      obtain ⟨x0, e0, _⟩ := (rd_field1 Tryz.underlying77 hx 0 rfl cInt u0 rfl).int Tryz.underlying3
      obtain ⟨x1, e1, z1⟩ := (rd_field1 Tryz.underlying77 hx 1 rfl cStr u1 rfl).string Tryz.underlying9
      obtain ⟨x2, e2, _⟩ := (rd_field1 Tryz.underlying77 hx 2 rfl cInt u2 rfl).int Tryz.underlying3
      have h3 : Rd enc Tryz.prog w 75 (([u0, u1, u2, u3, u4, u5, u6].drop 3).take (Tryz.prog.cellsOf 75)) := (hx.struct Tryz.underlying77).2 3 _ rfl
      rw [cArr] at h3
      have h4 := (h3.array Tryz.underlying75).2
      rw [cInt] at h4
      obtain ⟨x3, e3, _⟩ := (h4 0 (by decide)).int Tryz.underlying3
      obtain ⟨x4, e4, _⟩ := (h4 1 (by decide)).int Tryz.underlying3
      obtain ⟨x5, e5, _⟩ := (h4 2 (by decide)).int Tryz.underlying3
      obtain ⟨x6, e6, _⟩ := (h4 3 (by decide)).int Tryz.underlying3
      cases e0; cases e1; cases e2; cases e3; cases e4; cases e5; cases e6
      have g := fun (j : Nat) (u : Value) (hu : [Value.int .i64 x0, .string x1, .int .i64 x2, .int .i64 x3, .int .i64 x4, .int .i64 x5, .int .i64 x6][j]? = some u) => (show World.cell? w ⟨b, off + i * 7 + j, none⟩ = some u from by have := hc j u hu; rw [← Nat.add_assoc] at this; exact this)
      exact ⟨⟨x0, x1, x2, x3, x4, x5, x6⟩, ⟨b, off, ha, hc 0 _ rfl, g 1 _ rfl, g 2 _ rfl, g 3 _ rfl, g 4 _ rfl, g 5 _ rfl, g 6 _ rfl⟩, z1⟩
  rw [bEncl, reach_eq] at hz
  subst hl
  refine ⟨a, l, cap, rfl, hz, fun i x hx => (hr i x hx).1, fun s hs => ?_⟩
  obtain ⟨j, hj, rfl⟩ := List.getElem_of_mem hs
  exact (hr j _ (List.getElem?_eq_getElem hj)).2

set_option maxRecDepth 100000 in
theorem rd_frames {cs : List Value} (h : Rd enc Tryz.prog w 25 cs) : ∃ a l cap, cs = [.slice a (List.length l) cap] ∧ l.length ≤ cap ∧ l.length * 48 ≤ 140737488351232 ∧ FramesAt w a l ∧ ∀ (i : Nat) (x : FrameD), l[i]? = some x → x.words.length * 8 ≤ 140737488351232 := by
  obtain ⟨a, n, cap, rfl, hcap, hz, hi⟩ := h.slice Tryz.underlying25 (by rw [cFrame]; decide)
  obtain ⟨l, hl, hr⟩ := choose_list (R := fun i (x : FrameD) => (∃ b off wa wc, a = some ⟨b, off, none⟩ ∧ w.cell? ⟨b, off + i * 4, none⟩ = some (.int .i64 x.owner) ∧ w.cell? ⟨b, off + i * 4 + 1, none⟩ = some (.int .i64 x.pl) ∧
    w.cell? ⟨b, off + i * 4 + 2, none⟩ = some (.int .i64 x.rights) ∧ w.cell? ⟨b, off + i * 4 + 3, none⟩ = some (.slice wa x.words.length wc) ∧ IntsAt w wa x.words) ∧ x.words.length * 8 ≤ 140737488351232) fun i him => by
    obtain ⟨b, off, cs', ha, hcl, hc, hx⟩ := hi i him
    rw [cFrame] at hcl hc
    match cs', hcl with
    | [u0, u1, u2, u3], _ =>
      obtain ⟨x0, e0, _⟩ := (rd_field1 Tryz.underlying73 hx 0 rfl cInt u0 rfl).int Tryz.underlying3
      obtain ⟨x1, e1, _⟩ := (rd_field1 Tryz.underlying73 hx 1 rfl cInt u1 rfl).int Tryz.underlying3
      obtain ⟨x2, e2, _⟩ := (rd_field1 Tryz.underlying73 hx 2 rfl cInt u2 rfl).int Tryz.underlying3
      obtain ⟨wa, wl, wc, e3, z3, r3⟩ := rd_ints (rd_field1 Tryz.underlying73 hx 3 rfl cInts u3 rfl)
      cases e0; cases e1; cases e2; cases e3
      have g := fun (j : Nat) (u : Value) (hu : [Value.int .i64 x0, .int .i64 x1, .int .i64 x2, .slice wa wl.length wc][j]? = some u) => (show World.cell? w ⟨b, off + i * 4 + j, none⟩ = some u from by have := hc j u hu; rw [← Nat.add_assoc] at this; exact this)
      exact ⟨⟨x0, x1, x2, wl⟩, ⟨b, off, wa, wc, ha, hc 0 _ rfl, g 1 _ rfl, g 2 _ rfl, g 3 _ rfl, r3⟩, z3⟩
  rw [bFrame, reach_eq] at hz
  subst hl
  exact ⟨a, l, cap, rfl, hcap, hz, fun i x hx => (hr i x hx).1, fun i x hx => (hr i x hx).2⟩

/-- Every text of the machine is within the reach. -/
def MachD.Logs (M : MachD) : Prop := (∀ x ∈ M.encl, x.log.size ≤ reachBytes) ∧ ∀ q ∈ M.quotes, q.log.size ≤ reachBytes
set_option maxRecDepth 100000 in
theorem rd_mach {v : Value} {b0 : Nat} (hv : Value.okWide Tryz.prog w .any b0 29 v) (h : Rd enc Tryz.prog w 29 v.cells.toList) : ∃ M : MachD, MachAt w v M ∧ M.Fits ∧ M.Logs := by
  obtain ⟨cs, rfl, hsz⟩ := okWide_struct Tryz.underlying29 hv
  obtain ⟨l⟩ := cs
  match l, hsz.trans (show Tryz.prog.cellsOf 29 = 3 by kernel_rfl) with
  | [u0, u1, u2], _ =>
    obtain ⟨a0, l0, c0, e0, y0, z0, r0, s0⟩ := rd_frames (rd_field1 Tryz.underlying29 h 0 rfl (by kernel_rfl) u0 rfl)
    obtain ⟨a1, l1, c1, e1, z1, r1, s1⟩ := rd_encls (rd_field1 Tryz.underlying29 h 1 rfl (by kernel_rfl) u1 rfl)
    obtain ⟨a2, l2, c2, e2, z2, r2, s2⟩ := rd_quotes (rd_field1 Tryz.underlying29 h 2 rfl (by kernel_rfl) u2 rfl)
    cases e0; cases e1; cases e2
    exact ⟨⟨l0, l1, l2⟩, ⟨_, _, _, _, _, _, rfl, r0, r1, r2, y0⟩, ⟨z0, z1, z2, s0⟩, ⟨s1, s2⟩⟩
end

end Go.Proofs.YtklbbjionoeofaaGreatDoor

namespace Go.Proofs.YtklbbjionoeofaaGreatDoor
open Go.RowKit

/-- A cell holds a slice. -/
def SlAt (W : World) (b o : Nat) : Prop := ∃ x n c, W.cell? ⟨b, o, none⟩ = some (.slice x n c)
theorem cell_kept {W : World} {p q : Addr} {u v : Value} (hq : W.cell? q = some v) (hp : W.cell? p ≠ some v) : (W.setCell p u).cell? q = some v :=
  (World.cell?_setCell_other W p q u (fun e => hp (by rw [e]; exact hq))).trans hq
theorem SlAt.ne_int {W : World} {b o : Nat} (h : SlAt W b o) (n : Int) : W.cell? ⟨b, o, none⟩ ≠ some (.int .i64 n) := fun e => by
  obtain ⟨x, k, c, h1⟩ := h
  rw [h1] at e
  cases e
theorem SlAt.ne_str {W : World} {b o : Nat} (h : SlAt W b o) (s : ByteArray) : W.cell? ⟨b, o, none⟩ ≠ some (.string s) := fun e => by
  obtain ⟨x, k, c, h1⟩ := h
  rw [h1] at e
  cases e
theorem far_set {W : World} {a : Addr} {u : Value} {b o : Nat} (h : b ≠ a.block) : (W.setCell a u).cell? ⟨b, o, none⟩ = W.cell? ⟨b, o, none⟩ := World.cell?_setCell_other W a ⟨b, o, none⟩ u (fun e => h (by rw [e]))
section
variable {W : World} {a : Option Addr} {b o : Nat} {u : Value}
theorem SlAt.later {W' : World} (h : SlAt W b o) (hb : Below W.heap.size W W') : SlAt W' b o := by
  obtain ⟨x, k, c, h1⟩ := h
  exact ⟨x, k, c, cell_later hb h1⟩
theorem SlAt.set {b' o' : Nat} (h : SlAt W b o) (x : Option Addr) (n c : Nat) : SlAt (W.setCell ⟨b', o', none⟩ (.slice x n c)) b o := by
  by_cases e : (⟨b', o', none⟩ : Addr) = ⟨b, o, none⟩
  · cases e
    obtain ⟨x', k', c', h1⟩ := h
    exact ⟨x, n, c, World.cell?_setCell_same W _ _ h1⟩
  · obtain ⟨x', k', c', h1⟩ := h
    exact ⟨x', k', c', (World.cell?_setCell_other W _ _ _ e).trans h1⟩
theorem IntsAt.box {l : List Int} (h : IntsAt W a l) (hs : SlAt W b o) : IntsAt (W.setCell ⟨b, o, none⟩ u) a l := fun i x hx => by
  obtain ⟨c, off, ha, h0⟩ := h i x hx
  exact ⟨c, off, ha, cell_kept h0 (hs.ne_int _)⟩
theorem StrsAt.box {l : List ByteArray} (h : StrsAt W a l) (hs : SlAt W b o) : StrsAt (W.setCell ⟨b, o, none⟩ u) a l := fun i x hx => by
  obtain ⟨c, off, ha, h0⟩ := h i x hx
  exact ⟨c, off, ha, cell_kept h0 (hs.ne_str _)⟩
theorem QuotesAt.box {l : List QuoteD} (h : QuotesAt W a l) (hs : SlAt W b o) : QuotesAt (W.setCell ⟨b, o, none⟩ u) a l := fun i x hx => by
  obtain ⟨c, off, ha, h0, h1⟩ := h i x hx
  exact ⟨c, off, ha, cell_kept h0 (hs.ne_str _), cell_kept h1 (hs.ne_int _)⟩
theorem EnclsAt.box {l : List EnclD} (h : EnclsAt W a l) (hs : SlAt W b o) : EnclsAt (W.setCell ⟨b, o, none⟩ u) a l := fun i x hx => by
  obtain ⟨c, off, ha, h0, h1, h2, h3, h4, h5, h6⟩ := h i x hx
  exact ⟨c, off, ha, cell_kept h0 (hs.ne_int _), cell_kept h1 (hs.ne_str _), cell_kept h2 (hs.ne_int _), cell_kept h3 (hs.ne_int _), cell_kept h4 (hs.ne_int _), cell_kept h5 (hs.ne_int _), cell_kept h6 (hs.ne_int _)⟩
theorem FramesAt.box {l : List FrameD} (h : FramesAt W a l) (hs : SlAt W b o) (hp : ∀ o', o = o' + 1 → SlAt W b o') : FramesAt (W.setCell ⟨b, o, none⟩ u) a l := fun i x hx => by
  obtain ⟨c, off, wa, wc, ha, h0, h1, h2, h3, h4⟩ := h i x hx
  refine ⟨c, off, wa, wc, ha, cell_kept h0 (hs.ne_int _), cell_kept h1 (hs.ne_int _), cell_kept h2 (hs.ne_int _), (World.cell?_setCell_other W _ _ _ (fun e => ?_)).trans h3, h4.box hs⟩
  obtain ⟨rfl, rfl, _⟩ := Addr.mk.inj e
  exact (hp (off + i * 4 + 2) (by omega)).ne_int _ h2
theorem PagesAt.box {l : List PageD} (h : PagesAt W a l) (hs : SlAt W b o) (hp : ∀ o', o = o' + 1 → SlAt W b o') : PagesAt (W.setCell ⟨b, o, none⟩ u) a l := fun i x hx => by
  obtain ⟨c, off, wa, wc, ha, h0, h1, h2, h3⟩ := h i x hx
  refine ⟨c, off, wa, wc, ha, cell_kept h0 (hs.ne_int _), cell_kept h1 (hs.ne_int _), (World.cell?_setCell_other W _ _ _ (fun e => ?_)).trans h2, h3.box hs⟩
  obtain ⟨rfl, rfl, _⟩ := Addr.mk.inj e
  exact (hp (off + i * 3 + 1) (by omega)).ne_int _ h1
theorem MachAt.box {v : Value} {M : MachD} (h : MachAt W v M) (hs : SlAt W b o) (hp : ∀ o', o = o' + 1 → SlAt W b o') : MachAt (W.setCell ⟨b, o, none⟩ u) v M := by
  obtain ⟨fa, fc, ea, ec, qa, qc, rfl, h1, h2, h3, h4⟩ := h
  exact ⟨fa, fc, ea, ec, qa, qc, rfl, h1.box hs hp, h2.box hs, h3.box hs, h4⟩
theorem ChalAt.box {v : Value} {C : ChalD} (h : ChalAt W v C) (hs : SlAt W b o) : ChalAt (W.setCell ⟨b, o, none⟩ u) v C := by
  obtain ⟨ta, tc, na, nc, rfl, h1, h2⟩ := h
  exact ⟨ta, tc, na, nc, rfl, h1.box hs, h2.box hs⟩
/-- A machine's three cells written over three slices. -/
theorem MachAt.box3 {v : Value} {M : MachD} (h : MachAt W v M) (h0 : SlAt W b 0) (h1 : SlAt W b 1) (h2 : SlAt W b 2) (x y z : Option Addr) (n m k c d e : Nat) :
    MachAt (((W.setCell ⟨b, 0, none⟩ (.slice x n c)).setCell ⟨b, 1, none⟩ (.slice y m d)).setCell ⟨b, 2, none⟩ (.slice z k e)) v M := by
  have k0 := h.box (u := .slice x n c) h0 (fun o' e => absurd e (by omega))
  have g0 := h0.set (b' := b) (o' := 0) x n c
  have g1 := h1.set (b' := b) (o' := 0) x n c
  have g2 := h2.set (b' := b) (o' := 0) x n c
  have k1 := k0.box (u := .slice y m d) g1 (fun o' e => by
    obtain rfl : o' = 0 := by omega
    exact g0)
  have f1 := g1.set (b' := b) (o' := 1) y m d
  have f2 := g2.set (b' := b) (o' := 1) y m d
  exact k1.box f2 (fun o' e => by
    obtain rfl : o' = 1 := by omega
    exact f1)
/-- A challenger's two cells written over two slices. -/
theorem ChalAt.box2 {v : Value} {C : ChalD} (h : ChalAt W v C) {o' : Nat} (h0 : SlAt W b o) (h1 : SlAt W b o') (x y : Option Addr) (n m c d : Nat) :
    ChalAt ((W.setCell ⟨b, o, none⟩ (.slice x n c)).setCell ⟨b, o', none⟩ (.slice y m d)) v C := (h.box h0).box (h1.set _ _ _)
end

end Go.Proofs.YtklbbjionoeofaaGreatDoor
