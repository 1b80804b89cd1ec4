/- The arguments' types of this program, opened. No condition beyond the form's own. -/
import Derived.Test.YtehhhliiehhdjaaDoorOpen
import Derived.Test.YtehhhliiehhdjaaDoorImage2
namespace Go.Proofs.YtehhhliiehhdjaaDoor
open Go.ChangeShapes Go.WideShapes Go.ChangeAt Go.RowKit

section
variable {H : Type} {enc : TypeId × Value → H} {w : World}

theorem reach_eq : reachBytes = 140737488351232 := by decide
theorem cInt : Tryd.prog.cellsOf 3 = 1 := by kernel_rfl
theorem cStr : Tryd.prog.cellsOf 9 = 1 := by kernel_rfl
theorem bInt : Tryd.prog.bytesOf 3 = 8 := by kernel_rfl
theorem bStr : Tryd.prog.bytesOf 9 = 16 := by kernel_rfl
theorem cInts : Tryd.prog.cellsOf 38 = 1 := by kernel_rfl

theorem one_of {cs : List Value} (h : cs.length = 1) : ∃ u, cs = [u] := by
  match cs, h with
  | [u], _ => exact ⟨u, rfl⟩

theorem rd_ints {cs : List Value} (h : Rd enc Tryd.prog w 38 cs) : ∃ a l cap, cs = [.slice a (List.length l) cap] ∧ l.length * 8 ≤ 140737488351232 ∧ IntsAt w a l := by
  obtain ⟨a, n, cap, rfl, hcap, hz, hi⟩ := h.slice Tryd.underlying38 (by rw [cInt]; decide)
  obtain ⟨l, hl, hr⟩ := choose_list (R := fun i x => ∃ b off, a = some ⟨b, off, none⟩ ∧ w.cell? ⟨b, off + i, none⟩ = some (.int .i64 x)) fun i him => by
    obtain ⟨b, off, cs', ha, hcl, hc, hx⟩ := hi i him
    obtain ⟨x, rfl, _⟩ := hx.int Tryd.underlying3
    exact ⟨x, b, off, ha, by have := hc 0 _ rfl; rw [cInt] at this; simpa using this⟩
  rw [bInt, reach_eq] at hz
  subst hl
  exact ⟨a, l, cap, rfl, hz, hr⟩

theorem rd_strs {cs : List Value} (h : Rd enc Tryd.prog w 96 cs) : ∃ a l cap, cs = [.slice a (List.length l) cap] ∧ l.length * 16 ≤ 140737488351232 ∧ StrsAt w a l ∧ ∀ s ∈ l, s.size ≤ reachBytes := by
  obtain ⟨a, n, cap, rfl, hcap, hz, hi⟩ := h.slice Tryd.underlying96 (by rw [cStr]; decide)
  obtain ⟨l, hl, hr⟩ := choose_list (R := fun i x => (∃ b off, a = some ⟨b, off, none⟩ ∧ w.cell? ⟨b, off + i, none⟩ = some (.string x)) ∧ x.size ≤ reachBytes) fun i him => by
    obtain ⟨b, off, cs', ha, hcl, hc, hx⟩ := hi i him
    obtain ⟨x, rfl, hxz⟩ := hx.string Tryd.underlying9
    exact ⟨x, ⟨b, off, ha, by have := hc 0 _ rfl; rw [cStr] at this; simpa using this⟩, hxz⟩
  rw [bStr, reach_eq] at hz
  subst hl
  refine ⟨a, l, cap, rfl, hz, fun i x hx => (hr i x hx).1, fun s hs => ?_⟩
  obtain ⟨j, hj, rfl⟩ := List.getElem_of_mem hs
  exact (hr j _ (List.getElem?_eq_getElem hj)).2

/-- A field of one cell. -/
theorem rd_field1 {t : TypeId} {fs : Array Field} {cs : List Value} (ht : Tryd.prog.underlying t = some (.struct fs)) (h : Rd enc Tryd.prog w t cs) (i : Nat) {f : Field} (hf : fs[i]? = some f) (hc : Tryd.prog.cellsOf f.type = 1) (u : Value) (hu : cs[f.offset]? = some u) : Rd enc Tryd.prog w f.type [u] := by
  have := (h.struct ht).2 i f hf
  rw [hc] at this
  have hlt : f.offset < cs.length := (List.getElem?_eq_some_iff.1 hu).1
  have e : (cs.drop f.offset).take 1 = [u] := by
    rw [List.drop_eq_getElem_cons hlt]
    have : cs[f.offset] = u := by rw [List.getElem?_eq_getElem hlt] at hu; exact Option.some.inj hu
    simp [this]
  rw [e] at this
  exact this

theorem cPage : Tryd.prog.cellsOf 52 = 3 := by kernel_rfl
theorem bPage : Tryd.prog.bytesOf 52 = 40 := by kernel_rfl
set_option maxRecDepth 100000 in
theorem rd_pages {cs : List Value} (h : Rd enc Tryd.prog w 47 cs) : ∃ a l cap, cs = [.slice a (List.length l) cap] ∧ PagesFit l ∧ PagesAt w a l := by
  obtain ⟨a, n, cap, rfl, hcap, hz, hi⟩ := h.slice Tryd.underlying47 (by rw [cPage]; decide)
  obtain ⟨l, hl, hr⟩ := choose_list (R := fun i (x : PageD) => (∃ b off wa wc, a = some ⟨b, off, none⟩ ∧ w.cell? ⟨b, off + i * 3, none⟩ = some (.int .i64 x.pl) ∧ w.cell? ⟨b, off + i * 3 + 1, none⟩ = some (.int .i64 x.rights) ∧
    w.cell? ⟨b, off + i * 3 + 2, none⟩ = some (.slice wa x.words.length wc) ∧ IntsAt w wa x.words) ∧ x.words.length * 8 ≤ 140737488351232) fun i him => by
    obtain ⟨b, off, cs', ha, hcl, hc, hx⟩ := hi i him
    rw [cPage] at hcl hc
    match cs', hcl with
    | [u0, u1, u2], _ =>
      obtain ⟨x0, e0, _⟩ := (rd_field1 Tryd.underlying52 hx 0 rfl cInt u0 rfl).int Tryd.underlying3
      obtain ⟨x1, e1, _⟩ := (rd_field1 Tryd.underlying52 hx 1 rfl cInt u1 rfl).int Tryd.underlying3
      obtain ⟨wa, wl, wc, e2, z2, r2⟩ := rd_ints (rd_field1 Tryd.underlying52 hx 2 rfl cInts u2 rfl)
      cases e0; cases e1; cases e2
      exact ⟨⟨x0, x1, wl⟩, ⟨b, off, wa, wc, ha, hc 0 _ rfl, by have := hc 1 _ rfl; rw [← Nat.add_assoc] at this; exact this, by have := hc 2 _ rfl; rw [← Nat.add_assoc] at this; exact this, r2⟩, z2⟩
  rw [bPage, reach_eq] at hz
  subst hl
  exact ⟨a, l, cap, rfl, ⟨hz, fun i x hx => (hr i x hx).2⟩, fun i x hx => (hr i x hx).1⟩
set_option maxRecDepth 100000 in
theorem rd_page {v : Value} {b0 : Nat} (hv : Value.okWide Tryd.prog w .any b0 52 v) (h : Rd enc Tryd.prog w 52 v.cells.toList) :
    ∃ pl r wa wl wc, v = .agg #[.int .i64 pl, .int .i64 r, .slice wa (List.length wl) wc] ∧ wl.length * 8 ≤ 140737488351232 ∧ IntsAt w wa wl := by
  obtain ⟨cs, rfl, hsz⟩ := okWide_struct Tryd.underlying52 hv
  obtain ⟨l⟩ := cs
  match l, hsz.trans cPage with
  | [u0, u1, u2], _ =>
    obtain ⟨x0, e0, _⟩ := (rd_field1 Tryd.underlying52 h 0 rfl cInt u0 rfl).int Tryd.underlying3
    obtain ⟨x1, e1, _⟩ := (rd_field1 Tryd.underlying52 h 1 rfl cInt u1 rfl).int Tryd.underlying3
    obtain ⟨wa, wl, wc, e2, z2, r2⟩ := rd_ints (rd_field1 Tryd.underlying52 h 2 rfl cInts u2 rfl)
    cases e0; cases e1; cases e2
    exact ⟨x0, x1, wa, wl, wc, rfl, z2, r2⟩
set_option maxRecDepth 100000 in
/-- A slice argument's value. -/
theorem rd_slice_v {t e : TypeId} {v : Value} {b0 : Nat} (ht : Tryd.prog.underlying t = some (.slice e)) (hv : Value.okWide Tryd.prog w .any b0 t v) : v.cells.toList = [v] := by
  obtain ⟨a, n, c, rfl⟩ := okWide_slice ht hv
  rfl
set_option maxRecDepth 100000 in
theorem rd_int_v {v : Value} {b0 : Nat} (hv : Value.okWide Tryd.prog w .any b0 3 v) (h : Rd enc Tryd.prog w 3 v.cells.toList) : ∃ n, v = .int .i64 n ∧ -9223372036854775808 ≤ n ∧ n ≤ 9223372036854775807 := by
  obtain ⟨n, e, hw⟩ := h.int Tryd.underlying3
  simp only [Value.okWide, Tryd.underlying3, Cell.okWide] at hv
  have : v = .int .i64 n := by cases v <;> simp_all [Cell.ok, Value.cells]
  refine ⟨n, this, ?_⟩
  have h1 : IntKind.i64.min = -9223372036854775808 := rfl
  have h2 : IntKind.i64.max = 9223372036854775807 := rfl
  simp only [Lit.wf, Bool.and_eq_true, decide_eq_true_eq] at hw
  omega

end

end Go.Proofs.YtehhhliiehhdjaaDoor
