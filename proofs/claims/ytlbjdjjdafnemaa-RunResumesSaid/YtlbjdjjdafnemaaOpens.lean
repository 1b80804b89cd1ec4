/- The arguments' types of this program, opened. No condition beyond the form's own. -/
import Derived.Test.YtlbjdjjdafnemaaOpen
import Derived.Test.YtlbjdjjdafnemaaImage2
namespace Go.Proofs.Ytlbjdjjdafnemaa
open Go.ChangeShapes Go.WideShapes Go.ChangeAt Go.RowKit

section
variable {H : Type} {enc : TypeId × Value → H} {w : World}

theorem reach_eq : reachBytes = 140737488351232 := by decide
theorem cInt : Try.prog.cellsOf 3 = 1 := by kernel_rfl
theorem cStr : Try.prog.cellsOf 9 = 1 := by kernel_rfl
theorem bInt : Try.prog.bytesOf 3 = 8 := by kernel_rfl
theorem bStr : Try.prog.bytesOf 9 = 16 := by kernel_rfl
theorem cInts : Try.prog.cellsOf 37 = 1 := by kernel_rfl

theorem one_of {cs : List Value} (h : cs.length = 1) : ∃ u, cs = [u] := by
  match cs, h with
  | [u], _ => exact ⟨u, rfl⟩

theorem rd_ints {cs : List Value} (h : Rd enc Try.prog w 37 cs) : ∃ a l cap, cs = [.slice a (List.length l) cap] ∧ l.length * 8 ≤ 140737488351232 ∧ IntsAt w a l := by
  obtain ⟨a, n, cap, rfl, hcap, hz, hi⟩ := h.slice Try.underlying37 (by rw [cInt]; decide)
  obtain ⟨l, hl, hr⟩ := choose_list (R := fun i x => ∃ b off, a = some ⟨b, off, none⟩ ∧ w.cell? ⟨b, off + i, none⟩ = some (.int .i64 x)) fun i him => by
    obtain ⟨b, off, cs', ha, hcl, hc, hx⟩ := hi i him
    obtain ⟨x, rfl, _⟩ := hx.int Try.underlying3
    exact ⟨x, b, off, ha, by have := hc 0 _ rfl; rw [cInt] at this; simpa using this⟩
  rw [bInt, reach_eq] at hz
  subst hl
  exact ⟨a, l, cap, rfl, hz, hr⟩

/-- A field of one cell. -/
theorem rd_field1 {t : TypeId} {fs : Array Field} {cs : List Value} (ht : Try.prog.underlying t = some (.struct fs)) (h : Rd enc Try.prog w t cs) (i : Nat) {f : Field} (hf : fs[i]? = some f) (hc : Try.prog.cellsOf f.type = 1) (u : Value) (hu : cs[f.offset]? = some u) : Rd enc Try.prog w f.type [u] := by
  have := (h.struct ht).2 i f hf
  rw [hc] at this
  have hlt : f.offset < cs.length := (List.getElem?_eq_some_iff.1 hu).1
  have e : (cs.drop f.offset).take 1 = [u] := by
    rw [List.drop_eq_getElem_cons hlt]
    have : cs[f.offset] = u := by rw [List.getElem?_eq_getElem hlt] at hu; exact Option.some.inj hu
    simp [this]
  rw [e] at this
  exact this

theorem cPage : Try.prog.cellsOf 80 = 3 := by kernel_rfl
theorem bPage : Try.prog.bytesOf 80 = 40 := by kernel_rfl
set_option maxRecDepth 100000 in
theorem rd_page {v : Value} {b0 : Nat} (hv : Value.okWide Try.prog w .any b0 80 v) (h : Rd enc Try.prog w 80 v.cells.toList) :
    ∃ pl r wa wl wc, v = .agg #[.int .i64 pl, .int .i64 r, .slice wa (List.length wl) wc] ∧ wl.length * 8 ≤ 140737488351232 ∧ IntsAt w wa wl := by
  obtain ⟨cs, rfl, hsz⟩ := okWide_struct Try.underlying80 hv
  obtain ⟨l⟩ := cs
  match l, hsz.trans cPage with
  | [u0, u1, u2], _ =>
    obtain ⟨x0, e0, _⟩ := (rd_field1 Try.underlying80 h 0 rfl cInt u0 rfl).int Try.underlying3
    obtain ⟨x1, e1, _⟩ := (rd_field1 Try.underlying80 h 1 rfl cInt u1 rfl).int Try.underlying3
    obtain ⟨wa, wl, wc, e2, z2, r2⟩ := rd_ints (rd_field1 Try.underlying80 h 2 rfl cInts u2 rfl)
    cases e0; cases e1; cases e2
    exact ⟨x0, x1, wa, wl, wc, rfl, z2, r2⟩
set_option maxRecDepth 100000 in
/-- A slice argument's value. -/
theorem rd_slice_v {t e : TypeId} {v : Value} {b0 : Nat} (ht : Try.prog.underlying t = some (.slice e)) (hv : Value.okWide Try.prog w .any b0 t v) : v.cells.toList = [v] := by
  obtain ⟨a, n, c, rfl⟩ := okWide_slice ht hv
  rfl
set_option maxRecDepth 100000 in
theorem rd_int_v {v : Value} {b0 : Nat} (hv : Value.okWide Try.prog w .any b0 3 v) (h : Rd enc Try.prog w 3 v.cells.toList) : ∃ n, v = .int .i64 n ∧ -9223372036854775808 ≤ n ∧ n ≤ 9223372036854775807 := by
  obtain ⟨n, e, hw⟩ := h.int Try.underlying3
  simp only [Value.okWide, Try.underlying3, Cell.okWide] at hv
  have : v = .int .i64 n := by cases v <;> simp_all [Cell.ok, Value.cells]
  refine ⟨n, this, ?_⟩
  have h1 : IntKind.i64.min = -9223372036854775808 := rfl
  have h2 : IntKind.i64.max = 9223372036854775807 := rfl
  simp only [Lit.wf, Bool.and_eq_true, decide_eq_true_eq] at hw
  omega

end

end Go.Proofs.Ytlbjdjjdafnemaa
