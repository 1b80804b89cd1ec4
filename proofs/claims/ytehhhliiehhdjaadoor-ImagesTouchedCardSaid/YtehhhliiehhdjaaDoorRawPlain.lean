/- Raw things: their data, how memory reads as them, the code and the image made of them. No program is walked. -/
import Derived.Test.YtehhhliiehhdjaaDoorPick
import Derived.Test.YtehhhliiehhdjaaDoorTexts
import Derived.Test.YtehhhliiehhdjaaDoorOpens
namespace Go.Proofs.YtehhhliiehhdjaaDoor
open Go.ChangeShapes Go.WideShapes Go.ChangeAt Go.RowKit

structure RawD where
  kind : Int
  a : Int
  b : Int
  c : Int
def RawD.Ok (x : RawD) : Prop := Is64 x.kind ∧ Is64 x.a ∧ Is64 x.b ∧ Is64 x.c
def RawsAt (w : World) (a : Option Addr) (l : List RawD) : Prop :=
  ∀ i x, l[i]? = some x → ∃ b off, a = some ⟨b, off, none⟩ ∧ w.cell? ⟨b, off + i * 4, none⟩ = some (.int .i64 x.kind) ∧ w.cell? ⟨b, off + i * 4 + 1, none⟩ = some (.int .i64 x.a) ∧
    w.cell? ⟨b, off + i * 4 + 2, none⟩ = some (.int .i64 x.b) ∧ w.cell? ⟨b, off + i * 4 + 3, none⟩ = some (.int .i64 x.c)
theorem RawsAt.mono {w w' : World} {a : Option Addr} {l : List RawD} (h : RawsAt w a l) (hb : Below w.heap.size w w') : RawsAt w' a l := fun i x hx => by
  obtain ⟨b, off, e, h0, h1, h2, h3⟩ := h i x hx
  exact ⟨b, off, e, cell_later hb h0, cell_later hb h1, cell_later hb h2, cell_later hb h3⟩

def opD (x : RawD) : Int := 1 + pickD x.kind 9
def argD (x : RawD) : Int := if opD x = 7 then pickD x.c 8 * 2 else if opD x = 1 ∧ pickD x.b 3 = 0 then 64 + pickD x.c 40 else if opD x = 1 ∧ pickD x.b 3 = 1 then 16 + pickD x.c 16 else pickD x.c 70
def insD (op a b c : Int) : List Int := [op + 16 * a + 256 * b, c]
def rawI (x : RawD) : List Int := insD (opD x) (pickD x.a 4) (pickD x.b 4) (argD x)
/-- How many raw things become code. -/
def usedD (l : List RawD) : Nat := min l.length 7
def codeT (l : List RawD) (k j : Nat) : List Int := (l.take k).flatMap rawI ++ (List.replicate (j - k) [8, 0]).flatten
def codeD (l : List RawD) : List Int := codeT l (usedD l) 8
def wordsT (r : RawD) (k : Nat) : List Int := (List.range k).map fun (i : Nat) => pickD (IntKind.i64.wrap (r.a + (i : Int) * 7)) 100
def moreD (r : RawD) : Nat := 2 + (pickD r.b 3).toNat
def morePage (r : RawD) (i : Nat) : PageD := ⟨(i : Int) + 2, if i = 1 then pickD r.c 8 else 3, wordsT r 8⟩
def imageT (l : List RawD) (r : RawD) (k : Nat) : List PageD := [⟨0, 5, (codeD l).take 8⟩, ⟨1, 5, (codeD l).drop 8⟩] ++ (List.range k).map (morePage r)
def imageD (l : List RawD) (r : RawD) : List PageD := imageT l r (moreD r)

theorem wrap_is64 (n : Int) : Is64 (IntKind.i64.wrap n) := by rw [IntKind.wrap_i64]; constructor <;> omega
theorem Is64.wrap {n : Int} (h : Is64 n) : IntKind.i64.wrap n = n := by obtain ⟨h0, h1⟩ := h; rw [IntKind.wrap_i64]; omega
theorem rawI_len (x : RawD) : (rawI x).length = 2 := rfl
theorem flat_rawI (l : List RawD) : (l.flatMap rawI).length = 2 * l.length := by
  induction l with
  | nil => rfl
  | cons x l ih => rw [List.flatMap_cons, List.length_append, ih, rawI_len, List.length_cons]; omega
theorem codeT_len {l : List RawD} {k j : Nat} (hk : k ≤ l.length) (hj : k ≤ j) : (codeT l k j).length = 2 * j := by
  rw [codeT, List.length_append, flat_rawI, List.length_take, List.length_flatten]
  simp
  omega
theorem codeT_self (l : List RawD) (k : Nat) : codeT l k k = (l.take k).flatMap rawI := by simp [codeT]
theorem codeT_pad (l : List RawD) {k j : Nat} (hj : k ≤ j) : codeT l k (j + 1) = codeT l k j ++ [8, 0] := by
  rw [codeT, codeT, show j + 1 - k = (j - k) + 1 by omega, List.replicate_succ', List.flatten_append]
  simp
theorem codeT_step {l : List RawD} {i : Nat} {x : RawD} (hx : l[i]? = some x) : (l.take (i + 1)).flatMap rawI = (l.take i).flatMap rawI ++ rawI x := by
  rw [List.take_add_one, hx]
  simp
theorem codeD_len (l : List RawD) : (codeD l).length = 16 := codeT_len (Nat.min_le_left _ _) (by rw [usedD]; omega)
theorem wordsT_len (r : RawD) (k : Nat) : (wordsT r k).length = k := by simp [wordsT]
theorem wordsT_step (r : RawD) (k : Nat) : wordsT r (k + 1) = wordsT r k ++ [pickD (IntKind.i64.wrap (r.a + (k : Int) * 7)) 100] := by simp [wordsT, List.range_succ]
theorem imageT_len (l : List RawD) (r : RawD) (k : Nat) : (imageT l r k).length = 2 + k := by simp [imageT]; omega
theorem imageT_step (l : List RawD) (r : RawD) (k : Nat) : imageT l r (k + 1) = imageT l r k ++ [morePage r k] := by simp [imageT, List.range_succ]
theorem moreD_le (r : RawD) : 2 ≤ moreD r ∧ moreD r ≤ 4 := by
  have a := pickD_lo r.b (many := 3) (by decide)
  have b := pickD_hi r.b (many := 3) (by decide)
  rw [moreD]
  omega

section
variable {H : Type} {enc : TypeId × Value → H} {w : World}
theorem cRaw : Tryd.prog.cellsOf 46 = 4 := by kernel_rfl
theorem bRaw : Tryd.prog.bytesOf 46 = 32 := by kernel_rfl
theorem lit64 {n : Int} (h : (Lit.int .i64 n).wf = true) : Is64 n := by
  have h1 : IntKind.i64.min = -9223372036854775808 := rfl
  have h2 : IntKind.i64.max = 9223372036854775807 := rfl
  simp only [Lit.wf, Bool.and_eq_true, decide_eq_true_eq] at h
  exact ⟨by omega, by omega⟩
set_option maxRecDepth 100000 in
theorem rd_raws {cs : List Value} (h : Rd enc Tryd.prog w 44 cs) : ∃ a l cap, cs = [.slice a (List.length l) cap] ∧ l.length * 32 ≤ 140737488351232 ∧ RawsAt w a l ∧ ∀ x ∈ l, x.Ok := by
  obtain ⟨a, n, cap, rfl, hcap, hz, hi⟩ := h.slice Tryd.underlying44 (by rw [cRaw]; decide)
  obtain ⟨l, hl, hr⟩ := choose_list (R := fun i (x : RawD) => (∃ b off, a = some ⟨b, off, none⟩ ∧ w.cell? ⟨b, off + i * 4, none⟩ = some (.int .i64 x.kind) ∧ w.cell? ⟨b, off + i * 4 + 1, none⟩ = some (.int .i64 x.a) ∧
    w.cell? ⟨b, off + i * 4 + 2, none⟩ = some (.int .i64 x.b) ∧ w.cell? ⟨b, off + i * 4 + 3, none⟩ = some (.int .i64 x.c)) ∧ x.Ok) fun i him => by
    obtain ⟨b, off, cs', ha, hcl, hc, hx⟩ := hi i him
    rw [cRaw] at hcl hc
    match cs', hcl with
    | [u0, u1, u2, u3], _ =>
      obtain ⟨x0, e0, k0⟩ := (rd_field1 Tryd.underlying46 hx 0 rfl cInt u0 rfl).int Tryd.underlying3
      obtain ⟨x1, e1, k1⟩ := (rd_field1 Tryd.underlying46 hx 1 rfl cInt u1 rfl).int Tryd.underlying3
      obtain ⟨x2, e2, k2⟩ := (rd_field1 Tryd.underlying46 hx 2 rfl cInt u2 rfl).int Tryd.underlying3
      obtain ⟨x3, e3, k3⟩ := (rd_field1 Tryd.underlying46 hx 3 rfl cInt u3 rfl).int Tryd.underlying3
      cases e0; cases e1; cases e2; cases e3
      exact ⟨⟨x0, x1, x2, x3⟩, ⟨b, off, ha, hc 0 _ rfl, by have := hc 1 _ rfl; rw [← Nat.add_assoc] at this; exact this, by have := hc 2 _ rfl; rw [← Nat.add_assoc] at this; exact this, by have := hc 3 _ rfl; rw [← Nat.add_assoc] at this; exact this⟩, lit64 k0, lit64 k1, lit64 k2, lit64 k3⟩
  rw [bRaw, reach_eq] at hz
  subst hl
  refine ⟨a, l, cap, rfl, hz, fun i x hx => (hr i x hx).1, fun x hx => ?_⟩
  obtain ⟨j, hj, rfl⟩ := List.getElem_of_mem hx
  exact (hr j _ (List.getElem?_eq_getElem hj)).2
set_option maxRecDepth 100000 in
theorem rd_raw {v : Value} {b0 : Nat} (hv : Value.okWide Tryd.prog w .any b0 46 v) (h : Rd enc Tryd.prog w 46 v.cells.toList) :
    ∃ r : RawD, v = .agg #[.int .i64 r.kind, .int .i64 r.a, .int .i64 r.b, .int .i64 r.c] ∧ r.Ok := by
  obtain ⟨cs, rfl, hsz⟩ := okWide_struct Tryd.underlying46 hv
  obtain ⟨l⟩ := cs
  match l, hsz.trans cRaw with
  | [u0, u1, u2, u3], _ =>
    obtain ⟨x0, e0, k0⟩ := (rd_field1 Tryd.underlying46 h 0 rfl cInt u0 rfl).int Tryd.underlying3
    obtain ⟨x1, e1, k1⟩ := (rd_field1 Tryd.underlying46 h 1 rfl cInt u1 rfl).int Tryd.underlying3
    obtain ⟨x2, e2, k2⟩ := (rd_field1 Tryd.underlying46 h 2 rfl cInt u2 rfl).int Tryd.underlying3
    obtain ⟨x3, e3, k3⟩ := (rd_field1 Tryd.underlying46 h 3 rfl cInt u3 rfl).int Tryd.underlying3
    cases e0; cases e1; cases e2; cases e3
    exact ⟨⟨x0, x1, x2, x3⟩, rfl, lit64 k0, lit64 k1, lit64 k2, lit64 k3⟩
end

end Go.Proofs.YtehhhliiehhdjaaDoor
