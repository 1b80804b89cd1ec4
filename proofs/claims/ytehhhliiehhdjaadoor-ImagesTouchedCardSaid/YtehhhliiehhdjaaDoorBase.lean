/- Plain data of the machine, how memory reads as that data, and small laws on it. No program is walked here. Conditions: those that each lemma writes. -/
import Derived.Test.YtehhhliiehhdjaaDoorRows
import Derived.WalkKit
import Derived.WalkSpells
import Derived.WalkLawsBesides
import Derived.Handy
namespace Go.Proofs.YtehhhliiehhdjaaDoor
open Go.RowKit

theorem hid {p : Prop} (h : p) : Hid p := h

structure FrameD where
  owner : Int
  pl : Int
  rights : Int
  words : List Int
structure EnclD where
  state : Int
  log : ByteArray
  pc : Int
  r0 : Int
  r1 : Int
  r2 : Int
  r3 : Int
structure QuoteD where
  log : ByteArray
  data : Int
structure MachD where
  frames : List FrameD
  encl : List EnclD
  quotes : List QuoteD
structure ChalD where
  trusts : List ByteArray
  nonces : List Int
structure PageD where
  pl : Int
  rights : Int
  words : List Int

def vInt (n : Int) : Value := .int .i64 n
def vStr (s : ByteArray) : Value := .string s

/-- A slice of ints reads as a list. -/
def IntsAt (w : World) (a : Option Addr) (l : List Int) : Prop :=
  ∀ i x, l[i]? = some x → ∃ b off, a = some ⟨b, off, none⟩ ∧ w.cell? ⟨b, off + i, none⟩ = some (.int .i64 x)
def StrsAt (w : World) (a : Option Addr) (l : List ByteArray) : Prop :=
  ∀ i x, l[i]? = some x → ∃ b off, a = some ⟨b, off, none⟩ ∧ w.cell? ⟨b, off + i, none⟩ = some (.string x)
def QuotesAt (w : World) (a : Option Addr) (l : List QuoteD) : Prop :=
  ∀ i x, l[i]? = some x → ∃ b off, a = some ⟨b, off, none⟩ ∧ w.cell? ⟨b, off + i * 2, none⟩ = some (.string x.log) ∧ w.cell? ⟨b, off + i * 2 + 1, none⟩ = some (.int .i64 x.data)
def EnclsAt (w : World) (a : Option Addr) (l : List EnclD) : Prop :=
  ∀ i x, l[i]? = some x → ∃ b off, a = some ⟨b, off, none⟩ ∧ w.cell? ⟨b, off + i * 7, none⟩ = some (.int .i64 x.state) ∧ w.cell? ⟨b, off + i * 7 + 1, none⟩ = some (.string x.log) ∧
    w.cell? ⟨b, off + i * 7 + 2, none⟩ = some (.int .i64 x.pc) ∧ w.cell? ⟨b, off + i * 7 + 3, none⟩ = some (.int .i64 x.r0) ∧ w.cell? ⟨b, off + i * 7 + 4, none⟩ = some (.int .i64 x.r1) ∧
    w.cell? ⟨b, off + i * 7 + 5, none⟩ = some (.int .i64 x.r2) ∧ w.cell? ⟨b, off + i * 7 + 6, none⟩ = some (.int .i64 x.r3)
def FramesAt (w : World) (a : Option Addr) (l : List FrameD) : Prop :=
  ∀ i x, l[i]? = some x → ∃ b off wa wc, a = some ⟨b, off, none⟩ ∧ w.cell? ⟨b, off + i * 4, none⟩ = some (.int .i64 x.owner) ∧ w.cell? ⟨b, off + i * 4 + 1, none⟩ = some (.int .i64 x.pl) ∧
    w.cell? ⟨b, off + i * 4 + 2, none⟩ = some (.int .i64 x.rights) ∧ w.cell? ⟨b, off + i * 4 + 3, none⟩ = some (.slice wa x.words.length wc) ∧ IntsAt w wa x.words
def PagesAt (w : World) (a : Option Addr) (l : List PageD) : Prop :=
  ∀ i x, l[i]? = some x → ∃ b off wa wc, a = some ⟨b, off, none⟩ ∧ w.cell? ⟨b, off + i * 3, none⟩ = some (.int .i64 x.pl) ∧ w.cell? ⟨b, off + i * 3 + 1, none⟩ = some (.int .i64 x.rights) ∧
    w.cell? ⟨b, off + i * 3 + 2, none⟩ = some (.slice wa x.words.length wc) ∧ IntsAt w wa x.words

section
variable {w w' : World} {a : Option Addr}
theorem IntsAt.mono {l : List Int} (h : IntsAt w a l) (hb : Below w.heap.size w w') : IntsAt w' a l := fun i x hx => by
  obtain ⟨b, off, ha, hc⟩ := h i x hx
  exact ⟨b, off, ha, cell_later hb hc⟩
theorem StrsAt.mono {l : List ByteArray} (h : StrsAt w a l) (hb : Below w.heap.size w w') : StrsAt w' a l := fun i x hx => by
  obtain ⟨b, off, ha, hc⟩ := h i x hx
  exact ⟨b, off, ha, cell_later hb hc⟩
theorem QuotesAt.mono {l : List QuoteD} (h : QuotesAt w a l) (hb : Below w.heap.size w w') : QuotesAt w' a l := fun i x hx => by
  obtain ⟨b, off, ha, h0, h1⟩ := h i x hx
  exact ⟨b, off, ha, cell_later hb h0, cell_later hb h1⟩
theorem EnclsAt.mono {l : List EnclD} (h : EnclsAt w a l) (hb : Below w.heap.size w w') : EnclsAt w' a l := fun i x hx => by
  obtain ⟨b, off, ha, h0, h1, h2, h3, h4, h5, h6⟩ := h i x hx
  exact ⟨b, off, ha, cell_later hb h0, cell_later hb h1, cell_later hb h2, cell_later hb h3, cell_later hb h4, cell_later hb h5, cell_later hb h6⟩
theorem FramesAt.mono {l : List FrameD} (h : FramesAt w a l) (hb : Below w.heap.size w w') : FramesAt w' a l := fun i x hx => by
  obtain ⟨b, off, wa, wc, ha, h0, h1, h2, h3, h4⟩ := h i x hx
  exact ⟨b, off, wa, wc, ha, cell_later hb h0, cell_later hb h1, cell_later hb h2, cell_later hb h3, h4.mono hb⟩
theorem PagesAt.mono {l : List PageD} (h : PagesAt w a l) (hb : Below w.heap.size w w') : PagesAt w' a l := fun i x hx => by
  obtain ⟨b, off, wa, wc, ha, h0, h1, h2, h3⟩ := h i x hx
  exact ⟨b, off, wa, wc, ha, cell_later hb h0, cell_later hb h1, cell_later hb h2, h3.mono hb⟩
theorem IntsAt.nil : IntsAt w a [] := fun _ _ h => by simp at h
theorem QuotesAt.nil : QuotesAt w a [] := fun _ _ h => by simp at h
end

/-- What comes in fits the form's own reach: 2^47 bytes a slice. -/
def fitN (n k : Nat) : Prop := n * k ≤ 140737488351232
structure MachD.Fits (M : MachD) : Prop where
  f : M.frames.length * 48 ≤ 140737488351232
  e : M.encl.length * 64 ≤ 140737488351232
  q : M.quotes.length * 24 ≤ 140737488351232
  w : ∀ (i : Nat) (x : FrameD), M.frames[i]? = some x → x.words.length * 8 ≤ 140737488351232

/-- A machine's value reads as its data. -/
def MachAt (w : World) (v : Value) (M : MachD) : Prop :=
  ∃ fa fc ea ec qa qc, v = .agg #[.slice fa M.frames.length fc, .slice ea M.encl.length ec, .slice qa M.quotes.length qc] ∧
    FramesAt w fa M.frames ∧ EnclsAt w ea M.encl ∧ QuotesAt w qa M.quotes ∧ M.frames.length ≤ fc
theorem MachAt.mono {w w' : World} {v : Value} {M : MachD} (h : MachAt w v M) (hb : Below w.heap.size w w') : MachAt w' v M := by
  obtain ⟨fa, fc, ea, ec, qa, qc, rfl, h1, h2, h3, h4⟩ := h
  exact ⟨fa, fc, ea, ec, qa, qc, rfl, h1.mono hb, h2.mono hb, h3.mono hb, h4⟩

/-- The first index from i on, of f more, at which p holds, or -1. -/
def firstAt (p : Nat → Bool) : Nat → Nat → Int
  | 0, _ => -1
  | f + 1, i => if p i then i else firstAt p f (i + 1)

/-- What a call that makes memory leaves of what there was: cells and marks. -/
theorem bcell {W w1 : World} (hb : Below W.heap.size W w1) : (∀ b o, b < W.heap.size → w1.cell? ⟨b, o, none⟩ = W.cell? ⟨b, o, none⟩) ∧ (∀ b o, b < W.heap.size → w1.frozen? ⟨b, o, none⟩ = W.frozen? ⟨b, o, none⟩) :=
  ⟨fun b o h => hb.cell (p := ⟨b, o, none⟩) h, fun b o h => hb.frozen (p := ⟨b, o, none⟩) h⟩

/-- A list of cells as a slice has them. -/
def CellsAt (w : World) (a : Option Addr) (cs : List Value) : Prop :=
  ∀ j u, cs[j]? = some u → ∃ b off, a = some ⟨b, off, none⟩ ∧ w.cell? ⟨b, off + j, none⟩ = some u
theorem CellsAt.mono {w w' : World} {a : Option Addr} {cs : List Value} (h : CellsAt w a cs) (hb : Below w.heap.size w w') : CellsAt w' a cs := fun i x hx => by
  obtain ⟨b, off, ha, hc⟩ := h i x hx
  exact ⟨b, off, ha, cell_later hb hc⟩

theorem add_plain (b off j : Nat) : (⟨b, off, none⟩ : Addr).add j = ⟨b, off + j, none⟩ := by
  unfold Addr.add
  by_cases h : j = 0
  · simp [h]
  · simp [h]

/-- What a call owns is read as cells. -/
theorem CellsAt.of_own {w : World} {base : Nat} {e : TypeId} {size : Nat} {v : Value} {n : Nat} {xs : List Value} (h : w.ownsRow base e size v n xs) : ∃ a c, v = .slice a n c ∧ CellsAt w a xs := by
  have h0 := h
  obtain ⟨hl, ⟨rfl, rfl⟩ | ⟨g, cap, cur, rfl, hg, hh, hn, hcap, hsz, ht⟩⟩ := h
  · refine ⟨none, 0, rfl, fun j u hj => ?_⟩
    have : xs = [] := List.eq_nil_of_length_eq_zero (by simpa using hl)
    simp [this] at hj
  · refine ⟨_, cap, rfl, fun j u hj => ⟨g, 0, rfl, ?_⟩⟩
    have hjl : j < n * size := by rw [← hl]; exact (List.getElem?_eq_some_iff.1 hj).1
    rw [Nat.zero_add, h0.cellAt j hjl, hj]

section
variable {α : Type} (f : α → List Value) (k : Nat) (hk : ∀ x, (f x).length = k)
include hk
theorem flat_len (l : List α) : (l.flatMap f).length = l.length * k := by
  induction l with
  | nil => simp
  | cons x l ih => simp [ih, hk, Nat.add_mul, Nat.add_comm]
theorem flat_get (l : List α) (i j : Nat) (hj : j < k) : (l.flatMap f)[i * k + j]? = (l[i]?).bind fun x => (f x)[j]? := by
  induction l generalizing i with
  | nil => simp
  | cons x l ih =>
    rw [List.flatMap_cons]
    cases i with
    | zero => rw [Nat.zero_mul, Nat.zero_add, List.getElem?_append_left (by rw [hk]; exact hj)]; rfl
    | succ i =>
      rw [List.getElem?_append_right (by rw [hk, Nat.succ_mul]; omega), hk, show (i + 1) * k + j - k = i * k + j by rw [Nat.succ_mul]; omega, ih]
      rfl
/-- Which element a cell belongs to. -/
theorem flat_find (h0 : 0 < k) (l : List α) (m : Nat) (u : Value) (h : (l.flatMap f)[m]? = some u) : ∃ i x j, l[i]? = some x ∧ j < k ∧ m = i * k + j ∧ (f x)[j]? = some u := by
  have hm : m = m / k * k + m % k := by have := Nat.div_add_mod m k; rw [Nat.mul_comm] at this; omega
  rw [hm, flat_get f k hk l (m / k) (m % k) (Nat.mod_lt _ h0)] at h
  cases hx : l[m / k]? with
  | none => rw [hx] at h; simp at h
  | some x => rw [hx] at h; exact ⟨m / k, x, m % k, hx, Nat.mod_lt _ h0, hm, h⟩
end

def vI (n : Int) : Value := .int .i64 n
def intCells (l : List Int) : List Value := l.map (Value.int .i64)
def strCells (l : List ByteArray) : List Value := l.map Value.string
def QuoteD.cs (q : QuoteD) : List Value := [.string q.log, .int .i64 q.data]
def EnclD.cs (x : EnclD) : List Value := [.int .i64 x.state, .string x.log, .int .i64 x.pc, .int .i64 x.r0, .int .i64 x.r1, .int .i64 x.r2, .int .i64 x.r3]
/-- A frame with the value of its words. -/
def fcs (p : FrameD × Value) : List Value := [.int .i64 p.1.owner, .int .i64 p.1.pl, .int .i64 p.1.rights, p.2]
def pcs (p : PageD × Value) : List Value := [.int .i64 p.1.pl, .int .i64 p.1.rights, p.2]
theorem QuoteD.cs_len (q : QuoteD) : q.cs.length = 2 := rfl
theorem EnclD.cs_len (x : EnclD) : x.cs.length = 7 := rfl
theorem fcs_len (p : FrameD × Value) : (fcs p).length = 4 := rfl
theorem pcs_len (p : PageD × Value) : (pcs p).length = 3 := rfl

section
variable {w : World} {a : Option Addr}
theorem IntsAt.cells {l : List Int} (h : IntsAt w a l) : CellsAt w a (intCells l) := fun j u hj => by
  simp only [intCells, List.getElem?_map, Option.map_eq_some_iff] at hj
  obtain ⟨x, hx, rfl⟩ := hj
  exact h j x hx
theorem CellsAt.ints {l : List Int} (h : CellsAt w a (intCells l)) : IntsAt w a l := fun j x hx => h j _ (by simp [intCells, hx])
theorem StrsAt.cells {l : List ByteArray} (h : StrsAt w a l) : CellsAt w a (strCells l) := fun j u hj => by
  simp only [strCells, List.getElem?_map, Option.map_eq_some_iff] at hj
  obtain ⟨x, hx, rfl⟩ := hj
  exact h j x hx
theorem CellsAt.strs {l : List ByteArray} (h : CellsAt w a (strCells l)) : StrsAt w a l := fun j x hx => h j _ (by simp [strCells, hx])
theorem QuotesAt.cells {l : List QuoteD} (h : QuotesAt w a l) : CellsAt w a (l.flatMap QuoteD.cs) := fun m u hm => by
  obtain ⟨i, x, j, hx, hj, rfl, hu⟩ := flat_find QuoteD.cs 2 QuoteD.cs_len (by decide) l m u hm
  obtain ⟨b, off, ha, h0, h1⟩ := h i x hx
  refine ⟨b, off, ha, ?_⟩
  rw [← Nat.add_assoc]
  match j, hj, hu with
  | 0, _, hu => rw [← hu]; exact h0
  | 1, _, hu => rw [← hu]; exact h1
theorem CellsAt.quotes {l : List QuoteD} (h : CellsAt w a (l.flatMap QuoteD.cs)) : QuotesAt w a l := fun i x hx => by
  have g := fun j hj => flat_get QuoteD.cs 2 QuoteD.cs_len l i j hj
  obtain ⟨b, off, rfl, h0⟩ := h (i * 2 + 0) (.string x.log) (by rw [g 0 (by decide), hx]; rfl)
  obtain ⟨b1, off1, e1, h1⟩ := h (i * 2 + 1) (.int .i64 x.data) (by rw [g 1 (by decide), hx]; rfl)
  cases e1
  exact ⟨b, off, rfl, h0, by rw [Nat.add_assoc]; exact h1⟩
theorem EnclsAt.cells {l : List EnclD} (h : EnclsAt w a l) : CellsAt w a (l.flatMap EnclD.cs) := fun m u hm => by
  obtain ⟨i, x, j, hx, hj, rfl, hu⟩ := flat_find EnclD.cs 7 EnclD.cs_len (by decide) l m u hm
  obtain ⟨b, off, ha, h0, h1, h2, h3, h4, h5, h6⟩ := h i x hx
  refine ⟨b, off, ha, ?_⟩
  rw [← Nat.add_assoc]
  match j, hj, hu with
  | 0, _, hu => rw [← hu]; exact h0
  | 1, _, hu => rw [← hu]; exact h1
  | 2, _, hu => rw [← hu]; exact h2
  | 3, _, hu => rw [← hu]; exact h3
  | 4, _, hu => rw [← hu]; exact h4
  | 5, _, hu => rw [← hu]; exact h5
  | 6, _, hu => rw [← hu]; exact h6
theorem CellsAt.encls {l : List EnclD} (h : CellsAt w a (l.flatMap EnclD.cs)) : EnclsAt w a l := fun i x hx => by
  have g := fun j hj => flat_get EnclD.cs 7 EnclD.cs_len l i j hj
  obtain ⟨b, off, rfl, h0⟩ := h (i * 7 + 0) (.int .i64 x.state) (by rw [g 0 (by decide), hx]; rfl)
  have k := fun (j : Nat) (u : Value) (hu : (l.flatMap EnclD.cs)[i * 7 + j]? = some u) => (show (World.cell? w ⟨b, off + i * 7 + j, none⟩ = some u) from by
    obtain ⟨b1, off1, e1, h1⟩ := h (i * 7 + j) u hu
    cases e1
    rw [Nat.add_assoc]; exact h1)
  exact ⟨b, off, rfl, h0, k 1 _ (by rw [g 1 (by decide), hx]; rfl), k 2 _ (by rw [g 2 (by decide), hx]; rfl), k 3 _ (by rw [g 3 (by decide), hx]; rfl), k 4 _ (by rw [g 4 (by decide), hx]; rfl),
    k 5 _ (by rw [g 5 (by decide), hx]; rfl), k 6 _ (by rw [g 6 (by decide), hx]; rfl)⟩
end

theorem intCells_one (l : List Int) : ∀ u ∈ intCells l, u.oneCell' = true := fun u hu => by
  obtain ⟨x, _, rfl⟩ := List.mem_map.1 hu
  rfl
theorem strCells_one (l : List ByteArray) : ∀ u ∈ strCells l, u.oneCell' = true := fun u hu => by
  obtain ⟨x, _, rfl⟩ := List.mem_map.1 hu
  rfl
theorem quoteCells_one (l : List QuoteD) : ∀ u ∈ l.flatMap QuoteD.cs, u.oneCell' = true := fun u hu => by
  obtain ⟨x, _, hx⟩ := List.mem_flatMap.1 hu
  simp only [QuoteD.cs, List.mem_cons, List.not_mem_nil, or_false] at hx
  rcases hx with rfl | rfl <;> rfl
theorem enclCells_one (l : List EnclD) : ∀ u ∈ l.flatMap EnclD.cs, u.oneCell' = true := fun u hu => by
  obtain ⟨x, _, hx⟩ := List.mem_flatMap.1 hu
  simp only [EnclD.cs, List.mem_cons, List.not_mem_nil, or_false] at hx
  rcases hx with rfl | rfl | rfl | rfl | rfl | rfl | rfl <;> rfl

/-- A call hands back a slice of its own. -/
def OwnRes (base : Nat) (e : TypeId) (size n : Nat) (cs : List Value) (w : World) (x : Ending) (w' : World) : Prop :=
  ∃ a c, x = .returned (.slice a n c) ∧ w'.ownsRow base e size (.slice a n c) n cs ∧ Below base w w'

/-- Two values own no block in common. -/
def Apart (u v : Value) : Prop := ∀ k, u.ownBlock = some k → v.ownBlock ≠ some k
theorem Apart.symm {u v : Value} (h : Apart u v) : Apart v u := fun k hv hu => h k hu hv
theorem apart_of_lt {w w' : World} {b b' : Nat} {e e' : TypeId} {s s' : Nat} {u v : Value} {n m : Nat} {xs ys : List Value} (hu : w.ownsRow b e s u n xs) (hv : w'.ownsRow b' e' s' v m ys) (h : w.heap.size ≤ b') : Apart u v := by
  intro k hk hk'
  have h1 := (hu.lt k hk).2
  have h2 := (hv.lt k hk').1
  omega
theorem ownsRow_mono {w : World} {b b' : Nat} {e : TypeId} {s : Nat} {u : Value} {n : Nat} {xs : List Value} (h : w.ownsRow b e s u n xs) (hb : b' ≤ b) : w.ownsRow b' e s u n xs := by
  obtain ⟨h1, h2 | ⟨g, cap, cur, h3, h4, h5⟩⟩ := h
  · exact ⟨h1, .inl h2⟩
  · exact ⟨h1, .inr ⟨g, cap, cur, h3, by omega, h5⟩⟩
/-- What is owned stays, whatever is done above. -/
theorem ownsRow_below {w w' : World} {b : Nat} {e : TypeId} {s : Nat} {u : Value} {n : Nat} {xs : List Value} (h : w.ownsRow b e s u n xs) (hb : Below w.heap.size w w') : w'.ownsRow b e s u n xs := by
  obtain ⟨h1, h2 | ⟨g, cap, cur, h3, h4, h5, h6⟩⟩ := h
  · exact ⟨h1, .inl h2⟩
  · exact ⟨h1, .inr ⟨g, cap, cur, h3, h4, by rw [hb.block g (Array.getElem?_eq_some_iff.1 h5).1]; exact h5, h6⟩⟩

end Go.Proofs.YtehhhliiehhdjaaDoor
