/- The frame of every law of this seat: a law that returns true and leaves all old memory as it was gives its row's post. No condition beyond those that are written as premises.
Plain data of the machine, how memory reads as that data, and small laws on it. No program is walked here. Conditions: those that each lemma writes.
slices.Clone at the types of this program: the same cells in memory of the call's own. Condition: the slice takes at most 2^47 - 4096 bytes.
slices.IndexFunc, ContainsFunc, Index, Contains at the types of this program, over whatever predicate is handed in with its contract. Condition: fewer than 2^63 elements.
Package trust and its reference, walked. Conditions: those that each contract writes (sizes within the reach).
'==' and '!=' at the structs of this program. No condition.
The laws' own comparisons, where what is compared is alike: they answer true. Condition: fewer than 2^63 elements. -/
import Derived.Test.YtklbbjionoeofaaGreatDoorRows
import Derived.ProofKit
import Derived.SizedLaws
import Derived.WalkKit
import Derived.WalkSpells
import Derived.WalkLawsBesides
import Derived.Handy
import Derived.Deep.QuietTactic
import Derived.BigQuiet
import Derived.Deep.RegionHeld3
import Derived.Deep.AppendLies
import Derived.Laws.StructEq
import Derived.WalkSmall
namespace Go.Proofs.YtklbbjionoeofaaGreatDoor
open Go.ChangeShapes Go.WideShapes Go.ChangeAt Go.RowKit

theorem own : ownKnob Tryz.prog.godebug = none := by kernel_rfl
theorem laidOut : laidOutB Tryz.prog = true := by kernel_rfl

section
variable {H : Type} {enc : TypeId × Value → H} {P : Program}

/-- Every argument reads in a world that is as it was below, as it read. -/
theorem trodAll_below (hl : laidOutB P = true) {W W' : World} (hb : Below W.heap.size W W') :
    ∀ {ts : List TypeId} {vs : List Value} {ds : List (DataW H)} {ps : List MemPlace}, (ts.all fun t => P.readableRec t && decide (t < P.types.size)) = true →
      DataW.TrodAll enc P W 0 (fun _ => true) true ts vs ds ps → (∀ x ∈ ps, x.block < W.heap.size) → DataW.TrodAll enc P W' 0 (fun b => decide (b < W.heap.size)) true ts vs ds ps
  | [], [], [], _, _, h, _ => h
  | [], _ :: _, _, _, _, h, _ => h.elim
  | [], [], _ :: _, _, _, h, _ => h.elim
  | _ :: _, [], _, _, _, h, _ => h.elim
  | _ :: _, _ :: _, [], _, _, h, _ => h.elim
  | t :: ts, v :: vs, d :: ds, ps, hr, h, hlt => by
    obtain ⟨p, q, h1, h2, rfl⟩ := h
    simp only [List.all_cons, Bool.and_eq_true, decide_eq_true_eq] at hr
    exact ⟨p, q, Below.trod hl hr.1.1 hr.1.2 h1 hb (fun x hx => hlt x (by simp [hx])), trodAll_below hl hb hr.2 h2 (fun x hx => hlt x (by simp [hx])), rfl⟩

theorem trodAll_len {w : World} {base : Nat} {spare : Nat → Bool} {held : Bool} : ∀ {ts : List TypeId} {vs : List Value} {ds : List (DataW H)} {ps : List MemPlace},
    DataW.TrodAll enc P w base spare held ts vs ds ps → vs.length = ts.length ∧ ds.length = ts.length
  | [], [], [], _, _ => ⟨rfl, rfl⟩
  | [], _ :: _, _, _, h => h.elim
  | [], [], _ :: _, _, h => h.elim
  | _ :: _, [], _, _, h => h.elim
  | _ :: _, _ :: _, [], _, h => h.elim
  | _ :: _, _ :: _, _ :: _, _, ⟨_, _, _, h, _⟩ => by
    obtain ⟨h1, h2⟩ := trodAll_len h
    exact ⟨by simp [h1], by simp [h2]⟩

theorem law_post {f : Func} {s : ChangeSpec} {apart : Bool} {W W' : World} {args : Array Value} {ds gs : List (DataW H)} {before : List MemPlace} {tb : TypeId}
    (hl : laidOutB P = true) (hr : (f.params.toList.all fun t => P.readableRec t && decide (t < P.types.size)) = true) (hrt : f.resultTypes = #[tb]) (hub : P.underlying tb = some .bool)
    (hW : DataW.Whole enc P f.params.toList s.vars apart W args.toList ds gs before) (hv : s.vars = [])
    (hfn : ds.length = f.params.size → (s.fn H (ds ++ [])).results = [.lit (.bool true)] ∧ (s.fn H (ds ++ [])).args = ds ∧ (s.fn H (ds ++ [])).vars = [])
    (hb : Below W.heap.size W W') : s.post enc P f apart true false false W args (.bool true) W' := by
  have hW' := hW
  obtain ⟨p, q, hA, hV, rfl, hfz, hnd⟩ := hW
  rw [hv] at hV
  obtain ⟨rfl, rfl⟩ := trodVars_none hV
  obtain ⟨hr1, hr2, hr3⟩ := hfn (by have := (trodAll_len hA).2; simpa using this)
  have hlt : ∀ x ∈ p, x.block < W.heap.size := fun x hx => hW'.lt x (by simp [hx])
  refine ⟨ds, [], p ++ [], [], p, [], hW', ?_, ?_, ?_, hb.frame _, fun h => by cases h⟩
  · rw [hr1, hrt]
    exact trodAll_mk1 (shut_bool hub true)
  · rw [hr2]
    exact trodAll_below hl hb hr hA hlt
  · rw [hr3, hv]
    exact rfl
end

end Go.Proofs.YtklbbjionoeofaaGreatDoor

namespace Go.Proofs.YtklbbjionoeofaaGreatDoor
open Go.RowKit

theorem hid {p : Prop} (h : p) : Hid p := h

structure FrameD where
  owner : Int
  pl : Int
  rights : Int
  words : List Int
structure EnclD where
  state : Int
  log : ByteArray
  pc : Int
  r0 : Int
  r1 : Int
  r2 : Int
  r3 : Int
structure QuoteD where
  log : ByteArray
  data : Int
structure MachD where
  frames : List FrameD
  encl : List EnclD
  quotes : List QuoteD
structure ChalD where
  trusts : List ByteArray
  nonces : List Int
structure PageD where
  pl : Int
  rights : Int
  words : List Int

def vInt (n : Int) : Value := .int .i64 n
def vStr (s : ByteArray) : Value := .string s

/-- A slice of ints reads as a list. -/
def IntsAt (w : World) (a : Option Addr) (l : List Int) : Prop :=
  ∀ i x, l[i]? = some x → ∃ b off, a = some ⟨b, off, none⟩ ∧ w.cell? ⟨b, off + i, none⟩ = some (.int .i64 x)
def StrsAt (w : World) (a : Option Addr) (l : List ByteArray) : Prop :=
  ∀ i x, l[i]? = some x → ∃ b off, a = some ⟨b, off, none⟩ ∧ w.cell? ⟨b, off + i, none⟩ = some (.string x)
def QuotesAt (w : World) (a : Option Addr) (l : List QuoteD) : Prop :=
  ∀ i x, l[i]? = some x → ∃ b off, a = some ⟨b, off, none⟩ ∧ w.cell? ⟨b, off + i * 2, none⟩ = some (.string x.log) ∧ w.cell? ⟨b, off + i * 2 + 1, none⟩ = some (.int .i64 x.data)
def EnclsAt (w : World) (a : Option Addr) (l : List EnclD) : Prop :=
  ∀ i x, l[i]? = some x → ∃ b off, a = some ⟨b, off, none⟩ ∧ w.cell? ⟨b, off + i * 7, none⟩ = some (.int .i64 x.state) ∧ w.cell? ⟨b, off + i * 7 + 1, none⟩ = some (.string x.log) ∧
    w.cell? ⟨b, off + i * 7 + 2, none⟩ = some (.int .i64 x.pc) ∧ w.cell? ⟨b, off + i * 7 + 3, none⟩ = some (.int .i64 x.r0) ∧ w.cell? ⟨b, off + i * 7 + 4, none⟩ = some (.int .i64 x.r1) ∧
    w.cell? ⟨b, off + i * 7 + 5, none⟩ = some (.int .i64 x.r2) ∧ w.cell? ⟨b, off + i * 7 + 6, none⟩ = some (.int .i64 x.r3)
def FramesAt (w : World) (a : Option Addr) (l : List FrameD) : Prop :=
  ∀ i x, l[i]? = some x → ∃ b off wa wc, a = some ⟨b, off, none⟩ ∧ w.cell? ⟨b, off + i * 4, none⟩ = some (.int .i64 x.owner) ∧ w.cell? ⟨b, off + i * 4 + 1, none⟩ = some (.int .i64 x.pl) ∧
    w.cell? ⟨b, off + i * 4 + 2, none⟩ = some (.int .i64 x.rights) ∧ w.cell? ⟨b, off + i * 4 + 3, none⟩ = some (.slice wa x.words.length wc) ∧ IntsAt w wa x.words
def PagesAt (w : World) (a : Option Addr) (l : List PageD) : Prop :=
  ∀ i x, l[i]? = some x → ∃ b off wa wc, a = some ⟨b, off, none⟩ ∧ w.cell? ⟨b, off + i * 3, none⟩ = some (.int .i64 x.pl) ∧ w.cell? ⟨b, off + i * 3 + 1, none⟩ = some (.int .i64 x.rights) ∧
    w.cell? ⟨b, off + i * 3 + 2, none⟩ = some (.slice wa x.words.length wc) ∧ IntsAt w wa x.words

section
variable {w w' : World} {a : Option Addr}
theorem IntsAt.mono {l : List Int} (h : IntsAt w a l) (hb : Below w.heap.size w w') : IntsAt w' a l := fun i x hx => by
  obtain ⟨b, off, ha, hc⟩ := h i x hx
  exact ⟨b, off, ha, cell_later hb hc⟩
theorem StrsAt.mono {l : List ByteArray} (h : StrsAt w a l) (hb : Below w.heap.size w w') : StrsAt w' a l := fun i x hx => by
  obtain ⟨b, off, ha, hc⟩ := h i x hx
  exact ⟨b, off, ha, cell_later hb hc⟩
theorem QuotesAt.mono {l : List QuoteD} (h : QuotesAt w a l) (hb : Below w.heap.size w w') : QuotesAt w' a l := fun i x hx => by
  obtain ⟨b, off, ha, h0, h1⟩ := h i x hx
  exact ⟨b, off, ha, cell_later hb h0, cell_later hb h1⟩
theorem EnclsAt.mono {l : List EnclD} (h : EnclsAt w a l) (hb : Below w.heap.size w w') : EnclsAt w' a l := fun i x hx => by
  obtain ⟨b, off, ha, h0, h1, h2, h3, h4, h5, h6⟩ := h i x hx
  exact ⟨b, off, ha, cell_later hb h0, cell_later hb h1, cell_later hb h2, cell_later hb h3, cell_later hb h4, cell_later hb h5, cell_later hb h6⟩
theorem FramesAt.mono {l : List FrameD} (h : FramesAt w a l) (hb : Below w.heap.size w w') : FramesAt w' a l := fun i x hx => by
  obtain ⟨b, off, wa, wc, ha, h0, h1, h2, h3, h4⟩ := h i x hx
  exact ⟨b, off, wa, wc, ha, cell_later hb h0, cell_later hb h1, cell_later hb h2, cell_later hb h3, h4.mono hb⟩
theorem PagesAt.mono {l : List PageD} (h : PagesAt w a l) (hb : Below w.heap.size w w') : PagesAt w' a l := fun i x hx => by
  obtain ⟨b, off, wa, wc, ha, h0, h1, h2, h3⟩ := h i x hx
  exact ⟨b, off, wa, wc, ha, cell_later hb h0, cell_later hb h1, cell_later hb h2, h3.mono hb⟩
theorem IntsAt.nil : IntsAt w a [] := fun _ _ h => by simp at h
theorem QuotesAt.nil : QuotesAt w a [] := fun _ _ h => by simp at h
end

/-- What comes in fits the form's own reach: 2^47 bytes a slice. -/
def fitN (n k : Nat) : Prop := n * k ≤ 140737488351232
structure MachD.Fits (M : MachD) : Prop where
  f : M.frames.length * 48 ≤ 140737488351232
  e : M.encl.length * 64 ≤ 140737488351232
  q : M.quotes.length * 24 ≤ 140737488351232
  w : ∀ (i : Nat) (x : FrameD), M.frames[i]? = some x → x.words.length * 8 ≤ 140737488351232

/-- A machine's value reads as its data. -/
def MachAt (w : World) (v : Value) (M : MachD) : Prop :=
  ∃ fa fc ea ec qa qc, v = .agg #[.slice fa M.frames.length fc, .slice ea M.encl.length ec, .slice qa M.quotes.length qc] ∧
    FramesAt w fa M.frames ∧ EnclsAt w ea M.encl ∧ QuotesAt w qa M.quotes ∧ M.frames.length ≤ fc
theorem MachAt.mono {w w' : World} {v : Value} {M : MachD} (h : MachAt w v M) (hb : Below w.heap.size w w') : MachAt w' v M := by
  obtain ⟨fa, fc, ea, ec, qa, qc, rfl, h1, h2, h3, h4⟩ := h
  exact ⟨fa, fc, ea, ec, qa, qc, rfl, h1.mono hb, h2.mono hb, h3.mono hb, h4⟩

/-- The first index from i on, of f more, at which p holds, or -1. -/
def firstAt (p : Nat → Bool) : Nat → Nat → Int
  | 0, _ => -1
  | f + 1, i => if p i then i else firstAt p f (i + 1)

/-- What a call that makes memory leaves of what there was: cells and marks. -/
theorem bcell {W w1 : World} (hb : Below W.heap.size W w1) : (∀ b o, b < W.heap.size → w1.cell? ⟨b, o, none⟩ = W.cell? ⟨b, o, none⟩) ∧ (∀ b o, b < W.heap.size → w1.frozen? ⟨b, o, none⟩ = W.frozen? ⟨b, o, none⟩) :=
  ⟨fun b o h => hb.cell (p := ⟨b, o, none⟩) h, fun b o h => hb.frozen (p := ⟨b, o, none⟩) h⟩

/-- A list of cells as a slice has them. -/
def CellsAt (w : World) (a : Option Addr) (cs : List Value) : Prop :=
  ∀ j u, cs[j]? = some u → ∃ b off, a = some ⟨b, off, none⟩ ∧ w.cell? ⟨b, off + j, none⟩ = some u
theorem CellsAt.mono {w w' : World} {a : Option Addr} {cs : List Value} (h : CellsAt w a cs) (hb : Below w.heap.size w w') : CellsAt w' a cs := fun i x hx => by
  obtain ⟨b, off, ha, hc⟩ := h i x hx
  exact ⟨b, off, ha, cell_later hb hc⟩

theorem add_plain (b off j : Nat) : (⟨b, off, none⟩ : Addr).add j = ⟨b, off + j, none⟩ := by
  unfold Addr.add
  by_cases h : j = 0
  · simp [h]
  · simp [h]

/-- What a call owns is read as cells. -/
theorem CellsAt.of_own {w : World} {base : Nat} {e : TypeId} {size : Nat} {v : Value} {n : Nat} {xs : List Value} (h : w.ownsRow base e size v n xs) : ∃ a c, v = .slice a n c ∧ CellsAt w a xs := by
  have h0 := h
  obtain ⟨hl, ⟨rfl, rfl⟩ | ⟨g, cap, cur, rfl, hg, hh, hn, hcap, hsz, ht⟩⟩ := h
  · refine ⟨none, 0, rfl, fun j u hj => ?_⟩
    have : xs = [] := List.eq_nil_of_length_eq_zero (by simpa using hl)
    simp [this] at hj
  · refine ⟨_, cap, rfl, fun j u hj => ⟨g, 0, rfl, ?_⟩⟩
    have hjl : j < n * size := by rw [← hl]; exact (List.getElem?_eq_some_iff.1 hj).1
    rw [Nat.zero_add, h0.cellAt j hjl, hj]

section
variable {α : Type} (f : α → List Value) (k : Nat) (hk : ∀ x, (f x).length = k)
include hk
theorem flat_len (l : List α) : (l.flatMap f).length = l.length * k := by
  induction l with
  | nil => simp
  | cons x l ih => simp [ih, hk, Nat.add_mul, Nat.add_comm]
theorem flat_get (l : List α) (i j : Nat) (hj : j < k) : (l.flatMap f)[i * k + j]? = (l[i]?).bind fun x => (f x)[j]? := by
  induction l generalizing i with
  | nil => simp
  | cons x l ih =>
    rw [List.flatMap_cons]
    cases i with
    | zero => rw [Nat.zero_mul, Nat.zero_add, List.getElem?_append_left (by rw [hk]; exact hj)]; rfl
    | succ i =>
      rw [List.getElem?_append_right (by rw [hk, Nat.succ_mul]; omega), hk, show (i + 1) * k + j - k = i * k + j by rw [Nat.succ_mul]; omega, ih]
      rfl
/-- Which element a cell belongs to. -/
theorem flat_find (h0 : 0 < k) (l : List α) (m : Nat) (u : Value) (h : (l.flatMap f)[m]? = some u) : ∃ i x j, l[i]? = some x ∧ j < k ∧ m = i * k + j ∧ (f x)[j]? = some u := by
  have hm : m = m / k * k + m % k := by have := Nat.div_add_mod m k; rw [Nat.mul_comm] at this; omega
  rw [hm, flat_get f k hk l (m / k) (m % k) (Nat.mod_lt _ h0)] at h
  cases hx : l[m / k]? with
  | none => rw [hx] at h; simp at h
  | some x => rw [hx] at h; exact ⟨m / k, x, m % k, hx, Nat.mod_lt _ h0, hm, h⟩
end

def vI (n : Int) : Value := .int .i64 n
def intCells (l : List Int) : List Value := l.map (Value.int .i64)
def strCells (l : List ByteArray) : List Value := l.map Value.string
def QuoteD.cs (q : QuoteD) : List Value := [.string q.log, .int .i64 q.data]
def EnclD.cs (x : EnclD) : List Value := [.int .i64 x.state, .string x.log, .int .i64 x.pc, .int .i64 x.r0, .int .i64 x.r1, .int .i64 x.r2, .int .i64 x.r3]
/-- A frame with the value of its words. -/
def fcs (p : FrameD × Value) : List Value := [.int .i64 p.1.owner, .int .i64 p.1.pl, .int .i64 p.1.rights, p.2]
def pcs (p : PageD × Value) : List Value := [.int .i64 p.1.pl, .int .i64 p.1.rights, p.2]
theorem QuoteD.cs_len (q : QuoteD) : q.cs.length = 2 := rfl
theorem EnclD.cs_len (x : EnclD) : x.cs.length = 7 := rfl
theorem fcs_len (p : FrameD × Value) : (fcs p).length = 4 := rfl
theorem pcs_len (p : PageD × Value) : (pcs p).length = 3 := rfl

section
variable {w : World} {a : Option Addr}
theorem IntsAt.cells {l : List Int} (h : IntsAt w a l) : CellsAt w a (intCells l) := fun j u hj => by
  simp only [intCells, List.getElem?_map, Option.map_eq_some_iff] at hj
  obtain ⟨x, hx, rfl⟩ := hj
  exact h j x hx
theorem CellsAt.ints {l : List Int} (h : CellsAt w a (intCells l)) : IntsAt w a l := fun j x hx => h j _ (by simp [intCells, hx])
theorem StrsAt.cells {l : List ByteArray} (h : StrsAt w a l) : CellsAt w a (strCells l) := fun j u hj => by
  simp only [strCells, List.getElem?_map, Option.map_eq_some_iff] at hj
  obtain ⟨x, hx, rfl⟩ := hj
  exact h j x hx
theorem CellsAt.strs {l : List ByteArray} (h : CellsAt w a (strCells l)) : StrsAt w a l := fun j x hx => h j _ (by simp [strCells, hx])
theorem QuotesAt.cells {l : List QuoteD} (h : QuotesAt w a l) : CellsAt w a (l.flatMap QuoteD.cs) := fun m u hm => by
  obtain ⟨i, x, j, hx, hj, rfl, hu⟩ := flat_find QuoteD.cs 2 QuoteD.cs_len (by decide) l m u hm
  obtain ⟨b, off, ha, h0, h1⟩ := h i x hx
  refine ⟨b, off, ha, ?_⟩
  rw [← Nat.add_assoc]
  match j, hj, hu with
  | 0, _, hu => rw [← hu]; exact h0
  | 1, _, hu => rw [← hu]; exact h1
theorem CellsAt.quotes {l : List QuoteD} (h : CellsAt w a (l.flatMap QuoteD.cs)) : QuotesAt w a l := fun i x hx => by
  have g := fun j hj => flat_get QuoteD.cs 2 QuoteD.cs_len l i j hj
  obtain ⟨b, off, rfl, h0⟩ := h (i * 2 + 0) (.string x.log) (by rw [g 0 (by decide), hx]; rfl)
  obtain ⟨b1, off1, e1, h1⟩ := h (i * 2 + 1) (.int .i64 x.data) (by rw [g 1 (by decide), hx]; rfl)
  cases e1
  exact ⟨b, off, rfl, h0, by rw [Nat.add_assoc]; exact h1⟩
theorem EnclsAt.cells {l : List EnclD} (h : EnclsAt w a l) : CellsAt w a (l.flatMap EnclD.cs) := fun m u hm => by
  obtain ⟨i, x, j, hx, hj, rfl, hu⟩ := flat_find EnclD.cs 7 EnclD.cs_len (by decide) l m u hm
  obtain ⟨b, off, ha, h0, h1, h2, h3, h4, h5, h6⟩ := h i x hx
  refine ⟨b, off, ha, ?_⟩
  rw [← Nat.add_assoc]
  match j, hj, hu with
  | 0, _, hu => rw [← hu]; exact h0
  | 1, _, hu => rw [← hu]; exact h1
  | 2, _, hu => rw [← hu]; exact h2
  | 3, _, hu => rw [← hu]; exact h3
  | 4, _, hu => rw [← hu]; exact h4
  | 5, _, hu => rw [← hu]; exact h5
  | 6, _, hu => rw [← hu]; exact h6
theorem CellsAt.encls {l : List EnclD} (h : CellsAt w a (l.flatMap EnclD.cs)) : EnclsAt w a l := fun i x hx => by
  have g := fun j hj => flat_get EnclD.cs 7 EnclD.cs_len l i j hj
  obtain ⟨b, off, rfl, h0⟩ := h (i * 7 + 0) (.int .i64 x.state) (by rw [g 0 (by decide), hx]; rfl)
  have k := fun (j : Nat) (u : Value) (hu : (l.flatMap EnclD.cs)[i * 7 + j]? = some u) => (show (World.cell? w ⟨b, off + i * 7 + j, none⟩ = some u) from by
    obtain ⟨b1, off1, e1, h1⟩ := h (i * 7 + j) u hu
    cases e1
    rw [Nat.add_assoc]; exact h1)
  exact ⟨b, off, rfl, h0, k 1 _ (by rw [g 1 (by decide), hx]; rfl), k 2 _ (by rw [g 2 (by decide), hx]; rfl), k 3 _ (by rw [g 3 (by decide), hx]; rfl), k 4 _ (by rw [g 4 (by decide), hx]; rfl),
    k 5 _ (by rw [g 5 (by decide), hx]; rfl), k 6 _ (by rw [g 6 (by decide), hx]; rfl)⟩
end

theorem intCells_one (l : List Int) : ∀ u ∈ intCells l, u.oneCell' = true := fun u hu => by
  obtain ⟨x, _, rfl⟩ := List.mem_map.1 hu
  rfl
theorem strCells_one (l : List ByteArray) : ∀ u ∈ strCells l, u.oneCell' = true := fun u hu => by
  obtain ⟨x, _, rfl⟩ := List.mem_map.1 hu
  rfl
theorem quoteCells_one (l : List QuoteD) : ∀ u ∈ l.flatMap QuoteD.cs, u.oneCell' = true := fun u hu => by
  obtain ⟨x, _, hx⟩ := List.mem_flatMap.1 hu
  simp only [QuoteD.cs, List.mem_cons, List.not_mem_nil, or_false] at hx
  rcases hx with rfl | rfl <;> rfl
theorem enclCells_one (l : List EnclD) : ∀ u ∈ l.flatMap EnclD.cs, u.oneCell' = true := fun u hu => by
  obtain ⟨x, _, hx⟩ := List.mem_flatMap.1 hu
  simp only [EnclD.cs, List.mem_cons, List.not_mem_nil, or_false] at hx
  rcases hx with rfl | rfl | rfl | rfl | rfl | rfl | rfl <;> rfl

/-- A call hands back a slice of its own. -/
def OwnRes (base : Nat) (e : TypeId) (size n : Nat) (cs : List Value) (w : World) (x : Ending) (w' : World) : Prop :=
  ∃ a c, x = .returned (.slice a n c) ∧ w'.ownsRow base e size (.slice a n c) n cs ∧ Below base w w'

/-- Two values own no block in common. -/
def Apart (u v : Value) : Prop := ∀ k, u.ownBlock = some k → v.ownBlock ≠ some k
theorem Apart.symm {u v : Value} (h : Apart u v) : Apart v u := fun k hv hu => h k hu hv
theorem apart_of_lt {w w' : World} {b b' : Nat} {e e' : TypeId} {s s' : Nat} {u v : Value} {n m : Nat} {xs ys : List Value} (hu : w.ownsRow b e s u n xs) (hv : w'.ownsRow b' e' s' v m ys) (h : w.heap.size ≤ b') : Apart u v := by
  intro k hk hk'
  have h1 := (hu.lt k hk).2
  have h2 := (hv.lt k hk').1
  omega
theorem ownsRow_mono {w : World} {b b' : Nat} {e : TypeId} {s : Nat} {u : Value} {n : Nat} {xs : List Value} (h : w.ownsRow b e s u n xs) (hb : b' ≤ b) : w.ownsRow b' e s u n xs := by
  obtain ⟨h1, h2 | ⟨g, cap, cur, h3, h4, h5⟩⟩ := h
  · exact ⟨h1, .inl h2⟩
  · exact ⟨h1, .inr ⟨g, cap, cur, h3, by omega, h5⟩⟩
/-- What is owned stays, whatever is done above. -/
theorem ownsRow_below {w w' : World} {b : Nat} {e : TypeId} {s : Nat} {u : Value} {n : Nat} {xs : List Value} (h : w.ownsRow b e s u n xs) (hb : Below w.heap.size w w') : w'.ownsRow b e s u n xs := by
  obtain ⟨h1, h2 | ⟨g, cap, cur, h3, h4, h5, h6⟩⟩ := h
  · exact ⟨h1, .inl h2⟩
  · exact ⟨h1, .inr ⟨g, cap, cur, h3, h4, by rw [hb.block g (Array.getElem?_eq_some_iff.1 h5).1]; exact h5, h6⟩⟩

end Go.Proofs.YtklbbjionoeofaaGreatDoor

namespace Go.Proofs.YtklbbjionoeofaaGreatDoor
open Go.RowKit

theorem infoInts : (Tryz.prog.info? 3).map (fun i => (i.zero, i.size, i.bytes)) = some (some (.int .i64 0), 1, 8) := by kernel_rfl
set_option maxRecDepth 10000 in
set_option maxHeartbeats 400000 in
theorem cloneInts (a : Option Addr) (n cap : Nat) (cs : List Value) (w : World) (hl : cs.length = n * 1) (h1 : ∀ u ∈ cs, u.oneCell' = true) (hc : CellsAt w a cs) (hn : n * 8 ≤ 140737488351232) :
    Calls Tryz.prog 31 #[.slice a n cap] w (OwnRes w.heap.size 3 1 n cs w) := by
  obtain ⟨i0, hi, hz0, hz1, hz2⟩ := info_parts infoInts
  have HL := hid hl
  have H1 := hid h1
  have HC := hid hc
  clear hl h1 hc
  cases a with
  | none =>
    obtain rfl : cs = [] := by
      cases cs with
      | nil => rfl
      | cons u cs => obtain ⟨b, off, e, _⟩ := HC.out 0 u rfl; cases e
    obtain rfl : n = 0 := by have h := HL.out; simp only [List.length_nil] at h; omega
    have heq : ∀ w, (binOp .eql 30 (.slice none 0 cap) (.slice none 0 0)).run Tryz.prog w = .ok (.bool true) w := fun w => Lib.run_eql_slice_nil w _ _ _ _ _ _ _ Tryz.underlying30
    go_enter Tryz.func31, Tryz.ntmps31
    go_wp2_with fail
    go_ret
    exact ⟨_, _, rfl, World.ownsRow_nil _ _ _ _, Below.refl _ _⟩
  | some ad =>
    have hb : w.heap.size ≤ (w.alloc (.cells #[] 3)).heap.size := by simp
    have hown : (w.alloc (.cells #[] 3)).ownsRow w.heap.size 3 1 (.slice (some ⟨w.heap.size, 0, none⟩) 0 0) 0 [] := World.ownsRow_made w #[] 0 (Nat.le_refl _) (by decide) (by simp)
    have heq : ∀ w, (binOp .eql 30 (.slice (some ad) n cap) (.slice none 0 0)).run Tryz.prog w = .ok (.bool false) w := fun w => Lib.run_eql_slice_nil w _ _ _ _ _ _ _ Tryz.underlying30
    go_enter Tryz.func31, Tryz.ntmps31
    go_wp2_with (at_builtin; refine wpList_append_own _ rfl _ _ 30 rfl w.heap.size 3 i0 _ 1 8 Tryz.underlying30 hi hz0 hz1 hz2 rfl (by decide) _ 0 [] rfl hown ad n cap cs rfl HL.out ?c1 H1.out ?c2 ?c3 hb ?_)
    case c1 =>
      intro j u hj
      obtain ⟨b, off, e, h⟩ := HC.out j u hj
      obtain rfl := Option.some.inj e
      rw [add_plain]
      exact cell_later ((Below.refl _ _).alloc (Nat.le_refl _) _) h
    case c2 => unfold maxLen; omega
    case c3 => omega
    intro v' w1 hown1 hgrow _
    obtain ⟨a1, c1, rfl, _⟩ := CellsAt.of_own hown1
    have HO := hid hown1
    have hB : Below w.heap.size w w1 := ((Below.refl _ _).alloc (Nat.le_refl _) _).grown hgrow hb (fun k hk => by simp [Value.ownBlock] at hk; omega)
    clear hown1 hown
    go_wp2_with fail
    go_ret
    exact ⟨a1, c1, rfl, HO.out, hB⟩
theorem infoStrs : (Tryz.prog.info? 9).map (fun i => (i.zero, i.size, i.bytes)) = some (some (.string ⟨#[]⟩), 1, 16) := by kernel_rfl
set_option maxRecDepth 10000 in
set_option maxHeartbeats 400000 in
theorem cloneStrs (a : Option Addr) (n cap : Nat) (cs : List Value) (w : World) (hl : cs.length = n * 1) (h1 : ∀ u ∈ cs, u.oneCell' = true) (hc : CellsAt w a cs) (hn : n * 16 ≤ 140737488351232) :
    Calls Tryz.prog 30 #[.slice a n cap] w (OwnRes w.heap.size 9 1 n cs w) := by
  obtain ⟨i0, hi, hz0, hz1, hz2⟩ := info_parts infoStrs
  have HL := hid hl
  have H1 := hid h1
  have HC := hid hc
  clear hl h1 hc
  cases a with
  | none =>
    obtain rfl : cs = [] := by
      cases cs with
      | nil => rfl
      | cons u cs => obtain ⟨b, off, e, _⟩ := HC.out 0 u rfl; cases e
    obtain rfl : n = 0 := by have h := HL.out; simp only [List.length_nil] at h; omega
    have heq : ∀ w, (binOp .eql 22 (.slice none 0 cap) (.slice none 0 0)).run Tryz.prog w = .ok (.bool true) w := fun w => Lib.run_eql_slice_nil w _ _ _ _ _ _ _ Tryz.underlying22
    go_enter Tryz.func30, Tryz.ntmps30
    go_wp2_with fail
    go_ret
    exact ⟨_, _, rfl, World.ownsRow_nil _ _ _ _, Below.refl _ _⟩
  | some ad =>
    have hb : w.heap.size ≤ (w.alloc (.cells #[] 9)).heap.size := by simp
    have hown : (w.alloc (.cells #[] 9)).ownsRow w.heap.size 9 1 (.slice (some ⟨w.heap.size, 0, none⟩) 0 0) 0 [] := World.ownsRow_made w #[] 0 (Nat.le_refl _) (by decide) (by simp)
    have heq : ∀ w, (binOp .eql 22 (.slice (some ad) n cap) (.slice none 0 0)).run Tryz.prog w = .ok (.bool false) w := fun w => Lib.run_eql_slice_nil w _ _ _ _ _ _ _ Tryz.underlying22
    go_enter Tryz.func30, Tryz.ntmps30
    go_wp2_with (at_builtin; refine wpList_append_own _ rfl _ _ 22 rfl w.heap.size 9 i0 _ 1 16 Tryz.underlying22 hi hz0 hz1 hz2 rfl (by decide) _ 0 [] rfl hown ad n cap cs rfl HL.out ?c1 H1.out ?c2 ?c3 hb ?_)
    case c1 =>
      intro j u hj
      obtain ⟨b, off, e, h⟩ := HC.out j u hj
      obtain rfl := Option.some.inj e
      rw [add_plain]
      exact cell_later ((Below.refl _ _).alloc (Nat.le_refl _) _) h
    case c2 => unfold maxLen; omega
    case c3 => omega
    intro v' w1 hown1 hgrow _
    obtain ⟨a1, c1, rfl, _⟩ := CellsAt.of_own hown1
    have HO := hid hown1
    have hB : Below w.heap.size w w1 := ((Below.refl _ _).alloc (Nat.le_refl _) _).grown hgrow hb (fun k hk => by simp [Value.ownBlock] at hk; omega)
    clear hown1 hown
    go_wp2_with fail
    go_ret
    exact ⟨a1, c1, rfl, HO.out, hB⟩
theorem infoEncls : (Tryz.prog.info? 77).map (fun i => (i.zero, i.size, i.bytes)) = some (some (.agg #[.int .i64 0, .string ⟨#[]⟩, .int .i64 0, .int .i64 0, .int .i64 0, .int .i64 0, .int .i64 0]), 7, 64) := by kernel_rfl
set_option maxRecDepth 10000 in
set_option maxHeartbeats 400000 in
theorem cloneEncls (a : Option Addr) (n cap : Nat) (cs : List Value) (w : World) (hl : cs.length = n * 7) (h1 : ∀ u ∈ cs, u.oneCell' = true) (hc : CellsAt w a cs) (hn : n * 64 ≤ 140737488351232) :
    Calls Tryz.prog 48 #[.slice a n cap] w (OwnRes w.heap.size 77 7 n cs w) := by
  obtain ⟨i0, hi, hz0, hz1, hz2⟩ := info_parts infoEncls
  have HL := hid hl
  have H1 := hid h1
  have HC := hid hc
  clear hl h1 hc
  cases a with
  | none =>
    obtain rfl : cs = [] := by
      cases cs with
      | nil => rfl
      | cons u cs => obtain ⟨b, off, e, _⟩ := HC.out 0 u rfl; cases e
    obtain rfl : n = 0 := by have h := HL.out; simp only [List.length_nil] at h; omega
    have heq : ∀ w, (binOp .eql 26 (.slice none 0 cap) (.slice none 0 0)).run Tryz.prog w = .ok (.bool true) w := fun w => Lib.run_eql_slice_nil w _ _ _ _ _ _ _ Tryz.underlying26
    go_enter Tryz.func48, Tryz.ntmps48
    go_wp2_with fail
    go_ret
    exact ⟨_, _, rfl, World.ownsRow_nil _ _ _ _, Below.refl _ _⟩
  | some ad =>
    have hb : w.heap.size ≤ (w.alloc (.cells #[] 77)).heap.size := by simp
    have hown : (w.alloc (.cells #[] 77)).ownsRow w.heap.size 77 7 (.slice (some ⟨w.heap.size, 0, none⟩) 0 0) 0 [] := World.ownsRow_made w #[] 0 (Nat.le_refl _) (by decide) (by simp)
    have heq : ∀ w, (binOp .eql 26 (.slice (some ad) n cap) (.slice none 0 0)).run Tryz.prog w = .ok (.bool false) w := fun w => Lib.run_eql_slice_nil w _ _ _ _ _ _ _ Tryz.underlying26
    go_enter Tryz.func48, Tryz.ntmps48
    go_wp2_with (at_builtin; refine wpList_append_own _ rfl _ _ 26 rfl w.heap.size 77 i0 _ 7 64 Tryz.underlying26 hi hz0 hz1 hz2 rfl (by decide) _ 0 [] rfl hown ad n cap cs rfl HL.out ?c1 H1.out ?c2 ?c3 hb ?_)
    case c1 =>
      intro j u hj
      obtain ⟨b, off, e, h⟩ := HC.out j u hj
      obtain rfl := Option.some.inj e
      rw [add_plain]
      exact cell_later ((Below.refl _ _).alloc (Nat.le_refl _) _) h
    case c2 => unfold maxLen; omega
    case c3 => omega
    intro v' w1 hown1 hgrow _
    obtain ⟨a1, c1, rfl, _⟩ := CellsAt.of_own hown1
    have HO := hid hown1
    have hB : Below w.heap.size w w1 := ((Below.refl _ _).alloc (Nat.le_refl _) _).grown hgrow hb (fun k hk => by simp [Value.ownBlock] at hk; omega)
    clear hown1 hown
    go_wp2_with fail
    go_ret
    exact ⟨a1, c1, rfl, HO.out, hB⟩
theorem infoQuotes : (Tryz.prog.info? 71).map (fun i => (i.zero, i.size, i.bytes)) = some (some (.agg #[.string ⟨#[]⟩, .int .i64 0]), 2, 24) := by kernel_rfl
set_option maxRecDepth 10000 in
set_option maxHeartbeats 400000 in
theorem cloneQuotes (a : Option Addr) (n cap : Nat) (cs : List Value) (w : World) (hl : cs.length = n * 2) (h1 : ∀ u ∈ cs, u.oneCell' = true) (hc : CellsAt w a cs) (hn : n * 24 ≤ 140737488351232) :
    Calls Tryz.prog 49 #[.slice a n cap] w (OwnRes w.heap.size 71 2 n cs w) := by
  obtain ⟨i0, hi, hz0, hz1, hz2⟩ := info_parts infoQuotes
  have HL := hid hl
  have H1 := hid h1
  have HC := hid hc
  clear hl h1 hc
  cases a with
  | none =>
    obtain rfl : cs = [] := by
      cases cs with
      | nil => rfl
      | cons u cs => obtain ⟨b, off, e, _⟩ := HC.out 0 u rfl; cases e
    obtain rfl : n = 0 := by have h := HL.out; simp only [List.length_nil] at h; omega
    have heq : ∀ w, (binOp .eql 27 (.slice none 0 cap) (.slice none 0 0)).run Tryz.prog w = .ok (.bool true) w := fun w => Lib.run_eql_slice_nil w _ _ _ _ _ _ _ Tryz.underlying27
    go_enter Tryz.func49, Tryz.ntmps49
    go_wp2_with fail
    go_ret
    exact ⟨_, _, rfl, World.ownsRow_nil _ _ _ _, Below.refl _ _⟩
  | some ad =>
    have hb : w.heap.size ≤ (w.alloc (.cells #[] 71)).heap.size := by simp
    have hown : (w.alloc (.cells #[] 71)).ownsRow w.heap.size 71 2 (.slice (some ⟨w.heap.size, 0, none⟩) 0 0) 0 [] := World.ownsRow_made w #[] 0 (Nat.le_refl _) (by decide) (by simp)
    have heq : ∀ w, (binOp .eql 27 (.slice (some ad) n cap) (.slice none 0 0)).run Tryz.prog w = .ok (.bool false) w := fun w => Lib.run_eql_slice_nil w _ _ _ _ _ _ _ Tryz.underlying27
    go_enter Tryz.func49, Tryz.ntmps49
    go_wp2_with (at_builtin; refine wpList_append_own _ rfl _ _ 27 rfl w.heap.size 71 i0 _ 2 24 Tryz.underlying27 hi hz0 hz1 hz2 rfl (by decide) _ 0 [] rfl hown ad n cap cs rfl HL.out ?c1 H1.out ?c2 ?c3 hb ?_)
    case c1 =>
      intro j u hj
      obtain ⟨b, off, e, h⟩ := HC.out j u hj
      obtain rfl := Option.some.inj e
      rw [add_plain]
      exact cell_later ((Below.refl _ _).alloc (Nat.le_refl _) _) h
    case c2 => unfold maxLen; omega
    case c3 => omega
    intro v' w1 hown1 hgrow _
    obtain ⟨a1, c1, rfl, _⟩ := CellsAt.of_own hown1
    have HO := hid hown1
    have hB : Below w.heap.size w w1 := ((Below.refl _ _).alloc (Nat.le_refl _) _).grown hgrow hb (fun k hk => by simp [Value.ownBlock] at hk; omega)
    clear hown1 hown
    go_wp2_with fail
    go_ret
    exact ⟨a1, c1, rfl, HO.out, hB⟩

end Go.Proofs.YtklbbjionoeofaaGreatDoor

namespace Go.Proofs.YtklbbjionoeofaaGreatDoor
open Go.RowKit

def findI {α : Type} (p : α → Bool) (l : List α) : Int := match l.findIdx? p with
  | some i => i
  | none => -1
theorem findI_some {α : Type} {p : α → Bool} {l : List α} {i : Nat} {x : α} (hx : l[i]? = some x) (hp : p x = true) (hb : ∀ (j : Nat) y, j < i → l[j]? = some y → p y = false) : findI p l = i := by
  have hi : i < l.length := (List.getElem?_eq_some_iff.1 hx).1
  have e : l[i] = x := by rw [List.getElem?_eq_getElem hi] at hx; exact Option.some.inj hx
  have : l.findIdx? p = some i := by
    rw [List.findIdx?_eq_some_iff_getElem]
    refine ⟨hi, by rw [e]; exact hp, fun j hj => ?_⟩
    simpa using hb j l[j] hj (List.getElem?_eq_getElem (by omega))
  unfold findI
  rw [this]
theorem findI_none {α : Type} {p : α → Bool} {l : List α} (hb : ∀ (j : Nat) y, l[j]? = some y → p y = false) : findI p l = -1 := by
  have : l.findIdx? p = none := by
    rw [List.findIdx?_eq_none_iff]
    intro x hx
    obtain ⟨j, hj, rfl⟩ := List.getElem_of_mem hx
    simpa using hb j _ (List.getElem?_eq_getElem hj)
  unfold findI
  rw [this]
theorem findI_any {α : Type} (p : α → Bool) (l : List α) : decide (0 ≤ findI p l) = l.any p := by
  unfold findI
  cases h : l.findIdx? p with
  | none =>
    rw [List.findIdx?_eq_none_iff] at h
    simp only [show ¬ (0 : Int) ≤ -1 by decide, decide_false]
    symm
    rw [List.any_eq_false]
    intro x hx
    simpa using h x hx
  | some i =>
    rw [List.findIdx?_eq_some_iff_getElem] at h
    obtain ⟨hi, hp, _⟩ := h
    simp only [Int.natCast_nonneg, decide_true]
    symm
    rw [List.any_eq_true]
    exact ⟨l[i], List.getElem_mem _, by simpa using hp⟩
theorem findI_lt {α : Type} {p : α → Bool} {l : List α} : findI p l < l.length := by
  unfold findI
  split
  · rename_i i h
    rw [List.findIdx?_eq_some_iff_getElem] at h
    obtain ⟨hi, _⟩ := h
    omega
  · omega
theorem findI_ge {α : Type} {p : α → Bool} {l : List α} : -1 ≤ findI p l := by
  unfold findI
  split
  · omega
  · omega
theorem findI_get {α : Type} {p : α → Bool} {l : List α} {i : Nat} (h : findI p l = i) : ∃ x, l[i]? = some x ∧ p x = true := by
  unfold findI at h
  split at h
  · rename_i j hj
    obtain rfl : j = i := by omega
    rw [List.findIdx?_eq_some_iff_getElem] at hj
    obtain ⟨hi, hp, _⟩ := hj
    exact ⟨l[j], List.getElem?_eq_getElem hi, by simpa using hp⟩
  · omega

/-- A predicate handed in: what a call of it answers at the value v, in whatever world lies above w. -/
def PredAt (P : Program) (g : FuncId) (cb : Array Value) (w : World) (v : Value) (b : Bool) : Prop :=
  ∀ W, Below w.heap.size w W → Calls P g (#[v] ++ cb) W fun e w' => e = .returned (.bool b) ∧ Below W.heap.size W w'

set_option maxRecDepth 10000 in
set_option maxHeartbeats 800000 in
theorem indexFuncInts (g : FuncId) (cb : Array Value) (a : Option Addr) (l : List Int) (n cap : Nat) (p : Int → Bool) (w : World) (hn : n ≤ 9223372036854775807) (hl : l.length = n)
    (eg : ∀ args w, (callFunc g args).run Tryz.prog w = .ok (.enter g args) w) (hc : IntsAt w a l) (hp : ∀ (i : Nat) x , l[i]? = some x → PredAt Tryz.prog g cb w (.int .i64 x) (p x)) :
    Calls Tryz.prog 57 #[.slice a n cap, .func (.func g) #[] cb] w fun e w' => e = .returned (.int .i64 (findI p l)) ∧ Below w.heap.size w w' := by
  have HC := hid hc
  have HP := hid hp
  have HL := hid hl
  clear hc hp hl
  go_enter Tryz.func57, Tryz.ntmps57
  go_wp2_with fail
  go_loopw [8] (fun j W => ∃ i : Nat, i ≤ n ∧ j = .int .i64 i ∧ Hid (∀ (j : Nat) y, j < i → l[j]? = some y → p y = false) ∧ Below w.heap.size w W) (fun j _ => n - (intOf j).toNat)
  case atStart => exact ⟨0, by omega, rfl, fun _ _ h => by omega, Below.refl _ _⟩
  case round =>
    obtain ⟨i, hi, rfl, HF, hb⟩ := hrel
    by_cases hlt : i < n
    · obtain ⟨x, hx⟩ : ∃ x, l[i]? = some x := ⟨_, List.getElem?_eq_getElem (by rw [HL.out]; exact hlt)⟩
      have HX := hid hx
      clear hx
      obtain ⟨b, off, rfl, k0⟩ := HC.out i x HX.out
      have l0 := cell_later hb k0
      clear k0
      cases hpi : p x with
      | true =>
        have HPI := hid hpi
        clear hpi
        go_wp2_with fail
        refine (HP.out i x HX.out _ hb).mono ?_
        rintro e w' ⟨rfl, hb'⟩
        rw [HPI.out]
        go_wp2_with fail
        go_ret
        refine ⟨?_, hb.trans (hb'.mono hb.size)⟩
        rw [findI_some HX.out HPI.out HF.out]
        rfl
      | false =>
        have HPI := hid hpi
        clear hpi
        go_wp2_with fail
        refine (HP.out i x HX.out _ hb).mono ?_
        rintro e w' ⟨rfl, hb'⟩
        rw [HPI.out]
        go_wp2_with fail
        go_roundw
        case rel =>
          refine ⟨i + 1, by omega, by go_num, fun j y hj hy => ?_, hb.trans (hb'.mono hb.size)⟩
          by_cases hji : j < i
          · exact HF.out j y hji hy
          · obtain rfl : j = i := by omega
            rw [HX.out] at hy
            rw [← Option.some.inj hy]
            exact HPI.out
        case measure => simp [intOf]; omega
    · obtain rfl : i = n := by omega
      go_wp2_with fail
      go_ret
      refine ⟨?_, hb⟩
      rw [findI_none fun j y hy => HF.out j y (by rw [← HL.out]; exact (List.getElem?_eq_some_iff.1 hy).1) hy]
      rfl

set_option maxHeartbeats 400000 in
theorem containsFuncInts (g : FuncId) (cb : Array Value) (a : Option Addr) (l : List Int) (n cap : Nat) (p : Int → Bool) (w : World) (hn : n ≤ 9223372036854775807) (hl : l.length = n)
    (eg : ∀ args w, (callFunc g args).run Tryz.prog w = .ok (.enter g args) w) (hc : IntsAt w a l) (hp : ∀ (i : Nat) x , l[i]? = some x → PredAt Tryz.prog g cb w (.int .i64 x) (p x)) :
    Calls Tryz.prog 34 #[.slice a n cap, .func (.func g) #[] cb] w fun e w' => e = .returned (.bool (l.any p)) ∧ Below w.heap.size w w' := by
  have HC := hid hc
  have HP := hid hp
  have HL := hid hl
  have HA := hid (findI_any p l)
  clear hc hp hl
  go_enter Tryz.func34, Tryz.ntmps34
  go_wp2_with fail
  refine (indexFuncInts g cb a l n cap p w hn HL.out eg HC.out HP.out).mono ?_
  rintro e w' ⟨rfl, hb⟩
  generalize hr : findI p l = r
  have HR := hid hr
  clear hr
  by_cases h0 : 0 ≤ r
  · go_wp2_with fail
    go_ret
    refine ⟨?_, hb⟩
    rw [← HA.out, HR.out]
    simp [h0]
  · go_wp2_with fail
    go_ret
    refine ⟨?_, hb⟩
    rw [← HA.out, HR.out]
    simp
set_option maxRecDepth 10000 in
set_option maxHeartbeats 800000 in
theorem indexFuncStrs (g : FuncId) (cb : Array Value) (a : Option Addr) (l : List ByteArray) (n cap : Nat) (p : ByteArray → Bool) (w : World) (hn : n ≤ 9223372036854775807) (hl : l.length = n)
    (eg : ∀ args w, (callFunc g args).run Tryz.prog w = .ok (.enter g args) w) (hc : StrsAt w a l) (hp : ∀ (i : Nat) x , l[i]? = some x → PredAt Tryz.prog g cb w (.string x) (p x)) :
    Calls Tryz.prog 56 #[.slice a n cap, .func (.func g) #[] cb] w fun e w' => e = .returned (.int .i64 (findI p l)) ∧ Below w.heap.size w w' := by
  have HC := hid hc
  have HP := hid hp
  have HL := hid hl
  clear hc hp hl
  go_enter Tryz.func56, Tryz.ntmps56
  go_wp2_with fail
  go_loopw [8] (fun j W => ∃ i : Nat, i ≤ n ∧ j = .int .i64 i ∧ Hid (∀ (j : Nat) y, j < i → l[j]? = some y → p y = false) ∧ Below w.heap.size w W) (fun j _ => n - (intOf j).toNat)
  case atStart => exact ⟨0, by omega, rfl, fun _ _ h => by omega, Below.refl _ _⟩
  case round =>
    obtain ⟨i, hi, rfl, HF, hb⟩ := hrel
    by_cases hlt : i < n
    · obtain ⟨x, hx⟩ : ∃ x, l[i]? = some x := ⟨_, List.getElem?_eq_getElem (by rw [HL.out]; exact hlt)⟩
      have HX := hid hx
      clear hx
      obtain ⟨b, off, rfl, k0⟩ := HC.out i x HX.out
      have l0 := cell_later hb k0
      clear k0
      cases hpi : p x with
      | true =>
        have HPI := hid hpi
        clear hpi
        go_wp2_with fail
        refine (HP.out i x HX.out _ hb).mono ?_
        rintro e w' ⟨rfl, hb'⟩
        rw [HPI.out]
        go_wp2_with fail
        go_ret
        refine ⟨?_, hb.trans (hb'.mono hb.size)⟩
        rw [findI_some HX.out HPI.out HF.out]
        rfl
      | false =>
        have HPI := hid hpi
        clear hpi
        go_wp2_with fail
        refine (HP.out i x HX.out _ hb).mono ?_
        rintro e w' ⟨rfl, hb'⟩
        rw [HPI.out]
        go_wp2_with fail
        go_roundw
        case rel =>
          refine ⟨i + 1, by omega, by go_num, fun j y hj hy => ?_, hb.trans (hb'.mono hb.size)⟩
          by_cases hji : j < i
          · exact HF.out j y hji hy
          · obtain rfl : j = i := by omega
            rw [HX.out] at hy
            rw [← Option.some.inj hy]
            exact HPI.out
        case measure => simp [intOf]; omega
    · obtain rfl : i = n := by omega
      go_wp2_with fail
      go_ret
      refine ⟨?_, hb⟩
      rw [findI_none fun j y hy => HF.out j y (by rw [← HL.out]; exact (List.getElem?_eq_some_iff.1 hy).1) hy]
      rfl

set_option maxHeartbeats 400000 in
theorem containsFuncStrs (g : FuncId) (cb : Array Value) (a : Option Addr) (l : List ByteArray) (n cap : Nat) (p : ByteArray → Bool) (w : World) (hn : n ≤ 9223372036854775807) (hl : l.length = n)
    (eg : ∀ args w, (callFunc g args).run Tryz.prog w = .ok (.enter g args) w) (hc : StrsAt w a l) (hp : ∀ (i : Nat) x , l[i]? = some x → PredAt Tryz.prog g cb w (.string x) (p x)) :
    Calls Tryz.prog 32 #[.slice a n cap, .func (.func g) #[] cb] w fun e w' => e = .returned (.bool (l.any p)) ∧ Below w.heap.size w w' := by
  have HC := hid hc
  have HP := hid hp
  have HL := hid hl
  have HA := hid (findI_any p l)
  clear hc hp hl
  go_enter Tryz.func32, Tryz.ntmps32
  go_wp2_with fail
  refine (indexFuncStrs g cb a l n cap p w hn HL.out eg HC.out HP.out).mono ?_
  rintro e w' ⟨rfl, hb⟩
  generalize hr : findI p l = r
  have HR := hid hr
  clear hr
  by_cases h0 : 0 ≤ r
  · go_wp2_with fail
    go_ret
    refine ⟨?_, hb⟩
    rw [← HA.out, HR.out]
    simp [h0]
  · go_wp2_with fail
    go_ret
    refine ⟨?_, hb⟩
    rw [← HA.out, HR.out]
    simp
set_option maxRecDepth 10000 in
set_option maxHeartbeats 800000 in
theorem indexFuncQuotes (g : FuncId) (cb : Array Value) (a : Option Addr) (l : List QuoteD) (n cap : Nat) (p : QuoteD → Bool) (w : World) (hn : n ≤ 9223372036854775807) (hl : l.length = n)
    (eg : ∀ args w, (callFunc g args).run Tryz.prog w = .ok (.enter g args) w) (hc : QuotesAt w a l) (hp : ∀ (i : Nat) x , l[i]? = some x → PredAt Tryz.prog g cb w (.agg #[.string x.log, .int .i64 x.data]) (p x)) :
    Calls Tryz.prog 94 #[.slice a n cap, .func (.func g) #[] cb] w fun e w' => e = .returned (.int .i64 (findI p l)) ∧ Below w.heap.size w w' := by
  have HC := hid hc
  have HP := hid hp
  have HL := hid hl
  clear hc hp hl
  go_enter Tryz.func94, Tryz.ntmps94
  go_wp2_with fail
  go_loopw [8] (fun j W => ∃ i : Nat, i ≤ n ∧ j = .int .i64 i ∧ Hid (∀ (j : Nat) y, j < i → l[j]? = some y → p y = false) ∧ Below w.heap.size w W) (fun j _ => n - (intOf j).toNat)
  case atStart => exact ⟨0, by omega, rfl, fun _ _ h => by omega, Below.refl _ _⟩
  case round =>
    obtain ⟨i, hi, rfl, HF, hb⟩ := hrel
    by_cases hlt : i < n
    · obtain ⟨x, hx⟩ : ∃ x, l[i]? = some x := ⟨_, List.getElem?_eq_getElem (by rw [HL.out]; exact hlt)⟩
      have HX := hid hx
      clear hx
      obtain ⟨b, off, rfl, k0, k1⟩ := HC.out i x HX.out
      have l0 := cell_later hb k0; have l1 := cell_later hb k1
      clear k0 k1
      cases hpi : p x with
      | true =>
        have HPI := hid hpi
        clear hpi
        go_wp2_with fail
        refine (HP.out i x HX.out _ hb).mono ?_
        rintro e w' ⟨rfl, hb'⟩
        rw [HPI.out]
        go_wp2_with fail
        go_ret
        refine ⟨?_, hb.trans (hb'.mono hb.size)⟩
        rw [findI_some HX.out HPI.out HF.out]
        rfl
      | false =>
        have HPI := hid hpi
        clear hpi
        go_wp2_with fail
        refine (HP.out i x HX.out _ hb).mono ?_
        rintro e w' ⟨rfl, hb'⟩
        rw [HPI.out]
        go_wp2_with fail
        go_roundw
        case rel =>
          refine ⟨i + 1, by omega, by go_num, fun j y hj hy => ?_, hb.trans (hb'.mono hb.size)⟩
          by_cases hji : j < i
          · exact HF.out j y hji hy
          · obtain rfl : j = i := by omega
            rw [HX.out] at hy
            rw [← Option.some.inj hy]
            exact HPI.out
        case measure => simp [intOf]; omega
    · obtain rfl : i = n := by omega
      go_wp2_with fail
      go_ret
      refine ⟨?_, hb⟩
      rw [findI_none fun j y hy => HF.out j y (by rw [← HL.out]; exact (List.getElem?_eq_some_iff.1 hy).1) hy]
      rfl

set_option maxHeartbeats 400000 in
theorem containsFuncQuotes (g : FuncId) (cb : Array Value) (a : Option Addr) (l : List QuoteD) (n cap : Nat) (p : QuoteD → Bool) (w : World) (hn : n ≤ 9223372036854775807) (hl : l.length = n)
    (eg : ∀ args w, (callFunc g args).run Tryz.prog w = .ok (.enter g args) w) (hc : QuotesAt w a l) (hp : ∀ (i : Nat) x , l[i]? = some x → PredAt Tryz.prog g cb w (.agg #[.string x.log, .int .i64 x.data]) (p x)) :
    Calls Tryz.prog 80 #[.slice a n cap, .func (.func g) #[] cb] w fun e w' => e = .returned (.bool (l.any p)) ∧ Below w.heap.size w w' := by
  have HC := hid hc
  have HP := hid hp
  have HL := hid hl
  have HA := hid (findI_any p l)
  clear hc hp hl
  go_enter Tryz.func80, Tryz.ntmps80
  go_wp2_with fail
  refine (indexFuncQuotes g cb a l n cap p w hn HL.out eg HC.out HP.out).mono ?_
  rintro e w' ⟨rfl, hb⟩
  generalize hr : findI p l = r
  have HR := hid hr
  clear hr
  by_cases h0 : 0 ≤ r
  · go_wp2_with fail
    go_ret
    refine ⟨?_, hb⟩
    rw [← HA.out, HR.out]
    simp [h0]
  · go_wp2_with fail
    go_ret
    refine ⟨?_, hb⟩
    rw [← HA.out, HR.out]
    simp
set_option maxRecDepth 10000 in
set_option maxHeartbeats 800000 in
theorem indexFuncEncls (g : FuncId) (cb : Array Value) (a : Option Addr) (l : List EnclD) (n cap : Nat) (p : EnclD → Bool) (w : World) (hn : n ≤ 9223372036854775807) (hl : l.length = n)
    (eg : ∀ args w, (callFunc g args).run Tryz.prog w = .ok (.enter g args) w) (hc : EnclsAt w a l) (hp : ∀ (i : Nat) x , l[i]? = some x → PredAt Tryz.prog g cb w (.agg #[.int .i64 x.state, .string x.log, .int .i64 x.pc, .int .i64 x.r0, .int .i64 x.r1, .int .i64 x.r2, .int .i64 x.r3]) (p x)) :
    Calls Tryz.prog 59 #[.slice a n cap, .func (.func g) #[] cb] w fun e w' => e = .returned (.int .i64 (findI p l)) ∧ Below w.heap.size w w' := by
  have HC := hid hc
  have HP := hid hp
  have HL := hid hl
  clear hc hp hl
  go_enter Tryz.func59, Tryz.ntmps59
  go_wp2_with fail
  go_loopw [8] (fun j W => ∃ i : Nat, i ≤ n ∧ j = .int .i64 i ∧ Hid (∀ (j : Nat) y, j < i → l[j]? = some y → p y = false) ∧ Below w.heap.size w W) (fun j _ => n - (intOf j).toNat)
  case atStart => exact ⟨0, by omega, rfl, fun _ _ h => by omega, Below.refl _ _⟩
  case round =>
    obtain ⟨i, hi, rfl, HF, hb⟩ := hrel
    by_cases hlt : i < n
    · obtain ⟨x, hx⟩ : ∃ x, l[i]? = some x := ⟨_, List.getElem?_eq_getElem (by rw [HL.out]; exact hlt)⟩
      have HX := hid hx
      clear hx
      obtain ⟨b, off, rfl, k0, k1, k2, k3, k4, k5, k6⟩ := HC.out i x HX.out
      have l0 := cell_later hb k0; have l1 := cell_later hb k1; have l2 := cell_later hb k2; have l3 := cell_later hb k3; have l4 := cell_later hb k4; have l5 := cell_later hb k5; have l6 := cell_later hb k6
      clear k0 k1 k2 k3 k4 k5 k6
      cases hpi : p x with
      | true =>
        have HPI := hid hpi
        clear hpi
        go_wp2_with fail
        refine (HP.out i x HX.out _ hb).mono ?_
        rintro e w' ⟨rfl, hb'⟩
        rw [HPI.out]
        go_wp2_with fail
        go_ret
        refine ⟨?_, hb.trans (hb'.mono hb.size)⟩
        rw [findI_some HX.out HPI.out HF.out]
        rfl
      | false =>
        have HPI := hid hpi
        clear hpi
        go_wp2_with fail
        refine (HP.out i x HX.out _ hb).mono ?_
        rintro e w' ⟨rfl, hb'⟩
        rw [HPI.out]
        go_wp2_with fail
        go_roundw
        case rel =>
          refine ⟨i + 1, by omega, by go_num, fun j y hj hy => ?_, hb.trans (hb'.mono hb.size)⟩
          by_cases hji : j < i
          · exact HF.out j y hji hy
          · obtain rfl : j = i := by omega
            rw [HX.out] at hy
            rw [← Option.some.inj hy]
            exact HPI.out
        case measure => simp [intOf]; omega
    · obtain rfl : i = n := by omega
      go_wp2_with fail
      go_ret
      refine ⟨?_, hb⟩
      rw [findI_none fun j y hy => HF.out j y (by rw [← HL.out]; exact (List.getElem?_eq_some_iff.1 hy).1) hy]
      rfl

set_option maxHeartbeats 400000 in
theorem containsFuncEncls (g : FuncId) (cb : Array Value) (a : Option Addr) (l : List EnclD) (n cap : Nat) (p : EnclD → Bool) (w : World) (hn : n ≤ 9223372036854775807) (hl : l.length = n)
    (eg : ∀ args w, (callFunc g args).run Tryz.prog w = .ok (.enter g args) w) (hc : EnclsAt w a l) (hp : ∀ (i : Nat) x , l[i]? = some x → PredAt Tryz.prog g cb w (.agg #[.int .i64 x.state, .string x.log, .int .i64 x.pc, .int .i64 x.r0, .int .i64 x.r1, .int .i64 x.r2, .int .i64 x.r3]) (p x)) :
    Calls Tryz.prog 76 #[.slice a n cap, .func (.func g) #[] cb] w fun e w' => e = .returned (.bool (l.any p)) ∧ Below w.heap.size w w' := by
  have HC := hid hc
  have HP := hid hp
  have HL := hid hl
  have HA := hid (findI_any p l)
  clear hc hp hl
  go_enter Tryz.func76, Tryz.ntmps76
  go_wp2_with fail
  refine (indexFuncEncls g cb a l n cap p w hn HL.out eg HC.out HP.out).mono ?_
  rintro e w' ⟨rfl, hb⟩
  generalize hr : findI p l = r
  have HR := hid hr
  clear hr
  by_cases h0 : 0 ≤ r
  · go_wp2_with fail
    go_ret
    refine ⟨?_, hb⟩
    rw [← HA.out, HR.out]
    simp [h0]
  · go_wp2_with fail
    go_ret
    refine ⟨?_, hb⟩
    rw [← HA.out, HR.out]
    simp
set_option maxRecDepth 10000 in
set_option maxHeartbeats 800000 in
theorem indexFuncFrames (g : FuncId) (cb : Array Value) (a : Option Addr) (l : List FrameD) (n cap : Nat) (p : FrameD → Bool) (w : World) (hn : n ≤ 9223372036854775807) (hl : l.length = n)
    (eg : ∀ args w, (callFunc g args).run Tryz.prog w = .ok (.enter g args) w) (hc : FramesAt w a l) (hp : ∀ (i : Nat) x (wv : Value), l[i]? = some x → PredAt Tryz.prog g cb w (.agg #[.int .i64 x.owner, .int .i64 x.pl, .int .i64 x.rights, wv]) (p x)) :
    Calls Tryz.prog 84 #[.slice a n cap, .func (.func g) #[] cb] w fun e w' => e = .returned (.int .i64 (findI p l)) ∧ Below w.heap.size w w' := by
  have HC := hid hc
  have HP := hid hp
  have HL := hid hl
  clear hc hp hl
  go_enter Tryz.func84, Tryz.ntmps84
  go_wp2_with fail
  go_loopw [8] (fun j W => ∃ i : Nat, i ≤ n ∧ j = .int .i64 i ∧ Hid (∀ (j : Nat) y, j < i → l[j]? = some y → p y = false) ∧ Below w.heap.size w W) (fun j _ => n - (intOf j).toNat)
  case atStart => exact ⟨0, by omega, rfl, fun _ _ h => by omega, Below.refl _ _⟩
  case round =>
    obtain ⟨i, hi, rfl, HF, hb⟩ := hrel
    by_cases hlt : i < n
    · obtain ⟨x, hx⟩ : ∃ x, l[i]? = some x := ⟨_, List.getElem?_eq_getElem (by rw [HL.out]; exact hlt)⟩
      have HX := hid hx
      clear hx
      obtain ⟨b, off, wa, wc, rfl, k0, k1, k2, k3, _⟩ := HC.out i x HX.out
      have l0 := cell_later hb k0; have l1 := cell_later hb k1; have l2 := cell_later hb k2; have l3 := cell_later hb k3
      clear k0 k1 k2 k3
      cases hpi : p x with
      | true =>
        have HPI := hid hpi
        clear hpi
        go_wp2_with fail
        refine (HP.out i x _ HX.out _ hb).mono ?_
        rintro e w' ⟨rfl, hb'⟩
        rw [HPI.out]
        go_wp2_with fail
        go_ret
        refine ⟨?_, hb.trans (hb'.mono hb.size)⟩
        rw [findI_some HX.out HPI.out HF.out]
        rfl
      | false =>
        have HPI := hid hpi
        clear hpi
        go_wp2_with fail
        refine (HP.out i x _ HX.out _ hb).mono ?_
        rintro e w' ⟨rfl, hb'⟩
        rw [HPI.out]
        go_wp2_with fail
        go_roundw
        case rel =>
          refine ⟨i + 1, by omega, by go_num, fun j y hj hy => ?_, hb.trans (hb'.mono hb.size)⟩
          by_cases hji : j < i
          · exact HF.out j y hji hy
          · obtain rfl : j = i := by omega
            rw [HX.out] at hy
            rw [← Option.some.inj hy]
            exact HPI.out
        case measure => simp [intOf]; omega
    · obtain rfl : i = n := by omega
      go_wp2_with fail
      go_ret
      refine ⟨?_, hb⟩
      rw [findI_none fun j y hy => HF.out j y (by rw [← HL.out]; exact (List.getElem?_eq_some_iff.1 hy).1) hy]
      rfl

set_option maxHeartbeats 400000 in
theorem containsFuncFrames (g : FuncId) (cb : Array Value) (a : Option Addr) (l : List FrameD) (n cap : Nat) (p : FrameD → Bool) (w : World) (hn : n ≤ 9223372036854775807) (hl : l.length = n)
    (eg : ∀ args w, (callFunc g args).run Tryz.prog w = .ok (.enter g args) w) (hc : FramesAt w a l) (hp : ∀ (i : Nat) x (wv : Value), l[i]? = some x → PredAt Tryz.prog g cb w (.agg #[.int .i64 x.owner, .int .i64 x.pl, .int .i64 x.rights, wv]) (p x)) :
    Calls Tryz.prog 92 #[.slice a n cap, .func (.func g) #[] cb] w fun e w' => e = .returned (.bool (l.any p)) ∧ Below w.heap.size w w' := by
  have HC := hid hc
  have HP := hid hp
  have HL := hid hl
  have HA := hid (findI_any p l)
  clear hc hp hl
  go_enter Tryz.func92, Tryz.ntmps92
  go_wp2_with fail
  refine (indexFuncFrames g cb a l n cap p w hn HL.out eg HC.out HP.out).mono ?_
  rintro e w' ⟨rfl, hb⟩
  generalize hr : findI p l = r
  have HR := hid hr
  clear hr
  by_cases h0 : 0 ≤ r
  · go_wp2_with fail
    go_ret
    refine ⟨?_, hb⟩
    rw [← HA.out, HR.out]
    simp [h0]
  · go_wp2_with fail
    go_ret
    refine ⟨?_, hb⟩
    rw [← HA.out, HR.out]
    simp

end Go.Proofs.YtklbbjionoeofaaGreatDoor

namespace Go.Proofs.YtklbbjionoeofaaGreatDoor
open Go.RowKit

/-- The world under a name, with what is known of it. -/
theorem wp_gen {P : Program} {c : Code} {Q : Exit → Act → World → Prop} {a : Act} {W : World} (R : World → Prop) (hR : R W) (h : ∀ W0, R W0 → Code.wp P c Q a W0) : Code.wp P c Q a W := h W hR

/-- A challenger's value reads as its data. -/
def ChalAt (w : World) (v : Value) (C : ChalD) : Prop :=
  ∃ ta tc na nc, v = .agg #[.slice ta C.trusts.length tc, .slice na C.nonces.length nc] ∧ StrsAt w ta C.trusts ∧ IntsAt w na C.nonces
theorem ChalAt.mono {w w' : World} {v : Value} {C : ChalD} (h : ChalAt w v C) (hb : Below w.heap.size w w') : ChalAt w' v C := by
  obtain ⟨ta, tc, na, nc, rfl, h1, h2⟩ := h
  exact ⟨ta, tc, na, nc, rfl, h1.mono hb, h2.mono hb⟩
structure ChalD.Fits (C : ChalD) : Prop where
  t : C.trusts.length * 16 ≤ 140737488351232
  n : C.nonces.length * 8 ≤ 140737488351232
/-- A challenger in memory of its own. -/
def ChalOwn (base : Nat) (w : World) (v : Value) (C : ChalD) : Prop :=
  ∃ tv nv, v = .agg #[tv, nv] ∧ w.ownsRow base 9 1 tv C.trusts.length (strCells C.trusts) ∧ w.ownsRow base 3 1 nv C.nonces.length (intCells C.nonces) ∧ Apart tv nv
theorem ChalOwn.at {base : Nat} {w : World} {v : Value} {C : ChalD} (h : ChalOwn base w v C) : ChalAt w v C := by
  obtain ⟨tv, nv, rfl, h1, h2, _⟩ := h
  obtain ⟨ta, tc, rfl, h3⟩ := CellsAt.of_own h1
  obtain ⟨na, nc, rfl, h4⟩ := CellsAt.of_own h2
  exact ⟨ta, tc, na, nc, rfl, h3.strs, h4.ints⟩
def ChalRes (base : Nat) (C : ChalD) (w : World) (e : Ending) (w' : World) : Prop := ∃ v, e = .returned v ∧ ChalOwn base w' v C ∧ Below base w w'

set_option maxRecDepth 10000 in
set_option maxHeartbeats 800000 in
theorem trustCopy (v : Value) (C : ChalD) (w : World) (hv : ChalAt w v C) (hf : C.Fits) : Calls Tryz.prog 9 #[v] w (ChalRes w.heap.size C w) := by
  obtain ⟨ta, tc, na, nc, rfl, ht, hn⟩ := hv
  obtain ⟨hft, hfn⟩ := hf
  have HT := hid ht
  have HN := hid hn
  clear ht hn
  go_enter Tryz.func9, Tryz.ntmps9
  go_wp2_with fail
  go_region_held3 (fun w' => w'.cell? ⟨w.heap.size, 0, none⟩ = some (.slice ta C.trusts.length tc) ∧ w'.cell? ⟨w.heap.size, 1, none⟩ = some (.slice na C.nonces.length nc))
    (first | go_keep | exact ⟨p0, p1⟩ | exact ⟨q0, q1⟩)
    (first
      | (go_at_call 30
         refine (cloneStrs ta _ tc (strCells C.trusts) _ (by simp [strCells]) (strCells_one _) (HT.out.cells.mono (by go_grown)) hft).mono ?_
         rintro e w1 ⟨a1, c1, rfl, ho1, hb1⟩
         have p0 : w1.cell? ⟨w.heap.size, 0, none⟩ = some (.slice ta C.trusts.length tc) := by rw [(bcell hb1).1 _ _ (by go_size)]; simp [go_sem]
         have p1 : w1.cell? ⟨w.heap.size, 1, none⟩ = some (.slice na C.nonces.length nc) := by rw [(bcell hb1).1 _ _ (by go_size)]; simp [go_sem]
         have p2 : w1.cell? ⟨w.heap.size + 1, 0, none⟩ = some (.slice none 0 0) := by rw [(bcell hb1).1 _ _ (by go_size)]; simp [go_sem]
         have p3 : w1.cell? ⟨w.heap.size + 1, 1, none⟩ = some (.slice none 0 0) := by rw [(bcell hb1).1 _ _ (by go_size)]; simp [go_sem]
         have p4 : ∀ o, w1.frozen? ⟨w.heap.size + 1, o, none⟩ = false := fun o => by rw [(bcell hb1).2 _ _ (by go_size)]; simp [go_sem]
         have z1 : w.heap.size + 1 < w1.heap.size := by have := hb1.size; simp at this; omega)
      | (go_at_call 31
         refine (cloneInts na _ nc (intCells C.nonces) _ (by simp [intCells]) (intCells_one _) (HN.out.cells.mono (Below.trans (by go_grown) (hb1.mono (by go_size)))) hfn).mono ?_
         rintro e w2 ⟨a2, c2, rfl, ho2, hb2⟩
         have q0 : w2.cell? ⟨w.heap.size, 0, none⟩ = some (.slice ta C.trusts.length tc) := by rw [(bcell hb2).1 _ _ (by omega)]; exact p0
         have q1 : w2.cell? ⟨w.heap.size, 1, none⟩ = some (.slice na C.nonces.length nc) := by rw [(bcell hb2).1 _ _ (by omega)]; exact p1
         have q2 : w2.cell? ⟨w.heap.size + 1, 0, none⟩ = some (.slice none 0 0) := by rw [(bcell hb2).1 _ _ (by omega)]; exact p2
         have q3 : w2.cell? ⟨w.heap.size + 1, 1, none⟩ = some (.slice none 0 0) := by rw [(bcell hb2).1 _ _ (by omega)]; exact p3
         have q4 : ∀ o, w2.frozen? ⟨w.heap.size + 1, o, none⟩ = false := fun o => by rw [(bcell hb2).2 _ _ (by omega)]; exact p4 o))
  go_wp2_with fail
  have g1 := ownsRow_setCell_below (ownsRow_setCell_below (ownsRow_below ho1 hb2) (a := ⟨w.heap.size + 1, 0, none⟩) (by go_size) (.slice a1 C.trusts.length c1)) (a := ⟨w.heap.size + 1, 1, none⟩) (by go_size) (.slice a2 C.nonces.length c2)
  have g2 := ownsRow_setCell_below (ownsRow_setCell_below ho2 (a := ⟨w.heap.size + 1, 0, none⟩) (by go_size) (.slice a1 C.trusts.length c1)) (a := ⟨w.heap.size + 1, 1, none⟩) (by go_size) (.slice a2 C.nonces.length c2)
  refine bodyPost_ret (v := .agg #[.slice a1 C.trusts.length c1, .slice a2 C.nonces.length c2]) (by simp [results, Tryz.results9, go_sem, q2, q3]) rfl ⟨_, rfl, ⟨_, _, rfl, ownsRow_mono g1 (by go_size), ownsRow_mono g2 (by omega), apart_of_lt ho1 ho2 (Nat.le_refl _)⟩, ?_⟩
  have B1 : Below w.heap.size w w1 := Below.trans (by go_grown) (hb1.mono (by go_size))
  exact Below.setCell (Below.setCell (B1.trans (hb2.mono (by omega))) (by simp) _) (by simp) _

end Go.Proofs.YtklbbjionoeofaaGreatDoor

namespace Go.Proofs.YtklbbjionoeofaaGreatDoor
open Go.RowKit

theorem eqlQuote (a b : ByteArray) (x y : Int) (w : World) : (binOp .eql 71 (.agg #[.string a, .int .i64 x]) (.agg #[.string b, .int .i64 y])).run Tryz.prog w = .ok (.bool (a.toList == b.toList && x == y)) w := by
  have hS : Tryz.prog.underlying 71 = some (.struct (Tryz.prog.fieldsOf 71)) := by kernel_rfl
  have hp : Tryz.prog.stoodInHeld 71 = false := by kernel_rfl
  have u3 := Tryz.underlying3
  have us := Tryz.underlying9
  have a3 := Tryz.isAgg3
  have a9 := Tryz.isAgg9
  have z3 := Tryz.sizeOf3
  have zs := Tryz.sizeOf9
  rw [run_eql_struct, show (10000 : Nat) = 9999 + 1 from rfl, run_equalIn_agg w 9999 71 _ _ hS hp]
  simp only [Program.fieldsOf, Tryz.underlying71]
  go_simp
  by_cases h1 : a.toList = b.toList <;> by_cases h2 : x = y <;> simp [h1, h2]

/-- A struct against itself, where no part can differ from itself. -/
theorem neqQuote (a : ByteArray) (x : Int) (w : World) : (binOp .neq 71 (.agg #[.string a, .int .i64 x]) (.agg #[.string a, .int .i64 x])).run Tryz.prog w = .ok (.bool false) w := by
  have hS : Tryz.prog.underlying 71 = some (.struct (Tryz.prog.fieldsOf 71)) := by kernel_rfl
  have hp : Tryz.prog.stoodInHeld 71 = false := by kernel_rfl
  have u3 := Tryz.underlying3
  have us := Tryz.underlying9
  have a3 := Tryz.isAgg3
  have a9 := Tryz.isAgg9
  have z3 := Tryz.sizeOf3
  have zs := Tryz.sizeOf9
  rw [run_neq_struct, show (10000 : Nat) = 9999 + 1 from rfl, run_equalIn_agg w 9999 71 _ _ hS hp]
  simp only [Program.fieldsOf, Tryz.underlying71]
  go_simp

theorem eqArr4 (d : Nat) (a0 a1 a2 a3 : Int) (b0 b1 b2 b3 : Int) (w : World) : (Op.equalIn (d + 2) 75 (.agg #[.int .i64 a0, .int .i64 a1, .int .i64 a2, .int .i64 a3]) (.agg #[.int .i64 b0, .int .i64 b1, .int .i64 b2, .int .i64 b3])).run Tryz.prog w = .ok (a0 == b0 && (a1 == b1 && (a2 == b2 && a3 == b3))) w := by
  have u3 := Tryz.underlying3
  have k3 := Tryz.isAgg3
  have z3 := Tryz.sizeOf3
  have hc : Tryz.prog.cellsOf 3 = 1 := by kernel_rfl
  obtain ⟨i, hi⟩ : ∃ i, Tryz.prog.info? 3 = some i := Option.isSome_iff_exists.1 (by kernel_rfl)
  rw [run_equalIn_array w (d + 1) _ _ Tryz.underlying75 hi, hc]
  simp only [show List.range 4 = [0, 1, 2, 3] from rfl, Op.eqItems]
  go_simp
  by_cases h0 : a0 = b0 <;> by_cases h1 : a1 = b1 <;> by_cases h2 : a2 = b2 <;> by_cases h3 : a3 = b3 <;> simp [h0, h1, h2, h3]

theorem neqEncl (s : Int) (g : ByteArray) (p a0 a1 a2 a3 : Int) (w : World) : (binOp .neq 77 (.agg #[.int .i64 s, .string g, .int .i64 p, .int .i64 a0, .int .i64 a1, .int .i64 a2, .int .i64 a3]) (.agg #[.int .i64 s, .string g, .int .i64 p, .int .i64 a0, .int .i64 a1, .int .i64 a2, .int .i64 a3])).run Tryz.prog w = .ok (.bool false) w := by
  have hS : Tryz.prog.underlying 77 = some (.struct (Tryz.prog.fieldsOf 77)) := by kernel_rfl
  have hp : Tryz.prog.stoodInHeld 77 = false := by kernel_rfl
  have u3 := Tryz.underlying3
  have us := Tryz.underlying9
  have k3 := Tryz.isAgg3
  have k9 := Tryz.isAgg9
  have k4 := Tryz.isAgg75
  have z3 := Tryz.sizeOf3
  have zs := Tryz.sizeOf9
  have z4 := Tryz.sizeOf75
  have he := fun w => eqArr4 9997 a0 a1 a2 a3 a0 a1 a2 a3 w
  rw [run_neq_struct, show (10000 : Nat) = 9999 + 1 from rfl, run_equalIn_agg w 9999 77 _ _ hS hp]
  simp only [Program.fieldsOf, Tryz.underlying77]
  go_simp

end Go.Proofs.YtklbbjionoeofaaGreatDoor

namespace Go.Proofs.YtklbbjionoeofaaGreatDoor
open Go.RowKit

set_option maxRecDepth 10000 in
set_option maxHeartbeats 800000 in
theorem sameInts (a b : Option Addr) (l : List Int) (n c d : Nat) (w : World) (hl : l.length = n) (hn : n ≤ 9223372036854775807) (ha : IntsAt w a l) (hb : IntsAt w b l) :
    Calls Tryz.prog 29 #[.slice a n c, .slice b n d] w fun e w' => e = .returned (.bool true) ∧ Hid (∃ q, w' = w.drewN q) := by
  have HA := hid ha
  have HB := hid hb
  have HL := hid hl
  clear ha hb hl
  go_enter Tryz.func29, Tryz.ntmps29
  go_wp2_with fail
  go_loopw [5] (fun j W => ∃ i : Nat, i ≤ n ∧ j = .int .i64 i ∧ Hid (∃ q, W = w.drewN q)) (fun j _ => n - (intOf j).toNat)
  case atStart => exact ⟨0, by omega, rfl, ⟨0, rfl⟩⟩
  case round =>
    obtain ⟨i, hi, rfl, HQ⟩ := hrel
    obtain ⟨q, rfl⟩ := HQ.out
    by_cases hlt : i < n
    · obtain ⟨x, hx⟩ : ∃ x, l[i]? = some x := ⟨_, List.getElem?_eq_getElem (by rw [HL.out]; exact hlt)⟩
      obtain ⟨ab, ao, rfl, k0⟩ := HA.out i x hx
      obtain ⟨bb, bo, rfl, k1⟩ := HB.out i x hx
      clear hx
      have hi0 : (0 : Int) ≤ (i : Int) := Int.natCast_nonneg _
      have hi1 : (i : Int) < (n : Int) := by omega
      go_wp2_with fail
      go_quiet (fail)
      go_wp2_with fail
      go_roundw
      case rel => exact ⟨i + 1, by omega, by go_num, ⟨_, rfl⟩⟩
      case measure => simp [intOf]; omega
    · obtain rfl : i = n := by omega
      go_wp2_with fail
      go_ret
      exact ⟨rfl, ⟨q, rfl⟩⟩

set_option maxRecDepth 10000 in
set_option maxHeartbeats 800000 in
theorem sameChallenger (u v : Value) (C : ChalD) (w : World) (hf : C.Fits) (hu : ChalAt w u C) (hv : ChalAt w v C) :
    Calls Tryz.prog 7 #[u, v] w fun e w' => e = .returned (.bool true) ∧ Below w.heap.size w w' := by
  obtain ⟨ta, tc, na, nc, rfl, ht, hn⟩ := hu
  obtain ⟨tb, td, nb, nd, rfl, ht', hn'⟩ := hv
  obtain ⟨hft, hfn⟩ := hf
  have HA := hid ht
  have HB := hid ht'
  have HN := hid hn
  have HN' := hid hn'
  clear ht ht' hn hn'
  go_enter Tryz.func7, Tryz.ntmps7
  go_wp2_with fail
  refine wp_gen (fun W0 => Below w.heap.size w W0 ∧ w.heap.size + 1 < W0.heap.size ∧ W0.cell? ⟨w.heap.size, 0, none⟩ = some (.slice ta C.trusts.length tc) ∧ W0.cell? ⟨w.heap.size, 1, none⟩ = some (.slice na C.nonces.length nc) ∧
    W0.cell? ⟨w.heap.size + 1, 0, none⟩ = some (.slice tb C.trusts.length td) ∧ W0.cell? ⟨w.heap.size + 1, 1, none⟩ = some (.slice nb C.nonces.length nd)) ⟨by go_grown, by go_size, by simp [go_sem], by simp [go_sem], by simp [go_sem], by simp [go_sem]⟩ ?_
  rintro W0 ⟨hb0, hz0, c0, c1, c2, c3⟩
  go_loopw [5] (fun j W => ∃ i : Nat, i ≤ C.trusts.length ∧ j = .int .i64 i ∧ Below W0.heap.size W0 W) (fun j _ => C.trusts.length - (intOf j).toNat)
  case atStart => exact ⟨0, by omega, rfl, Below.refl _ _⟩
  case round =>
    obtain ⟨i, hi, rfl, hb⟩ := hrel
    have d0 := cell_later hb c0
    have d1 := cell_later hb c1
    have d2 := cell_later hb c2
    have d3 := cell_later hb c3
    clear c0 c1 c2 c3
    by_cases hlt : i < C.trusts.length
    · obtain ⟨x, hx⟩ : ∃ x, C.trusts[i]? = some x := ⟨_, List.getElem?_eq_getElem hlt⟩
      obtain ⟨ab, ao, rfl, k0⟩ := HA.out i x hx
      obtain ⟨bb, bo, rfl, k1⟩ := HB.out i x hx
      have l0 := cell_later hb (cell_later hb0 k0)
      have l1 := cell_later hb (cell_later hb0 k1)
      clear hx k0 k1
      have hi0 : (0 : Int) ≤ (i : Int) := Int.natCast_nonneg _
      have hi1 : (i : Int) < (C.trusts.length : Int) := by omega
      go_wp2_with fail
      go_quiet (fail)
      go_wp2_with fail
      go_roundw
      case rel => exact ⟨i + 1, by omega, by go_num, below_drewN hb _⟩
      case measure => simp [intOf]; omega
    · obtain rfl : i = C.trusts.length := by omega
      go_wp2_with fail
      refine (sameInts na nb C.nonces C.nonces.length nc nd _ rfl (by omega) (HN.out.mono (hb0.trans (hb.mono hb0.size))) (HN'.out.mono (hb0.trans (hb.mono hb0.size)))).mono ?_
      rintro e w' ⟨rfl, q, rfl⟩
      go_wp2_with fail
      go_ret
      exact ⟨rfl, below_drewN (hb0.trans (hb.mono hb0.size)) q⟩

end Go.Proofs.YtklbbjionoeofaaGreatDoor
