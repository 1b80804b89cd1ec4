/- One step of a run, way by way, as plain data; the state of core.step in memory. No program is walked. -/
import Derived.Test.YtlbjdjjdafnemaaCoreSt
namespace Go.Proofs.Ytlbjdjjdafnemaa
open Go.RowKit

def opM (e : Int) (g : ByteArray) (c : CoreD) (x n : Int) : Option (CoreD × Option Int) :=
  let ai := (x / 16 % 4).toNat
  let a := (c.R[ai]?).getD 0
  let b := (c.R[(x / 256 % 4).toNat]?).getD 0
  let d : CoreD := { c with pc := c.pc + 2 }
  if x % 16 = 1 then some ({ d with R := c.R.set ai n }, none)
  else if x % 16 = 2 then some ({ d with R := c.R.set ai ((a + b) % 65536) }, none)
  else if x % 16 = 3 then some ({ d with R := c.R.set ai (bits .xor .i64 a b) }, none)
  else if x % 16 = 4 then some ({ d with R := c.R.set ai (if a < b then 1 else 0) }, none)
  else if x % 16 = 5 then match cellOf c.F e b 1 with
    | some w => some ({ d with R := c.R.set ai (wordAt c.F w) }, none)
    | none => none
  else if x % 16 = 6 then match cellOf c.F e b 2 with
    | some w => some ({ d with F := setWord c.F w a }, none)
    | none => none
  else if x % 16 = 7 then some (if a = 0 then { d with pc := n } else d, none)
  else if x % 16 = 8 then some (d, some a)
  else if x % 16 = 9 then (if c.Q.length = 40 then none else some ({ d with Q := c.Q ++ [⟨g, a⟩] }, none))
  else none
theorem stepM_at {e : Int} {g : ByteArray} {c : CoreD} {i k : Nat × Nat} (hi : cellOf c.F e c.pc 4 = some i) (hk : cellOf c.F e (c.pc + 1) 4 = some k) : stepM e g c = opM e g c (wordAt c.F i) (wordAt c.F k) := by
  simp only [stepM, hi, hk]
  rfl
theorem stepM_no1 {e : Int} {g : ByteArray} {c : CoreD} (hi : cellOf c.F e c.pc 4 = none) : stepM e g c = none := by
  simp only [stepM, hi]
theorem stepM_no2 {e : Int} {g : ByteArray} {c : CoreD} (hk : cellOf c.F e (c.pc + 1) 4 = none) : stepM e g c = none := by
  simp only [stepM, hk]
  split <;> first | rfl | (rename_i h; cases h)
section
variable {e : Int} {g : ByteArray} {c : CoreD} {x n a b : Int} {ai bi : Nat} (ha : x / 16 % 4 = ai) (hb : x / 256 % 4 = bi) (hav : c.R[ai]? = some a) (hbv : c.R[bi]? = some b)
include ha
theorem opM_1 (h : x % 16 = 1) : opM e g c x n = some ({ c with pc := c.pc + 2, R := c.R.set ai n }, none) := by
  simp [opM, h, ha]
include hav
theorem opM_7 (h : x % 16 = 7) : opM e g c x n = some (if a = 0 then { c with pc := n } else { c with pc := c.pc + 2 }, none) := by
  simp [opM, h, ha, hav]
theorem opM_8 (h : x % 16 = 8) : opM e g c x n = some ({ c with pc := c.pc + 2 }, some a) := by
  simp [opM, h, ha, hav]
theorem opM_9 (h : x % 16 = 9) : opM e g c x n = if c.Q.length = 40 then none else some ({ c with pc := c.pc + 2, Q := c.Q ++ [⟨g, a⟩] }, none) := by
  simp [opM, h, ha, hav]
include hb hbv
theorem opM_2 (h : x % 16 = 2) : opM e g c x n = some ({ c with pc := c.pc + 2, R := c.R.set ai ((a + b) % 65536) }, none) := by
  simp [opM, h, ha, hb, hav, hbv]
theorem opM_3 (h : x % 16 = 3) : opM e g c x n = some ({ c with pc := c.pc + 2, R := c.R.set ai (bits .xor .i64 a b) }, none) := by
  simp [opM, h, ha, hb, hav, hbv]
theorem opM_4 (h : x % 16 = 4) : opM e g c x n = some ({ c with pc := c.pc + 2, R := c.R.set ai (if a < b then 1 else 0) }, none) := by
  simp [opM, h, ha, hb, hav, hbv]
theorem opM_6 (h : x % 16 = 6) : opM e g c x n = match cellOf c.F e b 2 with
    | some w => some ({ c with pc := c.pc + 2, F := setWord c.F w a }, none)
    | none => none := by
  simp [opM, h, ha, hb, hav, hbv]
omit hav
theorem opM_5 (h : x % 16 = 5) : opM e g c x n = match cellOf c.F e b 1 with
    | some w => some ({ c with pc := c.pc + 2, R := c.R.set ai (wordAt c.F w) }, none)
    | none => none := by
  simp [opM, h, ha, hb, hbv]
end
theorem opM_0 {e : Int} {g : ByteArray} {c : CoreD} {x n : Int} (h : ¬ (1 ≤ x % 16 ∧ x % 16 ≤ 9)) : opM e g c x n = none := by
  unfold opM
  simp only
  rw [if_neg (by omega), if_neg (by omega), if_neg (by omega), if_neg (by omega), if_neg (by omega), if_neg (by omega), if_neg (by omega), if_neg (by omega), if_neg (by omega)]

/-- A block beside the machine and the registers is written. -/
theorem St.setFar {W0 W : World} {lo base mb rb ro : Nat} {C : CoreD} {E : List EnclD} {F : List (FrameD × Value)} {fv ev qv : Value} (h : St W0 lo base mb rb ro C E F fv ev qv W) {b : Nat} (hb : base ≤ b) (hm : b ≠ mb) (hr : b ≠ rb) (ho : Off fv ev qv F b) (o : Nat) (u : Value) :
    St W0 lo base mb rb ro C E F fv ev qv (W.setCell ⟨b, o, none⟩ u) := h.set1 hb hm hr (h.own.setCell ho.f ho.e ho.q ho.w u) h.hF rfl h.om h.od

/-- What core.step leaves of the core, and how it ends. -/
def StepRes (W0 : World) (lo base mb cb : Nat) (e : Int) (g : ByteArray) (C : CoreD) (E : List EnclD) (fv ev : Value) (w : World) (x : Ending) (w' : World) : Prop :=
  ∃ (D : CoreD) (F : List (FrameD × Value)) (qv : Value) (o n : Int) (b : Bool), Co W0 lo base mb cb e D E F fv ev qv w' ∧ w.heap.size ≤ w'.heap.size ∧ x = .returned (.tuple #[.agg #[.int .i64 o, .int .i64 n], .bool b]) ∧
    ((stepM e g C = none ∧ D.F = C.F ∧ D.Q = C.Q ∧ o = 0 ∧ n = 0 ∧ b = false) ∨ (stepM e g C = some (D, none) ∧ o = 0 ∧ n = 0 ∧ b = true) ∨ (stepM e g C = some (D, some n) ∧ o = 1 ∧ b = true))

/-- The core, and the box of the outcome. -/
structure Sx (w W0 : World) (lo base mb cb : Nat) (e : Int) (C : CoreD) (E : List EnclD) (F : List (FrameD × Value)) (fv ev qv : Value) (W : World) : Prop where
  co : Co W0 lo base mb cb e C E F fv ev qv W
  g0 : W.cell? ⟨w.heap.size, 0, none⟩ = some (.int .i64 0)
  g1 : W.cell? ⟨w.heap.size, 1, none⟩ = some (.int .i64 0)
  gz : ∀ o, W.frozen? ⟨w.heap.size, o, none⟩ = false
  off : Off fv ev qv F w.heap.size
  nm : w.heap.size ≠ mb
  nc : w.heap.size ≠ cb
  hb : base ≤ w.heap.size
  z : w.heap.size < W.heap.size
section
variable {w W0 W W' : World} {lo base mb cb : Nat} {e : Int} {C : CoreD} {E : List EnclD} {F : List (FrameD × Value)} {fv ev qv : Value}
theorem Sx.of (h : Co W0 lo base mb cb e C E F fv ev qv w) (t : TypeId) : Sx w W0 lo base mb cb e C E F fv ev qv (w.alloc (.cells #[.int .i64 0, .int .i64 0] t)) := by
  have hO := h.st.own
  have h1 := h.st.hm
  have h2 := h.st.hr
  have h3 := h.st.hb
  have h4 := h.st.below.size
  exact ⟨h.later (below_alloc _ _), by go_simp, by go_simp, fun o => by go_simp, ⟨fun k hk => by have := (hO.f.row.lt k hk).2; omega, fun k hk => by have := (hO.e.lt k hk).2; omega, fun k hk => by have := (hO.q.lt k hk).2; omega, fun i p hp k hk => by have := ((hO.f.sub i p hp).1.lt k hk).2; omega⟩,
    by omega, by omega, by omega, by go_size⟩
theorem Sx.later (h : Sx w W0 lo base mb cb e C E F fv ev qv W) (hb : Below W.heap.size W W') : Sx w W0 lo base mb cb e C E F fv ev qv W' :=
  ⟨h.co.later hb, cell_later hb h.g0, cell_later hb h.g1, fun o => by rw [(bcell hb).2 _ _ h.z]; exact h.gz o, h.off, h.nm, h.nc, h.hb, by have := hb.size; have := h.z; omega⟩
theorem Sx.setR (h : Sx w W0 lo base mb cb e C E F fv ev qv W) {i o : Nat} (ho : o = 3 + i) (n : Int) : Sx w W0 lo base mb cb e { C with R := C.R.set i n } E F fv ev qv (W.setCell ⟨cb, o, none⟩ (.int .i64 n)) :=
  ⟨h.co.setR ho n, by rw [set_far h.nc]; exact h.g0, by rw [set_far h.nc]; exact h.g1, fun o => by rw [set_frozen]; exact h.gz o, h.off, h.nm, h.nc, h.hb, by rw [show (W.setCell ⟨cb, o, none⟩ (.int .i64 n)).heap.size = W.heap.size by simp]; exact h.z⟩
theorem Sx.setPc (h : Sx w W0 lo base mb cb e C E F fv ev qv W) (n : Int) : Sx w W0 lo base mb cb e { C with pc := n } E F fv ev qv (W.setCell ⟨cb, 2, none⟩ (.int .i64 n)) :=
  ⟨h.co.setPc n, by rw [set_far h.nc]; exact h.g0, by rw [set_far h.nc]; exact h.g1, fun o => by rw [set_frozen]; exact h.gz o, h.off, h.nm, h.nc, h.hb, by rw [show (W.setCell ⟨cb, 2, none⟩ (.int .i64 n)).heap.size = W.heap.size by simp]; exact h.z⟩
theorem Sx.setW (h : Sx w W0 lo base mb cb e C E F fv ev qv W) {g c i k : Nat} {x : FrameD} {n : Int} (hm : x.words.length = 8) (hx : F[i]? = some (x, .slice (some ⟨g, 0, none⟩) 8 c)) :
    Sx w W0 lo base mb cb e { C with F := setWord C.F (i, k) n } E (F.set i ({ x with words := x.words.set k n }, .slice (some ⟨g, 0, none⟩) 8 c)) fv ev qv (W.setCell ⟨g, k, none⟩ (.int .i64 n)) := by
  have hn : w.heap.size ≠ g := fun e => h.off.w i _ hx g rfl e.symm
  exact ⟨h.co.setW hm hx, by rw [set_far hn]; exact h.g0, by rw [set_far hn]; exact h.g1, fun o => by rw [set_frozen]; exact h.gz o, h.off.set (h.off.w i _ hx), h.nm, h.nc, h.hb, by rw [show (W.setCell ⟨g, k, none⟩ (.int .i64 n)).heap.size = W.heap.size by simp]; exact h.z⟩
theorem Sx.pushQ (h : Sx w W0 lo base mb cb e C E F fv ev qv W) (q : QuoteD) {g n cap : Nat} (hrow : W'.ownsRow base 50 2 (.slice (some ⟨g, 0, none⟩) n cap) n (C.Q.flatMap QuoteD.cs ++ q.cs)) (hn : n = C.Q.length + 1) (hg : W.grownBy W' qv.ownBlock) (hat : qv.ownBlock = some g ∨ g = W.heap.size) :
    Sx w W0 lo base mb cb e { C with Q := C.Q ++ [q] } E F fv ev (.slice (some ⟨g, 0, none⟩) n cap) (W'.setCell ⟨mb, 2, none⟩ (.slice (some ⟨g, 0, none⟩) n cap)) := by
  have hq : some w.heap.size ≠ qv.ownBlock := fun e => h.off.q _ e.symm rfl
  have hz := h.z
  have hs := hg.size
  have hgn : NotAt (.slice (some ⟨g, 0, none⟩) n cap) w.heap.size := fun k hk => by
    simp only [Value.ownBlock, Option.some.injEq] at hk
    subst hk
    rcases hat with e | e
    · exact h.off.q g e
    · omega
  exact ⟨h.co.pushQ q hrow hn hg hat, by rw [set_far h.nm]; exact hg.cell h.g0 hq, by rw [set_far h.nm]; exact hg.cell h.g1 hq, fun o => by rw [set_frozen, hg.frozen_far ⟨w.heap.size, o, none⟩ hz hq]; exact h.gz o, ⟨h.off.f, h.off.e, hgn, h.off.w⟩, h.nm, h.nc, h.hb,
    by rw [show (W'.setCell ⟨mb, 2, none⟩ (.slice (some ⟨g, 0, none⟩) n cap)).heap.size = W'.heap.size by simp]; omega⟩
/-- The outcome is written. -/
theorem Sx.fin (h : Sx w W0 lo base mb cb e C E F fv ev qv W) (u v : Value) : Co W0 lo base mb cb e C E F fv ev qv ((W.setCell ⟨w.heap.size, 0, none⟩ u).setCell ⟨w.heap.size, 1, none⟩ v) := by
  have hc : cb ≠ w.heap.size := fun e => h.nc e.symm
  exact ⟨(h.co.st.setFar h.hb h.nm h.nc h.off 0 u).setFar h.hb h.nm h.nc h.off 1 v, by rw [set_far hc, set_far hc]; exact h.co.k0, by rw [set_far hc, set_far hc]; exact h.co.k1, by rw [set_far hc, set_far hc]; exact h.co.k2⟩
theorem Sx.no {D : CoreD} {g : ByteArray} (h : Sx w W0 lo base mb cb e D E F fv ev qv W) (hF : D.F = C.F) (hQ : D.Q = C.Q) (hs : stepM e g C = none) : StepRes W0 lo base mb cb e g C E fv ev w (.returned (.tuple #[.agg #[.int .i64 0, .int .i64 0], .bool false])) ((W.setCell ⟨w.heap.size, 0, none⟩ (.int .i64 0)).setCell ⟨w.heap.size, 1, none⟩ (.int .i64 0)) :=
  ⟨D, F, qv, 0, 0, false, h.fin _ _, by have := h.z; simp; omega, rfl, .inl ⟨hs, hF, hQ, rfl, rfl, rfl⟩⟩
theorem Sx.go {D : CoreD} {g : ByteArray} (h : Sx w W0 lo base mb cb e D E F fv ev qv W) (hs : stepM e g C = some (D, none)) : StepRes W0 lo base mb cb e g C E fv ev w (.returned (.tuple #[.agg #[.int .i64 0, .int .i64 0], .bool true])) ((W.setCell ⟨w.heap.size, 0, none⟩ (.int .i64 0)).setCell ⟨w.heap.size, 1, none⟩ (.int .i64 0)) :=
  ⟨D, F, qv, 0, 0, true, h.fin _ _, by have := h.z; simp; omega, rfl, .inr (.inl ⟨hs, rfl, rfl, rfl⟩)⟩
theorem Sx.exits {D : CoreD} {g : ByteArray} {n : Int} (h : Sx w W0 lo base mb cb e D E F fv ev qv W) (hs : stepM e g C = some (D, some n)) : StepRes W0 lo base mb cb e g C E fv ev w (.returned (.tuple #[.agg #[.int .i64 1, .int .i64 n], .bool true])) ((W.setCell ⟨w.heap.size, 0, none⟩ (.int .i64 1)).setCell ⟨w.heap.size, 1, none⟩ (.int .i64 n)) :=
  ⟨D, F, qv, 1, n, true, h.fin _ _, by have := h.z; simp; omega, rfl, .inr (.inr ⟨hs, rfl, rfl⟩)⟩

/-- core.at once more: a pointer, whatever it is. -/
def AtP (W : World) (cb : Nat) (C : CoreD) (F : List (FrameD × Value)) (e n right : Int) (p : Option Addr) : Prop :=
  (cellOf C.F e n right = none ∧ p = none) ∨ ∃ (i k : Nat) (y : FrameD) (g c : Nat) (v : Int), cellOf C.F e n right = some (i, k) ∧ F[i]? = some (y, .slice (some ⟨g, 0, none⟩) 8 c) ∧ y.words.length = 8 ∧ y.words[k]? = some v ∧ wordAt C.F (i, k) = v ∧ 0 ≤ v ∧ v ≤ 65535 ∧ W.cell? ⟨g, k, none⟩ = some (.int .i64 v) ∧ (∀ o, W.frozen? ⟨g, o, none⟩ = false) ∧ g < W.heap.size ∧ g ≠ cb ∧ p = some ⟨g, k, none⟩
theorem coreAtP (h : Co W0 lo base mb cb e C E F fv ev qv W) (hc : CoreOk C) (n right : Int) (hn : 0 ≤ n) (hh : n ≤ 1000000) (hr : right = 1 ∨ right = 2 ∨ right = 4) : Calls Try.prog 31 #[.pointer (some ⟨cb, 0, none⟩), .int .i64 n, .int .i64 right] W fun x w' => ∃ p, x = .returned (.pointer p) ∧ Below W.heap.size W w' ∧ AtP W cb C F e n right p := by
  refine (coreAt h hc n right hn hh hr).mono ?_
  rintro x w' ⟨hb, ⟨h1, rfl⟩ | ⟨i, k, y, g, c, v, h1, h2, h3, h4, h5, h6, h7, h8, h9, h10, h11, rfl⟩⟩
  · exact ⟨none, rfl, hb, .inl ⟨h1, rfl⟩⟩
  · exact ⟨_, rfl, hb, .inr ⟨i, k, y, g, c, v, h1, h2, h3, h4, h5, h6, h7, h8, h9, h10, h11, rfl⟩⟩
end

end Go.Proofs.Ytlbjdjjdafnemaa
