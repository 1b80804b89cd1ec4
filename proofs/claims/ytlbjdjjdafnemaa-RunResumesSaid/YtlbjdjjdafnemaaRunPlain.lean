/- What an enclave does when it is entered, as plain data: one step, and so many. No program is walked. -/
import Derived.Test.YtlbjdjjdafnemaaMachOps2
import Derived.Test.YtlbjdjjdafnemaaPlace
import Derived.Laws.BitsLemmas
import Derived.Laws.Bits64
namespace Go.Proofs.Ytlbjdjjdafnemaa
open Go.RowKit

theorem wraps_i64_63 (n : Int) (h₀ : 0 ≤ n) (h₁ : n < 2 ^ 63) : IntKind.i64.wrap n = n := by rw [IntKind.wrap_i64]; omega
theorem and_word (a : Int) (h0 : 0 ≤ a) (h1 : a ≤ 1000000) : bits .and .i64 a 65535 = a % 65536 := by
  have h := bits_mask .i64 63 (by decide) wraps_i64_63 16 (by decide) a h0 (by omega)
  have e : ((2 : Int) ^ 16 - 1) = 65535 := by decide
  have e2 : ((2 : Int) ^ 16) = 65536 := by decide
  rw [e, e2] at h
  exact h
theorem xor_word (a b : Int) (h0 : 0 ≤ a) (h1 : a ≤ 65535) (h2 : 0 ≤ b) (h3 : b ≤ 65535) : 0 ≤ bits .xor .i64 a b ∧ bits .xor .i64 a b ≤ 65535 := by
  obtain ⟨m, rfl⟩ : ∃ m : Nat, a = m := ⟨a.toNat, by omega⟩
  obtain ⟨k, rfl⟩ : ∃ k : Nat, b = k := ⟨b.toNat, by omega⟩
  have hl : m ^^^ k < 2 ^ 16 := Nat.xor_lt_two_pow (by omega) (by omega)
  have e : bits .xor .i64 (m : Int) (k : Int) = ((m ^^^ k : Nat) : Int) := by
    have e1 : (BitVec.ofInt 64 (m : Int)).toNat = m := by rw [BitVec.ofInt_natCast, BitVec.toNat_ofNat]; exact Nat.mod_eq_of_lt (by omega)
    have e2 : (BitVec.ofInt 64 (k : Int)).toNat = k := by rw [BitVec.ofInt_natCast, BitVec.toNat_ofNat]; exact Nat.mod_eq_of_lt (by omega)
    show IntKind.i64.wrap ((BitVec.ofInt 64 (m : Int) ^^^ BitVec.ofInt 64 (k : Int)).toNat : Int) = _
    rw [BitVec.toNat_xor, e1, e2, IntKind.wrap_i64]
    omega
  rw [e]
  omega
/-- A right that a page has. -/
def hasR (r right : Int) : Bool := if right = 1 then r % 2 == 1 else if right = 2 then r / 2 % 2 == 1 else r / 4 % 2 == 1
theorem and_right (r right : Int) (h0 : 0 ≤ r) (h1 : r ≤ 7) (h : right = 1 ∨ right = 2 ∨ right = 4) : (bits .and .i64 r right == 0) = !hasR r right := by
  obtain rfl | rfl | rfl | rfl | rfl | rfl | rfl | rfl : r = 0 ∨ r = 1 ∨ r = 2 ∨ r = 3 ∨ r = 4 ∨ r = 5 ∨ r = 6 ∨ r = 7 := by omega
  all_goals
    rcases h with rfl | rfl | rfl
    all_goals decide

/-- An address of an enclave: which frame, which word; none: it must not be touched so. -/
def cellOf (F : List FrameD) (e n right : Int) : Option (Nat × Nat) :=
  if 64 ≤ n then
    if right = 4 then none else match F[((n - 64) / 8).toNat]? with
    | some x => if x.owner = 0 then some (((n - 64) / 8).toNat, (n % 8).toNat) else none
    | none => none
  else if placeF F e (n / 8) < 0 then none else match F[(placeF F e (n / 8)).toNat]? with
    | some x => if hasR x.rights right then some ((placeF F e (n / 8)).toNat, (n % 8).toNat) else none
    | none => none
def wordAt (F : List FrameD) (c : Nat × Nat) : Int := ((F[c.1]?).bind fun x => x.words[c.2]?).getD 0
def setWord (F : List FrameD) (c : Nat × Nat) (n : Int) : List FrameD := upd F c.1 fun x => { x with words := x.words.set c.2 n }

structure CoreD where
  F : List FrameD
  Q : List QuoteD
  pc : Int
  R : List Int
/-- One step of the enclave e, whose log is g: none: it faults; with some value: it exits. -/
def stepM (e : Int) (g : ByteArray) (c : CoreD) : Option (CoreD × Option Int) :=
  match cellOf c.F e c.pc 4, cellOf c.F e (c.pc + 1) 4 with
  | some i, some k =>
    let x := wordAt c.F i
    let n := wordAt c.F k
    let ai := (x / 16 % 4).toNat
    let a := (c.R[ai]?).getD 0
    let b := (c.R[(x / 256 % 4).toNat]?).getD 0
    let d : CoreD := { c with pc := c.pc + 2 }
    if x % 16 = 1 then some ({ d with R := c.R.set ai n }, none)
    else if x % 16 = 2 then some ({ d with R := c.R.set ai ((a + b) % 65536) }, none)
    else if x % 16 = 3 then some ({ d with R := c.R.set ai (bits .xor .i64 a b) }, none)
    else if x % 16 = 4 then some ({ d with R := c.R.set ai (if a < b then 1 else 0) }, none)
    else if x % 16 = 5 then match cellOf c.F e b 1 with
      | some w => some ({ d with R := c.R.set ai (wordAt c.F w) }, none)
      | none => none
    else if x % 16 = 6 then match cellOf c.F e b 2 with
      | some w => some ({ d with F := setWord c.F w a }, none)
      | none => none
    else if x % 16 = 7 then some (if a = 0 then { d with pc := n } else d, none)
    else if x % 16 = 8 then some (d, some a)
    else if x % 16 = 9 then (if c.Q.length = 40 then none else some ({ d with Q := c.Q ++ [⟨g, a⟩] }, none))
    else none
  | _, _ => none
/-- So much fuel: the machine's parts, the enclave, how it ends, its value. -/
def runM (e : Int) (g : ByteArray) : Nat → CoreD → CoreD × EnclD × Int × Int
  | 0, c => (c, ⟨3, g, c.pc, (c.R[0]?).getD 0, (c.R[1]?).getD 0, (c.R[2]?).getD 0, (c.R[3]?).getD 0⟩, 2, 0)
  | f + 1, c => match stepM e g c with
    | none => (c, ⟨4, g, 0, 0, 0, 0, 0⟩, 3, 0)
    | some (d, some v) => (d, ⟨2, g, 0, 0, 0, 0, 0⟩, 1, v)
    | some (d, none) => runM e g f d

/-- What stays so from step to step. -/
structure CoreOk (c : CoreD) : Prop where
  len : c.F.length = 24
  fr : ∀ (i : Nat) (x : FrameD), c.F[i]? = some x → x.words.length = 8 ∧ (∀ (k : Nat) (n : Int), x.words[k]? = some n → 0 ≤ n ∧ n ≤ 65535) ∧ 0 ≤ x.rights ∧ x.rights ≤ 7 ∧ 0 ≤ x.owner
  regs : c.R.length = 4
  rw : ∀ (k : Nat) (n : Int), c.R[k]? = some n → 0 ≤ n ∧ n ≤ 65535
  q : c.Q.length ≤ 40
  lo : 0 ≤ c.pc
  hi : c.pc ≤ 65537

end Go.Proofs.Ytlbjdjjdafnemaa
