/- What an enclave does when it is entered, as plain data: one step, and so many. No program is walked.
What stays so from step to step of a run. No program is walked.
ref.cellOf, walked. Conditions: those that the contract writes.
run's core.at, walked: a pointer to the word at an address, or nil. Conditions: those that each contract writes.
The state of a run in memory: the machine in a box, the registers in another. Plain laws; no program is walked.
One step of a run, way by way, as plain data; the state of core.step in memory. No program is walked.
How a run ends, in memory and as plain data. No program is walked. -/
import Derived.Test.YtklbbjionoeofaaGreatDoorGi
import Derived.Test.YtklbbjionoeofaaGreatDoorGe
import Derived.Laws.BitsLemmas
import Derived.Laws.Bits64
import Derived.Test.YtklbbjionoeofaaGreatDoorGg
import Derived.StillTailTactics
namespace Go.Proofs.YtklbbjionoeofaaGreatDoor
open Go.RowKit

theorem wraps_i64_63 (n : Int) (h₀ : 0 ≤ n) (h₁ : n < 2 ^ 63) : IntKind.i64.wrap n = n := by rw [IntKind.wrap_i64]; omega
theorem and_word (a : Int) (h0 : 0 ≤ a) (h1 : a ≤ 1000000) : bits .and .i64 a 65535 = a % 65536 := by
  have h := bits_mask .i64 63 (by decide) wraps_i64_63 16 (by decide) a h0 (by omega)
  have e : ((2 : Int) ^ 16 - 1) = 65535 := by decide
  have e2 : ((2 : Int) ^ 16) = 65536 := by decide
  rw [e, e2] at h
  exact h
theorem xor_word (a b : Int) (h0 : 0 ≤ a) (h1 : a ≤ 65535) (h2 : 0 ≤ b) (h3 : b ≤ 65535) : 0 ≤ bits .xor .i64 a b ∧ bits .xor .i64 a b ≤ 65535 := by
  obtain ⟨m, rfl⟩ : ∃ m : Nat, a = m := ⟨a.toNat, by omega⟩
  obtain ⟨k, rfl⟩ : ∃ k : Nat, b = k := ⟨b.toNat, by omega⟩
  have hl : m ^^^ k < 2 ^ 16 := Nat.xor_lt_two_pow (by omega) (by omega)
  have e : bits .xor .i64 (m : Int) (k : Int) = ((m ^^^ k : Nat) : Int) := by
    have e1 : (BitVec.ofInt 64 (m : Int)).toNat = m := by rw [BitVec.ofInt_natCast, BitVec.toNat_ofNat]; exact Nat.mod_eq_of_lt (by omega)
    have e2 : (BitVec.ofInt 64 (k : Int)).toNat = k := by rw [BitVec.ofInt_natCast, BitVec.toNat_ofNat]; exact Nat.mod_eq_of_lt (by omega)
    show IntKind.i64.wrap ((BitVec.ofInt 64 (m : Int) ^^^ BitVec.ofInt 64 (k : Int)).toNat : Int) = _
    rw [BitVec.toNat_xor, e1, e2, IntKind.wrap_i64]
    omega
  rw [e]
  omega
/-- A right that a page has. -/
def hasR (r right : Int) : Bool := if right = 1 then r % 2 == 1 else if right = 2 then r / 2 % 2 == 1 else r / 4 % 2 == 1
theorem and_right (r right : Int) (h0 : 0 ≤ r) (h1 : r ≤ 7) (h : right = 1 ∨ right = 2 ∨ right = 4) : (bits .and .i64 r right == 0) = !hasR r right := by
  obtain rfl | rfl | rfl | rfl | rfl | rfl | rfl | rfl : r = 0 ∨ r = 1 ∨ r = 2 ∨ r = 3 ∨ r = 4 ∨ r = 5 ∨ r = 6 ∨ r = 7 := by omega
  all_goals
    rcases h with rfl | rfl | rfl
    all_goals decide

/-- An address of an enclave: which frame, which word; none: it must not be touched so. -/
def cellOf (F : List FrameD) (e n right : Int) : Option (Nat × Nat) :=
  if 64 ≤ n then
    if right = 4 then none else match F[((n - 64) / 8).toNat]? with
    | some x => if x.owner = 0 then some (((n - 64) / 8).toNat, (n % 8).toNat) else none
    | none => none
  else if placeF F e (n / 8) < 0 then none else match F[(placeF F e (n / 8)).toNat]? with
    | some x => if hasR x.rights right then some ((placeF F e (n / 8)).toNat, (n % 8).toNat) else none
    | none => none
def wordAt (F : List FrameD) (c : Nat × Nat) : Int := ((F[c.1]?).bind fun x => x.words[c.2]?).getD 0
def setWord (F : List FrameD) (c : Nat × Nat) (n : Int) : List FrameD := upd F c.1 fun x => { x with words := x.words.set c.2 n }

structure CoreD where
  F : List FrameD
  Q : List QuoteD
  pc : Int
  R : List Int
/-- One step of the enclave e, whose log is g: none: it faults; with some value: it exits. -/
def stepM (e : Int) (g : ByteArray) (c : CoreD) : Option (CoreD × Option Int) :=
  match cellOf c.F e c.pc 4, cellOf c.F e (c.pc + 1) 4 with
  | some i, some k =>
    let x := wordAt c.F i
    let n := wordAt c.F k
    let ai := (x / 16 % 4).toNat
    let a := (c.R[ai]?).getD 0
    let b := (c.R[(x / 256 % 4).toNat]?).getD 0
    let d : CoreD := { c with pc := c.pc + 2 }
    if x % 16 = 1 then some ({ d with R := c.R.set ai n }, none)
    else if x % 16 = 2 then some ({ d with R := c.R.set ai ((a + b) % 65536) }, none)
    else if x % 16 = 3 then some ({ d with R := c.R.set ai (bits .xor .i64 a b) }, none)
    else if x % 16 = 4 then some ({ d with R := c.R.set ai (if a < b then 1 else 0) }, none)
    else if x % 16 = 5 then match cellOf c.F e b 1 with
      | some w => some ({ d with R := c.R.set ai (wordAt c.F w) }, none)
      | none => none
    else if x % 16 = 6 then match cellOf c.F e b 2 with
      | some w => some ({ d with F := setWord c.F w a }, none)
      | none => none
    else if x % 16 = 7 then some (if a = 0 then { d with pc := n } else d, none)
    else if x % 16 = 8 then some (d, some a)
    else if x % 16 = 9 then (if c.Q.length = 40 then none else some ({ d with Q := c.Q ++ [⟨g, a⟩] }, none))
    else none
  | _, _ => none
/-- So much fuel: the machine's parts, the enclave, how it ends, its value. -/
def runM (e : Int) (g : ByteArray) : Nat → CoreD → CoreD × EnclD × Int × Int
  | 0, c => (c, ⟨3, g, c.pc, (c.R[0]?).getD 0, (c.R[1]?).getD 0, (c.R[2]?).getD 0, (c.R[3]?).getD 0⟩, 2, 0)
  | f + 1, c => match stepM e g c with
    | none => (c, ⟨4, g, 0, 0, 0, 0, 0⟩, 3, 0)
    | some (d, some v) => (d, ⟨2, g, 0, 0, 0, 0, 0⟩, 1, v)
    | some (d, none) => runM e g f d

/-- What stays so from step to step. -/
structure CoreOk (c : CoreD) : Prop where
  len : c.F.length = 24
  fr : ∀ (i : Nat) (x : FrameD), c.F[i]? = some x → x.words.length = 8 ∧ (∀ (k : Nat) (n : Int), x.words[k]? = some n → 0 ≤ n ∧ n ≤ 65535) ∧ 0 ≤ x.rights ∧ x.rights ≤ 7 ∧ 0 ≤ x.owner
  regs : c.R.length = 4
  rw : ∀ (k : Nat) (n : Int), c.R[k]? = some n → 0 ≤ n ∧ n ≤ 65535
  q : c.Q.length ≤ 40
  lo : 0 ≤ c.pc
  hi : c.pc ≤ 65537

end Go.Proofs.YtklbbjionoeofaaGreatDoor

namespace Go.Proofs.YtklbbjionoeofaaGreatDoor
open Go.RowKit

theorem cellOf_get {F : List FrameD} {e n right : Int} {c : Nat × Nat} (h : cellOf F e n right = some c) (_h0 : 0 ≤ n) : c.2 < 8 ∧ ∃ x, F[c.1]? = some x := by
  unfold cellOf at h
  split at h
  · split at h
    · cases h
    · split at h
      · rename_i x hx
        split at h
        · cases h
          exact ⟨by simp only; omega, x, hx⟩
        · cases h
      · cases h
  · split at h
    · cases h
    · split at h
      · rename_i x hx
        split at h
        · cases h
          exact ⟨by simp only; omega, x, hx⟩
        · cases h
      · cases h
theorem wordAt_ok {c : CoreD} (hc : CoreOk c) {e n right : Int} {w : Nat × Nat} (h : cellOf c.F e n right = some w) (h0 : 0 ≤ n) : 0 ≤ wordAt c.F w ∧ wordAt c.F w ≤ 65535 := by
  obtain ⟨h8, x, hx⟩ := cellOf_get h h0
  obtain ⟨hl, hw, _⟩ := hc.fr _ x hx
  obtain ⟨v, hv⟩ : ∃ v, x.words[w.2]? = some v := ⟨_, List.getElem?_eq_getElem (by omega)⟩
  have : wordAt c.F w = v := by simp [wordAt, hx, hv]
  rw [this]
  exact hw _ _ hv
theorem reg_ok {c : CoreD} (hc : CoreOk c) (i : Nat) : 0 ≤ (c.R[i]?).getD 0 ∧ (c.R[i]?).getD 0 ≤ 65535 := by
  cases h : c.R[i]? with
  | none => simp
  | some n => exact hc.rw i n h
theorem regs_set {c : CoreD} (hc : CoreOk c) {i : Nat} {n : Int} (h : 0 ≤ n ∧ n ≤ 65535) {p : Int} (hp : 0 ≤ p ∧ p ≤ 65537) : CoreOk { c with pc := p, R := c.R.set i n } :=
  ⟨hc.len, hc.fr, by simp only [List.length_set]; exact hc.regs, fun k m hk => by
    by_cases hi : i = k
    · subst hi
      have hl : i < (c.R.set i n).length := (List.getElem?_eq_some_iff.1 hk).1
      rw [List.length_set] at hl
      simp only at hk
      rw [List.getElem?_set_self hl] at hk
      cases hk
      exact h
    · simp only at hk
      rw [List.getElem?_set_ne hi] at hk
      exact hc.rw k m hk, hc.q, hp.1, hp.2⟩
theorem setWord_ok {c : CoreD} (hc : CoreOk c) {w : Nat × Nat} {n : Int} (h : 0 ≤ n ∧ n ≤ 65535) {p : Int} (hp : 0 ≤ p ∧ p ≤ 65537) : CoreOk { c with pc := p, F := setWord c.F w n } := by
  refine ⟨by simp only [setWord, upd_len]; exact hc.len, fun i x hx => ?_, hc.regs, hc.rw, hc.q, hp.1, hp.2⟩
  obtain ⟨y, hy, rfl | rfl⟩ := upd_get hx
  · exact hc.fr i _ hy
  · obtain ⟨h1, h2, h3⟩ := hc.fr i y hy
    refine ⟨by simpa using h1, fun k m hk => ?_, h3⟩
    by_cases hi : w.2 = k
    · subst hi
      have hl : w.2 < (y.words.set w.2 n).length := (List.getElem?_eq_some_iff.1 hk).1
      rw [List.length_set] at hl
      simp only at hk
      rw [List.getElem?_set_self hl] at hk
      cases hk
      exact h
    · simp only at hk
      rw [List.getElem?_set_ne hi] at hk
      exact h2 k m hk

/-- An instruction can be run only below the shared frames. -/
theorem cellOf_run {F : List FrameD} {e n : Int} {c : Nat × Nat} (h : cellOf F e n 4 = some c) : n < 64 := by
  unfold cellOf at h
  split at h
  · simp at h
  · omega
theorem stepM_ok {e : Int} {g : ByteArray} {c d : CoreD} {o : Option Int} (hc : CoreOk c) (h : stepM e g c = some (d, o)) : CoreOk d ∧ d.pc ≤ 65535 ∧ ∀ v, o = some v → 0 ≤ v ∧ v ≤ 65535 := by
  unfold stepM at h
  split at h
  · rename_i i k hi hk
    have hn := cellOf_run hi
    have hn2 := cellOf_run hk
    have hx := wordAt_ok hc hi hc.lo
    have hw := wordAt_ok hc hk (by have := hc.lo; omega)
    have hlo := hc.lo
    have ha := reg_ok hc (wordAt c.F i / 16 % 4).toNat
    have hb := reg_ok hc (wordAt c.F i / 256 % 4).toNat
    have hp : 0 ≤ c.pc + 2 ∧ c.pc + 2 ≤ 65537 := by omega
    have nv : ∀ v : Int, (none : Option Int) = some v → 0 ≤ v ∧ v ≤ 65535 := fun v h => by cases h
    simp only at h
    split at h
    · cases h; exact ⟨regs_set hc hw hp, by simp only; omega, nv⟩
    split at h
    · cases h; exact ⟨regs_set hc (by omega) hp, by simp only; omega, nv⟩
    split at h
    · cases h; exact ⟨regs_set hc (xor_word _ _ ha.1 ha.2 hb.1 hb.2) hp, by simp only; omega, nv⟩
    split at h
    · cases h; exact ⟨regs_set hc (by split <;> omega) hp, by simp only; omega, nv⟩
    split at h
    · split at h
      · rename_i w hw2
        cases h
        exact ⟨regs_set hc (wordAt_ok hc hw2 hb.1) hp, by simp only; omega, nv⟩
      · cases h
    split at h
    · split at h
      · cases h; exact ⟨setWord_ok hc ha hp, by simp only; omega, nv⟩
      · cases h
    split at h
    · cases h
      split
      · exact ⟨⟨hc.len, hc.fr, hc.regs, hc.rw, hc.q, hw.1, by simp only; omega⟩, hw.2, nv⟩
      · exact ⟨⟨hc.len, hc.fr, hc.regs, hc.rw, hc.q, hp.1, hp.2⟩, by simp only; omega, nv⟩
    split at h
    · cases h; exact ⟨⟨hc.len, hc.fr, hc.regs, hc.rw, hc.q, hp.1, hp.2⟩, by simp only; omega, fun v hv => by cases hv; exact ha⟩
    split at h
    · split at h
      · cases h
      · rename_i hq
        cases h
        have := hc.q
        exact ⟨⟨hc.len, hc.fr, hc.regs, hc.rw, by simp; omega, hp.1, hp.2⟩, by simp only; omega, nv⟩
    · cases h
  · cases h

end Go.Proofs.YtklbbjionoeofaaGreatDoor

namespace Go.Proofs.YtklbbjionoeofaaGreatDoor
open Go.RowKit

/-- A call tells which frame, which word, and whether it may be touched. -/
def CellRes (L : List FrameD) (e n right : Int) (w : World) (x : Ending) (w' : World) : Prop :=
  ∃ (f i : Int) (ok : Bool), x = .returned (.tuple #[.int .i64 f, .int .i64 i, .bool ok]) ∧ (∀ c, cellOf L e n right = some c → ok = true ∧ f = c.1 ∧ i = c.2) ∧ (cellOf L e n right = none → ok = false) ∧ Below w.heap.size w w'
theorem CellRes.no {L : List FrameD} {e n right : Int} {w w' : World} {f i : Int} (h : cellOf L e n right = none) (hb : Below w.heap.size w w') : CellRes L e n right w (.returned (.tuple #[.int .i64 f, .int .i64 i, .bool false])) w' :=
  ⟨f, i, false, rfl, fun c hc => (by rw [h] at hc; cases hc), fun _ => rfl, hb⟩
theorem CellRes.yes {L : List FrameD} {e n right : Int} {w w' : World} {f i : Int} {c : Nat × Nat} (h : cellOf L e n right = some c) (hf : f = c.1) (hi : i = c.2) (hb : Below w.heap.size w w') : CellRes L e n right w (.returned (.tuple #[.int .i64 f, .int .i64 i, .bool true])) w' :=
  ⟨f, i, true, rfl, fun d hd => (by rw [h] at hd; cases hd; exact ⟨rfl, hf, hi⟩), fun hn => (by rw [h] at hn; cases hn), hb⟩

set_option maxRecDepth 10000 in
set_option maxHeartbeats 800000 in
theorem refCell_hi (fa : Option Addr) (L : List FrameD) (fc : Nat) (ev qv : Value) (e n right : Int) (w : World) (hl : L.length = 24) (hc : FramesAt w fa L) (h64 : 64 ≤ n) (hn : n ≤ 1000000) :
    Calls Tryz.prog 75 #[.agg #[.slice fa 24 fc, ev, qv], .int .i64 e, .int .i64 n, .int .i64 right] w (CellRes L e n right w) := by
  have HC := hid hc
  have HL := hid hl
  clear hc hl
  have B0 : ∀ X, Below w.heap.size w (w.alloc X) := fun X => by go_grown
  have HF : Hid (cellOf L e n right = if right = 4 then none else match L[((n - 64) / 8).toNat]? with
    | some x => if x.owner = 0 then some (((n - 64) / 8).toNat, (n % 8).toNat) else none
    | none => none) := by show cellOf _ _ _ _ = _; rw [cellOf, if_pos h64]; try rfl
  by_cases h4 : right = 4
  · subst h4
    have HD : Hid (cellOf L e n 4 = none) := by show _ = _; rw [HF.out, if_pos rfl]
    clear HF
    go_enter Tryz.func75, Tryz.ntmps75
    go_wp2_with fail
    go_quiet (fail)
    go_wp2_with fail
    exact bodyPost_ret (v := .tuple #[.int .i64 ((n - 64) / 8), .int .i64 (n % 8), .bool false]) (by simp [results, Tryz.results75, go_sem]) rfl (CellRes.no HD.out (below_drewN (B0 _) _))
  · have h4b : (right != 4) = true := by rw [bne_iff_ne]; exact h4
    rw [if_neg h4] at HF
    clear h4
    have q0 : 0 ≤ (n - 64) / 8 := by omega
    by_cases hlt : (n - 64) / 8 < 24
    · obtain ⟨x, hx⟩ : ∃ x, L[((n - 64) / 8).toNat]? = some x := ⟨_, List.getElem?_eq_getElem (by rw [HL.out]; omega)⟩
      have HF2 : Hid (cellOf L e n right = if x.owner = 0 then some (((n - 64) / 8).toNat, (n % 8).toNat) else none) := by show _ = _; rw [HF.out, hx]
      obtain ⟨b, off, wa, wc, rfl, k0, _⟩ := HC.out _ x hx
      clear hx HF
      obtain ⟨i, hi⟩ : ∃ i : Nat, (n - 64) / 8 = i := ⟨((n - 64) / 8).toNat, by omega⟩
      have HI := hid hi
      have hm : 0 ≤ n % 8 := by omega
      have hi24 : (i : Int) < 24 := by omega
      rw [hi, Int.toNat_natCast] at k0
      have hkb := World.block_lt_of_cell? _ _ k0
      simp only at hkb
      by_cases ho : x.owner = 0
      · have hob : (x.owner == 0) = true := by simp [ho]
        have HD : Hid (cellOf L e n right = some (((n - 64) / 8).toNat, (n % 8).toNat)) := by show _ = _; rw [HF2.out, if_pos ho]
        clear ho HF2
        go_enter Tryz.func75, Tryz.ntmps75
        go_wp2_with fail
        go_quiet (fail)
        go_wp2_with fail
        exact bodyPost_ret (v := .tuple #[.int .i64 ((n - 64) / 8), .int .i64 (n % 8), .bool true]) (by simp [results, Tryz.results75, go_sem]) rfl (CellRes.yes HD.out (by simp only; omega) (by simp only; omega) (below_drewN (B0 _) _))
      · have hob : (x.owner == 0) = false := by simp [ho]
        have HD : Hid (cellOf L e n right = none) := by show _ = _; rw [HF2.out, if_neg ho]
        clear ho HF2
        go_enter Tryz.func75, Tryz.ntmps75
        go_wp2_with fail
        go_quiet (fail)
        go_wp2_with fail
        exact bodyPost_ret (v := .tuple #[.int .i64 ((n - 64) / 8), .int .i64 (n % 8), .bool false]) (by simp [results, Tryz.results75, go_sem]) rfl (CellRes.no HD.out (below_drewN (B0 _) _))
    · have HD : Hid (cellOf L e n right = none) := by show _ = _; rw [HF.out, List.getElem?_eq_none (by rw [HL.out]; omega)]
      have hlb : decide ((n - 64) / 8 < 24) = false := by rw [decide_eq_false_iff_not]; exact hlt
      clear HF
      go_enter Tryz.func75, Tryz.ntmps75
      go_wp2_with fail
      go_quiet (fail)
      go_wp2_with fail
      exact bodyPost_ret (v := .tuple #[.int .i64 ((n - 64) / 8), .int .i64 (n % 8), .bool false]) (by simp [results, Tryz.results75, go_sem]) rfl (CellRes.no HD.out (below_drewN (B0 _) _))

set_option maxRecDepth 10000 in
set_option maxHeartbeats 800000 in
theorem refCell_lo (fa : Option Addr) (L : List FrameD) (fc : Nat) (ev qv : Value) (e n right : Int) (w : World) (hl : L.length = 24) (hc : FramesAt w fa L) (h64 : n < 64) (hn : 0 ≤ n) (hr : right = 1 ∨ right = 2 ∨ right = 4)
    (hR : ∀ (i : Nat) (x : FrameD), L[i]? = some x → 0 ≤ x.rights ∧ x.rights ≤ 7) :
    Calls Tryz.prog 75 #[.agg #[.slice fa 24 fc, ev, qv], .int .i64 e, .int .i64 n, .int .i64 right] w (CellRes L e n right w) := by
  have HC := hid hc
  have HL := hid hl
  have HRR := hid hR
  clear hc hl hR
  have B0 : ∀ X, Below w.heap.size w (w.alloc X) := fun X => by go_grown
  have HF : Hid (cellOf L e n right = if placeF L e (n / 8) < 0 then none else match L[(placeF L e (n / 8)).toNat]? with
    | some x => if hasR x.rights right then some ((placeF L e (n / 8)).toNat, (n % 8).toNat) else none
    | none => none) := by show cellOf _ _ _ _ = _; rw [cellOf, if_neg (by omega)]; try rfl
  go_enter Tryz.func75, Tryz.ntmps75
  go_wp2_with fail
  refine (refPlace fa L 24 fc ev qv e (n / 8) _ HL.out (by omega) (HC.out.mono (B0 _))).mono ?_
  rintro x w1 ⟨rfl, hb1⟩
  have p0 : w1.cell? ⟨w.heap.size, 0, none⟩ = some (.slice fa 24 fc) := by rw [(bcell hb1).1 _ _ (by go_size)]; go_simp
  have B1 : Below w.heap.size w w1 := (B0 _).trans (hb1.mono (by go_size))
  clear hb1 B0
  have hP : placeF L e (n / 8) < 24 := by have := findI_lt (p := fitsB e (n / 8)) (l := L); rw [HL.out] at this; exact this
  generalize placeF L e (n / 8) = P at HF hP ⊢
  have hm : 0 ≤ n % 8 := by omega
  by_cases h0 : P < 0
  · have HD : Hid (cellOf L e n right = none) := by show _ = _; rw [HF.out, if_pos h0]
    clear HF
    go_wp2_with fail
    exact bodyPost_ret (v := .tuple #[.int .i64 0, .int .i64 0, .bool false]) (by simp [results, Tryz.results75, go_sem]) rfl (CellRes.no HD.out B1)
  · obtain ⟨i, rfl⟩ : ∃ i : Nat, P = i := ⟨P.toNat, by omega⟩
    obtain ⟨x, hx⟩ : ∃ x, L[i]? = some x := ⟨_, List.getElem?_eq_getElem (by rw [HL.out]; omega)⟩
    have HF2 : Hid (cellOf L e n right = if hasR x.rights right then some (i, (n % 8).toNat) else none) := by show _ = _; rw [HF.out, if_neg h0, Int.toNat_natCast, hx]
    obtain ⟨b, off, wa, wc, rfl, _, _, k2, _⟩ := HC.out _ x hx
    obtain ⟨hr0, hr7⟩ := HRR.out i x hx
    have l2 := cell_later B1 k2
    clear hx HF k2
    generalize x.rights = r at HF2 hr0 hr7 l2
    have hi24 : (i : Int) < 24 := by omega
    rcases hr with rfl | rfl | rfl
    · cases hB : (r % 2 == 1)
      all_goals
        have HV : Hid (hasR r 1 = (r % 2 == 1)) := by show hasR r 1 = _; simp [hasR]
        rw [HV.out, hB] at HF2
        go_wp2_with fail
        first
          | exact bodyPost_ret (v := .tuple #[.int .i64 i, .int .i64 (n % 8), .bool false]) (by simp [results, Tryz.results75, go_sem]) rfl (CellRes.no HF2.out B1)
          | exact bodyPost_ret (v := .tuple #[.int .i64 i, .int .i64 (n % 8), .bool true]) (by simp [results, Tryz.results75, go_sem]) rfl (CellRes.yes HF2.out rfl (by simp only; omega) B1)
    · cases hB : (r / 2 % 2 == 1)
      all_goals
        have HV : Hid (hasR r 2 = (r / 2 % 2 == 1)) := by show hasR r 2 = _; simp [hasR]
        rw [HV.out, hB] at HF2
        go_wp2_with fail
        first
          | exact bodyPost_ret (v := .tuple #[.int .i64 i, .int .i64 (n % 8), .bool false]) (by simp [results, Tryz.results75, go_sem]) rfl (CellRes.no HF2.out B1)
          | exact bodyPost_ret (v := .tuple #[.int .i64 i, .int .i64 (n % 8), .bool true]) (by simp [results, Tryz.results75, go_sem]) rfl (CellRes.yes HF2.out rfl (by simp only; omega) B1)
    · cases hB : (r / 4 == 1)
      all_goals
        have HV : Hid (hasR r 4 = (r / 4 == 1)) := by show hasR r 4 = _; simp only [hasR]; rw [if_neg (by decide), if_neg (by decide), show r / 4 % 2 = r / 4 by omega]
        rw [HV.out, hB] at HF2
        go_wp2_with fail
        first
          | exact bodyPost_ret (v := .tuple #[.int .i64 i, .int .i64 (n % 8), .bool false]) (by simp [results, Tryz.results75, go_sem]) rfl (CellRes.no HF2.out B1)
          | exact bodyPost_ret (v := .tuple #[.int .i64 i, .int .i64 (n % 8), .bool true]) (by simp [results, Tryz.results75, go_sem]) rfl (CellRes.yes HF2.out rfl (by simp only; omega) B1)

end Go.Proofs.YtklbbjionoeofaaGreatDoor

namespace Go.Proofs.YtklbbjionoeofaaGreatDoor
open Go.RowKit

def AtRes (F : List (FrameD × Value)) (e n right : Int) (w : World) (x : Ending) (w' : World) : Prop :=
  Below w.heap.size w w' ∧ ((cellOf (F.map Prod.fst) e n right = none ∧ x = .returned (.pointer none)) ∨
    ∃ (i k : Nat) (y : FrameD) (g c : Nat), cellOf (F.map Prod.fst) e n right = some (i, k) ∧ F[i]? = some (y, .slice (some ⟨g, 0, none⟩) 8 c) ∧ k < 8 ∧ x = .returned (.pointer (some ⟨g, k, none⟩)))

set_option maxRecDepth 10000 in
set_option maxHeartbeats 800000 in
theorem coreAt_hi (base cb mb f c1 : Nat) (ev qv : Value) (F : List (FrameD × Value)) (E : List EnclD) (Q : List QuoteD) (e n right : Int) (w : World) (hO : OwnMach base w (.slice (some ⟨f, 0, none⟩) 24 c1) ev qv F E Q) (hl : F.length = 24)
    (h8 : ∀ (i : Nat) (p : FrameD × Value), F[i]? = some p → p.1.words.length = 8) (k0 : w.cell? ⟨cb, 0, none⟩ = some (.pointer (some ⟨mb, 0, none⟩))) (m0 : w.cell? ⟨mb, 0, none⟩ = some (.slice (some ⟨f, 0, none⟩) 24 c1)) (h64 : 64 ≤ n) (hn : n ≤ 1000000) :
    Calls Tryz.prog 99 #[.pointer (some ⟨cb, 0, none⟩), .int .i64 n, .int .i64 right] w (AtRes F e n right w) := by
  have HO := hid hO
  have HL := hid hl
  have H8 := hid h8
  clear hO hl h8
  have HF : Hid (cellOf (F.map Prod.fst) e n right = if right = 4 then none else match (F.map Prod.fst)[((n - 64) / 8).toNat]? with
    | some x => if x.owner = 0 then some (((n - 64) / 8).toNat, (n % 8).toNat) else none
    | none => none) := by show cellOf _ _ _ _ = _; rw [cellOf, if_pos h64]; try rfl
  have q0 : 0 ≤ (n - 64) / 8 := by omega
  have hm : 0 ≤ n % 8 := by omega
  have hm8 : n % 8 < 8 := by omega
  by_cases h4 : right = 4
  · subst h4
    have HD : Hid (cellOf (F.map Prod.fst) e n 4 = none) := by show _ = _; rw [HF.out, if_pos rfl]
    clear HF
    go_enter Tryz.func99, Tryz.ntmps99
    go_wp2_with fail
    go_ret
    exact ⟨Below.refl _ _, .inl ⟨HD.out, rfl⟩⟩
  · have h4b : (right == 4) = false := by rw [beq_eq_false_iff_ne]; exact h4
    rw [if_neg h4] at HF
    clear h4
    by_cases hlt : (n - 64) / 8 < 24
    · obtain ⟨i, hi⟩ : ∃ i : Nat, (n - 64) / 8 = i := ⟨((n - 64) / 8).toNat, by omega⟩
      have hi24 : (i : Int) < 24 := by omega
      obtain ⟨⟨y, wv⟩, hy⟩ : ∃ p, F[i]? = some p := ⟨_, List.getElem?_eq_getElem (by rw [HL.out]; omega)⟩
      have hy8 := H8.out i _ hy
      simp only at hy8
      have o3 := (HO.out.f.sub i _ hy).1
      simp only [hy8] at o3
      obtain ⟨g, c, rfl, _, _⟩ := own_some o3 (by decide)
      obtain ⟨s0, _, _, s3, _⟩ := HO.out.frameAt hy
      simp only at s0 s3
      have HF2 : Hid (cellOf (F.map Prod.fst) e n right = if y.owner = 0 then some (i, (n % 8).toNat) else none) := by
        show _ = _
        rw [HF.out, hi, Int.toNat_natCast, List.getElem?_map, hy]
        rfl
      have HY := hid hy
      clear hy HF o3 hy8
      obtain ⟨k, hk⟩ : ∃ k : Nat, n % 8 = k := ⟨(n % 8).toNat, by omega⟩
      rw [hk, Int.toNat_natCast] at HF2
      by_cases ho : y.owner = 0
      · have hob : (y.owner != 0) = false := by simp [ho]
        have HD : Hid (cellOf (F.map Prod.fst) e n right = some (i, k)) := by show _ = _; rw [HF2.out, if_pos ho]
        have hk8 : k < 8 := by omega
        clear ho HF2
        go_enter Tryz.func99, Tryz.ntmps99
        go_wp2_with fail
        go_ret
        exact ⟨Below.refl _ _, .inr ⟨i, k, y, g, c, HD.out, HY.out, hk8, rfl⟩⟩
      · have hob : (y.owner != 0) = true := by simp [ho]
        have HD : Hid (cellOf (F.map Prod.fst) e n right = none) := by show _ = _; rw [HF2.out, if_neg ho]
        clear ho HF2
        go_enter Tryz.func99, Tryz.ntmps99
        go_wp2_with fail
        go_ret
        exact ⟨Below.refl _ _, .inl ⟨HD.out, rfl⟩⟩
    · have hlb : decide (24 ≤ (n - 64) / 8) = true := by rw [decide_eq_true_iff]; omega
      have HD : Hid (cellOf (F.map Prod.fst) e n right = none) := by show _ = _; rw [HF.out, List.getElem?_eq_none (by rw [List.length_map, HL.out]; omega)]
      clear HF
      go_enter Tryz.func99, Tryz.ntmps99
      go_wp2_with fail
      go_ret
      exact ⟨Below.refl _ _, .inl ⟨HD.out, rfl⟩⟩

set_option maxRecDepth 10000 in
set_option maxHeartbeats 800000 in
theorem coreAt_lo (base cb mb f c1 : Nat) (ev qv : Value) (F : List (FrameD × Value)) (E : List EnclD) (Q : List QuoteD) (e n right : Int) (w : World) (hO : OwnMach base w (.slice (some ⟨f, 0, none⟩) 24 c1) ev qv F E Q) (hl : F.length = 24)
    (h8 : ∀ (i : Nat) (p : FrameD × Value), F[i]? = some p → p.1.words.length = 8 ∧ 0 ≤ p.1.rights ∧ p.1.rights ≤ 7) (k0 : w.cell? ⟨cb, 0, none⟩ = some (.pointer (some ⟨mb, 0, none⟩))) (k1 : w.cell? ⟨cb, 1, none⟩ = some (.int .i64 e)) (m0 : w.cell? ⟨mb, 0, none⟩ = some (.slice (some ⟨f, 0, none⟩) 24 c1))
    (m1 : w.cell? ⟨mb, 1, none⟩ = some ev) (m2 : w.cell? ⟨mb, 2, none⟩ = some qv) (h64 : n < 64) (hn : 0 ≤ n) (hr : right = 1 ∨ right = 2 ∨ right = 4) :
    Calls Tryz.prog 99 #[.pointer (some ⟨cb, 0, none⟩), .int .i64 n, .int .i64 right] w (AtRes F e n right w) := by
  obtain ⟨ea, ec, rfl⟩ := own_slice hO.e
  obtain ⟨qa, qc, rfl⟩ := own_slice hO.q
  have HO := hid hO
  have HL := hid hl
  have H8 := hid h8
  have HR := hid hr
  obtain ⟨fa, fc, hfe, hFr⟩ := hO.f.frames
  obtain ⟨rfl, h24, rfl⟩ := Value.slice.inj hfe
  have HFr := hid hFr
  clear hO hl h8 hr hFr hfe h24
  have HF : Hid (cellOf (F.map Prod.fst) e n right = if placeF (F.map Prod.fst) e (n / 8) < 0 then none else match (F.map Prod.fst)[(placeF (F.map Prod.fst) e (n / 8)).toNat]? with
    | some x => if hasR x.rights right then some ((placeF (F.map Prod.fst) e (n / 8)).toNat, (n % 8).toNat) else none
    | none => none) := by show cellOf _ _ _ _ = _; rw [cellOf, if_neg (by omega)]; try rfl
  have hm : 0 ≤ n % 8 := by omega
  have hm8 : n % 8 < 8 := by omega
  go_enter Tryz.func99, Tryz.ntmps99
  go_wp2_with fail
  go_still_tail 12, (by kernel_rfl)
  change wpList _ _ _ _ _ w.drew
  go_wp2_with fail
  refine (epcPlace (some ⟨f, 0, none⟩) (F.map Prod.fst) 24 c1 _ _ e (n / 8) _ (by rw [List.length_map, HL.out]) (by omega) (HFr.out.mono (below_drew w))).mono ?_
  rintro x w1 ⟨rfl, hb1⟩
  have B1 : Below w.heap.size w w1 := (below_drew w).trans (hb1.mono (by go_size))
  have k0 := cell_later B1 k0
  have m0 := cell_later B1 m0
  have HO := hid (HO.out.below B1)
  have hP : placeF (F.map Prod.fst) e (n / 8) < 24 := by have := findI_lt (p := fitsB e (n / 8)) (l := F.map Prod.fst); rw [List.length_map, HL.out] at this; exact this
  clear hb1 HFr k1 m1 m2
  generalize placeF (F.map Prod.fst) e (n / 8) = P at HF hP ⊢
  by_cases h0 : P < 0
  · have HD : Hid (cellOf (F.map Prod.fst) e n right = none) := by show _ = _; rw [HF.out, if_pos h0]
    clear HF
    go_wp2_with fail
    go_ret
    exact ⟨B1, .inl ⟨HD.out, rfl⟩⟩
  · obtain ⟨i, rfl⟩ : ∃ i : Nat, P = i := ⟨P.toNat, by omega⟩
    obtain ⟨⟨y, wv⟩, hy⟩ : ∃ p, F[i]? = some p := ⟨_, List.getElem?_eq_getElem (by rw [HL.out]; omega)⟩
    obtain ⟨hy8, hr0, hr7⟩ := H8.out i _ hy
    simp only at hy8 hr0 hr7
    have o3 := (HO.out.f.sub i _ hy).1
    simp only [hy8] at o3
    obtain ⟨g, c, rfl, _, _⟩ := own_some o3 (by decide)
    obtain ⟨_, _, s2, s3, _⟩ := HO.out.frameAt hy
    simp only at s2 s3
    have HF2 : Hid (cellOf (F.map Prod.fst) e n right = if hasR y.rights right then some (i, (n % 8).toNat) else none) := by
      show _ = _
      rw [HF.out, if_neg h0, Int.toNat_natCast, List.getElem?_map, hy]
      rfl
    have HY := hid hy
    have hA := and_right y.rights right hr0 hr7 HR.out
    clear hy HF o3 hy8 hr0 hr7
    obtain ⟨k, hk⟩ : ∃ k : Nat, n % 8 = k := ⟨(n % 8).toNat, by omega⟩
    rw [hk, Int.toNat_natCast] at HF2
    have hi24 : (i : Int) < 24 := by omega
    have h0b : decide ((i : Int) < 0) = false := by rw [decide_eq_false_iff_not]; exact h0
    cases hB : hasR y.rights right
    · have HD : Hid (cellOf (F.map Prod.fst) e n right = none) := by show _ = _; rw [HF2.out, hB]; rfl
      have hA2 : (bits .and .i64 y.rights right == 0) = true := by rw [hA, hB]; rfl
      clear HF2 hA
      go_wp2_with fail
      go_ret
      exact ⟨B1, .inl ⟨HD.out, rfl⟩⟩
    · have HD : Hid (cellOf (F.map Prod.fst) e n right = some (i, k)) := by show _ = _; rw [HF2.out, hB]; rfl
      have hA2 : (bits .and .i64 y.rights right == 0) = false := by rw [hA, hB]; rfl
      have hk8 : k < 8 := by omega
      clear HF2 hA
      go_wp2_with fail
      go_ret
      exact ⟨B1, .inr ⟨i, k, y, g, c, HD.out, HY.out, hk8, rfl⟩⟩

end Go.Proofs.YtklbbjionoeofaaGreatDoor

namespace Go.Proofs.YtklbbjionoeofaaGreatDoor
open Go.RowKit

/-- A block that the machine does not own. -/
structure Off (fv ev qv : Value) (F : List (FrameD × Value)) (b : Nat) : Prop where
  f : NotAt fv b
  e : NotAt ev b
  q : NotAt qv b
  w : ∀ (i : Nat) (p : FrameD × Value), F[i]? = some p → NotAt p.2 b

theorem Off.set {fv ev qv : Value} {F : List (FrameD × Value)} {b i : Nat} {x : FrameD} {wv : Value} (h : Off fv ev qv F b) (hw : NotAt wv b) : Off fv ev qv (F.set i (x, wv)) b :=
  ⟨h.f, h.e, h.q, fun k p hp => by
    by_cases hk : i = k
    · subst hk
      have hl : i < (F.set i (x, wv)).length := (List.getElem?_eq_some_iff.1 hp).1
      rw [List.length_set] at hl
      rw [List.getElem?_set_self hl] at hp
      cases hp
      exact hw
    · rw [List.getElem?_set_ne hk] at hp
      exact h.w k p hp⟩

/-- The machine in the box mb, the registers from ro on in the box rb; nothing else below base is touched. -/
structure St (W0 : World) (lo base mb rb ro : Nat) (C : CoreD) (E : List EnclD) (F : List (FrameD × Value)) (fv ev qv : Value) (W : World) : Prop where
  own : OwnMach base W fv ev qv F E C.Q
  hF : F.map Prod.fst = C.F
  m0 : W.cell? ⟨mb, 0, none⟩ = some fv
  m1 : W.cell? ⟨mb, 1, none⟩ = some ev
  m2 : W.cell? ⟨mb, 2, none⟩ = some qv
  mz : ∀ o, W.frozen? ⟨mb, o, none⟩ = false
  kr : ∀ (j : Nat) (n : Int), C.R[j]? = some n → W.cell? ⟨rb, ro + j, none⟩ = some (.int .i64 n)
  rz : ∀ o, W.frozen? ⟨rb, o, none⟩ = false
  om : Off fv ev qv F mb
  od : Off fv ev qv F rb
  ne : mb ≠ rb
  hm : mb < W.heap.size
  hr : rb < W.heap.size
  lm : lo ≤ mb
  lr : lo ≤ rb
  lb : lo ≤ base
  below : Below lo W0 W
  hb : base ≤ W0.heap.size
  keep : ∀ b o, b < base → b ≠ mb → b ≠ rb → W.cell? ⟨b, o, none⟩ = W0.cell? ⟨b, o, none⟩ ∧ W.frozen? ⟨b, o, none⟩ = W0.frozen? ⟨b, o, none⟩

/-- What a write in another block leaves. -/
theorem set_far {W : World} {a : Addr} {u : Value} {b o : Nat} (h : b ≠ a.block) : (W.setCell a u).cell? ⟨b, o, none⟩ = W.cell? ⟨b, o, none⟩ := World.cell?_setCell_other W a ⟨b, o, none⟩ u (fun e => h (by rw [e]))
theorem set_frozen {W : World} {a : Addr} {u : Value} {b o : Nat} : (W.setCell a u).frozen? ⟨b, o, none⟩ = W.frozen? ⟨b, o, none⟩ := by simp [go_sem]

theorem grown_far {W W' : World} {row : Option Nat} (hg : W.grownBy W' row) {b o : Nat} (hb : b < W.heap.size) (hn : some b ≠ row) : W'.cell? ⟨b, o, none⟩ = W.cell? ⟨b, o, none⟩ := World.cell?_of_block (a := ⟨b, o, none⟩) (hg.block b hb hn)
section
variable {W0 W W' : World} {lo base mb rb ro : Nat} {C : CoreD} {E : List EnclD} {F : List (FrameD × Value)} {fv ev qv : Value}
theorem St.later (h : St W0 lo base mb rb ro C E F fv ev qv W) (hb : Below W.heap.size W W') : St W0 lo base mb rb ro C E F fv ev qv W' := by
  have h1 := h.below.size
  have h2 := h.hm
  have h3 := h.hr
  have h4 := h.hb
  have h5 := h.lb
  have h6 := hb.size
  have fz : ∀ b o, b < W.heap.size → W'.frozen? ⟨b, o, none⟩ = W.frozen? ⟨b, o, none⟩ := (bcell hb).2
  exact ⟨h.own.below hb, h.hF, cell_later hb h.m0, cell_later hb h.m1, cell_later hb h.m2, fun o => by rw [fz _ _ h2]; exact h.mz o, fun j n hj => cell_later hb (h.kr j n hj), fun o => by rw [fz _ _ h3]; exact h.rz o, h.om, h.od, h.ne, by omega, by omega, h.lm, h.lr, h.lb,
    h.below.trans (hb.mono (by omega)), h4, fun b o hl h7 h8 => by rw [(bcell hb).1 _ _ (by omega), fz _ _ (by omega)]; exact h.keep b o hl h7 h8⟩

/-- A register is written. -/
theorem St.setR (h : St W0 lo base mb rb ro C E F fv ev qv W) {i : Nat} {o : Nat} (ho : o = ro + i) (n : Int) : St W0 lo base mb rb ro { C with R := C.R.set i n } E F fv ev qv (W.setCell ⟨rb, o, none⟩ (.int .i64 n)) := by
  subst ho
  have hne := h.ne
  have hs : (W.setCell ⟨rb, ro + i, none⟩ (.int .i64 n)).heap.size = W.heap.size := by simp
  refine ⟨h.own.setCell h.od.f h.od.e h.od.q h.od.w _, h.hF, by rw [set_far hne]; exact h.m0, by rw [set_far hne]; exact h.m1, by rw [set_far hne]; exact h.m2, fun o => by rw [set_frozen]; exact h.mz o, fun j m hj => ?_, fun o => by rw [set_frozen]; exact h.rz o, h.om, h.od, h.ne, by rw [hs]; exact h.hm, by rw [hs]; exact h.hr, h.lm, h.lr, h.lb,
    below_at h.below h.lr _ _, h.hb, fun b o hl h7 h8 => by rw [set_far h8, set_frozen]; exact h.keep b o hl h7 h8⟩
  simp only at hj
  by_cases hij : i = j
  · subst hij
    have hl : i < (C.R.set i n).length := (List.getElem?_eq_some_iff.1 hj).1
    rw [List.length_set] at hl
    rw [List.getElem?_set_self hl] at hj
    cases hj
    have k := h.kr i _ (List.getElem?_eq_getElem hl)
    go_simp
  · rw [List.getElem?_set_ne hij] at hj
    have k := h.kr j m hj
    have e2 : ro + i ≠ ro + j := by omega
    rw [← k]
    exact World.cell?_setCell_other W _ _ _ (fun e => e2 (Addr.mk.inj e).2.1)

/-- Another cell of the registers' box is written. -/
theorem St.setAt (h : St W0 lo base mb rb ro C E F fv ev qv W) {o : Nat} (ho : o < ro) (u : Value) (p : Int) : St W0 lo base mb rb ro { C with pc := p } E F fv ev qv (W.setCell ⟨rb, o, none⟩ u) := by
  have hne := h.ne
  have hs : (W.setCell ⟨rb, o, none⟩ u).heap.size = W.heap.size := by simp
  exact ⟨h.own.setCell h.od.f h.od.e h.od.q h.od.w _, h.hF, by rw [set_far hne]; exact h.m0, by rw [set_far hne]; exact h.m1, by rw [set_far hne]; exact h.m2, fun o => by rw [set_frozen]; exact h.mz o,
    fun j m hj => (World.cell?_setCell_other W _ _ _ (fun e => by have := (Addr.mk.inj e).2.1; omega)).trans (h.kr j m hj), fun o => by rw [set_frozen]; exact h.rz o, h.om, h.od, h.ne, by rw [hs]; exact h.hm, by rw [hs]; exact h.hr, h.lm, h.lr, h.lb,
    below_at h.below h.lr _ _, h.hb, fun b o hl h7 h8 => by rw [set_far h8, set_frozen]; exact h.keep b o hl h7 h8⟩

/-- One write into what the machine owns. -/
theorem St.set1 {F' : List (FrameD × Value)} {E' : List EnclD} {C' : CoreD} (h : St W0 lo base mb rb ro C E F fv ev qv W) {g o : Nat} {u : Value} (hg : base ≤ g) (hgm : g ≠ mb) (hgr : g ≠ rb) (hO : OwnMach base (W.setCell ⟨g, o, none⟩ u) fv ev qv F' E' C'.Q) (hF : F'.map Prod.fst = C'.F) (hR : C'.R = C.R)
    (om : Off fv ev qv F' mb) (od : Off fv ev qv F' rb) : St W0 lo base mb rb ro C' E' F' fv ev qv (W.setCell ⟨g, o, none⟩ u) := by
  have n1 : mb ≠ g := fun e => hgm e.symm
  have n2 : rb ≠ g := fun e => hgr e.symm
  have hs : (W.setCell ⟨g, o, none⟩ u).heap.size = W.heap.size := by simp
  have hlb := h.lb
  exact ⟨hO, hF, by rw [set_far n1]; exact h.m0, by rw [set_far n1]; exact h.m1, by rw [set_far n1]; exact h.m2, fun o => by rw [set_frozen]; exact h.mz o, fun j m hj => by rw [set_far n2]; exact h.kr j m (hR ▸ hj), fun o => by rw [set_frozen]; exact h.rz o, om, od, h.ne, by rw [hs]; exact h.hm, by rw [hs]; exact h.hr, h.lm, h.lr, h.lb,
    below_at h.below (by omega) _ _, h.hb, fun b o hl h7 h8 => by rw [set_far (by simp only [ne_eq]; omega), set_frozen]; exact h.keep b o hl h7 h8⟩

/-- A word of a frame is written. -/
theorem St.setW (h : St W0 lo base mb rb ro C E F fv ev qv W) {g c i k : Nat} {x : FrameD} {n : Int} (hm : x.words.length = 8) (hx : F[i]? = some (x, .slice (some ⟨g, 0, none⟩) 8 c)) :
    St W0 lo base mb rb ro { C with F := setWord C.F (i, k) n } E (F.set i ({ x with words := x.words.set k n }, .slice (some ⟨g, 0, none⟩) 8 c)) fv ev qv (W.setCell ⟨g, k, none⟩ (.int .i64 n)) := by
  have hw := (h.own.f.sub i _ hx).1
  have hg := (hw.lt g rfl).1
  refine h.set1 hg (h.om.w i _ hx g rfl) (h.od.w i _ hx g rfl) (h.own.setW hm hx) ?_ rfl (h.om.set (h.om.w i _ hx)) (h.od.set (h.od.w i _ hx))
  have hx2 : C.F[i]? = some x := by rw [← h.hF, List.getElem?_map, hx]; rfl
  rw [map_set_fst, h.hF]
  simp only [setWord]
  rw [upd_some hx2]

/-- One cell of an enclave is written. -/
theorem St.setE {g m c i j : Nat} {x x' : EnclD} {u : Value} (h : St W0 lo base mb rb ro C E F fv (.slice (some ⟨g, 0, none⟩) m c) qv W) (hm : E.length = m) (hx : E[i]? = some x) (hj : j < 7) (hu : x'.cs = x.cs.set j u) :
    St W0 lo base mb rb ro C (E.set i x') F fv (.slice (some ⟨g, 0, none⟩) m c) qv (W.setCell ⟨g, i * 7 + j, none⟩ u) :=
  h.set1 (h.own.e.lt g rfl).1 (h.om.e g rfl) (h.od.e g rfl) (h.own.setE hm hx hj hu) h.hF rfl h.om h.od
theorem St.setEncl {g m c i : Nat} {x : EnclD} (h : St W0 lo base mb rb ro C E F fv (.slice (some ⟨g, 0, none⟩) m c) qv W) (hm : E.length = m) (hx : E[i]? = some x) (y : EnclD) :
    St W0 lo base mb rb ro C (E.set i y) F fv (.slice (some ⟨g, 0, none⟩) m c) qv (((((((W.setCell ⟨g, i * 7, none⟩ (.int .i64 y.state)).setCell ⟨g, i * 7 + 1, none⟩ (.string y.log)).setCell ⟨g, i * 7 + 2, none⟩ (.int .i64 y.pc)).setCell ⟨g, i * 7 + 3, none⟩ (.int .i64 y.r0)).setCell ⟨g, i * 7 + 4, none⟩ (.int .i64 y.r1)).setCell ⟨g, i * 7 + 5, none⟩ (.int .i64 y.r2)).setCell ⟨g, i * 7 + 6, none⟩ (.int .i64 y.r3)) := by
  subst hm
  have hi : i < E.length := (List.getElem?_eq_some_iff.1 hx).1
  have step : ∀ {W : World} {x' : EnclD} (j : Nat) (u : Value) (x'' : EnclD), St W0 lo base mb rb ro C (E.set i x') F fv (.slice (some ⟨g, 0, none⟩) E.length c) qv W → j < 7 → x''.cs = x'.cs.set j u → St W0 lo base mb rb ro C (E.set i x'') F fv (.slice (some ⟨g, 0, none⟩) E.length c) qv (W.setCell ⟨g, i * 7 + j, none⟩ u) := fun {W x'} j u x'' h hj hu => by
    have := h.setE (i := i) (j := j) (x := x') (x' := x'') (u := u) (by simp) (by rw [List.getElem?_set_self hi]) hj hu
    rwa [List.set_set] at this
  have h0 : St W0 lo base mb rb ro C (E.set i x) F fv (.slice (some ⟨g, 0, none⟩) E.length c) qv W := by rw [set_self hx]; exact h
  have h1 := step 0 (.int .i64 y.state) ⟨y.state, x.log, x.pc, x.r0, x.r1, x.r2, x.r3⟩ h0 (by decide) rfl
  have h2 := step 1 (.string y.log) ⟨y.state, y.log, x.pc, x.r0, x.r1, x.r2, x.r3⟩ h1 (by decide) rfl
  have h3 := step 2 (.int .i64 y.pc) ⟨y.state, y.log, y.pc, x.r0, x.r1, x.r2, x.r3⟩ h2 (by decide) rfl
  have h4 := step 3 (.int .i64 y.r0) ⟨y.state, y.log, y.pc, y.r0, x.r1, x.r2, x.r3⟩ h3 (by decide) rfl
  have h5 := step 4 (.int .i64 y.r1) ⟨y.state, y.log, y.pc, y.r0, y.r1, x.r2, x.r3⟩ h4 (by decide) rfl
  have h6 := step 5 (.int .i64 y.r2) ⟨y.state, y.log, y.pc, y.r0, y.r1, y.r2, x.r3⟩ h5 (by decide) rfl
  exact step 6 (.int .i64 y.r3) y h6 (by decide) rfl

/-- A quote is appended, and the box told of it. -/
theorem OwnRows.kept {fc : FrameD × Value → List Value} {ws : FrameD → List Int} {T k : Nat} {ov v : Value} (h : OwnRows fc ws T k base W ov F) (hg : W.grownBy W' v.ownBlock) (ho : Apart ov v) (hw : ∀ (i : Nat) (p : FrameD × Value), F[i]? = some p → Apart p.2 v) : OwnRows fc ws T k base W' ov F := by
  have hk : ∀ {u : Value} {e s m : Nat} {xs : List Value}, W.ownsRow base e s u m xs → Apart u v → W'.ownsRow base e s u m xs := fun {u e s m xs} hu ha => hu.kept hg (by
    cases hvb : u.ownBlock with
    | none => exact .inl rfl
    | some b => exact .inr fun e => ha b hvb e.symm)
  exact ⟨hk h.row ho, fun i p hp => ⟨hk (h.sub i p hp).1 (hw i p hp), (h.sub i p hp).2⟩, h.dis⟩
theorem OwnMach.pushQ {Q : List QuoteD} (h : OwnMach base W fv ev qv F E Q) (q : QuoteD) {g n cap : Nat} (hrow : W'.ownsRow base 71 2 (.slice (some ⟨g, 0, none⟩) n cap) n (Q.flatMap QuoteD.cs ++ q.cs)) (hn : n = Q.length + 1) (hg : W.grownBy W' qv.ownBlock) (hat : qv.ownBlock = some g ∨ g = W.heap.size) :
    OwnMach base W' fv ev (.slice (some ⟨g, 0, none⟩) n cap) F E (Q ++ [q]) := by
  subst hn
  have hne : ∀ {u : Value} {e s m : Nat} {xs : List Value}, W.ownsRow base e s u m xs → Apart u qv → Apart u (.slice (some ⟨g, 0, none⟩) (Q.length + 1) cap) := fun hu ha k hk hk' => by
    simp only [Value.ownBlock, Option.some.injEq] at hk'
    subst hk'
    rcases hat with e | e
    · exact ha g hk e
    · have := (hu.lt g hk).2
      omega
  have hk : W'.ownsRow base 77 7 ev E.length (E.flatMap EnclD.cs) := h.e.kept hg (by
    cases hvb : ev.ownBlock with
    | none => exact .inl rfl
    | some b => exact .inr fun e => h.eq b hvb e.symm)
  refine ⟨h.f.kept hg h.fq h.wq, hk, ?_, h.fe, hne h.f.row h.fq, hne h.e h.eq, h.we, fun i p hp => hne (h.f.sub i p hp).1 (h.wq i p hp)⟩
  rw [List.length_append, List.flatMap_append]
  simpa using hrow
theorem St.pushQ (h : St W0 lo base mb rb ro C E F fv ev qv W) (q : QuoteD) {g n cap : Nat} (hrow : W'.ownsRow base 71 2 (.slice (some ⟨g, 0, none⟩) n cap) n (C.Q.flatMap QuoteD.cs ++ q.cs)) (hn : n = C.Q.length + 1) (hg : W.grownBy W' qv.ownBlock) (hat : qv.ownBlock = some g ∨ g = W.heap.size) :
    St W0 lo base mb rb ro { C with Q := C.Q ++ [q] } E F fv ev (.slice (some ⟨g, 0, none⟩) n cap) (W'.setCell ⟨mb, 2, none⟩ (.slice (some ⟨g, 0, none⟩) n cap)) := by
  have hO := h.own.pushQ q hrow hn hg hat
  have hgs := hg.size
  have h1 := h.hm
  have h2 := h.hr
  have h3 := h.hb
  have h4 := h.below.size
  have h5 := h.lb
  have hgm : ∀ b, NotAt qv b → b < W.heap.size → NotAt (.slice (some ⟨g, 0, none⟩) n cap) b := fun b hq hb k hk => by
    simp only [Value.ownBlock, Option.some.injEq] at hk
    subst hk
    rcases hat with e | e
    · exact hq g e
    · omega
  have om : Off fv ev (.slice (some ⟨g, 0, none⟩) n cap) F mb := ⟨h.om.f, h.om.e, hgm _ h.om.q h1, h.om.w⟩
  have od : Off fv ev (.slice (some ⟨g, 0, none⟩) n cap) F rb := ⟨h.od.f, h.od.e, hgm _ h.od.q h2, h.od.w⟩
  have no : ∀ b, NotAt qv b → some b ≠ qv.ownBlock := fun b hq e => hq b e.symm rfl
  have hqb : ∀ k, qv.ownBlock = some k → base ≤ k := fun k hk => (h.own.q.lt k hk).1
  have s1 : (W'.setCell ⟨mb, 2, none⟩ (.slice (some ⟨g, 0, none⟩) n cap)).heap.size = W'.heap.size := by simp
  have n1 : rb ≠ mb := fun e => h.ne e.symm
  have c0 := hg.cell h.m0 (no _ h.om.q)
  have c1 := hg.cell h.m1 (no _ h.om.q)
  have c2 := hg.cell h.m2 (no _ h.om.q)
  refine ⟨hO.setCell om.f om.e om.q om.w _, h.hF, by go_simp, by go_simp, by go_simp, fun o => ?_, fun j m hj => ?_, fun o => ?_, om, od, h.ne, by rw [s1]; omega, by rw [s1]; omega, h.lm, h.lr, h.lb,
    below_at (h.below.grown hg (by omega) (fun k hk => by have := hqb k hk; omega)) h.lm _ _, h.hb, fun b o hl h7 h8 => ?_⟩
  · rw [set_frozen, hg.frozen_far ⟨mb, o, none⟩ h1 (no _ h.om.q)]; exact h.mz o
  · rw [set_far n1]; exact hg.cell (h.kr j m hj) (no _ h.od.q)
  · rw [set_frozen, hg.frozen_far ⟨rb, o, none⟩ h2 (no _ h.od.q)]; exact h.rz o
  · have nb : some b ≠ qv.ownBlock := fun e => by have := hqb b e.symm; omega
    rw [set_far h7, set_frozen, hg.frozen_far ⟨b, o, none⟩ (by simp only; omega) nb, grown_far hg (by omega) nb]
    exact h.keep b o hl h7 h8
end

/-- run's core in memory. -/
structure Co (W0 : World) (lo base mb cb : Nat) (e : Int) (C : CoreD) (E : List EnclD) (F : List (FrameD × Value)) (fv ev qv : Value) (W : World) : Prop where
  st : St W0 lo base mb cb 3 C E F fv ev qv W
  k0 : W.cell? ⟨cb, 0, none⟩ = some (.pointer (some ⟨mb, 0, none⟩))
  k1 : W.cell? ⟨cb, 1, none⟩ = some (.int .i64 e)
  k2 : W.cell? ⟨cb, 2, none⟩ = some (.int .i64 C.pc)
section
variable {W0 W W' : World} {lo base mb cb : Nat} {e : Int} {C : CoreD} {E : List EnclD} {F : List (FrameD × Value)} {fv ev qv : Value}
theorem cell_off {W : World} {b o o' : Nat} {u v : Value} (h : W.cell? ⟨b, o, none⟩ = some v) (ho : o ≠ o') : (W.setCell ⟨b, o', none⟩ u).cell? ⟨b, o, none⟩ = some v := (World.cell?_setCell_other W _ _ _ (fun e => ho (Addr.mk.inj e).2.1.symm)).trans h
theorem Co.later (h : Co W0 lo base mb cb e C E F fv ev qv W) (hb : Below W.heap.size W W') : Co W0 lo base mb cb e C E F fv ev qv W' :=
  ⟨h.st.later hb, cell_later hb h.k0, cell_later hb h.k1, cell_later hb h.k2⟩
theorem Co.setR (h : Co W0 lo base mb cb e C E F fv ev qv W) {i o : Nat} (ho : o = 3 + i) (n : Int) : Co W0 lo base mb cb e { C with R := C.R.set i n } E F fv ev qv (W.setCell ⟨cb, o, none⟩ (.int .i64 n)) :=
  ⟨h.st.setR ho n, cell_off h.k0 (by omega), cell_off h.k1 (by omega), cell_off h.k2 (by omega)⟩
theorem Co.setPc (h : Co W0 lo base mb cb e C E F fv ev qv W) (n : Int) : Co W0 lo base mb cb e { C with pc := n } E F fv ev qv (W.setCell ⟨cb, 2, none⟩ (.int .i64 n)) :=
  ⟨h.st.setAt (by decide) _ n, cell_off h.k0 (by decide), cell_off h.k1 (by decide), World.cell?_setCell_same W _ _ h.k2⟩
theorem Co.setW (h : Co W0 lo base mb cb e C E F fv ev qv W) {g c i k : Nat} {x : FrameD} {n : Int} (hm : x.words.length = 8) (hx : F[i]? = some (x, .slice (some ⟨g, 0, none⟩) 8 c)) :
    Co W0 lo base mb cb e { C with F := setWord C.F (i, k) n } E (F.set i ({ x with words := x.words.set k n }, .slice (some ⟨g, 0, none⟩) 8 c)) fv ev qv (W.setCell ⟨g, k, none⟩ (.int .i64 n)) := by
  have hn : cb ≠ g := fun e => h.st.od.w i _ hx g rfl e.symm
  exact ⟨h.st.setW hm hx, by rw [set_far hn]; exact h.k0, by rw [set_far hn]; exact h.k1, by rw [set_far hn]; exact h.k2⟩
theorem Co.pushQ (h : Co W0 lo base mb cb e C E F fv ev qv W) (q : QuoteD) {g n cap : Nat} (hrow : W'.ownsRow base 71 2 (.slice (some ⟨g, 0, none⟩) n cap) n (C.Q.flatMap QuoteD.cs ++ q.cs)) (hn : n = C.Q.length + 1) (hg : W.grownBy W' qv.ownBlock) (hat : qv.ownBlock = some g ∨ g = W.heap.size) :
    Co W0 lo base mb cb e { C with Q := C.Q ++ [q] } E F fv ev (.slice (some ⟨g, 0, none⟩) n cap) (W'.setCell ⟨mb, 2, none⟩ (.slice (some ⟨g, 0, none⟩) n cap)) := by
  have hq : some cb ≠ qv.ownBlock := fun e => h.st.od.q cb e.symm rfl
  have hne : cb ≠ mb := fun e => h.st.ne e.symm
  exact ⟨h.st.pushQ q hrow hn hg hat, by rw [set_far hne]; exact hg.cell h.k0 hq, by rw [set_far hne]; exact hg.cell h.k1 hq, by rw [set_far hne]; exact hg.cell h.k2 hq⟩
theorem St.frames (h : St W0 lo base mb cb 3 C E F fv ev qv W) (hl : C.F.length = 24) : F.length = 24 := by rw [← h.hF, List.length_map] at hl; exact hl

/-- core.at: the word at an address, or nil. -/
theorem coreAt (h : Co W0 lo base mb cb e C E F fv ev qv W) (hc : CoreOk C) (n right : Int) (hn : 0 ≤ n) (hh : n ≤ 1000000) (hr : right = 1 ∨ right = 2 ∨ right = 4) : Calls Tryz.prog 99 #[.pointer (some ⟨cb, 0, none⟩), .int .i64 n, .int .i64 right] W fun x w' => Below W.heap.size W w' ∧
    ((cellOf C.F e n right = none ∧ x = .returned (.pointer none)) ∨ ∃ (i k : Nat) (y : FrameD) (g c : Nat) (v : Int), cellOf C.F e n right = some (i, k) ∧ F[i]? = some (y, .slice (some ⟨g, 0, none⟩) 8 c) ∧ y.words.length = 8 ∧ y.words[k]? = some v ∧ wordAt C.F (i, k) = v ∧ 0 ≤ v ∧ v ≤ 65535 ∧ W.cell? ⟨g, k, none⟩ = some (.int .i64 v) ∧ (∀ o, W.frozen? ⟨g, o, none⟩ = false) ∧ g < W.heap.size ∧ g ≠ cb ∧ x = .returned (.pointer (some ⟨g, k, none⟩))) := by
  have hl := h.st.frames hc.len
  have h8 : ∀ (i : Nat) (p : FrameD × Value), F[i]? = some p → C.F[i]? = some p.1 := fun i p hp => by rw [← h.st.hF, List.getElem?_map, hp]; rfl
  have o1 := h.st.own.f.row
  rw [hl] at o1
  obtain ⟨f, c1, hfv, _, _⟩ := own_some o1 (by decide)
  have hO := h.st.own
  have m0 := h.st.m0
  rw [hfv] at hO m0
  have hR : Calls Tryz.prog 99 #[.pointer (some ⟨cb, 0, none⟩), .int .i64 n, .int .i64 right] W (AtRes F e n right W) := by
    by_cases h64 : 64 ≤ n
    · exact coreAt_hi base cb mb f c1 ev qv F E C.Q e n right W hO hl (fun i p hp => (hc.fr i _ (h8 i p hp)).1) h.k0 m0 h64 hh
    · exact coreAt_lo base cb mb f c1 ev qv F E C.Q e n right W hO hl (fun i p hp => ⟨(hc.fr i _ (h8 i p hp)).1, (hc.fr i _ (h8 i p hp)).2.2.1, (hc.fr i _ (h8 i p hp)).2.2.2.1⟩) h.k0 h.k1 m0 h.st.m1 h.st.m2 (by omega) hn hr
  refine hR.mono ?_
  rintro x w' ⟨hb, hx⟩
  rw [h.st.hF] at hx
  refine ⟨hb, ?_⟩
  rcases hx with hx | ⟨i, k, y, g, c, hcell, hF, hk, rfl⟩
  · exact .inl hx
  · obtain ⟨hy8, hyw, _⟩ := hc.fr i y (h8 i _ hF)
    obtain ⟨v, hv⟩ : ∃ v, y.words[k]? = some v := ⟨_, List.getElem?_eq_getElem (by omega)⟩
    obtain ⟨kc, kz⟩ := h.st.own.wordAt hF hv
    obtain ⟨hv0, hv1⟩ := hyw k v hv
    refine .inr ⟨i, k, y, g, c, v, hcell, hF, hy8, hv, ?_, hv0, hv1, kc, kz, ((h.st.own.f.sub i _ hF).1.lt g rfl).2, h.st.od.w i _ hF g rfl, rfl⟩
    simp [wordAt, h8 i _ hF, hv]
end

end Go.Proofs.YtklbbjionoeofaaGreatDoor

namespace Go.Proofs.YtklbbjionoeofaaGreatDoor
open Go.RowKit

def opM (e : Int) (g : ByteArray) (c : CoreD) (x n : Int) : Option (CoreD × Option Int) :=
  let ai := (x / 16 % 4).toNat
  let a := (c.R[ai]?).getD 0
  let b := (c.R[(x / 256 % 4).toNat]?).getD 0
  let d : CoreD := { c with pc := c.pc + 2 }
  if x % 16 = 1 then some ({ d with R := c.R.set ai n }, none)
  else if x % 16 = 2 then some ({ d with R := c.R.set ai ((a + b) % 65536) }, none)
  else if x % 16 = 3 then some ({ d with R := c.R.set ai (bits .xor .i64 a b) }, none)
  else if x % 16 = 4 then some ({ d with R := c.R.set ai (if a < b then 1 else 0) }, none)
  else if x % 16 = 5 then match cellOf c.F e b 1 with
    | some w => some ({ d with R := c.R.set ai (wordAt c.F w) }, none)
    | none => none
  else if x % 16 = 6 then match cellOf c.F e b 2 with
    | some w => some ({ d with F := setWord c.F w a }, none)
    | none => none
  else if x % 16 = 7 then some (if a = 0 then { d with pc := n } else d, none)
  else if x % 16 = 8 then some (d, some a)
  else if x % 16 = 9 then (if c.Q.length = 40 then none else some ({ d with Q := c.Q ++ [⟨g, a⟩] }, none))
  else none
theorem stepM_at {e : Int} {g : ByteArray} {c : CoreD} {i k : Nat × Nat} (hi : cellOf c.F e c.pc 4 = some i) (hk : cellOf c.F e (c.pc + 1) 4 = some k) : stepM e g c = opM e g c (wordAt c.F i) (wordAt c.F k) := by
  simp only [stepM, hi, hk]
  rfl
theorem stepM_no1 {e : Int} {g : ByteArray} {c : CoreD} (hi : cellOf c.F e c.pc 4 = none) : stepM e g c = none := by
  simp only [stepM, hi]
theorem stepM_no2 {e : Int} {g : ByteArray} {c : CoreD} (hk : cellOf c.F e (c.pc + 1) 4 = none) : stepM e g c = none := by
  simp only [stepM, hk]
  split <;> first | rfl | (rename_i h; cases h)
section
variable {e : Int} {g : ByteArray} {c : CoreD} {x n a b : Int} {ai bi : Nat} (ha : x / 16 % 4 = ai) (hb : x / 256 % 4 = bi) (hav : c.R[ai]? = some a) (hbv : c.R[bi]? = some b)
include ha
theorem opM_1 (h : x % 16 = 1) : opM e g c x n = some ({ c with pc := c.pc + 2, R := c.R.set ai n }, none) := by
  simp [opM, h, ha]
include hav
theorem opM_7 (h : x % 16 = 7) : opM e g c x n = some (if a = 0 then { c with pc := n } else { c with pc := c.pc + 2 }, none) := by
  simp [opM, h, ha, hav]
theorem opM_8 (h : x % 16 = 8) : opM e g c x n = some ({ c with pc := c.pc + 2 }, some a) := by
  simp [opM, h, ha, hav]
theorem opM_9 (h : x % 16 = 9) : opM e g c x n = if c.Q.length = 40 then none else some ({ c with pc := c.pc + 2, Q := c.Q ++ [⟨g, a⟩] }, none) := by
  simp [opM, h, ha, hav]
include hb hbv
theorem opM_2 (h : x % 16 = 2) : opM e g c x n = some ({ c with pc := c.pc + 2, R := c.R.set ai ((a + b) % 65536) }, none) := by
  simp [opM, h, ha, hb, hav, hbv]
theorem opM_3 (h : x % 16 = 3) : opM e g c x n = some ({ c with pc := c.pc + 2, R := c.R.set ai (bits .xor .i64 a b) }, none) := by
  simp [opM, h, ha, hb, hav, hbv]
theorem opM_4 (h : x % 16 = 4) : opM e g c x n = some ({ c with pc := c.pc + 2, R := c.R.set ai (if a < b then 1 else 0) }, none) := by
  simp [opM, h, ha, hb, hav, hbv]
theorem opM_6 (h : x % 16 = 6) : opM e g c x n = match cellOf c.F e b 2 with
    | some w => some ({ c with pc := c.pc + 2, F := setWord c.F w a }, none)
    | none => none := by
  simp [opM, h, ha, hb, hav, hbv]
omit hav
theorem opM_5 (h : x % 16 = 5) : opM e g c x n = match cellOf c.F e b 1 with
    | some w => some ({ c with pc := c.pc + 2, R := c.R.set ai (wordAt c.F w) }, none)
    | none => none := by
  simp [opM, h, ha, hb, hbv]
end
theorem opM_0 {e : Int} {g : ByteArray} {c : CoreD} {x n : Int} (h : ¬ (1 ≤ x % 16 ∧ x % 16 ≤ 9)) : opM e g c x n = none := by
  unfold opM
  simp only
  rw [if_neg (by omega), if_neg (by omega), if_neg (by omega), if_neg (by omega), if_neg (by omega), if_neg (by omega), if_neg (by omega), if_neg (by omega), if_neg (by omega)]

/-- A block beside the machine and the registers is written. -/
theorem St.setFar {W0 W : World} {lo base mb rb ro : Nat} {C : CoreD} {E : List EnclD} {F : List (FrameD × Value)} {fv ev qv : Value} (h : St W0 lo base mb rb ro C E F fv ev qv W) {b : Nat} (hb : base ≤ b) (hm : b ≠ mb) (hr : b ≠ rb) (ho : Off fv ev qv F b) (o : Nat) (u : Value) :
    St W0 lo base mb rb ro C E F fv ev qv (W.setCell ⟨b, o, none⟩ u) := h.set1 hb hm hr (h.own.setCell ho.f ho.e ho.q ho.w u) h.hF rfl h.om h.od

/-- What core.step leaves of the core, and how it ends. -/
def StepRes (W0 : World) (lo base mb cb : Nat) (e : Int) (g : ByteArray) (C : CoreD) (E : List EnclD) (fv ev : Value) (w : World) (x : Ending) (w' : World) : Prop :=
  ∃ (D : CoreD) (F : List (FrameD × Value)) (qv : Value) (o n : Int) (b : Bool), Co W0 lo base mb cb e D E F fv ev qv w' ∧ w.heap.size ≤ w'.heap.size ∧ x = .returned (.tuple #[.agg #[.int .i64 o, .int .i64 n], .bool b]) ∧
    ((stepM e g C = none ∧ D.F = C.F ∧ D.Q = C.Q ∧ o = 0 ∧ n = 0 ∧ b = false) ∨ (stepM e g C = some (D, none) ∧ o = 0 ∧ n = 0 ∧ b = true) ∨ (stepM e g C = some (D, some n) ∧ o = 1 ∧ b = true))

/-- The core, and the box of the outcome. -/
structure Sx (w W0 : World) (lo base mb cb : Nat) (e : Int) (C : CoreD) (E : List EnclD) (F : List (FrameD × Value)) (fv ev qv : Value) (W : World) : Prop where
  co : Co W0 lo base mb cb e C E F fv ev qv W
  g0 : W.cell? ⟨w.heap.size, 0, none⟩ = some (.int .i64 0)
  g1 : W.cell? ⟨w.heap.size, 1, none⟩ = some (.int .i64 0)
  gz : ∀ o, W.frozen? ⟨w.heap.size, o, none⟩ = false
  off : Off fv ev qv F w.heap.size
  nm : w.heap.size ≠ mb
  nc : w.heap.size ≠ cb
  hb : base ≤ w.heap.size
  z : w.heap.size < W.heap.size
section
variable {w W0 W W' : World} {lo base mb cb : Nat} {e : Int} {C : CoreD} {E : List EnclD} {F : List (FrameD × Value)} {fv ev qv : Value}
theorem Sx.of (h : Co W0 lo base mb cb e C E F fv ev qv w) (t : TypeId) : Sx w W0 lo base mb cb e C E F fv ev qv (w.alloc (.cells #[.int .i64 0, .int .i64 0] t)) := by
  have hO := h.st.own
  have h1 := h.st.hm
  have h2 := h.st.hr
  have h3 := h.st.hb
  have h4 := h.st.below.size
  exact ⟨h.later (below_alloc _ _), by go_simp, by go_simp, fun o => by go_simp, ⟨fun k hk => by have := (hO.f.row.lt k hk).2; omega, fun k hk => by have := (hO.e.lt k hk).2; omega, fun k hk => by have := (hO.q.lt k hk).2; omega, fun i p hp k hk => by have := ((hO.f.sub i p hp).1.lt k hk).2; omega⟩,
    by omega, by omega, by omega, by go_size⟩
theorem Sx.later (h : Sx w W0 lo base mb cb e C E F fv ev qv W) (hb : Below W.heap.size W W') : Sx w W0 lo base mb cb e C E F fv ev qv W' :=
  ⟨h.co.later hb, cell_later hb h.g0, cell_later hb h.g1, fun o => by rw [(bcell hb).2 _ _ h.z]; exact h.gz o, h.off, h.nm, h.nc, h.hb, by have := hb.size; have := h.z; omega⟩
theorem Sx.setR (h : Sx w W0 lo base mb cb e C E F fv ev qv W) {i o : Nat} (ho : o = 3 + i) (n : Int) : Sx w W0 lo base mb cb e { C with R := C.R.set i n } E F fv ev qv (W.setCell ⟨cb, o, none⟩ (.int .i64 n)) :=
  ⟨h.co.setR ho n, by rw [set_far h.nc]; exact h.g0, by rw [set_far h.nc]; exact h.g1, fun o => by rw [set_frozen]; exact h.gz o, h.off, h.nm, h.nc, h.hb, by rw [show (W.setCell ⟨cb, o, none⟩ (.int .i64 n)).heap.size = W.heap.size by simp]; exact h.z⟩
theorem Sx.setPc (h : Sx w W0 lo base mb cb e C E F fv ev qv W) (n : Int) : Sx w W0 lo base mb cb e { C with pc := n } E F fv ev qv (W.setCell ⟨cb, 2, none⟩ (.int .i64 n)) :=
  ⟨h.co.setPc n, by rw [set_far h.nc]; exact h.g0, by rw [set_far h.nc]; exact h.g1, fun o => by rw [set_frozen]; exact h.gz o, h.off, h.nm, h.nc, h.hb, by rw [show (W.setCell ⟨cb, 2, none⟩ (.int .i64 n)).heap.size = W.heap.size by simp]; exact h.z⟩
theorem Sx.setW (h : Sx w W0 lo base mb cb e C E F fv ev qv W) {g c i k : Nat} {x : FrameD} {n : Int} (hm : x.words.length = 8) (hx : F[i]? = some (x, .slice (some ⟨g, 0, none⟩) 8 c)) :
    Sx w W0 lo base mb cb e { C with F := setWord C.F (i, k) n } E (F.set i ({ x with words := x.words.set k n }, .slice (some ⟨g, 0, none⟩) 8 c)) fv ev qv (W.setCell ⟨g, k, none⟩ (.int .i64 n)) := by
  have hn : w.heap.size ≠ g := fun e => h.off.w i _ hx g rfl e.symm
  exact ⟨h.co.setW hm hx, by rw [set_far hn]; exact h.g0, by rw [set_far hn]; exact h.g1, fun o => by rw [set_frozen]; exact h.gz o, h.off.set (h.off.w i _ hx), h.nm, h.nc, h.hb, by rw [show (W.setCell ⟨g, k, none⟩ (.int .i64 n)).heap.size = W.heap.size by simp]; exact h.z⟩
theorem Sx.pushQ (h : Sx w W0 lo base mb cb e C E F fv ev qv W) (q : QuoteD) {g n cap : Nat} (hrow : W'.ownsRow base 71 2 (.slice (some ⟨g, 0, none⟩) n cap) n (C.Q.flatMap QuoteD.cs ++ q.cs)) (hn : n = C.Q.length + 1) (hg : W.grownBy W' qv.ownBlock) (hat : qv.ownBlock = some g ∨ g = W.heap.size) :
    Sx w W0 lo base mb cb e { C with Q := C.Q ++ [q] } E F fv ev (.slice (some ⟨g, 0, none⟩) n cap) (W'.setCell ⟨mb, 2, none⟩ (.slice (some ⟨g, 0, none⟩) n cap)) := by
  have hq : some w.heap.size ≠ qv.ownBlock := fun e => h.off.q _ e.symm rfl
  have hz := h.z
  have hs := hg.size
  have hgn : NotAt (.slice (some ⟨g, 0, none⟩) n cap) w.heap.size := fun k hk => by
    simp only [Value.ownBlock, Option.some.injEq] at hk
    subst hk
    rcases hat with e | e
    · exact h.off.q g e
    · omega
  exact ⟨h.co.pushQ q hrow hn hg hat, by rw [set_far h.nm]; exact hg.cell h.g0 hq, by rw [set_far h.nm]; exact hg.cell h.g1 hq, fun o => by rw [set_frozen, hg.frozen_far ⟨w.heap.size, o, none⟩ hz hq]; exact h.gz o, ⟨h.off.f, h.off.e, hgn, h.off.w⟩, h.nm, h.nc, h.hb,
    by rw [show (W'.setCell ⟨mb, 2, none⟩ (.slice (some ⟨g, 0, none⟩) n cap)).heap.size = W'.heap.size by simp]; omega⟩
/-- The outcome is written. -/
theorem Sx.fin (h : Sx w W0 lo base mb cb e C E F fv ev qv W) (u v : Value) : Co W0 lo base mb cb e C E F fv ev qv ((W.setCell ⟨w.heap.size, 0, none⟩ u).setCell ⟨w.heap.size, 1, none⟩ v) := by
  have hc : cb ≠ w.heap.size := fun e => h.nc e.symm
  exact ⟨(h.co.st.setFar h.hb h.nm h.nc h.off 0 u).setFar h.hb h.nm h.nc h.off 1 v, by rw [set_far hc, set_far hc]; exact h.co.k0, by rw [set_far hc, set_far hc]; exact h.co.k1, by rw [set_far hc, set_far hc]; exact h.co.k2⟩
theorem Sx.no {D : CoreD} {g : ByteArray} (h : Sx w W0 lo base mb cb e D E F fv ev qv W) (hF : D.F = C.F) (hQ : D.Q = C.Q) (hs : stepM e g C = none) : StepRes W0 lo base mb cb e g C E fv ev w (.returned (.tuple #[.agg #[.int .i64 0, .int .i64 0], .bool false])) ((W.setCell ⟨w.heap.size, 0, none⟩ (.int .i64 0)).setCell ⟨w.heap.size, 1, none⟩ (.int .i64 0)) :=
  ⟨D, F, qv, 0, 0, false, h.fin _ _, by have := h.z; simp; omega, rfl, .inl ⟨hs, hF, hQ, rfl, rfl, rfl⟩⟩
theorem Sx.go {D : CoreD} {g : ByteArray} (h : Sx w W0 lo base mb cb e D E F fv ev qv W) (hs : stepM e g C = some (D, none)) : StepRes W0 lo base mb cb e g C E fv ev w (.returned (.tuple #[.agg #[.int .i64 0, .int .i64 0], .bool true])) ((W.setCell ⟨w.heap.size, 0, none⟩ (.int .i64 0)).setCell ⟨w.heap.size, 1, none⟩ (.int .i64 0)) :=
  ⟨D, F, qv, 0, 0, true, h.fin _ _, by have := h.z; simp; omega, rfl, .inr (.inl ⟨hs, rfl, rfl, rfl⟩)⟩
theorem Sx.exits {D : CoreD} {g : ByteArray} {n : Int} (h : Sx w W0 lo base mb cb e D E F fv ev qv W) (hs : stepM e g C = some (D, some n)) : StepRes W0 lo base mb cb e g C E fv ev w (.returned (.tuple #[.agg #[.int .i64 1, .int .i64 n], .bool true])) ((W.setCell ⟨w.heap.size, 0, none⟩ (.int .i64 1)).setCell ⟨w.heap.size, 1, none⟩ (.int .i64 n)) :=
  ⟨D, F, qv, 1, n, true, h.fin _ _, by have := h.z; simp; omega, rfl, .inr (.inr ⟨hs, rfl, rfl⟩)⟩

/-- core.at once more: a pointer, whatever it is. -/
def AtP (W : World) (cb : Nat) (C : CoreD) (F : List (FrameD × Value)) (e n right : Int) (p : Option Addr) : Prop :=
  (cellOf C.F e n right = none ∧ p = none) ∨ ∃ (i k : Nat) (y : FrameD) (g c : Nat) (v : Int), cellOf C.F e n right = some (i, k) ∧ F[i]? = some (y, .slice (some ⟨g, 0, none⟩) 8 c) ∧ y.words.length = 8 ∧ y.words[k]? = some v ∧ wordAt C.F (i, k) = v ∧ 0 ≤ v ∧ v ≤ 65535 ∧ W.cell? ⟨g, k, none⟩ = some (.int .i64 v) ∧ (∀ o, W.frozen? ⟨g, o, none⟩ = false) ∧ g < W.heap.size ∧ g ≠ cb ∧ p = some ⟨g, k, none⟩
theorem coreAtP (h : Co W0 lo base mb cb e C E F fv ev qv W) (hc : CoreOk C) (n right : Int) (hn : 0 ≤ n) (hh : n ≤ 1000000) (hr : right = 1 ∨ right = 2 ∨ right = 4) : Calls Tryz.prog 99 #[.pointer (some ⟨cb, 0, none⟩), .int .i64 n, .int .i64 right] W fun x w' => ∃ p, x = .returned (.pointer p) ∧ Below W.heap.size W w' ∧ AtP W cb C F e n right p := by
  refine (coreAt h hc n right hn hh hr).mono ?_
  rintro x w' ⟨hb, ⟨h1, rfl⟩ | ⟨i, k, y, g, c, v, h1, h2, h3, h4, h5, h6, h7, h8, h9, h10, h11, rfl⟩⟩
  · exact ⟨none, rfl, hb, .inl ⟨h1, rfl⟩⟩
  · exact ⟨_, rfl, hb, .inr ⟨i, k, y, g, c, v, h1, h2, h3, h4, h5, h6, h7, h8, h9, h10, h11, rfl⟩⟩
end

end Go.Proofs.YtklbbjionoeofaaGreatDoor

namespace Go.Proofs.YtklbbjionoeofaaGreatDoor
open Go.RowKit

/-- A run hands back a machine and an outcome. -/
def RunRes (M : MachD) (ei : Nat) (r : CoreD × EnclD × Int × Int) (w : World) (x : Ending) (w' : World) : Prop :=
  ∃ fv ev qv F, x = .returned (.tuple #[.agg #[fv, ev, qv], .agg #[.int .i64 r.2.2.1, .int .i64 r.2.2.2]]) ∧ F.map Prod.fst = r.1.F ∧ OwnMach w.heap.size w' fv ev qv F (M.encl.set ei r.2.1) r.1.Q ∧ Below w.heap.size w w'
theorem RunRes.drew {M : MachD} {ei : Nat} {r : CoreD × EnclD × Int × Int} {w w' : World} {x : Ending} (h : RunRes M ei r w x w') : RunRes M ei r w x w'.drew := by
  obtain ⟨fv, ev, qv, F, hx, hF, hO, hb⟩ := h
  exact ⟨fv, ev, qv, F, hx, hF, hO.below (below_drew _), hb.trans ((below_drew _).mono hb.size)⟩
def core0 (M : MachD) (pc : Int) (R : List Int) : CoreD := ⟨M.frames, M.quotes, pc, R⟩
theorem words_in {l : List Int} (h : wordsB l = true) : ∀ (k : Nat) (n : Int), l[k]? = some n → 0 ≤ n ∧ n ≤ 65535 := by
  intro k n hk
  simp only [wordsB, Bool.and_eq_true] at h
  have h2 := h.2
  rw [Bool.not_eq_true', List.any_eq_false] at h2
  have := h2 n (List.mem_of_getElem? hk)
  simpa [inR] using this
theorem core0_ok {M : MachD} {pc : Int} {R : List Int} (h : machF M = 0) (hp : 0 ≤ pc ∧ pc ≤ 65535) (hl : R.length = 4) (hR : ∀ (k : Nat) (n : Int), R[k]? = some n → 0 ≤ n ∧ n ≤ 65535) : CoreOk (core0 M pc R) := by
  obtain ⟨h1, _, h3⟩ := machF_sizes h
  refine ⟨h1, fun i x hx => ?_, hl, hR, h3, hp.1, by have := hp.2; simp only [core0]; omega⟩
  have hf := machF_frame h hx
  exact ⟨hf.len, words_in hf.w, hf.rights.1, hf.rights.2, hf.lo⟩

section
variable {w W0 W : World} {lo base mb rb ro : Nat} {C : CoreD} {E : List EnclD} {F : List (FrameD × Value)} {fv ev qv : Value}
/-- The machine and the outcome are written into the results' boxes. -/
theorem St.ret (h : St W0 lo base mb rb ro C E F fv ev qv W) (hB : Below w.heap.size w W0) (hl : w.heap.size ≤ lo) {b c : Nat} (hb0 : w.heap.size ≤ b) (hb : b < base) (hc0 : w.heap.size ≤ c) (hc : c < base) {M : MachD} {ei : Nat} {r : CoreD × EnclD × Int × Int} {y : EnclD} {o n : Int} {D : CoreD} (hr : r = (D, y, o, n)) (hDF : C.F = D.F) (hDQ : C.Q = D.Q) (hE : E = M.encl.set ei y) :
    RunRes M ei r w (.returned (.tuple #[.agg #[fv, ev, qv], .agg #[.int .i64 o, .int .i64 n]])) (((((W.setCell ⟨b, 0, none⟩ fv).setCell ⟨b, 1, none⟩ ev).setCell ⟨b, 2, none⟩ qv).setCell ⟨c, 0, none⟩ (.int .i64 o)).setCell ⟨c, 1, none⟩ (.int .i64 n)) := by
  subst hr hE
  have hO := ((h.own.low3 hb fv ev qv).setLow (a := ⟨c, 0, none⟩) hc (.int .i64 o)).setLow (a := ⟨c, 1, none⟩) hc (.int .i64 n)
  have hBW : Below w.heap.size w W := hB.trans (h.below.mono hl)
  have hF := h.hF
  rw [hDF] at hF
  rw [hDQ] at hO
  exact ⟨fv, ev, qv, F, rfl, hF, hO.mono (by have := h.lb; omega), below_at (below_at (below_low3 hBW hb0 _ _ _) hc0 _ _) hc0 _ _⟩
/-- The same, the outcome ahead of the machine. -/
theorem St.kept (h : St W0 lo base mb rb ro C E F fv ev qv W) {b o : Nat} {v : Value} (hv : W0.cell? ⟨b, o, none⟩ = some v) (hb : b < base) (hm : b ≠ mb) (hr : b ≠ rb) : W.cell? ⟨b, o, none⟩ = some v := (h.keep b o hb hm hr).1.trans hv
theorem St.keptZ (h : St W0 lo base mb rb ro C E F fv ev qv W) {b : Nat} (hv : ∀ o, W0.frozen? ⟨b, o, none⟩ = false) (hb : b < base) (hm : b ≠ mb) (hr : b ≠ rb) : ∀ o, W.frozen? ⟨b, o, none⟩ = false := fun o => (h.keep b o hb hm hr).2.trans (hv o)

/-- How the state begins: a copy of the machine stored into the box mb; the registers in the box rb. -/
theorem St.start (hO : OwnMach base W fv ev qv F E C.Q) (hF : F.map Prod.fst = C.F) (m0 : W.cell? ⟨mb, 0, none⟩ = some fv) (m1 : W.cell? ⟨mb, 1, none⟩ = some ev) (m2 : W.cell? ⟨mb, 2, none⟩ = some qv) (mz : ∀ o, W.frozen? ⟨mb, o, none⟩ = false)
    (kr : ∀ (j : Nat) (n : Int), C.R[j]? = some n → W.cell? ⟨rb, ro + j, none⟩ = some (.int .i64 n)) (rz : ∀ o, W.frozen? ⟨rb, o, none⟩ = false) (om : Off fv ev qv F mb) (od : Off fv ev qv F rb) (ne : mb ≠ rb) (hm : mb < W.heap.size) (hr : rb < W.heap.size) (lm : lo ≤ mb) (lr : lo ≤ rb) (lb : lo ≤ base) (hb : base ≤ W.heap.size) :
    St W lo base mb rb ro C E F fv ev qv W := ⟨hO, hF, m0, m1, m2, mz, kr, rz, om, od, ne, hm, hr, lm, lr, lb, Below.refl _ _, hb, fun _ _ _ _ _ => ⟨rfl, rfl⟩⟩
/-- A block below what is owned, or above it all, is not owned. -/
theorem off_low {Q : List QuoteD} (hO : OwnMach base W fv ev qv F E Q) {b : Nat} (hb : b < base) : Off fv ev qv F b :=
  ⟨fun k hk => by have := (hO.f.row.lt k hk).1; omega, fun k hk => by have := (hO.e.lt k hk).1; omega, fun k hk => by have := (hO.q.lt k hk).1; omega, fun i p hp k hk => by have := ((hO.f.sub i p hp).1.lt k hk).1; omega⟩
theorem off_new {Q : List QuoteD} (hO : OwnMach base W fv ev qv F E Q) {b : Nat} (hb : W.heap.size ≤ b) : Off fv ev qv F b :=
  ⟨fun k hk => by have := (hO.f.row.lt k hk).2; omega, fun k hk => by have := (hO.e.lt k hk).2; omega, fun k hk => by have := (hO.q.lt k hk).2; omega, fun i p hp k hk => by have := ((hO.f.sub i p hp).1.lt k hk).2; omega⟩
end

section
variable {W0 W W' : World} {lo base mb rb ro ob : Nat} {C : CoreD} {E : List EnclD} {F : List (FrameD × Value)} {fv ev qv : Value}
theorem St.pc (h : St W0 lo base mb rb ro C E F fv ev qv W) (p : Int) : St W0 lo base mb rb ro { C with pc := p } E F fv ev qv W :=
  ⟨h.own, h.hF, h.m0, h.m1, h.m2, h.mz, h.kr, h.rz, h.om, h.od, h.ne, h.hm, h.hr, h.lm, h.lr, h.lb, h.below, h.hb, h.keep⟩
/-- The reference's state in a round, and the box of the round's outcome. -/
structure Rx (W0 : World) (lo base mb rb ro ob : Nat) (C : CoreD) (E : List EnclD) (F : List (FrameD × Value)) (fv ev qv : Value) (o n : Int) (W : World) : Prop where
  st : St W0 lo base mb rb ro C E F fv ev qv W
  g0 : W.cell? ⟨ob, 0, none⟩ = some (.int .i64 o)
  g1 : W.cell? ⟨ob, 1, none⟩ = some (.int .i64 n)
  gz : ∀ o, W.frozen? ⟨ob, o, none⟩ = false
  off : Off fv ev qv F ob
  nm : ob ≠ mb
  nr : ob ≠ rb
  hb : base ≤ ob
  z : ob < W.heap.size
theorem Rx.of (h : St W0 lo base mb rb ro C E F fv ev qv W) (t : TypeId) : Rx W0 lo base mb rb ro W.heap.size C E F fv ev qv 0 0 (W.alloc (.cells #[.int .i64 0, .int .i64 0] t)) := by
  have h1 := h.hm
  have h2 := h.hr
  have h3 := h.hb
  have h4 := h.below.size
  exact ⟨h.later (below_alloc _ _), by go_simp, by go_simp, fun o => by go_simp, off_new h.own (Nat.le_refl _), by omega, by omega, by omega, by go_size⟩
variable {o n : Int}
theorem Rx.later (h : Rx W0 lo base mb rb ro ob C E F fv ev qv o n W) (hb : Below W.heap.size W W') : Rx W0 lo base mb rb ro ob C E F fv ev qv o n W' :=
  ⟨h.st.later hb, cell_later hb h.g0, cell_later hb h.g1, fun o => by rw [(bcell hb).2 _ _ h.z]; exact h.gz o, h.off, h.nm, h.nr, h.hb, by have := hb.size; have := h.z; omega⟩
theorem Rx.pc (h : Rx W0 lo base mb rb ro ob C E F fv ev qv o n W) (p : Int) : Rx W0 lo base mb rb ro ob { C with pc := p } E F fv ev qv o n W := ⟨h.st.pc p, h.g0, h.g1, h.gz, h.off, h.nm, h.nr, h.hb, h.z⟩
theorem Rx.setR (h : Rx W0 lo base mb rb ro ob C E F fv ev qv o n W) {i j : Nat} (hj : j = ro + i) (m : Int) : Rx W0 lo base mb rb ro ob { C with R := C.R.set i m } E F fv ev qv o n (W.setCell ⟨rb, j, none⟩ (.int .i64 m)) :=
  ⟨h.st.setR hj m, by rw [set_far h.nr]; exact h.g0, by rw [set_far h.nr]; exact h.g1, fun o => by rw [set_frozen]; exact h.gz o, h.off, h.nm, h.nr, h.hb, by rw [show (W.setCell ⟨rb, j, none⟩ (.int .i64 m)).heap.size = W.heap.size by simp]; exact h.z⟩
theorem Rx.setW (h : Rx W0 lo base mb rb ro ob C E F fv ev qv o n W) {g c i k : Nat} {x : FrameD} {m : Int} (hm : x.words.length = 8) (hx : F[i]? = some (x, .slice (some ⟨g, 0, none⟩) 8 c)) :
    Rx W0 lo base mb rb ro ob { C with F := setWord C.F (i, k) m } E (F.set i ({ x with words := x.words.set k m }, .slice (some ⟨g, 0, none⟩) 8 c)) fv ev qv o n (W.setCell ⟨g, k, none⟩ (.int .i64 m)) := by
  have hn : ob ≠ g := fun e => h.off.w i _ hx g rfl e.symm
  exact ⟨h.st.setW hm hx, by rw [set_far hn]; exact h.g0, by rw [set_far hn]; exact h.g1, fun o => by rw [set_frozen]; exact h.gz o, h.off.set (h.off.w i _ hx), h.nm, h.nr, h.hb, by rw [show (W.setCell ⟨g, k, none⟩ (.int .i64 m)).heap.size = W.heap.size by simp]; exact h.z⟩
theorem Rx.setO (h : Rx W0 lo base mb rb ro ob C E F fv ev qv o n W) (o' n' : Int) : Rx W0 lo base mb rb ro ob C E F fv ev qv o' n' ((W.setCell ⟨ob, 0, none⟩ (.int .i64 o')).setCell ⟨ob, 1, none⟩ (.int .i64 n')) := by
  have g0 := h.g0
  have g1 := h.g1
  refine ⟨(h.st.setFar h.hb h.nm h.nr h.off 0 _).setFar h.hb h.nm h.nr h.off 1 _, by go_simp, by go_simp, fun o => by rw [set_frozen, set_frozen]; exact h.gz o, h.off, h.nm, h.nr, h.hb, ?_⟩
  have := h.z
  simp
  omega
theorem Rx.pushQ (h : Rx W0 lo base mb rb ro ob C E F fv ev qv o n W) (q : QuoteD) {g m cap : Nat} (hrow : W'.ownsRow base 71 2 (.slice (some ⟨g, 0, none⟩) m cap) m (C.Q.flatMap QuoteD.cs ++ q.cs)) (hn : m = C.Q.length + 1) (hg : W.grownBy W' qv.ownBlock) (hat : qv.ownBlock = some g ∨ g = W.heap.size) :
    Rx W0 lo base mb rb ro ob { C with Q := C.Q ++ [q] } E F fv ev (.slice (some ⟨g, 0, none⟩) m cap) o n (W'.setCell ⟨mb, 2, none⟩ (.slice (some ⟨g, 0, none⟩) m cap)) := by
  have hq : some ob ≠ qv.ownBlock := fun e => h.off.q _ e.symm rfl
  have hz := h.z
  have hs := hg.size
  have hgn : NotAt (.slice (some ⟨g, 0, none⟩) m cap) ob := fun k hk => by
    simp only [Value.ownBlock, Option.some.injEq] at hk
    subst hk
    rcases hat with e | e
    · exact h.off.q g e
    · omega
  exact ⟨h.st.pushQ q hrow hn hg hat, by rw [set_far h.nm]; exact hg.cell h.g0 hq, by rw [set_far h.nm]; exact hg.cell h.g1 hq, fun o => by rw [set_frozen, hg.frozen_far ⟨ob, o, none⟩ hz hq]; exact h.gz o, ⟨h.off.f, h.off.e, hgn, h.off.w⟩, h.nm, h.nr, h.hb,
    by rw [show (W'.setCell ⟨mb, 2, none⟩ (.slice (some ⟨g, 0, none⟩) m cap)).heap.size = W'.heap.size by simp]; omega⟩
/-- ref.cellOf in the state of a run. -/
theorem refCell (h : St W0 lo base mb rb ro C E F fv ev qv W) (hc : CoreOk C) (e m right : Int) (h0 : 0 ≤ m) (h1 : m ≤ 1000000) (hr : right = 1 ∨ right = 2 ∨ right = 4) : Calls Tryz.prog 75 #[.agg #[fv, ev, qv], .int .i64 e, .int .i64 m, .int .i64 right] W (CellRes C.F e m right W) := by
  obtain ⟨fa, fc, rfl, hfr⟩ := h.own.f.frames
  have hl : F.length = 24 := by have := hc.len; rw [← h.hF, List.length_map] at this; exact this
  rw [h.hF] at hfr
  rw [hl]
  by_cases h64 : 64 ≤ m
  · exact refCell_hi fa C.F fc ev qv e m right W hc.len hfr h64 h1
  · exact refCell_lo fa C.F fc ev qv e m right W hc.len hfr (by omega) h0 hr (fun i x hx => ⟨(hc.fr i x hx).2.2.1, (hc.fr i x hx).2.2.2.1⟩)
/-- What an address gives: its frame, its word in memory. -/
theorem St.word {f c1 : Nat} (h : St W0 lo base mb rb ro C E F (.slice (some ⟨f, 0, none⟩) 24 c1) ev qv W) (hc : CoreOk C) {e m right : Int} {i k : Nat} (hcell : cellOf C.F e m right = some (i, k)) (h0 : 0 ≤ m) :
    ∃ (y : FrameD) (g c : Nat) (v : Int), F[i]? = some (y, .slice (some ⟨g, 0, none⟩) 8 c) ∧ y.words.length = 8 ∧ y.words[k]? = some v ∧ wordAt C.F (i, k) = v ∧ 0 ≤ v ∧ v ≤ 65535 ∧ W.cell? ⟨g, k, none⟩ = some (.int .i64 v) ∧ (∀ o, W.frozen? ⟨g, o, none⟩ = false) ∧ (i : Int) < 24 ∧ (k : Int) < 8 ∧ W.cell? ⟨f, i * 4 + 3, none⟩ = some (.slice (some ⟨g, 0, none⟩) 8 c) := by
  obtain ⟨hk, y, hy⟩ := cellOf_get hcell h0
  simp only at hk hy
  have hl : F.length = 24 := by have := hc.len; rw [← h.hF, List.length_map] at this; exact this
  obtain ⟨⟨y', wv⟩, hp⟩ : ∃ p, F[i]? = some p := ⟨_, List.getElem?_eq_getElem (by have := (List.getElem?_eq_some_iff.1 hy).1; have := hc.len; omega)⟩
  have hy2 : C.F[i]? = some y' := by rw [← h.hF, List.getElem?_map, hp]; rfl
  obtain rfl : y' = y := by rw [hy] at hy2; exact (Option.some.inj hy2).symm
  obtain ⟨h8, hw, _⟩ := hc.fr i _ hy
  have o3 := (h.own.f.sub i _ hp).1
  simp only [h8] at o3
  obtain ⟨g, c, rfl, _, _⟩ := own_some o3 (by decide)
  obtain ⟨v, hv⟩ : ∃ v, y'.words[k]? = some v := ⟨_, List.getElem?_eq_getElem (by omega)⟩
  obtain ⟨kc, kz⟩ := h.own.wordAt hp hv
  obtain ⟨v0, v1⟩ := hw k v hv
  have hi := (List.getElem?_eq_some_iff.1 hp).1
  exact ⟨y', g, c, v, hp, h8, hv, by simp [wordAt, hy, hv], v0, v1, kc, kz, by omega, by omega, (h.own.frameAt hp).2.2.2.1⟩
end

theorem runM_none {e : Int} {g : ByteArray} {k : Nat} {D : CoreD} (h : stepM e g D = none) : runM e g (k + 1) D = (D, ⟨4, g, 0, 0, 0, 0, 0⟩, 3, 0) := by
  simp only [runM, h]
theorem runM_exit {e : Int} {g : ByteArray} {k : Nat} {D d : CoreD} {n : Int} (h : stepM e g D = some (d, some n)) : runM e g (k + 1) D = (d, ⟨2, g, 0, 0, 0, 0, 0⟩, 1, n) := by
  simp only [runM, h]
theorem runM_go {e : Int} {g : ByteArray} {k : Nat} {D d : CoreD} (h : stepM e g D = some (d, none)) : runM e g (k + 1) D = runM e g k d := by
  simp only [runM, h]
theorem regs4 {l : List Int} (h : l.length = 4) : ∃ a b c d, l = [a, b, c, d] := by
  match l, h with
  | [a, b, c, d], _ => exact ⟨a, b, c, d, rfl⟩

end Go.Proofs.YtklbbjionoeofaaGreatDoor
