/- Plain data of what acts on a machine answer, and the forms in which calls hand them back. No program is walked.
More plain laws on a machine in memory of its own: a whole enclave written; what a machine that may be is. No program is walked.
A machine of the call's own that lies in a box, a result in another: the state in which an act on a machine goes on. Plain laws; no program is walked.
A machine of the call's own that lies in a box of its own, a result in another: how a reference's act goes on. Plain laws; no program is walked.
A new machine, as plain data. No program is walked.
What epc.Put and epc.Measure answer, as plain data. No program is walked. -/
import Derived.Test.YtklbbjionoeofaaGreatDoorGh
import Derived.Test.YtklbbjionoeofaaGreatDoorGf
import Derived.Test.YtklbbjionoeofaaGreatDoorGb
import Derived.Test.YtklbbjionoeofaaGreatDoorGe
namespace Go.Proofs.YtklbbjionoeofaaGreatDoor
open Go.RowKit

def upd {α : Type} (l : List α) (k : Nat) (f : α → α) : List α := match l[k]? with
  | some x => l.set k (f x)
  | none => l
theorem upd_some {α : Type} {l : List α} {k : Nat} {f : α → α} {x : α} (h : l[k]? = some x) : upd l k f = l.set k (f x) := by simp [upd, h]
theorem upd_len {α : Type} (l : List α) (k : Nat) (f : α → α) : (upd l k f).length = l.length := by
  unfold upd
  split <;> simp
theorem upd_get {α : Type} {l : List α} {k i : Nat} {f : α → α} {y : α} (h : (upd l k f)[i]? = some y) : ∃ x, l[i]? = some x ∧ (y = x ∨ y = f x) := by
  unfold upd at h
  split at h
  · rename_i x hx
    by_cases hk : k = i
    · subst hk
      rw [List.getElem?_set_self (List.getElem?_eq_some_iff.1 hx).1] at h
      cases h
      exact ⟨x, hx, .inr rfl⟩
    · rw [List.getElem?_set_ne hk] at h
      exact ⟨y, h, .inl rfl⟩
  · exact ⟨y, h, .inl rfl⟩

/-- A machine that lies in memory from 'base' on. -/
def MachFrom (base : Nat) (w : World) (v : Value) (M : MachD) : Prop := ∃ fv ev qv F, v = .agg #[fv, ev, qv] ∧ F.map Prod.fst = M.frames ∧ OwnMach base w fv ev qv F M.encl M.quotes
theorem OwnMach.from' {base b : Nat} {w : World} {fv ev qv : Value} {F : List (FrameD × Value)} {M : MachD} (h : OwnMach b w fv ev qv F M.encl M.quotes) (hF : F.map Prod.fst = M.frames) (hb : base ≤ b) : MachFrom base w (.agg #[fv, ev, qv]) M := ⟨fv, ev, qv, F, rfl, hF, h.mono hb⟩
theorem MachFrom.at {base : Nat} {w : World} {v : Value} {M : MachD} (h : MachFrom base w v M) : MachAt w v M := by
  obtain ⟨fv, ev, qv, F, rfl, hF, hO⟩ := h
  exact OwnMach.at hO hF
section
variable {W W' : World} {v : Value} {M : MachD}
theorem MachFrom.below {base : Nat} (h : MachFrom base W v M) (hb : Below W.heap.size W W') : MachFrom base W' v M := by
  obtain ⟨fv, ev, qv, F, rfl, hF, hO⟩ := h
  exact ⟨fv, ev, qv, F, rfl, hF, hO.below hb⟩
theorem MachFrom.low {base : Nat} (h : MachFrom base W v M) {a : Addr} (ha : a.block < base) (u : Value) : MachFrom base (W.setCell a u) v M := by
  obtain ⟨fv, ev, qv, F, rfl, hF, hO⟩ := h
  exact ⟨fv, ev, qv, F, rfl, hF, hO.setLow ha u⟩
theorem MachFrom.mono {base b' : Nat} (h : MachFrom base W v M) (hb : b' ≤ base) : MachFrom b' W v M := by
  obtain ⟨fv, ev, qv, F, rfl, hF, hO⟩ := h
  exact ⟨fv, ev, qv, F, rfl, hF, hO.mono hb⟩
end
theorem mach0_from {base : Nat} {w : World} : MachFrom base w (.agg #[.slice none 0 0, .slice none 0 0, .slice none 0 0]) mach0 :=
  ⟨_, _, _, [], rfl, rfl, OwnRows.nil, World.ownsRow_nil _ _ _ _, World.ownsRow_nil _ _ _ _, (fun _ h _ => by cases h), (fun _ h _ => by cases h), (fun _ h _ => by cases h), (fun _ _ h => by simp at h), (fun _ _ h => by simp at h)⟩
/-- A call hands back a machine and an error. -/
def Mach2 (base : Nat) (r : MachD × Int) (w : World) (x : Ending) (w' : World) : Prop := ∃ v, x = .returned (.tuple #[v, .int .i64 r.2]) ∧ MachFrom base w' v r.1 ∧ Below base w w'
theorem Mach2.mk {base : Nat} {r : MachD × Int} {w w' : World} {v : Value} {D : MachD} {er : Int} (h : r = (D, er)) (hv : MachFrom base w' v D) (hb : Below base w w') : Mach2 base r w (.returned (.tuple #[v, .int .i64 er])) w' := by
  subst h
  exact ⟨v, rfl, hv, hb⟩
/-- A call hands back a machine, a number and an error. -/
def Mach3 (base : Nat) (r : MachD × Int × Int) (w : World) (x : Ending) (w' : World) : Prop := ∃ v, x = .returned (.tuple #[v, .int .i64 r.2.1, .int .i64 r.2.2]) ∧ MachFrom base w' v r.1 ∧ Below base w w'
theorem Mach3.mk {base : Nat} {r : MachD × Int × Int} {w w' : World} {v : Value} {D : MachD} {n er : Int} (h : r = (D, n, er)) (hv : MachFrom base w' v D) (hb : Below base w w') : Mach3 base r w (.returned (.tuple #[v, .int .i64 n, .int .i64 er])) w' := by
  subst h
  exact ⟨v, rfl, hv, hb⟩

def startD (M : MachD) (e : Int) : MachD × Int := if askF M e 1 ≠ 0 then (mach0, askF M e 1) else ({ M with encl := upd M.encl (e - 1).toNat fun x => { x with state := 2 } }, 0)
def firstEmpty (M : MachD) : Int := findI (fun x : EnclD => x.state == 0) M.encl
def openLog : ByteArray := "open;".toUTF8
def newEncl : EnclD := ⟨1, openLog, 0, 0, 0, 0, 0⟩
def createD (M : MachD) : MachD × Int × Int := if machF M ≠ 0 then (mach0, 0, machF M) else if firstEmpty M < 0 then (mach0, 0, 7) else
  ({ M with encl := M.encl.set (firstEmpty M).toNat newEncl }, firstEmpty M + 1, 0)
/-- May a word of a frame be touched? -/
def wordF (M : MachD) (f q : Int) : Int := if machF M ≠ 0 then machF M else if f < 0 ∨ 24 ≤ f ∨ q < 0 ∨ 8 ≤ q then 2 else 0
def frameOf (M : MachD) (f : Int) : FrameD := (M.frames[f.toNat]?).getD ⟨0, 0, 0, []⟩
def peekD (M : MachD) (f q : Int) : Int × Int := if wordF M f q ≠ 0 then (0, wordF M f q) else if 0 < (frameOf M f).owner then (65535, 0) else (((frameOf M f).words[q.toNat]?).getD 0, 0)
def pokeD (M : MachD) (f q n : Int) : MachD × Int := if wordF M f q ≠ 0 then (mach0, wordF M f q) else if n < 0 ∨ 65535 < n then (mach0, 2) else
  if (frameOf M f).owner = 0 then ({ M with frames := upd M.frames f.toNat fun x => { x with words := x.words.set q.toNat n } }, 0) else (M, 0)
def bare : FrameD := ⟨0, 0, 0, [0, 0, 0, 0, 0, 0, 0, 0]⟩
def emptyEncl : EnclD := ⟨0, ⟨#[]⟩, 0, 0, 0, 0, 0⟩
def removeD (M : MachD) (e : Int) : MachD × Int := if askF M e (-1) ≠ 0 then (mach0, askF M e (-1)) else
  ({ M with encl := M.encl.set (e - 1).toNat emptyEncl, frames := M.frames.map fun x => if x.owner = e then bare else x }, 0)

theorem askF_zero {M : MachD} {e st : Int} (h : askF M e st = 0) : machF M = 0 ∧ ∃ (k : Nat) (y : EnclD), e = (k : Int) + 1 ∧ k < 4 ∧ M.encl[k]? = some y ∧ y.state ≠ 0 ∧ (0 ≤ st → y.state = st) := by
  rcases askF_cases M e st with ⟨h0, hR⟩ | ⟨h0, ⟨_, hR⟩ | ⟨_, _, hR⟩ | ⟨k, y, hk, hk4, hx, ⟨_, hR⟩ | ⟨_, _, _, hR⟩ | ⟨h1, h2, h3, _⟩ | ⟨h1, h2, _⟩⟩⟩
  · omega
  · omega
  · omega
  · omega
  · omega
  · exact ⟨h0, k, y, hk, hk4, hx, h1, fun _ => h3⟩
  · exact ⟨h0, k, y, hk, hk4, hx, h1, fun h => absurd h h2⟩

section
variable {base : Nat} {W : World} {fv ev qv : Value} {F : List (FrameD × Value)} {E : List EnclD} {Q : List QuoteD}
theorem OwnMach.low3 (h : OwnMach base W fv ev qv F E Q) {b : Nat} (hb : b < base) (u0 u1 u2 : Value) : OwnMach base (((W.setCell ⟨b, 0, none⟩ u0).setCell ⟨b, 1, none⟩ u1).setCell ⟨b, 2, none⟩ u2) fv ev qv F E Q :=
  ((h.setLow (a := ⟨b, 0, none⟩) hb u0).setLow (a := ⟨b, 1, none⟩) hb u1).setLow (a := ⟨b, 2, none⟩) hb u2
theorem below_low3 {n : Nat} {w : World} (h : Below n w W) {b : Nat} (hb : n ≤ b) (u0 u1 u2 : Value) : Below n w (((W.setCell ⟨b, 0, none⟩ u0).setCell ⟨b, 1, none⟩ u1).setCell ⟨b, 2, none⟩ u2) := by
  refine Below.setCell (Below.setCell (Below.setCell h ?_ _) ?_ _) ?_ _ <;> exact hb
theorem below_at {n : Nat} {w : World} (h : Below n w W) {b : Nat} (hb : n ≤ b) (o : Nat) (u : Value) : Below n w (W.setCell ⟨b, o, none⟩ u) := by
  refine Below.setCell h ?_ _
  exact hb
end

theorem fits_upd {M : MachD} (hf : M.Fits) {L : List FrameD} {E : List EnclD} (h1 : L.length = M.frames.length) (h2 : E.length = M.encl.length) (h3 : ∀ (i : Nat) (x : FrameD), L[i]? = some x → x.words.length * 8 ≤ 140737488351232) : (MachD.mk L E M.quotes).Fits :=
  ⟨by simp only [h1]; exact hf.f, by simp only [h2]; exact hf.e, hf.q, h3⟩
theorem startD_fits {M : MachD} (hf : M.Fits) (e : Int) : (startD M e).1.Fits := by
  unfold startD
  split
  · exact mach0_fits
  · exact fits_upd hf rfl (upd_len _ _ _) hf.w
theorem createD_fits {M : MachD} (hf : M.Fits) : (createD M).1.Fits := by
  unfold createD
  split
  · exact mach0_fits
  · split
    · exact mach0_fits
    · exact fits_upd hf rfl (by simp) hf.w
theorem pokeD_fits {M : MachD} (hf : M.Fits) (f q n : Int) : (pokeD M f q n).1.Fits := by
  unfold pokeD
  split
  · exact mach0_fits
  · split
    · exact mach0_fits
    · split
      · refine fits_upd hf (upd_len _ _ _) rfl fun i x hx => ?_
        obtain ⟨y, hy, rfl | rfl⟩ := upd_get hx
        · exact hf.w i _ hy
        · simpa using hf.w i _ hy
      · exact hf
theorem removeD_fits {M : MachD} (hf : M.Fits) (e : Int) : (removeD M e).1.Fits := by
  unfold removeD
  split
  · exact mach0_fits
  · refine fits_upd hf (by simp) (by simp) fun i x hx => ?_
    simp only [List.getElem?_map, Option.map_eq_some_iff] at hx
    obtain ⟨y, hy, rfl⟩ := hx
    split
    · simp [bare]
    · exact hf.w i _ hy

end Go.Proofs.YtklbbjionoeofaaGreatDoor

namespace Go.Proofs.YtklbbjionoeofaaGreatDoor
open Go.RowKit

section
variable {base : Nat} {W : World} {fv ev qv : Value} {F : List (FrameD × Value)} {E : List EnclD} {Q : List QuoteD}
/-- A whole enclave is written. -/
theorem OwnMach.setEncl {g m c i : Nat} {x : EnclD} (h : OwnMach base W fv (.slice (some ⟨g, 0, none⟩) m c) qv F E Q) (hm : E.length = m) (hx : E[i]? = some x) (y : EnclD) :
    OwnMach base (((((((W.setCell ⟨g, i * 7, none⟩ (.int .i64 y.state)).setCell ⟨g, i * 7 + 1, none⟩ (.string y.log)).setCell ⟨g, i * 7 + 2, none⟩ (.int .i64 y.pc)).setCell ⟨g, i * 7 + 3, none⟩ (.int .i64 y.r0)).setCell ⟨g, i * 7 + 4, none⟩ (.int .i64 y.r1)).setCell ⟨g, i * 7 + 5, none⟩ (.int .i64 y.r2)).setCell ⟨g, i * 7 + 6, none⟩ (.int .i64 y.r3))
      fv (.slice (some ⟨g, 0, none⟩) m c) qv F (E.set i y) Q := by
  subst hm
  have hi : i < E.length := (List.getElem?_eq_some_iff.1 hx).1
  have step : ∀ {W : World} {E' : List EnclD} {x' : EnclD} (j : Nat) (u : Value) (x'' : EnclD), OwnMach base W fv (.slice (some ⟨g, 0, none⟩) E.length c) qv F (E.set i x') Q → j < 7 → x''.cs = x'.cs.set j u → OwnMach base (W.setCell ⟨g, i * 7 + j, none⟩ u) fv (.slice (some ⟨g, 0, none⟩) E.length c) qv F (E.set i x'') Q := fun {W E' x'} j u x'' h hj hu => by
    have := h.setE (i := i) (j := j) (x := x') (x' := x'') (u := u) (by simp) (by rw [List.getElem?_set_self hi]) hj hu
    rwa [List.set_set] at this
  have h0 : OwnMach base W fv (.slice (some ⟨g, 0, none⟩) E.length c) qv F (E.set i x) Q := by
    have e : E.set i x = E := by
      apply List.ext_getElem?
      intro k
      by_cases hk : i = k
      · subst hk; rw [List.getElem?_set_self hi, hx]
      · rw [List.getElem?_set_ne hk]
    rw [e]; exact h
  have h1 := step (E' := E) 0 (.int .i64 y.state) ⟨y.state, x.log, x.pc, x.r0, x.r1, x.r2, x.r3⟩ h0 (by decide) rfl
  have h2 := step (E' := E) 1 (.string y.log) ⟨y.state, y.log, x.pc, x.r0, x.r1, x.r2, x.r3⟩ h1 (by decide) rfl
  have h3 := step (E' := E) 2 (.int .i64 y.pc) ⟨y.state, y.log, y.pc, x.r0, x.r1, x.r2, x.r3⟩ h2 (by decide) rfl
  have h4 := step (E' := E) 3 (.int .i64 y.r0) ⟨y.state, y.log, y.pc, y.r0, x.r1, x.r2, x.r3⟩ h3 (by decide) rfl
  have h5 := step (E' := E) 4 (.int .i64 y.r1) ⟨y.state, y.log, y.pc, y.r0, y.r1, x.r2, x.r3⟩ h4 (by decide) rfl
  have h6 := step (E' := E) 5 (.int .i64 y.r2) ⟨y.state, y.log, y.pc, y.r0, y.r1, y.r2, x.r3⟩ h5 (by decide) rfl
  exact step (E' := E) 6 (.int .i64 y.r3) y h6 (by decide) rfl
theorem below_encl {n : Nat} {w : World} (h : Below n w W) {b : Nat} (hb : n ≤ b) (o0 o1 o2 o3 o4 o5 o6 : Nat) (u0 u1 u2 u3 u4 u5 u6 : Value) :
    Below n w (((((((W.setCell ⟨b, o0, none⟩ u0).setCell ⟨b, o1, none⟩ u1).setCell ⟨b, o2, none⟩ u2).setCell ⟨b, o3, none⟩ u3).setCell ⟨b, o4, none⟩ u4).setCell ⟨b, o5, none⟩ u5).setCell ⟨b, o6, none⟩ u6) :=
  below_at (below_at (below_at (below_at (below_at (below_at (below_at h hb o0 u0) hb o1 u1) hb o2 u2) hb o3 u3) hb o4 u4) hb o5 u5) hb o6 u6
end

theorem frAll_frB {E : List EnclD} {l : List FrameD} : ∀ {pre : List FrameD}, frAll E pre l = true → ∀ (i : Nat) (x : FrameD), l[i]? = some x → ∃ pre', frB E pre' x = true := by
  induction l with
  | nil => intro pre _ i x hx; simp at hx
  | cons y l ih =>
    intro pre h i x hx
    simp only [frAll, Bool.and_eq_true] at h
    cases i with
    | zero => simp only [List.getElem?_cons_zero, Option.some.injEq] at hx; subst hx; exact ⟨pre, h.1⟩
    | succ i => simp only [List.getElem?_cons_succ] at hx; exact ih h.2 i x hx
/-- What is known of each frame of a machine that may be. -/
structure FrameOk (M : MachD) (x : FrameD) : Prop where
  w : wordsB x.words = true
  len : x.words.length = 8
  lo : 0 ≤ x.owner
  hi : x.owner ≤ 4
  free : x.owner = 0 → x.pl = 0 ∧ x.rights = 0
  pl : 0 ≤ x.pl ∧ x.pl ≤ 7
  rights : 0 ≤ x.rights ∧ x.rights ≤ 7
  own : x.owner ≠ 0 → stateAt M.encl (x.owner - 1) ≠ 0
theorem machF_machB {M : MachD} (h : machF M = 0) : machB M = true := by
  unfold machF at h
  cases hs : sizeB M with
  | false => rw [hs] at h; simp at h
  | true =>
    rw [hs] at h
    cases hm : machB M with
    | false => rw [hm] at h; simp at h
    | true => rfl
theorem machF_frame {M : MachD} (h : machF M = 0) {i : Nat} {x : FrameD} (hx : M.frames[i]? = some x) : FrameOk M x := by
  have hm := machF_machB h
  simp only [machB, Bool.and_eq_true] at hm
  obtain ⟨pre, hb⟩ := frAll_frB hm.2.1 i x hx
  simp only [frB, Bool.and_eq_true] at hb
  obtain ⟨⟨hw, ho⟩, hr⟩ := hb
  have hl : x.words.length = 8 := by
    simp only [wordsB, Bool.and_eq_true, decide_eq_true_eq] at hw
    exact hw.1
  have ho' : 0 ≤ x.owner ∧ x.owner ≤ 4 := by simpa [inR] using ho
  by_cases h0 : x.owner = 0
  · rw [if_pos h0] at hr
    simp only [Bool.and_eq_true, beq_iff_eq] at hr
    exact ⟨hw, hl, ho'.1, ho'.2, fun _ => hr, by omega, by omega, fun h => absurd h0 h⟩
  · rw [if_neg h0] at hr
    simp only [Bool.and_eq_true, beq_iff_eq] at hr
    have hp : inR x.pl 0 7 = true ∧ inR x.rights 0 7 = true := by
      have h2 := hr.2.1
      unfold pageF at h2
      by_cases h3 : inR x.pl 0 7 && inR x.rights 0 7
      · simpa using h3
      · simp [h3] at h2
    have h5 : (0 ≤ x.pl ∧ x.pl ≤ 7) ∧ (0 ≤ x.rights ∧ x.rights ≤ 7) := by simpa [inR] using hp
    exact ⟨hw, hl, ho'.1, ho'.2, fun h => absurd h h0, h5.1, h5.2, fun _ => by simpa using hr.1⟩
theorem machF_encl {M : MachD} (h : machF M = 0) {i : Nat} {x : EnclD} (hx : M.encl[i]? = some x) : enclB x = true := by
  have hm := machF_machB h
  simp only [machB, Bool.and_eq_true] at hm
  exact List.all_eq_true.1 hm.1 x (List.mem_of_getElem? hx)

end Go.Proofs.YtklbbjionoeofaaGreatDoor

namespace Go.Proofs.YtklbbjionoeofaaGreatDoor
open Go.RowKit

theorem act_gen {Q : Act → World → Prop} {a : Act} {W : World} (R : World → Prop) (hR : R W) (h : ∀ W0, R W0 → Q a W0) : Q a W := h W hR

structure OpenM (w : World) (fv ev qv : Value) (F : List (FrameD × Value)) (E : List EnclD) (Q : List QuoteD) (W : World) : Prop where
  own : OwnMach (w.heap.size + 2) W fv ev qv F E Q
  below : Below w.heap.size w W
  c0 : W.cell? ⟨w.heap.size, 0, none⟩ = some fv
  c1 : W.cell? ⟨w.heap.size, 1, none⟩ = some ev
  c2 : W.cell? ⟨w.heap.size, 2, none⟩ = some qv
  cz : ∀ o, W.frozen? ⟨w.heap.size, o, none⟩ = false
  r0 : W.cell? ⟨w.heap.size + 1, 0, none⟩ = some (.slice none 0 0)
  r1 : W.cell? ⟨w.heap.size + 1, 1, none⟩ = some (.slice none 0 0)
  r2 : W.cell? ⟨w.heap.size + 1, 2, none⟩ = some (.slice none 0 0)
  rz : ∀ o, W.frozen? ⟨w.heap.size + 1, o, none⟩ = false
  z : w.heap.size + 1 < W.heap.size

section
variable {w W W' : World} {fv ev qv : Value} {F F' : List (FrameD × Value)} {E E' : List EnclD} {Q Q' : List QuoteD}
/-- The copy stored into the box of m. -/
theorem OpenM.of {base : Nat} (hO : OwnMach base W fv ev qv F E Q) (hb : w.heap.size + 2 ≤ base) (hB : Below w.heap.size w W) (hz : w.heap.size + 1 < W.heap.size) {u0 u1 u2 : Value} (p0 : W.cell? ⟨w.heap.size, 0, none⟩ = some u0) (p1 : W.cell? ⟨w.heap.size, 1, none⟩ = some u1) (p2 : W.cell? ⟨w.heap.size, 2, none⟩ = some u2) (pz : ∀ o, W.frozen? ⟨w.heap.size, o, none⟩ = false)
    (r0 : W.cell? ⟨w.heap.size + 1, 0, none⟩ = some (.slice none 0 0)) (r1 : W.cell? ⟨w.heap.size + 1, 1, none⟩ = some (.slice none 0 0)) (r2 : W.cell? ⟨w.heap.size + 1, 2, none⟩ = some (.slice none 0 0)) (rz : ∀ o, W.frozen? ⟨w.heap.size + 1, o, none⟩ = false) :
    OpenM w fv ev qv F E Q (((W.setCell ⟨w.heap.size, 0, none⟩ fv).setCell ⟨w.heap.size, 1, none⟩ ev).setCell ⟨w.heap.size, 2, none⟩ qv) :=
  ⟨(hO.mono hb).low3 (by omega) _ _ _, below_low3 hB (Nat.le_refl _) _ _ _, by go_simp, by go_simp, by go_simp, fun o => by go_simp, by go_simp, by go_simp, by go_simp, fun o => by go_simp, by go_size⟩
theorem OpenM.later (h : OpenM w fv ev qv F E Q W) (hb : Below W.heap.size W W') : OpenM w fv ev qv F E Q W' := by
  have hz := h.z
  exact ⟨h.own.below hb, h.below.trans (hb.mono h.below.size), cell_later hb h.c0, cell_later hb h.c1, cell_later hb h.c2, fun o => by rw [(bcell hb).2 _ _ (by omega)]; exact h.cz o, cell_later hb h.r0, cell_later hb h.r1, cell_later hb h.r2,
    fun o => by rw [(bcell hb).2 _ _ (by omega)]; exact h.rz o, by have := hb.size; omega⟩
/-- One write into what the machine owns. -/
theorem OpenM.set1 {F' : List (FrameD × Value)} {E' : List EnclD} {Q' : List QuoteD} (h : OpenM w fv ev qv F E Q W) {g o : Nat} {u : Value} (hg : w.heap.size + 2 ≤ g) (hO : OwnMach (w.heap.size + 2) (W.setCell ⟨g, o, none⟩ u) fv ev qv F' E' Q') : OpenM w fv ev qv F' E' Q' (W.setCell ⟨g, o, none⟩ u) := by
  have n0 : w.heap.size ≠ g := by omega
  have n1 : w.heap.size + 1 ≠ g := by omega
  have g0 : g ≠ w.heap.size := by omega
  have g1 : g ≠ w.heap.size + 1 := by omega
  have c0 := h.c0
  have c1 := h.c1
  have c2 := h.c2
  have cz := h.cz
  have r0 := h.r0
  have r1 := h.r1
  have r2 := h.r2
  have rz := h.rz
  have z := h.z
  have b := h.below
  clear h
  exact ⟨hO, below_at b (by omega) _ _, by go_simp, by go_simp, by go_simp, fun o => by go_simp, by go_simp, by go_simp, by go_simp, fun o => by go_simp, by go_size⟩
theorem OpenM.setE {g m c i j : Nat} {x x' : EnclD} {u : Value} (h : OpenM w fv (.slice (some ⟨g, 0, none⟩) m c) qv F E Q W) (hm : E.length = m) (hx : E[i]? = some x) (hj : j < 7) (hu : x'.cs = x.cs.set j u) :
    OpenM w fv (.slice (some ⟨g, 0, none⟩) m c) qv F (E.set i x') Q (W.setCell ⟨g, i * 7 + j, none⟩ u) := h.set1 (h.own.e.lt g rfl).1 (h.own.setE hm hx hj hu)
theorem OpenM.setF {g m c i j : Nat} {x x' : FrameD} {wv : Value} {u : Value} (h : OpenM w (.slice (some ⟨g, 0, none⟩) m c) ev qv F E Q W) (hm : F.length = m) (hx : F[i]? = some (x, wv)) (hj : j < 4) (hu : fcs (x', wv) = (fcs (x, wv)).set j u) (hw : x'.words = x.words) :
    OpenM w (.slice (some ⟨g, 0, none⟩) m c) ev qv (F.set i (x', wv)) E Q (W.setCell ⟨g, i * 4 + j, none⟩ u) := h.set1 (h.own.f.row.lt g rfl).1 (h.own.setF hm hx hj hu hw)
theorem OpenM.setW {g m c i k : Nat} {x : FrameD} {n : Int} (h : OpenM w fv ev qv F E Q W) (hm : x.words.length = m) (hx : F[i]? = some (x, .slice (some ⟨g, 0, none⟩) m c)) :
    OpenM w fv ev qv (F.set i ({ x with words := x.words.set k n }, .slice (some ⟨g, 0, none⟩) m c)) E Q (W.setCell ⟨g, k, none⟩ (.int .i64 n)) := h.set1 ((h.own.f.sub i _ hx).1.lt g rfl).1 (h.own.setW hm hx)
theorem set_self {α : Type} {l : List α} {i : Nat} {x : α} (hx : l[i]? = some x) : l.set i x = l := by
  apply List.ext_getElem?
  intro k
  by_cases hk : i = k
  · subst hk; rw [List.getElem?_set_self (List.getElem?_eq_some_iff.1 hx).1, hx]
  · rw [List.getElem?_set_ne hk]
theorem OpenM.setEncl {g m c i : Nat} {x : EnclD} (h : OpenM w fv (.slice (some ⟨g, 0, none⟩) m c) qv F E Q W) (hm : E.length = m) (hx : E[i]? = some x) (y : EnclD) :
    OpenM w fv (.slice (some ⟨g, 0, none⟩) m c) qv F (E.set i y) Q (((((((W.setCell ⟨g, i * 7, none⟩ (.int .i64 y.state)).setCell ⟨g, i * 7 + 1, none⟩ (.string y.log)).setCell ⟨g, i * 7 + 2, none⟩ (.int .i64 y.pc)).setCell ⟨g, i * 7 + 3, none⟩ (.int .i64 y.r0)).setCell ⟨g, i * 7 + 4, none⟩ (.int .i64 y.r1)).setCell ⟨g, i * 7 + 5, none⟩ (.int .i64 y.r2)).setCell ⟨g, i * 7 + 6, none⟩ (.int .i64 y.r3)) := by
  subst hm
  have hi : i < E.length := (List.getElem?_eq_some_iff.1 hx).1
  have step : ∀ {W : World} {x' : EnclD} (j : Nat) (u : Value) (x'' : EnclD), OpenM w fv (.slice (some ⟨g, 0, none⟩) E.length c) qv F (E.set i x') Q W → j < 7 → x''.cs = x'.cs.set j u → OpenM w fv (.slice (some ⟨g, 0, none⟩) E.length c) qv F (E.set i x'') Q (W.setCell ⟨g, i * 7 + j, none⟩ u) := fun {W x'} j u x'' h hj hu => by
    have := h.setE (i := i) (j := j) (x := x') (x' := x'') (u := u) (by simp) (by rw [List.getElem?_set_self hi]) hj hu
    rwa [List.set_set] at this
  have h0 : OpenM w fv (.slice (some ⟨g, 0, none⟩) E.length c) qv F (E.set i x) Q W := by rw [set_self hx]; exact h
  have h1 := step 0 (.int .i64 y.state) ⟨y.state, x.log, x.pc, x.r0, x.r1, x.r2, x.r3⟩ h0 (by decide) rfl
  have h2 := step 1 (.string y.log) ⟨y.state, y.log, x.pc, x.r0, x.r1, x.r2, x.r3⟩ h1 (by decide) rfl
  have h3 := step 2 (.int .i64 y.pc) ⟨y.state, y.log, y.pc, x.r0, x.r1, x.r2, x.r3⟩ h2 (by decide) rfl
  have h4 := step 3 (.int .i64 y.r0) ⟨y.state, y.log, y.pc, y.r0, x.r1, x.r2, x.r3⟩ h3 (by decide) rfl
  have h5 := step 4 (.int .i64 y.r1) ⟨y.state, y.log, y.pc, y.r0, y.r1, x.r2, x.r3⟩ h4 (by decide) rfl
  have h6 := step 5 (.int .i64 y.r2) ⟨y.state, y.log, y.pc, y.r0, y.r1, y.r2, x.r3⟩ h5 (by decide) rfl
  exact step 6 (.int .i64 y.r3) y h6 (by decide) rfl
/-- The machine copied into the result's box. -/
theorem OpenM.done {M : MachD} {r : MachD × Int} (h : OpenM w fv ev qv F E Q W) (hF : F.map Prod.fst = M.frames) (hE : E = M.encl) (hQ : Q = M.quotes) {er : Int} (hr : r = (M, er)) :
    Mach2 w.heap.size r w (.returned (.tuple #[.agg #[fv, ev, qv], .int .i64 er])) (((W.setCell ⟨w.heap.size + 1, 0, none⟩ fv).setCell ⟨w.heap.size + 1, 1, none⟩ ev).setCell ⟨w.heap.size + 1, 2, none⟩ qv) := by
  subst hE hQ
  exact Mach2.mk hr (OwnMach.from' (M := M) (h.own.low3 (by omega) _ _ _) hF (by omega)) (below_low3 h.below (by omega) _ _ _)
theorem OpenM.done3 {M : MachD} {r : MachD × Int × Int} (h : OpenM w fv ev qv F E Q W) (hF : F.map Prod.fst = M.frames) (hE : E = M.encl) (hQ : Q = M.quotes) {n er : Int} (hr : r = (M, n, er)) :
    Mach3 w.heap.size r w (.returned (.tuple #[.agg #[fv, ev, qv], .int .i64 n, .int .i64 er])) (((W.setCell ⟨w.heap.size + 1, 0, none⟩ fv).setCell ⟨w.heap.size + 1, 1, none⟩ ev).setCell ⟨w.heap.size + 1, 2, none⟩ qv) := by
  subst hE hQ
  exact Mach3.mk hr (OwnMach.from' (M := M) (h.own.low3 (by omega) _ _ _) hF (by omega)) (below_low3 h.below (by omega) _ _ _)
end

end Go.Proofs.YtklbbjionoeofaaGreatDoor

namespace Go.Proofs.YtklbbjionoeofaaGreatDoor
open Go.RowKit

section
variable {w W W' : World} {b : Nat} {pv fv ev qv : Value} {F F' : List (FrameD × Value)} {E E' : List EnclD} {Q Q' : List QuoteD}
/-- The copy in a new box. -/
theorem CopyInv.of {base : Nat} (hO : OwnMach base W fv ev qv F E Q) (hb : w.heap.size + 2 ≤ base) (hB : Below w.heap.size w W) (hz : w.heap.size + 1 < W.heap.size) (p0 : W.cell? ⟨w.heap.size, 0, none⟩ = some pv)
    (r0 : W.cell? ⟨w.heap.size + 1, 0, none⟩ = some (.slice none 0 0)) (r1 : W.cell? ⟨w.heap.size + 1, 1, none⟩ = some (.slice none 0 0)) (r2 : W.cell? ⟨w.heap.size + 1, 2, none⟩ = some (.slice none 0 0)) (rz : ∀ o, W.frozen? ⟨w.heap.size + 1, o, none⟩ = false) (t : TypeId) :
    CopyInv w W.heap.size pv fv ev qv F E Q (W.alloc (.cells #[fv, ev, qv] t)) := by
  have hO2 := hO.mono hb
  have z0 : w.heap.size < W.heap.size := by omega
  have na : ∀ {v : Value} {e s m : Nat} {xs : List Value}, W.ownsRow (w.heap.size + 2) e s v m xs → NotAt v W.heap.size := fun ho k hk => by have := (ho.lt k hk).2; omega
  have hA := hO2.below (below_alloc W (.cells #[fv, ev, qv] t))
  have n0 := na hO2.f.row
  have n1 := na hO2.e
  have n2 := na hO2.q
  have n3 : ∀ (i : Nat) (p : FrameD × Value), F[i]? = some p → NotAt p.2 W.heap.size := fun i p hp => na (hO2.f.sub i p hp).1
  clear hO hO2
  exact ⟨hB.alloc (by omega) _, by go_simp, by go_simp, by go_simp, by go_simp, fun o => by go_simp, by go_simp, by go_simp, by go_simp, fun o => by go_simp, by omega, by go_size, hA, n0, n1, n2, n3⟩
/-- One write into what the machine owns. -/
theorem CopyInv.set1 (h : CopyInv w b pv fv ev qv F E Q W) {g o : Nat} {u : Value} (hg : w.heap.size + 2 ≤ g) (hb : g ≠ b) (hO : OwnMach (w.heap.size + 2) (W.setCell ⟨g, o, none⟩ u) fv ev qv F' E' Q') (hn : ∀ (i : Nat) (p : FrameD × Value), F'[i]? = some p → NotAt p.2 b) :
    CopyInv w b pv fv ev qv F' E' Q' (W.setCell ⟨g, o, none⟩ u) := by
  have n0 : w.heap.size ≠ g := by omega
  have n1 : w.heap.size + 1 ≠ g := by omega
  have g0 : g ≠ w.heap.size := by omega
  have g1 : g ≠ w.heap.size + 1 := by omega
  have g2 : b ≠ g := fun e => hb e.symm
  have p0 := h.p0
  have c0 := h.c0
  have c1 := h.c1
  have c2 := h.c2
  have cz := h.cz
  have r0 := h.r0
  have r1 := h.r1
  have r2 := h.r2
  have rz := h.rz
  have lo := h.lo
  have hi := h.hi
  have bl := h.below
  have a0 := h.no
  have a1 := h.ne
  have a2 := h.nq
  clear h
  exact ⟨below_at bl (by omega) _ _, by go_simp, by go_simp, by go_simp, by go_simp, fun o => by go_simp, by go_simp, by go_simp, by go_simp, fun o => by go_simp, lo, by go_size, hO, a0, a1, a2, hn⟩
theorem CopyInv.setE {g m c i j : Nat} {x x' : EnclD} {u : Value} (h : CopyInv w b pv fv (.slice (some ⟨g, 0, none⟩) m c) qv F E Q W) (hm : E.length = m) (hx : E[i]? = some x) (hj : j < 7) (hu : x'.cs = x.cs.set j u) :
    CopyInv w b pv fv (.slice (some ⟨g, 0, none⟩) m c) qv F (E.set i x') Q (W.setCell ⟨g, i * 7 + j, none⟩ u) := h.set1 (h.own.e.lt g rfl).1 (h.ne g rfl) (h.own.setE hm hx hj hu) h.nf
theorem set_notAt {b i : Nat} {x : FrameD} {wv : Value} (h : ∀ (i : Nat) (p : FrameD × Value), F[i]? = some p → NotAt p.2 b) (hw : NotAt wv b) : ∀ (k : Nat) (p : FrameD × Value), (F.set i (x, wv))[k]? = some p → NotAt p.2 b := fun k p hp => by
  by_cases hk : i = k
  · subst hk
    have hl : i < (F.set i (x, wv)).length := (List.getElem?_eq_some_iff.1 hp).1
    rw [List.length_set] at hl
    rw [List.getElem?_set_self hl] at hp
    cases hp
    exact hw
  · rw [List.getElem?_set_ne hk] at hp
    exact h k p hp
theorem CopyInv.setF {g m c i j : Nat} {x x' : FrameD} {wv : Value} {u : Value} (h : CopyInv w b pv (.slice (some ⟨g, 0, none⟩) m c) ev qv F E Q W) (hm : F.length = m) (hx : F[i]? = some (x, wv)) (hj : j < 4) (hu : fcs (x', wv) = (fcs (x, wv)).set j u) (hw : x'.words = x.words) :
    CopyInv w b pv (.slice (some ⟨g, 0, none⟩) m c) ev qv (F.set i (x', wv)) E Q (W.setCell ⟨g, i * 4 + j, none⟩ u) := h.set1 (h.own.f.row.lt g rfl).1 (h.no g rfl) (h.own.setF hm hx hj hu hw) (set_notAt h.nf (h.nf i _ hx))
theorem CopyInv.setW {g m c i k : Nat} {x : FrameD} {n : Int} (h : CopyInv w b pv fv ev qv F E Q W) (hm : x.words.length = m) (hx : F[i]? = some (x, .slice (some ⟨g, 0, none⟩) m c)) :
    CopyInv w b pv fv ev qv (F.set i ({ x with words := x.words.set k n }, .slice (some ⟨g, 0, none⟩) m c)) E Q (W.setCell ⟨g, k, none⟩ (.int .i64 n)) :=
  h.set1 ((h.own.f.sub i _ hx).1.lt g rfl).1 (h.nf i _ hx g rfl) (h.own.setW hm hx) (set_notAt h.nf (h.nf i _ hx))
theorem CopyInv.setEncl {g m c i : Nat} {x : EnclD} (h : CopyInv w b pv fv (.slice (some ⟨g, 0, none⟩) m c) qv F E Q W) (hm : E.length = m) (hx : E[i]? = some x) (y : EnclD) :
    CopyInv w b pv fv (.slice (some ⟨g, 0, none⟩) m c) qv F (E.set i y) Q (((((((W.setCell ⟨g, i * 7, none⟩ (.int .i64 y.state)).setCell ⟨g, i * 7 + 1, none⟩ (.string y.log)).setCell ⟨g, i * 7 + 2, none⟩ (.int .i64 y.pc)).setCell ⟨g, i * 7 + 3, none⟩ (.int .i64 y.r0)).setCell ⟨g, i * 7 + 4, none⟩ (.int .i64 y.r1)).setCell ⟨g, i * 7 + 5, none⟩ (.int .i64 y.r2)).setCell ⟨g, i * 7 + 6, none⟩ (.int .i64 y.r3)) := by
  subst hm
  have hi : i < E.length := (List.getElem?_eq_some_iff.1 hx).1
  have step : ∀ {W : World} {x' : EnclD} (j : Nat) (u : Value) (x'' : EnclD), CopyInv w b pv fv (.slice (some ⟨g, 0, none⟩) E.length c) qv F (E.set i x') Q W → j < 7 → x''.cs = x'.cs.set j u → CopyInv w b pv fv (.slice (some ⟨g, 0, none⟩) E.length c) qv F (E.set i x'') Q (W.setCell ⟨g, i * 7 + j, none⟩ u) := fun {W x'} j u x'' h hj hu => by
    have := h.setE (i := i) (j := j) (x := x') (x' := x'') (u := u) (by simp) (by rw [List.getElem?_set_self hi]) hj hu
    rwa [List.set_set] at this
  have h0 : CopyInv w b pv fv (.slice (some ⟨g, 0, none⟩) E.length c) qv F (E.set i x) Q W := by rw [set_self hx]; exact h
  have h1 := step 0 (.int .i64 y.state) ⟨y.state, x.log, x.pc, x.r0, x.r1, x.r2, x.r3⟩ h0 (by decide) rfl
  have h2 := step 1 (.string y.log) ⟨y.state, y.log, x.pc, x.r0, x.r1, x.r2, x.r3⟩ h1 (by decide) rfl
  have h3 := step 2 (.int .i64 y.pc) ⟨y.state, y.log, y.pc, x.r0, x.r1, x.r2, x.r3⟩ h2 (by decide) rfl
  have h4 := step 3 (.int .i64 y.r0) ⟨y.state, y.log, y.pc, y.r0, x.r1, x.r2, x.r3⟩ h3 (by decide) rfl
  have h5 := step 4 (.int .i64 y.r1) ⟨y.state, y.log, y.pc, y.r0, y.r1, x.r2, x.r3⟩ h4 (by decide) rfl
  have h6 := step 5 (.int .i64 y.r2) ⟨y.state, y.log, y.pc, y.r0, y.r1, y.r2, x.r3⟩ h5 (by decide) rfl
  exact step 6 (.int .i64 y.r3) y h6 (by decide) rfl
theorem CopyInv.done {M : MachD} {r : MachD × Int} (h : CopyInv w b pv fv ev qv F E Q W) (hF : F.map Prod.fst = M.frames) (hE : E = M.encl) (hQ : Q = M.quotes) {er : Int} (hr : r = (M, er)) :
    Mach2 w.heap.size r w (.returned (.tuple #[.agg #[fv, ev, qv], .int .i64 er])) (((W.setCell ⟨w.heap.size + 1, 0, none⟩ fv).setCell ⟨w.heap.size + 1, 1, none⟩ ev).setCell ⟨w.heap.size + 1, 2, none⟩ qv) := by
  subst hE hQ
  exact Mach2.mk hr (OwnMach.from' (M := M) (h.own.low3 (by omega) _ _ _) hF (by omega)) (below_low3 h.below (by omega) _ _ _)
theorem CopyInv.done3 {M : MachD} {r : MachD × Int × Int} (h : CopyInv w b pv fv ev qv F E Q W) (hF : F.map Prod.fst = M.frames) (hE : E = M.encl) (hQ : Q = M.quotes) {n er : Int} (hr : r = (M, n, er)) :
    Mach3 w.heap.size r w (.returned (.tuple #[.agg #[fv, ev, qv], .int .i64 n, .int .i64 er])) (((W.setCell ⟨w.heap.size + 1, 0, none⟩ fv).setCell ⟨w.heap.size + 1, 1, none⟩ ev).setCell ⟨w.heap.size + 1, 2, none⟩ qv) := by
  subst hE hQ
  exact Mach3.mk hr (OwnMach.from' (M := M) (h.own.low3 (by omega) _ _ _) hF (by omega)) (below_low3 h.below (by omega) _ _ _)
end

end Go.Proofs.YtklbbjionoeofaaGreatDoor

namespace Go.Proofs.YtklbbjionoeofaaGreatDoor
open Go.RowKit

def newD : MachD := ⟨List.replicate 24 bare, List.replicate 4 emptyEncl, []⟩

end Go.Proofs.YtklbbjionoeofaaGreatDoor

namespace Go.Proofs.YtklbbjionoeofaaGreatDoor
open Go.RowKit

def logE (s : List UInt8) (x : EnclD) : EnclD := { x with log := x.log ++ bytesOf s }
def ownF (e p r : Int) (x : FrameD) : FrameD := { x with owner := e, pl := p, rights := r }
def putF (M : MachD) (e f p r : Int) : Int :=
  if askF M e 1 ≠ 0 then askF M e 1 else if f < 0 ∨ 24 ≤ f then 2 else if addF p r ≠ 0 then 2 else
  if (frameOf M f).owner ≠ 0 ∨ 0 ≤ placeF M.frames e p then 6 else
  if 1000 < (((enclOf M e).map (·.log.size)).getD 0) + (addedL p r).length then 7 else 0
def putD (M : MachD) (e f p r : Int) : MachD × Int :=
  if putF M e f p r ≠ 0 then (mach0, putF M e f p r) else
  ({ M with frames := upd M.frames f.toNat (ownF e p r), encl := upd M.encl (e - 1).toNat (logE (addedL p r)) }, 0)
def heldOf (M : MachD) (e p : Int) : List UInt8 := heldL p (frameOf M (placeF M.frames e p)).words
def measF (M : MachD) (e p : Int) : Int :=
  if askF M e 1 ≠ 0 then askF M e 1 else if placeF M.frames e p < 0 then 5 else
  if 1000 < (((enclOf M e).map (·.log.size)).getD 0) + (heldOf M e p).length then 7 else 0
def measD (M : MachD) (e p : Int) : MachD × Int :=
  if measF M e p ≠ 0 then (mach0, measF M e p) else ({ M with encl := upd M.encl (e - 1).toNat (logE (heldOf M e p)) }, 0)

end Go.Proofs.YtklbbjionoeofaaGreatDoor
