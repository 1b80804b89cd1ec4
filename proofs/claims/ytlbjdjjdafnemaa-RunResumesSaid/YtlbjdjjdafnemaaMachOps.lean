/- Plain data of what acts on a machine answer, and the forms in which calls hand them back. No program is walked. -/
import Derived.Test.YtlbjdjjdafnemaaBegin
namespace Go.Proofs.Ytlbjdjjdafnemaa
open Go.RowKit

def upd {α : Type} (l : List α) (k : Nat) (f : α → α) : List α := match l[k]? with
  | some x => l.set k (f x)
  | none => l
theorem upd_some {α : Type} {l : List α} {k : Nat} {f : α → α} {x : α} (h : l[k]? = some x) : upd l k f = l.set k (f x) := by simp [upd, h]
theorem upd_len {α : Type} (l : List α) (k : Nat) (f : α → α) : (upd l k f).length = l.length := by
  unfold upd
  split <;> simp
theorem upd_get {α : Type} {l : List α} {k i : Nat} {f : α → α} {y : α} (h : (upd l k f)[i]? = some y) : ∃ x, l[i]? = some x ∧ (y = x ∨ y = f x) := by
  unfold upd at h
  split at h
  · rename_i x hx
    by_cases hk : k = i
    · subst hk
      rw [List.getElem?_set_self (List.getElem?_eq_some_iff.1 hx).1] at h
      cases h
      exact ⟨x, hx, .inr rfl⟩
    · rw [List.getElem?_set_ne hk] at h
      exact ⟨y, h, .inl rfl⟩
  · exact ⟨y, h, .inl rfl⟩

/-- A call hands back a machine and an error. -/
def Mach2 (base : Nat) (r : MachD × Int) (w : World) (x : Ending) (w' : World) : Prop := ∃ v, x = .returned (.tuple #[v, .int .i64 r.2]) ∧ MachAt w' v r.1 ∧ Below base w w'
theorem Mach2.mk {base : Nat} {r : MachD × Int} {w w' : World} {v : Value} {D : MachD} {er : Int} (h : r = (D, er)) (hv : MachAt w' v D) (hb : Below base w w') : Mach2 base r w (.returned (.tuple #[v, .int .i64 er])) w' := by
  subst h
  exact ⟨v, rfl, hv, hb⟩
/-- A call hands back a machine, a number and an error. -/
def Mach3 (base : Nat) (r : MachD × Int × Int) (w : World) (x : Ending) (w' : World) : Prop := ∃ v, x = .returned (.tuple #[v, .int .i64 r.2.1, .int .i64 r.2.2]) ∧ MachAt w' v r.1 ∧ Below base w w'
theorem Mach3.mk {base : Nat} {r : MachD × Int × Int} {w w' : World} {v : Value} {D : MachD} {n er : Int} (h : r = (D, n, er)) (hv : MachAt w' v D) (hb : Below base w w') : Mach3 base r w (.returned (.tuple #[v, .int .i64 n, .int .i64 er])) w' := by
  subst h
  exact ⟨v, rfl, hv, hb⟩

def startD (M : MachD) (e : Int) : MachD × Int := if askF M e 1 ≠ 0 then (mach0, askF M e 1) else ({ M with encl := upd M.encl (e - 1).toNat fun x => { x with state := 2 } }, 0)
def firstEmpty (M : MachD) : Int := findI (fun x : EnclD => x.state == 0) M.encl
def openLog : ByteArray := "open;".toUTF8
def newEncl : EnclD := ⟨1, openLog, 0, 0, 0, 0, 0⟩
def createD (M : MachD) : MachD × Int × Int := if machF M ≠ 0 then (mach0, 0, machF M) else if firstEmpty M < 0 then (mach0, 0, 7) else
  ({ M with encl := M.encl.set (firstEmpty M).toNat newEncl }, firstEmpty M + 1, 0)
/-- May a word of a frame be touched? -/
def wordF (M : MachD) (f q : Int) : Int := if machF M ≠ 0 then machF M else if f < 0 ∨ 24 ≤ f ∨ q < 0 ∨ 8 ≤ q then 2 else 0
def frameOf (M : MachD) (f : Int) : FrameD := (M.frames[f.toNat]?).getD ⟨0, 0, 0, []⟩
def peekD (M : MachD) (f q : Int) : Int × Int := if wordF M f q ≠ 0 then (0, wordF M f q) else if 0 < (frameOf M f).owner then (65535, 0) else (((frameOf M f).words[q.toNat]?).getD 0, 0)
def pokeD (M : MachD) (f q n : Int) : MachD × Int := if wordF M f q ≠ 0 then (mach0, wordF M f q) else if n < 0 ∨ 65535 < n then (mach0, 2) else
  if (frameOf M f).owner = 0 then ({ M with frames := upd M.frames f.toNat fun x => { x with words := x.words.set q.toNat n } }, 0) else (M, 0)
def bare : FrameD := ⟨0, 0, 0, [0, 0, 0, 0, 0, 0, 0, 0]⟩
def emptyEncl : EnclD := ⟨0, ⟨#[]⟩, 0, 0, 0, 0, 0⟩
def removeD (M : MachD) (e : Int) : MachD × Int := if askF M e (-1) ≠ 0 then (mach0, askF M e (-1)) else
  ({ M with encl := M.encl.set (e - 1).toNat emptyEncl, frames := M.frames.map fun x => if x.owner = e then bare else x }, 0)

theorem askF_zero {M : MachD} {e st : Int} (h : askF M e st = 0) : machF M = 0 ∧ ∃ (k : Nat) (y : EnclD), e = (k : Int) + 1 ∧ k < 4 ∧ M.encl[k]? = some y ∧ y.state ≠ 0 ∧ (0 ≤ st → y.state = st) := by
  rcases askF_cases M e st with ⟨h0, hR⟩ | ⟨h0, ⟨_, hR⟩ | ⟨_, _, hR⟩ | ⟨k, y, hk, hk4, hx, ⟨_, hR⟩ | ⟨_, _, _, hR⟩ | ⟨h1, h2, h3, _⟩ | ⟨h1, h2, _⟩⟩⟩
  · omega
  · omega
  · omega
  · omega
  · omega
  · exact ⟨h0, k, y, hk, hk4, hx, h1, fun _ => h3⟩
  · exact ⟨h0, k, y, hk, hk4, hx, h1, fun h => absurd h h2⟩

section
variable {base : Nat} {W : World} {fv ev qv : Value} {F : List (FrameD × Value)} {E : List EnclD} {Q : List QuoteD}
theorem OwnMach.low3 (h : OwnMach base W fv ev qv F E Q) {b : Nat} (hb : b < base) (u0 u1 u2 : Value) : OwnMach base (((W.setCell ⟨b, 0, none⟩ u0).setCell ⟨b, 1, none⟩ u1).setCell ⟨b, 2, none⟩ u2) fv ev qv F E Q :=
  ((h.setLow (a := ⟨b, 0, none⟩) hb u0).setLow (a := ⟨b, 1, none⟩) hb u1).setLow (a := ⟨b, 2, none⟩) hb u2
theorem below_low3 {n : Nat} {w : World} (h : Below n w W) {b : Nat} (hb : n ≤ b) (u0 u1 u2 : Value) : Below n w (((W.setCell ⟨b, 0, none⟩ u0).setCell ⟨b, 1, none⟩ u1).setCell ⟨b, 2, none⟩ u2) := by
  refine Below.setCell (Below.setCell (Below.setCell h ?_ _) ?_ _) ?_ _ <;> exact hb
theorem below_at {n : Nat} {w : World} (h : Below n w W) {b : Nat} (hb : n ≤ b) (o : Nat) (u : Value) : Below n w (W.setCell ⟨b, o, none⟩ u) := by
  refine Below.setCell h ?_ _
  exact hb
end

theorem fits_upd {M : MachD} (hf : M.Fits) {L : List FrameD} {E : List EnclD} (h1 : L.length = M.frames.length) (h2 : E.length = M.encl.length) (h3 : ∀ (i : Nat) (x : FrameD), L[i]? = some x → x.words.length * 8 ≤ 140737488351232) : (MachD.mk L E M.quotes).Fits :=
  ⟨by simp only [h1]; exact hf.f, by simp only [h2]; exact hf.e, hf.q, h3⟩
theorem startD_fits {M : MachD} (hf : M.Fits) (e : Int) : (startD M e).1.Fits := by
  unfold startD
  split
  · exact mach0_fits
  · exact fits_upd hf rfl (upd_len _ _ _) hf.w
theorem createD_fits {M : MachD} (hf : M.Fits) : (createD M).1.Fits := by
  unfold createD
  split
  · exact mach0_fits
  · split
    · exact mach0_fits
    · exact fits_upd hf rfl (by simp) hf.w
theorem pokeD_fits {M : MachD} (hf : M.Fits) (f q n : Int) : (pokeD M f q n).1.Fits := by
  unfold pokeD
  split
  · exact mach0_fits
  · split
    · exact mach0_fits
    · split
      · refine fits_upd hf (upd_len _ _ _) rfl fun i x hx => ?_
        obtain ⟨y, hy, rfl | rfl⟩ := upd_get hx
        · exact hf.w i _ hy
        · simpa using hf.w i _ hy
      · exact hf
theorem removeD_fits {M : MachD} (hf : M.Fits) (e : Int) : (removeD M e).1.Fits := by
  unfold removeD
  split
  · exact mach0_fits
  · refine fits_upd hf (by simp) (by simp) fun i x hx => ?_
    simp only [List.getElem?_map, Option.map_eq_some_iff] at hx
    obtain ⟨y, hy, rfl⟩ := hx
    split
    · simp [bare]
    · exact hf.w i _ hy

end Go.Proofs.Ytlbjdjjdafnemaa
