/- trust.Ask and its reference, walked. Conditions: those that each contract writes. -/
import Derived.Test.YtehhhliiehhdjaaDoorChalOps
namespace Go.Proofs.YtehhhliiehhdjaaDoor
open Go.RowKit

def chal0 : ChalD := ⟨[], []⟩
def askD (C : ChalD) : ChalD × Int × Int := if chalF C ≠ 0 then (chal0, 0, chalF C) else if C.nonces.length = 20 then (chal0, 0, 7) else (⟨C.trusts, C.nonces ++ [0]⟩, C.nonces.length + 1, 0)
/-- A call hands back a challenger, a number and an error. -/
def Chal3 (base : Nat) (r : ChalD × Int × Int) (w : World) (e : Ending) (w' : World) : Prop :=
  ∃ v, e = .returned (.tuple #[v, .int .i64 r.2.1, .int .i64 r.2.2]) ∧ ChalAt w' v r.1 ∧ Below base w w'
theorem Chal3.mk {base : Nat} {r : ChalD × Int × Int} {w w' : World} {v : Value} {D : ChalD} {k er : Int} (h : r = (D, k, er)) (hv : ChalAt w' v D) (hb : Below base w w') : Chal3 base r w (.returned (.tuple #[v, .int .i64 k, .int .i64 er])) w' := by
  subst h
  exact ⟨v, rfl, hv, hb⟩
theorem ownsRow_setCell_ne {w : World} {base : Nat} {e : TypeId} {size : Nat} {v : Value} {n : Nat} {xs : List Value} (h : w.ownsRow base e size v n xs) {a : Addr} (ha : ∀ k, v.ownBlock = some k → k ≠ a.block) (u : Value) : (w.setCell a u).ownsRow base e size v n xs := by
  obtain ⟨h1, h2⟩ := h
  refine ⟨h1, ?_⟩
  rcases h2 with h2 | ⟨g, cap, cur, rfl, hg, hh, r⟩
  · exact Or.inl h2
  · exact Or.inr ⟨g, cap, cur, rfl, hg, by rw [Below.heap_setCell _ _ _ _ (ha g rfl)]; exact hh, r⟩
theorem below_drew (w : World) : Below w.heap.size w w.drew := (Below.refl _ _).drew
theorem intCells_snoc (l : List Int) (x : Int) : intCells (l ++ [x]) = intCells l ++ [.int .i64 x] := by simp [intCells]
theorem chalAt_own {w : World} {b b' : Nat} {l1 : List ByteArray} {l2 : List Int} {a1 a2 : Option Addr} {n1 n2 c1 c2 : Nat} (h1 : w.ownsRow b 9 1 (.slice a1 n1 c1) n1 (strCells l1)) (h2 : w.ownsRow b' 3 1 (.slice a2 n2 c2) n2 (intCells l2)) (e1 : l1.length = n1) (e2 : l2.length = n2) :
    ChalAt w (.agg #[.slice a1 n1 c1, .slice a2 n2 c2]) ⟨l1, l2⟩ := by
  subst e1; subst e2
  obtain ⟨x1, y1, ex, h3⟩ := CellsAt.of_own h1
  obtain ⟨x2, y2, ey, h4⟩ := CellsAt.of_own h2
  rw [← (Value.slice.inj ex).1] at h3
  rw [← (Value.slice.inj ey).1] at h4
  exact ⟨a1, c1, a2, c2, rfl, h3.strs, h4.ints⟩
theorem chal0_at (w : World) : ChalAt w (.agg #[.slice none 0 0, .slice none 0 0]) chal0 := ⟨none, 0, none, 0, rfl, fun _ _ h => by simp [chal0] at h, fun _ _ h => by simp [chal0] at h⟩
theorem chalF_le {C : ChalD} (h : chalF C = 0) : C.trusts.length ≤ 4 ∧ C.nonces.length ≤ 20 := by
  unfold chalF at h
  by_cases h1 : 4 < C.trusts.length
  · simp [h1] at h
  · by_cases h2 : 20 < C.nonces.length
    · simp [h2] at h
    · omega

end Go.Proofs.YtehhhliiehhdjaaDoor
