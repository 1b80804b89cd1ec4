/- Package trust and its reference, walked. Conditions: those that each contract writes (sizes within the reach). -/
import Derived.Test.YtehhhliiehhdjaaDoorFuncs
import Derived.Test.YtehhhliiehhdjaaDoorClone
import Derived.Deep.RegionHeld3
import Derived.Deep.AppendLies
namespace Go.Proofs.YtehhhliiehhdjaaDoor
open Go.RowKit

/-- The world under a name, with what is known of it. -/
theorem wp_gen {P : Program} {c : Code} {Q : Exit → Act → World → Prop} {a : Act} {W : World} (R : World → Prop) (hR : R W) (h : ∀ W0, R W0 → Code.wp P c Q a W0) : Code.wp P c Q a W := h W hR

/-- A challenger's value reads as its data. -/
def ChalAt (w : World) (v : Value) (C : ChalD) : Prop :=
  ∃ ta tc na nc, v = .agg #[.slice ta C.trusts.length tc, .slice na C.nonces.length nc] ∧ StrsAt w ta C.trusts ∧ IntsAt w na C.nonces
theorem ChalAt.mono {w w' : World} {v : Value} {C : ChalD} (h : ChalAt w v C) (hb : Below w.heap.size w w') : ChalAt w' v C := by
  obtain ⟨ta, tc, na, nc, rfl, h1, h2⟩ := h
  exact ⟨ta, tc, na, nc, rfl, h1.mono hb, h2.mono hb⟩
structure ChalD.Fits (C : ChalD) : Prop where
  t : C.trusts.length * 16 ≤ 140737488351232
  n : C.nonces.length * 8 ≤ 140737488351232
/-- A challenger in memory of its own. -/
def ChalOwn (base : Nat) (w : World) (v : Value) (C : ChalD) : Prop :=
  ∃ tv nv, v = .agg #[tv, nv] ∧ w.ownsRow base 9 1 tv C.trusts.length (strCells C.trusts) ∧ w.ownsRow base 3 1 nv C.nonces.length (intCells C.nonces) ∧ Apart tv nv
theorem ChalOwn.at {base : Nat} {w : World} {v : Value} {C : ChalD} (h : ChalOwn base w v C) : ChalAt w v C := by
  obtain ⟨tv, nv, rfl, h1, h2, _⟩ := h
  obtain ⟨ta, tc, rfl, h3⟩ := CellsAt.of_own h1
  obtain ⟨na, nc, rfl, h4⟩ := CellsAt.of_own h2
  exact ⟨ta, tc, na, nc, rfl, h3.strs, h4.ints⟩
def ChalRes (base : Nat) (C : ChalD) (w : World) (e : Ending) (w' : World) : Prop := ∃ v, e = .returned v ∧ ChalOwn base w' v C ∧ Below base w w'

end Go.Proofs.YtehhhliiehhdjaaDoor
