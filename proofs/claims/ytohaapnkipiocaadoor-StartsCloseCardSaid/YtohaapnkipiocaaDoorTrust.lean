/- Package trust and its reference, walked. Conditions: those that each contract writes (sizes within the reach). -/
import Derived.Test.YtohaapnkipiocaaDoorFuncs
import Derived.Test.YtohaapnkipiocaaDoorClone
import Derived.Deep.RegionHeld3
import Derived.Deep.AppendLies
namespace Go.Proofs.YtohaapnkipiocaaDoor
open Go.RowKit

/-- The world under a name, with what is known of it. -/
theorem wp_gen {P : Program} {c : Code} {Q : Exit → Act → World → Prop} {a : Act} {W : World} (R : World → Prop) (hR : R W) (h : ∀ W0, R W0 → Code.wp P c Q a W0) : Code.wp P c Q a W := h W hR

/-- A challenger's value reads as its data. -/
def ChalAt (w : World) (v : Value) (C : ChalD) : Prop :=
  ∃ ta tc na nc, v = .agg #[.slice ta C.trusts.length tc, .slice na C.nonces.length nc] ∧ StrsAt w ta C.trusts ∧ IntsAt w na C.nonces
theorem ChalAt.mono {w w' : World} {v : Value} {C : ChalD} (h : ChalAt w v C) (hb : Below w.heap.size w w') : ChalAt w' v C := by
  obtain ⟨ta, tc, na, nc, rfl, h1, h2⟩ := h
  exact ⟨ta, tc, na, nc, rfl, h1.mono hb, h2.mono hb⟩
structure ChalD.Fits (C : ChalD) : Prop where
  t : C.trusts.length * 16 ≤ 140737488351232
  n : C.nonces.length * 8 ≤ 140737488351232
/-- A challenger in memory of its own. -/
def ChalOwn (base : Nat) (w : World) (v : Value) (C : ChalD) : Prop :=
  ∃ tv nv, v = .agg #[tv, nv] ∧ w.ownsRow base 9 1 tv C.trusts.length (strCells C.trusts) ∧ w.ownsRow base 3 1 nv C.nonces.length (intCells C.nonces) ∧ Apart tv nv
theorem ChalOwn.at {base : Nat} {w : World} {v : Value} {C : ChalD} (h : ChalOwn base w v C) : ChalAt w v C := by
  obtain ⟨tv, nv, rfl, h1, h2, _⟩ := h
  obtain ⟨ta, tc, rfl, h3⟩ := CellsAt.of_own h1
  obtain ⟨na, nc, rfl, h4⟩ := CellsAt.of_own h2
  exact ⟨ta, tc, na, nc, rfl, h3.strs, h4.ints⟩
def ChalRes (base : Nat) (C : ChalD) (w : World) (e : Ending) (w' : World) : Prop := ∃ v, e = .returned v ∧ ChalOwn base w' v C ∧ Below base w w'

set_option maxRecDepth 10000 in
set_option maxHeartbeats 800000 in
theorem trustCopy (v : Value) (C : ChalD) (w : World) (hv : ChalAt w v C) (hf : C.Fits) : Calls Tryd.prog 88 #[v] w (ChalRes w.heap.size C w) := by
  obtain ⟨ta, tc, na, nc, rfl, ht, hn⟩ := hv
  obtain ⟨hft, hfn⟩ := hf
  have HT := hid ht
  have HN := hid hn
  clear ht hn
  go_enter Tryd.func88, Tryd.ntmps88
  go_wp2_with fail
  go_region_held3 (fun w' => w'.cell? ⟨w.heap.size, 0, none⟩ = some (.slice ta C.trusts.length tc) ∧ w'.cell? ⟨w.heap.size, 1, none⟩ = some (.slice na C.nonces.length nc))
    (first | go_keep | exact ⟨p0, p1⟩ | exact ⟨q0, q1⟩)
    (first
      | (go_at_call 113
         refine (cloneStrs ta _ tc (strCells C.trusts) _ (by simp [strCells]) (strCells_one _) (HT.out.cells.mono (by go_grown)) hft).mono ?_
         rintro e w1 ⟨a1, c1, rfl, ho1, hb1⟩
         have p0 : w1.cell? ⟨w.heap.size, 0, none⟩ = some (.slice ta C.trusts.length tc) := by rw [(bcell hb1).1 _ _ (by go_size)]; simp [go_sem]
         have p1 : w1.cell? ⟨w.heap.size, 1, none⟩ = some (.slice na C.nonces.length nc) := by rw [(bcell hb1).1 _ _ (by go_size)]; simp [go_sem]
         have p2 : w1.cell? ⟨w.heap.size + 1, 0, none⟩ = some (.slice none 0 0) := by rw [(bcell hb1).1 _ _ (by go_size)]; simp [go_sem]
         have p3 : w1.cell? ⟨w.heap.size + 1, 1, none⟩ = some (.slice none 0 0) := by rw [(bcell hb1).1 _ _ (by go_size)]; simp [go_sem]
         have p4 : ∀ o, w1.frozen? ⟨w.heap.size + 1, o, none⟩ = false := fun o => by rw [(bcell hb1).2 _ _ (by go_size)]; simp [go_sem]
         have z1 : w.heap.size + 1 < w1.heap.size := by have := hb1.size; simp at this; omega)
      | (go_at_call 73
         refine (cloneInts na _ nc (intCells C.nonces) _ (by simp [intCells]) (intCells_one _) (HN.out.cells.mono (Below.trans (by go_grown) (hb1.mono (by go_size)))) hfn).mono ?_
         rintro e w2 ⟨a2, c2, rfl, ho2, hb2⟩
         have q0 : w2.cell? ⟨w.heap.size, 0, none⟩ = some (.slice ta C.trusts.length tc) := by rw [(bcell hb2).1 _ _ (by omega)]; exact p0
         have q1 : w2.cell? ⟨w.heap.size, 1, none⟩ = some (.slice na C.nonces.length nc) := by rw [(bcell hb2).1 _ _ (by omega)]; exact p1
         have q2 : w2.cell? ⟨w.heap.size + 1, 0, none⟩ = some (.slice none 0 0) := by rw [(bcell hb2).1 _ _ (by omega)]; exact p2
         have q3 : w2.cell? ⟨w.heap.size + 1, 1, none⟩ = some (.slice none 0 0) := by rw [(bcell hb2).1 _ _ (by omega)]; exact p3
         have q4 : ∀ o, w2.frozen? ⟨w.heap.size + 1, o, none⟩ = false := fun o => by rw [(bcell hb2).2 _ _ (by omega)]; exact p4 o))
  go_wp2_with fail
  have g1 := ownsRow_setCell_below (ownsRow_setCell_below (ownsRow_below ho1 hb2) (a := ⟨w.heap.size + 1, 0, none⟩) (by go_size) (.slice a1 C.trusts.length c1)) (a := ⟨w.heap.size + 1, 1, none⟩) (by go_size) (.slice a2 C.nonces.length c2)
  have g2 := ownsRow_setCell_below (ownsRow_setCell_below ho2 (a := ⟨w.heap.size + 1, 0, none⟩) (by go_size) (.slice a1 C.trusts.length c1)) (a := ⟨w.heap.size + 1, 1, none⟩) (by go_size) (.slice a2 C.nonces.length c2)
  refine bodyPost_ret (v := .agg #[.slice a1 C.trusts.length c1, .slice a2 C.nonces.length c2]) (by simp [results, Tryd.results88, go_sem, q2, q3]) rfl ⟨_, rfl, ⟨_, _, rfl, ownsRow_mono g1 (by go_size), ownsRow_mono g2 (by omega), apart_of_lt ho1 ho2 (Nat.le_refl _)⟩, ?_⟩
  have B1 : Below w.heap.size w w1 := Below.trans (by go_grown) (hb1.mono (by go_size))
  exact Below.setCell (Below.setCell (B1.trans (hb2.mono (by omega))) (by simp) _) (by simp) _

end Go.Proofs.YtohaapnkipiocaaDoor
