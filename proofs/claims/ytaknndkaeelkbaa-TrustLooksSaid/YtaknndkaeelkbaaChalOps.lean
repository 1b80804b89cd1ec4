/- trust.Ask, Look and their references, walked. Conditions: those that each contract writes. -/
import Derived.Test.YtaknndkaeelkbaaTrust2
import Derived.Test.YtaknndkaeelkbaaAppNil
namespace Go.Proofs.Ytaknndkaeelkbaa
open Go.RowKit

/- ref.ChallengerCopy: a challenger in memory of its own. -/
set_option maxRecDepth 10000 in
set_option maxHeartbeats 1600000 in
theorem refChalCopy (v : Value) (C : ChalD) (w : World) (hv : ChalAt w v C) (hf : C.Fits) : Calls Try.prog 42 #[v] w (ChalRes w.heap.size C w) := by
  obtain ⟨ta, tc, na, nc, rfl, ht, hn⟩ := hv
  obtain ⟨hft, hfn⟩ := hf
  obtain ⟨i0, hi0, hz0, hz1, hz2⟩ := info_parts infoStrs
  obtain ⟨j0, hj0, hy0, hy1, hy2⟩ := info_parts infoInts
  have HT := hid ht
  have HN := hid hn
  clear ht hn
  go_enter Try.func42, Try.ntmps42
  go_wp2_with fail
  go_region_held3 (fun w' => w'.cell? ⟨w.heap.size, 0, none⟩ = some (.slice ta C.trusts.length tc) ∧ w'.cell? ⟨w.heap.size, 1, none⟩ = some (.slice na C.nonces.length nc))
    (first | go_keep | exact ⟨p0, p1⟩ | exact ⟨q0, q1⟩)
    (first
      | (refine step_append_nil rfl _ _ 32 rfl 9 i0 _ 1 16 Try.underlying32 hi0 hz0 hz1 hz2 rfl (by decide) rfl ta C.trusts.length tc (strCells C.trusts) rfl (by simp [strCells]) (HT.out.cells.mono (by go_grown)) (strCells_one _) (by unfold maxLen; omega) (by omega) ?_
         intro a1 c1 w1 ho1 hg1
         have hb1 := below_grown hg1
         have p0 : w1.cell? ⟨w.heap.size, 0, none⟩ = some (.slice ta C.trusts.length tc) := by rw [(bcell hb1).1 _ _ (by go_size)]; simp [go_sem]
         have p1 : w1.cell? ⟨w.heap.size, 1, none⟩ = some (.slice na C.nonces.length nc) := by rw [(bcell hb1).1 _ _ (by go_size)]; simp [go_sem]
         have p2 : w1.cell? ⟨w.heap.size + 1, 0, none⟩ = some (.slice none 0 0) := by rw [(bcell hb1).1 _ _ (by go_size)]; simp [go_sem]
         have p3 : w1.cell? ⟨w.heap.size + 1, 1, none⟩ = some (.slice none 0 0) := by rw [(bcell hb1).1 _ _ (by go_size)]; simp [go_sem]
         have p4 : ∀ o, w1.frozen? ⟨w.heap.size + 1, o, none⟩ = false := fun o => by rw [(bcell hb1).2 _ _ (by go_size)]; simp [go_sem]
         have z1 : w.heap.size + 1 < w1.heap.size := by have := hb1.size; simp at this; omega)
      | (refine step_append_nil rfl _ _ 33 rfl 3 j0 _ 1 8 Try.underlying33 hj0 hy0 hy1 hy2 rfl (by decide) rfl na C.nonces.length nc (intCells C.nonces) rfl (by simp [intCells]) (HN.out.cells.mono (Below.trans (by go_grown) (hb1.mono (by go_size)))) (intCells_one _) (by unfold maxLen; omega) (by omega) ?_
         intro a2 c2 w2 ho2 hg2
         have hb2 := below_grown hg2
         have q0 : w2.cell? ⟨w.heap.size, 0, none⟩ = some (.slice ta C.trusts.length tc) := by rw [(bcell hb2).1 _ _ (by omega)]; exact p0
         have q1 : w2.cell? ⟨w.heap.size, 1, none⟩ = some (.slice na C.nonces.length nc) := by rw [(bcell hb2).1 _ _ (by omega)]; exact p1
         have q2 : w2.cell? ⟨w.heap.size + 1, 0, none⟩ = some (.slice none 0 0) := by rw [(bcell hb2).1 _ _ (by omega)]; exact p2
         have q3 : w2.cell? ⟨w.heap.size + 1, 1, none⟩ = some (.slice none 0 0) := by rw [(bcell hb2).1 _ _ (by omega)]; exact p3
         have q4 : ∀ o, w2.frozen? ⟨w.heap.size + 1, o, none⟩ = false := fun o => by rw [(bcell hb2).2 _ _ (by omega)]; exact p4 o))
  go_wp2_with fail
  have g1 := ownsRow_setCell_below (ownsRow_setCell_below (ownsRow_below ho1 hb2) (a := ⟨w.heap.size + 1, 0, none⟩) (by go_size) (.slice a1 C.trusts.length c1)) (a := ⟨w.heap.size + 1, 1, none⟩) (by go_size) (.slice a2 C.nonces.length c2)
  have g2 := ownsRow_setCell_below (ownsRow_setCell_below ho2 (a := ⟨w.heap.size + 1, 0, none⟩) (by go_size) (.slice a1 C.trusts.length c1)) (a := ⟨w.heap.size + 1, 1, none⟩) (by go_size) (.slice a2 C.nonces.length c2)
  refine bodyPost_ret (v := .agg #[.slice a1 C.trusts.length c1, .slice a2 C.nonces.length c2]) (by simp [results, Try.results42, go_sem, q2, q3]) rfl ⟨_, rfl, ⟨_, _, rfl, ownsRow_mono g1 (by go_size), ownsRow_mono g2 (by omega), apart_of_lt ho1 ho2 (Nat.le_refl _)⟩, ?_⟩
  have B1 : Below w.heap.size w w1 := Below.trans (by go_grown) (hb1.mono (by go_size))
  exact Below.setCell (Below.setCell (B1.trans (hb2.mono (by omega))) (by simp) _) (by simp) _

end Go.Proofs.Ytaknndkaeelkbaa
