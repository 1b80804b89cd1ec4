/- slices.Clone of acts, and 'make' of acts that are too many. Condition: the slice takes at most 2^47 - 4096 bytes. -/
import Derived.Test.YtbamacddfonloaaDoorConcat
namespace Go.Proofs.YtbamacddfonloaaDoor
open Go.RowKit

set_option maxRecDepth 10000 in
set_option maxHeartbeats 400000 in
theorem cloneActs (a : Option Addr) (n cap : Nat) (cs : List Value) (w : World) (hl : cs.length = n * 7) (h1 : ∀ u ∈ cs, u.oneCell' = true) (hc : CellsAt w a cs) (hn : n * 56 ≤ 140737488351232) :
    Calls Tryd.prog 13 #[.slice a n cap] w (OwnRes w.heap.size 33 7 n cs w) := by
  obtain ⟨i0, hi, hz0, hz1, hz2⟩ := info_parts infoActs
  have HL := hid hl
  have H1 := hid h1
  have HC := hid hc
  clear hl h1 hc
  cases a with
  | none =>
    obtain rfl : cs = [] := by
      cases cs with
      | nil => rfl
      | cons u cs => obtain ⟨b, off, e, _⟩ := HC.out 0 u rfl; cases e
    obtain rfl : n = 0 := by have h := HL.out; simp only [List.length_nil] at h; omega
    have heq : ∀ w, (binOp .eql 25 (.slice none 0 cap) (.slice none 0 0)).run Tryd.prog w = .ok (.bool true) w := fun w => Lib.run_eql_slice_nil w _ _ _ _ _ _ _ Tryd.underlying25
    go_enter Tryd.func13, Tryd.ntmps13
    go_wp2_with fail
    go_ret
    exact ⟨_, _, rfl, World.ownsRow_nil _ _ _ _, Below.refl _ _⟩
  | some ad =>
    have hb : w.heap.size ≤ (w.alloc (.cells #[] 33)).heap.size := by simp
    have hown : (w.alloc (.cells #[] 33)).ownsRow w.heap.size 33 7 (.slice (some ⟨w.heap.size, 0, none⟩) 0 0) 0 [] := World.ownsRow_made w #[] 0 (Nat.le_refl _) (by decide) (by simp)
    have heq : ∀ w, (binOp .eql 25 (.slice (some ad) n cap) (.slice none 0 0)).run Tryd.prog w = .ok (.bool false) w := fun w => Lib.run_eql_slice_nil w _ _ _ _ _ _ _ Tryd.underlying25
    go_enter Tryd.func13, Tryd.ntmps13
    go_wp2_with (at_builtin; refine wpList_append_own _ rfl _ _ 25 rfl w.heap.size 33 i0 _ 7 56 Tryd.underlying25 hi hz0 hz1 hz2 rfl (by decide) _ 0 [] rfl hown ad n cap cs rfl HL.out ?c1 H1.out ?c2 ?c3 hb ?_)
    case c1 =>
      intro j u hj
      obtain ⟨b, off, e, h⟩ := HC.out j u hj
      obtain rfl := Option.some.inj e
      rw [add_plain]
      exact cell_later ((Below.refl _ _).alloc (Nat.le_refl _) _) h
    case c2 => unfold maxLen; omega
    case c3 => omega
    intro v' w1 hown1 hgrow _
    obtain ⟨a1, c1, rfl, _⟩ := CellsAt.of_own hown1
    have HO := hid hown1
    have hB : Below w.heap.size w w1 := ((Below.refl _ _).alloc (Nat.le_refl _) _).grown hgrow hb (fun k hk => by simp [Value.ownBlock] at hk; omega)
    clear hown1 hown
    go_wp2_with fail
    go_ret
    exact ⟨a1, c1, rfl, HO.out, hB⟩
def manyA : List ActD := List.replicate 201 ⟨0, 0, 0, 0, 0, 0, 0⟩
def noAct : Value := .agg #[.int .i64 0, .int .i64 0, .int .i64 0, .int .i64 0, .int .i64 0, .int .i64 0, .int .i64 0]
def zero201 : Array Value := madeCells noAct.cells (201 * 7)
theorem noAct_get (k : Nat) (h : k < 7) : noAct.cells[k]! = .int .i64 0 := by
  rcases k with _ | _ | _ | _ | _ | _ | _ | k
  · rfl
  · rfl
  · rfl
  · rfl
  · rfl
  · rfl
  · rfl
  · omega
theorem zero201_get (j : Nat) (h : j < 201 * 7) : zero201.toList[j]? = some (.int .i64 0) := by
  have hs : noAct.cells.size = 7 := rfl
  rw [Array.getElem?_toList, zero201, madeCells, Array.getElem?_map, Array.getElem?_range, if_pos h]
  simp only [Option.map_some, hs]
  rw [noAct_get _ (Nat.mod_lt _ (by decide))]
theorem many_get (j : Nat) (u : Value) (h : (manyA.flatMap ActD.cs)[j]? = some u) : j < 201 * 7 ∧ u = .int .i64 0 := by
  have hj := (List.getElem?_eq_some_iff.1 h).1
  rw [actCells_len, manyA, List.length_replicate] at hj
  obtain ⟨x, hx, hu⟩ := List.mem_flatMap.1 (List.mem_of_getElem? h)
  rw [manyA] at hx
  obtain rfl := (List.mem_replicate.1 hx).2
  simp only [ActD.cs, List.mem_cons, List.not_mem_nil, or_false, or_self] at hu
  exact ⟨hj, hu⟩
theorem make201 (w : World) : (Instr.makeSlice 25 (.int .i64 201) (.int .i64 201)).run Tryd.prog w = .ok (.slice (some ⟨w.heap.size, 0, none⟩) 201 201) (w.alloc (.cells zero201 33)) := by
  obtain ⟨i0, hi0, hz0, hz1, hz2⟩ := info_parts infoActs
  have := run_make (P := Tryd.prog) w 25 33 i0 _ Tryd.underlying25 hi0 hz0 .i64 .i64 201 201 (by decide) (by decide) (by rw [hz2]; decide) (by decide)
  rw [hz1] at this
  exact this
theorem many_at {W : World} {n : Nat} (hn : W.heap.size = n) (t : TypeId) : ActsAt (W.alloc (.cells zero201 t)) (some ⟨n, 0, none⟩) manyA :=
  CellsAt.acts fun j u hj => by
    obtain ⟨h1, rfl⟩ := many_get j u hj
    have := news_new hn zero201 t j _ (zero201_get j h1)
    rw [add_plain] at this
    exact ⟨n, 0, rfl, this⟩

end Go.Proofs.YtbamacddfonloaaDoor
