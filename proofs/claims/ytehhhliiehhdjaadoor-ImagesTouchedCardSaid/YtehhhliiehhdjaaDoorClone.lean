/- slices.Clone at the types of this program: the same cells in memory of the call's own. Condition: the slice takes at most 2^47 - 4096 bytes. -/
import Derived.Test.YtehhhliiehhdjaaDoorBase
namespace Go.Proofs.YtehhhliiehhdjaaDoor
open Go.RowKit

theorem infoInts : (Tryd.prog.info? 3).map (fun i => (i.zero, i.size, i.bytes)) = some (some (.int .i64 0), 1, 8) := by kernel_rfl
set_option maxRecDepth 10000 in
set_option maxHeartbeats 400000 in
theorem cloneInts (a : Option Addr) (n cap : Nat) (cs : List Value) (w : World) (hl : cs.length = n * 1) (h1 : ∀ u ∈ cs, u.oneCell' = true) (hc : CellsAt w a cs) (hn : n * 8 ≤ 140737488351232) :
    Calls Tryd.prog 37 #[.slice a n cap] w (OwnRes w.heap.size 3 1 n cs w) := by
  obtain ⟨i0, hi, hz0, hz1, hz2⟩ := info_parts infoInts
  have HL := hid hl
  have H1 := hid h1
  have HC := hid hc
  clear hl h1 hc
  cases a with
  | none =>
    obtain rfl : cs = [] := by
      cases cs with
      | nil => rfl
      | cons u cs => obtain ⟨b, off, e, _⟩ := HC.out 0 u rfl; cases e
    obtain rfl : n = 0 := by have h := HL.out; simp only [List.length_nil] at h; omega
    have heq : ∀ w, (binOp .eql 38 (.slice none 0 cap) (.slice none 0 0)).run Tryd.prog w = .ok (.bool true) w := fun w => Lib.run_eql_slice_nil w _ _ _ _ _ _ _ Tryd.underlying38
    go_enter Tryd.func37, Tryd.ntmps37
    go_wp2_with fail
    go_ret
    exact ⟨_, _, rfl, World.ownsRow_nil _ _ _ _, Below.refl _ _⟩
  | some ad =>
    have hb : w.heap.size ≤ (w.alloc (.cells #[] 3)).heap.size := by simp
    have hown : (w.alloc (.cells #[] 3)).ownsRow w.heap.size 3 1 (.slice (some ⟨w.heap.size, 0, none⟩) 0 0) 0 [] := World.ownsRow_made w #[] 0 (Nat.le_refl _) (by decide) (by simp)
    have heq : ∀ w, (binOp .eql 38 (.slice (some ad) n cap) (.slice none 0 0)).run Tryd.prog w = .ok (.bool false) w := fun w => Lib.run_eql_slice_nil w _ _ _ _ _ _ _ Tryd.underlying38
    go_enter Tryd.func37, Tryd.ntmps37
    go_wp2_with (at_builtin; refine wpList_append_own _ rfl _ _ 38 rfl w.heap.size 3 i0 _ 1 8 Tryd.underlying38 hi hz0 hz1 hz2 rfl (by decide) _ 0 [] rfl hown ad n cap cs rfl HL.out ?c1 H1.out ?c2 ?c3 hb ?_)
    case c1 =>
      intro j u hj
      obtain ⟨b, off, e, h⟩ := HC.out j u hj
      obtain rfl := Option.some.inj e
      rw [add_plain]
      exact cell_later ((Below.refl _ _).alloc (Nat.le_refl _) _) h
    case c2 => unfold maxLen; omega
    case c3 => omega
    intro v' w1 hown1 hgrow _
    obtain ⟨a1, c1, rfl, _⟩ := CellsAt.of_own hown1
    have HO := hid hown1
    have hB : Below w.heap.size w w1 := ((Below.refl _ _).alloc (Nat.le_refl _) _).grown hgrow hb (fun k hk => by simp [Value.ownBlock] at hk; omega)
    clear hown1 hown
    go_wp2_with fail
    go_ret
    exact ⟨a1, c1, rfl, HO.out, hB⟩
theorem infoStrs : (Tryd.prog.info? 9).map (fun i => (i.zero, i.size, i.bytes)) = some (some (.string ⟨#[]⟩), 1, 16) := by kernel_rfl
theorem infoEncls : (Tryd.prog.info? 64).map (fun i => (i.zero, i.size, i.bytes)) = some (some (.agg #[.int .i64 0, .string ⟨#[]⟩, .int .i64 0, .int .i64 0, .int .i64 0, .int .i64 0, .int .i64 0]), 7, 64) := by kernel_rfl
set_option maxRecDepth 10000 in
set_option maxHeartbeats 400000 in
theorem cloneEncls (a : Option Addr) (n cap : Nat) (cs : List Value) (w : World) (hl : cs.length = n * 7) (h1 : ∀ u ∈ cs, u.oneCell' = true) (hc : CellsAt w a cs) (hn : n * 64 ≤ 140737488351232) :
    Calls Tryd.prog 43 #[.slice a n cap] w (OwnRes w.heap.size 64 7 n cs w) := by
  obtain ⟨i0, hi, hz0, hz1, hz2⟩ := info_parts infoEncls
  have HL := hid hl
  have H1 := hid h1
  have HC := hid hc
  clear hl h1 hc
  cases a with
  | none =>
    obtain rfl : cs = [] := by
      cases cs with
      | nil => rfl
      | cons u cs => obtain ⟨b, off, e, _⟩ := HC.out 0 u rfl; cases e
    obtain rfl : n = 0 := by have h := HL.out; simp only [List.length_nil] at h; omega
    have heq : ∀ w, (binOp .eql 23 (.slice none 0 cap) (.slice none 0 0)).run Tryd.prog w = .ok (.bool true) w := fun w => Lib.run_eql_slice_nil w _ _ _ _ _ _ _ Tryd.underlying23
    go_enter Tryd.func43, Tryd.ntmps43
    go_wp2_with fail
    go_ret
    exact ⟨_, _, rfl, World.ownsRow_nil _ _ _ _, Below.refl _ _⟩
  | some ad =>
    have hb : w.heap.size ≤ (w.alloc (.cells #[] 64)).heap.size := by simp
    have hown : (w.alloc (.cells #[] 64)).ownsRow w.heap.size 64 7 (.slice (some ⟨w.heap.size, 0, none⟩) 0 0) 0 [] := World.ownsRow_made w #[] 0 (Nat.le_refl _) (by decide) (by simp)
    have heq : ∀ w, (binOp .eql 23 (.slice (some ad) n cap) (.slice none 0 0)).run Tryd.prog w = .ok (.bool false) w := fun w => Lib.run_eql_slice_nil w _ _ _ _ _ _ _ Tryd.underlying23
    go_enter Tryd.func43, Tryd.ntmps43
    go_wp2_with (at_builtin; refine wpList_append_own _ rfl _ _ 23 rfl w.heap.size 64 i0 _ 7 64 Tryd.underlying23 hi hz0 hz1 hz2 rfl (by decide) _ 0 [] rfl hown ad n cap cs rfl HL.out ?c1 H1.out ?c2 ?c3 hb ?_)
    case c1 =>
      intro j u hj
      obtain ⟨b, off, e, h⟩ := HC.out j u hj
      obtain rfl := Option.some.inj e
      rw [add_plain]
      exact cell_later ((Below.refl _ _).alloc (Nat.le_refl _) _) h
    case c2 => unfold maxLen; omega
    case c3 => omega
    intro v' w1 hown1 hgrow _
    obtain ⟨a1, c1, rfl, _⟩ := CellsAt.of_own hown1
    have HO := hid hown1
    have hB : Below w.heap.size w w1 := ((Below.refl _ _).alloc (Nat.le_refl _) _).grown hgrow hb (fun k hk => by simp [Value.ownBlock] at hk; omega)
    clear hown1 hown
    go_wp2_with fail
    go_ret
    exact ⟨a1, c1, rfl, HO.out, hB⟩
theorem infoQuotes : (Tryd.prog.info? 78).map (fun i => (i.zero, i.size, i.bytes)) = some (some (.agg #[.string ⟨#[]⟩, .int .i64 0]), 2, 24) := by kernel_rfl
set_option maxRecDepth 10000 in
set_option maxHeartbeats 400000 in
theorem cloneQuotes (a : Option Addr) (n cap : Nat) (cs : List Value) (w : World) (hl : cs.length = n * 2) (h1 : ∀ u ∈ cs, u.oneCell' = true) (hc : CellsAt w a cs) (hn : n * 24 ≤ 140737488351232) :
    Calls Tryd.prog 44 #[.slice a n cap] w (OwnRes w.heap.size 78 2 n cs w) := by
  obtain ⟨i0, hi, hz0, hz1, hz2⟩ := info_parts infoQuotes
  have HL := hid hl
  have H1 := hid h1
  have HC := hid hc
  clear hl h1 hc
  cases a with
  | none =>
    obtain rfl : cs = [] := by
      cases cs with
      | nil => rfl
      | cons u cs => obtain ⟨b, off, e, _⟩ := HC.out 0 u rfl; cases e
    obtain rfl : n = 0 := by have h := HL.out; simp only [List.length_nil] at h; omega
    have heq : ∀ w, (binOp .eql 24 (.slice none 0 cap) (.slice none 0 0)).run Tryd.prog w = .ok (.bool true) w := fun w => Lib.run_eql_slice_nil w _ _ _ _ _ _ _ Tryd.underlying24
    go_enter Tryd.func44, Tryd.ntmps44
    go_wp2_with fail
    go_ret
    exact ⟨_, _, rfl, World.ownsRow_nil _ _ _ _, Below.refl _ _⟩
  | some ad =>
    have hb : w.heap.size ≤ (w.alloc (.cells #[] 78)).heap.size := by simp
    have hown : (w.alloc (.cells #[] 78)).ownsRow w.heap.size 78 2 (.slice (some ⟨w.heap.size, 0, none⟩) 0 0) 0 [] := World.ownsRow_made w #[] 0 (Nat.le_refl _) (by decide) (by simp)
    have heq : ∀ w, (binOp .eql 24 (.slice (some ad) n cap) (.slice none 0 0)).run Tryd.prog w = .ok (.bool false) w := fun w => Lib.run_eql_slice_nil w _ _ _ _ _ _ _ Tryd.underlying24
    go_enter Tryd.func44, Tryd.ntmps44
    go_wp2_with (at_builtin; refine wpList_append_own _ rfl _ _ 24 rfl w.heap.size 78 i0 _ 2 24 Tryd.underlying24 hi hz0 hz1 hz2 rfl (by decide) _ 0 [] rfl hown ad n cap cs rfl HL.out ?c1 H1.out ?c2 ?c3 hb ?_)
    case c1 =>
      intro j u hj
      obtain ⟨b, off, e, h⟩ := HC.out j u hj
      obtain rfl := Option.some.inj e
      rw [add_plain]
      exact cell_later ((Below.refl _ _).alloc (Nat.le_refl _) _) h
    case c2 => unfold maxLen; omega
    case c3 => omega
    intro v' w1 hown1 hgrow _
    obtain ⟨a1, c1, rfl, _⟩ := CellsAt.of_own hown1
    have HO := hid hown1
    have hB : Below w.heap.size w w1 := ((Below.refl _ _).alloc (Nat.le_refl _) _).grown hgrow hb (fun k hk => by simp [Value.ownBlock] at hk; omega)
    clear hown1 hown
    go_wp2_with fail
    go_ret
    exact ⟨a1, c1, rfl, HO.out, hB⟩

end Go.Proofs.YtehhhliiehhdjaaDoor
