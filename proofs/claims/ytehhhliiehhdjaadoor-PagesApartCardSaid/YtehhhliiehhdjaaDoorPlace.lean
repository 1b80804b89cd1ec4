/- epc.Place and its reference, walked. Condition: fewer than 2^63 frames. -/
import Derived.Test.YtehhhliiehhdjaaDoorImage
import Derived.Shelf.Abstract
namespace Go.Proofs.YtehhhliiehhdjaaDoor
open Go.RowKit

def fitsB (e q : Int) (f : FrameD) : Bool := decide (f.owner = e) && decide (0 < f.owner) && decide (f.pl = q)
theorem place1_any (o p r : Int) (wv : Value) (e q : Int) (eb eo qb qo : Nat) (w : World) (he : w.cell? ⟨eb, eo, none⟩ = some (.int .i64 e)) (hq : w.cell? ⟨qb, qo, none⟩ = some (.int .i64 q)) (l : List Int) :
    Calls Tryd.prog 29 #[.agg #[.int .i64 o, .int .i64 p, .int .i64 r, wv], .pointer (some ⟨eb, eo, none⟩), .pointer (some ⟨qb, qo, none⟩)] w fun x w' => x = .returned (.bool (fitsB e q ⟨o, p, r, l⟩)) ∧ Below w.heap.size w w' := by
  have heb := World.block_lt_of_cell? _ _ he
  have hqb := World.block_lt_of_cell? _ _ hq
  simp only at heb hqb
  by_cases h1 : o = e
  · subst h1
    by_cases h2 : 0 < o
    · by_cases h3 : p = q
      all_goals
        go_enter Tryd.func29, Tryd.ntmps29
        go_wp2
        go_ret
        exact ⟨by simp [fitsB, h2, h3], (Below.refl _ _).alloc (Nat.le_refl _) _⟩
    · have h2' : decide (0 < o) = false := by simpa using h2
      go_enter Tryd.func29, Tryd.ntmps29
      go_wp2
      go_ret
      exact ⟨by simp [fitsB, h2'], (Below.refl _ _).alloc (Nat.le_refl _) _⟩
  · go_enter Tryd.func29, Tryd.ntmps29
    go_wp2
    go_ret
    exact ⟨by simp [fitsB, h1], (Below.refl _ _).alloc (Nat.le_refl _) _⟩
theorem enters_place1 : ∀ args w, (callFunc 29 args).run Tryd.prog w = .ok (.enter 29 args) w := enters_of Tryd.func29 (by kernel_rfl) rfl

theorem predAt2 {P : Program} {g : FuncId} {a b v : Value} {w : World} {r : Bool} (h : ∀ W, Below w.heap.size w W → Calls P g #[v, a, b] W fun e w' => e = .returned (.bool r) ∧ Below W.heap.size W w') : PredAt P g #[a, b] w v r := fun W hW => by
  have e : (#[v] ++ #[a, b] : Array Value) = #[v, a, b] := rfl
  rw [e]
  exact h W hW
def placeF (L : List FrameD) (e q : Int) : Int := findI (fitsB e q) L

set_option maxRecDepth 10000 in
set_option maxHeartbeats 800000 in
theorem epcPlace (fa : Option Addr) (L : List FrameD) (n fc : Nat) (ev qv : Value) (e q : Int) (w : World) (hl : L.length = n) (hn : n ≤ 9223372036854775807) (hc : FramesAt w fa L) :
    Calls Tryd.prog 13 #[.agg #[.slice fa n fc, ev, qv], .int .i64 e, .int .i64 q] w fun x w' => x = .returned (.int .i64 (placeF L e q)) ∧ Below w.heap.size w w' := by
  have HC := hid hc
  have HL := hid hl
  clear hc hl
  have B0 : ∀ X Y Z, Below w.heap.size w (((w.alloc X).alloc Y).alloc Z) := fun X Y Z => by go_grown
  go_enter Tryd.func13, Tryd.ntmps13
  go_wp2_with fail
  refine (indexFuncFrames 29 #[.pointer (some ⟨w.heap.size + 1, 0, none⟩), .pointer (some ⟨w.heap.size + 1 + 1, 0, none⟩)] fa L n fc (fitsB e q) _ hn HL.out enters_place1 (HC.out.mono (B0 _ _ _)) (fun i x wv hx => predAt2 fun W hW => place1_any x.owner x.pl x.rights wv e q _ _ _ _ W (cell_later hW (by go_simp)) (cell_later hW (by go_simp)) x.words)).mono ?_
  rintro x w1 ⟨rfl, hb1⟩
  go_wp2_with fail
  go_ret
  exact ⟨rfl, (B0 _ _ _).trans (hb1.mono (by go_size))⟩

end Go.Proofs.YtehhhliiehhdjaaDoor
