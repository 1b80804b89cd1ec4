/- epc.Place and its reference, walked. Condition: fewer than 2^63 frames. -/
import Derived.Test.YtlbjdjjdafnemaaImage
import Derived.Shelf.Abstract
namespace Go.Proofs.Ytlbjdjjdafnemaa
open Go.RowKit

def fitsB (e q : Int) (f : FrameD) : Bool := decide (f.owner = e) && decide (0 < f.owner) && decide (f.pl = q)
theorem place1_any (o p r : Int) (wv : Value) (e q : Int) (eb eo qb qo : Nat) (w : World) (he : w.cell? ⟨eb, eo, none⟩ = some (.int .i64 e)) (hq : w.cell? ⟨qb, qo, none⟩ = some (.int .i64 q)) (l : List Int) :
    Calls Try.prog 48 #[.agg #[.int .i64 o, .int .i64 p, .int .i64 r, wv], .pointer (some ⟨eb, eo, none⟩), .pointer (some ⟨qb, qo, none⟩)] w fun x w' => x = .returned (.bool (fitsB e q ⟨o, p, r, l⟩)) ∧ Below w.heap.size w w' := by
  have heb := World.block_lt_of_cell? _ _ he
  have hqb := World.block_lt_of_cell? _ _ hq
  simp only at heb hqb
  by_cases h1 : o = e
  · subst h1
    by_cases h2 : 0 < o
    · by_cases h3 : p = q
      all_goals
        go_enter Try.func48, Try.ntmps48
        go_wp2
        go_ret
        exact ⟨by simp [fitsB, h2, h3], (Below.refl _ _).alloc (Nat.le_refl _) _⟩
    · have h2' : decide (0 < o) = false := by simpa using h2
      go_enter Try.func48, Try.ntmps48
      go_wp2
      go_ret
      exact ⟨by simp [fitsB, h2'], (Below.refl _ _).alloc (Nat.le_refl _) _⟩
  · go_enter Try.func48, Try.ntmps48
    go_wp2
    go_ret
    exact ⟨by simp [fitsB, h1], (Below.refl _ _).alloc (Nat.le_refl _) _⟩
theorem enters_place1 : ∀ args w, (callFunc 48 args).run Try.prog w = .ok (.enter 48 args) w := enters_of Try.func48 (by kernel_rfl) rfl

theorem predAt2 {P : Program} {g : FuncId} {a b v : Value} {w : World} {r : Bool} (h : ∀ W, Below w.heap.size w W → Calls P g #[v, a, b] W fun e w' => e = .returned (.bool r) ∧ Below W.heap.size W w') : PredAt P g #[a, b] w v r := fun W hW => by
  have e : (#[v] ++ #[a, b] : Array Value) = #[v, a, b] := rfl
  rw [e]
  exact h W hW
def placeF (L : List FrameD) (e q : Int) : Int := findI (fitsB e q) L

set_option maxRecDepth 10000 in
set_option maxHeartbeats 800000 in
theorem epcPlace (fa : Option Addr) (L : List FrameD) (n fc : Nat) (ev qv : Value) (e q : Int) (w : World) (hl : L.length = n) (hn : n ≤ 9223372036854775807) (hc : FramesAt w fa L) :
    Calls Try.prog 44 #[.agg #[.slice fa n fc, ev, qv], .int .i64 e, .int .i64 q] w fun x w' => x = .returned (.int .i64 (placeF L e q)) ∧ Below w.heap.size w w' := by
  have HC := hid hc
  have HL := hid hl
  clear hc hl
  have B0 : ∀ X Y Z, Below w.heap.size w (((w.alloc X).alloc Y).alloc Z) := fun X Y Z => by go_grown
  go_enter Try.func44, Try.ntmps44
  go_wp2_with fail
  refine (indexFuncFrames 48 #[.pointer (some ⟨w.heap.size + 1, 0, none⟩), .pointer (some ⟨w.heap.size + 1 + 1, 0, none⟩)] fa L n fc (fitsB e q) _ hn HL.out enters_place1 (HC.out.mono (B0 _ _ _)) (fun i x wv hx => predAt2 fun W hW => place1_any x.owner x.pl x.rights wv e q _ _ _ _ W (cell_later hW (by go_simp)) (cell_later hW (by go_simp)) x.words)).mono ?_
  rintro x w1 ⟨rfl, hb1⟩
  go_wp2_with fail
  go_ret
  exact ⟨rfl, (B0 _ _ _).trans (hb1.mono (by go_size))⟩

set_option maxRecDepth 10000 in
set_option maxHeartbeats 1600000 in
theorem refPlace (fa : Option Addr) (L : List FrameD) (n fc : Nat) (ev qv : Value) (e q : Int) (w : World) (hl : L.length = n) (hn : n ≤ 9223372036854775807) (hc : FramesAt w fa L) :
    Calls Try.prog 35 #[.agg #[.slice fa n fc, ev, qv], .int .i64 e, .int .i64 q] w fun x w' => x = .returned (.int .i64 (placeF L e q)) ∧ Below w.heap.size w w' := by
  have HC := hid hc
  have HL := hid hl
  clear hc hl
  have B0 : ∀ X, Below w.heap.size w (w.alloc X) := fun X => by go_grown
  go_enter Try.func35, Try.ntmps35
  go_wp2_with fail
  refine wp_gen (fun W0 => Below w.heap.size w W0 ∧ W0.cell? ⟨w.heap.size, 0, none⟩ = some (.slice fa n fc)) ⟨by go_grown, by go_simp⟩ ?_
  rintro W0 ⟨hb0, c0⟩
  go_loop [7] (fun j => ∃ i : Nat, i ≤ n ∧ j = .int .i64 i ∧ Hid (∀ (j : Nat) y, j < i → L[j]? = some y → fitsB e q y = false)) (fun j => n - (intOf j).toNat)
  case atStart => exact ⟨0, by omega, rfl, fun _ _ h => by omega⟩
  case round =>
    obtain ⟨i, hi, rfl, HI⟩ := hrel
    by_cases hlt : i < n
    · obtain ⟨x, hx⟩ : ∃ x, L[i]? = some x := ⟨_, List.getElem?_eq_getElem (by rw [HL.out]; exact hlt)⟩
      obtain ⟨b, off, wa, wc, rfl, k0, k1, _, _, _⟩ := HC.out i x hx
      have l0 := cell_later hb0 k0
      have l1 := cell_later hb0 k1
      have HX := hid hx
      clear hx k0 k1
      have hstep : Hid (fitsB e q x = false → ∀ (j : Nat) y, j < i + 1 → L[j]? = some y → fitsB e q y = false) := fun hf j y hj hy => by
        by_cases hji : j < i
        · exact HI.out j y hji hy
        · obtain rfl : j = i := by omega
          rw [HX.out] at hy
          rw [← Option.some.inj hy]
          exact hf
      by_cases h0 : 0 < e
      · by_cases h1 : x.owner = e
        · by_cases h2 : x.pl = q
          · have hR : Hid (placeF L e q = i) := findI_some HX.out (by simp only [fitsB, Bool.and_eq_true, decide_eq_true_eq]; exact ⟨⟨h1, by omega⟩, h2⟩) HI.out
            have h1b : (x.owner == e) = true := by rw [beq_iff_eq]; exact h1
            have h2b : (x.pl == q) = true := by rw [beq_iff_eq]; exact h2
            clear h1 h2
            go_wp2_with fail
            go_ret
            exact ⟨by rw [hR.out]; rfl, hb0⟩
          · have h1b : (x.owner == e) = true := by rw [beq_iff_eq]; exact h1
            have h2b : (x.pl == q) = false := by rw [beq_eq_false_iff_ne]; exact h2
            have hf := hid (hstep.out (by simp [fitsB, h2]))
            clear h1 h2
            go_wp2_with fail
            go_round
            case rel => exact ⟨i + 1, by omega, by go_num, hf.out⟩
            case measure => simp [intOf]; omega
        · have h1b : (x.owner == e) = false := by rw [beq_eq_false_iff_ne]; exact h1
          have hf := hid (hstep.out (by simp [fitsB, h1]))
          clear h1
          go_wp2_with fail
          go_round
          case rel => exact ⟨i + 1, by omega, by go_num, hf.out⟩
          case measure => simp [intOf]; omega
      · have h0b : decide (0 < e) = false := by simpa using h0
        have hf := hid (hstep.out (by
          simp only [fitsB]
          by_cases h1 : x.owner = e
          · rw [h1, h0b]; simp
          · simp [h1]))
        clear h0
        go_wp2_with fail
        go_round
        case rel => exact ⟨i + 1, by omega, by go_num, hf.out⟩
        case measure => simp [intOf]; omega
    · obtain rfl : i = n := by omega
      have hR : Hid (placeF L e q = -1) := findI_none fun j y hy => HI.out j y (by rw [← HL.out]; exact (List.getElem?_eq_some_iff.1 hy).1) hy
      go_wp2_with fail
      go_ret
      exact ⟨by rw [hR.out]; rfl, hb0⟩

end Go.Proofs.Ytlbjdjjdafnemaa
