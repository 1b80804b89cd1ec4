/- epc.Place and its reference, walked. Condition: fewer than 2^63 frames.
epc.enclave, epc.Check's closures, ref.regsMay, walked. No condition. -/
import Derived.Test.YtklbbjionoeofaaGreatDoorGb
import Derived.Shelf.Abstract
namespace Go.Proofs.YtklbbjionoeofaaGreatDoor
open Go.RowKit

def fitsB (e q : Int) (f : FrameD) : Bool := decide (f.owner = e) && decide (0 < f.owner) && decide (f.pl = q)
theorem place1_any (o p r : Int) (wv : Value) (e q : Int) (eb eo qb qo : Nat) (w : World) (he : w.cell? ⟨eb, eo, none⟩ = some (.int .i64 e)) (hq : w.cell? ⟨qb, qo, none⟩ = some (.int .i64 q)) (l : List Int) :
    Calls Tryz.prog 85 #[.agg #[.int .i64 o, .int .i64 p, .int .i64 r, wv], .pointer (some ⟨eb, eo, none⟩), .pointer (some ⟨qb, qo, none⟩)] w fun x w' => x = .returned (.bool (fitsB e q ⟨o, p, r, l⟩)) ∧ Below w.heap.size w w' := by
  have heb := World.block_lt_of_cell? _ _ he
  have hqb := World.block_lt_of_cell? _ _ hq
  simp only at heb hqb
  by_cases h1 : o = e
  · subst h1
    by_cases h2 : 0 < o
    · by_cases h3 : p = q
      all_goals
        go_enter Tryz.func85, Tryz.ntmps85
        go_wp2
        go_ret
        exact ⟨by simp [fitsB, h2, h3], (Below.refl _ _).alloc (Nat.le_refl _) _⟩
    · have h2' : decide (0 < o) = false := by simpa using h2
      go_enter Tryz.func85, Tryz.ntmps85
      go_wp2
      go_ret
      exact ⟨by simp [fitsB, h2'], (Below.refl _ _).alloc (Nat.le_refl _) _⟩
  · go_enter Tryz.func85, Tryz.ntmps85
    go_wp2
    go_ret
    exact ⟨by simp [fitsB, h1], (Below.refl _ _).alloc (Nat.le_refl _) _⟩
theorem enters_place1 : ∀ args w, (callFunc 85 args).run Tryz.prog w = .ok (.enter 85 args) w := enters_of Tryz.func85 (by kernel_rfl) rfl

theorem predAt2 {P : Program} {g : FuncId} {a b v : Value} {w : World} {r : Bool} (h : ∀ W, Below w.heap.size w W → Calls P g #[v, a, b] W fun e w' => e = .returned (.bool r) ∧ Below W.heap.size W w') : PredAt P g #[a, b] w v r := fun W hW => by
  have e : (#[v] ++ #[a, b] : Array Value) = #[v, a, b] := rfl
  rw [e]
  exact h W hW
def placeF (L : List FrameD) (e q : Int) : Int := findI (fitsB e q) L

set_option maxRecDepth 10000 in
set_option maxHeartbeats 800000 in
theorem epcPlace (fa : Option Addr) (L : List FrameD) (n fc : Nat) (ev qv : Value) (e q : Int) (w : World) (hl : L.length = n) (hn : n ≤ 9223372036854775807) (hc : FramesAt w fa L) :
    Calls Tryz.prog 64 #[.agg #[.slice fa n fc, ev, qv], .int .i64 e, .int .i64 q] w fun x w' => x = .returned (.int .i64 (placeF L e q)) ∧ Below w.heap.size w w' := by
  have HC := hid hc
  have HL := hid hl
  clear hc hl
  have B0 : ∀ X Y Z, Below w.heap.size w (((w.alloc X).alloc Y).alloc Z) := fun X Y Z => by go_grown
  go_enter Tryz.func64, Tryz.ntmps64
  go_wp2_with fail
  refine (indexFuncFrames 85 #[.pointer (some ⟨w.heap.size + 1, 0, none⟩), .pointer (some ⟨w.heap.size + 1 + 1, 0, none⟩)] fa L n fc (fitsB e q) _ hn HL.out enters_place1 (HC.out.mono (B0 _ _ _)) (fun i x wv hx => predAt2 fun W hW => place1_any x.owner x.pl x.rights wv e q _ _ _ _ W (cell_later hW (by go_simp)) (cell_later hW (by go_simp)) x.words)).mono ?_
  rintro x w1 ⟨rfl, hb1⟩
  go_wp2_with fail
  go_ret
  exact ⟨rfl, (B0 _ _ _).trans (hb1.mono (by go_size))⟩

set_option maxRecDepth 10000 in
set_option maxHeartbeats 1600000 in
theorem refPlace (fa : Option Addr) (L : List FrameD) (n fc : Nat) (ev qv : Value) (e q : Int) (w : World) (hl : L.length = n) (hn : n ≤ 9223372036854775807) (hc : FramesAt w fa L) :
    Calls Tryz.prog 53 #[.agg #[.slice fa n fc, ev, qv], .int .i64 e, .int .i64 q] w fun x w' => x = .returned (.int .i64 (placeF L e q)) ∧ Below w.heap.size w w' := by
  have HC := hid hc
  have HL := hid hl
  clear hc hl
  have B0 : ∀ X, Below w.heap.size w (w.alloc X) := fun X => by go_grown
  go_enter Tryz.func53, Tryz.ntmps53
  go_wp2_with fail
  refine wp_gen (fun W0 => Below w.heap.size w W0 ∧ W0.cell? ⟨w.heap.size, 0, none⟩ = some (.slice fa n fc)) ⟨by go_grown, by go_simp⟩ ?_
  rintro W0 ⟨hb0, c0⟩
  go_loop [7] (fun j => ∃ i : Nat, i ≤ n ∧ j = .int .i64 i ∧ Hid (∀ (j : Nat) y, j < i → L[j]? = some y → fitsB e q y = false)) (fun j => n - (intOf j).toNat)
  case atStart => exact ⟨0, by omega, rfl, fun _ _ h => by omega⟩
  case round =>
    obtain ⟨i, hi, rfl, HI⟩ := hrel
    by_cases hlt : i < n
    · obtain ⟨x, hx⟩ : ∃ x, L[i]? = some x := ⟨_, List.getElem?_eq_getElem (by rw [HL.out]; exact hlt)⟩
      obtain ⟨b, off, wa, wc, rfl, k0, k1, _, _, _⟩ := HC.out i x hx
      have l0 := cell_later hb0 k0
      have l1 := cell_later hb0 k1
      have HX := hid hx
      clear hx k0 k1
      have hstep : Hid (fitsB e q x = false → ∀ (j : Nat) y, j < i + 1 → L[j]? = some y → fitsB e q y = false) := fun hf j y hj hy => by
        by_cases hji : j < i
        · exact HI.out j y hji hy
        · obtain rfl : j = i := by omega
          rw [HX.out] at hy
          rw [← Option.some.inj hy]
          exact hf
      by_cases h0 : 0 < e
      · by_cases h1 : x.owner = e
        · by_cases h2 : x.pl = q
          · have hR : Hid (placeF L e q = i) := findI_some HX.out (by simp only [fitsB, Bool.and_eq_true, decide_eq_true_eq]; exact ⟨⟨h1, by omega⟩, h2⟩) HI.out
            have h1b : (x.owner == e) = true := by rw [beq_iff_eq]; exact h1
            have h2b : (x.pl == q) = true := by rw [beq_iff_eq]; exact h2
            clear h1 h2
            go_wp2_with fail
            go_ret
            exact ⟨by rw [hR.out]; rfl, hb0⟩
          · have h1b : (x.owner == e) = true := by rw [beq_iff_eq]; exact h1
            have h2b : (x.pl == q) = false := by rw [beq_eq_false_iff_ne]; exact h2
            have hf := hid (hstep.out (by simp [fitsB, h2]))
            clear h1 h2
            go_wp2_with fail
            go_round
            case rel => exact ⟨i + 1, by omega, by go_num, hf.out⟩
            case measure => simp [intOf]; omega
        · have h1b : (x.owner == e) = false := by rw [beq_eq_false_iff_ne]; exact h1
          have hf := hid (hstep.out (by simp [fitsB, h1]))
          clear h1
          go_wp2_with fail
          go_round
          case rel => exact ⟨i + 1, by omega, by go_num, hf.out⟩
          case measure => simp [intOf]; omega
      · have h0b : decide (0 < e) = false := by simpa using h0
        have hf := hid (hstep.out (by
          simp only [fitsB]
          by_cases h1 : x.owner = e
          · rw [h1, h0b]; simp
          · simp [h1]))
        clear h0
        go_wp2_with fail
        go_round
        case rel => exact ⟨i + 1, by omega, by go_num, hf.out⟩
        case measure => simp [intOf]; omega
    · obtain rfl : i = n := by omega
      have hR : Hid (placeF L e q = -1) := findI_none fun j y hy => HI.out j y (by rw [← HL.out]; exact (List.getElem?_eq_some_iff.1 hy).1) hy
      go_wp2_with fail
      go_ret
      exact ⟨by rw [hR.out]; rfl, hb0⟩

end Go.Proofs.YtklbbjionoeofaaGreatDoor

namespace Go.Proofs.YtklbbjionoeofaaGreatDoor
open Go.RowKit

def zeroRegs (x : EnclD) : Bool := x.r0 == 0 && (x.r1 == 0 && (x.r2 == 0 && x.r3 == 0))
def wordRegs (x : EnclD) : Bool := !([x.r0, x.r1, x.r2, x.r3].any fun n => !inR n 0 65535)
def enclB (x : EnclD) : Bool := inR x.state 0 4 && !longB' x.log && !(x.state == 0 && !x.log.toList.isEmpty) && (if x.state = 3 then inR x.pc 0 65535 && wordRegs x else x.pc == 0 && zeroRegs x)
where longB' (s : ByteArray) : Bool := decide (1000 < s.size)

theorem eqlArr4 (a0 a1 a2 a3 b0 b1 b2 b3 : Int) (w : World) : (binOp .eql 75 (.agg #[.int .i64 a0, .int .i64 a1, .int .i64 a2, .int .i64 a3]) (.agg #[.int .i64 b0, .int .i64 b1, .int .i64 b2, .int .i64 b3])).run Tryz.prog w = .ok (.bool (a0 == b0 && (a1 == b1 && (a2 == b2 && a3 == b3)))) w := by
  rw [run_eql_struct, show (10000 : Nat) = 9998 + 2 from rfl, eqArr4]
  rfl
theorem encl1_any (n : Int) (w : World) : Calls Tryz.prog 90 #[.int .i64 n] w fun e w' => e = .returned (.bool (!inR n 0 65535)) ∧ w = w' := by
  by_cases h1 : n < 0
  all_goals by_cases h2 : 65535 < n
  all_goals
    go_enter Tryz.func90, Tryz.ntmps90
    go_wp2
    all_goals
      go_ret
      refine ⟨?_, rfl⟩
      simp [inR]; omega
theorem enters_encl1 : ∀ args w, (callFunc 90 args).run Tryz.prog w = .ok (.enter 90 args) w := enters_of Tryz.func90 (by kernel_rfl) rfl

set_option maxRecDepth 10000 in
set_option maxHeartbeats 1600000 in
theorem epcEnclave (x : EnclD) (w : World) : Calls Tryz.prog 78 #[.agg #[.int .i64 x.state, .string x.log, .int .i64 x.pc, .int .i64 x.r0, .int .i64 x.r1, .int .i64 x.r2, .int .i64 x.r3]] w fun e w' => e = .returned (.bool (enclB x)) ∧ Below w.heap.size w w' := by
  have B0 : ∀ X, Below w.heap.size w (w.alloc X) := fun X => by go_grown
  by_cases h1 : x.state < 0
  · have HF : Hid (enclB x = false) := by show enclB x = false; simp [enclB, inR]; omega
    go_enter Tryz.func78, Tryz.ntmps78
    go_wp2_with fail
    go_ret
    exact ⟨by rw [HF.out]; rfl, B0 _⟩
  by_cases h2 : 4 < x.state
  · have HF : Hid (enclB x = false) := by show enclB x = false; simp [enclB, inR]; omega
    go_enter Tryz.func78, Tryz.ntmps78
    go_wp2_with fail
    go_ret
    exact ⟨by rw [HF.out]; rfl, B0 _⟩
  by_cases h3 : 1000 < x.log.size
  · have HF : Hid (enclB x = false) := by show enclB x = false; simp [enclB, enclB.longB', h3]
    go_enter Tryz.func78, Tryz.ntmps78
    go_wp2_with fail
    go_ret
    exact ⟨by rw [HF.out]; rfl, B0 _⟩
  by_cases h4 : x.state = 0 ∧ ¬ x.log.toList = []
  · obtain ⟨h4a, h4b⟩ := h4
    have HF : Hid (enclB x = false) := by show enclB x = false; simp [enclB, h4a, h4b]
    have h4c : (x.state == 0) = true := by rw [beq_iff_eq]; exact h4a
    have h4d : x.log.toList.isEmpty = false := by rw [List.isEmpty_eq_false_iff]; exact h4b
    clear h4a h4b
    go_enter Tryz.func78, Tryz.ntmps78
    go_wp2_with fail
    go_ret
    exact ⟨by rw [HF.out]; rfl, B0 _⟩
  have h3b : decide ((1000 : Int) < (x.log.size : Int)) = false := by rw [decide_eq_false_iff_not]; omega
  have HE : Hid (enclB x = if x.state = 3 then inR x.pc 0 65535 && wordRegs x else x.pc == 0 && zeroRegs x) := by
    show enclB x = _
    have e1 : inR x.state 0 4 = true := by simp [inR]; omega
    have e2 : (x.state == 0 && !x.log.toList.isEmpty) = false := by
      by_cases hs : x.state = 0
      · have : x.log.toList = [] := by simpa [hs] using h4
        simp [this]
      · simp [hs]
    unfold enclB
    rw [e1, e2]
    simp [enclB.longB', h3]
  have hT : ((x.state == 0) = false) ∨ ((x.state == 0) = true ∧ x.log.toList = [] ∧ x.log.toList.isEmpty = true) := by
    by_cases hs : x.state = 0
    · have : x.log.toList = [] := by simpa [hs] using h4
      exact .inr ⟨by simp [hs], this, by simp [this]⟩
    · exact .inl (by simp [hs])
  have h43 : Hid (¬(x.state = 0 ∧ ¬x.log.toList = [])) := h4
  clear h4
  have HQ := hid (eqlArr4 x.r0 x.r1 x.r2 x.r3 0 0 0 0)
  by_cases h5 : x.state = 3
  · have h5a : (x.state == 3) = true := by rw [beq_iff_eq]; exact h5
    have h5b : (x.state == 0) = false := by rw [beq_eq_false_iff_ne]; omega
    have h5c : (x.state != 3) = false := by simp [h5]
    rw [if_pos h5] at HE
    clear h5 hT
    by_cases h6 : x.pc < 0
    · have HF : Hid (enclB x = false) := by show enclB x = false; rw [HE.out]; simp [inR]; omega
      go_enter Tryz.func78, Tryz.ntmps78
      go_wp2_with fail
      go_ret
      exact ⟨by rw [HF.out]; rfl, B0 _⟩
    by_cases h7 : 65535 < x.pc
    · have HF : Hid (enclB x = false) := by show enclB x = false; rw [HE.out]; simp [inR]; omega
      go_enter Tryz.func78, Tryz.ntmps78
      go_wp2_with fail
      go_ret
      exact ⟨by rw [HF.out]; rfl, B0 _⟩
    have HF : Hid (enclB x = wordRegs x) := by
      show enclB x = _
      rw [HE.out, show inR x.pc 0 65535 = true by simp [inR]; omega]
      rfl
    clear HE
    go_enter Tryz.func78, Tryz.ntmps78
    go_wp2_with fail
    refine (containsFuncInts 90 #[] (some ⟨w.heap.size, 3, none⟩) [x.r0, x.r1, x.r2, x.r3] 4 4 (fun n => !inR n 0 65535) _ (by omega) rfl enters_encl1 ?_ (fun i y _ W hW => (encl1_any y W).mono fun e w' ⟨he, hw⟩ => ⟨he, hw ▸ Below.refl _ _⟩)).mono ?_
    · intro i y hy
      refine ⟨w.heap.size, 3, rfl, ?_⟩
      match i, hy with
      | 0, hy => cases hy; go_simp
      | 1, hy => cases hy; go_simp
      | 2, hy => cases hy; go_simp
      | 3, hy => cases hy; go_simp
    rintro e w1 ⟨rfl, hb1⟩
    have HF' : Hid (enclB x = !([x.r0, x.r1, x.r2, x.r3].any fun n => !inR n 0 65535)) := HF
    clear HF
    generalize ([x.r0, x.r1, x.r2, x.r3].any fun n => !inR n 0 65535) = r at HF' ⊢
    go_wp2_with fail
    go_ret
    exact ⟨by rw [HF'.out]; rfl, (B0 _).trans (hb1.mono (by go_size))⟩
  · have h5c : (x.state != 3) = true := by simp [h5]
    have h5a : (x.state == 3) = false := by simp [h5]
    rw [if_neg h5] at HE
    clear h5
    by_cases h6 : x.pc = 0
    · have h6a : (x.pc == 0) = true := by simp [h6]
      have HF : Hid (enclB x = (x.r0 == 0 && (x.r1 == 0 && (x.r2 == 0 && x.r3 == 0)))) := by
        show enclB x = _
        rw [HE.out, h6a]
        rfl
      clear HE h6
      have hq := HQ.out
      rcases hT with hT | ⟨hT, hT1, hT2⟩
      all_goals
        generalize (x.r0 == 0 && (x.r1 == 0 && (x.r2 == 0 && x.r3 == 0))) = r at HF hq
        go_enter Tryz.func78, Tryz.ntmps78
        go_wp2_with fail
        go_ret
        exact ⟨by rw [HF.out]; rfl, B0 _⟩
    · have h6a : (x.pc == 0) = false := by simp [h6]
      have HF : Hid (enclB x = false) := by
        show enclB x = _
        rw [HE.out, h6a]
        rfl
      clear HE h6
      rcases hT with hT | ⟨hT, hT1, hT2⟩
      all_goals
        go_enter Tryz.func78, Tryz.ntmps78
        go_wp2_with fail
        go_ret
        exact ⟨by rw [HF.out]; rfl, B0 _⟩

end Go.Proofs.YtklbbjionoeofaaGreatDoor
