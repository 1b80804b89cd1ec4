/- Who touches what it must not is broken, and runs no more: the law returns true at all numbers; its arguments read as they did; the card is tied. Condition: the library's tables start as the program's text lays them. -/
import Derived.Test.YtbamacddfonloaaDoorLiftD
import Derived.Test.YtbamacddfonloaaDoorGc
import Derived.Test.YtbamacddfonloaaDoorRunsCall
import Derived.Test.YtbamacddfonloaaDoorEnter
namespace Go.Proofs.YtbamacddfonloaaDoor
open Go.ChangeShapes Go.WideShapes Go.ChangeAt Go.RowKit

/-- What a program that faults leaves. -/
structure FaultD (ws : List Int) (N : MachD) : Prop where
  good : Good N
  enter : enterD (codeM ws) 1 1 100 = (N, (3, 0), 0)
  state : N.encl[0]? = some ⟨4, (readyE (codeP ws)).log, 0, 0, 0, 0, 0⟩
  again : enterD N 1 1 100 = noRun 8 ∧ resumeD N 1 100 = noRun 8
theorem fault_of {ws : List Int} (hw : WordsOk ws) (hf : ∀ g, faultB g ws = true) : ∃ N, FaultD ws N := by
  have hG := codeM_good hw
  have he := enter_is hG (codeM_encl ws) rfl (n := 1) (by omega) (t := 100) (by omega)
  have hb : (runM 1 (readyE (codeP ws)).log 100 (core0 (codeM ws) 0 [1, 0, 0, 0])).2.2.1 = 3 := by simpa [faultB] using hf (readyE (codeP ws)).log
  obtain ⟨h1, h2⟩ := fault_state hb
  rw [h2] at he
  have hGN : Good (endM (codeM ws) (runM 1 (readyE (codeP ws)).log 100 (core0 (codeM ws) 0 [1, 0, 0, 0]))) := by
    have := enterD_good (M := codeM ws) (e := 1) (word := 1) (fuel := ((100 : Nat) : Int)) hG (by rw [he])
    rw [he] at this
    exact this
  have hs : (endM (codeM ws) (runM 1 (readyE (codeP ws)).log 100 (core0 (codeM ws) 0 [1, 0, 0, 0]))).encl[0]? = some ⟨4, (readyE (codeP ws)).log, 0, 0, 0, 0, 0⟩ := by
    rw [endM, h1]
    exact List.getElem?_set_self (by rw [hG.el]; omega)
  exact ⟨_, hGN, he, hs, broken_enter hGN hs rfl 1 100⟩
/-- One of the programs, where it lies. -/
structure OddAt (W : World) (b : Nat) (off : Nat) (ra : Option Addr) (rn rc : Nat) (ws : List Int) : Prop where
  cell : W.cell? ⟨b, off, none⟩ = some (.slice ra rn rc)
  ints : IntsAt W ra ws
  len : ws.length = rn
  few : rn ≤ 100
  ok : WordsOk ws
  faults : ∀ g, faultB g ws = true
theorem OddAt.later {W W' : World} {b off rn rc : Nat} {ra : Option Addr} {ws : List Int} (h : OddAt W b off ra rn rc ws) (hb : Below W.heap.size W W') : OddAt W' b off ra rn rc ws :=
  ⟨cell_later hb h.cell, h.ints.mono hb, h.len, h.few, h.ok, h.faults⟩
theorem OddAt.is {W : World} {b off rn rc : Nat} {ra : Option Addr} (which : Nat) (hw : which < 7) (k : Int) (h0 : 0 ≤ k) (h1 : k < oddMany which) (hc : W.cell? ⟨b, off, none⟩ = some (.slice ra rn rc)) (hi : IntsAt W ra (oddW which k)) (hl : (oddW which k).length = rn) (hf : rn ≤ 100) :
    OddAt W b off ra rn rc (oddW which k) := ⟨hc, hi, hl, hf, oddW_ok which hw k h0 h1, fun g => odd_all g which hw k h0 h1⟩

set_option maxRecDepth 10000 in
set_option maxHeartbeats 4800000 in
theorem runsFault_calls (which n : Int) (w : World) (ha : Is64 which) (hn : Is64 n) (hT : Tab w) :
    Calls Tryd.prog 5 #[.int .i64 which, .int .i64 n] w fun e w' => e = .returned (.bool true) ∧ Below w.heap.size w w' := by
  have HA := hid ha
  have HN := hid hn
  have HT := hid hT
  obtain ⟨k2, hk2⟩ : ∃ k, pickD n 40 = k := ⟨_, rfl⟩
  have l2 : 0 ≤ k2 := by rw [← hk2]; exact pickD_lo n (by decide)
  have u2 : k2 < 40 := by rw [← hk2]; exact pickD_hi n (by decide)
  have HK2 := hid hk2
  obtain ⟨k3, hk3⟩ : ∃ k, pickD n 1000 = k := ⟨_, rfl⟩
  have l3 : 0 ≤ k3 := by rw [← hk3]; exact pickD_lo n (by decide)
  have u3 : k3 < 1000 := by rw [← hk3]; exact pickD_hi n (by decide)
  have HK3 := hid hk3
  obtain ⟨k4, hk4⟩ : ∃ k, pickD n 24 = k := ⟨_, rfl⟩
  have l4 : 0 ≤ k4 := by rw [← hk4]; exact pickD_lo n (by decide)
  have u4 : k4 < 24 := by rw [← hk4]; exact pickD_hi n (by decide)
  have HK4 := hid hk4
  obtain ⟨k5, hk5⟩ : ∃ k, pickD n 6 = k := ⟨_, rfl⟩
  have l5 : 0 ≤ k5 := by rw [← hk5]; exact pickD_lo n (by decide)
  have u5 : k5 < 6 := by rw [← hk5]; exact pickD_hi n (by decide)
  have HK5 := hid hk5
  obtain ⟨k6, hk6⟩ : ∃ k, pickD n 100 = k := ⟨_, rfl⟩
  have l6 : 0 ≤ k6 := by rw [← hk6]; exact pickD_lo n (by decide)
  have u6 : k6 < 100 := by rw [← hk6]; exact pickD_hi n (by decide)
  have HK6 := hid hk6
  have y2 : IntKind.i64.wrap (24 + k2) = 24 + k2 := by rw [IntKind.wrap_i64]; omega
  have y3 : IntKind.i64.wrap (256 + k3) = 256 + k3 := by rw [IntKind.wrap_i64]; omega
  have y4 : IntKind.i64.wrap (64 + k4) = 64 + k4 := by rw [IntKind.wrap_i64]; omega
  have y5 : IntKind.i64.wrap (10 + k5) = 10 + k5 := by rw [IntKind.wrap_i64]; omega
  have y6 : IntKind.i64.wrap (16 + k6) = 16 + k6 := by rw [IntKind.wrap_i64]; omega
  clear ha hn hT hk2 hk3 hk4 hk5 hk6
  go_enter Tryd.func5, Tryd.ntmps5
  go_wp2_with fail
  refine (instr_is 1 1 0 0 17 _ (by decide) (by decide) (by decide) (by decide)).mono ?_
  rintro e u ⟨rfl, rfl⟩
  go_wp2_with fail
  refine (instr_is 5 0 1 0 261 _ (by decide) (by decide) (by decide) (by decide)).mono ?_
  rintro e u ⟨rfl, rfl⟩
  go_wp2_with fail
  refine (concatIs _ [⟨some ⟨w.heap.size, 0, none⟩, 2, [17, 0]⟩, ⟨some ⟨w.heap.size + 1, 0, none⟩, 2, [261, 0]⟩] 2 _ [17, 0, 261, 0] 4 _ rfl (by omega) rfl rfl (CellsAt.new (by simp) _ _) ?_ (by omega)).mono ?_
  · intro p hp j u hj
    simp only [List.mem_cons, List.not_mem_nil, or_false] at hp
    rcases hp with rfl | rfl
    all_goals
      rcases j with _ | _ | j
      · cases hj
        exact ⟨_, 0, rfl, by go_simp⟩
      · cases hj
        exact ⟨_, 0, rfl, by go_simp⟩
      · simp [intCells] at hj
  rintro e w1 ⟨a1, c1, rfl, hO, hb⟩
  have hbb : Below w.heap.size w w1 := Below.trans (by go_grown) (hb.mono (by go_size))
  have HI1 : Hid (IntsAt w1 a1 [17, 0, 261, 0]) := by
    obtain ⟨a3, c3, e3, h3⟩ := CellsAt.of_own hO
    obtain ⟨rfl, _, _⟩ := Value.slice.inj e3
    exact h3.ints
  have HB1 := hid hbb
  clear hO hb hbb
  go_wp2_with fail
  refine (instr_is 1 1 0 0 17 _ (by decide) (by decide) (by decide) (by decide)).mono ?_
  rintro e u ⟨rfl, rfl⟩
  go_wp2_with fail
  refine (instr_is 6 0 1 0 262 _ (by decide) (by decide) (by decide) (by decide)).mono ?_
  rintro e u ⟨rfl, rfl⟩
  go_wp2_with fail
  refine (concatIs _ [⟨some ⟨w1.heap.size, 0, none⟩, 2, [17, 0]⟩, ⟨some ⟨w1.heap.size + 1, 0, none⟩, 2, [262, 0]⟩] 2 _ [17, 0, 262, 0] 4 _ rfl (by omega) rfl rfl (CellsAt.new (by simp) _ _) ?_ (by omega)).mono ?_
  · intro p hp j u hj
    simp only [List.mem_cons, List.not_mem_nil, or_false] at hp
    rcases hp with rfl | rfl
    all_goals
      rcases j with _ | _ | j
      · cases hj
        exact ⟨_, 0, rfl, by go_simp⟩
      · cases hj
        exact ⟨_, 0, rfl, by go_simp⟩
      · simp [intCells] at hj
  rintro e w2 ⟨a2, c2, rfl, hO, hb⟩
  have hbb : Below w1.heap.size w1 w2 := Below.trans (by go_grown) (hb.mono (by go_size))
  have HI2 : Hid (IntsAt w2 a2 [17, 0, 262, 0]) := by
    obtain ⟨a3, c3, e3, h3⟩ := CellsAt.of_own hO
    obtain ⟨rfl, _, _⟩ := Value.slice.inj e3
    exact h3.ints
  have HB2 := hid hbb
  clear hO hb hbb
  go_wp2_with fail
  refine (picked_any n 40 _ HN.out (by decide)).mono ?_
  rintro e u ⟨rfl, hu⟩
  obtain rfl := hu.symm
  clear hu
  rw [HK2.out]
  go_wp2_with fail
  refine (instr_is 1 1 0 (24 + k2) 17 _ (by decide) (by decide) (by decide) (by decide)).mono ?_
  rintro e u ⟨rfl, rfl⟩
  go_wp2_with fail
  refine (instr_is 5 0 1 0 261 _ (by decide) (by decide) (by decide) (by decide)).mono ?_
  rintro e u ⟨rfl, rfl⟩
  go_wp2_with fail
  refine (concatIs _ [⟨some ⟨w2.heap.size, 0, none⟩, 2, [17, 24 + k2]⟩, ⟨some ⟨w2.heap.size + 1, 0, none⟩, 2, [261, 0]⟩] 2 _ [17, 24 + k2, 261, 0] 4 _ rfl (by omega) rfl rfl (CellsAt.new (by simp) _ _) ?_ (by omega)).mono ?_
  · intro p hp j u hj
    simp only [List.mem_cons, List.not_mem_nil, or_false] at hp
    rcases hp with rfl | rfl
    all_goals
      rcases j with _ | _ | j
      · cases hj
        exact ⟨_, 0, rfl, by go_simp⟩
      · cases hj
        exact ⟨_, 0, rfl, by go_simp⟩
      · simp [intCells] at hj
  rintro e w3 ⟨a3, c3, rfl, hO, hb⟩
  have hbb : Below w2.heap.size w2 w3 := Below.trans (by go_grown) (hb.mono (by go_size))
  have HI3 : Hid (IntsAt w3 a3 [17, 24 + k2, 261, 0]) := by
    obtain ⟨a3, c3, e3, h3⟩ := CellsAt.of_own hO
    obtain ⟨rfl, _, _⟩ := Value.slice.inj e3
    exact h3.ints
  have HB3 := hid hbb
  clear hO hb hbb
  go_wp2_with fail
  refine (picked_any n 1000 _ HN.out (by decide)).mono ?_
  rintro e u ⟨rfl, hu⟩
  obtain rfl := hu.symm
  clear hu
  rw [HK3.out]
  go_wp2_with fail
  refine (instr_is 1 1 0 (256 + k3) 17 _ (by decide) (by decide) (by decide) (by decide)).mono ?_
  rintro e u ⟨rfl, rfl⟩
  go_wp2_with fail
  refine (instr_is 6 0 1 0 262 _ (by decide) (by decide) (by decide) (by decide)).mono ?_
  rintro e u ⟨rfl, rfl⟩
  go_wp2_with fail
  refine (concatIs _ [⟨some ⟨w3.heap.size, 0, none⟩, 2, [17, 256 + k3]⟩, ⟨some ⟨w3.heap.size + 1, 0, none⟩, 2, [262, 0]⟩] 2 _ [17, 256 + k3, 262, 0] 4 _ rfl (by omega) rfl rfl (CellsAt.new (by simp) _ _) ?_ (by omega)).mono ?_
  · intro p hp j u hj
    simp only [List.mem_cons, List.not_mem_nil, or_false] at hp
    rcases hp with rfl | rfl
    all_goals
      rcases j with _ | _ | j
      · cases hj
        exact ⟨_, 0, rfl, by go_simp⟩
      · cases hj
        exact ⟨_, 0, rfl, by go_simp⟩
      · simp [intCells] at hj
  rintro e w4 ⟨a4, c4, rfl, hO, hb⟩
  have hbb : Below w3.heap.size w3 w4 := Below.trans (by go_grown) (hb.mono (by go_size))
  have HI4 : Hid (IntsAt w4 a4 [17, 256 + k3, 262, 0]) := by
    obtain ⟨a3, c3, e3, h3⟩ := CellsAt.of_own hO
    obtain ⟨rfl, _, _⟩ := Value.slice.inj e3
    exact h3.ints
  have HB4 := hid hbb
  clear hO hb hbb
  go_wp2_with fail
  refine (picked_any n 24 _ HN.out (by decide)).mono ?_
  rintro e u ⟨rfl, hu⟩
  obtain rfl := hu.symm
  clear hu
  rw [HK4.out]
  go_wp2_with fail
  refine (instr_is 1 1 0 (64 + k4) 17 _ (by decide) (by decide) (by decide) (by decide)).mono ?_
  rintro e u ⟨rfl, rfl⟩
  go_wp2_with fail
  refine (instr_is 5 0 1 0 261 _ (by decide) (by decide) (by decide) (by decide)).mono ?_
  rintro e u ⟨rfl, rfl⟩
  go_wp2_with fail
  refine (concatIs _ [⟨some ⟨w4.heap.size, 0, none⟩, 2, [17, 64 + k4]⟩, ⟨some ⟨w4.heap.size + 1, 0, none⟩, 2, [261, 0]⟩] 2 _ [17, 64 + k4, 261, 0] 4 _ rfl (by omega) rfl rfl (CellsAt.new (by simp) _ _) ?_ (by omega)).mono ?_
  · intro p hp j u hj
    simp only [List.mem_cons, List.not_mem_nil, or_false] at hp
    rcases hp with rfl | rfl
    all_goals
      rcases j with _ | _ | j
      · cases hj
        exact ⟨_, 0, rfl, by go_simp⟩
      · cases hj
        exact ⟨_, 0, rfl, by go_simp⟩
      · simp [intCells] at hj
  rintro e w5 ⟨a5, c5, rfl, hO, hb⟩
  have hbb : Below w4.heap.size w4 w5 := Below.trans (by go_grown) (hb.mono (by go_size))
  have HI5 : Hid (IntsAt w5 a5 [17, 64 + k4, 261, 0]) := by
    obtain ⟨a3, c3, e3, h3⟩ := CellsAt.of_own hO
    obtain ⟨rfl, _, _⟩ := Value.slice.inj e3
    exact h3.ints
  have HB5 := hid hbb
  clear hO hb hbb
  go_wp2_with fail
  refine (picked_any n 6 _ HN.out (by decide)).mono ?_
  rintro e u ⟨rfl, hu⟩
  obtain rfl := hu.symm
  clear hu
  rw [HK5.out]
  go_wp2_with fail
  refine (instr_is (10 + k5) 0 0 0 (10 + k5) _ (by omega) (by decide) (by decide) (by omega)).mono ?_
  rintro e u ⟨rfl, rfl⟩
  go_wp2_with fail
  refine (instr_is 1 0 0 0 1 _ (by decide) (by decide) (by decide) (by decide)).mono ?_
  rintro e u ⟨rfl, rfl⟩
  go_wp2_with fail
  refine (picked_any n 100 _ HN.out (by decide)).mono ?_
  rintro e u ⟨rfl, hu⟩
  obtain rfl := hu.symm
  clear hu
  rw [HK6.out]
  go_wp2_with fail
  refine (instr_is 7 0 0 (16 + k6) 7 _ (by decide) (by decide) (by decide) (by decide)).mono ?_
  rintro e u ⟨rfl, rfl⟩
  go_wp2_with fail
  refine (concatIs _ [⟨some ⟨w5.heap.size + 1, 0, none⟩, 2, [1, 0]⟩, ⟨some ⟨w5.heap.size + 2, 0, none⟩, 2, [7, 16 + k6]⟩] 2 _ [1, 0, 7, 16 + k6] 4 _ rfl (by omega) rfl rfl (CellsAt.new (by simp) _ _) ?_ (by omega)).mono ?_
  · intro p hp j u hj
    simp only [List.mem_cons, List.not_mem_nil, or_false] at hp
    rcases hp with rfl | rfl
    all_goals
      rcases j with _ | _ | j
      · cases hj
        exact ⟨_, 0, rfl, by go_simp⟩
      · cases hj
        exact ⟨_, 0, rfl, by go_simp⟩
      · simp [intCells] at hj
  rintro e w7 ⟨a7, c7, rfl, hO, hb⟩
  have HI6 : Hid (IntsAt w7 (some ⟨w5.heap.size, 0, none⟩) [10 + k5, 0]) := (IntsAt.mono (w := w5.alloc (.cells #[.int .i64 (10 + k5), .int .i64 0] 3)) (fun i x hx => by
    rcases i with _ | _ | i
    · cases hx; exact ⟨_, 0, rfl, by go_simp⟩
    · cases hx; exact ⟨_, 0, rfl, by go_simp⟩
    · simp at hx) (Below.trans (by go_grown) (hb.mono (by go_size))))
  have hbb : Below w5.heap.size w5 w7 := Below.trans (by go_grown) (hb.mono (by go_size))
  have HI7 : Hid (IntsAt w7 a7 [1, 0, 7, 16 + k6]) := by
    obtain ⟨a3, c3, e3, h3⟩ := CellsAt.of_own hO
    obtain ⟨rfl, _, _⟩ := Value.slice.inj e3
    exact h3.ints
  have HB7 := hid hbb
  clear hO hb hbb
  go_upto_region 2 with fail
  clear y2 y3 y4 y5 y6
  have H2 := hid (HB1.out.trans (HB2.out.mono HB1.out.size))
  have B37 := hid (HB4.out.trans (HB5.out.mono HB4.out.size))
  have B47 := hid (B37.out.trans (HB7.out.mono B37.out.size))
  have B57 := hid (HB5.out.trans (HB7.out.mono HB5.out.size))
  have B27 := hid (HB3.out.trans (B47.out.mono HB3.out.size))
  have B17 := hid (HB2.out.trans (B27.out.mono HB2.out.size))
  have B07 := hid (HB1.out.trans (B17.out.mono HB1.out.size))
  obtain ⟨j, hj⟩ : ∃ j : Nat, pickD which 7 = j := ⟨(pickD which 7).toNat, by have := pickD_lo which (many := 7) (by decide); omega⟩
  have hj7 : j < 7 := by have := pickD_hi which (many := 7) (by decide); omega
  have HJ := hid hj
  clear hj
  refine act_gen (fun W => Below w.heap.size w W ∧ ∃ ra rn rc ws, OddAt W w7.heap.size j ra rn rc ws) ⟨B07.out.trans (Below.mono (by go_grown) B07.out.size), ?_⟩ ?_
  · rcases j with _ | _ | _ | _ | _ | _ | _ | j
    · exact ⟨a1, 4, c1, _, OddAt.is 0 (by omega) 0 (by omega) (by simp only [oddMany]; omega) (by go_simp) ((HI1.out.mono B17.out).mono (by go_grown)) rfl (by omega)⟩
    · exact ⟨a2, 4, c2, _, OddAt.is 1 (by omega) 0 (by omega) (by simp only [oddMany]; omega) (by go_simp) ((HI2.out.mono B27.out).mono (by go_grown)) rfl (by omega)⟩
    · exact ⟨a3, 4, c3, _, OddAt.is 2 (by omega) k2 l2 (by simp only [oddMany]; omega) (by go_simp) ((HI3.out.mono B47.out).mono (by go_grown)) rfl (by omega)⟩
    · exact ⟨a4, 4, c4, _, OddAt.is 3 (by omega) k3 l3 (by simp only [oddMany]; omega) (by go_simp) ((HI4.out.mono B57.out).mono (by go_grown)) rfl (by omega)⟩
    · exact ⟨a5, 4, c5, _, OddAt.is 4 (by omega) k4 l4 (by simp only [oddMany]; omega) (by go_simp) ((HI5.out.mono HB7.out).mono (by go_grown)) rfl (by omega)⟩
    · exact ⟨_, 2, 2, _, OddAt.is 5 (by omega) k5 l5 (by simp only [oddMany]; omega) (by go_simp) (HI6.out.mono (by go_grown)) rfl (by omega)⟩
    · exact ⟨a7, 4, c7, _, OddAt.is 6 (by omega) k6 l6 (by simp only [oddMany]; omega) (by go_simp) (HI7.out.mono (by go_grown)) rfl (by omega)⟩
    · omega
  clear HI1 HI2 HI3 HI4 HI5 HI6 HI7 B07 B17 B27 B37 B47 B57 H2 HB1 HB2 HB3 HB4 HB5 HB7 l2 l3 l4 l5 l6 u2 u3 u4 u5 u6 HK2 HK3 HK4 HK5 HK6
  generalize w7.heap.size = ob
  clear w7
  rintro W ⟨hbW, ra, rn, rc, ws, HO⟩
  have HO' := hid HO
  have HBW := hid hbW
  have k0 := HO.cell
  have ji : (j : Int) < 7 := by omega
  obtain ⟨N, hFD⟩ := fault_of HO.ok HO.faults
  have HFD := hid hFD
  have HMG := hid (codeM_good HO.ok)
  clear HO hbW hFD
  go_wp2_with fail
  refine (picked_any which 7 _ HA.out (by decide)).mono ?_
  rintro e u ⟨rfl, rfl⟩
  rw [HJ.out]
  go_wp2_with fail
  refine (keepMachine ra ws rn rc _ HO'.out.len HO'.out.few HO'.out.ints HO'.out.ok (HT.out.mono HBW.out)).mono ?_
  rintro e w2 ⟨mv, rfl, hM, hb2⟩
  obtain ⟨fa, fc, ea, ec, qa, qc, rfl⟩ := hM.parts
  have HM := hid hM
  have HB2 := hid (HBW.out.trans (hb2.mono HBW.out.size))
  clear hM hb2 HBW HO' k0
  dsimp only
  go_upto_region 3 with fail
  refine act_gen (fun W => Below w.heap.size w W ∧ MBox w2.heap.size fa fc ea ec qa qc (codeM ws) W) ⟨HB2.out.trans (Below.mono (by go_grown) HB2.out.size), MBox.new HM.out⟩ ?_
  clear HM HB2
  generalize w2.heap.size = mb
  clear w2
  rintro W1 ⟨hbW, HB⟩
  have m0 := HB.c0
  have m1 := HB.c1
  have m2 := HB.c2
  have HBX := hid HB
  have HBW := hid hbW
  clear HB hbW
  go_wp2_with fail
  refine (runEnter _ (codeM ws) 1 1 100 _ HBX.out.at HMG.out.fits).mono ?_
  rintro e w3 ⟨xv, rfl, hX, hb3⟩
  rw [HFD.out.enter] at hX ⊢
  dsimp only at hX ⊢
  obtain ⟨xa, xc, xe, xd, xq, xf, rfl⟩ := hX.parts
  have HXM := hid hX
  have HB3 := hid (HBW.out.trans (hb3.mono HBW.out.size))
  clear hX hb3 HBX HBW m0 m1 m2
  go_upto_region 4 with fail
  refine act_gen (fun W => Below w.heap.size w W ∧ MBox w3.heap.size xa xc xe xd xq xf N W ∧ OBox (w3.heap.size + 1) 3 0 W)
    ⟨HB3.out.trans (Below.mono (by go_grown) HB3.out.size), (MBox.new HXM.out).later (by go_grown), by have := OBox.new (w3.alloc (.cells #[.slice xa N.frames.length xc, .slice xe N.encl.length xd, .slice xq N.quotes.length xf] 39)) 3 0; simpa using this⟩ ?_
  clear HXM HB3
  generalize w3.heap.size = nb
  clear w3 W1
  rintro W2 ⟨hbW, HB, HO⟩
  have m0 := HB.c0
  have m1 := HB.c1
  have m2 := HB.c2
  have HBX := hid HB
  have HOX := hid HO
  have HBW := hid hbW
  clear HB HO hbW
  go_wp2_with fail
  refine (runEnter _ N 1 1 100 _ HBX.out.at HFD.out.good.fits).mono ?_
  rintro e w4 ⟨yv, rfl, hY, hb4⟩
  rw [HFD.out.again.1] at hY ⊢
  dsimp only [noRun] at hY ⊢
  obtain ⟨ya, yc, ye, yd, yq, yf, rfl⟩ := hY.parts
  have HB4 := hid (HBW.out.trans (hb4.mono HBW.out.size))
  have HN4 := hid (HBX.out.later hb4)
  have HO4 := hid (HOX.out.later hb4)
  clear hY hb4 HBX HOX HBW m0 m1 m2
  go_upto_region 5 with fail
  refine act_gen (fun W => Below w.heap.size w W ∧ MBox nb xa xc xe xd xq xf N W ∧ OBox (nb + 1) 3 0 W) ⟨HB4.out.trans (Below.mono (by go_grown) HB4.out.size), HN4.out.later (by go_grown), HO4.out.later (by go_grown)⟩ ?_
  clear HN4 HO4 HB4
  rintro W3 ⟨hbW, HB, HO⟩
  have m0 := HB.c0
  have m1 := HB.c1
  have m2 := HB.c2
  have HBX := hid HB
  have HOX := hid HO
  have HBW := hid hbW
  clear HB HO hbW
  go_wp2_with fail
  refine (runResume _ N 1 100 _ HBX.out.at HFD.out.good.fits).mono ?_
  rintro e w5 ⟨zv, rfl, hZ, hb5⟩
  rw [HFD.out.again.2] at hZ ⊢
  dsimp only [noRun] at hZ ⊢
  obtain ⟨za, zc, ze, zd, zq, zf, rfl⟩ := hZ.parts
  have HB5 := hid (HBW.out.trans (hb5.mono HBW.out.size))
  have HN5 := hid (HBX.out.later hb5)
  have HO5 := hid (HOX.out.later hb5)
  clear hZ hb5 HBX HOX HBW m0 m1 m2
  go_upto_region 6 with fail
  refine act_gen (fun W => Below w.heap.size w W ∧ MBox nb xa xc xe xd xq xf N W ∧ OBox (nb + 1) 3 0 W) ⟨HB5.out.trans (Below.mono (by go_grown) HB5.out.size), HN5.out.later (by go_grown), HO5.out.later (by go_grown)⟩ ?_
  clear HN5 HO5 HB5
  rintro W4 ⟨hbW, HB, HO⟩
  have m1 := HB.c1
  have u0 := HO.c0
  rw [HFD.out.good.el] at m1
  obtain ⟨eb, eo, rfl, s0, _⟩ := mach_encls HB.at 0 _ HFD.out.state
  rw [Nat.zero_mul, Nat.add_zero] at s0
  have HBW := hid hbW
  clear HB HO hbW
  go_wp2_with fail
  go_ret
  exact ⟨rfl, HBW.out⟩
set_option maxRecDepth 100000 in
theorem runsFault_args {H : Type} {enc : TypeId × Value → H} (W : World) (b0 : Nat) (args : Array Value) (hT : Tab W) (hs : args.size = (Tryd.f5).params.size)
    (ha : ∀ (j : Nat) t v, (Tryd.f5).params[j]? = some t → args[j]? = some v → Value.okWide Tryd.prog W .any b0 t v ∧ Rd enc Tryd.prog W t v.cells.toList) :
    Calls Tryd.prog 5 args W fun e w' => e = .returned (.bool true) ∧ Below W.heap.size W w' := by
  obtain ⟨l⟩ := args
  match l, hs with
  | [v, v1], _ =>
    obtain ⟨x, rfl, hx⟩ := rd_int_v (ha 0 _ v rfl rfl).1 (ha 0 _ v rfl rfl).2
    obtain ⟨f, rfl, hf⟩ := rd_int_v (ha 1 _ v1 rfl rfl).1 (ha 1 _ v1 rfl rfl).2
    exact runsFault_calls x f W hx hf hT

set_option maxRecDepth 100000 in
theorem runsFault_lifted (os : Os) (started : os.Started) (H : Type) (enc : TypeId × Value → H) :
    ReturnsInHanded {} Tryd.checked os 5 .any (fun w args => (Rows.runsFaultSpec.pre enc Tryd.prog Tryd.f5 [] false w args ∧ laidMetH Tryd.prog Rows.runsFaultRow.laid w) ∧ sizedMet enc Tryd.prog Tryd.f5 (OpenSpec.ofChange Rows.runsFaultSpec) false w args)
      (Rows.runsFaultSpec.post enc Tryd.prog Tryd.f5 false true false false) := by
  refine returnsInHanded_of_change_and (C := Tryd.checked) (X := fun w _ => laidMetH Tryd.prog Rows.runsFaultRow.laid w) (fun _ _ _ hh h => h.of_heap hh) own started (by kernel_rfl) Tryd.func5
    (ChangeSpec.witness_shaped (enc := enc) (C := Tryd.checked) (os := os) (X := fun w _ => laidMetH Tryd.prog Rows.runsFaultRow.laid w) false (World.doorLaid Tryd.prog doorSteps os) #[.int .i64 0, .int .i64 0] 8 rfl (World.shaped_of_RefB (by kernel_rfl) (by kernel_rfl)) (by kernel_rfl) (by kernel_rfl) (by kernel_rfl) (door_met os _)) ?_
  intro W base args ds gs before hval hW _ hsz hL _
  exact law_contract laidOut (by kernel_rfl) rfl Tryd.underlying4 rfl (fun ds h => by
    match ds, h with
    | [_, _], _ => exact ⟨rfl, rfl, rfl⟩) hval hW hsz fun hs ha => runsFault_args W base args (tab_of_laid hL) hs ha

theorem runsFault_row : Rows.RunsFaultSaid :=
  OpenClaim.holds_of_wide 5 Tryd.f5 rfl rfl rfl rfl rfl rfl rfl ⟨rfl, rfl, rfl, rfl, rfl⟩ rfl rfl rfl rfl rfl (by kernel_rfl) Tryd.func5 (by kernel_rfl)
    (of_decide_eq_true (by kernel_rfl)) (by unfold Func.isWrapper; first | (rw [if_pos (by decide +kernel)]; kernel_rfl) | (rw [if_neg (by decide +kernel)]; exact ⟨rfl, rfl⟩))
    (fun os started H enc _ => runsFault_lifted os started H enc)

theorem runsFault_holds : Rows.RunsFaultCardSaid :=
  Claim7.holds_tied_plain_at .later [] [.data, .data, .data] true _ false
    runsFault_row (fun _ h => by cases h) (by kernel_rfl) (fun _ h => by cases h) runsFault_row_tie rfl ⟨rfl, rfl⟩ (by kernel_rfl) rfl
    (fun f fn hf hfn => by
      obtain rfl : f = 5 := Option.some.inj ((show Tryd.prog.funcNamed Rows.runsFaultRow.func = some 5 by kernel_rfl).symm.trans hf) |>.symm
      obtain rfl : fn = Tryd.f5 := (Option.some.inj (Tryd.func5.symm.trans hfn)).symm
      exact ⟨by kernel_rfl, fun j t ht => by
        have hm : t ∈ (Tryd.f5).params.toList := by simpa using Array.mem_of_getElem? ht
        have hall : ((Tryd.f5).params.toList.all fun u => !Tryd.prog.wantsStandIn u) = true := by kernel_rfl
        exact (show Tryd.prog.wantsStandIn t = false by simpa using List.all_eq_true.1 hall t hm)⟩)
    (by kernel_rfl)


end Go.Proofs.YtbamacddfonloaaDoor
