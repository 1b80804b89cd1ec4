/- ref.MachineFault, walked. Conditions: those that each contract writes. -/
import Derived.Test.YtklbbjionoeofaaGreatDoorGf
namespace Go.Proofs.YtklbbjionoeofaaGreatDoor
open Go.RowKit

set_option maxRecDepth 10000 in
set_option maxHeartbeats 3200000 in
theorem regsMay (r0 r1 r2 r3 : Int) (w : World) : Calls Tryz.prog 72 #[.agg #[.int .i64 r0, .int .i64 r1, .int .i64 r2, .int .i64 r3]] w fun e w' => e = .returned (.bool (!([r0, r1, r2, r3].any fun n => !inR n 0 65535))) ∧ Below w.heap.size w w' := by
  have B0 : ∀ X, Below w.heap.size w (w.alloc X) := fun X => by go_grown
  obtain ⟨R, hR⟩ : ∃ R, (!([r0, r1, r2, r3].any fun n => !inR n 0 65535)) = R := ⟨_, rfl⟩
  rw [hR]
  have HR : Hid (R = (inR r0 0 65535 && (inR r1 0 65535 && (inR r2 0 65535 && inR r3 0 65535)))) := by
    show R = _
    rw [← hR]
    simp
  clear hR
  go_enter Tryz.func72, Tryz.ntmps72
  go_wp2_with fail
  refine wp_loop_rounds 5 ?_
  rw [rounds_succ]
  go_wp2_with fail
  refine (in_any r0 0 65535 _).mono ?_
  rintro e w' ⟨rfl, rfl⟩
  cases h0 : inR r0 0 65535 with
  | false =>
    rw [h0] at HR
    clear h0
    go_wp2_with fail
    go_ret
    exact ⟨by rw [HR.out]; rfl, B0 _⟩
  | true =>
    rw [h0] at HR
    clear h0
    go_wp2_with fail
    rw [rounds_succ]
    go_wp2_with fail
    refine (in_any r1 0 65535 _).mono ?_
    rintro e w' ⟨rfl, rfl⟩
    cases h1 : inR r1 0 65535 with
    | false =>
      rw [h1] at HR
      clear h1
      go_wp2_with fail
      go_ret
      exact ⟨by rw [HR.out]; rfl, B0 _⟩
    | true =>
      rw [h1] at HR
      clear h1
      go_wp2_with fail
      rw [rounds_succ]
      go_wp2_with fail
      refine (in_any r2 0 65535 _).mono ?_
      rintro e w' ⟨rfl, rfl⟩
      cases h2 : inR r2 0 65535 with
      | false =>
        rw [h2] at HR
        clear h2
        go_wp2_with fail
        go_ret
        exact ⟨by rw [HR.out]; rfl, B0 _⟩
      | true =>
        rw [h2] at HR
        clear h2
        go_wp2_with fail
        rw [rounds_succ]
        go_wp2_with fail
        refine (in_any r3 0 65535 _).mono ?_
        rintro e w' ⟨rfl, rfl⟩
        cases h3 : inR r3 0 65535 with
        | false =>
          rw [h3] at HR
          clear h3
          go_wp2_with fail
          go_ret
          exact ⟨by rw [HR.out]; rfl, B0 _⟩
        | true =>
          rw [h3] at HR
          clear h3
          go_wp2_with fail
          rw [rounds_succ]
          go_wp2_with fail
          go_ret
          exact ⟨by rw [HR.out]; rfl, B0 _⟩

theorem all_take {α : Type} {p : α → Bool} {l : List α} {i : Nat} {x : α} (hx : l[i]? = some x) : (l.take (i + 1)).all p = ((l.take i).all p && p x) := by
  rw [List.take_add_one, hx, List.all_append]
  simp
theorem any_take {α : Type} {p : α → Bool} {l : List α} {i : Nat} {x : α} (hx : l[i]? = some x) : (l.take (i + 1)).any p = ((l.take i).any p || p x) := by
  rw [List.take_add_one, hx, List.any_append]
  simp

set_option maxRecDepth 100000 in
set_option maxHeartbeats 3200000 in
theorem refFault_size (v : Value) (M : MachD) (w : World) (hv : MachAt w v M) (hs : sizeB M = false) : Calls Tryz.prog 50 #[v] w fun e w' => e = .returned (.int .i64 (machF M)) ∧ Below w.heap.size w w' := by
  obtain ⟨fa, fc, ea, ec, qa, qc, rfl, _, _, _, _⟩ := hv
  have HF : Hid (machF M = 1) := by show machF M = 1; simp [machF, hs]
  have B0 : ∀ X, Below w.heap.size w (w.alloc X) := fun X => by go_grown
  obtain ⟨n, hn⟩ : ∃ n, M.frames.length = n := ⟨_, rfl⟩
  obtain ⟨m, hm⟩ : ∃ m, M.encl.length = m := ⟨_, rfl⟩
  obtain ⟨k, hk⟩ : ∃ k, M.quotes.length = k := ⟨_, rfl⟩
  simp only [sizeB, hn, hm, hk] at hs
  rw [hn, hm, hk]
  clear hn hm hk
  by_cases h1 : n = 24
  · subst h1
    by_cases h2 : m = 4
    · subst h2
      have h3 : (40 : Int) < (k : Int) := by simp at hs; omega
      clear hs
      go_enter Tryz.func50, Tryz.ntmps50
      go_wp2_with fail
      go_ret
      exact ⟨by rw [HF.out]; rfl, B0 _⟩
    · have h2b : ((m : Int) != 4) = true := by rw [bne_iff_ne]; omega
      clear hs
      go_enter Tryz.func50, Tryz.ntmps50
      go_wp2_with fail
      go_ret
      exact ⟨by rw [HF.out]; rfl, B0 _⟩
  · have h1b : ((n : Int) != 24) = true := by rw [bne_iff_ne]; omega
    clear hs
    go_enter Tryz.func50, Tryz.ntmps50
    go_wp2_with fail
    go_ret
    exact ⟨by rw [HF.out]; rfl, B0 _⟩

set_option maxRecDepth 100000 in
set_option maxHeartbeats 12800000 in
theorem refFault_ok (v : Value) (M : MachD) (w : World) (hv : MachAt w v M) (hf : M.Fits) (hs : sizeB M = true) : Calls Tryz.prog 50 #[v] w fun e w' => e = .returned (.int .i64 (machF M)) ∧ Below w.heap.size w w' := by
  obtain ⟨fa, fc, ea, ec, qa, qc, rfl, hF, hE, hQ, hfc⟩ := hv
  have HM : Hid (machF M = if machB M then 0 else 8) := by show machF M = _; simp [machF, hs]
  have hs' := hs
  simp only [sizeB, Bool.and_eq_true, decide_eq_true_eq] at hs'
  obtain ⟨hn, hm, hk⟩ := hs'
  have HN := hid hn
  have HE4 := hid hm
  have HF := hid hF
  have HE := hid hE
  have HQ := hid hQ
  have HW := hid hf.w
  rw [hn, hm]
  clear hF hE hQ hn hm hfc hs
  go_enter Tryz.func50, Tryz.ntmps50
  go_wp2_with fail
  refine wp_gen (fun W0 => Below w.heap.size w W0 ∧ W0.cell? ⟨w.heap.size, 0, none⟩ = some (.slice fa 24 fc) ∧ W0.cell? ⟨w.heap.size, 1, none⟩ = some (.slice ea 4 ec) ∧ W0.cell? ⟨w.heap.size, 2, none⟩ = some (.slice qa M.quotes.length qc)) ⟨by go_grown, by go_simp, by go_simp, by go_simp⟩ ?_
  rintro W0 ⟨hb0, c0, c1, c2⟩
  go_loopw [3, 4] (fun ok j W => ∃ i : Nat, i ≤ 4 ∧ j = .int .i64 i ∧ ok = .bool ((M.encl.take i).all enclB) ∧ Below W0.heap.size W0 W) (fun _ j _ => 4 - (intOf j).toNat)
  case atStart => exact ⟨0, by omega, rfl, rfl, Below.refl _ _⟩
  case round =>
    obtain ⟨i, hi, rfl, rfl, hb⟩ := hrel
    have d1 := cell_later hb c1
    have hsz := hb.size
    by_cases hlt : i < 4
    · obtain ⟨x, hx⟩ : ∃ x, M.encl[i]? = some x := ⟨_, List.getElem?_eq_getElem (by rw [HE4.out]; exact hlt)⟩
      have HA : Hid ((M.encl.take (i + 1)).all enclB = ((M.encl.take i).all enclB && enclB x)) := all_take hx
      obtain ⟨b, off, rfl, k0, k1, k2, k3, k4, k5, k6⟩ := HE.out i x hx
      have l0 := cell_later hb (cell_later hb0 k0)
      have l1 := cell_later hb (cell_later hb0 k1)
      have l2 := cell_later hb (cell_later hb0 k2)
      have l3 := cell_later hb (cell_later hb0 k3)
      have l4 := cell_later hb (cell_later hb0 k4)
      have l5 := cell_later hb (cell_later hb0 k5)
      have l6 := cell_later hb (cell_later hb0 k6)
      clear hx k0 k1 k2 k3 k4 k5 k6 c0 c1 c2
      have hi0 : (0 : Int) ≤ (i : Int) := by omega
      have hi1 : (i : Int) < 4 := by omega
      generalize (M.encl.take i).all enclB = A at HA ⊢
      cases A with
      | false =>
        by_cases h3 : x.state = 3
        · have h3b : (x.state == 3) = true := by simp [h3]
          clear h3
          go_wp2_with (go_at_call 25; refine (in_any _ _ _ _).mono ?_; rintro e w' ⟨rfl, rfl⟩)
          go_roundw
          case rel => exact ⟨i + 1, by omega, by go_num, by rw [HA.out]; rfl, hb.trans (by go_grown)⟩
          case measure => simp [intOf]; omega
        · have h3b : (x.state == 3) = false := by simp [h3]
          clear h3
          go_wp2_with (go_at_call 25; refine (in_any _ _ _ _).mono ?_; rintro e w' ⟨rfl, rfl⟩)
          go_roundw
          case rel => exact ⟨i + 1, by omega, by go_num, by rw [HA.out]; rfl, hb.trans (by go_grown)⟩
          case measure => simp [intOf]; omega
      | true =>
        by_cases h1 : inR x.state 0 4 = true
        · have hst : 0 ≤ x.state ∧ x.state ≤ 4 := by simpa [inR] using h1
          by_cases h3 : 1000 < x.log.size
          · have HV : Hid (enclB x = false) := by show enclB x = false; simp [enclB, enclB.longB', h3]
            have h3b : decide ((x.log.size : Int) ≤ 1000) = false := by rw [decide_eq_false_iff_not]; omega
            by_cases h5 : x.state = 3
            · have h5b : (x.state == 3) = true := by simp [h5]
              clear h5
              go_wp2_with (go_at_call 25; refine (in_any _ _ _ _).mono ?_; rintro e w' ⟨rfl, rfl⟩)
              go_roundw
              case rel => exact ⟨i + 1, by omega, by go_num, by rw [HA.out, HV.out]; rfl, hb.trans (by go_grown)⟩
              case measure => simp [intOf]; omega
            · have h5b : (x.state == 3) = false := by simp [h5]
              clear h5
              go_wp2_with (go_at_call 25; refine (in_any _ _ _ _).mono ?_; rintro e w' ⟨rfl, rfl⟩)
              go_roundw
              case rel => exact ⟨i + 1, by omega, by go_num, by rw [HA.out, HV.out]; rfl, hb.trans (by go_grown)⟩
              case measure => simp [intOf]; omega
          have h3b : decide ((x.log.size : Int) ≤ 1000) = true := by rw [decide_eq_true_iff]; omega
          by_cases h4 : x.state = 0 ∧ ¬ x.log.toList = []
          · obtain ⟨h4a, h4b⟩ := h4
            have HV : Hid (enclB x = false) := by show enclB x = false; simp [enclB, h4a, h4b]
            have h4c : (x.state != 0) = false := by simp [h4a]
            have h4e : (x.state == 3) = false := by simp [h4a]
            have h4d : x.log.toList.isEmpty = false := by rw [List.isEmpty_eq_false_iff]; exact h4b
            clear h4a h4b hst
            go_wp2_with (go_at_call 25; refine (in_any _ _ _ _).mono ?_; rintro e w' ⟨rfl, rfl⟩)
            go_roundw
            case rel => exact ⟨i + 1, by omega, by go_num, by rw [HA.out, HV.out]; rfl, hb.trans (by go_grown)⟩
            case measure => simp [intOf]; omega
          have HE' : Hid (enclB x = if x.state = 3 then inR x.pc 0 65535 && wordRegs x else x.pc == 0 && zeroRegs x) := by
            show enclB x = _
            have e2 : (x.state == 0 && !x.log.toList.isEmpty) = false := by
              by_cases hs : x.state = 0
              · have : x.log.toList = [] := by simpa [hs] using h4
                simp [this]
              · simp [hs]
            unfold enclB
            rw [h1, e2]
            simp [enclB.longB', h3]
          have hT : ((x.state != 0) = true) ∨ ((x.state != 0) = false ∧ x.log.toList = [] ∧ x.log.toList.isEmpty = true) := by
            by_cases hs : x.state = 0
            · have : x.log.toList = [] := by simpa [hs] using h4
              exact .inr ⟨by simp [hs], this, by simp [this]⟩
            · exact .inl (by simp [hs])
          clear h4 h3
          by_cases h5 : x.state = 3
          · have h5b : (x.state == 3) = true := by simp [h5]
            have h5c : (x.state != 0) = true := by simp [h5]
            rw [if_pos h5] at HE'
            clear h5 hT hst
            cases hp : inR x.pc 0 65535 with
            | false =>
              have HV : Hid (enclB x = false) := by show enclB x = false; rw [HE'.out, hp]; rfl
              clear HE'
              go_wp2_with (go_at_call 25; refine (in_any _ _ _ _).mono ?_; rintro e w' ⟨rfl, rfl⟩)
              go_roundw
              case rel => exact ⟨i + 1, by omega, by go_num, by rw [HA.out, HV.out]; rfl, hb.trans (by go_grown)⟩
              case measure => simp [intOf]; omega
            | true =>
              have HV : Hid (enclB x = !([x.r0, x.r1, x.r2, x.r3].any fun n => !inR n 0 65535)) := by show enclB x = _; rw [HE'.out, hp]; rfl
              clear HE'
              go_wp2_with (go_at_call 25; refine (in_any _ _ _ _).mono ?_; rintro e w' ⟨rfl, rfl⟩)
              refine (regsMay x.r0 x.r1 x.r2 x.r3 _).mono ?_
              rintro e w2 ⟨rfl, hb2⟩
              have HB2 : Hid (Below W0.heap.size W0 w2) := hb.trans (Below.trans (by go_grown) (hb2.mono (by go_size)))
              clear hb2
              generalize (!([x.r0, x.r1, x.r2, x.r3].any fun n => !inR n 0 65535)) = R at HV ⊢
              go_wp2_with (go_at_call 25; refine (in_any _ _ _ _).mono ?_; rintro e w' ⟨rfl, rfl⟩)
              go_roundw
              case rel => exact ⟨i + 1, by omega, by go_num, by rw [HA.out, HV.out]; rfl, HB2.out⟩
              case measure => simp [intOf]; omega
          · have h5b : (x.state == 3) = false := by simp [h5]
            rw [if_neg h5] at HE'
            clear h5 hst
            by_cases h6 : x.pc = 0
            · have h6a : (x.pc == 0) = true := by simp [h6]
              have HV : Hid (enclB x = (x.r0 == 0 && (x.r1 == 0 && (x.r2 == 0 && x.r3 == 0)))) := by show enclB x = _; rw [HE'.out, h6a]; rfl
              have hq := eqlArr4 x.r0 x.r1 x.r2 x.r3 0 0 0 0
              clear HE' h6
              rcases hT with hT | ⟨hT, hT1, hT2⟩
              all_goals
                generalize (x.r0 == 0 && (x.r1 == 0 && (x.r2 == 0 && x.r3 == 0))) = R at HV hq
                go_wp2_with (go_at_call 25; refine (in_any _ _ _ _).mono ?_; rintro e w' ⟨rfl, rfl⟩)
                go_roundw
                case rel => exact ⟨i + 1, by omega, by go_num, by rw [HA.out, HV.out]; rfl, hb.trans (by go_grown)⟩
                case measure => simp [intOf]; omega
            · have h6a : (x.pc == 0) = false := by simp [h6]
              have HV : Hid (enclB x = false) := by show enclB x = false; rw [HE'.out, h6a]; rfl
              clear HE' h6
              rcases hT with hT | ⟨hT, hT1, hT2⟩
              all_goals
                go_wp2_with (go_at_call 25; refine (in_any _ _ _ _).mono ?_; rintro e w' ⟨rfl, rfl⟩)
                go_roundw
                case rel => exact ⟨i + 1, by omega, by go_num, by rw [HA.out, HV.out]; rfl, hb.trans (by go_grown)⟩
                case measure => simp [intOf]; omega
        · have h1b : inR x.state 0 4 = false := by simpa using h1
          have HV : Hid (enclB x = false) := by show enclB x = false; simp [enclB, h1b]
          have h3b : (x.state == 3) = false := by
            rw [beq_eq_false_iff_ne]
            rintro h3
            rw [h3] at h1b
            exact absurd h1b (by decide)
          clear h1
          go_wp2_with (go_at_call 25; refine (in_any _ _ _ _).mono ?_; rintro e w' ⟨rfl, rfl⟩)
          go_roundw
          case rel => exact ⟨i + 1, by omega, by go_num, by rw [HA.out, HV.out]; rfl, hb.trans (by go_grown)⟩
          case measure => simp [intOf]; omega
    · have hA0 : (M.encl.take i).all enclB = M.encl.all enclB := by rw [List.take_of_length_le (by rw [HE4.out]; omega)]
      rw [hA0]
      clear hA0
      obtain ⟨A0, hA0⟩ : ∃ A0, M.encl.all enclB = A0 := ⟨_, rfl⟩
      rw [hA0]
      have HA0 := hid hA0
      have hb1 : Below w.heap.size w wr := hb0.trans (hb.mono hb0.size)
      have d0 := cell_later hb c0
      have d2 := cell_later hb c2
      have hw0 : w.heap.size < wr.heap.size := World.block_lt_of_cell? _ _ d0
      clear hA0 hb0 hb c0 c1 c2 hsz
      obtain ⟨wo, rfl⟩ : ∃ wo : World, wo = wr := ⟨_, rfl⟩
      have hx4 : ¬ (i : Int) < 4 := by omega
      go_wp2_with fail
      go_loopw [3, 6] (fun ok j W => ∃ (i : Nat) (a : Bool), i ≤ 24 ∧ j = .int .i64 i ∧ ok = .bool a ∧ Hid ((A0 && frAll M.encl [] M.frames) = (a && frAll M.encl (M.frames.take i) (M.frames.drop i))) ∧ Below wo.heap.size wo W) (fun _ j _ => 24 - (intOf j).toNat)
      case atStart => exact ⟨0, A0, by omega, rfl, rfl, rfl, Below.refl _ _⟩
      case round =>
        obtain ⟨i, a, hi, rfl, rfl, HI, hb⟩ := hrel
        have hsz := hb.size
        have e0 := cell_later hb d0
        have e1 := cell_later hb d1
        have e2 := cell_later hb d2
        have hB : Below w.heap.size w wr := hb1.trans (hb.mono hb1.size)
        have hw1 : w.heap.size < wr.heap.size := by omega
        by_cases hgo : i < 24 ∧ a = true
        · obtain ⟨hlt, rfl⟩ := hgo
          obtain ⟨x, hx⟩ : ∃ x, M.frames[i]? = some x := ⟨_, List.getElem?_eq_getElem (by rw [HN.out]; exact hlt)⟩
          have hxw := HW.out i x hx
          have HS : Hid ((A0 && frAll M.encl [] M.frames) = (frB M.encl (M.frames.take i) x && frAll M.encl (M.frames.take (i + 1)) (M.frames.drop (i + 1)))) := by show _ = _; rw [HI.out, frAll_step hx]; rfl
          obtain ⟨b, off, wa, wc, rfl, k0, k1, k2, k3, k4⟩ := HF.out i x hx
          have l0 := cell_later hB k0
          have l1 := cell_later hB k1
          have l2 := cell_later hB k2
          have l3 := cell_later hB k3
          have HWI := hid (k4.mono hB)
          clear hx k0 k1 k2 k3 k4 HI d0 d1 d2
          obtain ⟨o, p, r, wl⟩ := x
          simp only at hxw l0 l1 l2 l3 HWI
          have hi0 : (0 : Int) ≤ (i : Int) := by omega
          have hi1 : (i : Int) < 24 := by omega
          go_wp2_with fail
          refine (refWords wa wl wl.length wc _ rfl (by omega) (HWI.out.mono (by go_grown))).mono ?_
          rintro e w' ⟨rfl, rfl⟩
          cases hwb : wordsB wl with
          | false =>
            have HV : Hid (frB M.encl (M.frames.take i) ⟨o, p, r, wl⟩ = false) := by show frB _ _ _ = false; simp [frB, hwb]
            clear hwb
            go_wp2_with (go_at_call 25; refine (in_any _ _ _ _).mono ?_; rintro e w' ⟨rfl, rfl⟩)
            go_roundw
            case rel => exact ⟨i + 1, _, by omega, by go_num, rfl, by show _ = _; rw [HS.out, HV.out], hb.trans (by go_grown)⟩
            case measure => simp [intOf]; omega
          | true =>
            have HWB := hid hwb
            clear hwb
            by_cases h1 : inR o 0 4 = true
            · by_cases h2 : inR p 0 7 = true ∧ inR r 0 7 = true
              · obtain ⟨h2, h3⟩ := h2
                have ho : 0 ≤ o ∧ o ≤ 4 := by simpa [inR] using h1
                have HP : Hid (pageF p r wl = 0) := by show pageF p r wl = 0; rw [pageF_ok (by rw [h2, h3]; rfl), HWB.out]; rfl
                by_cases h4 : o = 0
                · subst h4
                  have HV0 : Hid (frB M.encl (M.frames.take i) ⟨0, p, r, wl⟩ = (p == 0 && r == 0)) := by show frB _ _ _ = _; simp [frB, HWB.out, h1]
                  clear ho
                  by_cases h5 : p = 0
                  · have h5b : (p == 0) = true := by simp [h5]
                    by_cases h6 : r = 0
                    · have h6b : (r == 0) = true := by simp [h6]
                      have HV : Hid (frB M.encl (M.frames.take i) ⟨0, p, r, wl⟩ = true) := by show frB _ _ _ = _; rw [HV0.out, h5b, h6b]; rfl
                      clear h5 HV0 h6
                      go_wp2_with (go_at_call 25; refine (in_any _ _ _ _).mono ?_; rintro e w' ⟨rfl, rfl⟩)
                      go_roundw
                      case rel => exact ⟨i + 1, _, by omega, by go_num, rfl, by show _ = _; rw [HS.out, HV.out], hb.trans (by go_grown)⟩
                      case measure => simp [intOf]; omega
                    · have h6b : (r == 0) = false := by simp [h6]
                      have HV : Hid (frB M.encl (M.frames.take i) ⟨0, p, r, wl⟩ = false) := by show frB _ _ _ = _; rw [HV0.out, h5b, h6b]; rfl
                      clear h5 HV0 h6
                      go_wp2_with (go_at_call 25; refine (in_any _ _ _ _).mono ?_; rintro e w' ⟨rfl, rfl⟩)
                      go_roundw
                      case rel => exact ⟨i + 1, _, by omega, by go_num, rfl, by show _ = _; rw [HS.out, HV.out], hb.trans (by go_grown)⟩
                      case measure => simp [intOf]; omega
                  · have h5b : (p == 0) = false := by simp [h5]
                    have HV : Hid (frB M.encl (M.frames.take i) ⟨0, p, r, wl⟩ = false) := by show frB _ _ _ = _; rw [HV0.out, h5b]; rfl
                    clear h5 HV0
                    go_wp2_with (go_at_call 25; refine (in_any _ _ _ _).mono ?_; rintro e w' ⟨rfl, rfl⟩)
                    go_roundw
                    case rel => exact ⟨i + 1, _, by omega, by go_num, rfl, by show _ = _; rw [HS.out, HV.out], hb.trans (by go_grown)⟩
                    case measure => simp [intOf]; omega
                · obtain ⟨k, hk⟩ : ∃ k : Nat, o = k + 1 := ⟨(o - 1).toNat, by omega⟩
                  subst hk
                  have hk4 : k < 4 := by omega
                  have hko : (((k : Int) + 1) == 0) = false := by simp; omega
                  obtain ⟨y, hy⟩ : ∃ y, M.encl[k]? = some y := ⟨_, List.getElem?_eq_getElem (by rw [HE4.out]; exact hk4)⟩
                  obtain ⟨eb, eo, rfl, m0, _⟩ := HE.out k y hy
                  have n0 := cell_later hB m0
                  have hw2 := World.block_lt_of_cell? _ _ n0
                  simp only at hw2
                  have hs : stateAt M.encl ((k : Int) + 1 - 1) = y.state := by simp [stateAt, hy]
                  have HV0 : Hid (frB M.encl (M.frames.take i) ⟨(k : Int) + 1, p, r, wl⟩ = (!(y.state == 0) && !((M.frames.take i).any (twinB ((k : Int) + 1) p)))) := by
                    show frB _ _ _ = _
                    simp only [frB, HWB.out, h1, hs, if_neg h4, HP.out, Bool.true_and]
                    simp
                  have hk0 : (0 : Int) ≤ (k : Int) := by omega
                  have hk1 : (k : Int) < 4 := by omega
                  have hkp : (0 : Int) < (k : Int) + 1 := by omega
                  clear h4 hs hy m0 ho
                  go_wp2_with (go_at_call 25; refine (in_any _ _ _ _).mono ?_; rintro e w' ⟨rfl, rfl⟩)
                  obtain ⟨wp, rfl⟩ : ∃ wp : World, wp = wr := ⟨_, rfl⟩
                  refine wp_gen (fun w3 => Below wp.heap.size wp w3 ∧ w3.cell? ⟨w.heap.size, 0, none⟩ = some (.slice (some ⟨b, off, none⟩) 24 fc) ∧ w3.cell? ⟨wp.heap.size, 0, none⟩ = some (.int .i64 ((k : Int) + 1)) ∧ w3.cell? ⟨wp.heap.size, 1, none⟩ = some (.int .i64 p)) ⟨by go_grown, by go_simp, by go_simp, by go_simp⟩ ?_
                  rintro w3 ⟨hb3, g0, g3, g4⟩
                  have hB3 : Below w.heap.size w w3 := hB.trans (hb3.mono hB.size)
                  clear l0 l1 l2 l3 e0 e1 e2 n0 hw2
                  go_loopw [3, 8] (fun ok j W => ∃ m : Nat, m ≤ i ∧ j = .int .i64 m ∧ ok = .bool ((y.state != 0) && !((M.frames.take m).any (twinB ((k : Int) + 1) p))) ∧ Below w3.heap.size w3 W) (fun _ j _ => i - (intOf j).toNat)
                  case atStart => exact ⟨0, by omega, rfl, by simp, Below.refl _ _⟩
                  case round =>
                    obtain ⟨m, hm, rfl, rfl, hbm⟩ := hrel
                    by_cases hmi : m < i
                    · obtain ⟨z, hz⟩ : ∃ z, M.frames[m]? = some z := ⟨_, List.getElem?_eq_getElem (by rw [HN.out]; omega)⟩
                      have HT : Hid (((y.state != 0) && !((M.frames.take (m + 1)).any (twinB ((k : Int) + 1) p))) = (((y.state != 0) && !((M.frames.take m).any (twinB ((k : Int) + 1) p))) && !(twinB ((k : Int) + 1) p z))) := by show _ = _; rw [any_take hz, Bool.not_or, Bool.and_assoc]
                      obtain ⟨b2, off2, wa2, wc2, he, k0, k1, _⟩ := HF.out m z hz
                      cases he
                      have hBm : Below w.heap.size w wr := hB3.trans (hbm.mono hB3.size)
                      have z0 := cell_later hBm k0
                      have z1 := cell_later hBm k1
                      have y0 := cell_later hbm g0
                      have y3 := cell_later hbm g3
                      have y4 := cell_later hbm g4
                      clear hz k0 k1 g0 g3 g4
                      have hm0 : (0 : Int) ≤ (m : Int) := by omega
                      have hm1 : (m : Int) < 24 := by omega
                      have hm2 : (m : Int) < (i : Int) := by omega
                      generalize ((y.state != 0) && !((M.frames.take m).any (twinB ((k : Int) + 1) p))) = A at HT ⊢
                      cases A with
                      | false =>
                        go_wp2_with fail
                        go_quiet (fail)
                        go_wp2_with fail
                        go_roundw
                        case rel => exact ⟨m + 1, by omega, by go_num, by rw [HT.out]; rfl, below_drewN hbm _⟩
                        case measure => simp [intOf]; omega
                      | true =>
                        by_cases h5 : z.owner = (k : Int) + 1
                        · have h5b : (z.owner != (k : Int) + 1) = false := by simp [h5]
                          by_cases h6 : z.pl = p
                          · have h6b : (z.pl != p) = false := by simp [h6]
                            have HV : Hid (twinB ((k : Int) + 1) p z = true) := by show twinB _ _ _ = true; simp [twinB, h5, h6]
                            clear h5 h6
                            go_wp2_with fail
                            go_quiet (fail)
                            go_wp2_with fail
                            go_roundw
                            case rel => exact ⟨m + 1, by omega, by go_num, by rw [HT.out, HV.out]; rfl, below_drewN hbm _⟩
                            case measure => simp [intOf]; omega
                          · have h6b : (z.pl != p) = true := by simp [h6]
                            have HV : Hid (twinB ((k : Int) + 1) p z = false) := by show twinB _ _ _ = false; simp [twinB, h6]
                            clear h5 h6
                            go_wp2_with fail
                            go_quiet (fail)
                            go_wp2_with fail
                            go_roundw
                            case rel => exact ⟨m + 1, by omega, by go_num, by rw [HT.out, HV.out]; rfl, below_drewN hbm _⟩
                            case measure => simp [intOf]; omega
                        · have h5b : (z.owner != (k : Int) + 1) = true := by simp [h5]
                          have HV : Hid (twinB ((k : Int) + 1) p z = false) := by show twinB _ _ _ = false; simp [twinB, h5]
                          clear h5
                          go_wp2_with fail
                          go_quiet (fail)
                          go_wp2_with fail
                          go_roundw
                          case rel => exact ⟨m + 1, by omega, by go_num, by rw [HT.out, HV.out]; rfl, below_drewN hbm _⟩
                          case measure => simp [intOf]; omega
                    · have hmi2 : m = i := by omega
                      have hmi3 : ¬ (m : Int) < (i : Int) := by omega
                      have HV : Hid (frB M.encl (M.frames.take i) ⟨(k : Int) + 1, p, r, wl⟩ = ((y.state != 0) && !((M.frames.take m).any (twinB ((k : Int) + 1) p)))) := by show _ = _; rw [HV0.out, hmi2]; rfl
                      generalize ((y.state != 0) && !((M.frames.take m).any (twinB ((k : Int) + 1) p))) = A at HV ⊢
                      go_wp2_with fail
                      go_roundw
                      case rel => exact ⟨i + 1, A, by omega, by go_num, rfl, by show _ = _; rw [HS.out, HV.out], hb.trans ((hb3.trans (hbm.mono hb3.size)).mono hb.size)⟩
                      case measure => simp [intOf]; omega
              · have HV : Hid (frB M.encl (M.frames.take i) ⟨o, p, r, wl⟩ = false) := by
                  have hpr : (inR p 0 7 && inR r 0 7) = false := by
                    cases hp : inR p 0 7 <;> cases hr : inR r 0 7 <;> simp_all
                  have hp2 : pageF p r wl = 2 := pageF_range hpr
                  have h00 : (p == 0 && r == 0) = false := by
                    cases hz : (p == 0 && r == 0) with
                    | false => rfl
                    | true =>
                      simp only [Bool.and_eq_true, beq_iff_eq] at hz
                      rw [hz.1, hz.2] at hpr
                      exact absurd hpr (by decide)
                  show frB _ _ _ = false
                  simp [frB, hp2, h00]
                rcases (by cases hp : inR p 0 7 <;> simp_all : inR p 0 7 = false ∨ (inR p 0 7 = true ∧ inR r 0 7 = false)) with hp | ⟨hp, hr⟩
                all_goals
                  clear h2
                  go_wp2_with (go_at_call 25; refine (in_any _ _ _ _).mono ?_; rintro e w' ⟨rfl, rfl⟩)
                  go_roundw
                  case rel => exact ⟨i + 1, _, by omega, by go_num, rfl, by show _ = _; rw [HS.out, HV.out], hb.trans (by go_grown)⟩
                  case measure => simp [intOf]; omega
            · have h1b : inR o 0 4 = false := by simpa using h1
              have HV : Hid (frB M.encl (M.frames.take i) ⟨o, p, r, wl⟩ = false) := by show frB _ _ _ = false; simp [frB, h1b]
              clear h1
              go_wp2_with (go_at_call 25; refine (in_any _ _ _ _).mono ?_; rintro e w' ⟨rfl, rfl⟩)
              go_roundw
              case rel => exact ⟨i + 1, _, by omega, by go_num, rfl, by show _ = _; rw [HS.out, HV.out], hb.trans (by go_grown)⟩
              case measure => simp [intOf]; omega
        · have HX : Hid ((A0 && frAll M.encl [] M.frames) = a) := by
            show _ = _
            rw [HI.out]
            by_cases hlt : i < 24
            · have : a = false := by cases a <;> simp_all
              rw [this]
              rfl
            · rw [List.drop_eq_nil_of_le (by rw [HN.out]; omega)]
              simp [frAll]
          by_cases hlt : i < 24
          · obtain rfl : a = false := by cases a <;> simp_all
            clear hgo HI
            have hi1 : (i : Int) < 24 := by omega
            obtain ⟨wz, rfl⟩ : ∃ wz : World, wz = wr := ⟨_, rfl⟩
            go_wp2_with fail
            go_loopw [3, 9] (fun ok j W => ∃ q : Nat, q ≤ M.quotes.length ∧ j = .int .i64 q ∧ ok = .bool (false && (M.quotes.take q).all quoteB) ∧ Below wz.heap.size wz W) (fun _ j _ => M.quotes.length - (intOf j).toNat)
            case atStart => exact ⟨0, by omega, rfl, by simp, Below.refl _ _⟩
            case round =>
              obtain ⟨q, hq, rfl, rfl, hbq⟩ := hrel
              have v2 := cell_later hbq e2
              have hBq : Below w.heap.size w wr := hB.trans (hbq.mono hB.size)
              by_cases hql : q < M.quotes.length
              · obtain ⟨x, hx⟩ : ∃ x, M.quotes[q]? = some x := ⟨_, List.getElem?_eq_getElem hql⟩
                have HT : Hid ((false && (M.quotes.take (q + 1)).all quoteB) = ((false && (M.quotes.take q).all quoteB) && quoteB x)) := by show _ = _; rw [all_take hx, Bool.and_assoc]
                obtain ⟨qb, qo, rfl, k0, k1⟩ := HQ.out q x hx
                have l0 := cell_later hBq k0
                have l1 := cell_later hBq k1
                clear hx k0 k1
                generalize (false && (M.quotes.take q).all quoteB) = A at HT ⊢
                obtain ⟨n, hn⟩ : ∃ n, M.quotes.length = n := ⟨_, rfl⟩
                rw [hn] at v2 hql hk hq ⊢
                have hq0 : (0 : Int) ≤ (q : Int) := by omega
                have hq1 : (q : Int) < (n : Int) := by omega
                clear hn
                cases A with
                | false =>
                  go_wp2_with (go_at_call 25; refine (in_any _ _ _ _).mono ?_; rintro e w' ⟨rfl, rfl⟩)
                  go_roundw
                  case rel => exact ⟨q + 1, by omega, by go_num, by rw [HT.out]; rfl, hbq⟩
                  case measure => simp [intOf]; omega
                | true =>
                  by_cases h1 : 1000 < x.log.size
                  · have HV : Hid (quoteB x = false) := by show quoteB x = false; simp [quoteB, h1]
                    have h1b : decide ((x.log.size : Int) ≤ 1000) = false := by rw [decide_eq_false_iff_not]; omega
                    clear h1
                    go_wp2_with (go_at_call 25; refine (in_any _ _ _ _).mono ?_; rintro e w' ⟨rfl, rfl⟩)
                    go_roundw
                    case rel => exact ⟨q + 1, by omega, by go_num, by rw [HT.out, HV.out]; rfl, hbq⟩
                    case measure => simp [intOf]; omega
                  · have HV : Hid (quoteB x = inR x.data 0 65535) := by show quoteB x = _; simp [quoteB, h1]
                    have h1b : decide ((x.log.size : Int) ≤ 1000) = true := by rw [decide_eq_true_iff]; omega
                    clear h1
                    go_wp2_with (go_at_call 25; refine (in_any _ _ _ _).mono ?_; rintro e w' ⟨rfl, rfl⟩)
                    go_roundw
                    case rel => exact ⟨q + 1, by omega, by go_num, by rw [HT.out, HV.out]; rfl, hbq⟩
                    case measure => simp [intOf]; omega
              · have hz : M.quotes.take q = M.quotes := List.take_of_length_le (by omega)
                have HMf : Hid (machF M = if (false && (M.quotes.take q).all quoteB) = true then 0 else 8) := by
                  show _ = _
                  rw [HM.out, machB, HA0.out, ← Bool.and_assoc, HX.out, hz]
                clear hz
                generalize (false && (M.quotes.take q).all quoteB) = R at HMf ⊢
                have hq1 : ¬ (q : Int) < (M.quotes.length : Int) := by omega
                cases R
                all_goals
                  go_wp2_with fail
                  go_ret
                  exact ⟨by rw [HMf.out]; rfl, hBq⟩
          · have hi1 : ¬ (i : Int) < 24 := by omega
            clear hgo HI
            obtain ⟨wz, rfl⟩ : ∃ wz : World, wz = wr := ⟨_, rfl⟩
            go_wp2_with fail
            go_loopw [3, 9] (fun ok j W => ∃ q : Nat, q ≤ M.quotes.length ∧ j = .int .i64 q ∧ ok = .bool (a && (M.quotes.take q).all quoteB) ∧ Below wz.heap.size wz W) (fun _ j _ => M.quotes.length - (intOf j).toNat)
            case atStart => exact ⟨0, by omega, rfl, by simp, Below.refl _ _⟩
            case round =>
              obtain ⟨q, hq, rfl, rfl, hbq⟩ := hrel
              have v2 := cell_later hbq e2
              have hBq : Below w.heap.size w wr := hB.trans (hbq.mono hB.size)
              by_cases hql : q < M.quotes.length
              · obtain ⟨x, hx⟩ : ∃ x, M.quotes[q]? = some x := ⟨_, List.getElem?_eq_getElem hql⟩
                have HT : Hid ((a && (M.quotes.take (q + 1)).all quoteB) = ((a && (M.quotes.take q).all quoteB) && quoteB x)) := by show _ = _; rw [all_take hx, Bool.and_assoc]
                obtain ⟨qb, qo, rfl, k0, k1⟩ := HQ.out q x hx
                have l0 := cell_later hBq k0
                have l1 := cell_later hBq k1
                clear hx k0 k1
                generalize (a && (M.quotes.take q).all quoteB) = A at HT ⊢
                obtain ⟨n, hn⟩ : ∃ n, M.quotes.length = n := ⟨_, rfl⟩
                rw [hn] at v2 hql hk hq ⊢
                have hq0 : (0 : Int) ≤ (q : Int) := by omega
                have hq1 : (q : Int) < (n : Int) := by omega
                clear hn
                cases A with
                | false =>
                  go_wp2_with (go_at_call 25; refine (in_any _ _ _ _).mono ?_; rintro e w' ⟨rfl, rfl⟩)
                  go_roundw
                  case rel => exact ⟨q + 1, by omega, by go_num, by rw [HT.out]; rfl, hbq⟩
                  case measure => simp [intOf]; omega
                | true =>
                  by_cases h1 : 1000 < x.log.size
                  · have HV : Hid (quoteB x = false) := by show quoteB x = false; simp [quoteB, h1]
                    have h1b : decide ((x.log.size : Int) ≤ 1000) = false := by rw [decide_eq_false_iff_not]; omega
                    clear h1
                    go_wp2_with (go_at_call 25; refine (in_any _ _ _ _).mono ?_; rintro e w' ⟨rfl, rfl⟩)
                    go_roundw
                    case rel => exact ⟨q + 1, by omega, by go_num, by rw [HT.out, HV.out]; rfl, hbq⟩
                    case measure => simp [intOf]; omega
                  · have HV : Hid (quoteB x = inR x.data 0 65535) := by show quoteB x = _; simp [quoteB, h1]
                    have h1b : decide ((x.log.size : Int) ≤ 1000) = true := by rw [decide_eq_true_iff]; omega
                    clear h1
                    go_wp2_with (go_at_call 25; refine (in_any _ _ _ _).mono ?_; rintro e w' ⟨rfl, rfl⟩)
                    go_roundw
                    case rel => exact ⟨q + 1, by omega, by go_num, by rw [HT.out, HV.out]; rfl, hbq⟩
                    case measure => simp [intOf]; omega
              · have hz : M.quotes.take q = M.quotes := List.take_of_length_le (by omega)
                have HMf : Hid (machF M = if (a && (M.quotes.take q).all quoteB) = true then 0 else 8) := by
                  show _ = _
                  rw [HM.out, machB, HA0.out, ← Bool.and_assoc, HX.out, hz]
                clear hz
                generalize (a && (M.quotes.take q).all quoteB) = R at HMf ⊢
                have hq1 : ¬ (q : Int) < (M.quotes.length : Int) := by omega
                cases R
                all_goals
                  go_wp2_with fail
                  go_ret
                  exact ⟨by rw [HMf.out]; rfl, hBq⟩

theorem refFault (v : Value) (M : MachD) (w : World) (hv : MachAt w v M) (hf : M.Fits) : Calls Tryz.prog 50 #[v] w fun e w' => e = .returned (.int .i64 (machF M)) ∧ Below w.heap.size w w' := by
  cases hs : sizeB M with
  | true => exact refFault_ok v M w hv hf hs
  | false => exact refFault_size v M w hv hs

end Go.Proofs.YtklbbjionoeofaaGreatDoor
