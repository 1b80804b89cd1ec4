/- The laws' sameMachine, where what is compared is alike: it answers true. Condition: what fits the form's own reach. -/
import Derived.Test.YtklbbjionoeofaaGreatDoorGa
import Derived.Test.YtklbbjionoeofaaGreatDoorGb
namespace Go.Proofs.YtklbbjionoeofaaGreatDoor
open Go.RowKit

set_option maxRecDepth 100000 in
set_option maxHeartbeats 3200000 in
theorem sameMachine (u v : Value) (M : MachD) (w : World) (hf : M.Fits) (hu : MachAt w u M) (hv : MachAt w v M) :
    Calls Tryz.prog 6 #[u, v] w fun e w' => e = .returned (.bool true) ∧ Below w.heap.size w w' := by
  obtain ⟨fa, fc, ea, ec, qa, qc, rfl, hF, hE, hQ, _⟩ := hu
  obtain ⟨fb, fd, eb, ed, qb, qd, rfl, hF', hE', hQ', _⟩ := hv
  have HF := hid hF
  have HE := hid hE
  have HQ := hid hQ
  have GF := hid hF'
  have GE := hid hE'
  have GQ := hid hQ'
  have HW := hid hf.w
  have hfn := hf.f
  have hfe := hf.e
  have hfq := hf.q
  clear hF hE hQ hF' hE' hQ' hf
  obtain ⟨n, hn⟩ : ∃ n, M.frames.length = n := ⟨_, rfl⟩
  obtain ⟨m, hm⟩ : ∃ m, M.encl.length = m := ⟨_, rfl⟩
  obtain ⟨k, hk⟩ : ∃ k, M.quotes.length = k := ⟨_, rfl⟩
  rw [hn, hm, hk]
  rw [hn] at hfn
  rw [hm] at hfe
  rw [hk] at hfq
  have HN := hid hn
  have HM := hid hm
  have HK := hid hk
  clear hn hm hk
  go_enter Tryz.func6, Tryz.ntmps6
  go_wp2_with fail
  refine wp_gen (fun W0 => Below w.heap.size w W0 ∧ w.heap.size + 1 < W0.heap.size ∧ W0.cell? ⟨w.heap.size, 0, none⟩ = some (.slice fa n fc) ∧ W0.cell? ⟨w.heap.size, 1, none⟩ = some (.slice ea m ec) ∧ W0.cell? ⟨w.heap.size, 2, none⟩ = some (.slice qa k qc) ∧
    W0.cell? ⟨w.heap.size + 1, 0, none⟩ = some (.slice fb n fd) ∧ W0.cell? ⟨w.heap.size + 1, 1, none⟩ = some (.slice eb m ed) ∧ W0.cell? ⟨w.heap.size + 1, 2, none⟩ = some (.slice qb k qd)) ⟨by go_grown, by go_size, by simp [go_sem], by simp [go_sem], by simp [go_sem], by simp [go_sem], by simp [go_sem], by simp [go_sem]⟩ ?_
  rintro W0 ⟨hb0, hz0, c0, c1, c2, c3, c4, c5⟩
  go_loopw [5] (fun j W => ∃ i : Nat, i ≤ n ∧ j = .int .i64 i ∧ Below W0.heap.size W0 W) (fun j _ => n - (intOf j).toNat)
  case atStart => exact ⟨0, by omega, rfl, Below.refl _ _⟩
  case round =>
    obtain ⟨i, hi, rfl, hb⟩ := hrel
    have d0 := cell_later hb c0
    have d1 := cell_later hb c1
    have d2 := cell_later hb c2
    have d3 := cell_later hb c3
    have d4 := cell_later hb c4
    have d5 := cell_later hb c5
    have hsz := hb.size
    have hB : Below w.heap.size w wr := hb0.trans (hb.mono hb0.size)
    clear c0 c1 c2 c3 c4 c5
    by_cases hlt : i < n
    · obtain ⟨x, hx⟩ : ∃ x, M.frames[i]? = some x := ⟨_, List.getElem?_eq_getElem (by rw [HN.out]; exact hlt)⟩
      have hxw := HW.out i x hx
      obtain ⟨ab, ao, aw, ac, rfl, k0, k1, k2, k3, k4⟩ := HF.out i x hx
      obtain ⟨bb, bo, bw, bc, rfl, m0, m1, m2, m3, m4⟩ := GF.out i x hx
      have l0 := cell_later hB k0
      have l1 := cell_later hB k1
      have l2 := cell_later hB k2
      have l3 := cell_later hB k3
      have p0 := cell_later hB m0
      have p1 := cell_later hB m1
      have p2 := cell_later hB m2
      have p3 := cell_later hB m3
      have K4 := hid (k4.mono hB)
      have M4 := hid (m4.mono hB)
      have hbl := World.block_lt_of_cell? _ _ m0
      simp only at hbl
      clear hx k0 k1 k2 k3 k4 m0 m1 m2 m3 m4
      have hi0 : (0 : Int) ≤ (i : Int) := Int.natCast_nonneg _
      have hi1 : (i : Int) < (n : Int) := by omega
      have hbl2 : bb < wr.heap.size := by omega
      have hz1 : w.heap.size + 1 < wr.heap.size := by omega
      go_wp2_with (go_at_call 29; refine (sameInts aw bw x.words x.words.length ac bc _ rfl (by omega) (K4.out.mono (by go_grown)) (M4.out.mono (by go_grown))).mono ?_; rintro e w' ⟨rfl, q, rfl⟩)
      go_roundw
      case rel => exact ⟨i + 1, by omega, by go_num, below_drewN (hb.trans (by go_grown)) _⟩
      case measure => simp [intOf]; omega
    · obtain rfl : i = n := by omega
      clear hb0 hb hlt hz0 hi
      obtain ⟨W1, rfl⟩ : ∃ W1 : World, W1 = wr := ⟨_, rfl⟩
      have hi' : ¬ (i : Int) < (i : Int) := by omega
      go_wp2_with fail
      go_loopw [8] (fun j W => ∃ i : Nat, i ≤ m ∧ j = .int .i64 i ∧ Below W1.heap.size W1 W) (fun j _ => m - (intOf j).toNat)
      case atStart => exact ⟨0, by omega, rfl, Below.refl _ _⟩
      case round =>
        obtain ⟨i2, hi2, rfl, hb⟩ := hrel
        have c1 := cell_later hb d1
        have c2 := cell_later hb d2
        have c4 := cell_later hb d4
        have c5 := cell_later hb d5
        have hC : Below w.heap.size w wr := hB.trans (hb.mono hB.size)
        clear d0 d1 d2 d3 d4 d5
        by_cases hlt : i2 < m
        · obtain ⟨x, hx⟩ : ∃ x, M.encl[i2]? = some x := ⟨_, List.getElem?_eq_getElem (by rw [HM.out]; exact hlt)⟩
          obtain ⟨ab, ao, rfl, k0, k1, k2, k3, k4, k5, k6⟩ := HE.out i2 x hx
          obtain ⟨bb, bo, rfl, m0, m1, m2, m3, m4, m5, m6⟩ := GE.out i2 x hx
          have l0 := cell_later hC k0
          have l1 := cell_later hC k1
          have l2 := cell_later hC k2
          have l3 := cell_later hC k3
          have l4 := cell_later hC k4
          have l5 := cell_later hC k5
          have l6 := cell_later hC k6
          have p0 := cell_later hC m0
          have p1 := cell_later hC m1
          have p2 := cell_later hC m2
          have p3 := cell_later hC m3
          have p4 := cell_later hC m4
          have p5 := cell_later hC m5
          have p6 := cell_later hC m6
          clear hx k0 k1 k2 k3 k4 k5 k6 m0 m1 m2 m3 m4 m5 m6
          have hi0 : (0 : Int) ≤ (i2 : Int) := Int.natCast_nonneg _
          have hi1 : (i2 : Int) < (m : Int) := by omega
          have hne := fun w => neqEncl x.state x.log x.pc x.r0 x.r1 x.r2 x.r3 w
          go_wp2_with fail
          go_quiet (fail)
          go_wp2_with fail
          go_roundw
          case rel => exact ⟨i2 + 1, by omega, by go_num, below_drewN hb _⟩
          case measure => simp [intOf]; omega
        · obtain rfl : i2 = m := by omega
          clear hb hlt hi2
          obtain ⟨W2, rfl⟩ : ∃ W2 : World, W2 = wr := ⟨_, rfl⟩
          have hi' : ¬ (i2 : Int) < (i2 : Int) := by omega
          go_wp2_with fail
          go_loopw [9] (fun j W => ∃ i : Nat, i ≤ k ∧ j = .int .i64 i ∧ Below W2.heap.size W2 W) (fun j _ => k - (intOf j).toNat)
          case atStart => exact ⟨0, by omega, rfl, Below.refl _ _⟩
          case round =>
            obtain ⟨i3, hi3, rfl, hb⟩ := hrel
            have d2 := cell_later hb c2
            have d5 := cell_later hb c5
            have hD : Below w.heap.size w wr := hC.trans (hb.mono hC.size)
            clear c1 c2 c4 c5
            by_cases hlt : i3 < k
            · obtain ⟨x, hx⟩ : ∃ x, M.quotes[i3]? = some x := ⟨_, List.getElem?_eq_getElem (by rw [HK.out]; exact hlt)⟩
              obtain ⟨ab, ao, rfl, k0, k1⟩ := HQ.out i3 x hx
              obtain ⟨bb, bo, rfl, m0, m1⟩ := GQ.out i3 x hx
              have l0 := cell_later hD k0
              have l1 := cell_later hD k1
              have p0 := cell_later hD m0
              have p1 := cell_later hD m1
              clear hx k0 k1 m0 m1
              have hi0 : (0 : Int) ≤ (i3 : Int) := Int.natCast_nonneg _
              have hi1 : (i3 : Int) < (k : Int) := by omega
              have hne := fun w => neqQuote x.log x.data w
              go_wp2_with fail
              go_quiet (fail)
              go_wp2_with fail
              go_roundw
              case rel => exact ⟨i3 + 1, by omega, by go_num, below_drewN hb _⟩
              case measure => simp [intOf]; omega
            · have hi' : ¬ (i3 : Int) < (k : Int) := by omega
              go_wp2_with fail
              go_ret
              exact ⟨rfl, hD⟩

end Go.Proofs.YtklbbjionoeofaaGreatDoor
