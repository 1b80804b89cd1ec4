/- ref.LookedOf, walked. Conditions: those that each contract writes. -/
import Derived.Test.YtklbbjionoeofaaGreatDoorGq
namespace Go.Proofs.YtklbbjionoeofaaGreatDoor
open Go.RowKit

theorem sameQ_comm (a b : QuoteD) : sameQ a b = sameQ b a := by unfold sameQ; rw [Bool.beq_comm, Bool.beq_comm (a := a.data)]
theorem sameS_comm (a b : ByteArray) : sameS a b = sameS b a := by unfold sameS; rw [Bool.beq_comm]

theorem sameQ_eq_def (x : QuoteD) (ql : ByteArray) (qd : Int) : sameQ ⟨ql, qd⟩ x = (x.log.toList == ql.toList && x.data == qd) := sameQ_comm _ _
/-- The boxes of the three: the challenger, the quote, the result. -/
structure LookBox (w : World) (cv nv : Value) (ql : ByteArray) (qd : Int) (W : World) : Prop where
  below : Below w.heap.size w W
  p0 : W.cell? ⟨w.heap.size, 0, none⟩ = some cv
  p1 : W.cell? ⟨w.heap.size, 1, none⟩ = some nv
  q0 : W.cell? ⟨w.heap.size + 1, 0, none⟩ = some (.string ql)
  q1 : W.cell? ⟨w.heap.size + 1, 1, none⟩ = some (.int .i64 qd)
  r0 : W.cell? ⟨w.heap.size + 1 + 1, 0, none⟩ = some (.slice none 0 0)
  r1 : W.cell? ⟨w.heap.size + 1 + 1, 1, none⟩ = some (.slice none 0 0)
  rz : ∀ o, W.frozen? ⟨w.heap.size + 1 + 1, o, none⟩ = false
  z : w.heap.size + 1 + 1 < W.heap.size
theorem LookBox.later {w W W' : World} {cv nv : Value} {ql : ByteArray} {qd : Int} (h : LookBox w cv nv ql qd W) (hb : Below W.heap.size W W') : LookBox w cv nv ql qd W' := by
  have hz := h.z
  exact ⟨h.below.trans (hb.mono h.below.size), cell_later hb h.p0, cell_later hb h.p1, cell_later hb h.q0, cell_later hb h.q1, cell_later hb h.r0, cell_later hb h.r1, fun o => by rw [(bcell hb).2 _ _ (by omega)]; exact h.rz o, by have := hb.size; omega⟩

set_option maxRecDepth 10000 in
set_option maxHeartbeats 3200000 in
theorem refLooked (v : Value) (C : ChalD) (a : Option Addr) (L : List QuoteD) (cap : Nat) (ql : ByteArray) (qd : Int) (w : World) (hv : ChalAt w v C) (hf : C.Fits) (hL : QuotesAt w a L) (hLn : L.length ≤ 9223372036854775807) :
    Calls Tryz.prog 26 #[v, .slice a L.length cap, .agg #[.string ql, .int .i64 qd]] w (Chal2 w.heap.size (lookD C L ⟨ql, qd⟩) w) := by
  have hv' := hv
  obtain ⟨ta, tc, na, nc, rfl, ht, hn⟩ := hv'
  have HV := hid hv
  have HT := hid ht
  have HN := hid hn
  have HQ := hid hL
  clear hv ht hn hL
  obtain ⟨n, hn⟩ : ∃ n, L.length = n := ⟨_, rfl⟩
  have HLn := hid hn
  rw [hn] at hLn ⊢
  clear hn
  have B0 : ∀ X Y Z, Below w.heap.size w (((w.alloc X).alloc Y).alloc Z) := fun X Y Z => by go_grown
  go_enter Tryz.func26, Tryz.ntmps26
  go_wp2_with fail
  refine (refChalFault _ C _ (HV.out.mono (B0 _ _ _)) hf).mono ?_
  rintro x w1 ⟨rfl, hb1⟩
  have HB : Hid (LookBox w (.slice ta C.trusts.length tc) (.slice na C.nonces.length nc) ql qd w1) :=
    ⟨(B0 _ _ _).trans (hb1.mono (by go_size)), by rw [(bcell hb1).1 _ _ (by go_size)]; go_simp, by rw [(bcell hb1).1 _ _ (by go_size)]; go_simp, by rw [(bcell hb1).1 _ _ (by go_size)]; go_simp, by rw [(bcell hb1).1 _ _ (by go_size)]; go_simp, by rw [(bcell hb1).1 _ _ (by go_size)]; go_simp, by rw [(bcell hb1).1 _ _ (by go_size)]; go_simp,
      fun o => by rw [(bcell hb1).2 _ _ (by go_size)]; go_simp, by have := hb1.size; simp at this; omega⟩
  clear hb1 B0
  by_cases h0 : chalF C = 0
  · have hle := chalF_le h0
    have H0 := hid h0
    rw [h0]
    clear h0
    go_wp2_with fail
    go_loopw [9, 10] (fun t j W => ∃ i : Nat, i ≤ n ∧ j = .int .i64 i ∧ t = .bool ((L.take i).any (sameQ ⟨ql, qd⟩)) ∧ Below w1.heap.size w1 W) (fun _ j _ => n - (intOf j).toNat)
    case atStart => exact ⟨0, by omega, rfl, by simp, Below.refl _ _⟩
    case round =>
      obtain ⟨i, hi, rfl, rfl, hb⟩ := hrel
      have HB := hid (HB.out.later hb)
      by_cases hlt : i < n
      · obtain ⟨x, hx⟩ : ∃ x, L[i]? = some x := ⟨_, List.getElem?_eq_getElem (by rw [HLn.out]; exact hlt)⟩
        have HS : Hid ((L.take (i + 1)).any (sameQ ⟨ql, qd⟩) = ((L.take i).any (sameQ ⟨ql, qd⟩) || (x.log.toList == ql.toList && x.data == qd))) := by
          show _ = _
          rw [List.take_add_one, hx, List.any_append, ← sameQ_eq_def x ql qd]
          simp
        obtain ⟨b, off, rfl, k0, k1⟩ := HQ.out i x hx
        have l0 := cell_later HB.out.below k0
        have l1 := cell_later HB.out.below k1
        have q0 := HB.out.q0
        have q1 := HB.out.q1
        have z1 := HB.out.z
        clear hx k0 k1
        have hi0 : (0 : Int) ≤ (i : Int) := by omega
        have hi1 : (i : Int) < (n : Int) := by omega
        have heq := fun w => eqlQuote x.log ql x.data qd w
        generalize (L.take i).any (sameQ ⟨ql, qd⟩) = A at HS ⊢
        generalize (x.log.toList == ql.toList && x.data == qd) = R at HS heq
        cases A
        all_goals
          go_wp2_with fail
          go_quiet (fail)
          go_wp2_with fail
          go_roundw
          case rel => exact ⟨i + 1, by omega, by go_num, by rw [HS.out]; rfl, below_drewN hb _⟩
          case measure => simp [intOf]; omega
      · have HA : Hid (L.any (sameQ ⟨ql, qd⟩) = (L.take i).any (sameQ ⟨ql, qd⟩)) := by show _ = _; rw [List.take_of_length_le (by rw [HLn.out]; omega)]
        have hi1 : ¬ (i : Int) < (n : Int) := by omega
        obtain ⟨W1, rfl⟩ : ∃ W1 : World, W1 = wr := ⟨_, rfl⟩
        clear hb
        have p0 := HB.out.p0
        have p1 := HB.out.p1
        have q0 := HB.out.q0
        have q1 := HB.out.q1
        have r0 := HB.out.r0
        have r1 := HB.out.r1
        have r3 := HB.out.rz
        have z1 := HB.out.z
        have B1 := HB.out.below
        cases hA : (L.take i).any (sameQ ⟨ql, qd⟩) with
        | false =>
          have HD : Hid (lookD C L ⟨ql, qd⟩ = (chal0, 4)) := by show lookD C L _ = _; rw [lookD, if_neg (by simpa using H0.out), if_pos (by rw [HA.out, hA])]
          clear hA
          go_wp2_with (go_at_call 25; refine (in_any _ _ _ _).mono ?_; rintro e w' ⟨rfl, rfl⟩)
          refine bodyPost_ret (v := .tuple #[.agg #[.slice none 0 0, .slice none 0 0], .int .i64 4]) (by simp [results, Tryz.results26, go_sem, r0, r1]) rfl (Chal2.mk HD.out chal0_from ?_)
          exact below_low2 B1 (by omega) _ _
        | true =>
          have HC := hid (lookD_cases C L ⟨ql, qd⟩ H0.out (by rw [HA.out, hA]))
          clear hA
          have HC' := HC.out
          simp only at HC'
          rcases HC' with ⟨h1, hD⟩ | ⟨h1, h2, hD⟩ | ⟨k, m, hk, hkl, hnk, hD⟩
          · have HD := hid hD
            have hin : inR qd 1 C.nonces.length = false := by simp [inR]; omega
            clear hD HC
            go_wp2_with (go_at_call 25; refine (in_any _ _ _ _).mono ?_; rintro e w' ⟨rfl, rfl⟩)
            refine bodyPost_ret (v := .tuple #[.agg #[.slice none 0 0, .slice none 0 0], .int .i64 5]) (by simp [results, Tryz.results26, go_sem, r0, r1]) rfl (Chal2.mk HD.out chal0_from ?_)
            exact below_low2 B1 (by omega) _ _
          · have HD := hid hD
            have hin : inR qd 1 C.nonces.length = false := by simp [inR]; omega
            clear hD HC
            go_wp2_with (go_at_call 25; refine (in_any _ _ _ _).mono ?_; rintro e w' ⟨rfl, rfl⟩)
            refine bodyPost_ret (v := .tuple #[.agg #[.slice none 0 0, .slice none 0 0], .int .i64 5]) (by simp [results, Tryz.results26, go_sem, r0, r1]) rfl (Chal2.mk HD.out chal0_from ?_)
            exact below_low2 B1 (by omega) _ _
          subst hk
          have hin : inR ((k : Int) + 1) 1 C.nonces.length = true := by simp [inR]; omega
          obtain ⟨nb, no, rfl, k0⟩ := HN.out k m hnk
          have k1 := cell_later B1 k0
          have HNK := hid hnk
          clear k0 hnk HC
          have hk0 : (0 : Int) ≤ (k : Int) := by omega
          have hk1 : (k : Int) < (C.nonces.length : Int) := by omega
          rcases hD with ⟨rfl, hD⟩ | ⟨rfl, hD⟩
          · have HD := hid hD
            clear hD
            go_wp2_with (go_at_call 25; refine (in_any _ _ _ _).mono ?_; rintro e w' ⟨rfl, rfl⟩)
            refine bodyPost_ret (v := .tuple #[.agg #[.slice none 0 0, .slice none 0 0], .int .i64 6]) (by simp [results, Tryz.results26, go_sem, r0, r1]) rfl (Chal2.mk HD.out chal0_from ?_)
            exact below_low2 B1 (by omega) _ _
          have HD := hid hD
          clear hD
          go_wp2_with (go_at_call 25; refine (in_any _ _ _ _).mono ?_; rintro e w' ⟨rfl, rfl⟩)
          go_loopw [11] (fun j W => ∃ i : Nat, i ≤ C.trusts.length ∧ j = .int .i64 i ∧ Hid (∀ (j : Nat) y, j < i → C.trusts[j]? = some y → sameS ql y = false) ∧ Below W1.heap.size W1 W) (fun j _ => C.trusts.length - (intOf j).toNat)
          case atStart => exact ⟨0, by omega, rfl, fun _ _ h => by omega, Below.refl _ _⟩
          case round =>
            obtain ⟨i2, hi2, rfl, HI, hb⟩ := hrel
            have HB2 := hid (HB.out.later hb)
            clear p0 p1 q0 q1 r0 r1 r3 z1 B1 HB k1
            have HB := HB2
            clear HB2
            have p0 := HB.out.p0
            have p1 := HB.out.p1
            have q0 := HB.out.q0
            have q1 := HB.out.q1
            have r0 := HB.out.r0
            have r1 := HB.out.r1
            have r3 := HB.out.rz
            have z1 := HB.out.z
            have B1 := HB.out.below
            by_cases hlt2 : i2 < C.trusts.length
            · obtain ⟨x, hx⟩ : ∃ x, C.trusts[i2]? = some x := ⟨_, List.getElem?_eq_getElem hlt2⟩
              obtain ⟨b, off, rfl, k0⟩ := HT.out i2 x hx
              have l0 := cell_later B1 k0
              have HX := hid hx
              clear hx k0
              have hj0 : (0 : Int) ≤ (i2 : Int) := by omega
              have hj1 : (i2 : Int) < (C.trusts.length : Int) := by omega
              cases hq : sameS ql x with
              | true =>
                have hq' : (x.toList == ql.toList) = true := by have := sameS_comm x ql; rw [hq] at this; exact this
                have hany : C.trusts.any (sameS ql) = true := List.any_eq_true.2 ⟨x, List.mem_of_getElem? HX.out, hq⟩
                rw [if_neg (by simp [hany])] at HD
                clear hq hany HI
                go_wp2_with fail
                go_quiet (fail)
                refine act_gen (LookBox w (.slice (some ⟨b, off, none⟩) C.trusts.length tc) (.slice (some ⟨nb, no, none⟩) C.nonces.length nc) ql ((k : Int) + 1)) (HB.out.later (below_drewN (Below.refl _ _) _)) ?_
                clear p0 p1 q0 q1 r0 r1 r3 z1 B1 HB l0 hb
                intro W2 HB
                have HB := hid HB
                have p0 := HB.out.p0
                have p1 := HB.out.p1
                have q0 := HB.out.q0
                have q1 := HB.out.q1
                have r0 := HB.out.r0
                have r1 := HB.out.r1
                have r3 := HB.out.rz
                have z1 := HB.out.z
                have B1 := HB.out.below
                go_wp2_with fail
                refine (refChalCopy _ C _ (HV.out.mono B1) hf).mono ?_
                rintro x2 w3 ⟨v3, rfl, ⟨tv, nv, rfl, hot, hon, hap⟩, hb3⟩
                obtain ⟨g, c2, rfl, hg1, hg2⟩ := own_some hon (by omega)
                obtain ⟨ta2, tc2, rfl⟩ := own_slice hot
                have s0 := (hon.cellAt k (by omega)).trans (show (intCells C.nonces)[k]? = some (.int .i64 0) by simp [intCells, HNK.out])
                have s9 : ∀ o, w3.frozen? ⟨g, o, none⟩ = false := fun o => hon.frozenAt o
                have HB3 := hid (HB.out.later hb3)
                have zz1 : w.heap.size + 1 + 1 < W2.heap.size := z1
                clear p0 p1 q0 q1 r0 r1 r3 B1 HB
                have HB := HB3
                clear HB3
                have q1 := HB.out.q1
                have r0 := HB.out.r0
                have r1 := HB.out.r1
                have r3 := HB.out.rz
                have z3 := HB.out.z
                have B3 := HB.out.below
                have n2 : w.heap.size + 1 ≠ g := by omega
                have n3 : w.heap.size + 1 + 1 ≠ g := by omega
                have n5 : g ≠ w.heap.size + 1 := by omega
                have n6 : g ≠ w.heap.size + 1 + 1 := by omega
                have hgn : w3.heap.size ≠ g := by omega
                have z4 : w.heap.size + 1 < w3.heap.size := by omega
                have hgn2 : w3.heap.size ≠ w.heap.size + 1 + 1 := by omega
                have hgn3 : w.heap.size + 1 + 1 ≠ w3.heap.size := by omega
                have hgn4 : w.heap.size + 1 ≠ w3.heap.size := by omega
                have hng : NotAt (.slice ta2 C.trusts.length tc2) g := fun k hk e => hap k hk (by rw [e]; rfl)
                have K1 := hid (ownsRow_below (ownsRow_low2 (ownsRow_setAt hot hng k (.int .i64 1)) (b := w.heap.size + 1 + 1) (by omega) (.slice ta2 C.trusts.length tc2) (.slice (some ⟨g, 0, none⟩) C.nonces.length c2)) (below_alloc _ (.cells #[.slice ta2 C.trusts.length tc2, .slice (some ⟨g, 0, none⟩) C.nonces.length c2] 32)))
                have K2 := hid (ownsRow_below (ownsRow_low2 (hon.stored k (.int .i64 1)).1 (b := w.heap.size + 1 + 1) (by omega) (.slice ta2 C.trusts.length tc2) (.slice (some ⟨g, 0, none⟩) C.nonces.length c2)) (below_alloc _ (.cells #[.slice ta2 C.trusts.length tc2, .slice (some ⟨g, 0, none⟩) C.nonces.length c2] 32)))
                have KB := hid ((below_low2 (below_at B3 (b := g) (by omega) k (.int .i64 1)) (b := w.heap.size + 1 + 1) (by omega) (.slice ta2 C.trusts.length tc2) (.slice (some ⟨g, 0, none⟩) C.nonces.length c2)).trans ((below_alloc _ (.cells #[.slice ta2 C.trusts.length tc2, .slice (some ⟨g, 0, none⟩) C.nonces.length c2] 32)).mono (by simp; omega)))
                clear hot hon hap hb3 hng B3
                go_wp2_with fail
                refine bodyPost_ret (v := .tuple #[.agg #[.slice ta2 C.trusts.length tc2, .slice (some ⟨g, 0, none⟩) C.nonces.length c2], .int .i64 0]) ?_ rfl ?_
                · simp only [results, Tryz.results26]
                  go_simp
                refine Chal2.mk HD.out ?_ KB.out
                have k2 := K2.out
                rw [intCells_set] at k2
                exact chalFrom_own (by omega) (by omega) K1.out k2 rfl (by simp)
              | false =>
                have hq' : (x.toList == ql.toList) = false := by have := sameS_comm x ql; rw [hq] at this; exact this
                have HI' := hid (find_next HX.out hq HI.out)
                clear hq HI
                go_wp2_with fail
                go_quiet (fail)
                go_wp2_with fail
                go_roundw
                case rel => exact ⟨i2 + 1, by omega, by go_num, HI', below_drewN hb _⟩
                case measure => simp [intOf]; omega
            · have hany : C.trusts.any (sameS ql) = false := by
                rw [List.any_eq_false]
                intro y hy
                obtain ⟨j, hj, rfl⟩ := List.getElem_of_mem hy
                rw [HI.out j _ (by omega) (List.getElem?_eq_getElem hj)]
                simp
              rw [if_pos hany] at HD
              clear hany HI
              have hj1 : ¬ (i2 : Int) < (C.trusts.length : Int) := by omega
              go_wp2_with (go_at_call 25; refine (in_any _ _ _ _).mono ?_; rintro e w' ⟨rfl, rfl⟩)
              refine bodyPost_ret (v := .tuple #[.agg #[.slice none 0 0, .slice none 0 0], .int .i64 11]) (by simp [results, Tryz.results26, go_sem, r0, r1]) rfl (Chal2.mk HD.out chal0_from ?_)
              exact below_low2 B1 (by omega) _ _
  · have HD : Hid (lookD C L ⟨ql, qd⟩ = (chal0, chalF C)) := by show lookD C L _ = _; rw [lookD, if_pos h0]
    have hE1 : (chalF C != 0) = true := by rw [bne_iff_ne]; exact h0
    generalize chalF C = E at HD hE1 h0 ⊢
    clear h0
    have p0 := HB.out.p0
    have p1 := HB.out.p1
    have q0 := HB.out.q0
    have q1 := HB.out.q1
    have r0 := HB.out.r0
    have r1 := HB.out.r1
    have r3 := HB.out.rz
    have z1 := HB.out.z
    have B1 := HB.out.below
    go_wp2_with (go_at_call 25; refine (in_any _ _ _ _).mono ?_; rintro e w' ⟨rfl, rfl⟩)
    refine bodyPost_ret (v := .tuple #[.agg #[.slice none 0 0, .slice none 0 0], .int .i64 E]) (by simp [results, Tryz.results26, go_sem, r0, r1]) rfl (Chal2.mk HD.out chal0_from ?_)
    exact below_low2 B1 (by omega) _ _

end Go.Proofs.YtklbbjionoeofaaGreatDoor
