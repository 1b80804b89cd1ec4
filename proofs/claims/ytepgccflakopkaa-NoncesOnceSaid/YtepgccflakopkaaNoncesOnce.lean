/- A quote is taken once, and only if it was made, of who is trusted, and of a nonce that is out: the law returns true at every two numbers; its arguments read as they did. No condition. -/
import Derived.Test.YtepgccflakopkaaOpens
import Derived.Test.YtepgccflakopkaaNoncesPlain
import Derived.Test.YtepgccflakopkaaPick
import Derived.Test.YtepgccflakopkaaBox
import Derived.StillTailTactics
namespace Go.Proofs.Ytepgccflakopkaa
open Go.ChangeShapes Go.WideShapes Go.ChangeAt Go.RowKit

/-- The challenger's box behind so many nonces. -/
structure NonSt (w : World) (ta na : Option Addr) (tc nc m : Nat) (W : World) : Prop where
  below : Below w.heap.size w W
  c0 : W.cell? ⟨w.heap.size + 1, 0, none⟩ = some (.slice ta 1 tc)
  c1 : W.cell? ⟨w.heap.size + 1, 1, none⟩ = some (.slice na m nc)
  cz : ∀ o, W.frozen? ⟨w.heap.size + 1, o, none⟩ = false
  at' : ChalAt W (.agg #[.slice ta 1 tc, .slice na m nc]) (nonC m)
  z : w.heap.size + 1 < W.heap.size
theorem NonSt.later {w W W' : World} {ta na : Option Addr} {tc nc m : Nat} (h : NonSt w ta na tc nc m W) (hb : Below W.heap.size W W') : NonSt w ta na tc nc m W' :=
  ⟨h.below.trans (hb.mono h.below.size), cell_later hb h.c0, cell_later hb h.c1, fun o => by rw [(bcell hb).2 _ _ h.z]; exact h.cz o, h.at'.mono hb, by have := h.z; have := hb.size; omega⟩
theorem nonC_at {W : World} {v : Value} {m : Nat} (h : ChalAt W v (nonC m)) : ∃ ta tc na nc, v = .agg #[.slice ta 1 tc, .slice na m nc] := by
  obtain ⟨ta, tc, na, nc, rfl, _, _⟩ := h
  refine ⟨ta, tc, na, nc, ?_⟩
  simp [nonC]
/-- The challenger's box, and the quotes that are said to be made. -/
structure LkSt (w : World) (ta na : Option Addr) (tc nc m : Nat) (k : Int) (B : Nat) (W : World) : Prop where
  st : NonSt w ta na tc nc m W
  q : QuotesAt W (some ⟨B, 0, none⟩) (madeL k m)
  g0 : W.cell? ⟨B, 0, none⟩ = some (.string goodS)
  g1 : W.cell? ⟨B, 1, none⟩ = some (.int .i64 k)
  g2 : W.cell? ⟨B, 2, none⟩ = some (.string badS)
  g3 : W.cell? ⟨B, 3, none⟩ = some (.int .i64 k)
  g4 : W.cell? ⟨B, 4, none⟩ = some (.string goodS)
  g5 : W.cell? ⟨B, 5, none⟩ = some (.int .i64 ((m : Int) + 1))
theorem LkSt.of {w W : World} {ta na : Option Addr} {tc nc m : Nat} {k : Int} (h : NonSt w ta na tc nc m W) (t : TypeId) : LkSt w ta na tc nc m k W.heap.size (W.alloc (.cells #[.string goodS, .int .i64 k, .string badS, .int .i64 k, .string goodS, .int .i64 ((m : Int) + 1)] t)) := by
  refine ⟨h.later (below_alloc _ _), fun i x hx => ?_, by go_simp, by go_simp, by go_simp, by go_simp, by go_simp, by go_simp⟩
  rcases i with _ | _ | _ | i
  all_goals
    simp [madeL] at hx
    try subst hx
    try exact ⟨_, _, rfl, by go_simp, by go_simp⟩
theorem LkSt.later {w W W' : World} {ta na : Option Addr} {tc nc m : Nat} {k : Int} {B : Nat} (h : LkSt w ta na tc nc m k B W) (hb : Below W.heap.size W W') : LkSt w ta na tc nc m k B W' :=
  ⟨h.st.later hb, h.q.mono hb, cell_later hb h.g0, cell_later hb h.g1, cell_later hb h.g2, cell_later hb h.g3, cell_later hb h.g4, cell_later hb h.g5⟩
theorem NonSt.box2 {w W : World} {ta na : Option Addr} {tc nc m b : Nat} (h : NonSt w ta na tc nc m W) (hb : w.heap.size ≤ b) (hn : w.heap.size + 1 ≠ b) (s0 : SlAt W b 0) (s1 : SlAt W b 1) (x y : Option Addr) (n k c d : Nat) : NonSt w ta na tc nc m ((W.setCell ⟨b, 0, none⟩ (.slice x n c)).setCell ⟨b, 1, none⟩ (.slice y k d)) := by
  have c0 := h.c0
  have c1 := h.c1
  have cz := h.cz
  have z := h.z
  have hn' : b ≠ w.heap.size + 1 := fun e => hn e.symm
  exact ⟨below_low2 h.below hb _ _, by go_simp, by go_simp, fun o => by go_simp, h.at'.box2 s0 s1 _ _ _ _ _ _, by go_size⟩
theorem LkSt.box2 {w W : World} {ta na : Option Addr} {tc nc m b B : Nat} {k : Int} (h : LkSt w ta na tc nc m k B W) (hb : w.heap.size ≤ b) (hn : w.heap.size + 1 ≠ b) (hB : B ≠ b) (s0 : SlAt W b 0) (s1 : SlAt W b 1) (x y : Option Addr) (n l c d : Nat) : LkSt w ta na tc nc m k B ((W.setCell ⟨b, 0, none⟩ (.slice x n c)).setCell ⟨b, 1, none⟩ (.slice y l d)) := by
  have g0 := h.g0
  have g1 := h.g1
  have g2 := h.g2
  have g3 := h.g3
  have g4 := h.g4
  have g5 := h.g5
  have hB' : b ≠ B := fun e => hB e.symm
  exact ⟨h.st.box2 hb hn s0 s1 _ _ _ _ _ _, (h.q.box s0).box (s1.set _ _ _), by go_simp, by go_simp, by go_simp, by go_simp, by go_simp, by go_simp⟩
/-- What was looked at, in its box. -/
structure XSt (b nb no nc i k : Nat) (ta : Option Addr) (tc : Nat) (W : World) : Prop where
  x0 : W.cell? ⟨b, 0, none⟩ = some (.slice ta 1 tc)
  x1 : W.cell? ⟨b, 1, none⟩ = some (.slice (some ⟨nb, no, none⟩) i nc)
  x2 : W.cell? ⟨nb, no + k, none⟩ = some (.int .i64 1)
theorem XSt.later {b nb no nc i k : Nat} {ta : Option Addr} {tc : Nat} {W W' : World} (h : XSt b nb no nc i k ta tc W) (hb : Below W.heap.size W W') : XSt b nb no nc i k ta tc W' :=
  ⟨cell_later hb h.x0, cell_later hb h.x1, cell_later hb h.x2⟩
theorem XSt.box2 {b nb no nc i k b' : Nat} {ta : Option Addr} {tc : Nat} {W : World} (h : XSt b nb no nc i k ta tc W) (hn : b ≠ b') (s0 : SlAt W b' 0) (s1 : SlAt W b' 1) (x y : Option Addr) (n l c d : Nat) :
    XSt b nb no nc i k ta tc ((W.setCell ⟨b', 0, none⟩ (.slice x n c)).setCell ⟨b', 1, none⟩ (.slice y l d)) :=
  ⟨by rw [far_set hn, far_set hn]; exact h.x0, by rw [far_set hn, far_set hn]; exact h.x1, cell_kept (cell_kept h.x2 (s0.ne_int _)) ((s1.set _ _ _).ne_int _)⟩
set_option maxRecDepth 10000 in
set_option maxHeartbeats 3200000 in
theorem noncesOnce_calls (n m : Int) (w : World) (hn : Is64 n) (hm : Is64 m) : Calls Try.prog 6 #[.int .i64 n, .int .i64 m] w fun e w' => e = .returned (.bool true) ∧ Below w.heap.size w w' := by
  obtain ⟨q, hq⟩ : ∃ q, pickD n 20 = q := ⟨_, rfl⟩
  have hq0 : 0 ≤ q := by rw [← hq]; exact pickD_lo n (by decide)
  have hq1 : q < 20 := by rw [← hq]; exact pickD_hi n (by decide)
  obtain ⟨a, ha⟩ : ∃ a : Nat, q + 1 = (a : Int) := ⟨(q + 1).toNat, by omega⟩
  have hwa : IntKind.i64.wrap (1 + q) = (a : Int) := by rw [IntKind.wrap_i64]; omega
  have ha1 : 1 ≤ a := by omega
  have ha20 : a ≤ 20 := by omega
  have HQ := hid hq
  have HN := hid hn
  have HM := hid hm
  clear ha hn hm hq hq0 hq1
  go_enter Try.func6, Try.ntmps6
  go_wp2_with fail
  refine (picked_any n 20 _ HN.out (by decide)).mono ?_
  rintro x w1 ⟨rfl, rfl⟩
  rw [HQ.out]
  dsimp only
  go_wp2_with fail
  refine wp_gen (fun W => ∃ ta na tc nc, NonSt w ta na tc nc 0 W) ?_ ?_
  · refine ⟨some ⟨w.heap.size, 0, none⟩, none, 1, 0, by go_grown, by go_simp, by go_simp, fun o => by go_simp, ⟨_, _, _, _, rfl, fun i x hx => ?_, fun i x hx => by simp [nonC] at hx⟩, by go_size⟩
    rcases i with _ | i
    · simp [nonC] at hx
      subst hx
      exact ⟨_, _, rfl, by go_simp; rfl⟩
    · simp [nonC] at hx
  clear hwa HQ HN
  rintro W0 ⟨ta0, na0, tc0, nc0, H0⟩
  have H0 := hid H0
  go_loopw [29] (fun j W => ∃ (i : Nat) (ta na : Option Addr) (tc nc : Nat), i ≤ a ∧ j = .int .i64 i ∧ Hid (NonSt w ta na tc nc i W)) (fun j _ => a - (intOf j).toNat)
  case atStart => exact ⟨0, _, _, _, _, by omega, rfl, H0⟩
  case round =>
    obtain ⟨i, ta, na, tc, nc, hi, rfl, HI⟩ := hrel
    clear H0
    have c0 := HI.out.c0
    have c1 := HI.out.c1
    have cz := HI.out.cz
    have z0 := HI.out.z
    by_cases hlt : i < a
    · have HK := hid (nonC_ask (i := i) (by omega))
      have hwi : IntKind.i64.wrap ((i : Int) + 1) = (i : Int) + 1 := by rw [IntKind.wrap_i64]; omega
      go_wp2_with fail
      refine (trustAsk_ok _ (nonC i) _ HI.out.at' (nonC_fits (by omega)) (nonC_ok (by omega)) (by simp [nonC]; omega)).mono ?_
      rintro x w2 ⟨v2, rfl, hA2, hb2⟩
      rw [HK.out] at hA2 ⊢
      obtain ⟨ta2, tc2, na2, nc2, rfl⟩ := nonC_at hA2
      have H2 := hid (HI.out.later hb2)
      have HA2 : Hid (ChalAt w2 (.agg #[.slice ta2 1 tc2, .slice na2 (i + 1) nc2]) (nonC (i + 1))) := hA2
      have d0 := H2.out.c0
      have d1 := H2.out.c1
      have dz := H2.out.cz
      have dh := H2.out.z
      clear hA2 hb2 c0 c1 cz z0
      dsimp only
      go_wp2_with fail
      go_roundw
      case rel =>
        refine ⟨i + 1, ta2, na2, tc2, nc2, by omega, by go_num, ?_⟩
        have S : NonSt w ta2 na2 tc2 nc2 (i + 1) ((w2.setCell ⟨w.heap.size + 1, 0, none⟩ (.slice ta2 1 tc2)).setCell ⟨w.heap.size + 1, 1, none⟩ (.slice na2 (i + 1) nc2)) :=
          ⟨below_low2 H2.out.below (by omega) _ _, by go_simp, by go_simp, fun o => by go_simp, HA2.out.box2 ⟨_, _, _, d0⟩ ⟨_, _, _, d1⟩ _ _ _ _ _ _, by go_size⟩
        exact S.later (below_alloc _ _)
      case measure => simp [intOf]; omega
    · obtain rfl : i = a := by omega
      obtain ⟨r, hr⟩ : ∃ r, pickD m (i : Int) = r := ⟨_, rfl⟩
      have hr0 : 0 ≤ r := by rw [← hr]; exact pickD_lo m (by omega)
      have hr1 : r < (i : Int) := by rw [← hr]; exact pickD_hi m (by omega)
      obtain ⟨k, hk⟩ : ∃ k : Nat, r = (k : Int) := ⟨r.toNat, by omega⟩
      have hwk : IntKind.i64.wrap (1 + r) = (k : Int) + 1 := by rw [IntKind.wrap_i64]; omega
      have hki : k < i := by omega
      have hw2 : IntKind.i64.wrap ((i : Int) + 1) = (i : Int) + 1 := by rw [IntKind.wrap_i64]; omega
      have HR := hid hr
      clear hk hr hr0 hr1
      go_wp2_with fail
      refine (picked_any m (i : Int) _ HM.out (by omega)).mono ?_
      rintro x w1 ⟨rfl, rfl⟩
      rw [HR.out]
      dsimp only
      clear HR
      have HL := hid (fun t => LkSt.of (k := (k : Int) + 1) HI.out t)
      have hkz : (0 : Int) ≤ (k : Int) := by omega
      have hkj : (k : Int) < (i : Int) := by omega
      have hwz : IntKind.i64.wrap ((k : Int) + 1 - 1) = (k : Int) := by rw [IntKind.wrap_i64]; omega
      go_upto_region 13 with fail
      refine act_gen (LkSt w ta na tc nc i ((k : Int) + 1) w1.heap.size) (HL.out _) ?_
      clear c0 c1 cz z0 HL HI hwk
      intro W3 H3
      have c0 := H3.st.c0
      have c1 := H3.st.c1
      have g0 := H3.g0
      have g1 := H3.g1
      have g2 := H3.g2
      have g3 := H3.g3
      have g4 := H3.g4
      have g5 := H3.g5
      have zc := H3.st.z
      have zB := World.block_lt_of_cell? _ _ g0
      simp only at zB
      have m1 : w.heap.size + 1 ≠ W3.heap.size := by omega
      have m2 : W3.heap.size ≠ w.heap.size + 1 := by omega
      have m3 : w1.heap.size ≠ W3.heap.size := by omega
      have m4 : W3.heap.size ≠ w1.heap.size := by omega
      have H3 := hid H3
      go_cut [13, 14] from 60 to 68 (fun x e W => ∃ (b nb no nc2 : Nat) (ta2 : Option Addr) (tc2 : Nat), x = .pointer (some ⟨b, 0, none⟩) ∧ e = .int .i64 0 ∧ LkSt w ta na tc nc i ((k : Int) + 1) w1.heap.size W ∧ W.cell? ⟨b, 0, none⟩ = some (.slice ta2 1 tc2) ∧ W.cell? ⟨b, 1, none⟩ = some (.slice (some ⟨nb, no, none⟩) i nc2) ∧ W.cell? ⟨nb, no + k, none⟩ = some (.int .i64 1) ∧ ChalAt W (.agg #[.slice ta2 1 tc2, .slice (some ⟨nb, no, none⟩) i nc2]) (lookedC i k))
      case first =>
        go_region_held3 (fun w' => w'.cell? ⟨w.heap.size + 1, 0, none⟩ = some (.slice ta 1 tc) ∧ w'.cell? ⟨w.heap.size + 1, 1, none⟩ = some (.slice na i nc) ∧ w'.cell? ⟨w1.heap.size, 0, none⟩ = some (.string goodS) ∧ w'.cell? ⟨w1.heap.size, 1, none⟩ = some (.int .i64 ((k : Int) + 1)) ∧ w'.cell? ⟨w1.heap.size, 2, none⟩ = some (.string badS) ∧ w'.cell? ⟨w1.heap.size, 3, none⟩ = some (.int .i64 ((k : Int) + 1)) ∧ w'.cell? ⟨w1.heap.size, 4, none⟩ = some (.string goodS) ∧ w'.cell? ⟨w1.heap.size, 5, none⟩ = some (.int .i64 ((i : Int) + 1)))
          (first | go_keep | exact ⟨e0, e1, d0, d1, d2, d3, d4, d5⟩ | (refine ⟨?_, ?_, ?_, ?_, ?_, ?_, ?_, ?_⟩ <;> (go_simp; done)))
          (first
            | (skip
               go_at_call 15
               refine (trustLook _ (nonC i) _ (madeL ((k : Int) + 1) i) 3 ⟨goodS, (k : Int) + 1⟩ _ (H3.out.st.at'.mono (by go_grown)) (nonC_fits ha20) (H3.out.q.mono (by go_grown)) (by simp [madeL])).mono ?_
               rintro x w2 ⟨v2, rfl, hA2, hb2⟩
               have B2 : Below W3.heap.size W3 w2 := Below.trans (by go_grown) (hb2.mono (by go_size))
               have e0 := cell_later B2 c0
               have e1 := cell_later B2 c1
               have d0 := cell_later B2 g0
               have d1 := cell_later B2 g1
               have d2 := cell_later B2 g2
               have d3 := cell_later B2 g3
               have d4 := cell_later B2 g4
               have d5 := cell_later B2 g5
               have y0 := B2.size
               have y1 : w.heap.size + 1 < w2.heap.size := by omega
               have y2 : w1.heap.size < w2.heap.size := by omega
               have m5 : w.heap.size + 1 ≠ w2.heap.size := by omega
               have m6 : w2.heap.size ≠ w.heap.size + 1 := by omega
               have m7 : w1.heap.size ≠ w2.heap.size := by omega
               have m8 : w2.heap.size ≠ w1.heap.size := by omega
               rw [non_1 ha20 hki] at hA2 ⊢
               try have zA : W3.heap.size < w2.heap.size := by have := hb2.size; simp at this; omega
               try have f0 : w2.cell? ⟨W3.heap.size, 0, none⟩ = some (.slice none 0 0) := by rw [(bcell hb2).1 _ _ (by go_size)]; simp [go_sem]
               try have f1 : w2.cell? ⟨W3.heap.size, 1, none⟩ = some (.slice none 0 0) := by rw [(bcell hb2).1 _ _ (by go_size)]; simp [go_sem]
               try have f3 : ∀ o, w2.frozen? ⟨W3.heap.size, o, none⟩ = false := by (intro o; rw [(bcell hb2).2 _ _ (by go_size)]; simp [go_sem])
               obtain ⟨ta2, tc2, na2, nc2, hv2, hT2, hN2⟩ := hA2
               obtain rfl : v2 = .agg #[.slice ta2 1 tc2, .slice na2 i nc2] := by rw [hv2]; simp [lookedC]
               have HA2 : Hid (ChalAt w2 (.agg #[.slice ta2 1 tc2, .slice na2 i nc2]) (lookedC i k)) := ⟨ta2, tc2, na2, nc2, by simp [lookedC], hT2, hN2⟩
               obtain ⟨nb, no, rfl, hn3⟩ := hN2 k 1 (non_6 hki)
               clear hv2 hT2 hN2))
        all_goals
          go_wp2_with fail
          go_meet
        all_goals
          have L2 := H3.out.later B2
          first
          | exact ⟨w2.heap.size, nb, no, nc2, ta2, tc2, rfl, rfl, L2.later (below_alloc _ _), by go_simp, by go_simp, cell_later (below_alloc _ _) hn3, HA2.out.mono (below_alloc _ _)⟩
          | exact ⟨W3.heap.size, nb, no, nc2, ta2, tc2, rfl, rfl, L2.box2 (by omega) m1 m3 ⟨_, _, _, f0⟩ ⟨_, _, _, f1⟩ _ _ _ _ _ _, by go_simp, by go_simp, cell_kept (cell_kept hn3 (SlAt.ne_int ⟨_, _, _, f0⟩ _)) (SlAt.ne_int (SlAt.set ⟨_, _, _, f1⟩ _ _ _) _), HA2.out.box2 ⟨_, _, _, f0⟩ ⟨_, _, _, f1⟩ _ _ _ _ _ _⟩
      case rest =>
      obtain ⟨b, nb, no, nc2, ta2, tc2, rfl, rfl, K3, x0, x1, x2, hA4⟩ := hcut
      clear c0 c1 g0 g1 g2 g3 g4 g5 zc zB m1 m2 m3 m4 H3
      have H3 := K3
      clear K3
      go_upto_region 14 with fail
      refine act_gen (fun W => LkSt w ta na tc nc i ((k : Int) + 1) w1.heap.size W ∧ XSt b nb no nc2 i k ta2 tc2 W ∧ ChalAt W (.agg #[.slice ta2 1 tc2, .slice (some ⟨nb, no, none⟩) i nc2]) (lookedC i k)) ⟨H3, ⟨x0, x1, x2⟩, hA4⟩ ?_
      clear H3 x0 x1 x2 hA4
      rintro W3 ⟨H3, HX, hA4⟩
      have c0 := H3.st.c0
      have c1 := H3.st.c1
      have g0 := H3.g0
      have g1 := H3.g1
      have g2 := H3.g2
      have g3 := H3.g3
      have g4 := H3.g4
      have g5 := H3.g5
      have zc := H3.st.z
      have zB := World.block_lt_of_cell? _ _ g0
      simp only at zB
      have m1 : w.heap.size + 1 ≠ W3.heap.size := by omega
      have m2 : W3.heap.size ≠ w.heap.size + 1 := by omega
      have m3 : w1.heap.size ≠ W3.heap.size := by omega
      have m4 : W3.heap.size ≠ w1.heap.size := by omega
      have H3 := hid H3
      have x0 := HX.x0
      have x1 := HX.x1
      have xB := World.block_lt_of_cell? _ _ x0
      simp only at xB
      have m9 : b ≠ W3.heap.size := by omega
      have ma : W3.heap.size ≠ b := by omega
      have HX := hid HX
      have HA4 := hid hA4
      clear hA4
      go_cut [15, 16] from 69 to 77 (fun _ e W => e = .int .i64 6 ∧ LkSt w ta na tc nc i ((k : Int) + 1) w1.heap.size W ∧ XSt b nb no nc2 i k ta2 tc2 W)
      case first =>
        go_region_held3 (fun w' => w'.cell? ⟨w.heap.size + 1, 0, none⟩ = some (.slice ta 1 tc) ∧ w'.cell? ⟨w.heap.size + 1, 1, none⟩ = some (.slice na i nc) ∧ w'.cell? ⟨w1.heap.size, 0, none⟩ = some (.string goodS) ∧ w'.cell? ⟨w1.heap.size, 1, none⟩ = some (.int .i64 ((k : Int) + 1)) ∧ w'.cell? ⟨w1.heap.size, 2, none⟩ = some (.string badS) ∧ w'.cell? ⟨w1.heap.size, 3, none⟩ = some (.int .i64 ((k : Int) + 1)) ∧ w'.cell? ⟨w1.heap.size, 4, none⟩ = some (.string goodS) ∧ w'.cell? ⟨w1.heap.size, 5, none⟩ = some (.int .i64 ((i : Int) + 1)) ∧ w'.cell? ⟨b, 0, none⟩ = some (.slice ta2 1 tc2) ∧ w'.cell? ⟨b, 1, none⟩ = some (.slice (some ⟨nb, no, none⟩) i nc2))
          (first | go_keep | exact ⟨e0, e1, d0, d1, d2, d3, d4, d5, y3, y4⟩ | (refine ⟨?_, ?_, ?_, ?_, ?_, ?_, ?_, ?_, ?_, ?_⟩ <;> (go_simp; done)))
          (first
            | (skip
               go_at_call 15
               refine (trustLook _ (lookedC i k) _ (madeL ((k : Int) + 1) i) 3 ⟨goodS, (k : Int) + 1⟩ _ (HA4.out.mono (by go_grown)) (lookedC_fits ha20) (H3.out.q.mono (by go_grown)) (by simp [madeL])).mono ?_
               rintro x w2 ⟨v2, rfl, hA2, hb2⟩
               have B2 : Below W3.heap.size W3 w2 := Below.trans (by go_grown) (hb2.mono (by go_size))
               have e0 := cell_later B2 c0
               have e1 := cell_later B2 c1
               have d0 := cell_later B2 g0
               have d1 := cell_later B2 g1
               have d2 := cell_later B2 g2
               have d3 := cell_later B2 g3
               have d4 := cell_later B2 g4
               have d5 := cell_later B2 g5
               have y0 := B2.size
               have y1 : w.heap.size + 1 < w2.heap.size := by omega
               have y2 : w1.heap.size < w2.heap.size := by omega
               have m5 : w.heap.size + 1 ≠ w2.heap.size := by omega
               have m6 : w2.heap.size ≠ w.heap.size + 1 := by omega
               have m7 : w1.heap.size ≠ w2.heap.size := by omega
               have m8 : w2.heap.size ≠ w1.heap.size := by omega
               rw [non_2 ha20 hki] at hA2 ⊢
               try have zA : W3.heap.size < w2.heap.size := by have := hb2.size; simp at this; omega
               try have f0 : w2.cell? ⟨W3.heap.size, 0, none⟩ = some (.slice none 0 0) := by rw [(bcell hb2).1 _ _ (by go_size)]; simp [go_sem]
               try have f1 : w2.cell? ⟨W3.heap.size, 1, none⟩ = some (.slice none 0 0) := by rw [(bcell hb2).1 _ _ (by go_size)]; simp [go_sem]
               try have f3 : ∀ o, w2.frozen? ⟨W3.heap.size, o, none⟩ = false := by (intro o; rw [(bcell hb2).2 _ _ (by go_size)]; simp [go_sem])
               have y3 := cell_later B2 x0
               have y4 := cell_later B2 x1
               have y5 : b < w2.heap.size := by omega
               have mb : b ≠ w2.heap.size := by omega
               have mc : w2.heap.size ≠ b := by omega
               obtain ⟨ta8, tc8, na8, nc8, rfl, _, _⟩ := hA2
               dsimp only [chal0]
               skip))
        all_goals
          go_wp2_with fail
          go_meet
        all_goals
          have L2 := H3.out.later B2
          have X2 := HX.out.later B2
          first
          | exact ⟨rfl, L2.later (below_alloc _ _), X2.later (below_alloc _ _)⟩
          | exact ⟨rfl, L2.box2 (by omega) m1 m3 ⟨_, _, _, f0⟩ ⟨_, _, _, f1⟩ _ _ _ _ _ _, X2.box2 m9 ⟨_, _, _, f0⟩ ⟨_, _, _, f1⟩ _ _ _ _ _ _⟩
      case rest =>
      clear HA4
      obtain ⟨rfl, K3, KX⟩ := hcut
      clear c0 c1 g0 g1 g2 g3 g4 g5 zc zB m1 m2 m3 m4 x0 x1 xB m9 ma H3 HX
      have H3 := K3
      have HX := KX
      clear K3 KX
      go_upto_region 15 with fail
      refine act_gen (fun W => LkSt w ta na tc nc i ((k : Int) + 1) w1.heap.size W ∧ XSt b nb no nc2 i k ta2 tc2 W) ⟨H3, HX⟩ ?_
      clear H3 HX
      rintro W3 ⟨H3, HX⟩
      have c0 := H3.st.c0
      have c1 := H3.st.c1
      have g0 := H3.g0
      have g1 := H3.g1
      have g2 := H3.g2
      have g3 := H3.g3
      have g4 := H3.g4
      have g5 := H3.g5
      have zc := H3.st.z
      have zB := World.block_lt_of_cell? _ _ g0
      simp only at zB
      have m1 : w.heap.size + 1 ≠ W3.heap.size := by omega
      have m2 : W3.heap.size ≠ w.heap.size + 1 := by omega
      have m3 : w1.heap.size ≠ W3.heap.size := by omega
      have m4 : W3.heap.size ≠ w1.heap.size := by omega
      have H3 := hid H3
      have x0 := HX.x0
      have x1 := HX.x1
      have xB := World.block_lt_of_cell? _ _ x0
      simp only at xB
      have m9 : b ≠ W3.heap.size := by omega
      have ma : W3.heap.size ≠ b := by omega
      have HX := hid HX
      go_cut [17, 18] from 78 to 86 (fun _ e W => e = .int .i64 11 ∧ LkSt w ta na tc nc i ((k : Int) + 1) w1.heap.size W ∧ XSt b nb no nc2 i k ta2 tc2 W)
      case first =>
        go_region_held3 (fun w' => w'.cell? ⟨w.heap.size + 1, 0, none⟩ = some (.slice ta 1 tc) ∧ w'.cell? ⟨w.heap.size + 1, 1, none⟩ = some (.slice na i nc) ∧ w'.cell? ⟨w1.heap.size, 0, none⟩ = some (.string goodS) ∧ w'.cell? ⟨w1.heap.size, 1, none⟩ = some (.int .i64 ((k : Int) + 1)) ∧ w'.cell? ⟨w1.heap.size, 2, none⟩ = some (.string badS) ∧ w'.cell? ⟨w1.heap.size, 3, none⟩ = some (.int .i64 ((k : Int) + 1)) ∧ w'.cell? ⟨w1.heap.size, 4, none⟩ = some (.string goodS) ∧ w'.cell? ⟨w1.heap.size, 5, none⟩ = some (.int .i64 ((i : Int) + 1)) ∧ w'.cell? ⟨b, 0, none⟩ = some (.slice ta2 1 tc2) ∧ w'.cell? ⟨b, 1, none⟩ = some (.slice (some ⟨nb, no, none⟩) i nc2))
          (first | go_keep | exact ⟨e0, e1, d0, d1, d2, d3, d4, d5, y3, y4⟩ | (refine ⟨?_, ?_, ?_, ?_, ?_, ?_, ?_, ?_, ?_, ?_⟩ <;> (go_simp; done)))
          (first
            | (skip
               go_at_call 15
               refine (trustLook _ (nonC i) _ (madeL ((k : Int) + 1) i) 3 ⟨badS, (k : Int) + 1⟩ _ (H3.out.st.at'.mono (by go_grown)) (nonC_fits ha20) (H3.out.q.mono (by go_grown)) (by simp [madeL])).mono ?_
               rintro x w2 ⟨v2, rfl, hA2, hb2⟩
               have B2 : Below W3.heap.size W3 w2 := Below.trans (by go_grown) (hb2.mono (by go_size))
               have e0 := cell_later B2 c0
               have e1 := cell_later B2 c1
               have d0 := cell_later B2 g0
               have d1 := cell_later B2 g1
               have d2 := cell_later B2 g2
               have d3 := cell_later B2 g3
               have d4 := cell_later B2 g4
               have d5 := cell_later B2 g5
               have y0 := B2.size
               have y1 : w.heap.size + 1 < w2.heap.size := by omega
               have y2 : w1.heap.size < w2.heap.size := by omega
               have m5 : w.heap.size + 1 ≠ w2.heap.size := by omega
               have m6 : w2.heap.size ≠ w.heap.size + 1 := by omega
               have m7 : w1.heap.size ≠ w2.heap.size := by omega
               have m8 : w2.heap.size ≠ w1.heap.size := by omega
               rw [non_3 ha20 hki] at hA2 ⊢
               try have zA : W3.heap.size < w2.heap.size := by have := hb2.size; simp at this; omega
               try have f0 : w2.cell? ⟨W3.heap.size, 0, none⟩ = some (.slice none 0 0) := by rw [(bcell hb2).1 _ _ (by go_size)]; simp [go_sem]
               try have f1 : w2.cell? ⟨W3.heap.size, 1, none⟩ = some (.slice none 0 0) := by rw [(bcell hb2).1 _ _ (by go_size)]; simp [go_sem]
               try have f3 : ∀ o, w2.frozen? ⟨W3.heap.size, o, none⟩ = false := by (intro o; rw [(bcell hb2).2 _ _ (by go_size)]; simp [go_sem])
               have y3 := cell_later B2 x0
               have y4 := cell_later B2 x1
               have y5 : b < w2.heap.size := by omega
               have mb : b ≠ w2.heap.size := by omega
               have mc : w2.heap.size ≠ b := by omega
               obtain ⟨ta8, tc8, na8, nc8, rfl, _, _⟩ := hA2
               dsimp only [chal0]
               skip))
        all_goals
          go_wp2_with fail
          go_meet
        all_goals
          have L2 := H3.out.later B2
          have X2 := HX.out.later B2
          first
          | exact ⟨rfl, L2.later (below_alloc _ _), X2.later (below_alloc _ _)⟩
          | exact ⟨rfl, L2.box2 (by omega) m1 m3 ⟨_, _, _, f0⟩ ⟨_, _, _, f1⟩ _ _ _ _ _ _, X2.box2 m9 ⟨_, _, _, f0⟩ ⟨_, _, _, f1⟩ _ _ _ _ _ _⟩
      case rest =>
      obtain ⟨rfl, K3, KX⟩ := hcut
      clear c0 c1 g0 g1 g2 g3 g4 g5 zc zB m1 m2 m3 m4 x0 x1 xB m9 ma H3 HX
      have H3 := K3
      have HX := KX
      clear K3 KX
      go_upto_region 16 with fail
      refine act_gen (fun W => LkSt w ta na tc nc i ((k : Int) + 1) w1.heap.size W ∧ XSt b nb no nc2 i k ta2 tc2 W) ⟨H3, HX⟩ ?_
      clear H3 HX
      rintro W3 ⟨H3, HX⟩
      have c0 := H3.st.c0
      have c1 := H3.st.c1
      have g0 := H3.g0
      have g1 := H3.g1
      have g2 := H3.g2
      have g3 := H3.g3
      have g4 := H3.g4
      have g5 := H3.g5
      have zc := H3.st.z
      have zB := World.block_lt_of_cell? _ _ g0
      simp only at zB
      have m1 : w.heap.size + 1 ≠ W3.heap.size := by omega
      have m2 : W3.heap.size ≠ w.heap.size + 1 := by omega
      have m3 : w1.heap.size ≠ W3.heap.size := by omega
      have m4 : W3.heap.size ≠ w1.heap.size := by omega
      have H3 := hid H3
      have x0 := HX.x0
      have x1 := HX.x1
      have xB := World.block_lt_of_cell? _ _ x0
      simp only at xB
      have m9 : b ≠ W3.heap.size := by omega
      have ma : W3.heap.size ≠ b := by omega
      have HX := hid HX
      go_cut [19, 20] from 87 to 95 (fun _ e W => e = .int .i64 5 ∧ LkSt w ta na tc nc i ((k : Int) + 1) w1.heap.size W ∧ XSt b nb no nc2 i k ta2 tc2 W)
      case first =>
        go_region_held3 (fun w' => w'.cell? ⟨w.heap.size + 1, 0, none⟩ = some (.slice ta 1 tc) ∧ w'.cell? ⟨w.heap.size + 1, 1, none⟩ = some (.slice na i nc) ∧ w'.cell? ⟨w1.heap.size, 0, none⟩ = some (.string goodS) ∧ w'.cell? ⟨w1.heap.size, 1, none⟩ = some (.int .i64 ((k : Int) + 1)) ∧ w'.cell? ⟨w1.heap.size, 2, none⟩ = some (.string badS) ∧ w'.cell? ⟨w1.heap.size, 3, none⟩ = some (.int .i64 ((k : Int) + 1)) ∧ w'.cell? ⟨w1.heap.size, 4, none⟩ = some (.string goodS) ∧ w'.cell? ⟨w1.heap.size, 5, none⟩ = some (.int .i64 ((i : Int) + 1)) ∧ w'.cell? ⟨b, 0, none⟩ = some (.slice ta2 1 tc2) ∧ w'.cell? ⟨b, 1, none⟩ = some (.slice (some ⟨nb, no, none⟩) i nc2))
          (first | go_keep | exact ⟨e0, e1, d0, d1, d2, d3, d4, d5, y3, y4⟩ | (refine ⟨?_, ?_, ?_, ?_, ?_, ?_, ?_, ?_, ?_, ?_⟩ <;> (go_simp; done)))
          (first
            | (skip
               go_at_call 15
               refine (trustLook _ (nonC i) _ (madeL ((k : Int) + 1) i) 3 ⟨goodS, (i : Int) + 1⟩ _ (H3.out.st.at'.mono (by go_grown)) (nonC_fits ha20) (H3.out.q.mono (by go_grown)) (by simp [madeL])).mono ?_
               rintro x w2 ⟨v2, rfl, hA2, hb2⟩
               have B2 : Below W3.heap.size W3 w2 := Below.trans (by go_grown) (hb2.mono (by go_size))
               have e0 := cell_later B2 c0
               have e1 := cell_later B2 c1
               have d0 := cell_later B2 g0
               have d1 := cell_later B2 g1
               have d2 := cell_later B2 g2
               have d3 := cell_later B2 g3
               have d4 := cell_later B2 g4
               have d5 := cell_later B2 g5
               have y0 := B2.size
               have y1 : w.heap.size + 1 < w2.heap.size := by omega
               have y2 : w1.heap.size < w2.heap.size := by omega
               have m5 : w.heap.size + 1 ≠ w2.heap.size := by omega
               have m6 : w2.heap.size ≠ w.heap.size + 1 := by omega
               have m7 : w1.heap.size ≠ w2.heap.size := by omega
               have m8 : w2.heap.size ≠ w1.heap.size := by omega
               rw [non_4 ha20] at hA2 ⊢
               try have zA : W3.heap.size < w2.heap.size := by have := hb2.size; simp at this; omega
               try have f0 : w2.cell? ⟨W3.heap.size, 0, none⟩ = some (.slice none 0 0) := by rw [(bcell hb2).1 _ _ (by go_size)]; simp [go_sem]
               try have f1 : w2.cell? ⟨W3.heap.size, 1, none⟩ = some (.slice none 0 0) := by rw [(bcell hb2).1 _ _ (by go_size)]; simp [go_sem]
               try have f3 : ∀ o, w2.frozen? ⟨W3.heap.size, o, none⟩ = false := by (intro o; rw [(bcell hb2).2 _ _ (by go_size)]; simp [go_sem])
               have y3 := cell_later B2 x0
               have y4 := cell_later B2 x1
               have y5 : b < w2.heap.size := by omega
               have mb : b ≠ w2.heap.size := by omega
               have mc : w2.heap.size ≠ b := by omega
               obtain ⟨ta8, tc8, na8, nc8, rfl, _, _⟩ := hA2
               dsimp only [chal0]
               skip))
        all_goals
          go_wp2_with fail
          go_meet
        all_goals
          have L2 := H3.out.later B2
          have X2 := HX.out.later B2
          first
          | exact ⟨rfl, L2.later (below_alloc _ _), X2.later (below_alloc _ _)⟩
          | exact ⟨rfl, L2.box2 (by omega) m1 m3 ⟨_, _, _, f0⟩ ⟨_, _, _, f1⟩ _ _ _ _ _ _, X2.box2 m9 ⟨_, _, _, f0⟩ ⟨_, _, _, f1⟩ _ _ _ _ _ _⟩
      case rest =>
      obtain ⟨rfl, K3, KX⟩ := hcut
      clear c0 c1 g0 g1 g2 g3 g4 g5 zc zB m1 m2 m3 m4 x0 x1 xB m9 ma H3 HX
      have H3 := K3
      have HX := KX
      clear K3 KX
      go_upto_region 17 with fail
      refine act_gen (fun W => LkSt w ta na tc nc i ((k : Int) + 1) w1.heap.size W ∧ XSt b nb no nc2 i k ta2 tc2 W) ⟨H3, HX⟩ ?_
      clear H3 HX
      rintro W3 ⟨H3, HX⟩
      have c0 := H3.st.c0
      have c1 := H3.st.c1
      have g0 := H3.g0
      have g1 := H3.g1
      have g2 := H3.g2
      have g3 := H3.g3
      have g4 := H3.g4
      have g5 := H3.g5
      have zc := H3.st.z
      have zB := World.block_lt_of_cell? _ _ g0
      simp only at zB
      have m1 : w.heap.size + 1 ≠ W3.heap.size := by omega
      have m2 : W3.heap.size ≠ w.heap.size + 1 := by omega
      have m3 : w1.heap.size ≠ W3.heap.size := by omega
      have m4 : W3.heap.size ≠ w1.heap.size := by omega
      have H3 := hid H3
      have x0 := HX.x0
      have x1 := HX.x1
      have xB := World.block_lt_of_cell? _ _ x0
      simp only at xB
      have m9 : b ≠ W3.heap.size := by omega
      have ma : W3.heap.size ≠ b := by omega
      have HX := hid HX
      go_cut [21, 22] from 96 to 103 (fun _ e W => e = .int .i64 4 ∧ LkSt w ta na tc nc i ((k : Int) + 1) w1.heap.size W ∧ XSt b nb no nc2 i k ta2 tc2 W)
      case first =>
        go_region_held3 (fun w' => w'.cell? ⟨w.heap.size + 1, 0, none⟩ = some (.slice ta 1 tc) ∧ w'.cell? ⟨w.heap.size + 1, 1, none⟩ = some (.slice na i nc) ∧ w'.cell? ⟨w1.heap.size, 0, none⟩ = some (.string goodS) ∧ w'.cell? ⟨w1.heap.size, 1, none⟩ = some (.int .i64 ((k : Int) + 1)) ∧ w'.cell? ⟨w1.heap.size, 2, none⟩ = some (.string badS) ∧ w'.cell? ⟨w1.heap.size, 3, none⟩ = some (.int .i64 ((k : Int) + 1)) ∧ w'.cell? ⟨w1.heap.size, 4, none⟩ = some (.string goodS) ∧ w'.cell? ⟨w1.heap.size, 5, none⟩ = some (.int .i64 ((i : Int) + 1)) ∧ w'.cell? ⟨b, 0, none⟩ = some (.slice ta2 1 tc2) ∧ w'.cell? ⟨b, 1, none⟩ = some (.slice (some ⟨nb, no, none⟩) i nc2))
          (first | go_keep | exact ⟨e0, e1, d0, d1, d2, d3, d4, d5, y3, y4⟩ | (refine ⟨?_, ?_, ?_, ?_, ?_, ?_, ?_, ?_, ?_, ?_⟩ <;> (go_simp; done)))
          (first
            | (skip
               go_at_call 15
               refine (trustLook _ (nonC i) _ [] 0 ⟨goodS, (k : Int) + 1⟩ _ (H3.out.st.at'.mono (by go_grown)) (nonC_fits ha20) QuotesAt.nil (by simp)).mono ?_
               rintro x w2 ⟨v2, rfl, hA2, hb2⟩
               have B2 : Below W3.heap.size W3 w2 := Below.trans (by go_grown) (hb2.mono (by go_size))
               have e0 := cell_later B2 c0
               have e1 := cell_later B2 c1
               have d0 := cell_later B2 g0
               have d1 := cell_later B2 g1
               have d2 := cell_later B2 g2
               have d3 := cell_later B2 g3
               have d4 := cell_later B2 g4
               have d5 := cell_later B2 g5
               have y0 := B2.size
               have y1 : w.heap.size + 1 < w2.heap.size := by omega
               have y2 : w1.heap.size < w2.heap.size := by omega
               have m5 : w.heap.size + 1 ≠ w2.heap.size := by omega
               have m6 : w2.heap.size ≠ w.heap.size + 1 := by omega
               have m7 : w1.heap.size ≠ w2.heap.size := by omega
               have m8 : w2.heap.size ≠ w1.heap.size := by omega
               rw [non_5 ha20] at hA2 ⊢
               try have zA : W3.heap.size < w2.heap.size := by have := hb2.size; simp at this; omega
               try have f0 : w2.cell? ⟨W3.heap.size, 0, none⟩ = some (.slice none 0 0) := by rw [(bcell hb2).1 _ _ (by go_size)]; simp [go_sem]
               try have f1 : w2.cell? ⟨W3.heap.size, 1, none⟩ = some (.slice none 0 0) := by rw [(bcell hb2).1 _ _ (by go_size)]; simp [go_sem]
               try have f3 : ∀ o, w2.frozen? ⟨W3.heap.size, o, none⟩ = false := by (intro o; rw [(bcell hb2).2 _ _ (by go_size)]; simp [go_sem])
               have y3 := cell_later B2 x0
               have y4 := cell_later B2 x1
               have y5 : b < w2.heap.size := by omega
               have mb : b ≠ w2.heap.size := by omega
               have mc : w2.heap.size ≠ b := by omega
               obtain ⟨ta8, tc8, na8, nc8, rfl, _, _⟩ := hA2
               dsimp only [chal0]
               skip))
        all_goals
          go_wp2_with fail
          go_meet
        all_goals
          have L2 := H3.out.later B2
          have X2 := HX.out.later B2
          first
          | exact ⟨rfl, L2.later (below_alloc _ _), X2.later (below_alloc _ _)⟩
          | exact ⟨rfl, L2.box2 (by omega) m1 m3 ⟨_, _, _, f0⟩ ⟨_, _, _, f1⟩ _ _ _ _ _ _, X2.box2 m9 ⟨_, _, _, f0⟩ ⟨_, _, _, f1⟩ _ _ _ _ _ _⟩
      case rest =>
      obtain ⟨rfl, K3, KX⟩ := hcut
      clear c0 c1 g0 g1 g2 g3 g4 g5 zc zB m1 m2 m3 m4 x0 x1 xB m9 ma H3 HX
      have H3 := K3
      have HX := KX
      clear K3 KX
      have x0 := HX.x0
      have x1 := HX.x1
      have x2 := HX.x2
      go_wp2_with fail
      go_ret
      exact ⟨rfl, H3.st.below⟩
set_option maxRecDepth 100000 in
theorem noncesOnce_args {H : Type} {enc : TypeId × Value → H} (W : World) (b0 : Nat) (args : Array Value) (hs : args.size = (Try.f6).params.size)
    (ha : ∀ (j : Nat) t v, (Try.f6).params[j]? = some t → args[j]? = some v → Value.okWide Try.prog W .any b0 t v ∧ Rd enc Try.prog W t v.cells.toList) :
    Calls Try.prog 6 args W fun e w' => e = .returned (.bool true) ∧ Below W.heap.size W w' := by
  obtain ⟨l⟩ := args
  match l, hs with
  | [v, v1], _ =>
    obtain ⟨n, rfl, hn⟩ := rd_int_v (ha 0 _ v rfl rfl).1 (ha 0 _ v rfl rfl).2
    obtain ⟨m, rfl, hm⟩ := rd_int_v (ha 1 _ v1 rfl rfl).1 (ha 1 _ v1 rfl rfl).2
    exact noncesOnce_calls n m W hn hm

set_option maxRecDepth 100000 in
theorem noncesOnce_lifted (os : Os) (started : os.Started) (H : Type) (enc : TypeId × Value → H) :
    ReturnsInHanded {} Try.checked os 6 .any (Rows.noncesOnceSpec.pre6 enc Try.prog Try.f6 Rows.noncesOnceRow.domain false) (Rows.noncesOnceSpec.post enc Try.prog Try.f6 false true false false) :=
  returnsInHanded_of_change_sized (C := Try.checked) own started (by kernel_rfl) Try.func6
    (ChangeSpec.witness6 (enc := enc) (C := Try.checked) false ⟨#[], #[.int .i64 0, .int .i64 0], []⟩ 8 (by kernel_rfl) (by kernel_rfl) (by kernel_rfl) (by kernel_rfl))
    fun W base args ds gs before hval hW _ hsz _ => law_contract laidOut (by kernel_rfl) rfl Try.underlying4 rfl (fun ds h => by
      match ds, h with
      | [_, _], _ => exact ⟨rfl, rfl, rfl⟩) hval hW hsz fun hs ha => noncesOnce_args W base args hs ha

theorem noncesOnce_holds : Rows.NoncesOnceSaid :=
  OpenClaim.holds_of_wide 6 Try.f6 rfl rfl rfl rfl rfl rfl rfl ⟨rfl, rfl, rfl, rfl, rfl⟩ rfl rfl rfl rfl rfl (by kernel_rfl) Try.func6 (by kernel_rfl)
    (of_decide_eq_true (by kernel_rfl)) (by unfold Func.isWrapper; first | (rw [if_pos (by decide +kernel)]; kernel_rfl) | (rw [if_neg (by decide +kernel)]; exact ⟨rfl, rfl⟩))
    (fun os started H enc _ => noncesOnce_lifted os started H enc)


end Go.Proofs.Ytepgccflakopkaa
