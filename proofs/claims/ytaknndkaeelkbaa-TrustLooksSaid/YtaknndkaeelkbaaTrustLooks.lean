/- trust.Look answers as the reference does, for every challenger, list of quotes and quote: the law returns true, its arguments read as they did. No condition beyond the form's reach. -/
import Derived.Test.YtaknndkaeelkbaaOpensM
import Derived.Test.YtaknndkaeelkbaaRefLook
namespace Go.Proofs.Ytaknndkaeelkbaa
open Go.ChangeShapes Go.WideShapes Go.ChangeAt Go.RowKit

theorem lookD_fits {C : ChalD} (hf : C.Fits) (L : List QuoteD) (q : QuoteD) : (lookD C L q).1.Fits := by
  unfold lookD
  split
  · exact ⟨by simp [chal0], by simp [chal0]⟩
  split
  · exact ⟨by simp [chal0], by simp [chal0]⟩
  split
  · exact ⟨by simp [chal0], by simp [chal0]⟩
  split
  · exact ⟨by simp [chal0], by simp [chal0]⟩
  split
  · exact ⟨by simp [chal0], by simp [chal0]⟩
  · exact ⟨hf.t, by simpa using hf.n⟩

theorem cell_keep {w : World} {a b : Addr} {u v v0 : Value} (h0 : w.cell? a = some v0) (h : w.cell? b = some v) (hne : v ≠ v0) : (w.setCell a u).cell? b = some v := by
  rw [World.cell?_setCell_other (h := fun e => hne (by subst e; rw [h0] at h; exact (Option.some.inj h).symm))]
  exact h
/-- A challenger that reads in a world reads so still when a box that held two empty slices is written. -/
theorem chalAt_box {w : World} {v : Value} {C : ChalD} (h : ChalAt w v C) {b : Nat} (h0 : w.cell? ⟨b, 0, none⟩ = some (.slice none 0 0)) (h1 : w.cell? ⟨b, 1, none⟩ = some (.slice none 0 0)) (u0 u1 : Value) :
    ChalAt ((w.setCell ⟨b, 0, none⟩ u0).setCell ⟨b, 1, none⟩ u1) v C := by
  obtain ⟨ta, tc, na, nc, rfl, h2, h3⟩ := h
  have g1 : ∀ u0, (w.setCell ⟨b, 0, none⟩ u0).cell? ⟨b, 1, none⟩ = some (.slice none 0 0) := fun u0 => by rw [World.cell?_setCell_other (h := by simp)]; exact h1
  refine ⟨ta, tc, na, nc, rfl, fun i x hx => ?_, fun i x hx => ?_⟩
  · obtain ⟨k, o, e, hc⟩ := h2 i x hx
    exact ⟨k, o, e, cell_keep (g1 _) (cell_keep h0 hc (by simp)) (by simp)⟩
  · obtain ⟨k, o, e, hc⟩ := h3 i x hx
    exact ⟨k, o, e, cell_keep (g1 _) (cell_keep h0 hc (by simp)) (by simp)⟩

/-- What the law keeps behind the two calls. -/
structure LooksAt (w w1 W0 : World) (b : Nat) (cv nv kt kn tv mv : Value) (C R : ChalD) (q : QuoteD) (V : World) : Prop where
  below : Below w.heap.size w V
  b0 : Below W0.heap.size W0 V
  p0 : V.cell? ⟨w.heap.size, 0, none⟩ = some cv
  p1 : V.cell? ⟨w.heap.size, 1, none⟩ = some nv
  p2 : V.cell? ⟨w.heap.size + 1, 0, none⟩ = some (.string q.log)
  p3 : V.cell? ⟨w.heap.size + 1, 1, none⟩ = some (.int .i64 q.data)
  k0 : V.cell? ⟨w1.heap.size, 0, none⟩ = some kt
  k1 : V.cell? ⟨w1.heap.size, 1, none⟩ = some kn
  a0 : V.cell? ⟨b, 0, none⟩ = some tv
  a1 : V.cell? ⟨b, 1, none⟩ = some mv
  r : ChalAt V (.agg #[tv, mv]) R
  lt : b < V.heap.size
  z : w.heap.size + 1 < V.heap.size
  z1 : w1.heap.size < V.heap.size

set_option maxRecDepth 10000 in
set_option maxHeartbeats 3200000 in
theorem trustLooks_calls (v : Value) (C : ChalD) (a : Option Addr) (L : List QuoteD) (cap : Nat) (q : QuoteD) (w : World) (hf : C.Fits) (hv : ChalAt w v C) (hL : QuotesAt w a L) (hLn : L.length * 24 ≤ 140737488351232) :
    Calls Try.prog 15 #[v, .slice a L.length cap, .agg #[.string q.log, .int .i64 q.data]] w fun e w' => e = .returned (.bool true) ∧ Below w.heap.size w w' := by
  have hv' := hv
  obtain ⟨ta, tc, na, nc, rfl, ht, hn⟩ := hv'
  obtain ⟨k0, hk0, hx0, hx1, hx2⟩ := info_parts infoQuotes
  have HV := hid hv
  have HQ := hid hL
  clear hv ht hn hL
  obtain ⟨n, hn⟩ : ∃ n, L.length = n := ⟨_, rfl⟩
  have HLn := hid hn
  rw [hn] at hLn ⊢
  clear hn
  have B0 : ∀ X Y, Below w.heap.size w ((w.alloc X).alloc Y) := fun X Y => by go_grown
  go_enter Try.func15, Try.ntmps15
  go_wp2_with fail
  refine (refChalCopy _ C _ (HV.out.mono (B0 _ _)) hf).mono ?_
  rintro e w1 ⟨v1, rfl, ho, hb1⟩
  have hA1 := ho.at
  obtain ⟨ta1, tc1, na1, nc1, rfl, _, _⟩ := ho.at
  have HA1 := hid hA1
  have p0 : w1.cell? ⟨w.heap.size, 0, none⟩ = some (.slice ta C.trusts.length tc) := by rw [(bcell hb1).1 _ _ (by go_size)]; simp [go_sem]
  have p1 : w1.cell? ⟨w.heap.size, 1, none⟩ = some (.slice na C.nonces.length nc) := by rw [(bcell hb1).1 _ _ (by go_size)]; simp [go_sem]
  have p2 : w1.cell? ⟨w.heap.size + 1, 0, none⟩ = some (.string q.log) := by rw [(bcell hb1).1 _ _ (by go_size)]; simp [go_sem]
  have p3 : w1.cell? ⟨w.heap.size + 1, 1, none⟩ = some (.int .i64 q.data) := by rw [(bcell hb1).1 _ _ (by go_size)]; simp [go_sem]
  have z1 : w.heap.size + 1 < w1.heap.size := by have := hb1.size; simp at this; omega
  have B1 : Below w.heap.size w w1 := (B0 _ _).trans (hb1.mono (by go_size))
  clear hb1 ho hA1 B0
  go_upto_region 2 with fail
  refine wp_gen (fun W => Below w1.heap.size w1 W ∧ W.cell? ⟨w1.heap.size, 0, none⟩ = some (.slice ta1 C.trusts.length tc1) ∧ W.cell? ⟨w1.heap.size, 1, none⟩ = some (.slice na1 C.nonces.length nc1) ∧ w1.heap.size < W.heap.size) ⟨by go_grown, by go_simp, by go_simp, by go_size⟩ ?_
  rintro W ⟨hbW, c0, c1, zW⟩
  have p0 := cell_later hbW p0
  have p1 := cell_later hbW p1
  have p2 := cell_later hbW p2
  have p3 := cell_later hbW p3
  have BW : Below w.heap.size w W := B1.trans (hbW.mono (by omega))
  have HAW := hid (HA1.out.mono hbW)
  clear B1 hbW
  go_wp2_with fail
  go_region_held3 (fun w' => w'.cell? ⟨w1.heap.size, 0, none⟩ = some (.slice ta1 C.trusts.length tc1) ∧ w'.cell? ⟨w1.heap.size, 1, none⟩ = some (.slice na1 C.nonces.length nc1) ∧ w'.cell? ⟨w.heap.size + 1, 0, none⟩ = some (.string q.log) ∧ w'.cell? ⟨w.heap.size + 1, 1, none⟩ = some (.int .i64 q.data))
    (first | go_keep | exact ⟨c0, c1, p2, p3⟩ | exact ⟨d0, d1, d2, d3⟩ | exact ⟨e0, e1, e2, e3⟩ | (refine ⟨?_, ?_, ?_, ?_⟩ <;> (go_simp; done)))
    (first
      | (refine step_append_nil rfl _ _ 24 rfl 62 k0 _ 2 24 Try.underlying24 hk0 hx0 hx1 hx2 rfl (by decide) rfl a n cap (L.flatMap QuoteD.cs) rfl (by rw [flat_len _ 2 QuoteD.cs_len, HLn.out]) (HQ.out.cells.mono (BW.trans (by go_grown))) (quoteCells_one _) (by unfold maxLen; omega) (by omega) ?_
         intro a2 c2 w2 ho2 hg2
         have hb2 := below_grown hg2
         have B2 : Below W.heap.size W w2 := Below.trans (by go_grown) (hb2.mono (by go_size))
         have d0 := cell_later B2 c0
         have d1 := cell_later B2 c1
         have d2 := cell_later B2 p2
         have d3 := cell_later B2 p3
         have z2 : W.heap.size ≤ w2.heap.size := B2.size
         try have zA : W.heap.size < w2.heap.size := by have := hb2.size; simp at this; omega
         try have f0 : w2.cell? ⟨W.heap.size, 0, none⟩ = some (.slice none 0 0) := by rw [(bcell hb2).1 _ _ (by go_size)]; simp [go_sem]
         try have f1 : w2.cell? ⟨W.heap.size, 1, none⟩ = some (.slice none 0 0) := by rw [(bcell hb2).1 _ _ (by go_size)]; simp [go_sem]
         try have f3 : ∀ o, w2.frozen? ⟨W.heap.size, o, none⟩ = false := by (intro o; rw [(bcell hb2).2 _ _ (by go_size)]; simp [go_sem])
         have HA2 : Hid (QuotesAt w2 a2 L) := by
           obtain ⟨x1, y1, ex, h3⟩ := CellsAt.of_own ho2
           rw [← (Value.slice.inj ex).1] at h3
           exact h3.quotes)
      | (go_at_call 50
         rw [← HLn.out]
         refine (trustLook _ C a2 L c2 q _ (HAW.out.mono (B2.trans (by go_grown))) hf (HA2.out.mono (by go_grown)) (by rw [HLn.out]; omega)).mono ?_
         rintro e w3 ⟨v3, rfl, hA3, hb3⟩
         have B3 : Below W.heap.size W w3 := B2.trans (Below.trans (by go_grown) (hb3.mono (by go_size)))
         have e0 := cell_later B3 c0
         have e1 := cell_later B3 c1
         have e2 := cell_later B3 p2
         have e3 := cell_later B3 p3
         have e4 := cell_later B3 p0
         have e5 := cell_later B3 p1
         have z3 : W.heap.size ≤ w3.heap.size := B3.size
         have n1 : W.heap.size ≠ w1.heap.size := by omega
         have n2 : w1.heap.size ≠ W.heap.size := by omega
         have n3 : W.heap.size ≠ w.heap.size := by omega
         have n4 : w.heap.size ≠ W.heap.size := by omega
         have n5 : W.heap.size ≠ w.heap.size + 1 := by omega
         have n6 : w.heap.size + 1 ≠ W.heap.size := by omega
         have m1 : w2.heap.size ≠ w1.heap.size := by omega
         have m2 : w1.heap.size ≠ w2.heap.size := by omega
         have m3 : w2.heap.size ≠ w.heap.size := by omega
         have m4 : w.heap.size ≠ w2.heap.size := by omega
         have m5 : w2.heap.size ≠ w.heap.size + 1 := by omega
         have m6 : w.heap.size + 1 ≠ w2.heap.size := by omega
         have z23 : w2.heap.size ≤ w3.heap.size := by have := hb3.size; (try simp at this); omega
         try have zB : w2.heap.size < w3.heap.size := by have := hb3.size; simp at this; omega
         try have zC : W.heap.size < w3.heap.size := by omega
         try have g0 : w3.cell? ⟨w2.heap.size, 0, none⟩ = some (.slice none 0 0) := by rw [(bcell hb3).1 _ _ (by go_size)]; simp [go_sem]
         try have g1 : w3.cell? ⟨w2.heap.size, 1, none⟩ = some (.slice none 0 0) := by rw [(bcell hb3).1 _ _ (by go_size)]; simp [go_sem]
         try have g3 : ∀ o, w3.frozen? ⟨w2.heap.size, o, none⟩ = false := by (intro o; rw [(bcell hb3).2 _ _ (by go_size)]; simp [go_sem])
         try have h0 : w3.cell? ⟨W.heap.size, 0, none⟩ = some (.slice none 0 0) := by rw [(bcell hb3).1 _ _ (by go_size)]; first | exact f0 | simp [go_sem, f0]
         try have h1 : w3.cell? ⟨W.heap.size, 1, none⟩ = some (.slice none 0 0) := by rw [(bcell hb3).1 _ _ (by go_size)]; first | exact f1 | simp [go_sem, f1]
         try have h3 : ∀ o, w3.frozen? ⟨W.heap.size, o, none⟩ = false := by (intro o; rw [(bcell hb3).2 _ _ (by go_size)]; first | exact f3 o | simp [go_sem, f3])
         obtain ⟨ta3, tc3, na3, nc3, rfl, _, _⟩ := id hA3
         have HA3 := hid hA3
         clear hA3))
  · have y1 : w.heap.size < w3.heap.size := by omega
    have y2 : w.heap.size + 1 < w3.heap.size := by omega
    have y3 : w1.heap.size < w3.heap.size := by omega
    refine act_gen (LooksAt w w1 W w3.heap.size (.slice ta C.trusts.length tc) (.slice na C.nonces.length nc) (.slice ta1 C.trusts.length tc1) (.slice na1 C.nonces.length nc1) (.slice ta3 (lookD C L q).1.trusts.length tc3) (.slice na3 (lookD C L q).1.nonces.length nc3) C (lookD C L q).1 q)
      ⟨(BW.trans (B3.mono BW.size)).alloc (by omega) _, B3.alloc (by omega) _, by go_simp, by go_simp, by go_simp, by go_simp, by go_simp, by go_simp, by go_simp, by go_simp, HA3.out.mono (below_alloc _ _), by go_size, by go_size, by go_size⟩ ?_
    clear e0 e1 e2 e3 e4 e5 p0 p1 p2 p3 c0 c1 zW
    intro V HLV
    have hb0 := HLV.below
    have a0 := HLV.a0
    have a1 := HLV.a1
    have p0 := HLV.p0
    have p1 := HLV.p1
    have p2 := HLV.p2
    have p3 := HLV.p3
    have k0 := HLV.k0
    have k1 := HLV.k1
    have lt := HLV.lt
    have zv := HLV.z
    have zv1 := HLV.z1
    have HB0 := hid HLV.b0
    have HR := hid HLV.r
    have hff := lookD_fits hf L q
    clear HLV
    go_wp2_with fail
    refine (refLooked _ C a L cap q.log q.data _ (HV.out.mono hb0) hf (HQ.out.mono hb0) (by rw [HLn.out]; omega)).mono ?_
    rintro e w4 ⟨v4, rfl, hA4, hb4⟩
    have hq : lookD C L ⟨q.log, q.data⟩ = lookD C L q := rfl
    rw [hq] at hA4 ⊢
    clear hq
    obtain ⟨ta4, tc4, na4, nc4, rfl, _, _⟩ := id hA4
    have HA4 := hid hA4
    have HR4 := hid (HR.out.mono hb4)
    have HA14 := hid (HAW.out.mono (HB0.out.trans (hb4.mono HB0.out.size)))
    have a0 := cell_later hb4 a0
    have a1 := cell_later hb4 a1
    have p0 := cell_later hb4 p0
    have p1 := cell_later hb4 p1
    have k0 := cell_later hb4 k0
    have k1 := cell_later hb4 k1
    have lt4 := Nat.lt_of_lt_of_le lt hb4.size
    have z4 : w.heap.size < w4.heap.size := by have := hb4.size; omega
    have z14 : w1.heap.size < w4.heap.size := by have := hb4.size; omega
    have B4 : Below w.heap.size w w4 := hb0.trans (hb4.mono hb0.size)
    clear hb4 hA4 hb0 lt zv zv1 HA3
    generalize lookD C L q = R at *
    go_wp2_with fail
    refine (sameChallenger _ _ R.1 _ hff (HR4.out.mono (below_alloc _ _)) (HA4.out.mono (below_alloc _ _))).mono ?_
    rintro e w5 ⟨rfl, hb5⟩
    have B45 : Below w4.heap.size w4 w5 := (below_alloc _ _).trans (hb5.mono (by go_size))
    have p0 := cell_later B45 p0
    have p1 := cell_later B45 p1
    have k0 := cell_later B45 k0
    have k1 := cell_later B45 k1
    have B5 : Below w.heap.size w w5 := B4.trans (B45.mono B4.size)
    have HA15 := hid (HA14.out.mono B45)
    clear hb5 B45 a0 a1
    go_wp2_with fail
    refine (sameChallenger _ _ C _ hf HA15.out (HV.out.mono B5)).mono ?_
    rintro e w6 ⟨rfl, hb6⟩
    go_wp2_with fail
    go_ret
    exact ⟨rfl, B5.trans (hb6.mono B5.size)⟩
  · refine act_gen (LooksAt w w1 W w2.heap.size (.slice ta C.trusts.length tc) (.slice na C.nonces.length nc) (.slice ta1 C.trusts.length tc1) (.slice na1 C.nonces.length nc1) (.slice ta3 (lookD C L q).1.trusts.length tc3) (.slice na3 (lookD C L q).1.nonces.length nc3) C (lookD C L q).1 q)
      ⟨below_low2 (BW.trans (B3.mono BW.size)) (by omega) _ _, below_low2 B3 (by omega) _ _, by go_simp, by go_simp, by go_simp, by go_simp, by go_simp, by go_simp, by go_simp, by go_simp, chalAt_box HA3.out g0 g1 _ _, by go_size, by go_size, by go_size⟩ ?_
    clear e0 e1 e2 e3 e4 e5 p0 p1 p2 p3 c0 c1 zW
    intro V HLV
    have hb0 := HLV.below
    have a0 := HLV.a0
    have a1 := HLV.a1
    have p0 := HLV.p0
    have p1 := HLV.p1
    have p2 := HLV.p2
    have p3 := HLV.p3
    have k0 := HLV.k0
    have k1 := HLV.k1
    have lt := HLV.lt
    have zv := HLV.z
    have zv1 := HLV.z1
    have HB0 := hid HLV.b0
    have HR := hid HLV.r
    have hff := lookD_fits hf L q
    clear HLV
    go_wp2_with fail
    refine (refLooked _ C a L cap q.log q.data _ (HV.out.mono hb0) hf (HQ.out.mono hb0) (by rw [HLn.out]; omega)).mono ?_
    rintro e w4 ⟨v4, rfl, hA4, hb4⟩
    have hq : lookD C L ⟨q.log, q.data⟩ = lookD C L q := rfl
    rw [hq] at hA4 ⊢
    clear hq
    obtain ⟨ta4, tc4, na4, nc4, rfl, _, _⟩ := id hA4
    have HA4 := hid hA4
    have HR4 := hid (HR.out.mono hb4)
    have HA14 := hid (HAW.out.mono (HB0.out.trans (hb4.mono HB0.out.size)))
    have a0 := cell_later hb4 a0
    have a1 := cell_later hb4 a1
    have p0 := cell_later hb4 p0
    have p1 := cell_later hb4 p1
    have k0 := cell_later hb4 k0
    have k1 := cell_later hb4 k1
    have lt4 := Nat.lt_of_lt_of_le lt hb4.size
    have z4 : w.heap.size < w4.heap.size := by have := hb4.size; omega
    have z14 : w1.heap.size < w4.heap.size := by have := hb4.size; omega
    have B4 : Below w.heap.size w w4 := hb0.trans (hb4.mono hb0.size)
    clear hb4 hA4 hb0 lt zv zv1 HA3
    generalize lookD C L q = R at *
    go_wp2_with fail
    refine (sameChallenger _ _ R.1 _ hff (HR4.out.mono (below_alloc _ _)) (HA4.out.mono (below_alloc _ _))).mono ?_
    rintro e w5 ⟨rfl, hb5⟩
    have B45 : Below w4.heap.size w4 w5 := (below_alloc _ _).trans (hb5.mono (by go_size))
    have p0 := cell_later B45 p0
    have p1 := cell_later B45 p1
    have k0 := cell_later B45 k0
    have k1 := cell_later B45 k1
    have B5 : Below w.heap.size w w5 := B4.trans (B45.mono B4.size)
    have HA15 := hid (HA14.out.mono B45)
    clear hb5 B45 a0 a1
    go_wp2_with fail
    refine (sameChallenger _ _ C _ hf HA15.out (HV.out.mono B5)).mono ?_
    rintro e w6 ⟨rfl, hb6⟩
    go_wp2_with fail
    go_ret
    exact ⟨rfl, B5.trans (hb6.mono B5.size)⟩
  · refine act_gen (LooksAt w w1 W W.heap.size (.slice ta C.trusts.length tc) (.slice na C.nonces.length nc) (.slice ta1 C.trusts.length tc1) (.slice na1 C.nonces.length nc1) (.slice ta3 (lookD C L q).1.trusts.length tc3) (.slice na3 (lookD C L q).1.nonces.length nc3) C (lookD C L q).1 q)
      ⟨below_low2 (BW.trans (B3.mono BW.size)) (by omega) _ _, below_low2 B3 (by omega) _ _, by go_simp, by go_simp, by go_simp, by go_simp, by go_simp, by go_simp, by go_simp, by go_simp, chalAt_box HA3.out h0 h1 _ _, by go_size, by go_size, by go_size⟩ ?_
    clear e0 e1 e2 e3 e4 e5 p0 p1 p2 p3 c0 c1 zW
    intro V HLV
    have hb0 := HLV.below
    have a0 := HLV.a0
    have a1 := HLV.a1
    have p0 := HLV.p0
    have p1 := HLV.p1
    have p2 := HLV.p2
    have p3 := HLV.p3
    have k0 := HLV.k0
    have k1 := HLV.k1
    have lt := HLV.lt
    have zv := HLV.z
    have zv1 := HLV.z1
    have HB0 := hid HLV.b0
    have HR := hid HLV.r
    have hff := lookD_fits hf L q
    clear HLV
    go_wp2_with fail
    refine (refLooked _ C a L cap q.log q.data _ (HV.out.mono hb0) hf (HQ.out.mono hb0) (by rw [HLn.out]; omega)).mono ?_
    rintro e w4 ⟨v4, rfl, hA4, hb4⟩
    have hq : lookD C L ⟨q.log, q.data⟩ = lookD C L q := rfl
    rw [hq] at hA4 ⊢
    clear hq
    obtain ⟨ta4, tc4, na4, nc4, rfl, _, _⟩ := id hA4
    have HA4 := hid hA4
    have HR4 := hid (HR.out.mono hb4)
    have HA14 := hid (HAW.out.mono (HB0.out.trans (hb4.mono HB0.out.size)))
    have a0 := cell_later hb4 a0
    have a1 := cell_later hb4 a1
    have p0 := cell_later hb4 p0
    have p1 := cell_later hb4 p1
    have k0 := cell_later hb4 k0
    have k1 := cell_later hb4 k1
    have lt4 := Nat.lt_of_lt_of_le lt hb4.size
    have z4 : w.heap.size < w4.heap.size := by have := hb4.size; omega
    have z14 : w1.heap.size < w4.heap.size := by have := hb4.size; omega
    have B4 : Below w.heap.size w w4 := hb0.trans (hb4.mono hb0.size)
    clear hb4 hA4 hb0 lt zv zv1 HA3
    generalize lookD C L q = R at *
    go_wp2_with fail
    refine (sameChallenger _ _ R.1 _ hff (HR4.out.mono (below_alloc _ _)) (HA4.out.mono (below_alloc _ _))).mono ?_
    rintro e w5 ⟨rfl, hb5⟩
    have B45 : Below w4.heap.size w4 w5 := (below_alloc _ _).trans (hb5.mono (by go_size))
    have p0 := cell_later B45 p0
    have p1 := cell_later B45 p1
    have k0 := cell_later B45 k0
    have k1 := cell_later B45 k1
    have B5 : Below w.heap.size w w5 := B4.trans (B45.mono B4.size)
    have HA15 := hid (HA14.out.mono B45)
    clear hb5 B45 a0 a1
    go_wp2_with fail
    refine (sameChallenger _ _ C _ hf HA15.out (HV.out.mono B5)).mono ?_
    rintro e w6 ⟨rfl, hb6⟩
    go_wp2_with fail
    go_ret
    exact ⟨rfl, B5.trans (hb6.mono B5.size)⟩
set_option maxRecDepth 100000 in
theorem trustLooks_args {H : Type} {enc : TypeId × Value → H} (W : World) (b0 : Nat) (args : Array Value) (hs : args.size = (Try.f15).params.size)
    (ha : ∀ (j : Nat) t v, (Try.f15).params[j]? = some t → args[j]? = some v → Value.okWide Try.prog W .any b0 t v ∧ Rd enc Try.prog W t v.cells.toList) :
    Calls Try.prog 15 args W fun e w' => e = .returned (.bool true) ∧ Below W.heap.size W w' := by
  obtain ⟨l⟩ := args
  match l, hs with
  | [v, v1, v2], _ =>
    obtain ⟨C, hC, hf, _⟩ := rd_chal (ha 0 _ v rfl rfl).1 (ha 0 _ v rfl rfl).2
    have hv1 := rd_slice_v Try.underlying24 (ha 1 _ v1 rfl rfl).1
    obtain ⟨a, L, cap, e1, hz, hL, _⟩ := rd_quotes (ha 1 _ v1 rfl rfl).2
    rw [hv1] at e1
    cases e1
    obtain ⟨cs, rfl, hsz⟩ := okWide_struct Try.underlying62 (ha 2 _ v2 rfl rfl).1
    obtain ⟨l⟩ := cs
    match l, hsz.trans (show Try.prog.cellsOf 62 = 2 by kernel_rfl) with
    | [u0, u1], _ =>
      obtain ⟨x0, e0, _⟩ := (rd_field1 Try.underlying62 (ha 2 _ _ rfl rfl).2 0 rfl cStr u0 rfl).string Try.underlying9
      obtain ⟨x1, e1, _⟩ := (rd_field1 Try.underlying62 (ha 2 _ _ rfl rfl).2 1 rfl cInt u1 rfl).int Try.underlying3
      cases e0; cases e1
      exact trustLooks_calls v C a L cap ⟨x0, x1⟩ W hf hC hL hz

set_option maxRecDepth 100000 in
theorem trustLooks_lifted (os : Os) (started : os.Started) (H : Type) (enc : TypeId × Value → H) :
    ReturnsInHanded {} Try.checked os 15 .any (Rows.trustLooksSpec.pre6 enc Try.prog Try.f15 Rows.trustLooksRow.domain false) (Rows.trustLooksSpec.post enc Try.prog Try.f15 false true false false) :=
  returnsInHanded_of_change_sized (C := Try.checked) own started (by kernel_rfl) Try.func15
    (ChangeSpec.witness6 (enc := enc) (C := Try.checked) false ⟨#[], #[.agg #[.slice none 0 0, .slice none 0 0], .slice none 0 0, .agg #[.string ⟨#[]⟩, .int .i64 0]], []⟩ 8 (by kernel_rfl) (by kernel_rfl) (by kernel_rfl) (by kernel_rfl))
    fun W base args ds gs before hval hW _ hsz _ => law_contract laidOut (by kernel_rfl) rfl Try.underlying4 rfl (fun ds h => by
      match ds, h with
      | [_, _, _], _ => exact ⟨rfl, rfl, rfl⟩) hval hW hsz fun hs ha => trustLooks_args W base args hs ha

theorem trustLooks_holds : Rows.TrustLooksSaid :=
  OpenClaim.holds_of_wide 15 Try.f15 rfl rfl rfl rfl rfl rfl rfl ⟨rfl, rfl, rfl, rfl, rfl⟩ rfl rfl rfl rfl rfl (by kernel_rfl) Try.func15 (by kernel_rfl)
    (of_decide_eq_true (by kernel_rfl)) (by unfold Func.isWrapper; first | (rw [if_pos (by decide +kernel)]; kernel_rfl) | (rw [if_neg (by decide +kernel)]; exact ⟨rfl, rfl⟩))
    (fun os started H enc _ => trustLooks_lifted os started H enc)


end Go.Proofs.Ytaknndkaeelkbaa
