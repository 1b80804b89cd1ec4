/- riddlekeep.Acts, walked. Conditions: the numbers are of int; what fits the form's own reach. -/
import Derived.Test.YtbamacddfonloaaDoorGt
import Derived.Test.YtbamacddfonloaaDoorActsPlain
import Derived.StillTailTactics
import Derived.Deep.RegionHeld3
import Derived.Deep.CutBlock
namespace Go.Proofs.YtbamacddfonloaaDoor
open Go.RowKit

/-- The raw thing's box and the act's. -/
structure AcSt (wr : World) (x : RawD) (b : Nat) (a : ActD) (W : World) : Prop where
  below : Below wr.heap.size wr W
  r0 : W.cell? ⟨wr.heap.size, 0, none⟩ = some (.int .i64 x.kind)
  r1 : W.cell? ⟨wr.heap.size, 1, none⟩ = some (.int .i64 x.a)
  r2 : W.cell? ⟨wr.heap.size, 2, none⟩ = some (.int .i64 x.b)
  r3 : W.cell? ⟨wr.heap.size, 3, none⟩ = some (.int .i64 x.c)
  a0 : W.cell? ⟨b, 0, none⟩ = some (.int .i64 a.kind)
  a1 : W.cell? ⟨b, 1, none⟩ = some (.int .i64 a.e)
  a2 : W.cell? ⟨b, 2, none⟩ = some (.int .i64 a.f)
  a3 : W.cell? ⟨b, 3, none⟩ = some (.int .i64 a.pl)
  a4 : W.cell? ⟨b, 4, none⟩ = some (.int .i64 a.rights)
  a5 : W.cell? ⟨b, 5, none⟩ = some (.int .i64 a.n)
  a6 : W.cell? ⟨b, 6, none⟩ = some (.int .i64 a.fuel)
  az : ∀ o, W.frozen? ⟨b, o, none⟩ = false
  hb : wr.heap.size < b
section
variable {wr W W' : World} {x : RawD} {b : Nat} {a : ActD}
theorem AcSt.lt (h : AcSt wr x b a W) : b < W.heap.size := World.block_lt_of_cell? W _ h.a0
theorem AcSt.later (h : AcSt wr x b a W) (hb : Below W.heap.size W W') : AcSt wr x b a W' :=
  ⟨h.below.trans (hb.mono h.below.size), cell_later hb h.r0, cell_later hb h.r1, cell_later hb h.r2, cell_later hb h.r3, cell_later hb h.a0, cell_later hb h.a1, cell_later hb h.a2, cell_later hb h.a3, cell_later hb h.a4, cell_later hb h.a5, cell_later hb h.a6,
    fun o => by rw [(bcell hb).2 _ _ h.lt]; exact h.az o, h.hb⟩
/-- The act's box written whole. -/
theorem AcSt.put (h : AcSt wr x b a W) (y : ActD) : AcSt wr x b y (((((((W.setCell ⟨b, 0, none⟩ (.int .i64 y.kind)).setCell ⟨b, 1, none⟩ (.int .i64 y.e)).setCell ⟨b, 2, none⟩ (.int .i64 y.f)).setCell ⟨b, 3, none⟩ (.int .i64 y.pl)).setCell ⟨b, 4, none⟩ (.int .i64 y.rights)).setCell ⟨b, 5, none⟩ (.int .i64 y.n)).setCell ⟨b, 6, none⟩ (.int .i64 y.fuel)) := by
  have r0 := h.r0
  have r1 := h.r1
  have r2 := h.r2
  have r3 := h.r3
  have a0 := h.a0
  have a1 := h.a1
  have a2 := h.a2
  have a3 := h.a3
  have a4 := h.a4
  have a5 := h.a5
  have a6 := h.a6
  have az := h.az
  have hb := h.hb
  have n1 : wr.heap.size ≠ b := by omega
  have n2 := n1.symm
  exact ⟨below_encl h.below (by omega) _ _ _ _ _ _ _ _ _ _ _ _ _ _, by go_simp, by go_simp, by go_simp, by go_simp, by go_simp, by go_simp, by go_simp, by go_simp, by go_simp, by go_simp, by go_simp, fun o => by go_simp, hb⟩
theorem AcSt.put2 (h : AcSt wr x b a W) (k r : Int) : AcSt wr x b ⟨k, a.e, a.f, a.pl, r, a.n, a.fuel⟩ ((W.setCell ⟨b, 0, none⟩ (.int .i64 k)).setCell ⟨b, 4, none⟩ (.int .i64 r)) := by
  have r0 := h.r0
  have r1 := h.r1
  have r2 := h.r2
  have r3 := h.r3
  have a0 := h.a0
  have a1 := h.a1
  have a2 := h.a2
  have a3 := h.a3
  have a4 := h.a4
  have a5 := h.a5
  have a6 := h.a6
  have az := h.az
  have hb := h.hb
  have n1 : wr.heap.size ≠ b := by omega
  have n2 := n1.symm
  exact ⟨below_at (below_at h.below (by omega) _ _) (by omega) _ _, by go_simp, by go_simp, by go_simp, by go_simp, by go_simp, by go_simp, by go_simp, by go_simp, by go_simp, by go_simp, by go_simp, fun o => by go_simp, hb⟩
theorem AcSt.new (h : W.heap.size = wr.heap.size + 1) (hB : Below wr.heap.size wr W) (r0 : W.cell? ⟨wr.heap.size, 0, none⟩ = some (.int .i64 x.kind)) (r1 : W.cell? ⟨wr.heap.size, 1, none⟩ = some (.int .i64 x.a)) (r2 : W.cell? ⟨wr.heap.size, 2, none⟩ = some (.int .i64 x.b)) (r3 : W.cell? ⟨wr.heap.size, 3, none⟩ = some (.int .i64 x.c)) (t : TypeId) (a : ActD) :
    AcSt wr x W.heap.size a (W.alloc (.cells #[.int .i64 a.kind, .int .i64 a.e, .int .i64 a.f, .int .i64 a.pl, .int .i64 a.rights, .int .i64 a.n, .int .i64 a.fuel] t)) :=
  ⟨hB.trans (Below.mono (below_alloc _ _) hB.size), cell_new1 r0 _, cell_new1 r1 _, cell_new1 r2 _, cell_new1 r3 _, by go_simp, by go_simp, by go_simp, by go_simp, by go_simp, by go_simp, by go_simp, fun o => by go_simp, by omega⟩
end

def ActsRes (base : Nat) (L : List ActD) (w : World) (e : Ending) (w' : World) : Prop := ∃ v, e = .returned v ∧ OwnActs base w' v L ∧ Below base w w'
set_option maxRecDepth 10000 in
set_option maxHeartbeats 3200000 in
theorem keepActs (a : Option Addr) (l : List RawD) (n cap most : Nat) (ms : Bool) (w : World) (hl : l.length = n) (hn : n * 32 ≤ 140737488351232) (hc : RawsAt w a l) (hk : ∀ x ∈ l, x.Ok) (hm : most ≤ 100) :
    Calls Tryd.prog 11 #[.slice a n cap, .int .i64 most, .bool ms] w (ActsRes w.heap.size (actsOf l most ms) w) := by
  obtain ⟨j0, hj0, hy0, hy1, hy2⟩ := info_parts infoActs
  have HL := hid hl
  have HC := hid hc
  have HK := hid hk
  clear hl hc hk
  go_enter Tryd.func11, Tryd.ntmps11
  go_wp2_with fail
  go_loopw [7, 8] (fun ov j W => ∃ i : Nat, i ≤ n ∧ i ≤ most ∧ j = .int .i64 i ∧ Hid (OwnActs w.heap.size W ov (actsOf l i ms)) ∧ Below w.heap.size w W) (fun _ j _ => n - (intOf j).toNat)
  case atStart => exact ⟨0, by omega, by omega, rfl, World.ownsRow_nil _ _ _ _, Below.refl _ _⟩
  case round =>
    obtain ⟨i, hi, him, rfl, HO, hb⟩ := hrel
    have hsz := hb.size
    by_cases h1 : i < n
    rotate_left
    · obtain rfl : i = n := by omega
      have e : actsOf l most ms = actsOf l i ms := by rw [actsOf, actsOf, List.take_of_length_le (by rw [HL.out]; exact him), List.take_of_length_le (by rw [HL.out]; omega)]
      have HE := hid e
      clear e
      go_wp2_with fail
      go_ret
      exact ⟨_, rfl, by rw [HE.out]; exact HO.out, hb⟩
    by_cases h2 : i < most
    rotate_left
    · obtain rfl : i = most := by omega
      go_wp2_with fail
      go_ret
      exact ⟨_, rfl, HO.out, hb⟩
    obtain ⟨x, hx⟩ : ∃ x, l[i]? = some x := ⟨_, List.getElem?_eq_getElem (by rw [HL.out]; exact h1)⟩
    have HX := hid (HK.out x (List.mem_of_getElem? hx))
    have hst : actsOf l (i + 1) ms = actsOf l i ms ++ [actT x ms] := by rw [actsOf, take_one hx, List.map_append]; rfl
    have HST := hid hst
    obtain ⟨rb, ro, rfl, k0, k1, k2, k3⟩ := HC.out.mono hb i x hx
    obtain ⟨oa, oc, rfl, _⟩ := HO.out.at
    have HLn : Hid ((actsOf l i ms).length ≤ 100) := by show _ ≤ _; rw [actsOf_len]; omega
    have HB := hid hb
    clear hx hst hb
    go_upto_region 6 with fail
    refine act_gen (fun W => W.heap.size = wr.heap.size + 1 ∧ Below wr.heap.size wr W ∧ W.cell? ⟨wr.heap.size, 0, none⟩ = some (.int .i64 x.kind) ∧ W.cell? ⟨wr.heap.size, 1, none⟩ = some (.int .i64 x.a) ∧ W.cell? ⟨wr.heap.size, 2, none⟩ = some (.int .i64 x.b) ∧ W.cell? ⟨wr.heap.size, 3, none⟩ = some (.int .i64 x.c)) ⟨by go_size, by go_grown, by go_simp, by go_simp, by go_simp, by go_simp⟩ ?_
    rintro W1 ⟨zW, hbW, r0, r1, r2, r3⟩
    have HZ := hid zW
    have HBW := hid hbW
    have zz : wr.heap.size < W1.heap.size := by omega
    clear k0 k1 k2 k3 hbW zW hsz
    have HX1 := hid HX.out.2.1
    have HX2 := hid HX.out.2.2.1
    have HX3 := hid HX.out.2.2.2
    go_cut [10] from 27 to 37 (fun p W => p = .pointer (some ⟨W1.heap.size, 0, none⟩) ∧ Hid (AcSt wr x W1.heap.size ⟨0, 1 + pickD x.a 3, pickD x.b 24, pickD x.c 8, 0, 0, 0⟩ W))
    case first =>
      have s0 := pickD_lo x.a (many := 3) (by decide)
      have s1 := pickD_hi x.a (many := 3) (by decide)
      go_region_held3 (fun w' => w'.cell? ⟨wr.heap.size, 1, none⟩ = some (.int .i64 x.a) ∧ w'.cell? ⟨wr.heap.size, 2, none⟩ = some (.int .i64 x.b) ∧ w'.cell? ⟨wr.heap.size, 3, none⟩ = some (.int .i64 x.c))
        (first | exact ⟨r1, r2, r3⟩ | (refine ⟨?_, ?_, ?_⟩ <;> assumption) | exact ⟨cell_later (by go_grown) r1, cell_later (by go_grown) r2, cell_later (by go_grown) r3⟩)
        (first
          | (go_at_call 14; refine (picked_any _ _ _ ?hp (by decide)).mono ?_; (case hp => first | exact HX1.out | exact HX2.out | exact HX3.out); rintro e w' ⟨rfl, rfl⟩))
      all_goals
        go_wp2_with fail
        go_meet
        rw [show IntKind.i64.wrap (1 + pickD x.a 3) = 1 + pickD x.a 3 by rw [IntKind.wrap_i64]; omega]
        exact ⟨rfl, (AcSt.new HZ.out HBW.out r0 r1 r2 r3 _ ⟨0, 1 + pickD x.a 3, pickD x.b 24, pickD x.c 8, 0, 0, 0⟩).later (below_drew _)⟩
    case rest =>
    obtain ⟨rfl, HS⟩ := hcut
    have hbz := HS.out.hb
    clear r0 r1 r2 r3 zz HZ
    generalize W1.heap.size = b at HS hbz
    have r0 := HS.out.r0
    have HX0 := hid HX.out.1
    go_upto_region 7 with fail
    go_wp2_with fail
    refine (picked_any _ 30 _ HX0.out (by decide)).mono ?_
    rintro e w' ⟨rfl, rfl⟩
    have HAC : Hid (actT x ms = actT x ms) := rfl
    have q0 := pickD_lo x.kind (many := 30) (by decide)
    have q1 := pickD_hi x.kind (many := 30) (by decide)
    generalize hk : pickD x.kind 30 = k at q0 q1 ⊢
    have HKK := hid hk
    clear hk
    go_upto_block 2 with fail
    go_cut [] from 41 to 99 (fun W => Hid (AcSt wr x b (actT x ms) W))
    case first =>
      have r1 := HS.out.r1
      have a0 := HS.out.a0
      have a1 := HS.out.a1
      have a2 := HS.out.a2
      have a3 := HS.out.a3
      have a4 := HS.out.a4
      have a5 := HS.out.a5
      have a6 := HS.out.a6
      have az := HS.out.az
      by_cases k1 : k < 10
      · have HE : Hid (actT x ms = ⟨6, 0, pickD x.b 24, pickD x.c 8, 0, 0, 0⟩) := by show _ = _; rw [actT, HKK.out, if_pos k1]
        go_wp2_with fail
        go_meet
        rw [HE.out]
        exact HS.out.put ⟨6, 0, pickD x.b 24, pickD x.c 8, 0, 0, 0⟩
      by_cases k2 : k < 18
      · have HE : Hid (actT x ms = ⟨7, 0, pickD x.b 24, pickD x.c 8, 0, pickD x.a 65536, 0⟩) := by show _ = _; rw [actT, HKK.out, if_neg k1, if_pos k2]
        go_upto_region 12 with fail
        go_still_tail 8, (by kernel_rfl)
        still_call (picked_any x.a 65536 _ HX1.out (by decide))
        repeat still_step
        refine wpStill_nil ?_
        change wpList _ _ _ _ _ (World.drew _)
        go_wp2_with fail
        go_meet
        rw [HE.out]
        exact (HS.out.put ⟨7, 0, pickD x.b 24, pickD x.c 8, 0, pickD x.a 65536, 0⟩).later (below_drew _)
      by_cases k3 : k < 22
      · have HE : Hid (actT x ms = ⟨2, 1 + pickD x.a 3, pickD x.b 24, pickD x.c 8, pickD x.a 8, 0, 0⟩) := by show _ = _; rw [actT, HKK.out, if_neg k1, if_neg k2, if_pos k3]
        go_wp2_with fail
        refine (picked_any _ 8 _ HX1.out (by decide)).mono ?_
        rintro e w2 ⟨rfl, rfl⟩
        go_wp2_with fail
        go_meet
        rw [HE.out]
        exact HS.out.put2 2 (pickD x.a 8)
      by_cases k4 : k < 25 ∧ ms = true
      · have HE : Hid (actT x ms = ⟨3, 1 + pickD x.a 3, 0, pickD x.c 8, 0, 0, 0⟩) := by show _ = _; rw [actT, HKK.out, if_neg k1, if_neg k2, if_neg k3, if_pos k4]
        obtain ⟨k5, rfl⟩ := k4
        go_wp2_with fail
        go_meet
        rw [HE.out]
        exact HS.out.put ⟨3, 1 + pickD x.a 3, 0, pickD x.c 8, 0, 0, 0⟩
      by_cases k5 : k < 27
      · have HE : Hid (actT x ms = ⟨1, 0, 0, 0, 0, 0, 0⟩) := by show _ = _; rw [actT, HKK.out, if_neg k1, if_neg k2, if_neg k3, if_neg k4, if_pos k5]
        by_cases k6 : k < 25
        · have hms : ms = false := by
            cases ms with
            | true => exact absurd ⟨k6, rfl⟩ k4
            | false => rfl
          subst hms
          clear k4
          go_wp2_with fail
          go_meet
          rw [HE.out]
          exact HS.out.put ⟨1, 0, 0, 0, 0, 0, 0⟩
        · clear k4
          go_wp2_with fail
          go_meet
          rw [HE.out]
          exact HS.out.put ⟨1, 0, 0, 0, 0, 0, 0⟩
      have k6 : ¬ k < 25 := by omega
      by_cases k7 : k = 27
      · have HE : Hid (actT x ms = ⟨4, 1 + pickD x.a 3, 0, 0, 0, 0, 0⟩) := by show _ = _; rw [actT, HKK.out, if_neg k1, if_neg k2, if_neg k3, if_neg k4, if_neg k5, if_pos k7]
        have k7b : (k == 27) = true := by rw [beq_iff_eq]; exact k7
        clear k4 k7
        go_wp2_with fail
        go_meet
        rw [HE.out]
        exact HS.out.put ⟨4, 1 + pickD x.a 3, 0, 0, 0, 0, 0⟩
      have k7b : (k == 27) = false := by rw [beq_eq_false_iff_ne]; exact k7
      by_cases k8 : k = 28
      · have HE : Hid (actT x ms = ⟨5, 1 + pickD x.a 3, 0, 0, 0, 0, 0⟩) := by show _ = _; rw [actT, HKK.out, if_neg k1, if_neg k2, if_neg k3, if_neg k4, if_neg k5, if_neg k7, if_pos k8]
        have k8b : (k == 28) = true := by rw [beq_iff_eq]; exact k8
        clear k4 k7 k8
        go_wp2_with fail
        go_meet
        rw [HE.out]
        exact HS.out.put ⟨5, 1 + pickD x.a 3, 0, 0, 0, 0, 0⟩
      · have HE : Hid (actT x ms = ⟨7, 0, pickD x.b 24, pickD x.c 8, 0, 0, 0⟩) := by show _ = _; rw [actT, HKK.out, if_neg k1, if_neg k2, if_neg k3, if_neg k4, if_neg k5, if_neg k7, if_neg k8]
        have k8b : (k == 28) = false := by rw [beq_eq_false_iff_ne]; exact k8
        clear k4 k7 k8
        go_wp2_with fail
        go_meet
        rw [HE.out]
        exact HS.out.put ⟨7, 0, pickD x.b 24, pickD x.c 8, 0, 0, 0⟩
    case rest =>
    clear HS
    have HS := hcut
    have a0 := HS.out.a0
    have a1 := HS.out.a1
    have a2 := HS.out.a2
    have a3 := HS.out.a3
    have a4 := HS.out.a4
    have a5 := HS.out.a5
    have a6 := HS.out.a6
    have HO2 : Hid (∀ X, OwnActs w.heap.size (wc.alloc X) (.slice oa (actsOf l i ms).length oc) (actsOf l i ms)) := fun X => (HO.out.below HS.out.below).below (below_alloc _ _)
    have hwz : wr.heap.size ≤ wc.heap.size := HS.out.below.size
    have hws : w.heap.size ≤ wr.heap.size := HB.out.size
    clear hcut HO HKK q0 q1 r0
    generalize actsOf l i ms = G at HST HLn HO2 ⊢
    go_wp2_with (at_builtin; refine wpList_append_lies _ rfl _ _ 25 rfl w.heap.size 33 j0 _ 7 56 Tryd.underlying25 hj0 hy0 hy1 hy2 rfl (by decide) _ G.length (G.flatMap ActD.cs) rfl (HO2.out _) ⟨wc.heap.size, 0, none⟩ 1 1 (actT x ms).cs rfl rfl (news_new (by simp) #[_, _, _, _, _, _, _] _) (by simp [Value.oneCell', ActD.cs]) (by decide) ?c2 ?c3 ?c4 (wc.heap.size + 1) ?c5 ?_)
    case c2 => unfold maxLen; have := HLn.out; omega
    case c3 => have := HLn.out; omega
    case c4 => simp; omega
    case c5 => simp
    intro g cap' W' hrow hgrow _ _
    have HR := hid hrow
    have HGr := hid hgrow
    clear hrow hgrow
    have hwi : IntKind.i64.wrap ((i : Int) + 1) = (i : Int) + 1 := by rw [IntKind.wrap_i64]; omega
    go_wp2_with fail
    go_roundw
    case rel =>
      refine ⟨i + 1, by omega, by omega, by go_num, ?_, ?_⟩
      · rw [HST.out]
        exact OwnActs.push (x := actT x ms) HR.out rfl
      · exact ((HB.out.trans (HS.out.below.mono hws)).trans (Below.mono (below_alloc _ _) (by omega))).grown HGr.out (by simp; omega) (fun q hq => ((HO2.out (.cells #[] 0)).lt q hq).1)
    case measure => simp [intOf]; omega

end Go.Proofs.YtbamacddfonloaaDoor
