/- riddlekeep.Code (of sixteen words), walked. Conditions: the numbers are of int. -/
import Derived.Test.YtehhhliiehhdjaaDoorRawPlain
import Derived.Test.YtehhhliiehhdjaaDoorOwn
import Derived.Test.YtehhhliiehhdjaaDoorAsk
import Derived.Deep.Cut
import Derived.Deep.CutRange
import Derived.Deep.CutBlock
import Derived.Deep.RegionHeld3
namespace Go.Proofs.YtehhhliiehhdjaaDoor
open Go.RowKit

set_option maxHeartbeats 400000 in
theorem instr_any (op a b c : Int) (w : World) (ho : 0 ≤ op ∧ op ≤ 9) (ha : 0 ≤ a ∧ a ≤ 3) (hb : 0 ≤ b ∧ b ≤ 3) :
    Calls Tryd.prog 52 #[.int .i64 op, .int .i64 a, .int .i64 b, .int .i64 c] w fun e w' => e = .returned (.slice (some ⟨w.heap.size, 0, none⟩) 2 2) ∧ w' = w.alloc (.cells #[.int .i64 (op + 16 * a + 256 * b), .int .i64 c] 3) := by
  have e1 : IntKind.i64.wrap (16 * a) = 16 * a := by rw [IntKind.wrap_i64]; omega
  have e2 : IntKind.i64.wrap (op + 16 * a) = op + 16 * a := by rw [IntKind.wrap_i64]; omega
  have e3 : IntKind.i64.wrap (256 * b) = 256 * b := by rw [IntKind.wrap_i64]; omega
  have e4 : IntKind.i64.wrap (op + 16 * a + 256 * b) = op + 16 * a + 256 * b := by rw [IntKind.wrap_i64]; omega
  go_enter Tryd.func52, Tryd.ntmps52
  go_wp2_with fail
  go_ret
  exact ⟨rfl, rfl⟩

theorem act_at {Q : Act → World → Prop} {a : Act} {W : World} (R : World → Prop) (hR : R W) (h : ∀ W0, R W0 → Q a W0) : Q a W := h W hR
def lenOf : Value → Nat
  | .slice _ n _ => n
  | _ => 0
theorem own_sixteen {W : World} {base : Nat} {v : Value} {xs : List Value} (h : W.ownsRow base 3 1 v 16 xs) : ∃ g c, v = .slice (some ⟨g, 0, none⟩) 16 c ∧ base ≤ g ∧ g < W.heap.size := by
  obtain ⟨_, ⟨_, h1⟩ | ⟨g, c, cur, h1, h2, h3, _⟩⟩ := h
  · omega
  · exact ⟨g, c, h1, h2, (Array.getElem?_eq_some_iff.1 h3).1⟩
def CodeRes (base : Nat) (l : List RawD) (w : World) (e : Ending) (w' : World) : Prop :=
  ∃ g c, e = .returned (.slice (some ⟨g, 0, none⟩) 16 c) ∧ w'.ownsRow base 3 1 (.slice (some ⟨g, 0, none⟩) 16 c) 16 (intCells (codeD l)) ∧ Below base w w'
/-- In a round: the row, the box of the raw thing. -/
structure CodeR (w : World) (base bx : Nat) (ov : Value) (n : Nat) (cs : List Int) (x : RawD) (W : World) : Prop where
  row : W.ownsRow base 3 1 ov n (intCells cs)
  k0 : W.cell? ⟨bx, 0, none⟩ = some (.int .i64 x.kind)
  k1 : W.cell? ⟨bx, 1, none⟩ = some (.int .i64 x.a)
  k2 : W.cell? ⟨bx, 2, none⟩ = some (.int .i64 x.b)
  k3 : W.cell? ⟨bx, 3, none⟩ = some (.int .i64 x.c)
  lt : bx < W.heap.size
  no : ov.ownBlock ≠ some bx
  below : Below base w W

set_option linter.unusedSimpArgs false in
set_option maxRecDepth 10000 in
set_option maxHeartbeats 1600000 in
theorem keepCode (a : Option Addr) (l : List RawD) (n cap : Nat) (w : World) (hl : l.length = n) (hn : n * 32 ≤ 140737488351232) (hc : RawsAt w a l) (hk : ∀ x ∈ l, x.Ok) :
    Calls Tryd.prog 36 #[.slice a n cap, .int .i64 16] w (CodeRes w.heap.size l w) := by
  obtain ⟨i0, hi0, hz0, hz1, hz2⟩ := info_parts infoInts
  have HL := hid hl
  have HC := hid hc
  have HK := hid hk
  clear hl hc hk
  go_enter Tryd.func36, Tryd.ntmps36
  go_wp2_with fail
  go_loopw [5, 6] (fun ov j W => ∃ i : Nat, i ≤ n ∧ i ≤ 7 ∧ j = .int .i64 i ∧ Hid (W.ownsRow w.heap.size 3 1 ov (2 * i) (intCells ((l.take i).flatMap rawI))) ∧ Below w.heap.size w W) (fun _ j _ => 7 - (intOf j).toNat)
  case atStart => exact ⟨0, by omega, by omega, rfl, World.ownsRow_nil _ _ _ _, Below.refl _ _⟩
  case round =>
    obtain ⟨i, hin, hi7, rfl, HO, hb⟩ := hrel
    have hsz := hb.size
    obtain ⟨oa, oc, rfl, _⟩ := CellsAt.of_own HO.out
    by_cases hlt : i < n
    by_cases hl7 : i < 7
    · obtain ⟨x, hx⟩ : ∃ x, l[i]? = some x := ⟨_, List.getElem?_eq_getElem (by rw [HL.out]; exact hlt)⟩
      obtain ⟨b, off, rfl, k0, k1, k2, k3⟩ := HC.out i x hx
      replace k0 := cell_later hb k0
      replace k1 := cell_later hb k1
      replace k2 := cell_later hb k2
      replace k3 := cell_later hb k3
      obtain ⟨q0, q1, q2, q3⟩ := HK.out x (List.mem_of_getElem? hx)
      have HQ0 := hid q0
      have HQ1 := hid q1
      have HQ2 := hid q2
      have HQ3 := hid q3
      have HX := hid hx
      have HB := hid hb
      have hw1 : IntKind.i64.wrap (2 * (i : Int) + 4) = 2 * (i : Int) + 4 := by rw [IntKind.wrap_i64]; omega
      have hw2 : IntKind.i64.wrap (((2 * i : Nat) : Int) + 4) = 2 * (i : Int) + 4 := by rw [IntKind.wrap_i64]; omega
      clear hx hb q0 q1 q2 q3
      go_upto_region 6 with fail
      with_reducible refine act_at (CodeR w w.heap.size wr.heap.size (.slice oa (2 * i) oc) (2 * i) ((l.take i).flatMap rawI) x) ?_ ?_
      · exact ⟨ownsRow_below HO.out (by go_grown), by go_simp, by go_simp, by go_simp, by go_simp, by go_size, fun e => by have := (HO.out.lt _ e).2; omega, HB.out.trans (Below.mono (by go_grown) hsz)⟩
      clear k0 k1 k2 k3 HO HB
      rintro W1 ⟨ho, k0, k1, k2, k3, z1, no1, hb1⟩
      have HO := hid ho
      have HB := hid hb1
      clear ho hb1
      have p0 := pickD_lo x.kind (many := 9) (by decide)
      have p1 := pickD_hi x.kind (many := 9) (by decide)
      have r0 := pickD_lo x.c (many := 8) (by decide)
      have r1 := pickD_hi x.c (many := 8) (by decide)
      have hwj : IntKind.i64.wrap (pickD x.c 8 * 2) = pickD x.c 8 * 2 := by rw [IntKind.wrap_i64]; omega
      have s0 := pickD_lo x.c (many := 40) (by decide)
      have s1 := pickD_hi x.c (many := 40) (by decide)
      have hws : IntKind.i64.wrap (64 + pickD x.c 40) = 64 + pickD x.c 40 := by rw [IntKind.wrap_i64]; omega
      have t0 := pickD_lo x.c (many := 16) (by decide)
      have t1 := pickD_hi x.c (many := 16) (by decide)
      have hwt : IntKind.i64.wrap (16 + pickD x.c 16) = 16 + pickD x.c 16 := by rw [IntKind.wrap_i64]; omega
      have HD : Hid (argD x = if opD x = 7 then pickD x.c 8 * 2 else if opD x = 1 ∧ pickD x.b 3 = 0 then 64 + pickD x.c 40 else if opD x = 1 ∧ pickD x.b 3 = 1 then 16 + pickD x.c 16 else pickD x.c 70) := rfl
      have HOP : Hid (opD x = 1 + pickD x.kind 9) := rfl
      go_wp2_with fail
      refine (picked_any _ 9 _ HQ0.out (by decide)).mono ?_
      rintro e w' ⟨rfl, rfl⟩
      obtain ⟨op, hop⟩ : ∃ op, opD x = op := ⟨_, rfl⟩
      have hop2 : 1 + pickD x.kind 9 = op := hop
      have ho0 : 1 ≤ op := by omega
      have ho9 : op ≤ 9 := by omega
      have hwo : IntKind.i64.wrap (1 + pickD x.kind 9) = op := by rw [IntKind.wrap_i64]; omega
      rw [hop] at HD
      have HP := hid hop
      clear hop hop2 HOP p0 p1
      go_wp2_with fail
      refine (picked_any _ 70 _ HQ3.out (by decide)).mono ?_
      rintro e w' ⟨rfl, rfl⟩
      go_upto_block 2 with fail
      go_cut [9] from 34 to 68 (fun c W' => c = .int .i64 (argD x) ∧ W' = w')
      case first =>
        by_cases o7 : op = 7
        · have e7 : (op == 7) = true := by rw [beq_iff_eq]; exact o7
          have O7 := hid o7
          clear o7
          go_wp2_with fail
          refine (picked_any _ 8 _ HQ3.out (by decide)).mono ?_
          rintro e w1 ⟨rfl, rfl⟩
          go_wp2_with fail
          go_meet
          exact ⟨by rw [HD.out, if_pos O7.out], rfl⟩
        have e7 : (op == 7) = false := by rw [beq_eq_false_iff_ne]; exact o7
        by_cases o1 : op = 1
        · have e1 : (op == 1) = true := by rw [beq_iff_eq]; exact o1
          have O1 := hid o1
          clear o1
          by_cases b0 : pickD x.b 3 = 0
          · have f0 : (pickD x.b 3 == 0) = true := by rw [beq_iff_eq]; exact b0
            go_wp2_with fail
            refine (picked_any _ 3 _ HQ2.out (by decide)).mono ?_
            rintro e w1 ⟨rfl, rfl⟩
            go_wp2_with fail
            refine (picked_any _ 40 _ HQ3.out (by decide)).mono ?_
            rintro e w1 ⟨rfl, rfl⟩
            go_wp2_with fail
            go_meet
            exact ⟨by rw [HD.out, if_neg o7, if_pos ⟨O1.out, b0⟩], rfl⟩
          have f0 : (pickD x.b 3 == 0) = false := by rw [beq_eq_false_iff_ne]; exact b0
          by_cases b1 : pickD x.b 3 = 1
          · have f1 : (pickD x.b 3 == 1) = true := by rw [beq_iff_eq]; exact b1
            go_wp2_with fail
            refine (picked_any _ 3 _ HQ2.out (by decide)).mono ?_
            rintro e w1 ⟨rfl, rfl⟩
            go_wp2_with fail
            refine (picked_any _ 3 _ HQ2.out (by decide)).mono ?_
            rintro e w1 ⟨rfl, rfl⟩
            go_wp2_with fail
            refine (picked_any _ 16 _ HQ3.out (by decide)).mono ?_
            rintro e w1 ⟨rfl, rfl⟩
            go_wp2_with fail
            go_meet
            exact ⟨by rw [HD.out, if_neg o7, if_neg (fun h => b0 h.2), if_pos ⟨O1.out, b1⟩], rfl⟩
          have f1 : (pickD x.b 3 == 1) = false := by rw [beq_eq_false_iff_ne]; exact b1
          go_wp2_with fail
          refine (picked_any _ 3 _ HQ2.out (by decide)).mono ?_
          rintro e w1 ⟨rfl, rfl⟩
          go_wp2_with fail
          refine (picked_any _ 3 _ HQ2.out (by decide)).mono ?_
          rintro e w1 ⟨rfl, rfl⟩
          go_wp2_with fail
          go_meet
          exact ⟨by rw [HD.out, if_neg o7, if_neg (fun h => b0 h.2), if_neg (fun h => b1 h.2)], rfl⟩
        have e1 : (op == 1) = false := by rw [beq_eq_false_iff_ne]; exact o1
        go_wp2_with fail
        go_meet
        exact ⟨by rw [HD.out, if_neg o7, if_neg (fun h => o1 h.1), if_neg (fun h => o1 h.1)], rfl⟩
      case rest =>
      obtain ⟨rfl, rfl⟩ := hcut
      have ha0 := pickD_lo x.a (many := 4) (by decide)
      have ha1 := pickD_hi x.a (many := 4) (by decide)
      have hb0 := pickD_lo x.b (many := 4) (by decide)
      have hb1 := pickD_hi x.b (many := 4) (by decide)
      clear hwj hws hwt hwo HD r0 r1 s0 s1 t0 t1
      go_upto_region 14 with fail
      go_region_held3 (fun w' => w'.cell? ⟨wr.heap.size, 1, none⟩ = some (.int .i64 x.a) ∧ w'.cell? ⟨wr.heap.size, 2, none⟩ = some (.int .i64 x.b))
        (first | exact ⟨k1, k2⟩ | (refine ⟨?_, ?_⟩ <;> assumption) | exact ⟨cell_later (by go_grown) k1, cell_later (by go_grown) k2⟩)
        (first
          | (go_at_call 7; refine (picked_any _ _ _ ?hp (by decide)).mono ?_; (case hp => first | exact HQ1.out | exact HQ2.out); rintro e w' ⟨rfl, rfl⟩)
          | (go_at_call 52; refine (instr_any op _ _ _ _ ⟨by omega, ho9⟩ ⟨by omega, by omega⟩ ⟨by omega, by omega⟩).mono ?_; rintro e w' ⟨rfl, rfl⟩)
          | (refine step_append_lies _ rfl _ _ 38 rfl w.heap.size 3 i0 _ 1 8 Tryd.underlying38 hi0 hz0 hz1 hz2 rfl (by decide) _ (2 * i) (intCells ((l.take i).flatMap rawI)) rfl (ownsRow_below HO.out (by go_grown)) ⟨_, 0, none⟩ 2 2 [.int .i64 (op + 16 * pickD x.a 4 + 256 * pickD x.b 4), .int .i64 (argD x)] rfl rfl (news_new (by simp) #[_, _] _) (by simp [Value.oneCell']) (by decide) (by unfold maxLen; omega) (by omega) (by simp; omega) (wc.heap.size + 1) (by simp) ?_
             intro g cap' W' hrow hgrow hat _
             have s1 : W'.cell? ⟨wr.heap.size, 1, none⟩ = some (.int .i64 x.a) := hgrow.cell (cell_later (wx := wc.drew.alloc _) (by go_grown) k1) (fun e => no1 e.symm)
             have s2 : W'.cell? ⟨wr.heap.size, 2, none⟩ = some (.int .i64 x.b) := hgrow.cell (cell_later (wx := wc.drew.alloc _) (by go_grown) k2) (fun e => no1 e.symm)
             have HR := hid hrow
             have HG := hid hgrow
             clear hrow hgrow hat))
      all_goals
        go_wp2_with fail
        go_roundw
        case rel =>
          refine ⟨i + 1, by omega, by omega, by go_num, ?_, ?_⟩
          · show World.ownsRow _ _ _ _ _ (2 * i + 2) _
            rw [codeT_step HX.out, show intCells ((l.take i).flatMap rawI ++ rawI x) = intCells ((l.take i).flatMap rawI) ++ [.int .i64 (op + 16 * pickD x.a 4 + 256 * pickD x.b 4), .int .i64 (argD x)] by simp [intCells, rawI, insD, HP.out]]
            exact HR.out
          · exact (HB.out.trans (Below.mono (by go_grown) HB.out.size)).grown HG.out (by have := HB.out.size; simp; omega) (fun k hk => (HO.out.lt k hk).1)
        case measure => simp [intOf]; omega
    all_goals
      have HU : Hid (i = usedD l) := by show _ = _; have := HL.out; rw [usedD]; omega
      clear HC HK
      go_wp2_with fail
      go_loopw [5] (fun ov W => ∃ j : Nat, i ≤ j ∧ j ≤ 8 ∧ Hid (W.ownsRow w.heap.size 3 1 ov (2 * j) (intCells (codeT l i j))) ∧ Below w.heap.size w W) (fun ov _ => 16 - lenOf ov)
      case atStart => exact ⟨i, Nat.le_refl _, by omega, by rw [codeT_self]; exact HO, hb⟩
      case round =>
        obtain ⟨j, hij, hj8, hO, hB⟩ := hrel
        have hZ := hB.size
        obtain ⟨oa2, oc2, rfl, _⟩ := CellsAt.of_own hO.out
        by_cases hlt8 : j < 8
        · go_wp2_with fail
          refine (instr_any 8 0 0 0 _ (by omega) (by omega) (by omega)).mono ?_
          rintro e w' ⟨rfl, rfl⟩
          rw [show (8 : Int) + 16 * 0 + 256 * 0 = 8 from rfl]
          have HO2 := hid hO.out
          have HB2 := hid hB
          clear hO hB HO
          go_wp2_with (at_builtin; refine wpList_append_lies _ rfl _ _ 38 rfl w.heap.size 3 i0 _ 1 8 Tryd.underlying38 hi0 hz0 hz1 hz2 rfl (by decide) _ (2 * j) (intCells (codeT l i j)) rfl (ownsRow_below HO2.out (by go_grown)) ⟨wr.heap.size, 0, none⟩ 2 2 [.int .i64 8, .int .i64 0] rfl rfl (news_new (by simp) #[_, _] _) (by simp [Value.oneCell']) (by decide) ?c2 ?c3 ?c4 (wr.heap.size + 1) ?c5 ?_)
          case c2 => unfold maxLen; omega
          case c3 => omega
          case c4 => simp; omega
          case c5 => simp
          intro g cap' W' hrow hgrow hat _
          have HR := hid hrow
          have HG := hid hgrow
          clear hrow hgrow hat
          go_wp2_with fail
          go_roundw
          case rel =>
            refine ⟨j + 1, by omega, by omega, ?_, ?_⟩
            · show World.ownsRow _ _ _ _ _ (2 * j + 2) _
              rw [codeT_pad l hij, show intCells (codeT l i j ++ [8, 0]) = intCells (codeT l i j) ++ [.int .i64 8, .int .i64 0] by simp [intCells]]
              exact HR.out
            · exact (HB2.out.trans (Below.mono (by go_grown) HB2.out.size)).grown HG.out (by have := HB2.out.size; simp; omega) (fun k hk => (HO2.out.lt k hk).1)
          case measure => simp [lenOf]; omega
        · obtain rfl : j = 8 := by omega
          obtain ⟨g, c, hg, hg1, hg2⟩ := own_sixteen hO.out
          cases hg
          go_wp2_with fail
          go_ret
          exact ⟨g, oc2, rfl, by rw [codeD, ← HU.out]; exact hO.out, hB⟩

end Go.Proofs.YtehhhliiehhdjaaDoor
