/- host.Run answers what P5.1 says, at every argument, and changes none of them: the law returns true, its arguments read as they did; the card is tied. Condition: the library's tables start as the program's text lays them. -/
import Derived.Test.YtklbbjionoeofaaGreatDoorLiftD
import Derived.Test.YtklbbjionoeofaaGreatDoorGc
import Derived.Test.YtklbbjionoeofaaGreatDoorScriptOf
import Derived.Test.YtklbbjionoeofaaGreatDoorGv
import Derived.Test.YtklbbjionoeofaaGreatDoorHostAct3
import Derived.Test.YtklbbjionoeofaaGreatDoorSameMach
namespace Go.Proofs.YtklbbjionoeofaaGreatDoor
open Go.ChangeShapes Go.WideShapes Go.ChangeAt Go.RowKit

theorem actDoes_any (a : ActD) : ActDoes a := by
  by_cases hk : a.kind = 11
  · intro B h w HA hf hfc hT
    by_cases hb : a.pl < 0 ∨ (h.m.quotes.length : Int) ≤ a.pl
    · exact hostAct_bad B h a w HA hk hb
    · obtain ⟨kind, ae, af, ap, ar, an, afu⟩ := a
      obtain rfl : kind = 11 := hk
      simp only at hb
      obtain ⟨i, rfl⟩ : ∃ i : Nat, ap = i := ⟨ap.toNat, by omega⟩
      exact hostAct_check B h i ae af ar an afu w HA hf hfc (by omega)
  · exact actDoes (fun h => absurd h hk)
theorem hostRun_any (ta0 : Option Addr) (tc0 : Nat) (T : List ByteArray) (a : Option Addr) (cap n : Nat) (L : List ActD) (w : World) (hl : L.length = n) (hS : StrsAt w ta0 T) (hA : ActsAt w a L) (h1 : T.length * 16 ≤ 140737488351232) (h2 : n * 56 ≤ 140737488351232) (hT : Tab w) :
    Calls Tryz.prog 4 #[.slice ta0 T.length tc0, .slice a n cap] w (RunsRes w.heap.size (scriptD T L) w) :=
  hostRun_of ta0 tc0 T a cap n L w hl hS hA h1 h2 hT (fun a _ => actDoes_any a)
def ActD.cs (a : ActD) : List Value := [.int .i64 a.kind, .int .i64 a.e, .int .i64 a.f, .int .i64 a.pl, .int .i64 a.rights, .int .i64 a.n, .int .i64 a.fuel]
theorem ActD.cs_len (x : ActD) : x.cs.length = 7 := rfl
theorem infoActs : (Tryz.prog.info? 48).map (fun i => (i.zero, i.size, i.bytes)) = some (some (.agg #[.int .i64 0, .int .i64 0, .int .i64 0, .int .i64 0, .int .i64 0, .int .i64 0, .int .i64 0]), 7, 56) := by kernel_rfl
theorem actCs_one (l : List ActD) : ∀ u ∈ l.flatMap ActD.cs, u.oneCell' = true := fun u hu => by
  obtain ⟨x, _, hx⟩ := List.mem_flatMap.1 hu
  simp only [ActD.cs, List.mem_cons, List.not_mem_nil, or_false] at hx
  rcases hx with rfl | rfl | rfl | rfl | rfl | rfl | rfl <;> rfl
theorem actCs_len (l : List ActD) : (l.flatMap ActD.cs).length = l.length * 7 := by
  induction l with
  | nil => rfl
  | cons x l ih => rw [List.flatMap_cons, List.length_append, ih, ActD.cs_len, List.length_cons]; omega
theorem acts_of_cells {w : World} {a : Option Addr} {l : List ActD} (h : CellsAt w a (l.flatMap ActD.cs)) : ActsAt w a l := fun i x hx => by
  have g := fun j hj => flat_get ActD.cs 7 ActD.cs_len l i j hj
  obtain ⟨b, off, rfl, h0⟩ := h (i * 7 + 0) (.int .i64 x.kind) (by rw [g 0 (by decide), hx]; rfl)
  have k := fun (j : Nat) (u : Value) (hu : (l.flatMap ActD.cs)[i * 7 + j]? = some u) => (show (World.cell? w ⟨b, off + i * 7 + j, none⟩ = some u) from by
    obtain ⟨b1, off1, e1, h1⟩ := h (i * 7 + j) u hu
    cases e1
    rw [Nat.add_assoc]; exact h1)
  exact ⟨b, off, rfl, h0, k 1 _ (by rw [g 1 (by decide), hx]; rfl), k 2 _ (by rw [g 2 (by decide), hx]; rfl), k 3 _ (by rw [g 3 (by decide), hx]; rfl), k 4 _ (by rw [g 4 (by decide), hx]; rfl),
    k 5 _ (by rw [g 5 (by decide), hx]; rfl), k 6 _ (by rw [g 6 (by decide), hx]; rfl)⟩

theorem neqAns (a x : Int) (w : World) : (binOp .neq 39 (.agg #[.int .i64 a, .int .i64 x]) (.agg #[.int .i64 a, .int .i64 x])).run Tryz.prog w = .ok (.bool false) w := by
  have hS : Tryz.prog.underlying 39 = some (.struct (Tryz.prog.fieldsOf 39)) := by kernel_rfl
  have hp : Tryz.prog.stoodInHeld 39 = false := by kernel_rfl
  have u3 := Tryz.underlying3
  have a3 := Tryz.isAgg3
  have z3 := Tryz.sizeOf3
  rw [run_neq_struct, show (10000 : Nat) = 9999 + 1 from rfl, run_equalIn_agg w 9999 39 _ _ hS hp]
  simp only [Program.fieldsOf, Tryz.underlying39]
  go_simp

theorem ActsAt.cells {w : World} {a : Option Addr} {l : List ActD} (h : ActsAt w a l) : CellsAt w a (l.flatMap ActD.cs) := fun m u hm => by
  obtain ⟨i, x, j, hx, hj, rfl, hu⟩ := flat_find ActD.cs 7 ActD.cs_len (by decide) l m u hm
  obtain ⟨b, off, ha, h0, h1, h2, h3, h4, h5, h6⟩ := h i x hx
  refine ⟨b, off, ha, ?_⟩
  rw [← Nat.add_assoc]
  match j, hj, hu with
  | 0, _, hu => rw [← hu]; exact h0
  | 1, _, hu => rw [← hu]; exact h1
  | 2, _, hu => rw [← hu]; exact h2
  | 3, _, hu => rw [← hu]; exact h3
  | 4, _, hu => rw [← hu]; exact h4
  | 5, _, hu => rw [← hu]; exact h5
  | 6, _, hu => rw [← hu]; exact h6
theorem strs_own {W : World} {b n c : Nat} {t : TypeId} {g : Option Addr} {T : List ByteArray} (h : W.ownsRow b t 1 (.slice g n c) n (strCells T)) : StrsAt W g T := by
  obtain ⟨a3, c3, e3, h3⟩ := CellsAt.of_own h
  obtain ⟨rfl, _, _⟩ := Value.slice.inj e3
  exact h3.strs
theorem acts_own {W : World} {b n c : Nat} {t : TypeId} {g : Option Addr} {L : List ActD} (h : W.ownsRow b t 7 (.slice g n c) n (L.flatMap ActD.cs)) : ActsAt W g L := by
  obtain ⟨a3, c3, e3, h3⟩ := CellsAt.of_own h
  obtain ⟨rfl, _, _⟩ := Value.slice.inj e3
  exact acts_of_cells h3
theorem ans_own {W : World} {b n c : Nat} {t : TypeId} {g : Option Addr} {X : List AnsD} (h : W.ownsRow b t 2 (.slice g n c) n (X.flatMap AnsD.cs)) : AnsAt W g X := by
  obtain ⟨a3, c3, e3, h3⟩ := CellsAt.of_own h
  obtain ⟨rfl, _, _⟩ := Value.slice.inj e3
  exact h3.ans

theorem script_fits (T : List ByteArray) (L : List ActD) (hT : T.length * 16 ≤ 140737488351232) : (scriptD T L).m.Fits ∧ (scriptD T L).c.Fits := by
  unfold scriptD
  split
  · exact ⟨⟨by simp [mach0], by simp [mach0], by simp [mach0], by simp [mach0]⟩, ⟨by simp [chal0], by simp [chal0]⟩⟩
  · exact actsD_fits (h := ⟨newD, ⟨T, []⟩⟩) L ⟨newD_fits, ⟨by simpa using hT, by simp⟩⟩
theorem script_len (T : List ByteArray) (L : List ActD) : (scriptD T L).x.length ≤ L.length := by
  unfold scriptD
  split
  · exact Nat.zero_le _
  · exact Nat.le_of_eq (actsD_len _ _)

section
variable {H : Type} {enc : TypeId × Value → H} {w : World}
theorem cAct : Tryz.prog.cellsOf 48 = 7 := by kernel_rfl
theorem bAct : Tryz.prog.bytesOf 48 = 56 := by kernel_rfl
set_option maxRecDepth 100000 in
theorem rd_acts {cs : List Value} (h : Rd enc Tryz.prog w 23 cs) : ∃ a l cap, cs = [.slice a (List.length l) cap] ∧ l.length * 56 ≤ 140737488351232 ∧ ActsAt w a l := by
  obtain ⟨a, n, cap, rfl, hcap, hz, hi⟩ := h.slice Tryz.underlying23 (by rw [cAct]; decide)
  obtain ⟨l, hl, hr⟩ := choose_list (R := fun i (x : ActD) => (∃ b off, a = some ⟨b, off, none⟩ ∧ w.cell? ⟨b, off + i * 7, none⟩ = some (.int .i64 x.kind) ∧ w.cell? ⟨b, off + i * 7 + 1, none⟩ = some (.int .i64 x.e) ∧
    w.cell? ⟨b, off + i * 7 + 2, none⟩ = some (.int .i64 x.f) ∧ w.cell? ⟨b, off + i * 7 + 3, none⟩ = some (.int .i64 x.pl) ∧ w.cell? ⟨b, off + i * 7 + 4, none⟩ = some (.int .i64 x.rights) ∧
    w.cell? ⟨b, off + i * 7 + 5, none⟩ = some (.int .i64 x.n) ∧ w.cell? ⟨b, off + i * 7 + 6, none⟩ = some (.int .i64 x.fuel))) fun i him => by
    obtain ⟨b, off, cs', ha, hcl, hc, hx⟩ := hi i him
    rw [cAct] at hcl hc
    match cs', hcl with
    | [u0, u1, u2, u3, u4, u5, u6], _ =>
      obtain ⟨x0, e0, _⟩ := (rd_field1 Tryz.underlying48 hx 0 rfl cInt u0 rfl).int Tryz.underlying3
      obtain ⟨x1, e1, _⟩ := (rd_field1 Tryz.underlying48 hx 1 rfl cInt u1 rfl).int Tryz.underlying3
      obtain ⟨x2, e2, _⟩ := (rd_field1 Tryz.underlying48 hx 2 rfl cInt u2 rfl).int Tryz.underlying3
      obtain ⟨x3, e3, _⟩ := (rd_field1 Tryz.underlying48 hx 3 rfl cInt u3 rfl).int Tryz.underlying3
      obtain ⟨x4, e4, _⟩ := (rd_field1 Tryz.underlying48 hx 4 rfl cInt u4 rfl).int Tryz.underlying3
      obtain ⟨x5, e5, _⟩ := (rd_field1 Tryz.underlying48 hx 5 rfl cInt u5 rfl).int Tryz.underlying3
      obtain ⟨x6, e6, _⟩ := (rd_field1 Tryz.underlying48 hx 6 rfl cInt u6 rfl).int Tryz.underlying3
      cases e0; cases e1; cases e2; cases e3; cases e4; cases e5; cases e6
      have g := fun (j : Nat) (u : Value) (hu : [Value.int .i64 x0, .int .i64 x1, .int .i64 x2, .int .i64 x3, .int .i64 x4, .int .i64 x5, .int .i64 x6][j]? = some u) => (show World.cell? w ⟨b, off + i * 7 + j, none⟩ = some u from by have := hc j u hu; rw [← Nat.add_assoc] at this; exact this)
      exact ⟨⟨x0, x1, x2, x3, x4, x5, x6⟩, b, off, ha, hc 0 _ rfl, g 1 _ rfl, g 2 _ rfl, g 3 _ rfl, g 4 _ rfl, g 5 _ rfl, g 6 _ rfl⟩
  rw [bAct, reach_eq] at hz
  subst hl
  exact ⟨a, l, cap, rfl, hz, fun i x hx => hr i x hx⟩
end

set_option maxRecDepth 10000 in
set_option maxHeartbeats 4800000 in
theorem hostRuns_calls (ta0 : Option Addr) (tc0 : Nat) (T : List ByteArray) (a : Option Addr) (cap n : Nat) (L : List ActD) (w : World) (hl : L.length = n) (hS : StrsAt w ta0 T) (hA : ActsAt w a L) (h1 : T.length * 16 ≤ 140737488351232) (h2 : n * 56 ≤ 140737488351232) (hT : Tab w) :
    Calls Tryz.prog 3 #[.slice ta0 T.length tc0, .slice a n cap] w fun e w' => e = .returned (.bool true) ∧ Below w.heap.size w w' := by
  obtain ⟨s0, hs0, hy0, hy1, hy2⟩ := info_parts infoStrs
  obtain ⟨i0, hi0, hz0, hz1, hz2⟩ := info_parts infoActs
  have HS := hid hS
  have HA := hid hA
  have HL := hid hl
  have HT := hid hT
  have HFT := hid (script_fits T L h1)
  have HXL : Hid ((scriptD T L).x.length ≤ n) := by show _ ≤ _; rw [← hl]; exact script_len T L
  clear hS hA hl hT
  go_enter Tryz.func3, Tryz.ntmps3
  go_wp2_with (at_builtin; refine wpList_append_nil rfl _ _ 22 rfl 9 s0 _ 1 16 Tryz.underlying22 hs0 hy0 hy1 hy2 rfl (by decide) rfl ta0 T.length tc0 (strCells T) rfl (by simp [strCells]) HS.out.cells (strCells_one _) (by unfold maxLen; omega) (by omega) ?_)
  intro ga gc w1 hrow hgrow
  have HB1 := hid (below_grown hgrow)
  have HG1 := hid hrow
  clear hrow hgrow
  go_wp2_with (at_builtin; refine wpList_append_nil rfl _ _ 23 rfl 48 i0 _ 7 56 Tryz.underlying23 hi0 hz0 hz1 hz2 rfl (by decide) rfl a n cap (L.flatMap ActD.cs) rfl (by rw [actCs_len, HL.out]) (HA.out.mono HB1.out).cells (actCs_one _) (by unfold maxLen; omega) (by omega) ?_)
  intro ba bc w2 hrow hgrow
  have hb2 := below_grown hgrow
  have HB2 := hid (HB1.out.trans (hb2.mono HB1.out.size))
  have HGS : Hid (StrsAt w2 ga T) := (strs_own HG1.out).mono hb2
  have HGA : Hid (ActsAt w2 ba L) := acts_own hrow
  clear hrow hgrow hb2 HG1 HB1
  go_wp2_with fail
  refine (hostRun_any ga gc T ba bc n L _ HL.out HGS.out HGA.out h1 h2 (HT.out.mono HB2.out)).mono ?_
  rintro e w3 ⟨xv, mv, cv, rfl, hX, hM, hC, hb3⟩
  have HR := hid (refScript ta0 tc0 T a cap n L)
  generalize scriptD T L = R at *
  obtain ⟨X, M, C, E⟩ := R
  dsimp only at hX hM hC
  replace HFT : Hid (M.Fits ∧ C.Fits) := HFT
  replace HXL : Hid (X.length ≤ n) := HXL
  obtain ⟨xa, xc, rfl⟩ := own_slice hX
  obtain ⟨fa, fc, ea, ec, qa, qc, rfl⟩ := hM.parts
  obtain ⟨ta, tc, na, nc, rfl, -⟩ := hC.at
  have HX3 := hid (ans_own hX)
  have HM3 := hid hM
  have HC3 := hid hC
  have HB3 := hid (HB2.out.trans (hb3.mono HB2.out.size))
  clear hX hM hC hb3 HB2 HGS HGA HT
  go_upto_region 2 with fail
  refine act_gen (fun W => Below w.heap.size w W ∧ AnsAt W xa X ∧ MBox w3.heap.size fa fc ea ec qa qc M W ∧ CBx (w3.heap.size + 1) ta tc na nc C W)
    ⟨HB3.out.trans (Below.mono (by go_grown) HB3.out.size), HX3.out.mono (by go_grown), (MBox.new HM3.out).later (by go_grown), CBx.new (by simp) (HC3.out.below (by go_grown))⟩ ?_
  clear HB3 HX3 HM3 HC3
  generalize w3.heap.size = mb
  rintro W ⟨hb, hx, hm, hc⟩
  have HB := hid hb
  have HX := hid hx
  have HM := hid hm
  have HC := hid hc
  clear hb hx hm hc
  go_wp2_with fail
  refine (HR.out _ HL.out (HS.out.mono HB.out) (HA.out.mono HB.out) h1 h2).mono ?_
  rintro e w4 ⟨yv, mv, cv, rfl, hY, hM, hC, hb4⟩
  dsimp only at hY hM hC
  obtain ⟨ya, yc, rfl⟩ := own_slice hY
  obtain ⟨fa2, fc2, ea2, ec2, qa2, qc2, rfl⟩ := hM.parts
  obtain ⟨ta2, tc2, na2, nc2, rfl, -⟩ := hC.at
  have HY4 := hid (ans_own hY)
  have HM4 := hid hM
  have HC4 := hid hC
  have HX4 := hid (HX.out.mono hb4)
  have HMB4 := hid (HM.out.later hb4)
  have HCB4 := hid (HC.out.later hb4)
  have HB4 := hid (HB.out.trans (hb4.mono HB.out.size))
  clear hY hM hC hb4 HB HX HM HC HR HS HA HL
  go_upto_region 3 with fail
  refine act_gen (fun W => Below w.heap.size w W ∧ AnsAt W xa X ∧ AnsAt W ya X ∧ MBox mb fa fc ea ec qa qc M W ∧ CBx (mb + 1) ta tc na nc C W ∧ MBox w4.heap.size fa2 fc2 ea2 ec2 qa2 qc2 M W ∧ CBx (w4.heap.size + 1) ta2 tc2 na2 nc2 C W)
    ⟨HB4.out.trans (Below.mono (by go_grown) HB4.out.size), HX4.out.mono (by go_grown), HY4.out.mono (by go_grown), HMB4.out.later (by go_grown), HCB4.out.later (by go_grown), (MBox.new HM4.out).later (by go_grown), CBx.new (by simp) (HC4.out.below (by go_grown))⟩ ?_
  clear HB4 HX4 HY4 HM4 HC4 HMB4 HCB4
  generalize w4.heap.size = nb
  rintro W ⟨hb, hx, hy, hm, hc, hm2, hc2⟩
  have m0 := hm.c0
  have m1 := hm.c1
  have m2 := hm.c2
  have c0 := hc.c0
  have c1 := hc.c1
  have n0 := hm2.c0
  have n1 := hm2.c1
  have n2 := hm2.c2
  have d0 := hc2.c0
  have d1 := hc2.c1
  have HB := hid hb
  have HX := hid hx
  have HY := hid hy
  have HM := hid hm.at
  have HM2 := hid hm2.at
  have HC := hid hc.c.at
  have HC2 := hid hc2.c.at
  clear hb hx hy hm hc hm2 hc2
  go_wp2_with fail
  refine (sameMachine _ _ M _ HFT.out.1 HM.out HM2.out).mono ?_
  rintro e w5 ⟨rfl, hb5⟩
  replace c0 := cell_later hb5 c0
  replace c1 := cell_later hb5 c1
  replace d0 := cell_later hb5 d0
  replace d1 := cell_later hb5 d1
  replace HB := hid (HB.out.trans (hb5.mono HB.out.size))
  replace HX := hid (HX.out.mono hb5)
  replace HY := hid (HY.out.mono hb5)
  replace HC := hid (HC.out.mono hb5)
  replace HC2 := hid (HC2.out.mono hb5)
  clear hb5 m0 m1 m2 n0 n1 n2 HM HM2
  go_wp2_with fail
  refine (sameChallenger _ _ C _ HFT.out.2 HC.out HC2.out).mono ?_
  rintro e w6 ⟨rfl, hb6⟩
  replace HB := hid (HB.out.trans (hb6.mono HB.out.size))
  replace HX := hid (HX.out.mono hb6)
  replace HY := hid (HY.out.mono hb6)
  clear hb6 c0 c1 d0 d1 HC HC2
  obtain ⟨k, hk⟩ : ∃ k, X.length = k := ⟨_, rfl⟩
  have HK := hid hk
  have hkn : k ≤ n := by rw [← hk]; exact HXL.out
  have hkm : k ≤ 9223372036854775807 := by omega
  rw [hk]
  clear hk hkn HXL
  go_wp2_with fail
  go_loopw [13] (fun j W' => ∃ i : Nat, i ≤ k ∧ j = .int .i64 i ∧ Below w6.heap.size w6 W') (fun j _ => k - (intOf j).toNat)
  case atStart => exact ⟨0, by omega, rfl, Below.refl _ _⟩
  case round =>
    obtain ⟨i, hi, rfl, hb⟩ := hrel
    by_cases hlt : i < k
    · obtain ⟨x, hx⟩ : ∃ x, X[i]? = some x := ⟨_, List.getElem?_eq_getElem (by rw [HK.out]; exact hlt)⟩
      obtain ⟨ab, ao, rfl, k0, k1⟩ := HX.out.mono hb i x hx
      obtain ⟨bb, bo, rfl, l0, l1⟩ := HY.out.mono hb i x hx
      clear hx
      have hi0 : (0 : Int) ≤ (i : Int) := Int.natCast_nonneg _
      have hi1 : (i : Int) < (k : Int) := by omega
      have hne := fun w => neqAns x.code x.n w
      go_wp2_with fail
      go_quiet (fail)
      go_wp2_with fail
      go_roundw
      case rel => exact ⟨i + 1, by omega, by go_num, below_drewN hb _⟩
      case measure => simp [intOf]; omega
    · obtain rfl : i = k := by omega
      have hi' : ¬ (i : Int) < (i : Int) := by omega
      go_wp2_with fail
      go_ret
      exact ⟨rfl, HB.out.trans (hb.mono HB.out.size)⟩
set_option maxRecDepth 100000 in
theorem hostRuns_args {H : Type} {enc : TypeId × Value → H} (W : World) (b0 : Nat) (args : Array Value) (hT : Tab W) (hs : args.size = (Tryz.f3).params.size)
    (ha : ∀ (j : Nat) t v, (Tryz.f3).params[j]? = some t → args[j]? = some v → Value.okWide Tryz.prog W .any b0 t v ∧ Rd enc Tryz.prog W t v.cells.toList) :
    Calls Tryz.prog 3 args W fun e w' => e = .returned (.bool true) ∧ Below W.heap.size W w' := by
  obtain ⟨l⟩ := args
  match l, hs with
  | [v, v1], _ =>
    obtain ⟨h1, h2⟩ := ha 0 _ v rfl rfl
    obtain ⟨ta, T, tc, e, hz, rT, _⟩ := rd_strs h2
    obtain rfl : v = .slice ta T.length tc := by
      have := rd_slice_v Tryz.underlying22 h1
      rw [this] at e
      exact (List.cons.inj e).1
    obtain ⟨h3, h4⟩ := ha 1 _ v1 rfl rfl
    obtain ⟨a, L, c, e2, hz2, rL⟩ := rd_acts h4
    obtain rfl : v1 = .slice a L.length c := by
      have := rd_slice_v Tryz.underlying23 h3
      rw [this] at e2
      exact (List.cons.inj e2).1
    exact hostRuns_calls ta tc T a c L.length L W rfl rT rL hz hz2 hT

set_option maxRecDepth 100000 in
theorem hostRuns_lifted (os : Os) (started : os.Started) (H : Type) (enc : TypeId × Value → H) :
    ReturnsInHanded {} Tryz.checked os 3 .any (fun w args => (Rows.hostRunsSpec.pre enc Tryz.prog Tryz.f3 [] false w args ∧ laidMetH Tryz.prog Rows.hostRunsRow.laid w) ∧ sizedMet enc Tryz.prog Tryz.f3 (OpenSpec.ofChange Rows.hostRunsSpec) false w args)
      (Rows.hostRunsSpec.post enc Tryz.prog Tryz.f3 false true false false) := by
  refine returnsInHanded_of_change_and (C := Tryz.checked) (X := fun w _ => laidMetH Tryz.prog Rows.hostRunsRow.laid w) (fun _ _ _ hh h => h.of_heap hh) own started (by kernel_rfl) Tryz.func3
    (ChangeSpec.witness_shaped (enc := enc) (C := Tryz.checked) (os := os) (X := fun w _ => laidMetH Tryz.prog Rows.hostRunsRow.laid w) false (World.doorLaid Tryz.prog doorSteps os) #[.slice none 0 0, .slice none 0 0] 8 rfl (World.shaped_of_RefB (by kernel_rfl) (by kernel_rfl)) (by kernel_rfl) (by kernel_rfl) (by kernel_rfl) (door_met os _)) ?_
  intro W base args ds gs before hval hW _ hsz hL _
  exact law_contract laidOut (by kernel_rfl) rfl Tryz.underlying4 rfl (fun ds h => by
    match ds, h with
    | [_, _], _ => exact ⟨rfl, rfl, rfl⟩) hval hW hsz fun hs ha => hostRuns_args W base args (tab_of_laid hL) hs ha

theorem hostRuns_row : Rows.HostRunsSaid :=
  OpenClaim.holds_of_wide 3 Tryz.f3 rfl rfl rfl rfl rfl rfl rfl ⟨rfl, rfl, rfl, rfl, rfl⟩ rfl rfl rfl rfl rfl (by kernel_rfl) Tryz.func3 (by kernel_rfl)
    (of_decide_eq_true (by kernel_rfl)) (by unfold Func.isWrapper; first | (rw [if_pos (by decide +kernel)]; kernel_rfl) | (rw [if_neg (by decide +kernel)]; exact ⟨rfl, rfl⟩))
    (fun os started H enc _ => hostRuns_lifted os started H enc)

theorem hostRuns_holds : Rows.HostRunsCardSaid :=
  Claim7.holds_tied_plain_at .later [] [.data, .data, .data] true _ false
    hostRuns_row (fun _ h => by cases h) (by kernel_rfl) (fun _ h => by cases h) hostRuns_row_tie rfl ⟨rfl, rfl⟩ (by kernel_rfl) rfl
    (fun f fn hf hfn => by
      obtain rfl : f = 3 := Option.some.inj ((show Tryz.prog.funcNamed Rows.hostRunsRow.func = some 3 by kernel_rfl).symm.trans hf) |>.symm
      obtain rfl : fn = Tryz.f3 := (Option.some.inj (Tryz.func3.symm.trans hfn)).symm
      exact ⟨by kernel_rfl, fun j t ht => by
        have hm : t ∈ (Tryz.f3).params.toList := by simpa using Array.mem_of_getElem? ht
        have hall : ((Tryz.f3).params.toList.all fun u => !Tryz.prog.wantsStandIn u) = true := by kernel_rfl
        exact (show Tryz.prog.wantsStandIn t = false by simpa using List.all_eq_true.1 hall t hm)⟩)
    (by kernel_rfl)


end Go.Proofs.YtklbbjionoeofaaGreatDoor
