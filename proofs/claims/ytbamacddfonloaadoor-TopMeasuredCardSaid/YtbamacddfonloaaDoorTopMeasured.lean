/- Who is measured as expected has just the pages that are expected, whatever who owns the machine did: the law returns true at all raw things, cuts and places; its arguments read as they did; the card is tied. Condition: the library's tables start as the program's text lays them. -/
import Derived.Test.YtbamacddfonloaaDoorLiftD
import Derived.Test.YtbamacddfonloaaDoorGc
import Derived.Test.YtbamacddfonloaaDoorGw
import Derived.Test.YtbamacddfonloaaDoorGz
import Derived.Test.YtbamacddfonloaaDoorGy
import Derived.Test.YtbamacddfonloaaDoorActs
import Derived.Test.YtbamacddfonloaaDoorGx
import Derived.Deep.CutBlock
import Derived.Deep.RegionHeld3
namespace Go.Proofs.YtbamacddfonloaaDoor
open Go.ChangeShapes Go.WideShapes Go.ChangeAt Go.RowKit

theorem mach_encls {W : World} {fa ea qa : Option Addr} {fn fc en ec qn qc : Nat} {M : MachD} (h : MachAt W (.agg #[.slice fa fn fc, .slice ea en ec, .slice qa qn qc]) M) : EnclsAt W ea M.encl := by
  obtain ⟨x0, x1, x2, x3, x4, x5, ex, _, hE, _⟩ := h
  simp only [Value.agg.injEq, Array.mk.injEq, List.cons.injEq, Value.slice.injEq, and_true] at ex
  obtain ⟨_, ⟨rfl, _, _⟩, _⟩ := ex
  exact hE
theorem CellsAt.new {W : World} {n : Nat} (hn : W.heap.size = n) (cs : Array Value) (t : TypeId) : CellsAt (W.alloc (.cells cs t)) (some ⟨n, 0, none⟩) cs.toList := fun j u hj => by
  have := news_new hn cs t j u hj
  rw [add_plain] at this
  exact ⟨n, 0, rfl, this⟩
theorem cells_drop {w : World} {a : Option Addr} {cs : List Value} (h : CellsAt w a cs) {b o : Nat} (he : a = some ⟨b, o, none⟩) (k : Nat) : CellsAt w (some ⟨b, o + k, none⟩) (cs.drop k) := fun j u hj => by
  subst he
  rw [List.getElem?_drop] at hj
  obtain ⟨b', o', e, hc⟩ := h (k + j) u hj
  obtain ⟨rfl, rfl, _⟩ := Addr.mk.inj (Option.some.inj e)
  exact ⟨_, _, rfl, by rw [Nat.add_assoc]; exact hc⟩
theorem cellsAt_take {w : World} {a : Option Addr} {cs : List Value} (h : CellsAt w a cs) (k : Nat) : CellsAt w a (cs.take k) := fun j u hj => by
  rw [List.getElem?_take] at hj
  split at hj
  · exact h j u hj
  · cases hj
theorem acts_take (l : List ActD) (k : Nat) : (l.take k).flatMap ActD.cs = (l.flatMap ActD.cs).take (k * 7) := by
  induction l generalizing k with
  | nil => simp
  | cons x l ih =>
    cases k with
    | zero => simp
    | succ k =>
      rw [List.take_succ_cons, List.flatMap_cons, List.flatMap_cons, ih, show (k + 1) * 7 = x.cs.length + k * 7 by rw [ActD.cs_len]; omega, List.take_length_add_append]
theorem acts_drop (l : List ActD) (k : Nat) : (l.drop k).flatMap ActD.cs = (l.flatMap ActD.cs).drop (k * 7) := by
  induction l generalizing k with
  | nil => simp
  | cons x l ih =>
    cases k with
    | zero => simp
    | succ k =>
      rw [List.drop_succ_cons, List.flatMap_cons, ih, show (k + 1) * 7 = x.cs.length + k * 7 by rw [ActD.cs_len]; omega, List.drop_length_add_append]
/-- The place from which on the image lies. -/
theorem place10 (f : Int) : ∃ fr : Nat, pickD f 10 = fr ∧ fr ≤ 9 := ⟨(pickD f 10).toNat, by have := pickD_lo f (many := 10) (by decide); omega, by have := pickD_hi f (many := 10) (by decide); omega⟩
/-- The enclaves that are measured as expected, behind the script. -/
def FinM (L : List PageD) (M : MachD) : Prop := Good M ∧ ∀ (k : Nat) (y : EnclD), M.encl[k]? = some y → y.state = 2 → y.log = bytesOf (expectL L) → HasD M ((k : Int) + 1) L
theorem fin_of {L : List PageD} (hL : imageF L = 0) {K : List ActD} (hK : ∀ a ∈ K, OwnAct a) : FinM L (actsD ⟨newD, ⟨[], []⟩⟩ K).1.m :=
  ⟨(meas_ends hK).1, fun _ _ hy hs hl => meas_has (meas_ends hK).1 (meas_ends hK).2 hL hy hs hl⟩

theorem toList_inj {a b : ByteArray} (h : a.toList = b.toList) : a = b := by
  rw [ByteArray.toList_eq, ByteArray.toList_eq] at h
  rw [← bytesOf_data a, h, bytesOf_data]
/-- What the operations of the region that runs the script leave. -/
def RowV (l : List ActD) (v : Value) (w : World) : Prop := ∃ a c, v = .slice a l.length c ∧ CellsAt w a (l.flatMap ActD.cs)
theorem RowV.later {l : List ActD} {v : Value} {w w' : World} (h : RowV l v w) (hb : Below w.heap.size w w') : RowV l v w' := by
  obtain ⟨a, c, e, hc⟩ := h
  exact ⟨a, c, e, hc.mono hb⟩
def FourV (l : List ActD) (v : Value) (w : World) : Prop := ∃ b K, v = .slice (some ⟨b, 0, none⟩) 4 4 ∧ List.length K = 4 ∧ K.flatMap RowA.l = l ∧ CellsAt w (some ⟨b, 0, none⟩) (K.map RowA.v) ∧ ∀ p ∈ K, CellsAt w p.a (p.l.flatMap ActD.cs)
theorem FourV.later {l : List ActD} {v : Value} {w w' : World} (h : FourV l v w) (hb : Below w.heap.size w w') : FourV l v w' := by
  obtain ⟨b, K, e, h1, h2, h3, h4⟩ := h
  exact ⟨b, K, e, h1, h2, h3.mono hb, fun p hp => (h4 p hp).mono hb⟩
def TupM (M : MachD) (C : ChalD) (v : Value) (w : World) : Prop := ∃ xv fa fc ea ec qa qc ta tc na nc, v = .tuple #[xv, .agg #[.slice fa M.frames.length fc, .slice ea M.encl.length ec, .slice qa M.quotes.length qc], .agg #[.slice ta C.trusts.length tc, .slice na C.nonces.length nc], .int .i64 0] ∧ MachFrom 0 w (.agg #[.slice fa M.frames.length fc, .slice ea M.encl.length ec, .slice qa M.quotes.length qc]) M
theorem TupM.later {M : MachD} {C : ChalD} {v : Value} {w w' : World} (h : TupM M C v w) (hb : Below w.heap.size w w') : TupM M C v w' := by
  obtain ⟨xv, fa, fc, ea, ec, qa, qc, ta, tc, na, nc, e, hM⟩ := h
  exact ⟨xv, fa, fc, ea, ec, qa, qc, ta, tc, na, nc, e, hM.below hb⟩
structure ZBox (b : Nat) (w : World) : Prop where
  c0 : w.cell? ⟨b, 0, none⟩ = some (.slice none 0 0)
  c1 : w.cell? ⟨b, 1, none⟩ = some (.slice none 0 0)
  cz : ∀ o, w.frozen? ⟨b, o, none⟩ = false
  bt : BlkT w b 43
theorem ZBox.later {b : Nat} {w w' : World} (h : ZBox b w) (hb : Below w.heap.size w w') : ZBox b w' :=
  ⟨cell_later hb h.c0, cell_later hb h.c1, fun o => by rw [(bcell hb).2 _ _ (World.block_lt_of_cell? w _ h.c0)]; exact h.cz o, h.bt.below hb⟩
def measG (lo : Nat) (pv : Value) (k : Nat) (bv dv : Value) (Pl A1 A2 : List ActD) (M : MachD) (C : ChalD) : Nat → Value → World → Prop
  | 0, v, _ => v = pv
  | 1, v, _ => v = .int .i64 k
  | 2, v, w => RowV (Pl.take k) v w
  | 3, v, _ => v = bv
  | 4, v, w => RowV A1 v w
  | 5, v, _ => v = pv
  | 6, v, _ => v = .int .i64 k
  | 7, v, w => RowV (Pl.drop k) v w
  | 8, v, _ => v = dv
  | 9, v, w => RowV A2 v w
  | 10, v, w => FourV (measL Pl k A1 A2) v w
  | 11, v, w => RowV (measL Pl k A1 A2) v w
  | 12, v, w => TupM M C v w
  | 13, v, w => TupM M C v w
  | 15, v, w => ∃ fa fc ea ec qa qc, v = .agg #[.slice fa M.frames.length fc, .slice ea M.encl.length ec, .slice qa M.quotes.length qc] ∧ MachFrom 0 w (.agg #[.slice fa M.frames.length fc, .slice ea M.encl.length ec, .slice qa M.quotes.length qc]) M
  | 16, v, _ => ∃ ta tc na nc, v = .agg #[.slice ta C.trusts.length tc, .slice na C.nonces.length nc]
  | 17, v, _ => v = .int .i64 0
  | 18, v, w => ∃ b, v = .pointer (some ⟨b, 0, none⟩) ∧ lo ≤ b ∧ MBox b none 0 none 0 none 0 mach0 w
  | 19, v, w => ∃ b, v = .pointer (some ⟨b, 0, none⟩) ∧ lo ≤ b ∧ ZBox b w
  | _, _, _ => True
theorem measG_later {lo : Nat} {pv : Value} {k : Nat} {bv dv : Value} {Pl A1 A2 : List ActD} {M : MachD} {C : ChalD} (i : Nat) (v : Value) (w w' : World) (hb : Below w.heap.size w w') (h : measG lo pv k bv dv Pl A1 A2 M C i v w) : measG lo pv k bv dv Pl A1 A2 M C i v w' := by
  match i, h with
  | 0, h | 1, h | 3, h | 5, h | 6, h | 8, h | 14, h | 16, h | 17, h => exact h
  | 2, h | 4, h | 7, h | 9, h | 11, h => exact RowV.later h hb
  | 10, h => exact FourV.later h hb
  | 12, h | 13, h => exact TupM.later h hb
  | 15, ⟨fa, fc, ea, ec, qa, qc, e, hM⟩ => exact ⟨fa, fc, ea, ec, qa, qc, e, hM.below hb⟩
  | 18, ⟨b, e, h0, hM⟩ => exact ⟨b, e, h0, hM.later hb⟩
  | 19, ⟨b, e, h0, hM⟩ => exact ⟨b, e, h0, hM.later hb⟩
  | _ + 20, h => exact h

set_option maxRecDepth 10000 in
set_option maxHeartbeats 8000000 in
theorem topMeasured_calls (a : Option Addr) (l : List RawD) (n c : Nat) (r : RawD) (ba : Option Addr) (bl : List RawD) (bn bc : Nat) (da : Option Addr) (dl : List RawD) (dn dc : Nat) (cut frame : Int) (w : World) (hn : l.length = n) (hl : n * 32 ≤ 140737488351232) (ha : RawsAt w a l)
    (kl : ∀ x ∈ l, x.Ok) (hr : r.Ok) (hbn : bl.length = bn) (hbl : bn * 32 ≤ 140737488351232) (hba : RawsAt w ba bl) (kb : ∀ x ∈ bl, x.Ok) (hdn : dl.length = dn) (hdl : dn * 32 ≤ 140737488351232) (hda : RawsAt w da dl) (kd : ∀ x ∈ dl, x.Ok) (hc : Is64 cut) (hf : Is64 frame) (hT : Tab w) :
    Calls Tryd.prog 8 #[.slice a n c, .agg #[.int .i64 r.kind, .int .i64 r.a, .int .i64 r.b, .int .i64 r.c], .slice ba bn bc, .slice da dn dc, .int .i64 cut, .int .i64 frame] w fun e w' => e = .returned (.bool true) ∧ Below w.heap.size w w' := by
  have HA := hid ha
  have HN := hid hn
  have HKL := hid kl
  have HR := hid hr
  have HBN := hid hbn
  have HBA := hid hba
  have HKB := hid kb
  have HDN := hid hdn
  have HDA := hid hda
  have HKD := hid kd
  have HC := hid hc
  have HF := hid hf
  have HT := hid hT
  have HG := hid (imageD_good l r)
  have hlen := (imageD_len l r).2
  clear ha hn kl hr hbn hba kb hdn hda kd hc hf hT
  go_enter Tryd.func8, Tryd.ntmps8
  go_wp2_with fail
  refine (keepImage a l n c r _ HN.out hl (HA.out.mono (by go_grown)) HKL.out HR.out).mono ?_
  rintro e w1 ⟨ia, ic, rfl, hI, hb1⟩
  have HB1 : Hid (Below w.heap.size w w1) := Below.trans (by go_grown) (hb1.mono (by go_size))
  have HI := hid hI
  clear hb1 hI
  generalize imageD l r = L at *
  have HFT := hid (good_fit HG.out)
  obtain ⟨fr, hfr, hfr9⟩ := place10 frame
  have HFR := hid hfr
  clear hfr
  go_wp2_with fail
  refine (picked2_any frame 10 _ HF.out (by decide)).mono ?_
  rintro e u ⟨rfl, hu⟩
  obtain rfl := hu.symm
  clear hu
  rw [HFR.out]
  go_wp2_with fail
  refine (imagePlan ia L L.length ic 1 fr _ rfl HFT.out HI.out HG.out (by omega) (by omega) (by omega)).mono ?_
  rintro e w2 ⟨pv, rfl, hP, hb2⟩
  obtain ⟨pa, pc, rfl, hPC⟩ := hP.row
  have HPO := hid (hP.mono HB1.out.size)
  have HB2 := hid (HB1.out.trans (hb2.mono HB1.out.size))
  have HI2 := hid (HI.out.mono hb2)
  clear hb2 hP hPC HB1 HI
  dsimp only
  go_wp2_with fail
  refine (imageExpect ia L L.length ic _ rfl HFT.out HI2.out (HT.out.mono HB2.out)).mono ?_
  rintro e w3 ⟨rfl, hb3⟩
  rw [expectD_good HG.out]
  have HB3 := hid (HB2.out.trans (hb3.mono HB2.out.size))
  have HI3 := hid (HI2.out.mono hb3)
  have HP3 := hid (HPO.out.below hb3)
  have hpl := plan_len HG.out hlen 1 fr
  obtain ⟨pl, hpln⟩ : ∃ pl, (planD L 1 fr).length = pl := ⟨_, rfl⟩
  have HPL := hid hpln
  rw [hpln] at hpl HP3 ⊢
  clear hb3 HB2 HI2 HPO hpln
  dsimp only
  obtain ⟨k, hk⟩ : ∃ k : Nat, pickD cut ((pl : Int) + 1) = k := ⟨(pickD cut ((pl : Int) + 1)).toNat, by have := pickD_lo cut (many := (pl : Int) + 1) (by omega); omega⟩
  have hkl : k ≤ pl := by have := pickD_hi cut (many := (pl : Int) + 1) (by omega); omega
  have HK := hid hk
  have hwp : IntKind.i64.wrap ((pl : Int) + 1) = (pl : Int) + 1 := by rw [IntKind.wrap_i64]; omega
  clear hk
  go_wp2_with fail
  refine (picked2_any cut ((pl : Int) + 1) _ HC.out (by omega)).mono ?_
  rintro e u ⟨rfl, hu⟩
  obtain rfl := hu.symm
  clear hu
  rw [HK.out]
  go_upto_region 5 with fail
  have hp0 : 0 < pl := by rw [← HPL.out]; simp only [planD, List.length_append, List.length_cons, List.length_nil]; omega
  have hOP := HP3.out
  unfold OwnActs at hOP
  rw [HPL.out] at hOP
  obtain ⟨pg, pc', ep, _, _⟩ := own_some hOP hp0
  obtain ⟨rfl, _, rfl⟩ := Value.slice.inj ep
  have hcap : pl ≤ pc ∧ pc ≤ maxLen := by
    rcases hOP.2 with ⟨h, _⟩ | ⟨g', cap, cur, h, _, _, h1, h2, _⟩
    · cases h
    · obtain ⟨_, _, rfl⟩ := Value.slice.inj h
      exact ⟨h1, h2⟩
  have hPC : Hid (CellsAt w3 (some ⟨pg, 0, none⟩) ((planD L 1 fr).flatMap ActD.cs)) := by
    obtain ⟨a3, c3, e3, h3⟩ := CellsAt.of_own hOP
    obtain ⟨rfl, _, _⟩ := Value.slice.inj e3
    exact h3
  have hpm : pc ≤ 9223372036854775807 := by have := hcap.2; unfold maxLen at this; omega
  have i1 : (k : Int) ≤ (pc : Int) := by have := hcap.1; omega
  have i2 : (k : Int) ≤ (pl : Int) := by omega
  have i3 : (pl : Int) ≤ (pc : Int) := by have := hcap.1; omega
  clear ep hOP hcap HP3
  refine wp_region_specs [46, 47, 48, 49, 50, 51, 52, 53, 54, 55, 56, 57, 58, 45, 59, 60, 61, 62, 20, 21] [15, 16, 17] 20 (measG w3.heap.size (.slice (some ⟨pg, 0, none⟩) pl pc) k (.slice ba bn bc) (.slice da dn dc) (planD L 1 fr) (actsOf bl 15 true) (actsOf dl 15 true)
      (actsD ⟨newD, ⟨[], []⟩⟩ (measL (planD L 1 fr) k (actsOf bl 15 true) (actsOf dl 15 true))).1.m (actsD ⟨newD, ⟨[], []⟩⟩ (measL (planD L 1 fr) k (actsOf bl 15 true) (actsOf dl 15 true))).1.c) (by kernel_rfl) (by kernel_rfl)
    (fun t ht => by simp only [List.mem_cons, List.not_mem_nil, or_false] at ht; show t < 105; omega) (fun _ _ _ _ _ h => h) measG_later ?_ ?_ ?_
  · intro i hi o ho a w2 hs hb hd
    simp only [List.mem_cons, List.not_mem_nil, or_false] at hi
    rcases hi with rfl | rfl | rfl
    all_goals
      obtain rfl := Option.some.inj ho
      obtain ⟨v, hv, xv, fa2, fc2, ea2, ec2, qa2, qc2, ta2, tc2, na2, nc2, rfl, hM⟩ := hd 13 (by kernel_rfl)
      have h45 : a.tmps[45]? = _ := hv
    · exact ⟨_, .inl ⟨rfl, fun w => by go_simp⟩, _, _, _, _, _, _, rfl, hM⟩
    · exact ⟨_, .inl ⟨rfl, fun w => by go_simp⟩, ta2, tc2, na2, nc2, rfl⟩
    · exact ⟨_, .inl ⟨rfl, fun w => by go_simp⟩, rfl⟩
  · intro i hi hiL o ho a w2 hs hb hd
    have hbW := (below_drew w3).trans hb
    have HBW := hid hbW
    rcases i with _ | _ | _ | _ | _ | _ | _ | _ | _ | _ | _ | _ | _ | _ | _ | _ | _ | _ | _ | _ | i
    all_goals try obtain rfl := Option.some.inj ho
    · have h14 : a.tmps[14]? = some (.slice (some ⟨pg, 0, none⟩) pl pc) := (hs.rest 14 (by decide)).trans rfl
      go_simp
      exact ⟨_, rfl, rfl, Below.refl _ _⟩
    · have h18 : a.tmps[18]? = some (.int .i64 k) := (hs.rest 18 (by decide)).trans rfl
      go_simp
      exact ⟨_, rfl, rfl, Below.refl _ _⟩
    · obtain ⟨v, hv, rfl⟩ := hd 0 (by kernel_rfl)
      obtain ⟨u, hu, rfl⟩ := hd 1 (by kernel_rfl)
      have h46 : a.tmps[46]? = _ := hv
      have h47 : a.tmps[47]? = _ := hu
      go_simp
      refine ⟨_, rfl, ⟨some ⟨pg, 0, none⟩, pc, ?_, ?_⟩, Below.refl _ _⟩
      · rw [List.length_take, HPL.out, Nat.min_eq_left hkl]
      · rw [acts_take]
        exact cellsAt_take (hPC.out.mono hbW) _
    · have h2 : a.tmps[2]? = some (.slice ba bn bc) := (hs.rest 2 (by decide)).trans rfl
      go_simp
      exact ⟨_, rfl, rfl, Below.refl _ _⟩
    · obtain ⟨v, hv, rfl⟩ := hd 3 (by kernel_rfl)
      have h49 : a.tmps[49]? = _ := hv
      go_simp
      refine (keepActs ba bl bn bc 15 true _ HBN.out hbl (HBA.out.mono (HB3.out.trans (HBW.out.mono HB3.out.size))) HKB.out (by decide)).mono ?_
      rintro e w7 ⟨av, rfl, hAv, hb7⟩
      obtain ⟨ra, rc, rfl, hRC⟩ := hAv.row
      exact ⟨_, rfl, ⟨ra, rc, rfl, hRC⟩, hb7⟩
    · have h14 : a.tmps[14]? = some (.slice (some ⟨pg, 0, none⟩) pl pc) := (hs.rest 14 (by decide)).trans rfl
      go_simp
      exact ⟨_, rfl, rfl, Below.refl _ _⟩
    · have h18 : a.tmps[18]? = some (.int .i64 k) := (hs.rest 18 (by decide)).trans rfl
      go_simp
      exact ⟨_, rfl, rfl, Below.refl _ _⟩
    · obtain ⟨v, hv, rfl⟩ := hd 5 (by kernel_rfl)
      obtain ⟨u, hu, rfl⟩ := hd 6 (by kernel_rfl)
      have h51 : a.tmps[51]? = _ := hv
      have h52 : a.tmps[52]? = _ := hu
      go_simp
      refine ⟨_, rfl, ⟨if pc = k then some ⟨pg, 0, none⟩ else some ⟨pg, k * 7, none⟩, pc - k, ?_, ?_⟩, Below.refl _ _⟩
      · rw [List.length_drop, HPL.out]
      · by_cases he : pc = k
        · rw [if_pos he]
          have hz : (planD L 1 fr).drop k = [] := List.drop_of_length_le (by rw [HPL.out]; omega)
          rw [hz]
          intro j u hj
          simp at hj
        · rw [if_neg he, acts_drop]
          have := cells_drop (hPC.out.mono hbW) rfl (k * 7)
          rw [Nat.zero_add] at this
          exact this
    · have h3 : a.tmps[3]? = some (.slice da dn dc) := (hs.rest 3 (by decide)).trans rfl
      go_simp
      exact ⟨_, rfl, rfl, Below.refl _ _⟩
    · obtain ⟨v, hv, rfl⟩ := hd 8 (by kernel_rfl)
      have h54 : a.tmps[54]? = _ := hv
      go_simp
      refine (keepActs da dl dn dc 15 true _ HDN.out hdl (HDA.out.mono (HB3.out.trans (HBW.out.mono HB3.out.size))) HKD.out (by decide)).mono ?_
      rintro e w7 ⟨av, rfl, hAv, hb7⟩
      obtain ⟨ra, rc, rfl, hRC⟩ := hAv.row
      exact ⟨_, rfl, ⟨ra, rc, rfl, hRC⟩, hb7⟩
    · obtain ⟨v2, hv2, a2, c2, rfl, r2⟩ := hd 2 (by kernel_rfl)
      obtain ⟨v4, hv4, a4, c4, rfl, r4⟩ := hd 4 (by kernel_rfl)
      obtain ⟨v7, hv7, a7, c7, rfl, r7⟩ := hd 7 (by kernel_rfl)
      obtain ⟨v9, hv9, a9, c9, rfl, r9⟩ := hd 9 (by kernel_rfl)
      have h48 : a.tmps[48]? = _ := hv2
      have h50 : a.tmps[50]? = _ := hv4
      have h53 : a.tmps[53]? = _ := hv7
      have h55 : a.tmps[55]? = _ := hv9
      have hK : [(⟨a2, c2, (planD L 1 fr).take k⟩ : RowA), ⟨a4, c4, actsOf bl 15 true⟩, ⟨a7, c7, (planD L 1 fr).drop k⟩, ⟨a9, c9, actsOf dl 15 true⟩].flatMap RowA.l = measL (planD L 1 fr) k (actsOf bl 15 true) (actsOf dl 15 true) := by simp [measL]
      generalize (planD L 1 fr).take k = T2 at h48 hK r2
      generalize (planD L 1 fr).drop k = T7 at h53 hK r7
      go_simp
      refine ⟨_, rfl, ⟨w2.heap.size, _, rfl, rfl, hK, CellsAt.new rfl _ _, ?_⟩, below_alloc _ _⟩
      intro p hp
      simp only [List.mem_cons, List.not_mem_nil, or_false] at hp
      rcases hp with rfl | rfl | rfl | rfl
      · exact r2.mono (below_alloc _ _)
      · exact r4.mono (below_alloc _ _)
      · exact r7.mono (below_alloc _ _)
      · exact r9.mono (below_alloc _ _)
    · obtain ⟨v, hv, b10, K, rfl, k1, k2, k3, k4⟩ := hd 10 (by kernel_rfl)
      have h56 : a.tmps[56]? = _ := hv
      go_simp
      refine (concatA _ K 4 4 _ k1 (by omega) k3 k4 (by rw [k2]; have := measL_len (fr := fr) (k := k) HG.out hlen (A := actsOf bl 15 true) (B := actsOf dl 15 true) (by rw [actsOf_len]; omega) (by rw [actsOf_len]; omega); omega)).mono ?_
      rintro e w7 ⟨ca, cc, rfl, hC, hb7⟩
      rw [k2] at hC ⊢
      obtain ⟨ra, rc, er, hRC⟩ := hC.row
      obtain ⟨rfl, _, rfl⟩ := Value.slice.inj er
      exact ⟨_, rfl, ⟨_, _, rfl, hRC⟩, hb7⟩
    · obtain ⟨v, hv, ra, rc, rfl, hRC⟩ := hd 11 (by kernel_rfl)
      have h57 : a.tmps[57]? = _ := hv
      have hml := measL_len (fr := fr) (k := k) HG.out hlen (A := actsOf bl 15 true) (B := actsOf dl 15 true) (by rw [actsOf_len]; omega) (by rw [actsOf_len]; omega)
      go_simp
      refine (hostRun none 0 [] ra rc _ (measL (planD L 1 fr) k (actsOf bl 15 true) (actsOf dl 15 true)) _ rfl (fun _ _ h => by simp at h) hRC.acts (by simp) (by omega) (HT.out.mono (HB3.out.trans (HBW.out.mono HB3.out.size))) (fun x hx hk => by
        have := measL_own (fr := fr) (k := k) (actsOf_own bl 15 true) (actsOf_own dl 15 true) x hx
        unfold OwnAct at this
        omega)).mono ?_
      rintro e w7 ⟨xv, mv, cv, rfl, hX, hM, hC, hb7⟩
      rw [meas_script (by omega)] at hM hC ⊢
      dsimp only at hM hC ⊢
      obtain ⟨fa, fc, ea, ec, qa, qc, rfl⟩ := hM.parts
      obtain ⟨ta, tc, na, nc, rfl, _⟩ := hC.at
      exact ⟨_, rfl, ⟨_, _, _, _, _, _, _, _, _, _, _, rfl, hM.mono (Nat.zero_le _)⟩, hb7⟩
    · obtain ⟨v, hv, ht⟩ := hd 12 (by kernel_rfl)
      have h58 : a.tmps[58]? = _ := hv
      go_simp
      exact ⟨_, rfl, ht, Below.refl _ _⟩
    · obtain ⟨v, hv, xv, fa2, fc2, ea2, ec2, qa2, qc2, ta2, tc2, na2, nc2, rfl, hM⟩ := hd 13 (by kernel_rfl)
      have h45 : a.tmps[45]? = _ := hv
      go_simp
      exact ⟨_, rfl, trivial, Below.refl _ _⟩
    · exact absurd (by decide) hiL
    · exact absurd (by decide) hiL
    · exact absurd (by decide) hiL
    · go_simp
      exact ⟨_, rfl, ⟨_, rfl, hbW.size, MBox.new (mach0_from (base := 0))⟩, below_alloc _ _⟩
    · go_simp
      exact ⟨_, rfl, ⟨_, rfl, hbW.size, ⟨by go_simp, by go_simp, fun o => by go_simp, BlkT.new rfl _ _⟩⟩, below_alloc _ _⟩
    · omega
  · intro a w2 hs hb hd
    have hFIN : FinM L (actsD ⟨newD, ⟨[], []⟩⟩ (measL (planD L 1 fr) k (actsOf bl 15 true) (actsOf dl 15 true))).1.m := fin_of HG.out (measL_own (actsOf_own bl 15 true) (actsOf_own dl 15 true))
    generalize (actsD ⟨newD, ⟨[], []⟩⟩ (measL (planD L 1 fr) k (actsOf bl 15 true) (actsOf dl 15 true))).1 = h at hd hFIN
    obtain ⟨M, C⟩ := h
    have HFI := hid hFIN
    clear hFIN
    obtain ⟨v0, q0, rfl⟩ := hd 0 (by omega)
    obtain ⟨v1, q1, rfl⟩ := hd 1 (by omega)
    obtain ⟨v2, q2, _⟩ := hd 2 (by omega)
    obtain ⟨v3, q3, rfl⟩ := hd 3 (by omega)
    obtain ⟨v4, q4, _⟩ := hd 4 (by omega)
    obtain ⟨v5, q5, rfl⟩ := hd 5 (by omega)
    obtain ⟨v6, q6, rfl⟩ := hd 6 (by omega)
    obtain ⟨v7, q7, _⟩ := hd 7 (by omega)
    obtain ⟨v8, q8, rfl⟩ := hd 8 (by omega)
    obtain ⟨v9, q9, _⟩ := hd 9 (by omega)
    obtain ⟨v10, q10, _⟩ := hd 10 (by omega)
    obtain ⟨v11, q11, _⟩ := hd 11 (by omega)
    obtain ⟨v12, q12, _⟩ := hd 12 (by omega)
    obtain ⟨v13, q13, _⟩ := hd 13 (by omega)
    obtain ⟨v14, q14, _⟩ := hd 14 (by omega)
    obtain ⟨v15, q15, xa, xc, xe, xd, xq, xf, rfl, hX⟩ := hd 15 (by omega)
    obtain ⟨v16, q16, ta, tc, na, nc, rfl⟩ := hd 16 (by omega)
    obtain ⟨v17, q17, rfl⟩ := hd 17 (by omega)
    obtain ⟨v18, q18, xb, rfl, lxb, hXB⟩ := hd 18 (by omega)
    obtain ⟨v19, q19, ob, rfl, lob, hOB⟩ := hd 19 (by omega)
    have ea := hs.is [(46, _), (47, _), (48, _), (49, _), (50, _), (51, _), (52, _), (53, _), (54, _), (55, _), (56, _), (57, _), (58, _), (45, _), (59, _), (60, _), (61, _), (62, _), (20, _), (21, _)] rfl (by decide) (fun t ht => by simp only [List.mem_cons, List.not_mem_nil, or_false] at ht; show t < 105; omega) (fun p hp => by
      simp only [List.mem_cons, List.not_mem_nil, or_false] at hp
      rcases hp with rfl | rfl | rfl | rfl | rfl | rfl | rfl | rfl | rfl | rfl | rfl | rfl | rfl | rfl | rfl | rfl | rfl | rfl | rfl | rfl
      · exact q0
      · exact q1
      · exact q2
      · exact q3
      · exact q4
      · exact q5
      · exact q6
      · exact q7
      · exact q8
      · exact q9
      · exact q10
      · exact q11
      · exact q12
      · exact q13
      · exact q14
      · exact q15
      · exact q16
      · exact q17
      · exact q18
      · exact q19)
    subst ea
    have hbW := (below_drew w3).trans hb
    have x0 := hXB.c0
    have x1 := hXB.c1
    have x2 := hXB.c2
    have xz := hXB.cz
    have y0 := hOB.c0
    have y1 := hOB.c1
    have yz := hOB.cz
    have hne : xb ≠ ob := by
      rintro rfl
      obtain ⟨cs1, fr1, g1⟩ := hXB.bt
      obtain ⟨cs2, fr2, g2⟩ := hOB.bt
      rw [g1] at g2
      injection g2 with g3
      injection g3 with _ g4 _
      exact absurd g4 (by decide)
    have hne' := hne.symm
    have HXB := hid hXB
    have HOB := hid hOB
    have HX := hid hX
    have HBW := hid hbW
    clear q0 q1 q2 q3 q4 q5 q6 q7 q8 q9 q10 q11 q12 q13 q14 q15 q16 q17 q18 q19 hd hs hb hXB hOB hX hbW hPC
    simp only [List.drop_succ_cons, List.drop_zero, putAll, Act.put, List.setIfInBounds_toArray, List.set_cons_succ, List.set_cons_zero]
    go_upto_region 6 with fail
    refine act_gen (fun W' => Below w.heap.size w W' ∧ PagesAt W' ia L ∧ MBox xb xa xc xe xd xq xf M W')
      ⟨HB3.out.trans ((below_low2 (below_low3 HBW.out lxb _ _ _) lob _ _).mono HB3.out.size), HI3.out.mono (below_low2 (below_low3 HBW.out lxb _ _ _) lob _ _),
        ((HXB.out.put HX.out).far hne (((HOB.out.bt.set _ _).set _ _).set _ _) (by decide) (by decide) (by decide) (by decide) 0 _).far hne ((((HOB.out.bt.set _ _).set _ _).set _ _).set _ _) (by decide) (by decide) (by decide) (by decide) 1 _⟩ ?_
    clear x0 x1 x2 xz y0 y1 yz HXB HOB HX HBW HI3 HB3 lxb lob hne hne'
    rintro W' ⟨hbW, hI, HXB⟩
    have p0 := HXB.c0
    have p1 := HXB.c1
    have p2 := HXB.c2
    have hNA := HXB.at
    rw [HFI.out.1.fl] at hNA p0
    rw [HFI.out.1.el] at hNA p1
    have HNA := hid hNA
    have HE := hid (mach_encls HXB.at)
    have HBW := hid hbW
    have HI := hid hI
    have HW8 : Hid (∀ p ∈ L, p.words.length = 8) := fun p hp => PageOk.len (imgF_all HG.out p hp)
    obtain ⟨S, hS⟩ : ∃ S, bytesOf (expectL L) = S := ⟨_, rfl⟩
    rw [hS]
    have HSS := hid hS
    clear hbW hI HXB hNA hS
    go_wp2_with fail
    go_loopw [82] (fun j W4 => ∃ q : Nat, q ≤ 4 ∧ j = .int .i64 q ∧ Below W'.heap.size W' W4) (fun j _ => 4 - (intOf j).toNat)
    case atStart => exact ⟨0, by omega, rfl, Below.refl _ _⟩
    case round =>
      obtain ⟨q, hq, rfl, hb⟩ := hrel
      by_cases hql : q < 4
      rotate_left
      · obtain rfl : q = 4 := by omega
        have BW := HBW.out.trans (hb.mono HBW.out.size)
        go_wp2_with fail
        go_ret
        exact ⟨rfl, BW⟩
      have hwq : IntKind.i64.wrap ((q : Int) + 1) = (q : Int) + 1 := by rw [IntKind.wrap_i64]; omega
      obtain ⟨y, hy⟩ : ∃ y, M.encl[q]? = some y := ⟨_, List.getElem?_eq_getElem (by rw [HFI.out.1.el]; exact hql)⟩
      have r0 := cell_later hb p0
      have r1 := cell_later hb p1
      have r2 := cell_later hb p2
      obtain ⟨eb, eo, rfl, c0, c1, c2, c3, c4, c5, c6⟩ := HE.out.mono hb q y hy
      have HY := hid hy
      have HBB := hid hb
      clear hy hb
      go_upto_region 11 with fail
      refine act_gen (fun W5 => Below W'.heap.size W' W5 ∧ W5.cell? ⟨xb, 0, none⟩ = some (.slice xa 24 xc) ∧ W5.cell? ⟨xb, 1, none⟩ = some (.slice (some ⟨eb, eo, none⟩) 4 xd) ∧ W5.cell? ⟨xb, 2, none⟩ = some (.slice xq M.quotes.length xf) ∧ W5.cell? ⟨wr.heap.size, 0, none⟩ = some (.int .i64 y.state) ∧ W5.cell? ⟨wr.heap.size, 1, none⟩ = some (.string y.log))
        ⟨HBB.out.trans (Below.mono (by go_grown) HBB.out.size), cell_new1 r0 _, cell_new1 r1 _, cell_new1 r2 _, by go_simp, by go_simp⟩ ?_
      clear HBB r0 r1 r2 c0 c1 c2 c3 c4 c5 c6
      generalize wr.heap.size = fb'
      clear wr
      rintro W5 ⟨hb, r0, r1, r2, c0, c1⟩
      have HBB := hid hb
      clear hb
      by_cases hs : y.state = 2
      rotate_left
      · have hsb : (y.state == 2) = false := by rw [beq_eq_false_iff_ne]; exact hs
        clear hs
        go_wp2_with fail
        go_roundw
        case rel => exact ⟨q + 1, by omega, by go_num, HBB.out⟩
        case measure => simp [intOf]; omega
      have hsb : (y.state == 2) = true := by rw [beq_iff_eq]; exact hs
      have HS2 := hid hs
      clear hs
      cases hls : (y.log.toList == S.toList) with
      | false =>
        go_wp2_with fail
        go_roundw
        case rel => exact ⟨q + 1, by omega, by go_num, HBB.out⟩
        case measure => simp [intOf]; omega
      | true =>
        have HLOG : Hid (y.log = bytesOf (expectL L)) := by
          show _ = _
          rw [HSS.out]
          exact (toList_inj (by simpa using hls))
        have HH := hid (HFI.out.2 q y HY.out HS2.out HLOG.out)
        go_wp2_with fail
        refine (topHas _ M ((q : Int) + 1) ia L L.length ic _ (HNA.out.mono HBB.out) HFI.out.1.fl rfl (by omega) (HI.out.mono HBB.out) HW8.out HH.out).mono ?_
        rintro z w7 ⟨rfl, hb7⟩
        have B7 := hid (HBB.out.trans (hb7.mono HBB.out.size))
        go_wp2_with fail
        go_roundw
        case rel => exact ⟨q + 1, by omega, by go_num, B7.out⟩
        case measure => simp [intOf]; omega
set_option maxRecDepth 100000 in
theorem topMeasured_args {H : Type} {enc : TypeId × Value → H} (W : World) (b0 : Nat) (args : Array Value) (hT : Tab W) (hs : args.size = (Tryd.f8).params.size)
    (ha : ∀ (j : Nat) t v, (Tryd.f8).params[j]? = some t → args[j]? = some v → Value.okWide Tryd.prog W .any b0 t v ∧ Rd enc Tryd.prog W t v.cells.toList) :
    Calls Tryd.prog 8 args W fun e w' => e = .returned (.bool true) ∧ Below W.heap.size W w' := by
  obtain ⟨l⟩ := args
  match l, hs with
  | [v, v1, v2, v3, v4, v5], _ =>
    obtain ⟨h1, h2⟩ := ha 0 _ v rfl rfl
    obtain ⟨a, l, c, e, hl, ra, kl⟩ := rd_raws h2
    obtain rfl : v = .slice a l.length c := by
      have := rd_slice_v Tryd.underlying22 h1
      rw [this] at e
      exact (List.cons.inj e).1
    obtain ⟨r, rfl, hr⟩ := rd_raw (ha 1 _ v1 rfl rfl).1 (ha 1 _ v1 rfl rfl).2
    obtain ⟨h3, h4⟩ := ha 2 _ v2 rfl rfl
    obtain ⟨ba, bl, bc, e2, hbl, rb, kb⟩ := rd_raws h4
    obtain rfl : v2 = .slice ba bl.length bc := by
      have := rd_slice_v Tryd.underlying22 h3
      rw [this] at e2
      exact (List.cons.inj e2).1
    obtain ⟨h5, h6⟩ := ha 3 _ v3 rfl rfl
    obtain ⟨da, dl, dc, e3, hdl, rd, kd⟩ := rd_raws h6
    obtain rfl : v3 = .slice da dl.length dc := by
      have := rd_slice_v Tryd.underlying22 h5
      rw [this] at e3
      exact (List.cons.inj e3).1
    obtain ⟨x, rfl, hx⟩ := rd_int_v (ha 4 _ v4 rfl rfl).1 (ha 4 _ v4 rfl rfl).2
    obtain ⟨f, rfl, hf⟩ := rd_int_v (ha 5 _ v5 rfl rfl).1 (ha 5 _ v5 rfl rfl).2
    exact topMeasured_calls a l l.length c r ba bl bl.length bc da dl dl.length dc x f W rfl hl ra kl hr rfl hbl rb kb rfl hdl rd kd hx hf hT

set_option maxRecDepth 100000 in
theorem topMeasured_lifted (os : Os) (started : os.Started) (H : Type) (enc : TypeId × Value → H) :
    ReturnsInHanded {} Tryd.checked os 8 .any (fun w args => (Rows.topMeasuredSpec.pre enc Tryd.prog Tryd.f8 [] false w args ∧ laidMetH Tryd.prog Rows.topMeasuredRow.laid w) ∧ sizedMet enc Tryd.prog Tryd.f8 (OpenSpec.ofChange Rows.topMeasuredSpec) false w args)
      (Rows.topMeasuredSpec.post enc Tryd.prog Tryd.f8 false true false false) := by
  refine returnsInHanded_of_change_and (C := Tryd.checked) (X := fun w _ => laidMetH Tryd.prog Rows.topMeasuredRow.laid w) (fun _ _ _ hh h => h.of_heap hh) own started (by kernel_rfl) Tryd.func8
    (ChangeSpec.witness_shaped (enc := enc) (C := Tryd.checked) (os := os) (X := fun w _ => laidMetH Tryd.prog Rows.topMeasuredRow.laid w) false (World.doorLaid Tryd.prog doorSteps os) #[.slice none 0 0, .agg #[.int .i64 0, .int .i64 0, .int .i64 0, .int .i64 0], .slice none 0 0, .slice none 0 0, .int .i64 0, .int .i64 0] 8 rfl (World.shaped_of_RefB (by kernel_rfl) (by kernel_rfl)) (by kernel_rfl) (by kernel_rfl) (by kernel_rfl) (door_met os _)) ?_
  intro W base args ds gs before hval hW _ hsz hL _
  exact law_contract laidOut (by kernel_rfl) rfl Tryd.underlying4 rfl (fun ds h => by
    match ds, h with
    | [_, _, _, _, _, _], _ => exact ⟨rfl, rfl, rfl⟩) hval hW hsz fun hs ha => topMeasured_args W base args (tab_of_laid hL) hs ha

theorem topMeasured_row : Rows.TopMeasuredSaid :=
  OpenClaim.holds_of_wide 8 Tryd.f8 rfl rfl rfl rfl rfl rfl rfl ⟨rfl, rfl, rfl, rfl, rfl⟩ rfl rfl rfl rfl rfl (by kernel_rfl) Tryd.func8 (by kernel_rfl)
    (of_decide_eq_true (by kernel_rfl)) (by unfold Func.isWrapper; first | (rw [if_pos (by decide +kernel)]; kernel_rfl) | (rw [if_neg (by decide +kernel)]; exact ⟨rfl, rfl⟩))
    (fun os started H enc _ => topMeasured_lifted os started H enc)

theorem topMeasured_holds : Rows.TopMeasuredCardSaid :=
  Claim7.holds_tied_plain_at .later [] [.data, .data, .data] true _ false
    topMeasured_row (fun _ h => by cases h) (by kernel_rfl) (fun _ h => by cases h) topMeasured_row_tie rfl ⟨rfl, rfl⟩ (by kernel_rfl) rfl
    (fun f fn hf hfn => by
      obtain rfl : f = 8 := Option.some.inj ((show Tryd.prog.funcNamed Rows.topMeasuredRow.func = some 8 by kernel_rfl).symm.trans hf) |>.symm
      obtain rfl : fn = Tryd.f8 := (Option.some.inj (Tryd.func8.symm.trans hfn)).symm
      exact ⟨by kernel_rfl, fun j t ht => by
        have hm : t ∈ (Tryd.f8).params.toList := by simpa using Array.mem_of_getElem? ht
        have hall : ((Tryd.f8).params.toList.all fun u => !Tryd.prog.wantsStandIn u) = true := by kernel_rfl
        exact (show Tryd.prog.wantsStandIn t = false by simpa using List.all_eq_true.1 hall t hm)⟩)
    (by kernel_rfl)


end Go.Proofs.YtbamacddfonloaaDoor
