/- Whatever comes, a machine stays one that may be; what is refused does nothing: the law returns true at all raw things and kinds; its arguments read as they did; the card is tied. Condition: the library's tables start as the program's text lays them. -/
import Derived.Test.YtbamacddfonloaaDoorLiftD
import Derived.Test.YtbamacddfonloaaDoorGc
import Derived.Test.YtbamacddfonloaaDoorCloneA
import Derived.Test.YtbamacddfonloaaDoorGoodsPlain
import Derived.Test.YtbamacddfonloaaDoorActs
import Derived.Test.YtbamacddfonloaaDoorGx
import Derived.Test.YtbamacddfonloaaDoorKeepImage
import Derived.Test.YtbamacddfonloaaDoorGs
namespace Go.Proofs.YtbamacddfonloaaDoor
open Go.ChangeShapes Go.WideShapes Go.ChangeAt Go.RowKit

theorem CellsAt.new {W : World} {n : Nat} (hn : W.heap.size = n) (cs : Array Value) (t : TypeId) : CellsAt (W.alloc (.cells cs t)) (some ⟨n, 0, none⟩) cs.toList := fun j u hj => by
  have := news_new hn cs t j u hj
  rw [add_plain] at this
  exact ⟨n, 0, rfl, this⟩
theorem mach_frames {W : World} {fa ea qa : Option Addr} {fn fc en ec qn qc : Nat} {M : MachD} (h : MachAt W (.agg #[.slice fa fn fc, .slice ea en ec, .slice qa qn qc]) M) : FramesAt W fa M.frames := by
  obtain ⟨x0, x1, x2, x3, x4, x5, ex, hF, _, _⟩ := h
  simp only [Value.agg.injEq, Array.mk.injEq, List.cons.injEq, Value.slice.injEq, and_true] at ex
  obtain ⟨⟨rfl, _, _⟩, _⟩ := ex
  exact hF

theorem mach_encls {W : World} {fa ea qa : Option Addr} {fn fc en ec qn qc : Nat} {M : MachD} (h : MachAt W (.agg #[.slice fa fn fc, .slice ea en ec, .slice qa qn qc]) M) : EnclsAt W ea M.encl := by
  obtain ⟨x0, x1, x2, x3, x4, x5, ex, _, hE, _⟩ := h
  simp only [Value.agg.injEq, Array.mk.injEq, List.cons.injEq, Value.slice.injEq, and_true] at ex
  obtain ⟨_, ⟨rfl, _, _⟩, _⟩ := ex
  exact hE
theorem planZ (a : Option Addr) (l : List PageD) (n cap : Nat) (w : World) (hl : l.length = n) (hf : PagesFit l) (hc : PagesAt w a l) (h0 : imageF l = 0) (hfr : n ≤ 24) :
    Calls Tryd.prog 9 #[.slice a n cap, .int .i64 1, .int .i64 0] w (PlanRes w.heap.size (planD l 1 0) w) := imagePlan a l n cap 1 0 w hl hf hc h0 (by omega) (by omega) (by omega)
theorem chal_fits {C : ChalD} (h : chalF C = 0) : C.Fits := ⟨by have := chalF_le h; omega, by have := chalF_le h; omega⟩
/-- A challenger in its box. -/
structure CBox (b : Nat) (tv nv : Value) (C : ChalD) (W : World) : Prop where
  c0 : W.cell? ⟨b, 0, none⟩ = some tv
  c1 : W.cell? ⟨b, 1, none⟩ = some nv
  c : ChalAt W (.agg #[tv, nv]) C
theorem CBox.later {b : Nat} {tv nv : Value} {C : ChalD} {W W' : World} (h : CBox b tv nv C W) (hb : Below W.heap.size W W') : CBox b tv nv C W' := ⟨cell_later hb h.c0, cell_later hb h.c1, h.c.mono hb⟩

set_option maxRecDepth 10000 in
set_option maxHeartbeats 4800000 in
theorem hostsGood_calls (a : Option Addr) (l : List RawD) (n c : Nat) (ba : Option Addr) (bl : List RawD) (bn bc : Nat) (r : RawD) (kind : Int) (w : World) (hn : l.length = n) (hl : n * 32 ≤ 140737488351232) (ha : RawsAt w a l)
    (kl : ∀ x ∈ l, x.Ok) (hbn : bl.length = bn) (hbl : bn * 32 ≤ 140737488351232) (hba : RawsAt w ba bl) (kb : ∀ x ∈ bl, x.Ok) (hr : r.Ok) (hk : Is64 kind) (hT : Tab w) :
    Calls Tryd.prog 3 #[.slice a n c, .slice ba bn bc, .agg #[.int .i64 r.kind, .int .i64 r.a, .int .i64 r.b, .int .i64 r.c], .int .i64 kind] w fun e w' => e = .returned (.bool true) ∧ Below w.heap.size w w' := by
  obtain ⟨i0, hinf, hz0, hz1, hz2⟩ := info_parts infoActs
  have HA := hid ha
  have HN := hid hn
  have HKL := hid kl
  have HBN := hid hbn
  have HBA := hid hba
  have HKB := hid kb
  have HR := hid hr
  have HKI := hid hk
  have HT := hid hT
  have HG := hid (imageD_good bl r)
  have hlen := (imageD_len bl r).2
  clear ha hn kl hbn hba kb hr hk hT
  go_enter Tryd.func3, Tryd.ntmps3
  go_wp2_with fail
  refine (keepImage ba bl bn bc r _ HBN.out hbl (HBA.out.mono (by go_grown)) HKB.out HR.out).mono ?_
  rintro e w1 ⟨ia, ic, rfl, hI, hb1⟩
  have HB1 : Hid (Below w.heap.size w w1) := Below.trans (by go_grown) (hb1.mono (by go_size))
  have HI := hid hI
  clear hb1 hI
  generalize imageD bl r = P at *
  have HFT := hid (good_fit HG.out)
  go_wp2_with fail
  refine (planZ ia P P.length ic _ rfl HFT.out HI.out HG.out (by omega)).mono ?_
  rintro e w2 ⟨pv, rfl, hP, hb2⟩
  have HP := hid (hP.mono HB1.out.size)
  have HB2 := hid (HB1.out.trans (hb2.mono HB1.out.size))
  clear hb2 hP HB1 HI
  dsimp only
  go_wp2_with fail
  refine (keepActs a l n c 60 true _ HN.out hl (HA.out.mono HB2.out) HKL.out (by decide)).mono ?_
  rintro e w3 ⟨av, rfl, hAv, hb3⟩
  obtain ⟨ra, rc, rfl, hRC⟩ := CellsAt.of_own hAv
  have HRC := hid hRC
  have HP3 := hid (HP.out.below hb3)
  have HB3 := hid (HB2.out.trans (hb3.mono HB2.out.size))
  have hal : (actsOf l 60 true).length ≤ 60 := by rw [actsOf_len]; omega
  have HAL := hid hal
  have HLK : Hid (∀ x ∈ actsOf l 60 true, NoLook x) := fun x hx hk => by
    obtain ⟨y, _, rfl⟩ := List.mem_map.1 hx
    have := actT_kind y true
    omega
  generalize actsOf l 60 true = A at *
  clear hb3 hAv hRC HP HB2
  have hpl := plan_len HG.out hlen 1 0
  go_wp2_with (at_builtin; refine wpList_append_any rfl _ _ 25 rfl w.heap.size 33 i0 _ 7 56 Tryd.underlying25 hinf hz0 hz1 hz2 rfl (by decide) _ _ _ rfl HP3.out _ _ _ (A.flatMap ActD.cs) rfl (actCells_len A) HRC.out (actCells_one A) ?c1 ?c2 HB3.out.size ?_)
  case c1 => unfold maxLen; have := HAL.out; omega
  case c2 => have := HAL.out; omega
  intro v' w4 hown hg
  have HB4 := hid (HB3.out.grown hg HB3.out.size (fun q hq => (HP3.out.lt q hq).1))
  have HO4 : Hid (OwnActs w.heap.size w4 v' (planD P 1 0 ++ A ++ rounds 0)) := by
    show w4.ownsRow _ _ _ _ _ _
    rw [show planD P 1 0 ++ A ++ rounds 0 = planD P 1 0 ++ A by simp [rounds], List.length_append, List.flatMap_append]
    exact hown
  clear hown hg HP3 HRC HB3
  go_wp2_with fail
  go_loopw [11, 38] (fun ov j W => ∃ i : Nat, i ≤ 6 ∧ j = .int .i64 i ∧ Hid (OwnActs w.heap.size W ov (planD P 1 0 ++ A ++ rounds i)) ∧ Below w.heap.size w W) (fun _ j _ => 6 - (intOf j).toNat)
  case atStart => exact ⟨0, by omega, rfl, HO4, HB4.out⟩
  case round =>
    clear HO4 HB4
    obtain ⟨i, hi, rfl, HO, hb⟩ := hrel
    obtain ⟨ga, gc, rfl, -⟩ := HO.out.at
    have HLI : Hid ((planD P 1 0 ++ A ++ rounds i).length ≤ 134) := by
      show _ ≤ _
      have := HAL.out
      have := rounds_len i
      rw [List.length_append, List.length_append]; omega
    by_cases hlt : i < 6
    · have hst : planD P 1 0 ++ A ++ rounds (i + 1) = planD P 1 0 ++ A ++ rounds i ++ [⟨8, 1, 0, 0, 0, (i : Nat), 20⟩, ⟨9, 1, 0, 0, 0, 0, 30⟩] := by rw [rounds]; simp only [List.append_assoc]
      have HST := hid hst
      have hsz := hb.size
      have HB := hid hb
      have hwi : IntKind.i64.wrap ((i : Int) + 1) = (i : Int) + 1 := by rw [IntKind.wrap_i64]; omega
      clear hst hb
      generalize planD P 1 0 ++ A ++ rounds i = H at HO HST HLI
      have HO2 : Hid (∀ X, OwnActs w.heap.size (wr.alloc X) (.slice ga H.length gc) H) := fun X => HO.out.below (below_alloc _ _)
      go_wp2_with (at_builtin; refine wpList_append_any rfl _ _ 25 rfl w.heap.size 33 i0 _ 7 56 Tryd.underlying25 hinf hz0 hz1 hz2 rfl (by decide) _ _ _ rfl (HO2.out _) _ 2 2 ((⟨8, 1, 0, 0, 0, (i : Nat), 20⟩ : ActD).cs ++ (⟨9, 1, 0, 0, 0, 0, 30⟩ : ActD).cs) rfl rfl (CellsAt.new rfl _ _) (by simp [ActD.cs, Value.oneCell']) ?c1 ?c2 ?c3 ?_)
      case c1 => unfold maxLen; have := HLI.out; omega
      case c2 => have := HLI.out; omega
      case c3 => simp; omega
      intro v2 w5 hown hg
      have HB5 := hid ((HB.out.trans (Below.mono (below_alloc _ _) hsz)).grown hg (by simp; omega) (fun q hq => ((HO2.out (.cells #[] 0)).lt q hq).1))
      have HO5 := hid hown
      clear hown hg
      go_wp2_with fail
      go_roundw
      case rel =>
        refine ⟨i + 1, by omega, by go_num, ?_, HB5.out⟩
        rw [HST.out]
        exact OwnActs.push2 HO5.out rfl
      case measure => simp [intOf]; omega
    obtain rfl : i = 6 := by omega
    have eG : planD P 1 0 ++ A ++ rounds 6 = goodL P A := rfl
    rw [eG] at HO HLI ⊢
    clear eG
    have HLOOK := hid (goodL_look (P := P) HLK.out)
    have HSC := hid (good_script (P := P) (A := A) HLI.out)
    have HSC2 := hid (fun (k : Int) (hk : 12 ≤ k) => good_script2 (P := P) (A := A) HLI.out hk)
    have HOK := hid (goodH_ok (P := P) (A := A))
    have HXL : Hid ((actsD ⟨newD, ⟨[], []⟩⟩ (goodL P A)).2.length = (goodL P A).length) := actsD_len _ _
    generalize (goodH P A) = h at HSC HSC2 HOK
    generalize (actsD ⟨newD, ⟨[], []⟩⟩ (goodL P A)).2 = X at HSC HSC2 HXL
    generalize (goodL P A) = G at *
    obtain ⟨M, C⟩ := h
    have HGM : Hid (Good M) := HOK.out.1
    have HGC : Hid (chalF C = 0) := HOK.out.2
    obtain ⟨gn, hgn⟩ : ∃ gn, G.length = gn := ⟨_, rfl⟩
    have HGN := hid hgn
    have HXN : Hid (X.length = gn) := by show _ = _; rw [← hgn]; exact HXL.out
    have hgl : gn ≤ 134 := by rw [← hgn]; exact HLI.out
    rw [hgn] at HO ⊢
    have HB := hid hb
    clear hb hgn HXL HLI HOK HG HFT HAL hpl hlen HLK
    have HGA : Hid (CellsAt wr ga (G.flatMap ActD.cs)) := by
      obtain ⟨a3, c3, e3, h3⟩ := CellsAt.of_own HO.out
      obtain ⟨rfl, _, _⟩ := Value.slice.inj e3
      exact h3
    have HGL : Hid ((G.flatMap ActD.cs).length = gn * 7) := by show _ = _; rw [actCells_len, HGN.out]
    clear HO
    go_wp2_with fail
    refine (hostRun none 0 [] ga gc gn G _ HGN.out (fun _ _ h => by simp at h) HGA.out.acts (by simp) (by omega) (HT.out.mono HB.out) HLOOK.out).mono ?_
    rintro e w5 ⟨xv, mv, cv, rfl, hX, hM, hC, hb5⟩
    rw [HSC.out] at hX hM hC ⊢
    dsimp only at hX hM hC ⊢
    obtain ⟨xa, xc, rfl⟩ := own_slice hX
    rw [HXN.out]
    obtain ⟨fa, fc, ea, ec, qa, qc, rfl⟩ := hM.parts
    obtain ⟨ta, tc, na, nc, rfl, -⟩ := hC.at
    have HM5 := hid hM
    have HC5 := hid hC.at
    have HB5 := hid (HB.out.trans (hb5.mono HB.out.size))
    have HGA5 := hid (HGA.out.mono hb5)
    clear hX hM hC hb5 HB HGA
    go_upto_region 9 with fail
    refine act_gen (fun W => Below w.heap.size w W ∧ CellsAt W ga (G.flatMap ActD.cs) ∧ MBox w5.heap.size fa fc ea ec qa qc M W ∧ CBox (w5.heap.size + 1) (.slice ta C.trusts.length tc) (.slice na C.nonces.length nc) C W)
      ⟨HB5.out.trans (Below.mono (by go_grown) HB5.out.size), HGA5.out.mono (by go_grown), (MBox.new HM5.out).later (by go_grown), ⟨by go_simp, by go_simp, HC5.out.mono (by go_grown)⟩⟩ ?_
    clear HM5 HC5 HB5 HGA5
    generalize w5.heap.size = mb
    rintro W ⟨hbW, hga, HMB, HCB⟩
    replace HMB := hid HMB
    replace HCB := hid HCB
    have HB := hid hbW
    have HGA := hid hga
    clear hbW hga
    go_wp2_with fail
    refine (cloneActs ga gn gc (G.flatMap ActD.cs) _ HGL.out (actCells_one G) HGA.out (by omega)).mono ?_
    rintro e w6 ⟨da, dc, rfl, hO, hb6⟩
    have HO6 := hid hO
    have HB6 := hid hb6
    clear hO hb6
    obtain ⟨k9, hk9⟩ : ∃ k, 12 + pickD kind 9 = k := ⟨_, rfl⟩
    have hk12 : 12 ≤ k9 := by have := pickD_lo kind (many := 9) (by decide); omega
    have hwk : IntKind.i64.wrap (12 + pickD kind 9) = k9 := by rw [IntKind.wrap_i64]; have := pickD_hi kind (many := 9) (by decide); omega
    clear hk9
    go_wp2_with fail
    refine (picked_any kind 9 _ HKI.out (by decide)).mono ?_
    rintro e u ⟨rfl, hu⟩
    obtain rfl := hu.symm
    clear hu
    have HO7 : Hid (∀ X, (w6.alloc X).ownsRow W.heap.size 33 7 (.slice da gn dc) gn (G.flatMap ActD.cs)) := fun X => ownsRow_below HO6.out (below_alloc _ _)
    go_wp2_with (at_builtin; refine wpList_append_any rfl _ _ 25 rfl W.heap.size 33 i0 _ 7 56 Tryd.underlying25 hinf hz0 hz1 hz2 rfl (by decide) _ _ _ rfl (HO7.out _) _ 5 5 ((badActs k9).flatMap ActD.cs) rfl rfl (CellsAt.new rfl _ _) (actCells_one _) ?c1 ?c2 ?c3 ?_)
    case c1 => unfold maxLen; omega
    case c2 => omega
    case c3 => have := HB6.out.size; simp; omega
    intro v2 w7 hown hg
    have HB7 := hid ((HB6.out.trans (Below.mono (below_alloc _ _) HB6.out.size)).grown hg (by have := HB6.out.size; simp; omega) (fun q hq => ((HO7.out (.cells #[] 0)).lt q hq).1))
    rw [← List.flatMap_append] at hown
    obtain ⟨sa, sc, rfl, hS⟩ := CellsAt.of_own hown
    have HS := hid hS.acts
    have HMB7 := hid (HMB.out.later HB7.out)
    have HCB7 := hid (HCB.out.later HB7.out)
    have HBW7 := hid (HB.out.trans (HB7.out.mono HB.out.size))
    have HLB : Hid (∀ x ∈ G ++ badActs k9, NoLook x) := fun x hx => by
      rcases List.mem_append.1 hx with hx | hx
      · exact HLOOK.out x hx
      · exact badActs_look k9 hk12 x hx
    have HS2 := hid (HSC2.out k9 hk12)
    have HLN : Hid ((G ++ badActs k9).length = gn + 5) := by show _ = _; rw [List.length_append, HGN.out]; rfl
    clear hown hg hS HO7 HB7 HO6 HB6 HMB HCB HB HGA HSC2 hwk
    go_wp2_with fail
    refine (hostRun none 0 [] sa sc (gn + 5) (G ++ badActs k9) _ HLN.out (fun _ _ h => by simp at h) HS.out (by simp) (by omega) (HT.out.mono HBW7.out) HLB.out).mono ?_
    rintro e w8 ⟨yv, mv, cv, rfl, hY, hM, hC, hb8⟩
    rw [HS2.out] at hY hM hC ⊢
    dsimp only at hY hM hC ⊢
    have hyl : (X ++ badAns).length = gn + 5 := by rw [List.length_append, HXN.out]; rfl
    rw [hyl] at hY
    obtain ⟨ya, yc, rfl, hYC⟩ := CellsAt.of_own hY
    have HY := hid hYC.ans
    obtain ⟨ha, hc, hea, hec, hqa, hqc, rfl⟩ := hM.parts
    obtain ⟨ta2, tc2, na2, nc2, rfl, -⟩ := hC.at
    have HM8 := hid hM
    have HMB8 := hid (HMB7.out.later hb8)
    have HCB8 := hid (HCB7.out.later hb8)
    have HB8 := hid (HBW7.out.trans (hb8.mono HBW7.out.size))
    clear hY hYC hM hC hb8 HMB7 HCB7 HBW7 HS HS2 hyl HLN HLB
    go_upto_region 10 with fail
    refine act_gen (fun W => Below w.heap.size w W ∧ AnsAt W ya (X ++ badAns) ∧ MBox mb fa fc ea ec qa qc M W ∧ CBox (mb + 1) (.slice ta C.trusts.length tc) (.slice na C.nonces.length nc) C W ∧ MBox w8.heap.size ha hc hea hec hqa hqc M W)
      ⟨HB8.out.trans (Below.mono (by go_grown) HB8.out.size), HY.out.mono (by go_grown), HMB8.out.later (by go_grown), HCB8.out.later (by go_grown), (MBox.new HM8.out).later (by go_grown)⟩ ?_
    clear HM8 HCB8 HB8 HMB8 HY
    generalize w8.heap.size = nb
    rintro W ⟨hbW, hy, HMB, HCB, HNB⟩
    replace HMB := hid HMB
    replace HCB := hid HCB
    replace HNB := hid HNB
    have HB := hid hbW
    have HY := hid hy
    clear hbW hy
    have hmk := make201
    go_wp2_with fail
    refine (hostRun none 0 [] _ 201 201 manyA _ (by simp [manyA]) (fun _ _ h => by simp at h) (many_at rfl _) (by simp) (by omega) (HT.out.mono (HB.out.trans (Below.mono (below_alloc _ _) HB.out.size))) (fun x hx hk => by
      rw [manyA] at hx
      obtain rfl := (List.mem_replicate.1 hx).2
      exact absurd (show (0 : Int) = 11 from hk) (by omega))).mono ?_
    rintro e w9 ⟨zv, mv, cv, rfl, hZ, hM, hC, hb9⟩
    rw [long_script manyA (by simp [manyA])] at hZ hM hC ⊢
    dsimp only at hZ hM hC ⊢
    obtain ⟨za, zc, rfl⟩ := own_slice hZ
    obtain ⟨fa3, fc3, ea3, ec3, qa3, qc3, rfl⟩ := hM.parts
    obtain ⟨ta3, tc3, na3, nc3, rfl, -⟩ := hC.at
    have b9 : Below W.heap.size W w9 := Below.trans (below_alloc _ _) (hb9.mono (by go_size))
    have HMB9 := hid (HMB.out.later b9)
    have HCB9 := hid (HCB.out.later b9)
    have HNB9 := hid (HNB.out.later b9)
    have HY9 := hid (HY.out.mono b9)
    have HB9 := hid (HB.out.trans (b9.mono HB.out.size))
    clear hZ hM hC hb9 b9 hmk HMB HCB HNB HY HB
    go_upto_region 11 with fail
    refine act_gen (fun W => Below w.heap.size w W ∧ AnsAt W ya (X ++ badAns) ∧ MBox mb fa fc ea ec qa qc M W ∧ CBox (mb + 1) (.slice ta C.trusts.length tc) (.slice na C.nonces.length nc) C W ∧ MBox nb ha hc hea hec hqa hqc M W)
      ⟨HB9.out.trans (Below.mono (by go_grown) HB9.out.size), HY9.out.mono (by go_grown), HMB9.out.later (by go_grown), HCB9.out.later (by go_grown), HNB9.out.later (by go_grown)⟩ ?_
    clear HB9 HY9 HMB9 HCB9 HNB9
    rintro W ⟨hbW, hy, HMB, HCB, HNB⟩
    have m0 := HMB.c0
    have m1 := HMB.c1
    have m2 := HMB.c2
    have c0 := HCB.c0
    have c1 := HCB.c1
    replace HMB := hid HMB
    replace HCB := hid HCB
    replace HNB := hid HNB
    have HB := hid hbW
    have HY := hid hy
    clear hbW hy
    go_wp2_with fail
    refine (epcCheck _ M _ HMB.out.at HGM.out.fits).mono ?_
    rintro e w10 ⟨rfl, hb10⟩
    rw [HGM.out.mf]
    replace c0 := cell_later hb10 c0
    replace c1 := cell_later hb10 c1
    have HB10 := hid hb10
    have HCC := hid (HCB.out.c.mono hb10)
    clear hb10 m0 m1 m2
    go_wp2_with fail
    refine (trustCheck _ C _ HCC.out (chal_fits HGC.out)).mono ?_
    rintro e w11 ⟨rfl, hb11⟩
    rw [HGC.out]
    have b11 := HB10.out.trans (hb11.mono HB10.out.size)
    have HMB11 := hid (HMB.out.later b11)
    have HNB11 := hid (HNB.out.later b11)
    have HY11 := hid (HY.out.mono b11)
    have HB11 := hid (HB.out.trans (b11.mono HB.out.size))
    clear hb11 b11 HB10 HCC c0 c1 HMB HCB HNB HB HY
    go_upto_region 13 with fail
    refine act_gen (fun W => Below w.heap.size w W ∧ AnsAt W ya (X ++ badAns) ∧ MBox mb fa fc ea ec qa qc M W ∧ MBox nb ha hc hea hec hqa hqc M W) ⟨HB11.out, HY11.out, HMB11.out, HNB11.out⟩ ?_
    clear HB11 HY11 HMB11 HNB11
    rintro W ⟨hbW, hy, HMB, HNB⟩
    have HMF := hid (HMB.at)
    have HNF := hid (HNB.at)
    have m0 := HMB.c0
    have n0 := HNB.c0
    have m1 := HMB.c1
    have n1 := HNB.c1
    rw [HGM.out.fl] at m0 n0
    rw [HGM.out.el] at m1 n1
    have HB := hid hbW
    have HY := hid hy
    clear hbW hy HMB HNB
    go_wp2_with fail
    go_loopw [116] (fun j W' => ∃ k : Nat, k ≤ 24 ∧ j = .int .i64 k ∧ Below W.heap.size W W') (fun j _ => 24 - (intOf j).toNat)
    case atStart => exact ⟨0, by omega, rfl, Below.refl _ _⟩
    case round =>
      obtain ⟨k, hk, rfl, hb⟩ := hrel
      have m0' := cell_later hb m0
      have n0' := cell_later hb n0
      by_cases hkl : k < 24
      · obtain ⟨x, hx⟩ : ∃ x, M.frames[k]? = some x := ⟨_, List.getElem?_eq_getElem (by rw [HGM.out.fl]; exact hkl)⟩
        have h8 := (HGM.out.f k x hx).len
        obtain ⟨fb, fo, xwa, xwc, rfl, p0, p1, p2, p3, p4⟩ := (mach_frames HMF.out).mono hb k x hx
        obtain ⟨gb, go, ywa, ywc, rfl, q0, q1, q2, q3, q4⟩ := (mach_frames HNF.out).mono hb k x hx
        rw [h8] at p3 q3
        have HP4 := hid p4
        have HQ4 := hid q4
        have H8 := hid h8
        have HBB := hid hb
        have hk24 : (k : Int) < 24 := by omega
        have hwi : IntKind.i64.wrap ((k : Int) + 1) = (k : Int) + 1 := by rw [IntKind.wrap_i64]; omega
        clear hx h8 p4 q4 hb p1 p2 q1 q2
        go_upto_region 17 with fail
        go_region_held3 (fun w' => w'.cell? ⟨mb, 0, none⟩ = some (.slice (some ⟨fb, fo, none⟩) 24 fc) ∧ w'.cell? ⟨nb, 0, none⟩ = some (.slice (some ⟨gb, go, none⟩) 24 hc) ∧ w'.cell? ⟨fb, fo + k * 4, none⟩ = some (.int .i64 x.owner) ∧ w'.cell? ⟨fb, fo + k * 4 + 3, none⟩ = some (.slice xwa 8 xwc) ∧ w'.cell? ⟨gb, go + k * 4, none⟩ = some (.int .i64 x.owner) ∧ w'.cell? ⟨gb, go + k * 4 + 3, none⟩ = some (.slice ywa 8 ywc))
          (first | exact ⟨m0', n0', p0, p3, q0, q3⟩ | exact ⟨d0, d1, d2, d3, d4, d5⟩ | go_keep | (refine ⟨?_, ?_, ?_, ?_, ?_, ?_⟩ <;> (go_simp; done)))
          (first
            | (skip
               go_at_call 17
               refine (equalInts xwa ywa x.words x.words 8 8 xwc ywc _ H8.out H8.out (by omega) (by omega) (HP4.out.mono (by go_grown)) (HQ4.out.mono (by go_grown))).mono ?_
               rintro z w7 ⟨rfl, hb7⟩
               rw [show decide (x.words = x.words) = true from decide_eq_true rfl]
               have B7 : Below wr.heap.size wr w7 := Below.trans (by go_grown) (hb7.mono (by go_size))
               have d0 := cell_later B7 m0'
               have d1 := cell_later B7 n0'
               have d2 := cell_later B7 p0
               have d3 := cell_later B7 p3
               have d4 := cell_later B7 q0
               have d5 := cell_later B7 q3))
        all_goals
          have HB7 := hid (HBB.out.trans (B7.mono HBB.out.size))
          clear B7 hb7
          go_wp2_with fail
          go_roundw
          case rel => first | exact ⟨k + 1, by omega, by go_num, HB7.out⟩ | exact ⟨k + 1, by omega, by go_num, HB7.out.trans (Below.mono (below_drew _) HB7.out.size)⟩
          case measure => simp [intOf]; omega
      · obtain rfl : k = 24 := by omega
        have hget : ∀ (j : Nat) (z : AnsD), badAns[j]? = some z → ∃ b off, ya = some ⟨b, off, none⟩ ∧ wr.cell? ⟨b, off + (gn + j) * 2, none⟩ = some (.int .i64 z.code) := fun j z hz => by
          obtain ⟨b, off, e1, h1, _⟩ := HY.out.mono hb (gn + j) z (by rw [List.getElem?_append_right (by rw [HXN.out]; omega), HXN.out, show gn + j - gn = j by omega]; exact hz)
          exact ⟨b, off, e1, h1⟩
        obtain ⟨yb, yo, rfl, t0⟩ := hget 0 ⟨3, 0⟩ rfl
        obtain ⟨_, _, e1, t1⟩ := hget 1 ⟨5, 0⟩ rfl
        obtain ⟨rfl, rfl, _⟩ := Addr.mk.inj (Option.some.inj e1)
        obtain ⟨_, _, e2, t2⟩ := hget 2 ⟨2, 0⟩ rfl
        obtain ⟨rfl, rfl, _⟩ := Addr.mk.inj (Option.some.inj e2)
        obtain ⟨_, _, e3, t3⟩ := hget 3 ⟨5, 0⟩ rfl
        obtain ⟨rfl, rfl, _⟩ := Addr.mk.inj (Option.some.inj e3)
        obtain ⟨_, _, e4, t4⟩ := hget 4 ⟨5, 0⟩ rfl
        obtain ⟨rfl, rfl, _⟩ := Addr.mk.inj (Option.some.inj e4)
        rw [Nat.add_zero] at t0
        simp only at t0 t1 t2 t3 t4
        have HBB := hid hb
        have r1 : IntKind.i64.wrap ((gn : Int) + 1) = ((gn + 1 : Nat) : Int) := by rw [IntKind.wrap_i64]; omega
        have r2 : IntKind.i64.wrap ((gn : Int) + 2) = ((gn + 2 : Nat) : Int) := by rw [IntKind.wrap_i64]; omega
        have r3 : IntKind.i64.wrap ((gn : Int) + 3) = ((gn + 3 : Nat) : Int) := by rw [IntKind.wrap_i64]; omega
        have r4 : IntKind.i64.wrap ((gn : Int) + 4) = ((gn + 4 : Nat) : Int) := by rw [IntKind.wrap_i64]; omega
        have m1' := cell_later hb m1
        have n1' := cell_later hb n1
        have HE1 := hid ((mach_encls HMF.out).mono hb)
        have HE2 := hid ((mach_encls HNF.out).mono hb)
        clear hget e1 e2 e3 e4 hb m0' n0' m0 n0 m1 n1
        go_wp2_with fail
        refine (equalEncls ea hea M.encl 4 ec hec _ HGM.out.el (by omega) HE1.out HE2.out).mono ?_
        rintro e w12 ⟨rfl, hb12⟩
        have BW := HB.out.trans ((HBB.out.trans (hb12.mono HBB.out.size)).mono HB.out.size)
        go_wp2_with fail
        go_ret
        exact ⟨rfl, BW⟩
set_option maxRecDepth 100000 in
theorem hostsGood_args {H : Type} {enc : TypeId × Value → H} (W : World) (b0 : Nat) (args : Array Value) (hT : Tab W) (hs : args.size = (Tryd.f3).params.size)
    (ha : ∀ (j : Nat) t v, (Tryd.f3).params[j]? = some t → args[j]? = some v → Value.okWide Tryd.prog W .any b0 t v ∧ Rd enc Tryd.prog W t v.cells.toList) :
    Calls Tryd.prog 3 args W fun e w' => e = .returned (.bool true) ∧ Below W.heap.size W w' := by
  obtain ⟨l⟩ := args
  match l, hs with
  | [v, v1, v2, v3], _ =>
    obtain ⟨h1, h2⟩ := ha 0 _ v rfl rfl
    obtain ⟨a, l, c, e, hl, ra, kl⟩ := rd_raws h2
    obtain rfl : v = .slice a l.length c := by
      have := rd_slice_v Tryd.underlying22 h1
      rw [this] at e
      exact (List.cons.inj e).1
    obtain ⟨h3, h4⟩ := ha 1 _ v1 rfl rfl
    obtain ⟨ba, bl, bc, e2, hbl, rb, kb⟩ := rd_raws h4
    obtain rfl : v1 = .slice ba bl.length bc := by
      have := rd_slice_v Tryd.underlying22 h3
      rw [this] at e2
      exact (List.cons.inj e2).1
    obtain ⟨r, rfl, hr⟩ := rd_raw (ha 2 _ v2 rfl rfl).1 (ha 2 _ v2 rfl rfl).2
    obtain ⟨k, rfl, hk⟩ := rd_int_v (ha 3 _ v3 rfl rfl).1 (ha 3 _ v3 rfl rfl).2
    exact hostsGood_calls a l l.length c ba bl bl.length bc r k W rfl hl ra kl rfl hbl rb kb hr hk hT

set_option maxRecDepth 100000 in
theorem hostsGood_lifted (os : Os) (started : os.Started) (H : Type) (enc : TypeId × Value → H) :
    ReturnsInHanded {} Tryd.checked os 3 .any (fun w args => (Rows.hostsGoodSpec.pre enc Tryd.prog Tryd.f3 [] false w args ∧ laidMetH Tryd.prog Rows.hostsGoodRow.laid w) ∧ sizedMet enc Tryd.prog Tryd.f3 (OpenSpec.ofChange Rows.hostsGoodSpec) false w args)
      (Rows.hostsGoodSpec.post enc Tryd.prog Tryd.f3 false true false false) := by
  refine returnsInHanded_of_change_and (C := Tryd.checked) (X := fun w _ => laidMetH Tryd.prog Rows.hostsGoodRow.laid w) (fun _ _ _ hh h => h.of_heap hh) own started (by kernel_rfl) Tryd.func3
    (ChangeSpec.witness_shaped (enc := enc) (C := Tryd.checked) (os := os) (X := fun w _ => laidMetH Tryd.prog Rows.hostsGoodRow.laid w) false (World.doorLaid Tryd.prog doorSteps os) #[.slice none 0 0, .slice none 0 0, .agg #[.int .i64 0, .int .i64 0, .int .i64 0, .int .i64 0], .int .i64 0] 8 rfl (World.shaped_of_RefB (by kernel_rfl) (by kernel_rfl)) (by kernel_rfl) (by kernel_rfl) (by kernel_rfl) (door_met os _)) ?_
  intro W base args ds gs before hval hW _ hsz hL _
  exact law_contract laidOut (by kernel_rfl) rfl Tryd.underlying4 rfl (fun ds h => by
    match ds, h with
    | [_, _, _, _], _ => exact ⟨rfl, rfl, rfl⟩) hval hW hsz fun hs ha => hostsGood_args W base args (tab_of_laid hL) hs ha

theorem hostsGood_row : Rows.HostsGoodSaid :=
  OpenClaim.holds_of_wide 3 Tryd.f3 rfl rfl rfl rfl rfl rfl rfl ⟨rfl, rfl, rfl, rfl, rfl⟩ rfl rfl rfl rfl rfl (by kernel_rfl) Tryd.func3 (by kernel_rfl)
    (of_decide_eq_true (by kernel_rfl)) (by unfold Func.isWrapper; first | (rw [if_pos (by decide +kernel)]; kernel_rfl) | (rw [if_neg (by decide +kernel)]; exact ⟨rfl, rfl⟩))
    (fun os started H enc _ => hostsGood_lifted os started H enc)

theorem hostsGood_holds : Rows.HostsGoodCardSaid :=
  Claim7.holds_tied_plain_at .later [] [.data, .data, .data] true _ false
    hostsGood_row (fun _ h => by cases h) (by kernel_rfl) (fun _ h => by cases h) hostsGood_row_tie rfl ⟨rfl, rfl⟩ (by kernel_rfl) rfl
    (fun f fn hf hfn => by
      obtain rfl : f = 3 := Option.some.inj ((show Tryd.prog.funcNamed Rows.hostsGoodRow.func = some 3 by kernel_rfl).symm.trans hf) |>.symm
      obtain rfl : fn = Tryd.f3 := (Option.some.inj (Tryd.func3.symm.trans hfn)).symm
      exact ⟨by kernel_rfl, fun j t ht => by
        have hm : t ∈ (Tryd.f3).params.toList := by simpa using Array.mem_of_getElem? ht
        have hall : ((Tryd.f3).params.toList.all fun u => !Tryd.prog.wantsStandIn u) = true := by kernel_rfl
        exact (show Tryd.prog.wantsStandIn t = false by simpa using List.all_eq_true.1 hall t hm)⟩)
    (by kernel_rfl)


end Go.Proofs.YtbamacddfonloaaDoor
