/- A nonce comes back only in a quote that was made by who is measured as expected; each once: the law returns true at all raw things and words; its arguments read as they did; the card is tied. Condition: the library's tables start as the program's text lays them. -/
import Derived.Test.YtbamacddfonloaaDoorLiftD
import Derived.Test.YtbamacddfonloaaDoorGc
import Derived.Test.YtbamacddfonloaaDoorGw
import Derived.Test.YtbamacddfonloaaDoorTrustPlain
import Derived.Test.YtbamacddfonloaaDoorGy
import Derived.Test.YtbamacddfonloaaDoorGx
import Derived.Test.YtbamacddfonloaaDoorContains
namespace Go.Proofs.YtbamacddfonloaaDoor
open Go.ChangeShapes Go.WideShapes Go.ChangeAt Go.RowKit

theorem mach_quotes {W : World} {fa ea qa : Option Addr} {fn fc en ec qn qc : Nat} {M : MachD} (h : MachAt W (.agg #[.slice fa fn fc, .slice ea en ec, .slice qa qn qc]) M) : QuotesAt W qa M.quotes := by
  obtain ⟨x0, x1, x2, x3, x4, x5, ex, _, _, hQ, _⟩ := h
  simp only [Value.agg.injEq, Array.mk.injEq, List.cons.injEq, Value.slice.injEq, and_true] at ex
  obtain ⟨_, _, ⟨rfl, _, _⟩⟩ := ex
  exact hQ
theorem CellsAt.new {W : World} {n : Nat} (hn : W.heap.size = n) (cs : Array Value) (t : TypeId) : CellsAt (W.alloc (.cells cs t)) (some ⟨n, 0, none⟩) cs.toList := fun j u hj => by
  have := news_new hn cs t j u hj
  rw [add_plain] at this
  exact ⟨n, 0, rfl, this⟩
theorem plan0 (a : Option Addr) (l : List PageD) (n cap : Nat) (w : World) (hl : l.length = n) (hf : PagesFit l) (hc : PagesAt w a l) (h0 : imageF l = 0) (hfr : n ≤ 24) :
    Calls Tryd.prog 9 #[.slice a n cap, .int .i64 1, .int .i64 0] w (PlanRes w.heap.size (planD l 1 0) w) := imagePlan a l n cap 1 0 w hl hf hc h0 (by omega) (by omega) (by omega)
theorem plan10 (a : Option Addr) (l : List PageD) (n cap : Nat) (w : World) (hl : l.length = n) (hf : PagesFit l) (hc : PagesAt w a l) (h0 : imageF l = 0) (hfr : 10 + n ≤ 24) :
    Calls Tryd.prog 9 #[.slice a n cap, .int .i64 2, .int .i64 10] w (PlanRes w.heap.size (planD l 2 10) w) := imagePlan a l n cap 2 10 w hl hf hc h0 (by omega) (by omega) (by omega)
theorem rd_ints64 {H : Type} {enc : TypeId × Value → H} {w : World} {cs : List Value} (h : Rd enc Tryd.prog w 41 cs) : ∃ a l cap, cs = [.slice a (List.length l) cap] ∧ l.length * 8 ≤ 140737488351232 ∧ IntsAt w a l ∧ ∀ x ∈ l, Is64 x := by
  obtain ⟨a, n, cap, rfl, hcap, hz, hi⟩ := h.slice Tryd.underlying41 (by rw [cInt]; decide)
  obtain ⟨l, hl, hr⟩ := choose_list (R := fun i x => (∃ b off, a = some ⟨b, off, none⟩ ∧ w.cell? ⟨b, off + i, none⟩ = some (.int .i64 x)) ∧ Is64 x) fun i him => by
    obtain ⟨b, off, cs', ha, hcl, hc, hx⟩ := hi i him
    obtain ⟨x, rfl, k0⟩ := hx.int Tryd.underlying3
    exact ⟨x, ⟨b, off, ha, by have := hc 0 _ rfl; rw [cInt] at this; simpa using this⟩, lit64 k0⟩
  rw [bInt, reach_eq] at hz
  subst hl
  refine ⟨a, l, cap, rfl, hz, fun i x hx => (hr i x hx).1, fun x hx => ?_⟩
  obtain ⟨j, hj, rfl⟩ := List.getElem_of_mem hx
  exact (hr j _ (List.getElem?_eq_getElem hj)).2
/-- Behind the script. -/
structure TrSt (w : World) (ga : Option Addr) (L : List ActD) (za : Option Addr) (X : List AnsD) (mb : Nat) (qa : Option Addr) (qc : Nat) (M : MachD) (cb : Nat) (na : Option Addr) (nc : Nat) (C : ChalD) (W : World) : Prop where
  below : Below w.heap.size w W
  acts : ActsAt W ga L
  ans : AnsAt W za X
  m2 : W.cell? ⟨mb, 2, none⟩ = some (.slice qa M.quotes.length qc)
  q : QuotesAt W qa M.quotes
  c1 : W.cell? ⟨cb, 1, none⟩ = some (.slice na C.nonces.length nc)
  n : IntsAt W na C.nonces
theorem TrSt.later {w : World} {ga : Option Addr} {L : List ActD} {za : Option Addr} {X : List AnsD} {mb : Nat} {qa : Option Addr} {qc : Nat} {M : MachD} {cb : Nat} {na : Option Addr} {nc : Nat} {C : ChalD} {W W' : World} (h : TrSt w ga L za X mb qa qc M cb na nc C W) (hb : Below W.heap.size W W') : TrSt w ga L za X mb qa qc M cb na nc C W' :=
  ⟨h.below.trans (hb.mono h.below.size), h.acts.mono hb, h.ans.mono hb, cell_later hb h.m2, h.q.mono hb, cell_later hb h.c1, h.n.mono hb⟩
theorem sameQ_self (q : QuoteD) : sameQ q q = true := by simp [sameQ]

set_option maxRecDepth 10000 in
set_option maxHeartbeats 4800000 in
theorem topTrusted_calls (a : Option Addr) (l : List RawD) (n c : Nat) (r : RawD) (oa : Option Addr) (ol : List RawD) (on oc : Nat) (s : RawD) (wa : Option Addr) (ws : List Int) (wn wc : Nat) (w : World) (hn : l.length = n) (hl : n * 32 ≤ 140737488351232) (ha : RawsAt w a l)
    (kl : ∀ x ∈ l, x.Ok) (hr : r.Ok) (hon : ol.length = on) (hol : on * 32 ≤ 140737488351232) (hoa : RawsAt w oa ol) (ko : ∀ x ∈ ol, x.Ok) (hs : s.Ok) (hwn : ws.length = wn) (hwl : wn * 8 ≤ 140737488351232) (hwa : IntsAt w wa ws) (kw : ∀ x ∈ ws, Is64 x) (hT : Tab w) :
    Calls Tryd.prog 7 #[.slice a n c, .agg #[.int .i64 r.kind, .int .i64 r.a, .int .i64 r.b, .int .i64 r.c], .slice oa on oc, .agg #[.int .i64 s.kind, .int .i64 s.a, .int .i64 s.b, .int .i64 s.c], .slice wa wn wc] w fun e w' => e = .returned (.bool true) ∧ Below w.heap.size w w' := by
  obtain ⟨i0, hinf, hz0, hz1, hz2⟩ := info_parts infoActs
  have HA := hid ha
  have HN := hid hn
  have HKL := hid kl
  have HR := hid hr
  have HON := hid hon
  have HOA := hid hoa
  have HKO := hid ko
  have HS := hid hs
  have HWN := hid hwn
  have HWA := hid hwa
  have HKW := hid kw
  have HT := hid hT
  have HGA := hid (imageD_good l r)
  have HGB := hid (imageD_good ol s)
  have hla := (imageD_len l r).2
  have hlb := (imageD_len ol s).2
  clear ha hn kl hr hon hoa ko hs hwn hwa kw hT
  go_enter Tryd.func7, Tryd.ntmps7
  go_upto_region 1 with fail
  refine act_gen (fun W => Below w.heap.size w W ∧ W.cell? ⟨w.heap.size, 0, none⟩ = some (.int .i64 r.kind) ∧ W.cell? ⟨w.heap.size, 1, none⟩ = some (.int .i64 r.a) ∧ W.cell? ⟨w.heap.size, 2, none⟩ = some (.int .i64 r.b) ∧ W.cell? ⟨w.heap.size, 3, none⟩ = some (.int .i64 r.c) ∧
      W.cell? ⟨w.heap.size + 1, 0, none⟩ = some (.int .i64 s.kind) ∧ W.cell? ⟨w.heap.size + 1, 1, none⟩ = some (.int .i64 s.a) ∧ W.cell? ⟨w.heap.size + 1, 2, none⟩ = some (.int .i64 s.b) ∧ W.cell? ⟨w.heap.size + 1, 3, none⟩ = some (.int .i64 s.c))
    ⟨by go_grown, by go_simp, by go_simp, by go_simp, by go_simp, by go_simp, by go_simp, by go_simp, by go_simp⟩ ?_
  rintro wz ⟨hba, q0, q1, q2, q3, s0, s1, s2, s3⟩
  have HBa := hid hba
  clear hba
  go_wp2_with fail
  refine (keepImage a l n c r _ HN.out hl (HA.out.mono HBa.out) HKL.out HR.out).mono ?_
  rintro e w1 ⟨ia, ic, rfl, hI, hb1⟩
  replace s0 := cell_later hb1 s0
  replace s1 := cell_later hb1 s1
  replace s2 := cell_later hb1 s2
  replace s3 := cell_later hb1 s3
  have HB1 := hid (HBa.out.trans (hb1.mono HBa.out.size))
  have HI := hid hI
  clear hb1 hI HBa q0 q1 q2 q3
  generalize imageD l r = LA at *
  have HFA := hid (good_fit HGA.out)
  go_wp2_with fail
  refine (imageExpect ia LA LA.length ic _ rfl HFA.out HI.out (HT.out.mono HB1.out)).mono ?_
  rintro e w2 ⟨rfl, hb2⟩
  rw [expectD_good HGA.out]
  replace s0 := cell_later hb2 s0
  replace s1 := cell_later hb2 s1
  replace s2 := cell_later hb2 s2
  replace s3 := cell_later hb2 s3
  have HB2 := hid (HB1.out.trans (hb2.mono HB1.out.size))
  have HI2 := hid (HI.out.mono hb2)
  clear hb2 HB1 HI
  dsimp only
  go_wp2_with fail
  refine (plan0 ia LA LA.length ic _ rfl HFA.out HI2.out HGA.out (by omega)).mono ?_
  rintro e w3 ⟨pv, rfl, hP, hb3⟩
  obtain ⟨pa, pc, rfl, hPC⟩ := hP.row
  have HPC := hid hPC
  replace s0 := cell_later hb3 s0
  replace s1 := cell_later hb3 s1
  replace s2 := cell_later hb3 s2
  replace s3 := cell_later hb3 s3
  have HB3 := hid (HB2.out.trans (hb3.mono HB2.out.size))
  clear hb3 hP hPC HB2 HI2
  dsimp only
  go_wp2_with fail
  refine (keepImage oa ol on oc s _ HON.out hol (HOA.out.mono HB3.out) HKO.out HS.out).mono ?_
  rintro e w4 ⟨ja, jc, rfl, hJ, hb4⟩
  have HB4 := hid (HB3.out.trans (hb4.mono HB3.out.size))
  have HJ := hid hJ
  have HPC4 := hid (HPC.out.mono hb4)
  clear hb4 hJ HB3 HPC s0 s1 s2 s3
  generalize imageD ol s = LB at *
  have HFB := hid (good_fit HGB.out)
  go_wp2_with fail
  refine (plan10 ja LB LB.length jc _ rfl HFB.out HJ.out HGB.out (by omega)).mono ?_
  rintro e w5 ⟨pv, rfl, hP, hb5⟩
  obtain ⟨ra, rc, rfl, hRC⟩ := hP.row
  have HPC5 := hid (HPC4.out.mono hb5)
  have HRC := hid hRC
  have HB5 := hid (HB4.out.trans (hb5.mono HB4.out.size))
  clear hb5 hP hRC HB4 HJ HPC4
  dsimp only
  have h124 := both_len160 HGA.out HGB.out hla hlb
  obtain ⟨n1, hn1⟩ : ∃ n1, (planD LA 1 0).length = n1 := ⟨_, rfl⟩
  obtain ⟨n2, hn2⟩ : ∃ n2, (planD LB 2 10).length = n2 := ⟨_, rfl⟩
  have HN1 := hid hn1
  have HN2 := hid hn2
  rw [hn1, hn2] at h124 ⊢
  clear hn1 hn2
  have hw12 : IntKind.i64.wrap ((n1 : Int) + (n2 : Int)) = (n1 : Int) + (n2 : Int) := by rw [IntKind.wrap_i64]; omega
  have hgt : ¬ ((n1 : Int) + (n2 : Int) > 160) := by omega
  have hlt' : ¬ (160 < (n1 : Int) + (n2 : Int)) := by omega
  go_wp2_with fail
  refine (concatA _ [⟨pa, pc, planD LA 1 0⟩, ⟨ra, rc, planD LB 2 10⟩] 2 _ _ rfl (by omega) ?_ ?_ ?_).mono ?_
  · intro j u hj
    rcases j with _ | _ | j
    · simp only [List.map_cons, List.map_nil, List.getElem?_cons_zero, Option.some.injEq, RowA.v] at hj
      subst hj
      rw [HN1.out]
      exact ⟨_, 0, rfl, by go_simp⟩
    · simp only [List.map_cons, List.map_nil, List.getElem?_cons_succ, List.getElem?_cons_zero, Option.some.injEq, RowA.v] at hj
      subst hj
      rw [HN2.out]
      exact ⟨_, 0, rfl, by go_simp⟩
    · simp at hj
  · intro p hp
    simp only [List.mem_cons, List.not_mem_nil, or_false] at hp
    rcases hp with rfl | rfl
    · exact HPC5.out.mono (by go_grown)
    · exact HRC.out.mono (by go_grown)
  · simp only [List.flatMap_cons, List.flatMap_nil, List.append_nil, List.length_append]
    rw [HN1.out, HN2.out]
    omega
  rintro e w6 ⟨ca, cc, rfl, hC, hb6⟩
  have eL : [(⟨pa, pc, planD LA 1 0⟩ : RowA), ⟨ra, rc, planD LB 2 10⟩].flatMap RowA.l = trL LA LB ws 0 := by simp [trL, trips, bothL]
  rw [eL] at hC ⊢
  clear eL
  have b6 : Below w5.heap.size w5 w6 := Below.trans (by go_grown) (hb6.mono (by go_size))
  have HB6 : Hid (Below w.heap.size w w6) := HB5.out.trans (b6.mono HB5.out.size)
  have HO6 : Hid (OwnActs w.heap.size w6 (.slice ca (trL LA LB ws 0).length cc) (trL LA LB ws 0)) := hC.mono (by have := HB5.out.size; simp; omega)
  clear hC hb6 b6 HB5 HPC5 HRC hgt hlt' hw12
  have hwn9 : wn ≤ 9223372036854775807 := by omega
  go_wp2_with fail
  go_loopw [18, 19] (fun ov j W => ∃ i : Nat, i ≤ wn ∧ i ≤ 6 ∧ j = .int .i64 i ∧ Hid (OwnActs w.heap.size W ov (trL LA LB ws i)) ∧ Below w.heap.size w W) (fun _ j _ => 6 - (intOf j).toNat)
  case atStart => exact ⟨0, by omega, by omega, rfl, HO6, HB6.out⟩
  case round =>
    clear HO6 HB6
    obtain ⟨i, hin, hi6, rfl, HO, hb⟩ := hrel
    obtain ⟨ga, gc, rfl, -⟩ := HO.out.at
    have HLI : Hid ((trL LA LB ws i).length ≤ 148) := by
      show _ ≤ _
      have := trips_len ws i
      simp only [trL, bothL, List.length_append]
      rw [HN1.out, HN2.out]
      omega
    have hsz := hb.size
    have HB := hid hb
    by_cases hgo : i < wn ∧ i < 6
    · obtain ⟨h1, h2⟩ := hgo
      obtain ⟨m, hm⟩ : ∃ m, ws[i]? = some m := ⟨_, List.getElem?_eq_getElem (by rw [HWN.out]; exact h1)⟩
      obtain ⟨vb, vo, rfl, k0⟩ := (HWA.out.mono hb) i m hm
      have HM := hid (HKW.out m (List.mem_of_getElem? hm))
      have hst : trL LA LB ws (i + 1) = trL LA LB ws i ++ [⟨10, 0, 0, 0, 0, 0, 0⟩, ⟨8, 1 + (i : Int) % 2, 0, 0, 0, pickD m 9, 60⟩, ⟨11, 0, 0, (i : Nat), 0, 0, 0⟩, ⟨11, 0, 0, (i : Int) / 2, 0, 0, 0⟩] := by
        rw [trL, trL, trips, hm]
        simp only [Option.getD_some, List.append_assoc]
      have HST := hid hst
      have hwi : IntKind.i64.wrap ((i : Int) + 1) = (i : Int) + 1 := by rw [IntKind.wrap_i64]; omega
      have hmod : (i : Int).tmod 2 = (i : Int) % 2 := Int.tmod_eq_emod_of_nonneg (by omega)
      have hdiv : (i : Int).tdiv 2 = (i : Int) / 2 := Int.tdiv_eq_ediv_of_nonneg (by omega)
      have hw1 : IntKind.i64.wrap (1 + (i : Int) % 2) = 1 + (i : Int) % 2 := by rw [IntKind.wrap_i64]; omega
      have hw2 : IntKind.i64.wrap ((i : Int) / 2) = (i : Int) / 2 := by rw [IntKind.wrap_i64]; omega
      clear hst hm hb
      generalize trL LA LB ws i = H at HO HST HLI
      have HO2 : Hid (∀ X, OwnActs w.heap.size (wr.alloc X) (.slice ga H.length gc) H) := fun X => HO.out.below (below_alloc _ _)
      go_wp2_with fail
      refine (picked2_any m 9 _ HM.out (by decide)).mono ?_
      rintro e u ⟨rfl, hu⟩
      obtain rfl := hu.symm
      clear hu
      go_wp2_with (at_builtin; refine wpList_append_any rfl _ _ 25 rfl w.heap.size 33 i0 _ 7 56 Tryd.underlying25 hinf hz0 hz1 hz2 rfl (by decide) _ _ _ rfl (HO2.out _) _ 4 4 ((⟨10, 0, 0, 0, 0, 0, 0⟩ : ActD).cs ++ (⟨8, 1 + (i : Int) % 2, 0, 0, 0, pickD m 9, 60⟩ : ActD).cs ++ (⟨11, 0, 0, (i : Nat), 0, 0, 0⟩ : ActD).cs ++ (⟨11, 0, 0, (i : Int) / 2, 0, 0, 0⟩ : ActD).cs) rfl rfl (CellsAt.new rfl _ _) (by simp [ActD.cs, Value.oneCell']) ?c1 ?c2 ?c3 ?_)
      case c1 => unfold maxLen; have := HLI.out; omega
      case c2 => have := HLI.out; omega
      case c3 => simp; omega
      intro v2 w5 hown hg
      have HB5 := hid ((HB.out.trans (Below.mono (below_alloc _ _) hsz)).grown hg (by simp; omega) (fun q hq => ((HO2.out (.cells #[] 0)).lt q hq).1))
      have HO5 := hid hown
      clear hown hg
      go_wp2_with fail
      go_roundw
      case rel =>
        refine ⟨i + 1, by omega, by omega, by go_num, ?_, HB5.out⟩
        rw [HST.out]
        show World.ownsRow _ _ _ _ _ _ _
        rw [List.length_append, List.flatMap_append]
        simpa using HO5.out
      case measure => simp [intOf]; omega
    obtain ⟨X, M, C, hTD⟩ := trust_ends (ws := ws) (i := i) HGA.out HGB.out hla hlb hi6
    have HTD := hid hTD
    generalize trL LA LB ws i = L at *
    obtain ⟨ln, hln⟩ : ∃ ln, L.length = ln := ⟨_, rfl⟩
    have HLN := hid hln
    rw [hln] at HO ⊢
    have HGL : Hid (ActsAt wr ga L) := by
      obtain ⟨a3, c3, e3, h3⟩ := CellsAt.of_own HO.out
      obtain ⟨rfl, _, _⟩ := Value.slice.inj e3
      exact h3.acts
    obtain ⟨T, hTT⟩ : ∃ T, bytesOf (expectL LA) = T := ⟨_, rfl⟩
    rw [hTT] at HTD ⊢
    have hl148 : ln ≤ 148 := by rw [← hln]; exact HLI.out
    clear hTD hln hTT HO hb HLI
    by_cases h1 : i < wn
    · have h2 : ¬ i < 6 := fun h2 => hgo ⟨h1, h2⟩
      clear hgo
      go_upto_region 12 with fail
      go_wp2_with fail
      refine (hostRunAll _ 1 [T] ga gc ln L _ HLN.out (fun j u hj => by
        rcases j with _ | j
        · cases hj
          exact ⟨_, 0, rfl, by go_simp⟩
        · simp at hj) (HGL.out.mono (below_alloc _ _)) (by simp) (by omega) (HT.out.mono (HB.out.trans (Below.mono (below_alloc _ _) HB.out.size)))).mono ?_
      rintro e w7 ⟨xv, mv, cv, rfl, hX, hM, hC, hb7⟩
      rw [HTD.out.script] at hX hM hC ⊢
      dsimp only at hX hM hC ⊢
      have hxl : X.length = ln := by rw [HTD.out.len, HLN.out]
      rw [hxl] at hX
      obtain ⟨za, zc, rfl, hXC⟩ := CellsAt.of_own hX
      obtain ⟨fa, fc, ea, ec, qa, qc, rfl⟩ := hM.parts
      have hCA := hC.at
      obtain ⟨ta, tc, na, nc, rfl, _, hNI⟩ := hCA
      have b7 : Below wr.heap.size wr w7 := (below_alloc _ _).trans (hb7.mono (by go_size))
      have HB7 := hid (HB.out.trans (b7.mono HB.out.size))
      have HZ := hid hXC.ans
      have HQ := hid (mach_quotes hM.at)
      have HNI := hid hNI
      have HG7 := hid (HGL.out.mono b7)
      have HXL := hid hxl
      clear hX hM hC hXC hNI hb7 b7 hxl HGL HB
      go_upto_region 13 with fail
      refine act_gen (TrSt w ga L za X w7.heap.size qa qc M (w7.heap.size + 1) na nc C) ⟨HB7.out.trans (Below.mono (by go_grown) HB7.out.size), HG7.out.mono (by go_grown), HZ.out.mono (by go_grown), by go_simp, HQ.out.mono (by go_grown), by go_simp, HNI.out.mono (by go_grown)⟩ ?_
      clear HB7 HG7 HZ HQ HNI
      generalize w7.heap.size = mb
      intro W HTS
      have m2 := HTS.m2
      have c1 := HTS.c1
      have hnl := (chalF_le HTD.out.chal).2
      obtain ⟨nn, hnn⟩ : ∃ nn, C.nonces.length = nn := ⟨_, rfl⟩
      have HNN := hid hnn
      rw [hnn] at c1 hnl
      obtain ⟨tot, htot⟩ : ∃ tot, okTo L X ln = tot := ⟨_, rfl⟩
      have HTOT := hid htot
      have HCN : Hid (C.nonces.countP (fun n => n == 1) = tot) := by show _ = _; rw [HTD.out.tr.many, HLN.out]; exact htot
      have htl : tot ≤ 20 := by rw [← HCN.out]; exact Nat.le_trans List.countP_le_length (by omega)
      have HNI := hid HTS.n
      have HQ := hid HTS.q
      have HG7 := hid HTS.acts
      have HZ := hid HTS.ans
      have HBW := hid HTS.below
      have hql : M.quotes.length ≤ 40 := HTD.out.good.ql
      clear HTS hnn htot
      go_wp2_with fail
      go_loopw [24, 120] (fun bv j W' => ∃ k : Nat, k ≤ nn ∧ j = .int .i64 k ∧ bv = .int .i64 ((C.nonces.take k).countP (fun n => n == 1) : Nat) ∧ Below W.heap.size W W') (fun _ j _ => nn - (intOf j).toNat)
      case atStart => exact ⟨0, by omega, rfl, rfl, Below.refl _ _⟩
      case round =>
        obtain ⟨k, hk, rfl, rfl, hb⟩ := hrel
        by_cases hkn : k < nn
        · obtain ⟨m, hm⟩ : ∃ m, C.nonces[k]? = some m := ⟨_, List.getElem?_eq_getElem (by rw [HNN.out]; exact hkn)⟩
          obtain ⟨nb, no, rfl, k0⟩ := HNI.out.mono hb k m hm
          have m2' := cell_later hb m2
          have hst : (C.nonces.take (k + 1)).countP (fun n => n == 1) = (C.nonces.take k).countP (fun n => n == 1) + if m == 1 then 1 else 0 := by
            rw [take_one hm, List.countP_append, List.countP_singleton]
          have HST := hid hst
          have hcl : (C.nonces.take k).countP (fun n => n == 1) ≤ k := Nat.le_trans List.countP_le_length (by rw [List.length_take]; omega)
          generalize (C.nonces.take k).countP (fun n => n == 1) = cn at HST hcl ⊢
          have hwk : IntKind.i64.wrap ((k : Int) + 1) = (k : Int) + 1 := by rw [IntKind.wrap_i64]; omega
          have hwc : IntKind.i64.wrap ((cn : Int) + 1) = (cn : Int) + 1 := by rw [IntKind.wrap_i64]; omega
          have HBB := hid hb
          by_cases h1 : m = 1
          · subst h1
            have hany : M.quotes.any (sameQ ⟨T, (k : Int) + 1⟩) = true := by
              obtain ⟨q, hq, e1, e2⟩ := HTD.out.tr.made k hm
              refine List.any_eq_true.2 ⟨q, hq, ?_⟩
              rw [← e1, ← e2]
              exact sameQ_self q
            have HANY := hid hany
            clear hst hm hany hb
            go_wp2_with fail
            refine (containsQuotes ⟨T, (k : Int) + 1⟩ qa M.quotes _ qc _ (by omega) rfl (HQ.out.mono HBB.out)).mono ?_
            rintro e w9 ⟨rfl, hb9⟩
            rw [HANY.out]
            have HB9 := hid (HBB.out.trans (hb9.mono HBB.out.size))
            clear hb9
            go_wp2_with fail
            go_roundw
            case rel => exact ⟨k + 1, by omega, by go_num, by rw [HST.out]; go_num, HB9.out⟩
            case measure => simp [intOf]; omega
          · have h1b : (m == 1) = false := by rw [beq_eq_false_iff_ne]; exact h1
            have HST2 : Hid ((C.nonces.take (k + 1)).countP (fun n => n == 1) = cn) := by show _ = _; rw [HST.out, h1b]; rfl
            clear hst hm hb h1
            go_wp2_with fail
            go_roundw
            case rel => exact ⟨k + 1, by omega, by go_num, by rw [HST2.out], HBB.out⟩
            case measure => simp [intOf]; omega
        obtain rfl : k = nn := by omega
        have e0 : (C.nonces.take k).countP (fun n => n == 1) = tot := by rw [List.take_of_length_le (by rw [HNN.out]; omega)]; exact HCN.out
        rw [e0]
        have HB2 := hid (HBW.out.trans (hb.mono HBW.out.size))
        have HG2 := hid (HG7.out.mono hb)
        have HZ2 := hid (HZ.out.mono hb)
        clear e0 hb HBW HG7 HZ HNI HQ m2 c1
        go_upto_region 24 with fail
        refine act_gen (fun W3 => Below w.heap.size w W3 ∧ ActsAt W3 ga L ∧ AnsAt W3 za X) ⟨HB2.out, HG2.out, HZ2.out⟩ ?_
        clear HB2 HG2 HZ2
        rintro W3 ⟨hb2, hg2, hz2⟩
        have HB2 := hid hb2
        have HG2 := hid hg2
        have HZ2 := hid hz2
        clear hb2 hg2 hz2
        go_wp2_with fail
        go_loopw [24, 140] (fun bv j W' => ∃ p : Nat, p ≤ ln ∧ j = .int .i64 p ∧ bv = .int .i64 ((tot : Int) - (okTo L X p : Nat)) ∧ Below W3.heap.size W3 W') (fun _ j _ => ln - (intOf j).toNat)
        case atStart => exact ⟨0, by omega, rfl, by simp [okTo], Below.refl _ _⟩
        case round =>
          obtain ⟨p, hp, rfl, rfl, hb⟩ := hrel
          have hok := okTo_le L X p
          by_cases hpn : p < ln
          · obtain ⟨x, hx⟩ : ∃ x, L[p]? = some x := ⟨_, List.getElem?_eq_getElem (by rw [HLN.out]; exact hpn)⟩
            obtain ⟨y, hy⟩ : ∃ y, X[p]? = some y := ⟨_, List.getElem?_eq_getElem (by rw [HXL.out]; exact hpn)⟩
            obtain ⟨lb, lo, rfl, l0, _⟩ := HG2.out.mono hb p x hx
            obtain ⟨yb, yo, rfl, t0, t1⟩ := HZ2.out.mono hb p y hy
            have HST := hid (okTo_step hx hy)
            generalize okTo L X p = ok at HST hok ⊢
            have hwp : IntKind.i64.wrap ((p : Int) + 1) = (p : Int) + 1 := by rw [IntKind.wrap_i64]; omega
            have hws : IntKind.i64.wrap ((tot : Int) - (ok : Int) - 1) = (tot : Int) - (ok : Int) - 1 := by rw [IntKind.wrap_i64]; omega
            have HBB := hid hb
            clear hx hy hb
            go_upto_region 27 with fail
            refine act_gen (fun W5 => Below W3.heap.size W3 W5 ∧ W5.cell? ⟨lb, lo + p * 7, none⟩ = some (.int .i64 x.kind) ∧ W5.cell? ⟨wr.heap.size, 0, none⟩ = some (.int .i64 y.code)) ⟨HBB.out.trans (Below.mono (by go_grown) HBB.out.size), cell_new1 l0 _, by go_simp⟩ ?_
            clear HBB l0 t0 t1
            generalize wr.heap.size = fb'
            rintro W5 ⟨hb, l0, t0⟩
            have HBB := hid hb
            clear hb
            by_cases h11 : x.kind = 11 ∧ y.code = 0
            · have hk11 : (x.kind == 11) = true := by rw [beq_iff_eq]; exact h11.1
              have hc0 : (y.code == 0) = true := by rw [beq_iff_eq]; exact h11.2
              have HS2 : Hid (okTo L X (p + 1) = ok + 1) := by show _ = _; rw [HST.out, okA, if_pos h11]
              clear h11
              go_wp2_with fail
              go_roundw
              case rel => exact ⟨p + 1, by omega, by go_num, by rw [HS2.out]; simp only [Value.int.injEq, true_and]; omega, HBB.out⟩
              case measure => simp [intOf]; omega
            · have HS2 : Hid (okTo L X (p + 1) = ok) := by show _ = _; rw [HST.out, okA, if_neg h11]; rfl
              by_cases hk : x.kind = 11
              · have hk11 : (x.kind == 11) = true := by rw [beq_iff_eq]; exact hk
                have hc0 : (y.code == 0) = false := by rw [beq_eq_false_iff_ne]; exact fun h => h11 ⟨hk, h⟩
                clear h11 hk
                go_wp2_with fail
                go_roundw
                case rel => exact ⟨p + 1, by omega, by go_num, by rw [HS2.out], HBB.out⟩
                case measure => simp [intOf]; omega
              · have hk11 : (x.kind == 11) = false := by rw [beq_eq_false_iff_ne]; exact hk
                clear h11 hk
                go_wp2_with fail
                go_roundw
                case rel => exact ⟨p + 1, by omega, by go_num, by rw [HS2.out], HBB.out⟩
                case measure => simp [intOf]; omega
          obtain rfl : p = ln := by omega
          have BW := HB2.out.trans (hb.mono HB2.out.size)
          have hz : (tot : Int) - ((okTo L X p : Nat) : Int) = 0 := by rw [HTOT.out]; omega
          rw [hz]
          go_wp2_with fail
          go_ret
          exact ⟨rfl, BW⟩
    · clear hgo
      go_upto_region 12 with fail
      go_wp2_with fail
      refine (hostRunAll _ 1 [T] ga gc ln L _ HLN.out (fun j u hj => by
        rcases j with _ | j
        · cases hj
          exact ⟨_, 0, rfl, by go_simp⟩
        · simp at hj) (HGL.out.mono (below_alloc _ _)) (by simp) (by omega) (HT.out.mono (HB.out.trans (Below.mono (below_alloc _ _) HB.out.size)))).mono ?_
      rintro e w7 ⟨xv, mv, cv, rfl, hX, hM, hC, hb7⟩
      rw [HTD.out.script] at hX hM hC ⊢
      dsimp only at hX hM hC ⊢
      have hxl : X.length = ln := by rw [HTD.out.len, HLN.out]
      rw [hxl] at hX
      obtain ⟨za, zc, rfl, hXC⟩ := CellsAt.of_own hX
      obtain ⟨fa, fc, ea, ec, qa, qc, rfl⟩ := hM.parts
      have hCA := hC.at
      obtain ⟨ta, tc, na, nc, rfl, _, hNI⟩ := hCA
      have b7 : Below wr.heap.size wr w7 := (below_alloc _ _).trans (hb7.mono (by go_size))
      have HB7 := hid (HB.out.trans (b7.mono HB.out.size))
      have HZ := hid hXC.ans
      have HQ := hid (mach_quotes hM.at)
      have HNI := hid hNI
      have HG7 := hid (HGL.out.mono b7)
      have HXL := hid hxl
      clear hX hM hC hXC hNI hb7 b7 hxl HGL HB
      go_upto_region 13 with fail
      refine act_gen (TrSt w ga L za X w7.heap.size qa qc M (w7.heap.size + 1) na nc C) ⟨HB7.out.trans (Below.mono (by go_grown) HB7.out.size), HG7.out.mono (by go_grown), HZ.out.mono (by go_grown), by go_simp, HQ.out.mono (by go_grown), by go_simp, HNI.out.mono (by go_grown)⟩ ?_
      clear HB7 HG7 HZ HQ HNI
      generalize w7.heap.size = mb
      intro W HTS
      have m2 := HTS.m2
      have c1 := HTS.c1
      have hnl := (chalF_le HTD.out.chal).2
      obtain ⟨nn, hnn⟩ : ∃ nn, C.nonces.length = nn := ⟨_, rfl⟩
      have HNN := hid hnn
      rw [hnn] at c1 hnl
      obtain ⟨tot, htot⟩ : ∃ tot, okTo L X ln = tot := ⟨_, rfl⟩
      have HTOT := hid htot
      have HCN : Hid (C.nonces.countP (fun n => n == 1) = tot) := by show _ = _; rw [HTD.out.tr.many, HLN.out]; exact htot
      have htl : tot ≤ 20 := by rw [← HCN.out]; exact Nat.le_trans List.countP_le_length (by omega)
      have HNI := hid HTS.n
      have HQ := hid HTS.q
      have HG7 := hid HTS.acts
      have HZ := hid HTS.ans
      have HBW := hid HTS.below
      have hql : M.quotes.length ≤ 40 := HTD.out.good.ql
      clear HTS hnn htot
      go_wp2_with fail
      go_loopw [24, 120] (fun bv j W' => ∃ k : Nat, k ≤ nn ∧ j = .int .i64 k ∧ bv = .int .i64 ((C.nonces.take k).countP (fun n => n == 1) : Nat) ∧ Below W.heap.size W W') (fun _ j _ => nn - (intOf j).toNat)
      case atStart => exact ⟨0, by omega, rfl, rfl, Below.refl _ _⟩
      case round =>
        obtain ⟨k, hk, rfl, rfl, hb⟩ := hrel
        by_cases hkn : k < nn
        · obtain ⟨m, hm⟩ : ∃ m, C.nonces[k]? = some m := ⟨_, List.getElem?_eq_getElem (by rw [HNN.out]; exact hkn)⟩
          obtain ⟨nb, no, rfl, k0⟩ := HNI.out.mono hb k m hm
          have m2' := cell_later hb m2
          have hst : (C.nonces.take (k + 1)).countP (fun n => n == 1) = (C.nonces.take k).countP (fun n => n == 1) + if m == 1 then 1 else 0 := by
            rw [take_one hm, List.countP_append, List.countP_singleton]
          have HST := hid hst
          have hcl : (C.nonces.take k).countP (fun n => n == 1) ≤ k := Nat.le_trans List.countP_le_length (by rw [List.length_take]; omega)
          generalize (C.nonces.take k).countP (fun n => n == 1) = cn at HST hcl ⊢
          have hwk : IntKind.i64.wrap ((k : Int) + 1) = (k : Int) + 1 := by rw [IntKind.wrap_i64]; omega
          have hwc : IntKind.i64.wrap ((cn : Int) + 1) = (cn : Int) + 1 := by rw [IntKind.wrap_i64]; omega
          have HBB := hid hb
          by_cases h1 : m = 1
          · subst h1
            have hany : M.quotes.any (sameQ ⟨T, (k : Int) + 1⟩) = true := by
              obtain ⟨q, hq, e1, e2⟩ := HTD.out.tr.made k hm
              refine List.any_eq_true.2 ⟨q, hq, ?_⟩
              rw [← e1, ← e2]
              exact sameQ_self q
            have HANY := hid hany
            clear hst hm hany hb
            go_wp2_with fail
            refine (containsQuotes ⟨T, (k : Int) + 1⟩ qa M.quotes _ qc _ (by omega) rfl (HQ.out.mono HBB.out)).mono ?_
            rintro e w9 ⟨rfl, hb9⟩
            rw [HANY.out]
            have HB9 := hid (HBB.out.trans (hb9.mono HBB.out.size))
            clear hb9
            go_wp2_with fail
            go_roundw
            case rel => exact ⟨k + 1, by omega, by go_num, by rw [HST.out]; go_num, HB9.out⟩
            case measure => simp [intOf]; omega
          · have h1b : (m == 1) = false := by rw [beq_eq_false_iff_ne]; exact h1
            have HST2 : Hid ((C.nonces.take (k + 1)).countP (fun n => n == 1) = cn) := by show _ = _; rw [HST.out, h1b]; rfl
            clear hst hm hb h1
            go_wp2_with fail
            go_roundw
            case rel => exact ⟨k + 1, by omega, by go_num, by rw [HST2.out], HBB.out⟩
            case measure => simp [intOf]; omega
        obtain rfl : k = nn := by omega
        have e0 : (C.nonces.take k).countP (fun n => n == 1) = tot := by rw [List.take_of_length_le (by rw [HNN.out]; omega)]; exact HCN.out
        rw [e0]
        have HB2 := hid (HBW.out.trans (hb.mono HBW.out.size))
        have HG2 := hid (HG7.out.mono hb)
        have HZ2 := hid (HZ.out.mono hb)
        clear e0 hb HBW HG7 HZ HNI HQ m2 c1
        go_upto_region 24 with fail
        refine act_gen (fun W3 => Below w.heap.size w W3 ∧ ActsAt W3 ga L ∧ AnsAt W3 za X) ⟨HB2.out, HG2.out, HZ2.out⟩ ?_
        clear HB2 HG2 HZ2
        rintro W3 ⟨hb2, hg2, hz2⟩
        have HB2 := hid hb2
        have HG2 := hid hg2
        have HZ2 := hid hz2
        clear hb2 hg2 hz2
        go_wp2_with fail
        go_loopw [24, 140] (fun bv j W' => ∃ p : Nat, p ≤ ln ∧ j = .int .i64 p ∧ bv = .int .i64 ((tot : Int) - (okTo L X p : Nat)) ∧ Below W3.heap.size W3 W') (fun _ j _ => ln - (intOf j).toNat)
        case atStart => exact ⟨0, by omega, rfl, by simp [okTo], Below.refl _ _⟩
        case round =>
          obtain ⟨p, hp, rfl, rfl, hb⟩ := hrel
          have hok := okTo_le L X p
          by_cases hpn : p < ln
          · obtain ⟨x, hx⟩ : ∃ x, L[p]? = some x := ⟨_, List.getElem?_eq_getElem (by rw [HLN.out]; exact hpn)⟩
            obtain ⟨y, hy⟩ : ∃ y, X[p]? = some y := ⟨_, List.getElem?_eq_getElem (by rw [HXL.out]; exact hpn)⟩
            obtain ⟨lb, lo, rfl, l0, _⟩ := HG2.out.mono hb p x hx
            obtain ⟨yb, yo, rfl, t0, t1⟩ := HZ2.out.mono hb p y hy
            have HST := hid (okTo_step hx hy)
            generalize okTo L X p = ok at HST hok ⊢
            have hwp : IntKind.i64.wrap ((p : Int) + 1) = (p : Int) + 1 := by rw [IntKind.wrap_i64]; omega
            have hws : IntKind.i64.wrap ((tot : Int) - (ok : Int) - 1) = (tot : Int) - (ok : Int) - 1 := by rw [IntKind.wrap_i64]; omega
            have HBB := hid hb
            clear hx hy hb
            go_upto_region 27 with fail
            refine act_gen (fun W5 => Below W3.heap.size W3 W5 ∧ W5.cell? ⟨lb, lo + p * 7, none⟩ = some (.int .i64 x.kind) ∧ W5.cell? ⟨wr.heap.size, 0, none⟩ = some (.int .i64 y.code)) ⟨HBB.out.trans (Below.mono (by go_grown) HBB.out.size), cell_new1 l0 _, by go_simp⟩ ?_
            clear HBB l0 t0 t1
            generalize wr.heap.size = fb'
            rintro W5 ⟨hb, l0, t0⟩
            have HBB := hid hb
            clear hb
            by_cases h11 : x.kind = 11 ∧ y.code = 0
            · have hk11 : (x.kind == 11) = true := by rw [beq_iff_eq]; exact h11.1
              have hc0 : (y.code == 0) = true := by rw [beq_iff_eq]; exact h11.2
              have HS2 : Hid (okTo L X (p + 1) = ok + 1) := by show _ = _; rw [HST.out, okA, if_pos h11]
              clear h11
              go_wp2_with fail
              go_roundw
              case rel => exact ⟨p + 1, by omega, by go_num, by rw [HS2.out]; simp only [Value.int.injEq, true_and]; omega, HBB.out⟩
              case measure => simp [intOf]; omega
            · have HS2 : Hid (okTo L X (p + 1) = ok) := by show _ = _; rw [HST.out, okA, if_neg h11]; rfl
              by_cases hk : x.kind = 11
              · have hk11 : (x.kind == 11) = true := by rw [beq_iff_eq]; exact hk
                have hc0 : (y.code == 0) = false := by rw [beq_eq_false_iff_ne]; exact fun h => h11 ⟨hk, h⟩
                clear h11 hk
                go_wp2_with fail
                go_roundw
                case rel => exact ⟨p + 1, by omega, by go_num, by rw [HS2.out], HBB.out⟩
                case measure => simp [intOf]; omega
              · have hk11 : (x.kind == 11) = false := by rw [beq_eq_false_iff_ne]; exact hk
                clear h11 hk
                go_wp2_with fail
                go_roundw
                case rel => exact ⟨p + 1, by omega, by go_num, by rw [HS2.out], HBB.out⟩
                case measure => simp [intOf]; omega
          obtain rfl : p = ln := by omega
          have BW := HB2.out.trans (hb.mono HB2.out.size)
          have hz : (tot : Int) - ((okTo L X p : Nat) : Int) = 0 := by rw [HTOT.out]; omega
          rw [hz]
          go_wp2_with fail
          go_ret
          exact ⟨rfl, BW⟩
set_option maxRecDepth 100000 in
theorem topTrusted_args {H : Type} {enc : TypeId × Value → H} (W : World) (b0 : Nat) (args : Array Value) (hT : Tab W) (hs : args.size = (Tryd.f7).params.size)
    (ha : ∀ (j : Nat) t v, (Tryd.f7).params[j]? = some t → args[j]? = some v → Value.okWide Tryd.prog W .any b0 t v ∧ Rd enc Tryd.prog W t v.cells.toList) :
    Calls Tryd.prog 7 args W fun e w' => e = .returned (.bool true) ∧ Below W.heap.size W w' := by
  obtain ⟨l⟩ := args
  match l, hs with
  | [v, v1, v2, v3, v4], _ =>
    obtain ⟨h1, h2⟩ := ha 0 _ v rfl rfl
    obtain ⟨a, l, c, e, hl, ra, kl⟩ := rd_raws h2
    obtain rfl : v = .slice a l.length c := by
      have := rd_slice_v Tryd.underlying22 h1
      rw [this] at e
      exact (List.cons.inj e).1
    obtain ⟨r, rfl, hr⟩ := rd_raw (ha 1 _ v1 rfl rfl).1 (ha 1 _ v1 rfl rfl).2
    obtain ⟨h3, h4⟩ := ha 2 _ v2 rfl rfl
    obtain ⟨ba, bl, bc, e2, hbl, rb, kb⟩ := rd_raws h4
    obtain rfl : v2 = .slice ba bl.length bc := by
      have := rd_slice_v Tryd.underlying22 h3
      rw [this] at e2
      exact (List.cons.inj e2).1
    obtain ⟨s, rfl, hs'⟩ := rd_raw (ha 3 _ v3 rfl rfl).1 (ha 3 _ v3 rfl rfl).2
    obtain ⟨h5, h6⟩ := ha 4 _ v4 rfl rfl
    obtain ⟨wa, wl, wc, e3, hwl, rw', kw⟩ := rd_ints64 h6
    obtain rfl : v4 = .slice wa wl.length wc := by
      have := rd_slice_v Tryd.underlying41 h5
      rw [this] at e3
      exact (List.cons.inj e3).1
    exact topTrusted_calls a l l.length c r ba bl bl.length bc s wa wl wl.length wc W rfl hl ra kl hr rfl hbl rb kb hs' rfl hwl rw' kw hT

set_option maxRecDepth 100000 in
theorem topTrusted_lifted (os : Os) (started : os.Started) (H : Type) (enc : TypeId × Value → H) :
    ReturnsInHanded {} Tryd.checked os 7 .any (fun w args => (Rows.topTrustedSpec.pre enc Tryd.prog Tryd.f7 [] false w args ∧ laidMetH Tryd.prog Rows.topTrustedRow.laid w) ∧ sizedMet enc Tryd.prog Tryd.f7 (OpenSpec.ofChange Rows.topTrustedSpec) false w args)
      (Rows.topTrustedSpec.post enc Tryd.prog Tryd.f7 false true false false) := by
  refine returnsInHanded_of_change_and (C := Tryd.checked) (X := fun w _ => laidMetH Tryd.prog Rows.topTrustedRow.laid w) (fun _ _ _ hh h => h.of_heap hh) own started (by kernel_rfl) Tryd.func7
    (ChangeSpec.witness_shaped (enc := enc) (C := Tryd.checked) (os := os) (X := fun w _ => laidMetH Tryd.prog Rows.topTrustedRow.laid w) false (World.doorLaid Tryd.prog doorSteps os) #[.slice none 0 0, .agg #[.int .i64 0, .int .i64 0, .int .i64 0, .int .i64 0], .slice none 0 0, .agg #[.int .i64 0, .int .i64 0, .int .i64 0, .int .i64 0], .slice none 0 0] 8 rfl (World.shaped_of_RefB (by kernel_rfl) (by kernel_rfl)) (by kernel_rfl) (by kernel_rfl) (by kernel_rfl) (door_met os _)) ?_
  intro W base args ds gs before hval hW _ hsz hL _
  exact law_contract laidOut (by kernel_rfl) rfl Tryd.underlying4 rfl (fun ds h => by
    match ds, h with
    | [_, _, _, _, _], _ => exact ⟨rfl, rfl, rfl⟩) hval hW hsz fun hs ha => topTrusted_args W base args (tab_of_laid hL) hs ha

theorem topTrusted_row : Rows.TopTrustedSaid :=
  OpenClaim.holds_of_wide 7 Tryd.f7 rfl rfl rfl rfl rfl rfl rfl ⟨rfl, rfl, rfl, rfl, rfl⟩ rfl rfl rfl rfl rfl (by kernel_rfl) Tryd.func7 (by kernel_rfl)
    (of_decide_eq_true (by kernel_rfl)) (by unfold Func.isWrapper; first | (rw [if_pos (by decide +kernel)]; kernel_rfl) | (rw [if_neg (by decide +kernel)]; exact ⟨rfl, rfl⟩))
    (fun os started H enc _ => topTrusted_lifted os started H enc)

theorem topTrusted_holds : Rows.TopTrustedCardSaid :=
  Claim7.holds_tied_plain_at .later [] [.data, .data, .data] true _ false
    topTrusted_row (fun _ h => by cases h) (by kernel_rfl) (fun _ h => by cases h) topTrusted_row_tie rfl ⟨rfl, rfl⟩ (by kernel_rfl) rfl
    (fun f fn hf hfn => by
      obtain rfl : f = 7 := Option.some.inj ((show Tryd.prog.funcNamed Rows.topTrustedRow.func = some 7 by kernel_rfl).symm.trans hf) |>.symm
      obtain rfl : fn = Tryd.f7 := (Option.some.inj (Tryd.func7.symm.trans hfn)).symm
      exact ⟨by kernel_rfl, fun j t ht => by
        have hm : t ∈ (Tryd.f7).params.toList := by simpa using Array.mem_of_getElem? ht
        have hall : ((Tryd.f7).params.toList.all fun u => !Tryd.prog.wantsStandIn u) = true := by kernel_rfl
        exact (show Tryd.prog.wantsStandIn t = false by simpa using List.all_eq_true.1 hall t hm)⟩)
    (by kernel_rfl)


end Go.Proofs.YtbamacddfonloaaDoor
