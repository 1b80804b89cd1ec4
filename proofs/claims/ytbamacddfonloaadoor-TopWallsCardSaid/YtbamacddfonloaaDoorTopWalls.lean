/- What an enclave does changes no other one, and of its own pages those alone that may be written: the law returns true at all raw things, words and fuels; its arguments read as they did; the card is tied. Condition: the library's tables start as the program's text lays them. -/
import Derived.Test.YtbamacddfonloaaDoorLiftD
import Derived.Test.YtbamacddfonloaaDoorGc
import Derived.Test.YtbamacddfonloaaDoorGw
import Derived.Test.YtbamacddfonloaaDoorWallsPlain
import Derived.Test.YtbamacddfonloaaDoorGy
import Derived.Test.YtbamacddfonloaaDoorGx
import Derived.Test.YtbamacddfonloaaDoorEnter
import Derived.Deep.CutBlock
namespace Go.Proofs.YtbamacddfonloaaDoor
open Go.ChangeShapes Go.WideShapes Go.ChangeAt Go.RowKit

theorem mach_frames {W : World} {fa ea qa : Option Addr} {fn fc en ec qn qc : Nat} {M : MachD} (h : MachAt W (.agg #[.slice fa fn fc, .slice ea en ec, .slice qa qn qc]) M) : FramesAt W fa M.frames := by
  obtain ⟨x0, x1, x2, x3, x4, x5, ex, hF, _, _⟩ := h
  simp only [Value.agg.injEq, Array.mk.injEq, List.cons.injEq, Value.slice.injEq, and_true] at ex
  obtain ⟨⟨rfl, _, _⟩, _⟩ := ex
  exact hF
theorem mach_encls {W : World} {fa ea qa : Option Addr} {fn fc en ec qn qc : Nat} {M : MachD} (h : MachAt W (.agg #[.slice fa fn fc, .slice ea en ec, .slice qa qn qc]) M) : EnclsAt W ea M.encl := by
  obtain ⟨x0, x1, x2, x3, x4, x5, ex, _, hE, _⟩ := h
  simp only [Value.agg.injEq, Array.mk.injEq, List.cons.injEq, Value.slice.injEq, and_true] at ex
  obtain ⟨_, ⟨rfl, _, _⟩, _⟩ := ex
  exact hE
theorem plan0 (a : Option Addr) (l : List PageD) (n cap : Nat) (w : World) (hl : l.length = n) (hf : PagesFit l) (hc : PagesAt w a l) (h0 : imageF l = 0) (hfr : n ≤ 24) :
    Calls Tryd.prog 9 #[.slice a n cap, .int .i64 1, .int .i64 0] w (PlanRes w.heap.size (planD l 1 0) w) := imagePlan a l n cap 1 0 w hl hf hc h0 (by omega) (by omega) (by omega)
theorem plan10 (a : Option Addr) (l : List PageD) (n cap : Nat) (w : World) (hl : l.length = n) (hf : PagesFit l) (hc : PagesAt w a l) (h0 : imageF l = 0) (hfr : 10 + n ≤ 24) :
    Calls Tryd.prog 9 #[.slice a n cap, .int .i64 2, .int .i64 10] w (PlanRes w.heap.size (planD l 2 10) w) := imagePlan a l n cap 2 10 w hl hf hc h0 (by omega) (by omega) (by omega)

theorem MBox.new' {W : World} {n base : Nat} {fa ea qa : Option Addr} {fc ec qc : Nat} {M : MachD} (hn : W.heap.size = n) (h : MachFrom base W (.agg #[.slice fa M.frames.length fc, .slice ea M.encl.length ec, .slice qa M.quotes.length qc]) M) :
    MBox n fa fc ea ec qa qc M (W.alloc (.cells #[.slice fa M.frames.length fc, .slice ea M.encl.length ec, .slice qa M.quotes.length qc] 39)) := by
  subst hn
  exact MBox.new h
theorem OBox.new' {W : World} {n : Nat} (hn : W.heap.size = n) (o v : Int) : OBox n o v (W.alloc (.cells #[.int .i64 o, .int .i64 v] 65)) := by
  subst hn
  exact OBox.new W o v
/-- Both plans, run: the machine in its box. -/
structure WaSt (w : World) (ja : Option Addr) (LA LB : List PageD) (mb : Nat) (fa : Option Addr) (fc : Nat) (ea : Option Addr) (ec : Nat) (qa : Option Addr) (qc : Nat) (W : World) : Prop where
  below : Below w.heap.size w W
  p : PagesAt W ja LB
  m : MBox mb fa fc ea ec qa qc (bothM LA LB) W
theorem WaSt.later {w : World} {ja : Option Addr} {LA LB : List PageD} {mb : Nat} {fa : Option Addr} {fc : Nat} {ea : Option Addr} {ec : Nat} {qa : Option Addr} {qc : Nat} {W W' : World} (h : WaSt w ja LA LB mb fa fc ea ec qa qc W) (hb : Below W.heap.size W W') : WaSt w ja LA LB mb fa fc ea ec qa qc W' :=
  ⟨h.below.trans (hb.mono h.below.size), h.p.mono hb, h.m.later hb⟩

/-- What the operations of the region that enters leave. -/
def TupW (N : MachD) (v : Value) (w : World) : Prop := ∃ fa fc ea ec qa qc o n, v = .tuple #[.agg #[.slice fa N.frames.length fc, .slice ea N.encl.length ec, .slice qa N.quotes.length qc], .agg #[.int .i64 o, .int .i64 n], .int .i64 0] ∧ MachFrom 0 w (.agg #[.slice fa N.frames.length fc, .slice ea N.encl.length ec, .slice qa N.quotes.length qc]) N
def wallG (lo : Nat) (word fuel nw fu : Int) (mv : Value) (N : MachD) : Nat → Value → World → Prop
  | 0, v, _ => v = mv
  | 1, v, _ => v = .int .i64 word
  | 2, v, _ => v = .int .i64 nw
  | 3, v, _ => v = .int .i64 fuel
  | 4, v, _ => v = .int .i64 fu
  | 5, v, w => TupW N v w
  | 6, v, w => TupW N v w
  | 7, v, w => ∃ fa fc ea ec qa qc, v = .agg #[.slice fa N.frames.length fc, .slice ea N.encl.length ec, .slice qa N.quotes.length qc] ∧ MachFrom 0 w (.agg #[.slice fa N.frames.length fc, .slice ea N.encl.length ec, .slice qa N.quotes.length qc]) N
  | 8, v, _ => ∃ o n, v = .agg #[.int .i64 o, .int .i64 n]
  | 9, v, _ => v = .int .i64 0
  | 10, v, w => ∃ b, v = .pointer (some ⟨b, 0, none⟩) ∧ lo ≤ b ∧ MBox b none 0 none 0 none 0 mach0 w
  | 11, v, w => ∃ b, v = .pointer (some ⟨b, 0, none⟩) ∧ lo ≤ b ∧ OBox b 0 0 w
  | _, _, _ => True
theorem TupW.later {N : MachD} {v : Value} {w w' : World} (h : TupW N v w) (hb : Below w.heap.size w w') : TupW N v w' := by
  obtain ⟨fa, fc, ea, ec, qa, qc, o, n, e, hM⟩ := h
  exact ⟨fa, fc, ea, ec, qa, qc, o, n, e, hM.below hb⟩
theorem wallG_later {lo : Nat} {word fuel nw fu : Int} {mv : Value} {N : MachD} (i : Nat) (v : Value) (w w' : World) (hb : Below w.heap.size w w') (h : wallG lo word fuel nw fu mv N i v w) : wallG lo word fuel nw fu mv N i v w' := by
  match i, h with
  | 0, h | 1, h | 2, h | 3, h | 4, h | 8, h | 9, h => exact h
  | 5, h | 6, h => exact TupW.later h hb
  | 7, ⟨fa, fc, ea, ec, qa, qc, e, hM⟩ => exact ⟨fa, fc, ea, ec, qa, qc, e, hM.below hb⟩
  | 10, ⟨b, e, h0, hM⟩ => exact ⟨b, e, h0, hM.later hb⟩
  | 11, ⟨b, e, h0, hM⟩ => exact ⟨b, e, h0, hM.later hb⟩
  | _ + 12, h => exact h

set_option maxRecDepth 10000 in
set_option maxHeartbeats 4000000 in
theorem topWalls_calls (a : Option Addr) (l : List RawD) (n c : Nat) (r : RawD) (oa : Option Addr) (ol : List RawD) (on oc : Nat) (s : RawD) (word fuel : Int) (w : World) (hn : l.length = n) (hl : n * 32 ≤ 140737488351232) (ha : RawsAt w a l)
    (kl : ∀ x ∈ l, x.Ok) (hr : r.Ok) (hon : ol.length = on) (hol : on * 32 ≤ 140737488351232) (hoa : RawsAt w oa ol) (ko : ∀ x ∈ ol, x.Ok) (hs : s.Ok) (hw : Is64 word) (hf : Is64 fuel) (hT : Tab w) :
    Calls Tryd.prog 6 #[.slice a n c, .agg #[.int .i64 r.kind, .int .i64 r.a, .int .i64 r.b, .int .i64 r.c], .slice oa on oc, .agg #[.int .i64 s.kind, .int .i64 s.a, .int .i64 s.b, .int .i64 s.c], .int .i64 word, .int .i64 fuel] w fun e w' => e = .returned (.bool true) ∧ Below w.heap.size w w' := by
  have HA := hid ha
  have HN := hid hn
  have HKL := hid kl
  have HR := hid hr
  have HON := hid hon
  have HOA := hid hoa
  have HKO := hid ko
  have HS := hid hs
  have HW := hid hw
  have HFU := hid hf
  have HT := hid hT
  have HGA := hid (imageD_good l r)
  have HGB := hid (imageD_good ol s)
  have hla := (imageD_len l r).2
  have hlb := (imageD_len ol s).2
  clear ha hn kl hr hon hoa ko hs hw hf hT
  go_enter Tryd.func6, Tryd.ntmps6
  go_upto_region 1 with fail
  refine act_gen (fun W => Below w.heap.size w W ∧ W.cell? ⟨w.heap.size, 0, none⟩ = some (.int .i64 r.kind) ∧ W.cell? ⟨w.heap.size, 1, none⟩ = some (.int .i64 r.a) ∧ W.cell? ⟨w.heap.size, 2, none⟩ = some (.int .i64 r.b) ∧ W.cell? ⟨w.heap.size, 3, none⟩ = some (.int .i64 r.c) ∧
      W.cell? ⟨w.heap.size + 1, 0, none⟩ = some (.int .i64 s.kind) ∧ W.cell? ⟨w.heap.size + 1, 1, none⟩ = some (.int .i64 s.a) ∧ W.cell? ⟨w.heap.size + 1, 2, none⟩ = some (.int .i64 s.b) ∧ W.cell? ⟨w.heap.size + 1, 3, none⟩ = some (.int .i64 s.c))
    ⟨by go_grown, by go_simp, by go_simp, by go_simp, by go_simp, by go_simp, by go_simp, by go_simp, by go_simp⟩ ?_
  rintro wa ⟨hba, q0, q1, q2, q3, s0, s1, s2, s3⟩
  have HBa := hid hba
  clear hba
  go_wp2_with fail
  refine (keepImage a l n c r _ HN.out hl (HA.out.mono HBa.out) HKL.out HR.out).mono ?_
  rintro e w1 ⟨ia, ic, rfl, hI, hb1⟩
  replace s0 := cell_later hb1 s0
  replace s1 := cell_later hb1 s1
  replace s2 := cell_later hb1 s2
  replace s3 := cell_later hb1 s3
  have HB1 := hid (HBa.out.trans (hb1.mono HBa.out.size))
  have HI := hid hI
  clear hb1 hI HBa q0 q1 q2 q3
  go_wp2_with fail
  refine (keepImage oa ol on oc s _ HON.out hol (HOA.out.mono HB1.out) HKO.out HS.out).mono ?_
  rintro e w2 ⟨ja, jc, rfl, hJ, hb2⟩
  have HB2 := hid (HB1.out.trans (hb2.mono HB1.out.size))
  have HI2 := hid (HI.out.mono hb2)
  have HJ := hid hJ
  clear hb2 hJ HI HB1 s0 s1 s2 s3
  generalize imageD l r = LA at *
  generalize imageD ol s = LB at *
  have HFA := hid (good_fit HGA.out)
  have HFB := hid (good_fit HGB.out)
  go_wp2_with fail
  refine (plan0 ia LA LA.length ic _ rfl HFA.out HI2.out HGA.out (by omega)).mono ?_
  rintro e w3 ⟨pv, rfl, hP, hb3⟩
  obtain ⟨pa, pc, rfl, hPC⟩ := hP.row
  have HPC := hid hPC
  have HJ3 := hid (HJ.out.mono hb3)
  have HB3 := hid (HB2.out.trans (hb3.mono HB2.out.size))
  clear hb3 hP hPC HB2 HJ HI2
  dsimp only
  go_wp2_with fail
  refine (plan10 ja LB LB.length jc _ rfl HFB.out HJ3.out HGB.out (by omega)).mono ?_
  rintro e w4 ⟨pv, rfl, hP, hb4⟩
  obtain ⟨ra, rc, rfl, hRC⟩ := hP.row
  have HPC4 := hid (HPC.out.mono hb4)
  have HRC := hid hRC
  have HJ4 := hid (HJ3.out.mono hb4)
  have HB4 := hid (HB3.out.trans (hb4.mono HB3.out.size))
  clear hb4 hP hRC HB3 HJ3 HPC
  dsimp only
  have HLEN : Hid ((planD LA 1 0 ++ planD LB 2 10).length ≤ 200) := both_len HGA.out HGB.out
  go_upto_region 5 with fail
  go_wp2_with fail
  refine (concatA _ [⟨pa, pc, planD LA 1 0⟩, ⟨ra, rc, planD LB 2 10⟩] 2 _ _ rfl (by omega) ?_ ?_ ?_).mono ?_
  · intro j u hj
    rcases j with _ | _ | j
    · simp only [List.map_cons, List.map_nil, List.getElem?_cons_zero, Option.some.injEq, RowA.v] at hj
      subst hj
      exact ⟨_, 0, rfl, by go_simp⟩
    · simp only [List.map_cons, List.map_nil, List.getElem?_cons_succ, List.getElem?_cons_zero, Option.some.injEq, RowA.v] at hj
      subst hj
      exact ⟨_, 0, rfl, by go_simp⟩
    · simp at hj
  · intro p hp
    simp only [List.mem_cons, List.not_mem_nil, or_false] at hp
    rcases hp with rfl | rfl
    · exact HPC4.out.mono (by go_grown)
    · exact HRC.out.mono (by go_grown)
  · have := HLEN.out
    simp only [List.flatMap_cons, List.flatMap_nil, List.append_nil]
    omega
  rintro e w5 ⟨ca, cc, rfl, hC, hb5⟩
  have eL : [(⟨pa, pc, planD LA 1 0⟩ : RowA), ⟨ra, rc, planD LB 2 10⟩].flatMap RowA.l = bothL LA LB := by simp [bothL]
  rw [eL] at hC ⊢
  clear eL
  have HB5 : Hid (Below w.heap.size w w5) := HB4.out.trans (Below.mono (Below.trans (by go_grown) (hb5.mono (by go_size))) HB4.out.size)
  have HJ5 : Hid (PagesAt w5 ja LB) := HJ4.out.mono (Below.trans (by go_grown) (hb5.mono (by go_size)))
  obtain ⟨_, _, eC, hCA⟩ := hC.at
  obtain ⟨rfl, _, rfl⟩ := Value.slice.inj eC
  have HCA := hid hCA
  have HLB : Hid ((bothL LA LB).length ≤ 200) := both_len HGA.out HGB.out
  have HSC := hid (both_script HGA.out HGB.out)
  clear hC hCA hb5 eC HB4 HJ4 HPC4 HRC HLEN
  go_wp2_with fail
  refine (hostRun none 0 [] ca cc (bothL LA LB).length (bothL LA LB) _ rfl (fun _ _ h => by simp at h) HCA.out (by simp) (by have := HLB.out; omega) (HT.out.mono HB5.out) ?_).mono ?_
  · intro x hx hk
    rcases List.mem_append.1 hx with hx | hx
    · exact absurd hk (planD_look x hx)
    · exact absurd hk (planD_look x hx)
  rintro e w6 ⟨xv, mv, cv, rfl, hX, hM, hC, hb6⟩
  rw [HSC.out] at hM hC ⊢
  dsimp only at hM hC ⊢
  obtain ⟨ta, tc, na, nc, rfl, _⟩ := hC.at
  obtain ⟨fa, fc, ea, ec, qa, qc, rfl⟩ := hM.parts
  have HM := hid hM
  have HB6 := hid (HB5.out.trans (hb6.mono HB5.out.size))
  have HJ6 := hid (HJ5.out.mono hb6)
  have HGM := hid (both_good HGA.out HGB.out)
  clear hX hM hC hb6 HB5 HJ5 HCA HLB HSC
  go_upto_region 6 with fail
  refine act_gen (WaSt w ja LA LB w6.heap.size fa fc ea ec qa qc) ⟨HB6.out.trans (Below.mono (by go_grown) HB6.out.size), HJ6.out.mono (by go_grown), (MBox.new HM.out).later (by go_grown)⟩ ?_
  clear HM HB6 HJ6
  generalize w6.heap.size = mb
  intro W HW6
  have m0 := HW6.m.c0
  have m1 := HW6.m.c1
  have m2 := HW6.m.c2
  have hmb := HW6.m.lt
  replace HW6 := hid HW6
  obtain ⟨nw, hnw⟩ : ∃ nw, pickD word 65536 = nw := ⟨_, rfl⟩
  obtain ⟨fu, hfu⟩ : ∃ fu, pickD fuel 200 = fu := ⟨_, rfl⟩
  have HEW := hid (enter_wall HGA.out HGB.out (word := nw) (fuel := fu) (by rw [← hnw]; exact ⟨pickD_lo word (by decide), pickD_hi word (by decide)⟩) (by rw [← hfu]; exact ⟨pickD_lo fuel (by decide), pickD_hi fuel (by decide)⟩))
  have HNW := hid hnw
  have HFW := hid hfu
  clear hnw hfu
  refine wp_region_specs [56, 57, 58, 59, 60, 61, 55, 62, 63, 64, 23, 24] [8, 9] 12 (wallG W.heap.size word fuel nw fu (.agg #[.slice fa (bothM LA LB).frames.length fc, .slice ea (bothM LA LB).encl.length ec, .slice qa (bothM LA LB).quotes.length qc]) (ranM LA LB nw fu)) (by kernel_rfl) (by kernel_rfl) (fun t ht => by simp only [List.mem_cons, List.not_mem_nil, or_false] at ht; show t < 147; omega) (fun _ _ _ _ _ h => h) wallG_later ?_ ?_ ?_
  · intro i hi o ho a w2 hs hb hd
    simp only [List.mem_cons, List.not_mem_nil, or_false] at hi
    rcases hi with rfl | rfl
    all_goals
      obtain rfl := Option.some.inj ho
      obtain ⟨v, hv, fa2, fc2, ea2, ec2, qa2, qc2, o2, n2, rfl, hM⟩ := hd 6 (by kernel_rfl)
      have h55 : a.tmps[55]? = _ := hv
    · exact ⟨_, .inl ⟨rfl, fun w => by go_simp⟩, o2, n2, rfl⟩
    · exact ⟨_, .inl ⟨rfl, fun w => by go_simp⟩, rfl⟩
  · intro i hi hiL o ho a w2 hs hb hd
    have hbW := (below_drew W).trans hb
    have HWW := hid (HW6.out.later hbW)
    rcases i with _ | _ | _ | _ | _ | _ | _ | _ | _ | _ | _ | _ | i
    all_goals try obtain rfl := Option.some.inj ho
    · have h20 : a.tmps[20]? = some (.pointer (some ⟨mb, 0, none⟩)) := (hs.rest 20 (by decide)).trans rfl
      have m0 := HWW.out.m.c0
      have m1 := HWW.out.m.c1
      have m2 := HWW.out.m.c2
      go_simp
      exact ⟨_, rfl, rfl, Below.refl _ _⟩
    · have h4 : a.tmps[4]? = some (.int .i64 word) := (hs.rest 4 (by decide)).trans rfl
      go_simp
      exact ⟨_, rfl, rfl, Below.refl _ _⟩
    · obtain ⟨v, hv, rfl⟩ := hd 1 (by kernel_rfl)
      have h57 : a.tmps[57]? = _ := hv
      go_simp
      refine (picked2_any word 65536 _ HW.out (by decide)).mono ?_
      rintro e w' ⟨rfl, hu⟩
      obtain rfl := hu.symm
      exact ⟨_, rfl, by rw [HNW.out]; rfl, Below.refl _ _⟩
    · have h5 : a.tmps[5]? = some (.int .i64 fuel) := (hs.rest 5 (by decide)).trans rfl
      go_simp
      exact ⟨_, rfl, rfl, Below.refl _ _⟩
    · obtain ⟨v, hv, rfl⟩ := hd 3 (by kernel_rfl)
      have h59 : a.tmps[59]? = _ := hv
      go_simp
      refine (picked2_any fuel 200 _ HFU.out (by decide)).mono ?_
      rintro e w' ⟨rfl, hu⟩
      obtain rfl := hu.symm
      exact ⟨_, rfl, by rw [HFW.out]; rfl, Below.refl _ _⟩
    · obtain ⟨v0, hv0, rfl⟩ := hd 0 (by kernel_rfl)
      obtain ⟨v2, hv2, rfl⟩ := hd 2 (by kernel_rfl)
      obtain ⟨v4, hv4, rfl⟩ := hd 4 (by kernel_rfl)
      have h56 : a.tmps[56]? = _ := hv0
      have h58 : a.tmps[58]? = _ := hv2
      have h60 : a.tmps[60]? = _ := hv4
      go_simp
      refine (runEnter _ (bothM LA LB) 1 nw fu _ HWW.out.m.at HGM.out.fits).mono ?_
      rintro e w7 ⟨xv, rfl, hX, hb7⟩
      rw [HEW.out.1]
      obtain ⟨xa, xc, xe, xd, xq, xf, rfl⟩ := hX.parts
      exact ⟨_, rfl, ⟨xa, xc, xe, xd, xq, xf, _, _, rfl, hX.mono (Nat.zero_le _)⟩, hb7⟩
    · obtain ⟨v, hv, ht⟩ := hd 5 (by kernel_rfl)
      have h61 : a.tmps[61]? = _ := hv
      go_simp
      exact ⟨_, rfl, ht, Below.refl _ _⟩
    · obtain ⟨v, hv, fa2, fc2, ea2, ec2, qa2, qc2, o2, n2, rfl, hM⟩ := hd 6 (by kernel_rfl)
      have h55 : a.tmps[55]? = _ := hv
      go_simp
      exact ⟨_, rfl, ⟨_, _, _, _, _, _, rfl, hM⟩, Below.refl _ _⟩
    · exact absurd (List.mem_cons_self ..) hiL
    · exact absurd (List.mem_cons_of_mem _ (List.mem_cons_self ..)) hiL
    · go_simp
      exact ⟨_, rfl, ⟨_, rfl, hbW.size, MBox.new (mach0_from (base := 0))⟩, below_alloc _ _⟩
    · go_simp
      exact ⟨_, rfl, ⟨_, rfl, hbW.size, OBox.new _ 0 0⟩, below_alloc _ _⟩
    · omega
  · intro a w2 hs hb hd
    obtain ⟨v0, q0, rfl⟩ := hd 0 (by omega)
    obtain ⟨v1, q1, rfl⟩ := hd 1 (by omega)
    obtain ⟨v2, q2, rfl⟩ := hd 2 (by omega)
    obtain ⟨v3, q3, rfl⟩ := hd 3 (by omega)
    obtain ⟨v4, q4, rfl⟩ := hd 4 (by omega)
    obtain ⟨v5, q5, _⟩ := hd 5 (by omega)
    obtain ⟨v6, q6, _⟩ := hd 6 (by omega)
    obtain ⟨v7, q7, xa, xc, xe, xd, xq, xf, rfl, hX⟩ := hd 7 (by omega)
    obtain ⟨v8, q8, o2, n2, rfl⟩ := hd 8 (by omega)
    obtain ⟨v9, q9, rfl⟩ := hd 9 (by omega)
    obtain ⟨v10, q10, xb, rfl, lxb, hXB⟩ := hd 10 (by omega)
    obtain ⟨v11, q11, ob, rfl, lob, hOB⟩ := hd 11 (by omega)
    have ea := hs.is [(56, _), (57, _), (58, _), (59, _), (60, _), (61, _), (55, _), (62, _), (63, _), (64, _), (23, _), (24, _)] rfl (by decide) (fun t ht => by simp only [List.mem_cons, List.not_mem_nil, or_false] at ht; show t < 147; omega) (fun p hp => by
      simp only [List.mem_cons, List.not_mem_nil, or_false] at hp
      rcases hp with rfl | rfl | rfl | rfl | rfl | rfl | rfl | rfl | rfl | rfl | rfl | rfl
      · exact q0
      · exact q1
      · exact q2
      · exact q3
      · exact q4
      · exact q5
      · exact q6
      · exact q7
      · exact q8
      · exact q9
      · exact q10
      · exact q11)
    subst ea
    have hbW := (below_drew W).trans hb
    have x0 := hXB.c0
    have x1 := hXB.c1
    have x2 := hXB.c2
    have xz := hXB.cz
    have y0 := hOB.c0
    have y1 := hOB.c1
    have yz := hOB.cz
    have hne : xb ≠ ob := by
      rintro rfl
      rw [x0] at y0
      cases y0
    have hne' := hne.symm
    have HXB := hid hXB
    have HOB := hid hOB
    have HX := hid hX
    have HBW := hid hbW
    clear q0 q1 q2 q3 q4 q5 q6 q7 q8 q9 q10 q11 hd hs hb hXB hOB hX hbW
    simp only [List.drop_succ_cons, List.drop_zero, putAll, Act.put, List.setIfInBounds_toArray, List.set_cons_succ, List.set_cons_zero]
    go_upto_region 7 with fail
    refine act_gen (fun W' => WaSt w ja LA LB mb fa fc ea ec qa qc W' ∧ MBox xb xa xc xe xd xq xf (ranM LA LB nw fu) W')
      ⟨HW6.out.later (below_low2 (below_low3 HBW.out lxb _ _ _) lob _ _), (HXB.out.put HX.out).farO hne (((HOB.out.bt.set _ _).set _ _).set _ _) _ _⟩ ?_
    have hmx : mb ≠ xb := by omega
    clear x0 x1 x2 xz y0 y1 yz HXB HOB HX HBW HW6 m0 m1 m2 lxb lob hne hne'
    rintro W' ⟨HWA, HXB⟩
    obtain ⟨N, hN⟩ : ∃ N, ranM LA LB nw fu = N := ⟨_, rfl⟩
    obtain ⟨M, hM⟩ : ∃ M, bothM LA LB = M := ⟨_, rfl⟩
    have HWD := hid HEW.out.2
    have HHAS := hid (both_has HGA.out HGB.out)
    have he0 := (both_encl LA LB).1
    have he1 := (both_encl LA LB).2
    have HMB := HWA.m
    rw [hN, hM] at HWD
    rw [hN] at HXB
    rw [hM] at HMB HHAS HGM he0 he1
    have HHN := hid (HWD.out.step.has HHAS.out (by omega) (by omega))
    have hen1 : N.encl[1]? = some (readyE LB) := by rw [HWD.out.e1]; exact he1
    obtain ⟨z0, hz0, hzl⟩ : ∃ z, N.encl[0]? = some z ∧ z.log = (readyE LA).log := by
      obtain ⟨y, z, h1, h2, h3⟩ := HWD.out.log
      obtain rfl := Option.some.inj (he0.symm.trans h1)
      exact ⟨z, h2, h3⟩
    generalize readyE LB = yB at he1 hen1
    generalize readyE LA = yA at he0 hzl
    have HJ := hid HWA.p
    have HBW := hid HWA.below
    have p0 := HMB.c1
    have p1 := HXB.c0
    have p2 := HXB.c1
    have p3 := HXB.c2
    have p4 := HMB.c0
    have hNA := HXB.at
    rw [HWD.out.good.fl, HWD.out.good.el] at hNA
    rw [HWD.out.good.fl] at p1
    rw [HWD.out.good.el] at p2
    rw [HGM.out.el] at p0
    rw [HGM.out.fl] at p4
    have HNA := hid hNA
    have HME := mach_encls HMB.at
    have HNE := mach_encls HXB.at
    have HMF := hid (mach_frames HMB.at)
    have HNF := hid (mach_frames HXB.at)
    obtain ⟨eb, eo, rfl, c0, c1, c2, c3, c4, c5, c6⟩ := HME 1 yB he1
    obtain ⟨_, _, ex1, _, l0, _⟩ := HME 0 yA he0
    obtain ⟨rfl, rfl, _⟩ := Addr.mk.inj (Option.some.inj ex1)
    obtain ⟨gb, go, rfl, d0, d1, d2, d3, d4, d5, d6⟩ := HNE 1 yB hen1
    obtain ⟨_, _, ex2, _, l1, _⟩ := HNE 0 z0 hz0
    obtain ⟨rfl, rfl, _⟩ := Addr.mk.inj (Option.some.inj ex2)
    rw [hzl] at l1
    simp only [Nat.one_mul, Nat.zero_mul, Nat.add_zero] at c0 c1 c2 c3 c4 c5 c6 d0 d1 d2 d3 d4 d5 d6 l0 l1
    have hnE := neqEncl yB.state yB.log yB.pc yB.r0 yB.r1 yB.r2 yB.r3
    have HW8 : Hid (∀ p ∈ LB, p.words.length = 8) := fun p hp => PageOk.len (imgF_all HGB.out p hp)
    clear HME HNE HMB HXB HWA he0 he1 hen1 hz0 hzl hNA ex1 ex2 hM hN HEW HNW HFW
    have KK : ∀ w', Below W'.heap.size W' w' → (w'.cell? ⟨mb, 1, none⟩ = some (.slice (some ⟨eb, eo, none⟩) 4 ec) ∧ w'.cell? ⟨xb, 0, none⟩ = some (.slice xa 24 xc) ∧ w'.cell? ⟨xb, 1, none⟩ = some (.slice (some ⟨gb, go, none⟩) 4 xd) ∧ w'.cell? ⟨xb, 2, none⟩ = some (.slice xq N.quotes.length xf) ∧
        w'.cell? ⟨eb, eo + 7, none⟩ = some (.int .i64 yB.state) ∧ w'.cell? ⟨eb, eo + 7 + 1, none⟩ = some (.string yB.log) ∧ w'.cell? ⟨eb, eo + 7 + 2, none⟩ = some (.int .i64 yB.pc) ∧ w'.cell? ⟨eb, eo + 7 + 3, none⟩ = some (.int .i64 yB.r0) ∧ w'.cell? ⟨eb, eo + 7 + 4, none⟩ = some (.int .i64 yB.r1) ∧ w'.cell? ⟨eb, eo + 7 + 5, none⟩ = some (.int .i64 yB.r2) ∧ w'.cell? ⟨eb, eo + 7 + 6, none⟩ = some (.int .i64 yB.r3) ∧
        w'.cell? ⟨gb, go + 7, none⟩ = some (.int .i64 yB.state) ∧ w'.cell? ⟨gb, go + 7 + 1, none⟩ = some (.string yB.log) ∧ w'.cell? ⟨gb, go + 7 + 2, none⟩ = some (.int .i64 yB.pc) ∧ w'.cell? ⟨gb, go + 7 + 3, none⟩ = some (.int .i64 yB.r0) ∧ w'.cell? ⟨gb, go + 7 + 4, none⟩ = some (.int .i64 yB.r1) ∧ w'.cell? ⟨gb, go + 7 + 5, none⟩ = some (.int .i64 yB.r2) ∧ w'.cell? ⟨gb, go + 7 + 6, none⟩ = some (.int .i64 yB.r3) ∧
        w'.cell? ⟨eb, eo + 1, none⟩ = some (.string yA.log) ∧ w'.cell? ⟨gb, go + 1, none⟩ = some (.string yA.log)) := fun w' hb => ⟨cell_later hb p0, cell_later hb p1, cell_later hb p2, cell_later hb p3, cell_later hb c0, cell_later hb c1, cell_later hb c2, cell_later hb c3, cell_later hb c4, cell_later hb c5, cell_later hb c6, cell_later hb d0, cell_later hb d1, cell_later hb d2, cell_later hb d3, cell_later hb d4, cell_later hb d5, cell_later hb d6, cell_later hb l0, cell_later hb l1⟩
    have HKK := hid KK
    clear KK
    go_region_held3 (fun w' => w'.cell? ⟨mb, 1, none⟩ = some (.slice (some ⟨eb, eo, none⟩) 4 ec) ∧ w'.cell? ⟨xb, 0, none⟩ = some (.slice xa 24 xc) ∧ w'.cell? ⟨xb, 1, none⟩ = some (.slice (some ⟨gb, go, none⟩) 4 xd) ∧ w'.cell? ⟨xb, 2, none⟩ = some (.slice xq N.quotes.length xf) ∧
        w'.cell? ⟨eb, eo + 7, none⟩ = some (.int .i64 yB.state) ∧ w'.cell? ⟨eb, eo + 7 + 1, none⟩ = some (.string yB.log) ∧ w'.cell? ⟨eb, eo + 7 + 2, none⟩ = some (.int .i64 yB.pc) ∧ w'.cell? ⟨eb, eo + 7 + 3, none⟩ = some (.int .i64 yB.r0) ∧ w'.cell? ⟨eb, eo + 7 + 4, none⟩ = some (.int .i64 yB.r1) ∧ w'.cell? ⟨eb, eo + 7 + 5, none⟩ = some (.int .i64 yB.r2) ∧ w'.cell? ⟨eb, eo + 7 + 6, none⟩ = some (.int .i64 yB.r3) ∧
        w'.cell? ⟨gb, go + 7, none⟩ = some (.int .i64 yB.state) ∧ w'.cell? ⟨gb, go + 7 + 1, none⟩ = some (.string yB.log) ∧ w'.cell? ⟨gb, go + 7 + 2, none⟩ = some (.int .i64 yB.pc) ∧ w'.cell? ⟨gb, go + 7 + 3, none⟩ = some (.int .i64 yB.r0) ∧ w'.cell? ⟨gb, go + 7 + 4, none⟩ = some (.int .i64 yB.r1) ∧ w'.cell? ⟨gb, go + 7 + 5, none⟩ = some (.int .i64 yB.r2) ∧ w'.cell? ⟨gb, go + 7 + 6, none⟩ = some (.int .i64 yB.r3) ∧
        w'.cell? ⟨eb, eo + 1, none⟩ = some (.string yA.log) ∧ w'.cell? ⟨gb, go + 1, none⟩ = some (.string yA.log))
      (first | exact ⟨p0, p1, p2, p3, c0, c1, c2, c3, c4, c5, c6, d0, d1, d2, d3, d4, d5, d6, l0, l1⟩ | exact HKK.out _ B7)
      (first
        | (skip
           go_at_call 27
           refine (topHas _ N 2 ja LB LB.length jc _ (HNA.out.mono (by go_grown)) HWD.out.good.fl rfl (by omega) (HJ.out.mono (by go_grown)) HW8.out HHN.out).mono ?_
           rintro z w7 ⟨rfl, hb7⟩
           have B7 : Below W'.heap.size W' w7 := Below.trans (by go_grown) (hb7.mono (by go_size))))
    go_upto_region 9 with fail
    refine act_gen (fun W2 => Below W'.heap.size W' W2) (by first | exact B7 | exact B7.trans ((below_drew _).mono B7.size)) ?_
    have HM0 := hid p4
    have HN0 := hid p1
    clear B7 HKK p0 p1 p2 p3 p4 c0 c1 c2 c3 c4 c5 c6 d0 d1 d2 d3 d4 d5 d6 l0 l1 hnE HNA HHN HHAS HJ HW8
    intro W2 hW2
    have HB2 := hid (HBW.out.trans (hW2.mono HBW.out.size))
    have m0 := cell_later hW2 HM0.out
    have n0 := cell_later hW2 HN0.out
    replace HMF := hid (HMF.out.mono hW2)
    replace HNF := hid (HNF.out.mono hW2)
    clear hW2 HBW HM0 HN0
    go_wp2_with fail
    go_loopw [112] (fun j W4 => ∃ k : Nat, k ≤ 24 ∧ j = .int .i64 k ∧ Below W2.heap.size W2 W4) (fun j _ => 24 - (intOf j).toNat)
    case atStart => exact ⟨0, by omega, rfl, Below.refl _ _⟩
    case round =>
      obtain ⟨k, hk, rfl, hb⟩ := hrel
      by_cases hkl : k < 24
      rotate_left
      · obtain rfl : k = 24 := by omega
        have BW := HB2.out.trans (hb.mono HB2.out.size)
        go_wp2_with fail
        go_ret
        exact ⟨rfl, BW⟩
      have n0' := cell_later hb n0
      obtain ⟨x, hx⟩ : ∃ x, M.frames[k]? = some x := ⟨_, List.getElem?_eq_getElem (by rw [HGM.out.fl]; exact hkl)⟩
      obtain ⟨y, hy, e1, _, e3, e4⟩ := HWD.out.step.get hx
      have hx8 := (HGM.out.f k x hx).len
      have hrg := (HGM.out.f k x hx).rights
      have hy8 := (HWD.out.good.f k y hy).len
      obtain ⟨fb, fo, xwa, xwc, rfl, p0, p1, p2, p3, p4⟩ := HMF.out.mono hb k x hx
      obtain ⟨gb2, go2, ywa, ywc, rfl, q0, q1, q2, q3, q4⟩ := HNF.out.mono hb k y hy
      rw [hx8] at p3
      rw [hy8] at q3
      rw [e1] at q0
      have HP4 := hid p4
      have HQ4 := hid q4
      have HX8 := hid hx8
      have HY8 := hid hy8
      have HE4 := hid e4
      have HRG := hid hrg
      have HBB := hid hb
      have hk24 : (k : Int) < 24 := by omega
      have hwk : IntKind.i64.wrap ((k : Int) + 1) = (k : Int) + 1 := by rw [IntKind.wrap_i64]; omega
      clear hx hy hx8 hy8 p4 q4 e4 e1 e3 hb hrg
      go_upto_region 12 with fail
      refine act_gen (fun W5 => Below W2.heap.size W2 W5 ∧ W5.cell? ⟨wr.heap.size, 0, none⟩ = some (.int .i64 x.owner) ∧ W5.cell? ⟨wr.heap.size, 2, none⟩ = some (.int .i64 x.rights) ∧ W5.cell? ⟨wr.heap.size, 3, none⟩ = some (.slice xwa 8 xwc) ∧
          W5.cell? ⟨xb, 0, none⟩ = some (.slice (some ⟨gb2, go2, none⟩) 24 xc) ∧ W5.cell? ⟨gb2, go2 + k * 4, none⟩ = some (.int .i64 x.owner) ∧ W5.cell? ⟨gb2, go2 + k * 4 + 1, none⟩ = some (.int .i64 y.pl) ∧ W5.cell? ⟨gb2, go2 + k * 4 + 2, none⟩ = some (.int .i64 y.rights) ∧ W5.cell? ⟨gb2, go2 + k * 4 + 3, none⟩ = some (.slice ywa 8 ywc) ∧ IntsAt W5 xwa x.words ∧ IntsAt W5 ywa y.words ∧ W5.heap.size = wr.heap.size + 1)
        ⟨HBB.out.trans (Below.mono (below_alloc _ _) HBB.out.size), by go_simp, by go_simp, by go_simp, cell_new1 n0' _, cell_new1 q0 _, cell_new1 q1 _, cell_new1 q2 _, cell_new1 q3 _, HP4.out.mono (below_alloc _ _), HQ4.out.mono (below_alloc _ _), by go_simp⟩ ?_
      clear HBB HP4 HQ4 n0' p0 p1 p2 p3 q0 q1 q2 q3
      generalize wr.heap.size = fb'
      clear wr
      rintro W5 ⟨hb, f0, f2, f3, n0', q0, q1, q2, q3, p4, q4, zW⟩
      have HBB := hid hb
      have HP4 := hid p4
      have HQ4 := hid q4
      have HZ := hid zW
      clear hb p4 q4 zW
      go_upto_region 13 with fail
      refine act_gen (fun W6 => Below W2.heap.size W2 W6 ∧ IntsAt W6 xwa x.words ∧ IntsAt W6 ywa y.words ∧ W6.cell? ⟨fb', 0, none⟩ = some (.int .i64 x.owner) ∧ W6.cell? ⟨fb', 2, none⟩ = some (.int .i64 x.rights) ∧ W6.cell? ⟨fb', 3, none⟩ = some (.slice xwa 8 xwc) ∧ W6.cell? ⟨W5.heap.size, 0, none⟩ = some (.int .i64 x.owner) ∧ W6.cell? ⟨W5.heap.size, 3, none⟩ = some (.slice ywa 8 ywc))
        ⟨HBB.out.trans (Below.mono (below_alloc _ _) HBB.out.size), HP4.out.mono (below_alloc _ _), HQ4.out.mono (below_alloc _ _), cell_new1 f0 _, cell_new1 f2 _, cell_new1 f3 _, by go_simp, by go_simp⟩ ?_
      clear HBB HP4 HQ4 n0' q0 q1 q2 q3 f0 f2 f3 HZ
      generalize W5.heap.size = gb'
      clear W5
      rintro W6 ⟨hb, p4, q4, f0, f2, f3, g0, g3⟩
      have HBB := hid hb
      have HP4 := hid p4
      have HQ4 := hid q4
      clear hb p4 q4
      by_cases ho : x.owner = 1
      rotate_left
      · have hob : (x.owner == 1) = false := by rw [beq_eq_false_iff_ne]; exact ho
        clear ho
        go_wp2_with fail
        go_roundw
        case rel => exact ⟨k + 1, by omega, by go_num, HBB.out⟩
        case measure => simp [intOf]; omega
      have hob : (x.owner == 1) = true := by rw [beq_iff_eq]; exact ho
      have hbits := and_right x.rights 2 HRG.out.1 HRG.out.2 (by omega)
      by_cases hr : hasR x.rights 2 = true
      · rw [hr] at hbits
        have hbf : (bits .and .i64 x.rights 2 == 0) = false := hbits
        clear ho hr hbits
        go_wp2_with fail
        go_roundw
        case rel => exact ⟨k + 1, by omega, by go_num, HBB.out⟩
        case measure => simp [intOf]; omega
      have HWE : Hid (x.words = y.words) := by
        rcases HE4.out with h | h | h
        · exact h.symm
        · omega
        · exact absurd h.2 hr
      have hrf : hasR x.rights 2 = false := by simpa using hr
      rw [hrf] at hbits
      have hbf : (bits .and .i64 x.rights 2 == 0) = true := hbits
      clear ho hr hrf hbits
      go_wp2_with fail
      refine (equalInts xwa ywa x.words y.words 8 8 xwc ywc _ HX8.out HY8.out (by omega) (by omega) HP4.out HQ4.out).mono ?_
      rintro z w7 ⟨rfl, hb7⟩
      rw [show decide (x.words = y.words) = true from decide_eq_true HWE.out]
      have HB7 := hid ((HBB.out.trans (hb7.mono HBB.out.size)))
      clear hb7
      go_wp2_with fail
      go_roundw
      case rel => exact ⟨k + 1, by omega, by go_num, HB7.out⟩
      case measure => simp [intOf]; omega
set_option maxRecDepth 100000 in
theorem topWalls_args {H : Type} {enc : TypeId × Value → H} (W : World) (b0 : Nat) (args : Array Value) (hT : Tab W) (hs : args.size = (Tryd.f6).params.size)
    (ha : ∀ (j : Nat) t v, (Tryd.f6).params[j]? = some t → args[j]? = some v → Value.okWide Tryd.prog W .any b0 t v ∧ Rd enc Tryd.prog W t v.cells.toList) :
    Calls Tryd.prog 6 args W fun e w' => e = .returned (.bool true) ∧ Below W.heap.size W w' := by
  obtain ⟨l⟩ := args
  match l, hs with
  | [v, v1, v2, v3, v4, v5], _ =>
    obtain ⟨h1, h2⟩ := ha 0 _ v rfl rfl
    obtain ⟨a, l, c, e, hl, ra, kl⟩ := rd_raws h2
    obtain rfl : v = .slice a l.length c := by
      have := rd_slice_v Tryd.underlying22 h1
      rw [this] at e
      exact (List.cons.inj e).1
    obtain ⟨r, rfl, hr⟩ := rd_raw (ha 1 _ v1 rfl rfl).1 (ha 1 _ v1 rfl rfl).2
    obtain ⟨h3, h4⟩ := ha 2 _ v2 rfl rfl
    obtain ⟨ba, bl, bc, e2, hbl, rb, kb⟩ := rd_raws h4
    obtain rfl : v2 = .slice ba bl.length bc := by
      have := rd_slice_v Tryd.underlying22 h3
      rw [this] at e2
      exact (List.cons.inj e2).1
    obtain ⟨s, rfl, hs'⟩ := rd_raw (ha 3 _ v3 rfl rfl).1 (ha 3 _ v3 rfl rfl).2
    obtain ⟨x, rfl, hx⟩ := rd_int_v (ha 4 _ v4 rfl rfl).1 (ha 4 _ v4 rfl rfl).2
    obtain ⟨f, rfl, hf⟩ := rd_int_v (ha 5 _ v5 rfl rfl).1 (ha 5 _ v5 rfl rfl).2
    exact topWalls_calls a l l.length c r ba bl bl.length bc s x f W rfl hl ra kl hr rfl hbl rb kb hs' hx hf hT

set_option maxRecDepth 100000 in
theorem topWalls_lifted (os : Os) (started : os.Started) (H : Type) (enc : TypeId × Value → H) :
    ReturnsInHanded {} Tryd.checked os 6 .any (fun w args => (Rows.topWallsSpec.pre enc Tryd.prog Tryd.f6 [] false w args ∧ laidMetH Tryd.prog Rows.topWallsRow.laid w) ∧ sizedMet enc Tryd.prog Tryd.f6 (OpenSpec.ofChange Rows.topWallsSpec) false w args)
      (Rows.topWallsSpec.post enc Tryd.prog Tryd.f6 false true false false) := by
  refine returnsInHanded_of_change_and (C := Tryd.checked) (X := fun w _ => laidMetH Tryd.prog Rows.topWallsRow.laid w) (fun _ _ _ hh h => h.of_heap hh) own started (by kernel_rfl) Tryd.func6
    (ChangeSpec.witness_shaped (enc := enc) (C := Tryd.checked) (os := os) (X := fun w _ => laidMetH Tryd.prog Rows.topWallsRow.laid w) false (World.doorLaid Tryd.prog doorSteps os) #[.slice none 0 0, .agg #[.int .i64 0, .int .i64 0, .int .i64 0, .int .i64 0], .slice none 0 0, .agg #[.int .i64 0, .int .i64 0, .int .i64 0, .int .i64 0], .int .i64 0, .int .i64 0] 8 rfl (World.shaped_of_RefB (by kernel_rfl) (by kernel_rfl)) (by kernel_rfl) (by kernel_rfl) (by kernel_rfl) (door_met os _)) ?_
  intro W base args ds gs before hval hW _ hsz hL _
  exact law_contract laidOut (by kernel_rfl) rfl Tryd.underlying4 rfl (fun ds h => by
    match ds, h with
    | [_, _, _, _, _, _], _ => exact ⟨rfl, rfl, rfl⟩) hval hW hsz fun hs ha => topWalls_args W base args (tab_of_laid hL) hs ha

theorem topWalls_row : Rows.TopWallsSaid :=
  OpenClaim.holds_of_wide 6 Tryd.f6 rfl rfl rfl rfl rfl rfl rfl ⟨rfl, rfl, rfl, rfl, rfl⟩ rfl rfl rfl rfl rfl (by kernel_rfl) Tryd.func6 (by kernel_rfl)
    (of_decide_eq_true (by kernel_rfl)) (by unfold Func.isWrapper; first | (rw [if_pos (by decide +kernel)]; kernel_rfl) | (rw [if_neg (by decide +kernel)]; exact ⟨rfl, rfl⟩))
    (fun os started H enc _ => topWalls_lifted os started H enc)

theorem topWalls_holds : Rows.TopWallsCardSaid :=
  Claim7.holds_tied_plain_at .later [] [.data, .data, .data] true _ false
    topWalls_row (fun _ h => by cases h) (by kernel_rfl) (fun _ h => by cases h) topWalls_row_tie rfl ⟨rfl, rfl⟩ (by kernel_rfl) rfl
    (fun f fn hf hfn => by
      obtain rfl : f = 6 := Option.some.inj ((show Tryd.prog.funcNamed Rows.topWallsRow.func = some 6 by kernel_rfl).symm.trans hf) |>.symm
      obtain rfl : fn = Tryd.f6 := (Option.some.inj (Tryd.func6.symm.trans hfn)).symm
      exact ⟨by kernel_rfl, fun j t ht => by
        have hm : t ∈ (Tryd.f6).params.toList := by simpa using Array.mem_of_getElem? ht
        have hall : ((Tryd.f6).params.toList.all fun u => !Tryd.prog.wantsStandIn u) = true := by kernel_rfl
        exact (show Tryd.prog.wantsStandIn t = false by simpa using List.all_eq_true.1 hall t hm)⟩)
    (by kernel_rfl)


end Go.Proofs.YtbamacddfonloaaDoor
