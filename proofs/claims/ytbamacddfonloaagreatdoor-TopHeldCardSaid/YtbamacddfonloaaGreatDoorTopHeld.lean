/- Who is interrupted goes on as if it were not, however often: the law returns true at all raw things, words, fuels and cuts; its arguments read as they did; the card is tied. Condition: the library's tables start as the program's text lays them. -/
import Derived.Test.YtbamacddfonloaaGreatDoorLiftD
import Derived.Test.YtbamacddfonloaaGreatDoorGc
import Derived.Test.YtbamacddfonloaaGreatDoorGw
import Derived.Test.YtbamacddfonloaaGreatDoorGu
import Derived.Test.YtbamacddfonloaaGreatDoorGx
import Derived.Test.YtbamacddfonloaaGreatDoorGa
import Derived.Test.YtbamacddfonloaaGreatDoorEnter
import Derived.Deep.CutBlock
namespace Go.Proofs.YtbamacddfonloaaGreatDoor
open Go.ChangeShapes Go.WideShapes Go.ChangeAt Go.RowKit

/-- The boxes of x, o, y, p. -/
structure HSt (w : World) (xb xo yb yo : Nat) (xa : Option Addr) (xc : Nat) (xe : Option Addr) (xd : Nat) (xq : Option Addr) (xf : Nat) (X : MachD) (o1 o2 : Int) (Y : MachD) (p1 p2 : Int) (W : World) : Prop where
  below : Below w.heap.size w W
  lo : w.heap.size ≤ yb ∧ w.heap.size ≤ yo
  n1 : xb ≠ yb
  n2 : xb ≠ yo
  n3 : xo ≠ yb
  n4 : xo ≠ yo
  n5 : yb ≠ yo
  x : MBox xb xa xc xe xd xq xf X W
  o : OBox xo o1 o2 W
  y : ∃ fa fc ea ec qa qc, MBox yb fa fc ea ec qa qc Y W
  p : OBox yo p1 p2 W
section
variable {w W W' : World} {xb xo yb yo : Nat} {xa : Option Addr} {xc : Nat} {xe : Option Addr} {xd : Nat} {xq : Option Addr} {xf : Nat} {X : MachD} {o1 o2 : Int} {Y Y' : MachD} {p1 p2 p1' p2' : Int}
theorem HSt.later (h : HSt w xb xo yb yo xa xc xe xd xq xf X o1 o2 Y p1 p2 W) (hb : Below W.heap.size W W') : HSt w xb xo yb yo xa xc xe xd xq xf X o1 o2 Y p1 p2 W' := by
  obtain ⟨fa, fc, ea, ec, qa, qc, hy⟩ := h.y
  exact ⟨h.below.trans (hb.mono h.below.size), h.lo, h.n1, h.n2, h.n3, h.n4, h.n5, h.x.later hb, h.o.later hb, ⟨fa, fc, ea, ec, qa, qc, hy.later hb⟩, h.p.later hb⟩
theorem HSt.put (h : HSt w xb xo yb yo xa xc xe xd xq xf X o1 o2 Y p1 p2 W) {fa ea qa : Option Addr} {fc ec qc : Nat} (h' : MachFrom 0 W (.agg #[.slice fa Y'.frames.length fc, .slice ea Y'.encl.length ec, .slice qa Y'.quotes.length qc]) Y') (p1' p2' : Int) :
    HSt w xb xo yb yo xa xc xe xd xq xf X o1 o2 Y' p1' p2' (((((W.setCell ⟨yb, 0, none⟩ (.slice fa Y'.frames.length fc)).setCell ⟨yb, 1, none⟩ (.slice ea Y'.encl.length ec)).setCell ⟨yb, 2, none⟩ (.slice qa Y'.quotes.length qc)).setCell ⟨yo, 0, none⟩ (.int .i64 p1')).setCell ⟨yo, 1, none⟩ (.int .i64 p2')) := by
  obtain ⟨_, _, _, _, _, _, hy⟩ := h.y
  have hp := h.p.farM h.n5.symm (.slice fa Y'.frames.length fc) (.slice ea Y'.encl.length ec) (.slice qa Y'.quotes.length qc)
  exact ⟨below_low2 (below_low3 h.below h.lo.1 _ _ _) h.lo.2 _ _, h.lo, h.n1, h.n2, h.n3, h.n4, h.n5, (h.x.farM h.n1 hy.bt _ _ _).farO h.n2 hp.bt _ _, (h.o.farM h.n3 _ _ _).farO h.n4 _ _,
    ⟨_, _, _, _, _, _, (hy.put h').farO h.n5 hp.bt _ _⟩, hp.put _ _⟩
end

theorem xlt {W : World} {b o : Nat} {v : Value} (h : W.cell? ⟨b, o, none⟩ = some v) : b < W.heap.size := World.block_lt_of_cell? W _ h
theorem mach_encls {W : World} {fa ea qa : Option Addr} {fn fc en ec qn qc : Nat} {M : MachD} (h : MachAt W (.agg #[.slice fa fn fc, .slice ea en ec, .slice qa qn qc]) M) : EnclsAt W ea M.encl := by
  obtain ⟨x0, x1, x2, x3, x4, x5, ex, _, hE, _⟩ := h
  simp only [Value.agg.injEq, Array.mk.injEq, List.cons.injEq, Value.slice.injEq, and_true] at ex
  obtain ⟨_, ⟨rfl, _, _⟩, _⟩ := ex
  exact hE
theorem mach_frames {W : World} {fa ea qa : Option Addr} {fn fc en ec qn qc : Nat} {M : MachD} (h : MachAt W (.agg #[.slice fa fn fc, .slice ea en ec, .slice qa qn qc]) M) : FramesAt W fa M.frames := by
  obtain ⟨x0, x1, x2, x3, x4, x5, ex, hF, _, _⟩ := h
  simp only [Value.agg.injEq, Array.mk.injEq, List.cons.injEq, Value.slice.injEq, and_true] at ex
  obtain ⟨⟨rfl, _, _⟩, _⟩ := ex
  exact hF
theorem mach_quotes {W : World} {fa ea qa : Option Addr} {fn fc en ec qn qc : Nat} {M : MachD} (h : MachAt W (.agg #[.slice fa fn fc, .slice ea en ec, .slice qa qn qc]) M) : QuotesAt W qa M.quotes := by
  obtain ⟨x0, x1, x2, x3, x4, x5, ex, _, _, hQ, _⟩ := h
  simp only [Value.agg.injEq, Array.mk.injEq, List.cons.injEq, Value.slice.injEq, and_true] at ex
  obtain ⟨_, _, ⟨rfl, _, _⟩⟩ := ex
  exact hQ
theorem rd_ints64 {H : Type} {enc : TypeId × Value → H} {w : World} {cs : List Value} (h : Rd enc Tryz.prog w 34 cs) : ∃ a l cap, cs = [.slice a (List.length l) cap] ∧ l.length * 8 ≤ 140737488351232 ∧ IntsAt w a l ∧ ∀ x ∈ l, Is64 x := by
  obtain ⟨a, n, cap, rfl, hcap, hz, hi⟩ := h.slice Tryz.underlying34 (by rw [cInt]; decide)
  obtain ⟨l, hl, hr⟩ := choose_list (R := fun i x => (∃ b off, a = some ⟨b, off, none⟩ ∧ w.cell? ⟨b, off + i, none⟩ = some (.int .i64 x)) ∧ Is64 x) fun i him => by
    obtain ⟨b, off, cs', ha, hcl, hc, hx⟩ := hi i him
    obtain ⟨x, rfl, k0⟩ := hx.int Tryz.underlying3
    exact ⟨x, ⟨b, off, ha, by have := hc 0 _ rfl; rw [cInt] at this; simpa using this⟩, lit64 k0⟩
  rw [bInt, reach_eq] at hz
  subst hl
  refine ⟨a, l, cap, rfl, hz, fun i x hx => (hr i x hx).1, fun x hx => ?_⟩
  obtain ⟨j, hj, rfl⟩ := List.getElem_of_mem hx
  exact (hr j _ (List.getElem?_eq_getElem hj)).2
set_option maxRecDepth 10000 in
set_option maxHeartbeats 3200000 in
theorem topHeld_calls (a : Option Addr) (l : List RawD) (n c : Nat) (r : RawD) (word fuel : Int) (ca : Option Addr) (cuts : List Int) (cn cc : Nat) (w : World) (hn : l.length = n) (hl : n * 32 ≤ 140737488351232) (ha : RawsAt w a l)
    (kl : ∀ x ∈ l, x.Ok) (hr : r.Ok) (hw : Is64 word) (hf : Is64 fuel) (hc : cuts.length = cn) (hcl : cn * 8 ≤ 140737488351232) (hca : IntsAt w ca cuts) (kc : ∀ x ∈ cuts, Is64 x) (hT : Tab w) :
    Calls Tryz.prog 4 #[.slice a n c, .agg #[.int .i64 r.kind, .int .i64 r.a, .int .i64 r.b, .int .i64 r.c], .int .i64 word, .int .i64 fuel, .slice ca cn cc] w fun e w' => e = .returned (.bool true) ∧ Below w.heap.size w w' := by
  have HA := hid ha
  have HN := hid hn
  have HKL := hid kl
  have HR := hid hr
  have HW := hid hw
  have HFU := hid hf
  have HC := hid hc
  have HCA := hid hca
  have HKC := hid kc
  have HT := hid hT
  have HG := hid (imageD_good l r)
  have HFr := hid (frameD_in l r 3)
  obtain ⟨nw, hnw⟩ : ∃ nw, pickD word 65536 = nw := ⟨_, rfl⟩
  obtain ⟨t, ht⟩ : ∃ t : Nat, pickD fuel 200 = t := ⟨(pickD fuel 200).toNat, by have := pickD_lo fuel (many := 200) (by decide); omega⟩
  have HNW : Hid (0 ≤ nw ∧ nw ≤ 65535) := by
    have h1 := pickD_lo word (many := 65536) (by decide)
    have h2 := pickD_hi word (many := 65536) (by decide)
    show _ ∧ _
    omega
  have ht5 : t < 200 := by have := pickD_hi fuel (many := 200) (by decide); omega
  have HPW := hid hnw
  have HPT := hid ht
  clear ha hn kl hr hw hf hc hca kc hT hnw ht
  go_enter Tryz.func4, Tryz.ntmps4
  go_wp2_with fail
  refine (topStarted a l n c r 3 _ HN.out hl (HA.out.mono (by go_grown)) HKL.out HR.out ⟨by decide, by decide⟩ (HT.out.mono (by go_grown))).mono ?_
  rintro e w1 ⟨ia, ic, mv, rfl, hP, hM, hb1⟩
  have HGM := hid (startedM_good HG.out HFr.out.2)
  generalize imageD l r = L at *
  generalize frameD l r 3 = fr at *
  have hE0 := started_encl L fr
  have HE0 := hid hE0
  generalize startedM L fr = M at *
  have HB1 : Hid (Below w.heap.size w w1) := Below.trans (by go_grown) (hb1.mono (by go_size))
  obtain ⟨fa, fc, ea, ec, qa, qc, rfl⟩ := hM.parts
  have HM := hid hM
  clear hb1 hP hM hE0
  go_upto_region 2 with fail
  refine act_gen (fun W => Below w.heap.size w W ∧ MBox w1.heap.size fa fc ea ec qa qc M W) ⟨HB1.out.trans (Below.mono (by go_grown) HB1.out.size), MBox.new HM.out⟩ ?_
  clear HM
  rintro W ⟨hbW, HB⟩
  have m0 := HB.c0
  have m1 := HB.c1
  have m2 := HB.c2
  have HBx := hid HB
  have HBW := hid hbW
  clear HB hbW
  go_wp2_with fail
  refine (picked2_any word 65536 _ HW.out (by decide)).mono ?_
  rintro e w' ⟨rfl, rfl⟩
  rw [HPW.out]
  go_wp2_with fail
  refine (picked2_any fuel 200 _ HFU.out (by decide)).mono ?_
  rintro e w'' ⟨rfl, rfl⟩
  rw [HPT.out]
  go_wp2_with fail
  refine (runEnter _ M 1 nw t _ HBx.out.at HGM.out.fits).mono ?_
  rintro e w2 ⟨xv, rfl, hX, hb2⟩
  have HEX := hid (enter_is HGM.out HE0.out rfl HNW.out (t := t) (by omega))
  have HST := hid (held_start HGM.out HE0.out rfl HNW.out (t := t))
  rw [HEX.out] at hX ⊢
  generalize hRR : runM 1 (readyE L).log t (core0 M 0 [nw, 0, 0, 0]) = R at hX ⊢
  have HRR := hid hRR
  clear hRR HEX
  obtain ⟨xa, xc, xe, xd, xq, xf, rfl⟩ := hX.parts
  have HX := hid hX
  have HB2 := hid (HBW.out.trans (hb2.mono HBW.out.size))
  have HM2 := hid (HBx.out.later hb2)
  have HXG : Hid (Good (endM M R)) := by
    have e := enter_is HGM.out HE0.out rfl HNW.out (t := t) (by omega)
    have := enterD_good (M := M) (e := 1) (word := nw) (fuel := (t : Int)) HGM.out (by rw [e])
    rw [e, HRR.out] at this
    exact this
  clear hX hb2 HBW HBx m0 m1 m2
  dsimp only
  go_upto_region 5 with fail
  refine act_gen (fun W => Below w.heap.size w W ∧ MBox w1.heap.size fa fc ea ec qa qc M W ∧ MBox w2.heap.size xa xc xe xd xq xf (endM M R) W ∧ OBox (w2.heap.size + 1) R.2.2.1 R.2.2.2 W ∧ w2.heap.size + 2 ≤ W.heap.size)
    ⟨HB2.out.trans (Below.mono (by go_grown) HB2.out.size), HM2.out.later (by go_grown), (MBox.new HX.out).later (by go_grown), by have := OBox.new (w2.alloc (.cells #[.slice xa (endM M R).frames.length xc, .slice xe (endM M R).encl.length xd, .slice xq (endM M R).quotes.length xf] 30)) R.2.2.1 R.2.2.2; simpa using this, by go_size⟩ ?_
  clear HX HB2 HM2
  rintro W ⟨hbW, HBM, HBX, HBO, zW⟩
  have m0 := HBM.c0
  have m1 := HBM.c1
  have m2 := HBM.c2
  replace HBM := hid HBM
  replace HBX := hid HBX
  replace HBO := hid HBO
  replace hbW := hid hbW
  go_wp2_with fail
  refine (runEnter _ M 1 nw 0 _ HBM.out.at HGM.out.fits).mono ?_
  rintro e w3 ⟨yv, rfl, hY, hb3⟩
  rw [HST.out.1]
  generalize hSS : enterD M 1 nw 0 = S at hY HST ⊢
  obtain ⟨Y0, ⟨p1, p2⟩, s0⟩ := S
  dsimp only at hY ⊢
  have HI := hid HST.out.2.1
  have HYG := hid HST.out.2.2
  dsimp only at HI HYG
  obtain ⟨ya, yc, ye, yd, yq, yf, rfl⟩ := hY.parts
  have HY := hid hY
  have HB3 := hid (hbW.out.trans (hb3.mono hbW.out.size))
  have HX3 := hid (HBX.out.later hb3)
  have HO3 := hid (HBO.out.later hb3)
  have z3 : w2.heap.size + 2 ≤ w3.heap.size := by have := hb3.size; omega
  have zw : w.heap.size ≤ w3.heap.size := HB3.out.size
  clear hY hb3 hbW HBM HBX HBO m0 m1 m2 zW HST hSS s0
  go_upto_region 6 with fail
  refine act_gen (HSt w w2.heap.size (w2.heap.size + 1) w3.heap.size (w3.heap.size + 1) xa xc xe xd xq xf (endM M R) R.2.2.1 R.2.2.2 Y0 p1 p2)
    ⟨HB3.out.trans (Below.mono (by go_grown) HB3.out.size), ⟨zw, by omega⟩, by omega, by omega, by omega, by omega, by omega, HX3.out.later (by go_grown), HO3.out.later (by go_grown), ⟨_, _, _, _, _, _, (MBox.new HY.out).later (by go_grown)⟩,
      by have := OBox.new (w3.alloc (.cells #[.slice ya Y0.frames.length yc, .slice ye Y0.encl.length yd, .slice yq Y0.quotes.length yf] 30)) p1 p2; simpa using this⟩ ?_
  clear HY HB3 HX3 HO3 z3 zw
  generalize w2.heap.size = xb
  generalize w3.heap.size = yb
  intro W H
  replace H := hid H
  have hcn : cn ≤ 9223372036854775807 := by omega
  go_upto_block 0 with fail
  go_cut [15, 21] from 51 to 86 (fun lf f W => ∃ (left : Nat) (Y : MachD) (p1 p2 : Int), lf = .int .i64 left ∧ f = .int .i64 0 ∧ Hid (HeldI M (readyE L).log t (core0 M 0 [nw, 0, 0, 0]) left Y (p1, p2)) ∧ Hid (Good Y) ∧ Hid (HSt w xb (xb + 1) yb (yb + 1) xa xc xe xd xq xf (endM M R) R.2.2.1 R.2.2.2 Y p1 p2 W))
  case first =>
    go_wp2_with fail
    go_loopw [22, 15, 21] (fun i lf f W => ∃ (q left : Nat) (Y : MachD) (p1 p2 : Int), q ≤ 10 ∧ i = .int .i64 q ∧ lf = .int .i64 left ∧ f = .int .i64 0 ∧ Hid (HeldI M (readyE L).log t (core0 M 0 [nw, 0, 0, 0]) left Y (p1, p2)) ∧ Hid (Good Y) ∧ Hid (HSt w xb (xb + 1) yb (yb + 1) xa xc xe xd xq xf (endM M R) R.2.2.1 R.2.2.2 Y p1 p2 W)) (fun i _ _ _ => 10 - (intOf i).toNat)
    case atStart => exact ⟨0, t, Y0, p1, p2, by omega, rfl, rfl, rfl, HI, HYG, H⟩
    case round =>
      clear H HI HYG
      obtain ⟨q, left, Y, p1, p2, hq, rfl, rfl, rfl, HI, HYG, H⟩ := hrel
      have c0 := H.out.p.c0
      by_cases h1 : q < cn
      rotate_left
      · go_wp2_with fail
        go_meet
        exact ⟨left, Y, p1, p2, rfl, rfl, HI, HYG, H⟩
      by_cases h2 : q < 10
      rotate_left
      · go_wp2_with fail
        go_meet
        exact ⟨left, Y, p1, p2, rfl, rfl, HI, HYG, H⟩
      by_cases h3 : p1 = 2
      rotate_left
      · have h3b : (p1 == 2) = false := by rw [beq_eq_false_iff_ne]; exact h3
        go_wp2_with fail
        go_meet
        exact ⟨left, Y, p1, p2, rfl, rfl, HI, HYG, H⟩
      subst h3
      obtain ⟨m, hm⟩ : ∃ m, cuts[q]? = some m := ⟨_, List.getElem?_eq_getElem (by rw [HC.out]; exact h1)⟩
      obtain ⟨cb, co, rfl, k0⟩ := HCA.out.mono H.out.below q m hm
      have hmk := HKC.out m (List.mem_of_getElem? hm)
      obtain ⟨d, hd⟩ : ∃ d : Nat, pickD m 20 = d := ⟨(pickD m 20).toNat, by have := pickD_lo m (many := 20) (by decide); omega⟩
      have HMK := hid hmk
      have HD := hid hd
      have hle := HI.out.le
      obtain ⟨k, hk⟩ : ∃ k : Nat, min (left : Int) (d : Int) = k := ⟨(min (left : Int) (d : Int)).toNat, by omega⟩
      have hkl : k ≤ left := by omega
      have hks : (left : Int) - (k : Int) = ((left - k : Nat) : Int) := by omega
      have HKS := hid hks
      have HSTP := hid (held_step HGM.out HI.out HYG.out (by omega) rfl (k := k) hkl)
      obtain ⟨ya, yc, ye, yd, yq, yf, HY⟩ := H.out.y
      have y0 := HY.c0
      have y1 := HY.c1
      have y2 := HY.c2
      have HYA := hid HY.at
      clear hm hmk hd hks HY
      go_wp2_with fail
      refine (picked2_any m 20 _ HMK.out (by decide)).mono ?_
      rintro e w' ⟨rfl, rfl⟩
      rw [HD.out]
      dsimp only
      go_wp2_with fail
      refine (runResume _ Y 1 k _ HYA.out HYG.out.fits).mono ?_
      rintro e w4 ⟨v4, rfl, hV, hb4⟩
      rw [HSTP.out.1]
      generalize resumeD Y 1 k = S at hV HSTP ⊢
      obtain ⟨Y2, ⟨s1, s2⟩, s0⟩ := S
      dsimp only at hV ⊢
      have HI2 := hid HSTP.out.2.1
      have HG2 := hid HSTP.out.2.2
      dsimp only at HI2 HG2
      obtain ⟨za, zc, ze, zd, zq, zf, rfl⟩ := hV.parts
      have H4 := hid (H.out.later hb4)
      have HV := hid (hV.mono (b' := 0) (Nat.zero_le _))
      clear hV hb4 H HI HYG HSTP y0 y1 y2 c0 HYA k0
      obtain ⟨_, _, _, _, _, _, HY4⟩ := H4.out.y
      have y0 := HY4.c0
      have y1 := HY4.c1
      have y2 := HY4.c2
      have yz := HY4.cz
      have c0 := H4.out.p.c0
      have c1 := H4.out.p.c1
      have cz := H4.out.p.cz
      have n5 := H4.out.n5
      have n5' := n5.symm
      clear HY4
      have hwq : IntKind.i64.wrap ((q : Int) + 1) = (q : Int) + 1 := by rw [IntKind.wrap_i64]; omega
      go_wp2_with fail
      go_roundw
      case rel => exact ⟨q + 1, left - k, Y2, s1, s2, by omega, by go_num, by rw [HKS.out], rfl, HI2, HG2, H4.out.put HV.out s1 s2⟩
      case measure => simp [intOf]; omega
  case rest =>
  clear H HI HYG
  obtain ⟨left, Y, p1, p2, rfl, rfl, HI, HYG, H⟩ := hcut
  have c0 := H.out.p.c0
  have hle := HI.out.le
  by_cases h3 : p1 = 2
  · subst h3
    have HLA := hid (held_last HGM.out HI.out HYG.out (by omega) rfl)
    obtain ⟨ya, yc, ye, yd, yq, yf, HY⟩ := H.out.y
    have y0 := HY.c0
    have y1 := HY.c1
    have y2 := HY.c2
    have HYA := hid HY.at
    clear HY
    go_wp2_with fail
    refine (runResume _ Y 1 left _ HYA.out HYG.out.fits).mono ?_
    rintro e w4 ⟨v4, rfl, hV, hb4⟩
    rw [HLA.out, HRR.out] at hV ⊢
    dsimp only at hV ⊢
    obtain ⟨za, zc, ze, zd, zq, zf, rfl⟩ := hV.parts
    have H4 := hid (H.out.later hb4)
    have HV := hid (hV.mono (b' := 0) (Nat.zero_le _))
    clear hV hb4 H HI HYG HLA y0 y1 y2 c0 HYA hle
    obtain ⟨_, _, _, _, _, _, HY4⟩ := H4.out.y
    have y0 := HY4.c0
    have y1 := HY4.c1
    have y2 := HY4.c2
    have yz := HY4.cz
    have c0 := H4.out.p.c0
    have c1 := H4.out.p.c1
    have cz := H4.out.p.cz
    have n5 := H4.out.n5
    have n5' := n5.symm
    clear HY4
    go_upto_region 14 with fail
    refine act_gen (HSt w xb (xb + 1) yb (yb + 1) xa xc xe xd xq xf (endM M R) R.2.2.1 R.2.2.2 (endM M R) R.2.2.1 R.2.2.2) (H4.out.put HV.out _ _) ?_
    clear y0 y1 y2 yz c0 c1 cz n5 n5' H4 HV
    intro W H
    replace H := hid H
    obtain ⟨ya, yc, ye, yd, yq, yf, HY⟩ := H.out.y
    have hXE := hid (mach_encls H.out.x.at)
    have hYE := hid (mach_encls HY.at)
    have hXQ := hid (mach_quotes H.out.x.at)
    have hYQ := hid (mach_quotes HY.at)
    have hXF := hid (mach_frames H.out.x.at)
    have hYF := hid (mach_frames HY.at)
    have x0 := H.out.x.c0
    have x1 := H.out.x.c1
    have x2 := H.out.x.c2
    have y0 := HY.c0
    have y1 := HY.c1
    have y2 := HY.c2
    have u0 := H.out.o.c0
    have u1 := H.out.o.c1
    have v0 := H.out.p.c0
    have v1 := H.out.p.c1
    have e24 : (endM M R).frames.length = 24 := HXG.out.fl
    rw [e24] at x0 y0
    have e4 : (endM M R).encl.length = 4 := HXG.out.el
    rw [e4] at x1 y1
    have hq40 : (endM M R).quotes.length ≤ 40 := HXG.out.ql
    have HX24 := hid e24
    have HX4 := hid e4
    have hbl := xlt H.out.x.c0
    have hbl2 := xlt HY.c0
    have hno := neqOut R.2.2.1 R.2.2.2
    clear e24 e4 HY
    go_wp2_with fail
    refine (equalEncls xe ye (endM M R).encl 4 xd yd _ HX4.out (by omega) hXE.out hYE.out).mono ?_
    rintro e w5 ⟨rfl, hb5⟩
    replace x0 := cell_later hb5 x0
    replace y0 := cell_later hb5 y0
    replace x2 := cell_later hb5 x2
    replace y2 := cell_later hb5 y2
    have H5 := hid (H.out.below.trans (hb5.mono H.out.below.size))
    have HB5 := hid hb5
    clear hb5 x1 y1 u0 u1 v0 v1
    go_wp2_with fail
    refine (equalQuotes xq yq (endM M R).quotes _ xf yf _ rfl (by omega) (hXQ.out.mono HB5.out) (hYQ.out.mono HB5.out)).mono ?_
    rintro e w6 ⟨rfl, hb6⟩
    replace x0 := cell_later hb6 x0
    replace y0 := cell_later hb6 y0
    have HB6 := hid (HB5.out.trans (hb6.mono HB5.out.size))
    have H6 := hid (H5.out.trans (hb6.mono H5.out.size))
    clear hb6 x2 y2 HB5 H5
    go_wp2_with fail
    go_loopw [135] (fun j W' => ∃ i : Nat, i ≤ 24 ∧ j = .int .i64 i ∧ Below w6.heap.size w6 W') (fun j _ => 24 - (intOf j).toNat)
    case atStart => exact ⟨0, by omega, rfl, Below.refl _ _⟩
    case round =>
      obtain ⟨i, hi, rfl, hb⟩ := hrel
      have x0' := cell_later hb x0
      have y0' := cell_later hb y0
      by_cases hlt : i < 24
      · obtain ⟨x, hx⟩ : ∃ x, (endM M R).frames[i]? = some x := ⟨_, List.getElem?_eq_getElem (by rw [HX24.out]; exact hlt)⟩
        have h8 := (HXG.out.f i x hx).len
        have BW := HB6.out.trans (hb.mono HB6.out.size)
        obtain ⟨fb, fo, xwa, xwc, rfl, _, _, _, k3, k4⟩ := hXF.out i x hx
        obtain ⟨gb, go, ywa, ywc, rfl, _, _, _, m3, m4⟩ := hYF.out i x hx
        replace k3 := cell_later BW k3
        replace m3 := cell_later BW m3
        rw [h8] at k3 m3
        have HK4 := hid (k4.mono BW)
        have HM4 := hid (m4.mono BW)
        have H8 := hid h8
        have HBB := hid hb
        clear hx h8 BW k4 m4 hb
        go_wp2_with fail
        go_region_held3 (fun w' => w'.cell? ⟨xb, 0, none⟩ = some (.slice (some ⟨fb, fo, none⟩) 24 xc) ∧ w'.cell? ⟨yb, 0, none⟩ = some (.slice (some ⟨gb, go, none⟩) 24 yc) ∧ w'.cell? ⟨fb, fo + i * 4 + 3, none⟩ = some (.slice xwa 8 xwc) ∧ w'.cell? ⟨gb, go + i * 4 + 3, none⟩ = some (.slice ywa 8 ywc))
          (first | go_keep | exact ⟨q0, q1, q2, q3⟩ | (refine ⟨?_, ?_, ?_, ?_⟩ <;> (go_simp; done)))
          (first
            | (skip
               go_at_call 12
               refine (equalInts xwa ywa x.words x.words 8 8 xwc ywc _ H8.out H8.out (by omega) (by omega) (HK4.out.mono (by go_grown)) (HM4.out.mono (by go_grown))).mono ?_
               rintro y w7 ⟨rfl, hb7⟩
               rw [show decide (x.words = x.words) = true from decide_eq_true rfl]
               have B7 : Below wr.heap.size wr w7 := Below.trans (by go_grown) (hb7.mono (by go_size))
               have q0 := cell_later B7 x0'
               have q1 := cell_later B7 y0'
               have q2 := cell_later B7 k3
               have q3 := cell_later B7 m3))
        all_goals
          have HB7 := hid (HBB.out.trans (B7.mono HBB.out.size))
          clear B7 hb7
          have hwi : IntKind.i64.wrap ((i : Int) + 1) = (i : Int) + 1 := by rw [IntKind.wrap_i64]; omega
          go_wp2_with fail
          go_roundw
          case rel => exact ⟨i + 1, by omega, by go_num, HB7.out⟩
          case measure => simp [intOf]; omega
      · obtain rfl : i = 24 := by omega
        have BW := H6.out.trans (hb.mono H6.out.size)
        go_wp2_with fail
        go_ret
        exact ⟨rfl, BW⟩
  · have h3b : (p1 == 2) = false := by rw [beq_eq_false_iff_ne]; exact h3
    have hx := HI.out.ex
    rw [HRR.out] at hx
    have hy : Y = endM M R ∧ p1 = R.2.2.1 ∧ p2 = R.2.2.2 := by
      rcases hx with ⟨_, a, b⟩ | ⟨b, _⟩
      · exact ⟨a, by rw [← b], by rw [← b]⟩
      · exact absurd (congrArg Prod.fst b) h3
    obtain ⟨e1, e2, e3⟩ := hy
    go_upto_region 14 with fail
    refine act_gen (HSt w xb (xb + 1) yb (yb + 1) xa xc xe xd xq xf (endM M R) R.2.2.1 R.2.2.2 (endM M R) R.2.2.1 R.2.2.2) (by have := H.out; rw [e1, e2, e3] at this; exact this) ?_
    clear hx e1 e2 e3 c0 H HI HYG h3 h3b hle
    intro W H
    replace H := hid H
    obtain ⟨ya, yc, ye, yd, yq, yf, HY⟩ := H.out.y
    have hXE := hid (mach_encls H.out.x.at)
    have hYE := hid (mach_encls HY.at)
    have hXQ := hid (mach_quotes H.out.x.at)
    have hYQ := hid (mach_quotes HY.at)
    have hXF := hid (mach_frames H.out.x.at)
    have hYF := hid (mach_frames HY.at)
    have x0 := H.out.x.c0
    have x1 := H.out.x.c1
    have x2 := H.out.x.c2
    have y0 := HY.c0
    have y1 := HY.c1
    have y2 := HY.c2
    have u0 := H.out.o.c0
    have u1 := H.out.o.c1
    have v0 := H.out.p.c0
    have v1 := H.out.p.c1
    have e24 : (endM M R).frames.length = 24 := HXG.out.fl
    rw [e24] at x0 y0
    have e4 : (endM M R).encl.length = 4 := HXG.out.el
    rw [e4] at x1 y1
    have hq40 : (endM M R).quotes.length ≤ 40 := HXG.out.ql
    have HX24 := hid e24
    have HX4 := hid e4
    have hbl := xlt H.out.x.c0
    have hbl2 := xlt HY.c0
    have hno := neqOut R.2.2.1 R.2.2.2
    clear e24 e4 HY
    go_wp2_with fail
    refine (equalEncls xe ye (endM M R).encl 4 xd yd _ HX4.out (by omega) hXE.out hYE.out).mono ?_
    rintro e w5 ⟨rfl, hb5⟩
    replace x0 := cell_later hb5 x0
    replace y0 := cell_later hb5 y0
    replace x2 := cell_later hb5 x2
    replace y2 := cell_later hb5 y2
    have H5 := hid (H.out.below.trans (hb5.mono H.out.below.size))
    have HB5 := hid hb5
    clear hb5 x1 y1 u0 u1 v0 v1
    go_wp2_with fail
    refine (equalQuotes xq yq (endM M R).quotes _ xf yf _ rfl (by omega) (hXQ.out.mono HB5.out) (hYQ.out.mono HB5.out)).mono ?_
    rintro e w6 ⟨rfl, hb6⟩
    replace x0 := cell_later hb6 x0
    replace y0 := cell_later hb6 y0
    have HB6 := hid (HB5.out.trans (hb6.mono HB5.out.size))
    have H6 := hid (H5.out.trans (hb6.mono H5.out.size))
    clear hb6 x2 y2 HB5 H5
    go_wp2_with fail
    go_loopw [135] (fun j W' => ∃ i : Nat, i ≤ 24 ∧ j = .int .i64 i ∧ Below w6.heap.size w6 W') (fun j _ => 24 - (intOf j).toNat)
    case atStart => exact ⟨0, by omega, rfl, Below.refl _ _⟩
    case round =>
      obtain ⟨i, hi, rfl, hb⟩ := hrel
      have x0' := cell_later hb x0
      have y0' := cell_later hb y0
      by_cases hlt : i < 24
      · obtain ⟨x, hx⟩ : ∃ x, (endM M R).frames[i]? = some x := ⟨_, List.getElem?_eq_getElem (by rw [HX24.out]; exact hlt)⟩
        have h8 := (HXG.out.f i x hx).len
        have BW := HB6.out.trans (hb.mono HB6.out.size)
        obtain ⟨fb, fo, xwa, xwc, rfl, _, _, _, k3, k4⟩ := hXF.out i x hx
        obtain ⟨gb, go, ywa, ywc, rfl, _, _, _, m3, m4⟩ := hYF.out i x hx
        replace k3 := cell_later BW k3
        replace m3 := cell_later BW m3
        rw [h8] at k3 m3
        have HK4 := hid (k4.mono BW)
        have HM4 := hid (m4.mono BW)
        have H8 := hid h8
        have HBB := hid hb
        clear hx h8 BW k4 m4 hb
        go_wp2_with fail
        go_region_held3 (fun w' => w'.cell? ⟨xb, 0, none⟩ = some (.slice (some ⟨fb, fo, none⟩) 24 xc) ∧ w'.cell? ⟨yb, 0, none⟩ = some (.slice (some ⟨gb, go, none⟩) 24 yc) ∧ w'.cell? ⟨fb, fo + i * 4 + 3, none⟩ = some (.slice xwa 8 xwc) ∧ w'.cell? ⟨gb, go + i * 4 + 3, none⟩ = some (.slice ywa 8 ywc))
          (first | go_keep | exact ⟨q0, q1, q2, q3⟩ | (refine ⟨?_, ?_, ?_, ?_⟩ <;> (go_simp; done)))
          (first
            | (skip
               go_at_call 12
               refine (equalInts xwa ywa x.words x.words 8 8 xwc ywc _ H8.out H8.out (by omega) (by omega) (HK4.out.mono (by go_grown)) (HM4.out.mono (by go_grown))).mono ?_
               rintro y w7 ⟨rfl, hb7⟩
               rw [show decide (x.words = x.words) = true from decide_eq_true rfl]
               have B7 : Below wr.heap.size wr w7 := Below.trans (by go_grown) (hb7.mono (by go_size))
               have q0 := cell_later B7 x0'
               have q1 := cell_later B7 y0'
               have q2 := cell_later B7 k3
               have q3 := cell_later B7 m3))
        all_goals
          have HB7 := hid (HBB.out.trans (B7.mono HBB.out.size))
          clear B7 hb7
          have hwi : IntKind.i64.wrap ((i : Int) + 1) = (i : Int) + 1 := by rw [IntKind.wrap_i64]; omega
          go_wp2_with fail
          go_roundw
          case rel => exact ⟨i + 1, by omega, by go_num, HB7.out⟩
          case measure => simp [intOf]; omega
      · obtain rfl : i = 24 := by omega
        have BW := H6.out.trans (hb.mono H6.out.size)
        go_wp2_with fail
        go_ret
        exact ⟨rfl, BW⟩
set_option maxRecDepth 100000 in
theorem topHeld_args {H : Type} {enc : TypeId × Value → H} (W : World) (b0 : Nat) (args : Array Value) (hT : Tab W) (hs : args.size = (Tryz.f4).params.size)
    (ha : ∀ (j : Nat) t v, (Tryz.f4).params[j]? = some t → args[j]? = some v → Value.okWide Tryz.prog W .any b0 t v ∧ Rd enc Tryz.prog W t v.cells.toList) :
    Calls Tryz.prog 4 args W fun e w' => e = .returned (.bool true) ∧ Below W.heap.size W w' := by
  obtain ⟨l⟩ := args
  match l, hs with
  | [v, v1, v2, v3, v4], _ =>
    obtain ⟨h1, h2⟩ := ha 0 _ v rfl rfl
    obtain ⟨a, l, c, e, hl, ra, kl⟩ := rd_raws h2
    obtain rfl : v = .slice a l.length c := by
      have := rd_slice_v Tryz.underlying22 h1
      rw [this] at e
      exact (List.cons.inj e).1
    obtain ⟨r, rfl, hr⟩ := rd_raw (ha 1 _ v1 rfl rfl).1 (ha 1 _ v1 rfl rfl).2
    obtain ⟨x, rfl, hx⟩ := rd_int_v (ha 2 _ v2 rfl rfl).1 (ha 2 _ v2 rfl rfl).2
    obtain ⟨f, rfl, hf⟩ := rd_int_v (ha 3 _ v3 rfl rfl).1 (ha 3 _ v3 rfl rfl).2
    obtain ⟨h3, h4⟩ := ha 4 _ v4 rfl rfl
    obtain ⟨ca, cl, cc, e2, hcl, hca, hck⟩ := rd_ints64 h4
    obtain rfl : v4 = .slice ca cl.length cc := by
      have := rd_slice_v Tryz.underlying34 h3
      rw [this] at e2
      exact (List.cons.inj e2).1
    exact topHeld_calls a l l.length c r x f ca cl cl.length cc W rfl hl ra kl hr hx hf rfl hcl hca hck hT

set_option maxRecDepth 100000 in
theorem topHeld_lifted (os : Os) (started : os.Started) (H : Type) (enc : TypeId × Value → H) :
    ReturnsInHanded {} Tryz.checked os 4 .any (fun w args => (Rows.topHeldSpec.pre enc Tryz.prog Tryz.f4 [] false w args ∧ laidMetH Tryz.prog Rows.topHeldRow.laid w) ∧ sizedMet enc Tryz.prog Tryz.f4 (OpenSpec.ofChange Rows.topHeldSpec) false w args)
      (Rows.topHeldSpec.post enc Tryz.prog Tryz.f4 false true false false) := by
  refine returnsInHanded_of_change_and (C := Tryz.checked) (X := fun w _ => laidMetH Tryz.prog Rows.topHeldRow.laid w) (fun _ _ _ hh h => h.of_heap hh) own started (by kernel_rfl) Tryz.func4
    (ChangeSpec.witness_shaped (enc := enc) (C := Tryz.checked) (os := os) (X := fun w _ => laidMetH Tryz.prog Rows.topHeldRow.laid w) false (World.doorLaid Tryz.prog doorSteps os) #[.slice none 0 0, .agg #[.int .i64 0, .int .i64 0, .int .i64 0, .int .i64 0], .int .i64 0, .int .i64 0, .slice none 0 0] 8 rfl (World.shaped_of_RefB (by kernel_rfl) (by kernel_rfl)) (by kernel_rfl) (by kernel_rfl) (by kernel_rfl) (door_met os _)) ?_
  intro W base args ds gs before hval hW _ hsz hL _
  exact law_contract laidOut (by kernel_rfl) rfl Tryz.underlying4 rfl (fun ds h => by
    match ds, h with
    | [_, _, _, _, _], _ => exact ⟨rfl, rfl, rfl⟩) hval hW hsz fun hs ha => topHeld_args W base args (tab_of_laid hL) hs ha

theorem topHeld_row : Rows.TopHeldSaid :=
  OpenClaim.holds_of_wide 4 Tryz.f4 rfl rfl rfl rfl rfl rfl rfl ⟨rfl, rfl, rfl, rfl, rfl⟩ rfl rfl rfl rfl rfl (by kernel_rfl) Tryz.func4 (by kernel_rfl)
    (of_decide_eq_true (by kernel_rfl)) (by unfold Func.isWrapper; first | (rw [if_pos (by decide +kernel)]; kernel_rfl) | (rw [if_neg (by decide +kernel)]; exact ⟨rfl, rfl⟩))
    (fun os started H enc _ => topHeld_lifted os started H enc)

theorem topHeld_holds : Rows.TopHeldCardSaid :=
  Claim7.holds_tied_plain_at .later [] [.data, .data, .data] true _ false
    topHeld_row (fun _ h => by cases h) (by kernel_rfl) (fun _ h => by cases h) topHeld_row_tie rfl ⟨rfl, rfl⟩ (by kernel_rfl) rfl
    (fun f fn hf hfn => by
      obtain rfl : f = 4 := Option.some.inj ((show Tryz.prog.funcNamed Rows.topHeldRow.func = some 4 by kernel_rfl).symm.trans hf) |>.symm
      obtain rfl : fn = Tryz.f4 := (Option.some.inj (Tryz.func4.symm.trans hfn)).symm
      exact ⟨by kernel_rfl, fun j t ht => by
        have hm : t ∈ (Tryz.f4).params.toList := by simpa using Array.mem_of_getElem? ht
        have hall : ((Tryz.f4).params.toList.all fun u => !Tryz.prog.wantsStandIn u) = true := by kernel_rfl
        exact (show Tryz.prog.wantsStandIn t = false by simpa using List.all_eq_true.1 hall t hm)⟩)
    (by kernel_rfl)


end Go.Proofs.YtbamacddfonloaaGreatDoor
