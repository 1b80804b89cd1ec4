/- Who owns the machine sees the same, whatever is in enclaves: the law returns true at all raw things, acts and secrets; its arguments read as they did; the card is tied. Condition: the library's tables start as the program's text lays them. -/
import Derived.Test.YtbamacddfonloaaGreatDoorLiftD
import Derived.Test.YtbamacddfonloaaGreatDoorGc
import Derived.Test.YtbamacddfonloaaGreatDoorGw
import Derived.Test.YtbamacddfonloaaGreatDoorGu
import Derived.Test.YtbamacddfonloaaGreatDoorGx
import Derived.Test.YtbamacddfonloaaGreatDoorActs
import Derived.Test.YtbamacddfonloaaGreatDoorActed
import Derived.Deep.CutBlock
namespace Go.Proofs.YtbamacddfonloaaGreatDoor
open Go.ChangeShapes Go.WideShapes Go.ChangeAt Go.RowKit

/-- The other machine, in its box, while its words are written anew. -/
structure NbSt (W0 : World) (nb : Nat) (fv ev qv : Value) (F : List (FrameD × Value)) (E : List EnclD) (Q : List QuoteD) (W : World) : Prop where
  below : Below W0.heap.size W0 W
  lo : W0.heap.size ≤ nb
  c0 : W.cell? ⟨nb, 0, none⟩ = some fv
  c1 : W.cell? ⟨nb, 1, none⟩ = some ev
  c2 : W.cell? ⟨nb, 2, none⟩ = some qv
  cz : ∀ o, W.frozen? ⟨nb, o, none⟩ = false
  bt : BlkT W nb 30
  own : OwnMach W0.heap.size W fv ev qv F E Q
section
variable {W0 W W' : World} {nb : Nat} {fv ev qv : Value} {F : List (FrameD × Value)} {E : List EnclD} {Q : List QuoteD}
theorem NbSt.lt (h : NbSt W0 nb fv ev qv F E Q W) : nb < W.heap.size := World.block_lt_of_cell? W _ h.c0
theorem NbSt.later (h : NbSt W0 nb fv ev qv F E Q W) (hb : Below W.heap.size W W') : NbSt W0 nb fv ev qv F E Q W' :=
  ⟨h.below.trans (hb.mono h.below.size), h.lo, cell_later hb h.c0, cell_later hb h.c1, cell_later hb h.c2, fun o => by rw [(bcell hb).2 _ _ h.lt]; exact h.cz o, h.bt.below hb, h.own.below hb⟩
theorem NbSt.new {w2 : World} (hb : Below W0.heap.size W0 w2) (hO : OwnMach W0.heap.size w2 fv ev qv F E Q) : NbSt W0 w2.heap.size fv ev qv F E Q (w2.alloc (.cells #[fv, ev, qv] 30)) :=
  ⟨hb.trans (Below.mono (below_alloc _ _) hb.size), hb.size, by go_simp, by go_simp, by go_simp, fun o => by go_simp, BlkT.new rfl _ _, hO.below (below_alloc _ _)⟩
theorem NbSt.setW {g m c i k : Nat} {x : FrameD} {n : Int} (h : NbSt W0 nb fv ev qv F E Q W) (hm : x.words.length = m) (hx : F[i]? = some (x, .slice (some ⟨g, 0, none⟩) m c)) :
    NbSt W0 nb fv ev qv (F.set i ({ x with words := x.words.set k n }, .slice (some ⟨g, 0, none⟩) m c)) E Q (W.setCell ⟨g, k, none⟩ (.int .i64 n)) := by
  have h1 := (h.own.f.sub i _ hx).1
  have hg := (h1.lt g rfl).1
  have hn : nb ≠ g := fun e => own_type h1 h.bt (by decide) g rfl e.symm
  exact ⟨below_at h.below hg _ _, h.lo, (far_set hn).trans h.c0, (far_set hn).trans h.c1, (far_set hn).trans h.c2, fun o => (far_frozen hn).trans (h.cz o), h.bt.set _ _, h.own.setW hm hx⟩
end
theorem NbSt.box {W0 W : World} {nb g c1 ec qc : Nat} {ea qa : Option Addr} {F : List (FrameD × Value)} {FN : List FrameD} {M : MachD} (h : NbSt W0 nb (.slice (some ⟨g, 0, none⟩) 24 c1) (.slice ea M.encl.length ec) (.slice qa M.quotes.length qc) F M.encl M.quotes W) (hF : F.map Prod.fst = FN) (hl : FN.length = 24) :
    MBox nb (some ⟨g, 0, none⟩) c1 ea ec qa qc ⟨FN, M.encl, M.quotes⟩ W := by
  have h0 := h.c0
  have ho := h.own
  rw [← hl] at h0 ho
  exact ⟨h0, h.c1, h.c2, h.cz, h.bt, OwnMach.from' (M := ⟨FN, M.encl, M.quotes⟩) ho hF (Nat.zero_le _)⟩
theorem MachFrom.set3T {base B : Nat} {t : TypeId} {W : World} {v : Value} {M : MachD} (h : MachFrom base W v M) (hB : BlkT W B t) (h1 : 36 ≠ t) (h2 : 55 ≠ t) (h3 : 58 ≠ t) (h4 : 3 ≠ t) (u0 u1 u2 : Value) :
    MachFrom base (((W.setCell ⟨B, 0, none⟩ u0).setCell ⟨B, 1, none⟩ u1).setCell ⟨B, 2, none⟩ u2) v M :=
  ((h.setT hB h1 h2 h3 h4 0 u0).setT (hB.set _ _) h1 h2 h3 h4 1 u1).setT ((hB.set _ _).set _ _) h1 h2 h3 h4 2 u2
theorem mach_frames {W : World} {fa ea qa : Option Addr} {fn fc en ec qn qc : Nat} {M : MachD} (h : MachAt W (.agg #[.slice fa fn fc, .slice ea en ec, .slice qa qn qc]) M) : FramesAt W fa M.frames := by
  obtain ⟨x0, x1, x2, x3, x4, x5, ex, hF, _, _⟩ := h
  simp only [Value.agg.injEq, Array.mk.injEq, List.cons.injEq, Value.slice.injEq, and_true] at ex
  obtain ⟨⟨rfl, _, _⟩, _⟩ := ex
  exact hF
theorem acts_at {W : World} {oa : Option Addr} {n oc : Nat} {L : List ActD} (h : OwnActs 0 W (.slice oa n oc) L) : ActsAt W oa L := by
  obtain ⟨a, c, e, hA⟩ := h.at
  obtain ⟨rfl, _, _⟩ := Value.slice.inj e
  exact hA
/-- An act in a box. -/
structure ABox (b : Nat) (a : ActD) (W : World) : Prop where
  a0 : W.cell? ⟨b, 0, none⟩ = some (.int .i64 a.kind)
  a1 : W.cell? ⟨b, 1, none⟩ = some (.int .i64 a.e)
  a2 : W.cell? ⟨b, 2, none⟩ = some (.int .i64 a.f)
  a3 : W.cell? ⟨b, 3, none⟩ = some (.int .i64 a.pl)
  a4 : W.cell? ⟨b, 4, none⟩ = some (.int .i64 a.rights)
  a5 : W.cell? ⟨b, 5, none⟩ = some (.int .i64 a.n)
  a6 : W.cell? ⟨b, 6, none⟩ = some (.int .i64 a.fuel)
theorem ABox.later {b : Nat} {a : ActD} {W W' : World} (h : ABox b a W) (hb : Below W.heap.size W W') : ABox b a W' :=
  ⟨cell_later hb h.a0, cell_later hb h.a1, cell_later hb h.a2, cell_later hb h.a3, cell_later hb h.a4, cell_later hb h.a5, cell_later hb h.a6⟩
/-- Both machines, in their boxes; the acts. -/
structure BlSt (w : World) (mb nb : Nat) (av : Value) (L : List ActD) (M N : MachD) (W : World) : Prop where
  below : Below w.heap.size w W
  lo : w.heap.size ≤ mb ∧ w.heap.size ≤ nb
  ne : mb ≠ nb
  m : ∃ fa fc ea ec qa qc, MBox mb fa fc ea ec qa qc M W
  n : ∃ fa fc ea ec qa qc, MBox nb fa fc ea ec qa qc N W
  a : OwnActs 0 W av L
section
variable {w W W' : World} {mb nb : Nat} {av : Value} {L : List ActD} {M N X Z : MachD}
theorem BlSt.later (h : BlSt w mb nb av L M N W) (hb : Below W.heap.size W W') : BlSt w mb nb av L M N W' := by
  obtain ⟨fa, fc, ea, ec, qa, qc, hm⟩ := h.m
  obtain ⟨ga, gc, ka, kc, ra, rc, hn⟩ := h.n
  exact ⟨h.below.trans (hb.mono h.below.size), h.lo, h.ne, ⟨_, _, _, _, _, _, hm.later hb⟩, ⟨_, _, _, _, _, _, hn.later hb⟩, h.a.below hb⟩
theorem BlSt.lts (h : BlSt w mb nb av L M N W) : mb < W.heap.size ∧ nb < W.heap.size := by
  obtain ⟨fa, fc, ea, ec, qa, qc, hm⟩ := h.m
  obtain ⟨ga, gc, ka, kc, ra, rc, hn⟩ := h.n
  exact ⟨hm.lt, hn.lt⟩
theorem BlSt.putM (h : BlSt w mb nb av L M N W) {fa ea qa : Option Addr} {fc ec qc : Nat} (h' : MachFrom 0 W (.agg #[.slice fa X.frames.length fc, .slice ea X.encl.length ec, .slice qa X.quotes.length qc]) X) :
    BlSt w mb nb av L X N (((W.setCell ⟨mb, 0, none⟩ (.slice fa X.frames.length fc)).setCell ⟨mb, 1, none⟩ (.slice ea X.encl.length ec)).setCell ⟨mb, 2, none⟩ (.slice qa X.quotes.length qc)) := by
  obtain ⟨_, _, _, _, _, _, hm⟩ := h.m
  obtain ⟨_, _, _, _, _, _, hn⟩ := h.n
  exact ⟨below_low3 h.below h.lo.1 _ _ _, h.lo, h.ne, ⟨_, _, _, _, _, _, hm.put h'⟩, ⟨_, _, _, _, _, _, hn.farM h.ne.symm hm.bt _ _ _⟩, ownsRow_set3 h.a (own_type h.a hm.bt (by decide)) _ _ _ _ _ _⟩
theorem BlSt.putN (h : BlSt w mb nb av L M N W) {fa ea qa : Option Addr} {fc ec qc : Nat} (h' : MachFrom 0 W (.agg #[.slice fa Z.frames.length fc, .slice ea Z.encl.length ec, .slice qa Z.quotes.length qc]) Z) :
    BlSt w mb nb av L M Z (((W.setCell ⟨nb, 0, none⟩ (.slice fa Z.frames.length fc)).setCell ⟨nb, 1, none⟩ (.slice ea Z.encl.length ec)).setCell ⟨nb, 2, none⟩ (.slice qa Z.quotes.length qc)) := by
  obtain ⟨_, _, _, _, _, _, hm⟩ := h.m
  obtain ⟨_, _, _, _, _, _, hn⟩ := h.n
  exact ⟨below_low3 h.below h.lo.2 _ _ _, h.lo, h.ne, ⟨_, _, _, _, _, _, hm.farM h.ne hn.bt _ _ _⟩, ⟨_, _, _, _, _, _, hn.put h'⟩, ownsRow_set3 h.a (own_type h.a hn.bt (by decide)) _ _ _ _ _ _⟩
theorem BlSt.putMN (h : BlSt w mb nb av L M N W) {fa ea qa ga ka ra : Option Addr} {fc ec qc gc kc rc : Nat} (h1 : MachFrom 0 W (.agg #[.slice fa X.frames.length fc, .slice ea X.encl.length ec, .slice qa X.quotes.length qc]) X)
    (h2 : MachFrom 0 W (.agg #[.slice ga Z.frames.length gc, .slice ka Z.encl.length kc, .slice ra Z.quotes.length rc]) Z) :
    BlSt w mb nb av L X Z ((((((W.setCell ⟨mb, 0, none⟩ (.slice fa X.frames.length fc)).setCell ⟨mb, 1, none⟩ (.slice ea X.encl.length ec)).setCell ⟨mb, 2, none⟩ (.slice qa X.quotes.length qc)).setCell ⟨nb, 0, none⟩ (.slice ga Z.frames.length gc)).setCell ⟨nb, 1, none⟩ (.slice ka Z.encl.length kc)).setCell ⟨nb, 2, none⟩ (.slice ra Z.quotes.length rc)) := by
  obtain ⟨_, _, _, _, _, _, hm⟩ := h.m
  exact (h.putM h1).putN (h2.set3T hm.bt (by decide) (by decide) (by decide) (by decide) _ _ _)
theorem BlSt.putNM (h : BlSt w mb nb av L M N W) {fa ea qa ga ka ra : Option Addr} {fc ec qc gc kc rc : Nat} (h1 : MachFrom 0 W (.agg #[.slice fa X.frames.length fc, .slice ea X.encl.length ec, .slice qa X.quotes.length qc]) X)
    (h2 : MachFrom 0 W (.agg #[.slice ga Z.frames.length gc, .slice ka Z.encl.length kc, .slice ra Z.quotes.length rc]) Z) :
    BlSt w mb nb av L X Z ((((((W.setCell ⟨nb, 0, none⟩ (.slice ga Z.frames.length gc)).setCell ⟨nb, 1, none⟩ (.slice ka Z.encl.length kc)).setCell ⟨nb, 2, none⟩ (.slice ra Z.quotes.length rc)).setCell ⟨mb, 0, none⟩ (.slice fa X.frames.length fc)).setCell ⟨mb, 1, none⟩ (.slice ea X.encl.length ec)).setCell ⟨mb, 2, none⟩ (.slice qa X.quotes.length qc)) := by
  obtain ⟨_, _, _, _, _, _, hn⟩ := h.n
  exact (h.putN h2).putM (h1.set3T hn.bt (by decide) (by decide) (by decide) (by decide) _ _ _)
end
/-- A frame of an enclave, its first k words written anew. -/
def fillP (f : Nat → Int) (k : Nat) (x : FrameD) : FrameD := if 0 < x.owner then { x with words := fillW f k x.words } else x
theorem fillP_0 (f : Nat → Int) (x : FrameD) : fillP f 0 x = x := by unfold fillP; split <;> rfl
theorem fillP_len (f : Nat → Int) (k : Nat) (x : FrameD) : (fillP f k x).words.length = x.words.length := by
  unfold fillP
  split
  · exact fillW_len _ _ _
  · rfl
theorem fillP_no {f : Nat → Int} {x : FrameD} (h : ¬ 0 < x.owner) (k : Nat) : fillP f k x = x := by rw [fillP, if_neg h]
theorem fillP_yes {f : Nat → Int} {x : FrameD} (h : 0 < x.owner) (k : Nat) : ({ fillP f k x with words := (fillP f k x).words.set k (f k) } : FrameD) = fillP f (k + 1) x := by
  rw [fillP, if_pos h, fillP, if_pos h]
  rfl
theorem actT_own (x : RawD) : 1 ≤ (actT x false).kind ∧ (actT x false).kind ≤ 7 ∧ (actT x false).kind ≠ 3 := by
  unfold actT
  repeat' split
  all_goals first | (rename_i h; exact absurd h.2 (by decide)) | simp
def secF (s : RawD) (k : Nat) : Int := pickD (wrap64 (s.a + wrap64 ((k : Int) * s.b))) 65536
theorem secF_in (s : RawD) (k : Nat) : 0 ≤ secF s k ∧ secF s k ≤ 65535 := by
  have h1 := pickD_lo (wrap64 (s.a + wrap64 ((k : Int) * s.b))) (many := 65536) (by decide)
  have h2 := pickD_hi (wrap64 (s.a + wrap64 ((k : Int) * s.b))) (many := 65536) (by decide)
  unfold secF
  omega

set_option maxRecDepth 10000 in
set_option maxHeartbeats 3200000 in
theorem topBlind_calls (a : Option Addr) (l : List RawD) (n c : Nat) (r : RawD) (ba : Option Addr) (acts : List RawD) (bn bc : Nat) (s : RawD) (w : World) (hn : l.length = n) (hl : n * 32 ≤ 140737488351232) (ha : RawsAt w a l)
    (kl : ∀ x ∈ l, x.Ok) (hr : r.Ok) (hbn : acts.length = bn) (hbl : bn * 32 ≤ 140737488351232) (hba : RawsAt w ba acts) (kb : ∀ x ∈ acts, x.Ok) (hs : s.Ok) (hT : Tab w) :
    Calls Tryz.prog 3 #[.slice a n c, .agg #[.int .i64 r.kind, .int .i64 r.a, .int .i64 r.b, .int .i64 r.c], .slice ba bn bc, .agg #[.int .i64 s.kind, .int .i64 s.a, .int .i64 s.b, .int .i64 s.c]] w fun e w' => e = .returned (.bool true) ∧ Below w.heap.size w w' := by
  have HA := hid ha
  have HN := hid hn
  have HKL := hid kl
  have HR := hid hr
  have HBN := hid hbn
  have HBA := hid hba
  have HKB := hid kb
  have HS := hid hs
  have HT := hid hT
  have HG := hid (imageD_good l r)
  have HFr := hid (frameD_in l r 0)
  clear ha hn kl hr hbn hba kb hs hT
  go_enter Tryz.func3, Tryz.ntmps3
  go_upto_region 1 with fail
  refine act_gen (fun W => Below w.heap.size w W ∧ W.cell? ⟨w.heap.size, 0, none⟩ = some (.int .i64 r.kind) ∧ W.cell? ⟨w.heap.size, 1, none⟩ = some (.int .i64 r.a) ∧ W.cell? ⟨w.heap.size, 2, none⟩ = some (.int .i64 r.b) ∧ W.cell? ⟨w.heap.size, 3, none⟩ = some (.int .i64 r.c) ∧ W.cell? ⟨w.heap.size + 1, 1, none⟩ = some (.int .i64 s.a) ∧ W.cell? ⟨w.heap.size + 1, 2, none⟩ = some (.int .i64 s.b))
    ⟨by go_grown, by go_simp, by go_simp, by go_simp, by go_simp, by go_simp, by go_simp⟩ ?_
  rintro wa ⟨hba, q0, q1, q2, q3, s1, s2⟩
  have HBa := hid hba
  clear hba
  go_wp2_with fail
  refine (topStarted a l n c r 0 _ HN.out hl (HA.out.mono HBa.out) HKL.out HR.out ⟨by decide, by decide⟩ (HT.out.mono HBa.out)).mono ?_
  rintro e w1 ⟨ia, ic, mv, rfl, hP, hM, hb1⟩
  have HGM := hid (startedM_good HG.out HFr.out.2)
  generalize imageD l r = L at *
  generalize frameD l r 0 = fr at *
  generalize startedM L fr = M at *
  have HB1 : Hid (Below w.heap.size w w1) := HBa.out.trans (hb1.mono HBa.out.size)
  replace s1 := cell_later hb1 s1
  replace s2 := cell_later hb1 s2
  obtain ⟨fa, fc, ea, ec, qa, qc, rfl⟩ := hM.parts
  have HM := hid hM
  clear hb1 hP hM q0 q1 q2 q3 HBa
  go_upto_region 2 with fail
  refine act_gen (fun W => Below w.heap.size w W ∧ MBox w1.heap.size fa fc ea ec qa qc M W ∧ W.cell? ⟨w.heap.size + 1, 1, none⟩ = some (.int .i64 s.a) ∧ W.cell? ⟨w.heap.size + 1, 2, none⟩ = some (.int .i64 s.b)) ⟨HB1.out.trans (Below.mono (by go_grown) HB1.out.size), MBox.new HM.out, cell_new1 s1 _, cell_new1 s2 _⟩ ?_
  clear HM s1 s2
  have hmb := HB1.out.size
  generalize w1.heap.size = mb at hmb ⊢
  clear HB1 w1
  rintro W ⟨hbW, HB, s1, s2⟩
  have m0 := HB.c0
  have m1 := HB.c1
  have m2 := HB.c2
  have HBx := hid HB
  have HBW := hid hbW
  clear HB hbW
  go_wp2_with fail
  refine (epcCopy _ M _ HGM.out.fits HBx.out.at).mono ?_
  rintro x w2 ⟨fv, ev, qv, F, rfl, hF, hO, hb2⟩
  clear m0 m1 m2
  have hFl : F.length = 24 := by rw [← HGM.out.fl, ← hF, List.length_map]
  have o1 := hO.f.row
  rw [hFl] at o1
  obtain ⟨g, c1, rfl, hg1, hg2⟩ := own_some o1 (by decide)
  obtain ⟨ea2, ec2, rfl⟩ := own_slice hO.e
  obtain ⟨qa2, qc2, rfl⟩ := own_slice hO.q
  have HO := hid hO
  have HF := hid hF
  have HB2 := hid hb2
  clear o1 hO hF hb2 hFl hg2
  go_upto_region 3 with fail
  refine act_gen (NbSt W w2.heap.size (.slice (some ⟨g, 0, none⟩) 24 c1) (.slice ea2 M.encl.length ec2) (.slice qa2 M.quotes.length qc2) F M.encl M.quotes) (NbSt.new HB2.out HO.out) ?_
  have hnb := HB2.out.size
  clear HO HB2
  generalize w2.heap.size = nb at hnb ⊢
  clear w2
  intro W2 HN2
  replace HN2 := hid HN2
  have c0 := HN2.out.c0
  go_upto_block 0 with fail
  go_cut [] from 38 to 69 (fun W' => ∃ F', Hid (F'.map Prod.fst = fillF (secF s) 24 M.frames) ∧ Hid (NbSt W nb (.slice (some ⟨g, 0, none⟩) 24 c1) (.slice ea2 M.encl.length ec2) (.slice qa2 M.quotes.length qc2) F' M.encl M.quotes W'))
  case first =>
    go_wp2_with fail
    go_loopw [38] (fun j W' => ∃ (i : Nat) (F' : List (FrameD × Value)), i ≤ 24 ∧ j = .int .i64 i ∧ Hid (F'.map Prod.fst = fillF (secF s) i M.frames) ∧ Hid (NbSt W nb (.slice (some ⟨g, 0, none⟩) 24 c1) (.slice ea2 M.encl.length ec2) (.slice qa2 M.quotes.length qc2) F' M.encl M.quotes W')) (fun j _ => 24 - (intOf j).toNat)
    case atStart => exact ⟨0, F, by omega, rfl, HF, HN2⟩
    case round =>
      clear HN2 HF c0
      obtain ⟨i, F', hi, rfl, HF, HN2⟩ := hrel
      by_cases hlt : i < 24
      rotate_left
      · obtain rfl : i = 24 := by omega
        go_wp2_with fail
        go_meet
        exact ⟨F', HF, HN2⟩
      have hi0 : (i : Int) < 24 := by omega
      obtain ⟨x, hx⟩ : ∃ x, M.frames[i]? = some x := ⟨_, List.getElem?_eq_getElem (by rw [HGM.out.fl]; exact hlt)⟩
      have h8 := (HGM.out.f i x hx).len
      have H8 := hid h8
      have HX := hid hx
      obtain ⟨xv, hy⟩ : ∃ xv, F'[i]? = some (x, xv) := by
        have : (F'.map Prod.fst)[i]? = some x := by rw [HF.out, fillF_ge _ _ _ _ (Nat.le_refl _)]; exact hx
        simp only [List.getElem?_map, Option.map_eq_some_iff] at this
        obtain ⟨p, hp, rfl⟩ := this
        exact ⟨p.2, hp⟩
      have o3 := (HN2.out.own.f.sub i _ hy).1
      simp only [h8] at o3
      obtain ⟨gw, cw, rfl, hw1, hw2⟩ := own_some o3 (by decide)
      obtain ⟨t0, t1, t2, t3, t9⟩ := HN2.out.own.frameAt hy
      simp only at t0 t1 t2 t3
      have HY := hid hy
      clear hx h8 hy o3
      go_upto_region 6 with fail
      refine act_gen (fun W' => NbSt W nb (.slice (some ⟨g, 0, none⟩) 24 c1) (.slice ea2 M.encl.length ec2) (.slice qa2 M.quotes.length qc2) F' M.encl M.quotes W' ∧ W'.cell? ⟨wr.heap.size, 0, none⟩ = some (.int .i64 x.owner) ∧ W'.cell? ⟨wr.heap.size, 3, none⟩ = some (.slice (some ⟨gw, 0, none⟩) 8 cw)) ⟨HN2.out.later (by go_grown), by go_simp, by go_simp⟩ ?_
      clear HN2 t0 t1 t2 t3 t9
      rintro W3 ⟨HN2, f0, f3⟩
      have hgf : wr.heap.size ≠ gw := by omega
      have hnn : nb ≠ gw := fun e => own_type (HN2.own.f.sub i _ HY.out).1 HN2.bt (by decide) gw rfl e.symm
      have hgg : g ≠ gw := fun e => (HN2.own.f.sub i _ HY.out).2 gw rfl (by rw [e]; rfl)
      have hsec : w.heap.size + 1 ≠ gw := by have := World.block_lt_of_cell? W _ s1; simp only at this; omega
      replace HN2 := hid HN2
      clear hw1 hw2
      generalize wr.heap.size = fb at hgf f0 f3 ⊢
      clear wr
      go_wp2_with fail
      go_loopw [46] (fun j W' => ∃ k : Nat, k ≤ 8 ∧ j = .int .i64 k ∧ Hid (NbSt W nb (.slice (some ⟨g, 0, none⟩) 24 c1) (.slice ea2 M.encl.length ec2) (.slice qa2 M.quotes.length qc2) (F'.set i (fillP (secF s) k x, .slice (some ⟨gw, 0, none⟩) 8 cw)) M.encl M.quotes W') ∧ W'.cell? ⟨fb, 0, none⟩ = some (.int .i64 x.owner) ∧ W'.cell? ⟨fb, 3, none⟩ = some (.slice (some ⟨gw, 0, none⟩) 8 cw)) (fun j _ => 8 - (intOf j).toNat)
      case atStart => exact ⟨0, by omega, rfl, by rw [fillP_0, set_self HY.out]; exact HN2, f0, f3⟩
      case round =>
        clear HN2 f0 f3 W3
        obtain ⟨k, hk, rfl, HN2, f0, f3⟩ := hrel
        have hwk : IntKind.i64.wrap ((k : Int) + 1) = (k : Int) + 1 := by rw [IntKind.wrap_i64]; omega
        by_cases hkl : k < 8
        rotate_left
        · obtain rfl : k = 8 := by omega
          have hwi : IntKind.i64.wrap ((i : Int) + 1) = (i : Int) + 1 := by rw [IntKind.wrap_i64]; omega
          have HE : Hid ((F'.set i (fillP (secF s) 8 x, .slice (some ⟨gw, 0, none⟩) 8 cw)).map Prod.fst = fillF (secF s) (i + 1) M.frames) := by
            show _ = _
            rw [List.map_set, HF.out, fillF, upd_some (x := x) (by rw [fillF_ge _ _ _ _ (Nat.le_refl _)]; exact HX.out)]
            rfl
          go_wp2_with fail
          go_roundw
          case rel => exact ⟨i + 1, _, by omega, by go_num, HE, HN2⟩
          case measure => simp [intOf]; omega
        by_cases ho : 0 < x.owner
        rotate_left
        · go_wp2_with fail
          go_roundw
          case rel => exact ⟨k + 1, by omega, by go_num, by have := HN2; rw [fillP_no ho] at this; rw [fillP_no ho]; exact this, f0, f3⟩
          case measure => simp [intOf]; omega
        have c0 := HN2.out.c0
        have hil : i < F'.length := (List.getElem?_eq_some_iff.1 HY.out).1
        have hy2 : (F'.set i (fillP (secF s) k x, Value.slice (some ⟨gw, 0, none⟩) 8 cw))[i]? = some (fillP (secF s) k x, .slice (some ⟨gw, 0, none⟩) 8 cw) := List.getElem?_set_self hil
        have HY2 := hid hy2
        obtain ⟨_, _, _, t3, _⟩ := HN2.out.own.frameAt hy2
        simp only at t3
        have hl8 : (fillP (secF s) k x).words.length = 8 := by rw [fillP_len, H8.out]
        have HL8 := hid hl8
        obtain ⟨wk, hwkk⟩ : ∃ m, (fillP (secF s) k x).words[k]? = some m := ⟨_, List.getElem?_eq_getElem (by rw [hl8]; exact hkl)⟩
        obtain ⟨u0, u9⟩ := HN2.out.own.wordAt hy2 hwkk
        have b1 := cell_later HN2.out.below s1
        have b2 := cell_later HN2.out.below s2
        have hwx := wrap_is64 (s.a + IntKind.i64.wrap ((k : Int) * s.b))
        have HWX := hid hwx
        clear hy2 hl8 hwkk hwx hil
        go_upto_region 10 with fail
        go_region_held3 (fun w' => w'.cell? ⟨nb, 0, none⟩ = some (.slice (some ⟨g, 0, none⟩) 24 c1) ∧ w'.cell? ⟨g, i * 4 + 3, none⟩ = some (.slice (some ⟨gw, 0, none⟩) 8 cw) ∧ w'.cell? ⟨w.heap.size + 1, 1, none⟩ = some (.int .i64 s.a) ∧ w'.cell? ⟨w.heap.size + 1, 2, none⟩ = some (.int .i64 s.b))
          (first | exact ⟨c0, t3, b1, b2⟩ | (refine ⟨?_, ?_, ?_, ?_⟩ <;> (go_simp; done)))
          (first
            | (go_at_call 9; refine (picked2_any _ 65536 _ HWX.out (by decide)).mono ?_; rintro e w' ⟨rfl, rfl⟩))
        all_goals
          have HN3 := hid ((HN2.out.setW (k := k) (n := secF s k) HL8.out HY2.out).later (below_drew _))
          have f0' : ((wr.setCell ⟨gw, k, none⟩ (.int .i64 (secF s k))).drew).cell? ⟨fb, 0, none⟩ = some (.int .i64 x.owner) := by go_simp
          have f3' : ((wr.setCell ⟨gw, k, none⟩ (.int .i64 (secF s k))).drew).cell? ⟨fb, 3, none⟩ = some (.slice (some ⟨gw, 0, none⟩) 8 cw) := by go_simp
          go_wp2_with fail
          go_roundw
          case rel =>
            have HN4 := HN3.out
            rw [List.set_set, fillP_yes ho] at HN4
            exact ⟨k + 1, by omega, by go_num, hid HN4, f0', f3'⟩
          case measure => simp [intOf]; omega
  case rest =>
  clear HN2 HF c0
  obtain ⟨F', HF, HN2⟩ := hcut
  obtain ⟨FN, hFN⟩ : ∃ FN, fillF (secF s) 24 M.frames = FN := ⟨_, rfl⟩
  have HAL := hid (fill_alike HGM.out (secF_in s) 24)
  have hnl : (fillF (secF s) 24 M.frames).length = 24 := by rw [fillF_len]; exact HGM.out.fl
  rw [hFN] at HAL HF hnl
  have HMB := hid (HBx.out.later HN2.out.below)
  have HNB := hid (HN2.out.box HF.out hnl)
  clear hFN
  have HBC := hid (HBW.out.trans (HN2.out.below.mono HBW.out.size))
  have hmn : mb ≠ nb := by have := HBx.out.lt; omega
  have hws := HBW.out.size
  generalize (MachD.mk FN M.encl M.quotes) = N at HAL HNB
  clear HN2 HF hnl HBx HBW HFr s1 s2
  go_wp2_with fail
  refine (keepActs ba acts bn bc 40 false _ HBN.out hbl (HBA.out.mono HBC.out) HKB.out (by decide)).mono ?_
  rintro e w3 ⟨av, rfl, hAv, hb3⟩
  obtain ⟨oa, oc, rfl, _⟩ := hAv.at
  have HST : Hid (BlSt w mb nb (.slice oa (actsOf acts 40 false).length oc) (actsOf acts 40 false) M N w3) := ⟨HBC.out.trans (hb3.mono HBC.out.size), ⟨hmb, by omega⟩, hmn, ⟨_, _, _, _, _, _, HMB.out.later hb3⟩, ⟨_, _, _, _, _, _, HNB.out.later hb3⟩, hAv.mono (Nat.zero_le _)⟩
  have HAK : Hid (∀ x ∈ actsOf acts 40 false, 1 ≤ x.kind ∧ x.kind ≤ 7 ∧ x.kind ≠ 3) := fun x hx => by
    simp only [actsOf, List.mem_map] at hx
    obtain ⟨y, _, rfl⟩ := hx
    exact actT_own y
  have hln : (actsOf acts 40 false).length ≤ 40 := by rw [actsOf_len]; omega
  generalize actsOf acts 40 false = L2 at *
  clear hAv hb3 HBC HMB HNB hmn hws hmb hnb HGM
  generalize hln2 : L2.length = ln at *
  have HL2 := hid hln2
  clear hln2
  go_wp2_with fail
  go_loopw [73] (fun j W' => ∃ (i : Nat) (M N : MachD), i ≤ ln ∧ j = .int .i64 i ∧ Hid (Alike M N) ∧ Hid (BlSt w mb nb (.slice oa ln oc) L2 M N W')) (fun j _ => ln - (intOf j).toNat)
  case atStart => exact ⟨0, M, N, by omega, rfl, HAL, HST⟩
  case round =>
    clear HAL HST
    obtain ⟨i, M, N, hi, rfl, HAL, HST⟩ := hrel
    by_cases hlt : i < ln
    rotate_left
    · clear HL2 HAK
      refine act_gen (BlSt w mb nb (.slice oa ln oc) L2 M N) HST.out ?_
      clear HST wr
      intro W5 HST
      obtain ⟨fa4, fc4, ea4, ec4, qa4, qc4, HM4⟩ := HST.m
      obtain ⟨ga4, gc4, ka4, kc4, ra4, rc4, HN4⟩ := HST.n
      have m0 := HM4.c0
      have n0 := HN4.c0
      rw [HAL.out.gm.fl] at m0
      rw [HAL.out.gn.fl] at n0
      have HMF := hid (mach_frames HM4.at)
      have HNF := hid (mach_frames HN4.at)
      have HBL := hid HST.below
      clear HST HM4 HN4
      go_wp2_with fail
      go_loopw [107] (fun j W' => ∃ k : Nat, k ≤ 24 ∧ j = .int .i64 k ∧ Below W5.heap.size W5 W') (fun j _ => 24 - (intOf j).toNat)
      case atStart => exact ⟨0, by omega, rfl, Below.refl _ _⟩
      case round =>
        obtain ⟨k, hk, rfl, hb⟩ := hrel
        by_cases hkl : k < 24
        rotate_left
        · obtain rfl : k = 24 := by omega
          have BW := HBL.out.trans (hb.mono HBL.out.size)
          go_wp2_with fail
          go_ret
          exact ⟨rfl, BW⟩
        have n0' := cell_later hb n0
        obtain ⟨x, hx⟩ : ∃ x, M.frames[k]? = some x := ⟨_, List.getElem?_eq_getElem (by rw [HAL.out.gm.fl]; exact hkl)⟩
        obtain ⟨y, hy⟩ : ∃ y, N.frames[k]? = some y := ⟨_, List.getElem?_eq_getElem (by rw [HAL.out.gn.fl]; exact hkl)⟩
        obtain ⟨e1, _, _, e4⟩ := seen_at HAL.out.f hx hy
        have hx8 := (HAL.out.gm.f k x hx).len
        have hy8 := (HAL.out.gn.f k y hy).len
        obtain ⟨fb, fo, xwa, xwc, rfl, p0, p1, p2, p3, p4⟩ := HMF.out.mono hb k x hx
        obtain ⟨gb, go, ywa, ywc, rfl, q0, q1, q2, q3, q4⟩ := HNF.out.mono hb k y hy
        rw [hx8] at p3
        rw [hy8] at q3
        rw [e1] at q0
        have HP4 := hid p4
        have HQ4 := hid q4
        have HX8 := hid hx8
        have HY8 := hid hy8
        have HE4 := hid e4
        have HBB := hid hb
        have hwk : IntKind.i64.wrap ((k : Int) + 1) = (k : Int) + 1 := by rw [IntKind.wrap_i64]; omega
        clear hx hy hx8 hy8 p4 q4 e4 e1 hb
        go_upto_region 26 with fail
        refine act_gen (fun W' => Below W5.heap.size W5 W' ∧ IntsAt W' xwa x.words ∧ IntsAt W' ywa y.words ∧ W'.cell? ⟨wr.heap.size, 0, none⟩ = some (.int .i64 x.owner) ∧ W'.cell? ⟨wr.heap.size, 3, none⟩ = some (.slice xwa 8 xwc) ∧ W'.cell? ⟨nb, 0, none⟩ = some (.slice (some ⟨gb, go, none⟩) 24 gc4) ∧ W'.cell? ⟨gb, go + k * 4, none⟩ = some (.int .i64 x.owner) ∧ W'.cell? ⟨gb, go + k * 4 + 3, none⟩ = some (.slice ywa 8 ywc))
          ⟨HBB.out.trans (Below.mono (below_alloc _ _) HBB.out.size), HP4.out.mono (below_alloc _ _), HQ4.out.mono (below_alloc _ _), by go_simp, by go_simp, cell_new1 n0' _, cell_new1 q0 _, cell_new1 q3 _⟩ ?_
        clear HBB HP4 HQ4 n0' p0 p1 p2 p3 q0 q1 q2 q3
        generalize wr.heap.size = fb'
        clear wr
        rintro W6 ⟨hb, p4, q4, f0, f3, c0, c1, c3⟩
        have HBB := hid hb
        have HP4 := hid p4
        have HQ4 := hid q4
        clear hb p4 q4
        by_cases ho : x.owner = 0
        rotate_left
        · have hob : (x.owner == 0) = false := by rw [beq_eq_false_iff_ne]; exact ho
          clear ho
          go_quiet (fail)
          all_goals
            go_wp2_with fail
            go_roundw
            case rel => first | exact ⟨k + 1, by omega, by go_num, HBB.out⟩ | exact ⟨k + 1, by omega, by go_num, below_drewN HBB.out _⟩
            case measure => simp [intOf]; omega
        have hob : (x.owner == 0) = true := by rw [beq_iff_eq]; exact ho
        have HWE := hid (HE4.out ho)
        clear ho
        go_region_held3 (fun w' => w'.cell? ⟨fb', 0, none⟩ = some (.int .i64 x.owner) ∧ w'.cell? ⟨fb', 3, none⟩ = some (.slice xwa 8 xwc) ∧ w'.cell? ⟨nb, 0, none⟩ = some (.slice (some ⟨gb, go, none⟩) 24 gc4) ∧ w'.cell? ⟨gb, go + k * 4, none⟩ = some (.int .i64 x.owner) ∧ w'.cell? ⟨gb, go + k * 4 + 3, none⟩ = some (.slice ywa 8 ywc))
          (first | go_keep | exact ⟨f0, f3, c0, c1, c3⟩ | exact ⟨d0, d1, d2, d3, d4⟩ | (refine ⟨?_, ?_, ?_, ?_, ?_⟩ <;> (go_simp; done)))
          (first
            | (skip
               go_at_call 12
               refine (equalInts xwa ywa x.words y.words 8 8 xwc ywc _ HX8.out HY8.out (by omega) (by omega) (HP4.out.mono (by go_grown)) (HQ4.out.mono (by go_grown))).mono ?_
               rintro z w7 ⟨rfl, hb7⟩
               rw [show decide (x.words = y.words) = true from decide_eq_true HWE.out.symm]
               have B7 : Below W6.heap.size W6 w7 := Below.trans (by go_grown) (hb7.mono (by go_size))
               have d0 := cell_later B7 f0
               have d1 := cell_later B7 f3
               have d2 := cell_later B7 c0
               have d3 := cell_later B7 c1
               have d4 := cell_later B7 c3))
        all_goals
          have HB7 := hid ((HBB.out.trans (B7.mono HBB.out.size)))
          clear B7 hb7
          go_wp2_with fail
          go_roundw
          case rel => first | exact ⟨k + 1, by omega, by go_num, HB7.out⟩ | exact ⟨k + 1, by omega, by go_num, HB7.out.trans (Below.mono (below_drew _) HB7.out.size)⟩
          case measure => simp [intOf]; omega
    obtain ⟨x, hx⟩ : ∃ x, L2[i]? = some x := ⟨_, List.getElem?_eq_getElem (by rw [HL2.out]; exact hlt)⟩
    have HXK := hid (HAK.out x (List.mem_of_getElem? hx))
    have HSM := hid (acted_same HAL.out x)
    obtain ⟨lb, lo, rfl, l0, l1, l2, l3, l4, l5, l6⟩ := acts_at HST.out.a i x hx
    clear hx
    go_upto_region 16 with fail
    refine act_gen (fun W' => BlSt w mb nb (.slice (some ⟨lb, lo, none⟩) ln oc) L2 M N W' ∧ ABox wr.heap.size x W') ⟨HST.out.later (by go_grown), ⟨by go_simp, by go_simp, by go_simp, by go_simp, by go_simp, by go_simp, by go_simp⟩⟩ ?_
    clear HST l0 l1 l2 l3 l4 l5 l6
    generalize wr.heap.size = ab
    clear wr
    rintro W4 ⟨HST, HAB⟩
    obtain ⟨fa4, fc4, ea4, ec4, qa4, qc4, HM4⟩ := HST.m
    have m0 := HM4.c0
    have m1 := HM4.c1
    have m2 := HM4.c2
    have a0 := HAB.a0
    have a1 := HAB.a1
    have a2 := HAB.a2
    have a3 := HAB.a3
    have a4 := HAB.a4
    have a5 := HAB.a5
    have a6 := HAB.a6
    have HMF := hid HM4.m
    replace HST := hid HST
    replace HAB := hid HAB
    clear HM4
    go_wp2_with fail
    refine (topActed _ M x _ HMF.out HAL.out.gm.fits (HT.out.mono HST.out.below) HXK.out).mono ?_
    rintro e w5 ⟨v5, rfl, hV, hb5⟩
    obtain ⟨xa, xc, xe, xd, xq, xf, rfl⟩ := hV.parts
    have HV := hid hV
    have HS5 := hid (HST.out.later hb5)
    have HA5 := hid (HAB.out.later hb5)
    clear hV hb5 HST HAB HMF m0 m1 m2 a0 a1 a2 a3 a4 a5 a6
    generalize actedD M x = R1 at HV HSM ⊢
    obtain ⟨X1, n1, e1⟩ := R1
    dsimp only at HV HSM ⊢
    go_upto_region 17 with fail
    refine act_gen (fun W' => BlSt w mb nb (.slice (some ⟨lb, lo, none⟩) ln oc) L2 M N W' ∧ ABox ab x W' ∧ MBox w5.heap.size xa xc xe xd xq xf X1 W') ⟨HS5.out.later (by go_grown), HA5.out.later (by go_grown), MBox.new HV.out⟩ ?_
    obtain ⟨g1, g2⟩ := HS5.out.lts
    have x1 : mb ≠ w5.heap.size := by omega
    have x2 : nb ≠ w5.heap.size := by omega
    clear HS5 HA5 HV g1 g2
    generalize w5.heap.size = xb at x1 x2 ⊢
    clear w5 W4
    rintro W4 ⟨HST, HAB, HXB⟩
    obtain ⟨fb4, gc4, eb4, hc4, qb4, rc4, HM4⟩ := HST.n
    have m0 := HM4.c0
    have m1 := HM4.c1
    have m2 := HM4.c2
    have a0 := HAB.a0
    have a1 := HAB.a1
    have a2 := HAB.a2
    have a3 := HAB.a3
    have a4 := HAB.a4
    have a5 := HAB.a5
    have a6 := HAB.a6
    have HMF := hid HM4.m
    replace HST := hid HST
    replace HXB := hid HXB
    clear HM4
    go_wp2_with fail
    refine (topActed _ N x _ HMF.out HAL.out.gn.fits (HT.out.mono HST.out.below) HXK.out).mono ?_
    rintro e w6 ⟨v6, rfl, hV, hb6⟩
    obtain ⟨za, zc, ze, zd, zq, zf, rfl⟩ := hV.parts
    have HV := hid hV
    have HS6 := hid (HST.out.later hb6)
    have HX6 := hid (HXB.out.later hb6)
    clear hV hb6 HST HAB HMF HXB m0 m1 m2 a0 a1 a2 a3 a4 a5 a6
    generalize actedD N x = R2 at HV HSM ⊢
    obtain ⟨Z1, n2, e2⟩ := R2
    dsimp only at HV ⊢
    obtain ⟨hn2, he2, hal⟩ := HSM.out
    dsimp only at hn2 he2 hal
    subst hn2
    subst he2
    have HA1 := hid hal
    clear hal HSM
    go_upto_region 18 with fail
    refine act_gen (fun W' => BlSt w mb nb (.slice (some ⟨lb, lo, none⟩) ln oc) L2 M N W' ∧ MBox xb xa xc xe xd xq xf X1 W' ∧ MBox w6.heap.size za zc ze zd zq zf Z1 W') ⟨HS6.out.later (by go_grown), HX6.out.later (by go_grown), MBox.new HV.out⟩ ?_
    obtain ⟨g1, g2⟩ := HS6.out.lts
    have y1 : mb ≠ w6.heap.size := by omega
    have y2 : nb ≠ w6.heap.size := by omega
    clear HS6 HX6 HV g1 g2
    generalize w6.heap.size = zb at y1 y2 ⊢
    clear w6 W4
    rintro W4 ⟨HST, HXB, HZB⟩
    have hwi : IntKind.i64.wrap ((i : Int) + 1) = (i : Int) + 1 := by rw [IntKind.wrap_i64]; omega
    by_cases h0 : e2 = 0
    rotate_left
    · have h0b : (e2 == 0) = false := by rw [beq_eq_false_iff_ne]; exact h0
      replace HST := hid HST
      clear HXB HZB
      go_wp2_with fail
      go_roundw
      case rel => exact ⟨i + 1, M, N, by omega, by go_num, HAL, HST⟩
      case measure => simp [intOf]; omega
    subst h0
    have HA2 := hid (HA1.out rfl)
    obtain ⟨fa4, fc4, ea4, ec4, qa4, qc4, HM4⟩ := HST.m
    obtain ⟨ga4, gc4, ka4, kc4, ra4, rc4, HN4⟩ := HST.n
    have m0 := HM4.c0
    have m1 := HM4.c1
    have m2 := HM4.c2
    have mz := HM4.cz
    have k0 := HN4.c0
    have k1 := HN4.c1
    have k2 := HN4.c2
    have kz := HN4.cz
    have p0 := HXB.c0
    have p1 := HXB.c1
    have p2 := HXB.c2
    have q0 := HZB.c0
    have q1 := HZB.c1
    have q2 := HZB.c2
    have HXM := hid HXB.m
    have HZM := hid HZB.m
    have hne := HST.ne
    have hne' := hne.symm
    have x1' := x1.symm
    have x2' := x2.symm
    have y1' := y1.symm
    have y2' := y2.symm
    replace HST := hid HST
    clear HM4 HN4 HXB HZB HA1 HAL
    go_upto_region 21 with fail
    go_region
    all_goals
      have HE1 := hid ((HST.out.putMN HXM.out HZM.out).later (below_drew _))
      have HE2 := hid ((HST.out.putNM HXM.out HZM.out).later (below_drew _))
      go_wp2_with fail
      go_roundw
      case rel => first | exact ⟨i + 1, X1, Z1, by omega, by go_num, HA2, HE1⟩ | exact ⟨i + 1, X1, Z1, by omega, by go_num, HA2, HE2⟩
      case measure => simp [intOf]; omega
set_option maxRecDepth 100000 in
theorem topBlind_args {H : Type} {enc : TypeId × Value → H} (W : World) (b0 : Nat) (args : Array Value) (hT : Tab W) (hs : args.size = (Tryz.f3).params.size)
    (ha : ∀ (j : Nat) t v, (Tryz.f3).params[j]? = some t → args[j]? = some v → Value.okWide Tryz.prog W .any b0 t v ∧ Rd enc Tryz.prog W t v.cells.toList) :
    Calls Tryz.prog 3 args W fun e w' => e = .returned (.bool true) ∧ Below W.heap.size W w' := by
  obtain ⟨l⟩ := args
  match l, hs with
  | [v, v1, v2, v3], _ =>
    obtain ⟨h1, h2⟩ := ha 0 _ v rfl rfl
    obtain ⟨a, l, c, e, hl, ra, kl⟩ := rd_raws h2
    obtain rfl : v = .slice a l.length c := by
      have := rd_slice_v Tryz.underlying22 h1
      rw [this] at e
      exact (List.cons.inj e).1
    obtain ⟨r, rfl, hr⟩ := rd_raw (ha 1 _ v1 rfl rfl).1 (ha 1 _ v1 rfl rfl).2
    obtain ⟨h3, h4⟩ := ha 2 _ v2 rfl rfl
    obtain ⟨ba, bl, bc, e2, hbl, rb, kb⟩ := rd_raws h4
    obtain rfl : v2 = .slice ba bl.length bc := by
      have := rd_slice_v Tryz.underlying22 h3
      rw [this] at e2
      exact (List.cons.inj e2).1
    obtain ⟨s, rfl, hs'⟩ := rd_raw (ha 3 _ v3 rfl rfl).1 (ha 3 _ v3 rfl rfl).2
    exact topBlind_calls a l l.length c r ba bl bl.length bc s W rfl hl ra kl hr rfl hbl rb kb hs' hT

set_option maxRecDepth 100000 in
theorem topBlind_lifted (os : Os) (started : os.Started) (H : Type) (enc : TypeId × Value → H) :
    ReturnsInHanded {} Tryz.checked os 3 .any (fun w args => (Rows.topBlindSpec.pre enc Tryz.prog Tryz.f3 [] false w args ∧ laidMetH Tryz.prog Rows.topBlindRow.laid w) ∧ sizedMet enc Tryz.prog Tryz.f3 (OpenSpec.ofChange Rows.topBlindSpec) false w args)
      (Rows.topBlindSpec.post enc Tryz.prog Tryz.f3 false true false false) := by
  refine returnsInHanded_of_change_and (C := Tryz.checked) (X := fun w _ => laidMetH Tryz.prog Rows.topBlindRow.laid w) (fun _ _ _ hh h => h.of_heap hh) own started (by kernel_rfl) Tryz.func3
    (ChangeSpec.witness_shaped (enc := enc) (C := Tryz.checked) (os := os) (X := fun w _ => laidMetH Tryz.prog Rows.topBlindRow.laid w) false (World.doorLaid Tryz.prog doorSteps os) #[.slice none 0 0, .agg #[.int .i64 0, .int .i64 0, .int .i64 0, .int .i64 0], .slice none 0 0, .agg #[.int .i64 0, .int .i64 0, .int .i64 0, .int .i64 0]] 8 rfl (World.shaped_of_RefB (by kernel_rfl) (by kernel_rfl)) (by kernel_rfl) (by kernel_rfl) (by kernel_rfl) (door_met os _)) ?_
  intro W base args ds gs before hval hW _ hsz hL _
  exact law_contract laidOut (by kernel_rfl) rfl Tryz.underlying4 rfl (fun ds h => by
    match ds, h with
    | [_, _, _, _], _ => exact ⟨rfl, rfl, rfl⟩) hval hW hsz fun hs ha => topBlind_args W base args (tab_of_laid hL) hs ha

theorem topBlind_row : Rows.TopBlindSaid :=
  OpenClaim.holds_of_wide 3 Tryz.f3 rfl rfl rfl rfl rfl rfl rfl ⟨rfl, rfl, rfl, rfl, rfl⟩ rfl rfl rfl rfl rfl (by kernel_rfl) Tryz.func3 (by kernel_rfl)
    (of_decide_eq_true (by kernel_rfl)) (by unfold Func.isWrapper; first | (rw [if_pos (by decide +kernel)]; kernel_rfl) | (rw [if_neg (by decide +kernel)]; exact ⟨rfl, rfl⟩))
    (fun os started H enc _ => topBlind_lifted os started H enc)

theorem topBlind_holds : Rows.TopBlindCardSaid :=
  Claim7.holds_tied_plain_at .later [] [.data, .data, .data] true _ false
    topBlind_row (fun _ h => by cases h) (by kernel_rfl) (fun _ h => by cases h) topBlind_row_tie rfl ⟨rfl, rfl⟩ (by kernel_rfl) rfl
    (fun f fn hf hfn => by
      obtain rfl : f = 3 := Option.some.inj ((show Tryz.prog.funcNamed Rows.topBlindRow.func = some 3 by kernel_rfl).symm.trans hf) |>.symm
      obtain rfl : fn = Tryz.f3 := (Option.some.inj (Tryz.func3.symm.trans hfn)).symm
      exact ⟨by kernel_rfl, fun j t ht => by
        have hm : t ∈ (Tryz.f3).params.toList := by simpa using Array.mem_of_getElem? ht
        have hall : ((Tryz.f3).params.toList.all fun u => !Tryz.prog.wantsStandIn u) = true := by kernel_rfl
        exact (show Tryz.prog.wantsStandIn t = false by simpa using List.all_eq_true.1 hall t hm)⟩)
    (by kernel_rfl)


end Go.Proofs.YtbamacddfonloaaGreatDoor
