/- From without nobody sees, or changes, what is in an enclave; when it is gone nothing of it is left: the law returns true at every three numbers; its arguments read as they did; the card is tied. Condition: the library's tables start as the program's text lays them. -/
import Derived.Test.YtehhhliiehhdjaaDoorLiftD
import Derived.Test.YtehhhliiehhdjaaDoorOpensM
import Derived.Test.YtehhhliiehhdjaaDoorMSt
import Derived.Test.YtehhhliiehhdjaaDoorPutFits
import Derived.Test.YtehhhliiehhdjaaDoorNewPlain
import Derived.Test.YtehhhliiehhdjaaDoorPick
import Derived.Test.YtehhhliiehhdjaaDoorNew
import Derived.Test.YtehhhliiehhdjaaDoorCreate
import Derived.Test.YtehhhliiehhdjaaDoorPoke
import Derived.Test.YtehhhliiehhdjaaDoorPut
import Derived.Test.YtehhhliiehhdjaaDoorRemove
import Derived.Deep.RegionHeld3
namespace Go.Proofs.YtehhhliiehhdjaaDoor
open Go.ChangeShapes Go.WideShapes Go.ChangeAt Go.RowKit

def pgA (k p : Int) : MachD := (pokeD newD k p 7).1
def pgB (k p : Int) : MachD := (createD (pgA k p)).1
def pgC (k p n : Int) : MachD := (putD (pgB k p) 1 k n 1).1
def pgY (k p n : Int) : MachD := (removeD (pgC k p n) 1).1
def pgOk (k p n : Nat) : Bool :=
  (pokeD newD k p 7).2 == 0 && ((createD (pgA k p)).2 == (1, 0) && ((putD (pgB k p) 1 k n 1).2 == 0 && (askF (pgC k p n) 1 1 == 0 && ((frameOf (pgC k p n) k).owner == 1 && (((frameOf (pgC k p n) k).words[p]?).getD 0 == 7 && (placeF (pgC k p n).frames 1 n == k && ((removeD (pgC k p n) 1).2 == 0 && (machF (pgY k p n) == 0 && peekD (pgY k p n) k p == (0, 0)))))))))
def pgAll (k : Nat) : Bool := (List.range 8).all fun p => (List.range 8).all fun n => pgOk k p n
theorem pg_all : ((List.range 24).all pgAll) = true := by kernel_rfl
theorem pg_at {k p n : Nat} (hk : k < 24) (hp : p < 8) (hn : n < 8) : pgOk k p n = true := by
  have h := List.all_eq_true.1 pg_all k (List.mem_range.2 hk)
  have h := List.all_eq_true.1 h p (List.mem_range.2 hp)
  exact List.all_eq_true.1 h n (List.mem_range.2 hn)
structure PgOk (k p n : Nat) : Prop where
  a : (pokeD newD k p 7).2 = 0
  b : (createD (pgA k p)).2 = (1, 0)
  c : (putD (pgB k p) 1 k n 1).2 = 0
  ask : askF (pgC k p n) 1 1 = 0
  own : (frameOf (pgC k p n) k).owner = 1
  word : ((frameOf (pgC k p n) k).words[p]?).getD 0 = 7
  at' : placeF (pgC k p n).frames 1 n = k
  d : (removeD (pgC k p n) 1).2 = 0
  y : machF (pgY k p n) = 0
  left : peekD (pgY k p n) k p = (0, 0)
theorem pg {k p n : Nat} (hk : k < 24) (hp : p < 8) (hn : n < 8) : PgOk k p n := by
  have h := pg_at hk hp hn
  simp only [pgOk, Bool.and_eq_true, beq_iff_eq] at h
  obtain ⟨h1, h2, h3, h4, h5, h6, h7, h8, h9, h10⟩ := h
  exact ⟨h1, h2, h3, h4, h5, by simpa using h6, h7, h8, h9, h10⟩
theorem PgOk.mach {k p n : Nat} (h : PgOk k p n) : machF (pgC k p n) = 0 := (askF_zero h.ask).1
theorem PgOk.wf {k p n : Nat} (h : PgOk k p n) (hk : k < 24) (hp : p < 8) : wordF (pgC k p n) k p = 0 := by
  rw [wordF, if_neg (by simp [h.mach]), if_neg (by omega)]
/-- Poked from without: nothing is done. -/
theorem PgOk.poke {k p n : Nat} (h : PgOk k p n) (hk : k < 24) (hp : p < 8) {v : Int} (h0 : 0 ≤ v) (h1 : v ≤ 65535) : pokeD (pgC k p n) k p v = (pgC k p n, 0) := by
  rw [pokeD, if_neg (by simp [h.wf hk hp]), if_neg (by omega), if_neg (by rw [h.own]; omega)]
theorem PgOk.peek {k p n : Nat} (h : PgOk k p n) (hk : k < 24) (hp : p < 8) : peekD (pgC k p n) k p = (65535, 0) := by
  rw [peekD, if_neg (by simp [h.wf hk hp]), if_pos (by rw [h.own]; omega)]
theorem PgOk.frame {k p n : Nat} (h : PgOk k p n) (hk : k < 24) (hp : p < 8) : ∃ x, (pgC k p n).frames[k]? = some x ∧ x.owner = 1 ∧ x.words.length = 8 ∧ x.words[p]? = some 7 := by
  have hs := machF_sizes h.mach
  obtain ⟨x, hx⟩ : ∃ x, (pgC k p n).frames[k]? = some x := ⟨_, List.getElem?_eq_getElem (by rw [hs.1]; exact hk)⟩
  have e : frameOf (pgC k p n) k = x := by simp [frameOf, hx]
  have ho := h.own
  have hw := h.word
  rw [e] at ho hw
  have h8 := (machF_frame h.mach hx).len
  obtain ⟨y, hy⟩ : ∃ y, x.words[p]? = some y := ⟨_, List.getElem?_eq_getElem (by rw [h8]; exact hp)⟩
  rw [hy] at hw
  exact ⟨x, hx, ho, h8, by rw [hy]; exact congrArg some hw⟩
/-- Put into again: the frame is taken. -/
theorem PgOk.twice {k p n : Nat} (h : PgOk k p n) (hk : k < 24) (hp : p < 8) {r : Int} (h0 : 0 ≤ r) (h1 : r ≤ 7) : putD (pgC k p n) 1 k r 0 = (mach0, 6) := by
  obtain ⟨x, hx, ho, _⟩ := h.frame hk hp
  exact putD_no (putF_4 h.ask (by omega) (by rw [addF, if_pos (by simp [inR]; omega)]) hx (.inl (by omega))) (by decide)theorem newD_size : Sized newD := ⟨by simp [newD], by simp [newD], by simp [newD]⟩
theorem pokeD_quotes {M : MachD} {f q n : Int} (h : (pokeD M f q n).2 = 0) : (pokeD M f q n).1.quotes = M.quotes ∧ (pokeD M f q n).1.frames.length = M.frames.length ∧ (pokeD M f q n).1.encl.length = M.encl.length := by
  unfold pokeD at h ⊢
  split at h
  · rename_i hn; exact absurd h hn
  · rename_i hn
    rw [if_neg hn]
    split at h
    · simp at h
    · rename_i h2
      rw [if_neg h2]
      split
      · exact ⟨rfl, upd_len _ _ _, rfl⟩
      · exact ⟨rfl, rfl, rfl⟩
theorem createD_quotes {M : MachD} (h : (createD M).2.2 = 0) : (createD M).1.quotes = M.quotes ∧ (createD M).1.frames.length = M.frames.length ∧ (createD M).1.encl.length = M.encl.length := by
  unfold createD at h ⊢
  split at h
  · rename_i hn; exact absurd h hn
  · rename_i hn
    rw [if_neg hn]
    split at h
    · simp at h
    · rename_i h2
      rw [if_neg h2]
      exact ⟨rfl, rfl, by simp⟩
theorem putD_quotes {M : MachD} {e f p r : Int} (h : (putD M e f p r).2 = 0) : (putD M e f p r).1.quotes = M.quotes ∧ (putD M e f p r).1.frames.length = M.frames.length ∧ (putD M e f p r).1.encl.length = M.encl.length := by
  unfold putD at h ⊢
  split at h
  · rename_i hn; exact absurd h hn
  · rename_i hn
    rw [if_neg hn]
    exact ⟨rfl, upd_len _ _ _, upd_len _ _ _⟩
theorem removeD_quotes {M : MachD} {e : Int} (h : (removeD M e).2 = 0) : (removeD M e).1.quotes = M.quotes ∧ (removeD M e).1.frames.length = M.frames.length ∧ (removeD M e).1.encl.length = M.encl.length := by
  unfold removeD at h ⊢
  split at h
  · rename_i hn; exact absurd h hn
  · rename_i hn
    rw [if_neg hn]
    exact ⟨rfl, by simp, by simp⟩
theorem pgA_size {k p n : Nat} (h : PgOk k p n) : Sized (pgA k p) := by
  obtain ⟨a, b, c⟩ := pokeD_quotes h.a
  exact ⟨b.trans newD_size.1, c.trans newD_size.2.1, by rw [show (pgA k p).quotes = newD.quotes from a]; rfl⟩
theorem pgB_size {k p n : Nat} (h : PgOk k p n) : Sized (pgB k p) := by
  obtain ⟨a, b, c⟩ := createD_quotes (M := pgA k p) (by rw [h.b])
  have s := pgA_size h
  exact ⟨b.trans s.1, c.trans s.2.1, by rw [show (pgB k p).quotes = (pgA k p).quotes from a]; exact s.2.2⟩
theorem pgC_size {k p n : Nat} (h : PgOk k p n) : Sized (pgC k p n) := by
  obtain ⟨a, b, c⟩ := putD_quotes h.c
  have s := pgB_size h
  exact ⟨b.trans s.1, c.trans s.2.1, by rw [show (pgC k p n).quotes = (pgB k p).quotes from a]; exact s.2.2⟩
theorem pgY_size {k p n : Nat} (h : PgOk k p n) : Sized (pgY k p n) := by
  obtain ⟨a, b, c⟩ := removeD_quotes h.d
  have s := pgC_size h
  exact ⟨b.trans s.1, c.trans s.2.1, by rw [show (pgY k p n).quotes = (pgC k p n).quotes from a]; exact s.2.2⟩
theorem newD_fit : newD.Fits := ⟨by simp [newD], by simp [newD], by simp [newD], fun i x hx => by
  simp only [newD] at hx
  have := List.mem_of_getElem? hx
  rw [List.mem_replicate] at this
  rw [this.2]
  simp [bare]⟩


section
variable {w W : World} {B b : Nat} {M : MachD} {fa ea qa : Option Addr} {fc ec qc : Nat}
/-- Another box stored over. -/
theorem MSt.box (h : MSt w B M fa fc ea ec qa qc W) (hb : w.heap.size ≤ b) (hn : B ≠ b) (s0 : SlAt W b 0) (s1 : SlAt W b 1) (s2 : SlAt W b 2) (x y z : Option Addr) (n m k c d e : Nat) :
    MSt w B M fa fc ea ec qa qc (((W.setCell ⟨b, 0, none⟩ (.slice x n c)).setCell ⟨b, 1, none⟩ (.slice y m d)).setCell ⟨b, 2, none⟩ (.slice z k e)) := by
  have c0 := h.c0
  have c1 := h.c1
  have c2 := h.c2
  have cz := h.cz
  have hi := h.hi
  have bl := h.below
  have lo := h.lo
  have hn2 : b ≠ B := fun e => hn e.symm
  exact ⟨below_low3 bl hb _ _ _, lo, by go_size, by go_simp, by go_simp, by go_simp, fun o => by go_simp, h.at'.box3 s0 s1 s2 _ _ _ _ _ _ _ _ _⟩
/-- A box made ahead of the call. -/
theorem MSt.of2 (h : MachAt W (.agg #[.slice fa 24 fc, .slice ea 4 ec, .slice qa 0 qc]) M) (hB : Below w.heap.size w W) (lo : w.heap.size ≤ b) (hi : b < W.heap.size) (c0 : W.cell? ⟨b, 0, none⟩ = some (.slice none 0 0)) (c1 : W.cell? ⟨b, 1, none⟩ = some (.slice none 0 0)) (c2 : W.cell? ⟨b, 2, none⟩ = some (.slice none 0 0)) (cz : ∀ o, W.frozen? ⟨b, o, none⟩ = false) :
    MSt w b M fa fc ea ec qa qc (((W.setCell ⟨b, 0, none⟩ (.slice fa 24 fc)).setCell ⟨b, 1, none⟩ (.slice ea 4 ec)).setCell ⟨b, 2, none⟩ (.slice qa 0 qc)) :=
  ⟨below_low3 hB lo _ _ _, lo, by go_size, by go_simp, by go_simp, by go_simp, fun o => by go_simp, h.box3 ⟨_, _, _, c0⟩ ⟨_, _, _, c1⟩ ⟨_, _, _, c2⟩ _ _ _ _ _ _ _ _ _⟩
theorem MachAt.fr {n : Nat} {ev qv : Value} (h : MachAt W (.agg #[.slice fa n fc, ev, qv]) M) : FramesAt W fa M.frames := by
  obtain ⟨fa', fc', ea', ec', qa', qc', he, hF, _⟩ := h
  have e : (#[Value.slice fa n fc, ev, qv] : Array Value) = #[.slice fa' M.frames.length fc', .slice ea' M.encl.length ec', .slice qa' M.quotes.length qc'] := Value.agg.inj he
  have e0 := (List.cons.inj (Array.mk.inj e)).1
  obtain ⟨rfl, _, _⟩ := Value.slice.inj e0
  exact hF
end

set_option maxRecDepth 10000 in
set_option maxHeartbeats 3200000 in
theorem pagesApart_calls (f q n : Int) (w : World) (hf : Is64 f) (hq : Is64 q) (hn : Is64 n) (hT : Tab w) : Calls Tryd.prog 3 #[.int .i64 f, .int .i64 q, .int .i64 n] w fun x w' => x = .returned (.bool true) ∧ Below w.heap.size w w' := by
  have HT := hid hT
  have HN := hid hn
  obtain ⟨k, hk⟩ : ∃ k : Nat, pickD f 24 = (k : Int) := ⟨(pickD f 24).toNat, by have := pickD_lo f (many := 24) (by decide); omega⟩
  obtain ⟨p, hp⟩ : ∃ p : Nat, pickD q 8 = (p : Int) := ⟨(pickD q 8).toNat, by have := pickD_lo q (many := 8) (by decide); omega⟩
  obtain ⟨m, hm⟩ : ∃ m : Nat, pickD n 8 = (m : Int) := ⟨(pickD n 8).toNat, by have := pickD_lo n (many := 8) (by decide); omega⟩
  have k24 : k < 24 := by have := pickD_hi f (many := 24) (by decide); omega
  have p8 : p < 8 := by have := pickD_hi q (many := 8) (by decide); omega
  have m8 : m < 8 := by have := pickD_hi n (many := 8) (by decide); omega
  obtain ⟨v, hv⟩ : ∃ v, pickD n 65536 = v := ⟨_, rfl⟩
  have hv0 : 0 ≤ v := by rw [← hv]; exact pickD_lo n (by decide)
  have hv1 : v ≤ 65535 := by have := pickD_hi n (many := 65536) (by decide); omega
  obtain ⟨u, hu⟩ : ∃ u, IntKind.i64.wrap (n + 1) = u := ⟨_, rfl⟩
  have HU : Hid (Is64 u) := by show Is64 u; rw [← hu, IntKind.wrap_i64]; unfold Is64; omega
  obtain ⟨r, hr⟩ : ∃ r, pickD u 8 = r := ⟨_, rfl⟩
  have hr0 : 0 ≤ r := by rw [← hr]; exact pickD_lo u (by decide)
  have hr1 : r ≤ 7 := by have := pickD_hi u (many := 8) (by decide); omega
  have HV := hid hv
  have HR := hid hr
  have HVB := hid (And.intro hv0 hv1)
  have HRB := hid (And.intro hr0 hr1)
  clear hv hr hv0 hv1 hr0 hr1
  have HK := hid hk
  have HP := hid hp
  have HM := hid hm
  have PG := hid (pg k24 p8 m8)
  have fA : (pgA k p).Fits := pokeD_fits newD_fit _ _ _
  have fB : (pgB k p).Fits := createD_fits fA
  have fC : (pgC k p m).Fits := putD_fits fB _ _ _ _
  have fY : (pgY k p m).Fits := removeD_fits fC _
  have zC : Sized (pgC k p m) := pgC_size PG.out
  have zA : Sized (pgA k p) := pgA_size PG.out
  have zB : Sized (pgB k p) := pgB_size PG.out
  have zY : Sized (pgY k p m) := pgY_size PG.out
  have HZ := hid (And.intro zA (And.intro zB (And.intro zC zY)))
  have HF := hid (And.intro fA (And.intro fB (And.intro fC fY)))
  clear fA fB fC fY zA zB zC zY hT hk hp hm hn
  go_enter Tryd.func3, Tryd.ntmps3
  go_wp2_with fail
  refine (epcNew _).mono ?_
  rintro x w1 ⟨fv1, ev1, qv1, F1, rfl, hF1, hO1, hb1⟩
  have hA1 := OwnMach.at (M := newD) hO1 hF1
  obtain ⟨fa, fc, ea, ec, qa, qc, he, hA3⟩ := MachAt.sized hA1 newD_size
  obtain ⟨rfl, rfl, rfl⟩ : fv1 = .slice fa 24 fc ∧ ev1 = .slice ea 4 ec ∧ qv1 = .slice qa 0 qc := by simpa using he
  have K := MSt.of (t := 26) hA3 hb1
  go_upto_region 2 with fail
  refine wp_gen (MSt w w1.heap.size newD fa fc ea ec qa qc) K ?_
  clear K hA1 hA3 hF1 hO1 hb1
  generalize w1.heap.size = B
  intro W2 H
  have H := hid H
  clear w1
  have k0 := H.out.c0
  have k1 := H.out.c1
  have k2 := H.out.c2
  have kz := H.out.cz
  have hi := H.out.hi
  go_wp2_with fail
  refine (picked_any f 24 _ hf (by decide)).mono ?_
  rintro y w2 ⟨rfl, rfl⟩
  rw [HK.out]
  go_wp2_with fail
  refine (picked_any q 8 _ hq (by decide)).mono ?_
  rintro y w2 ⟨rfl, rfl⟩
  rw [HP.out]
  clear HK HP hf hq
  go_wp2_with fail
  refine (epcPoke _ newD k p 7 _ H.out.at' newD_fit).mono ?_
  rintro y w2 ⟨v2, rfl, hA2, hb2⟩
  rw [PG.out.a]
  obtain ⟨fa', fc', ea', ec', qa', qc', rfl, hA3⟩ := MachAt.sized (M := pgA k p) hA2 HZ.out.1
  have K := (H.out.later hb2).put hA3
  clear k0 k1 k2 kz hi
  replace H := hid (H.out.later hb2)
  have k0 := H.out.c0
  have k1 := H.out.c1
  have k2 := H.out.c2
  have kz := H.out.cz
  have hi := H.out.hi
  go_upto_region 5 with fail
  refine wp_gen (MSt w B (pgA k p) fa' fc' ea' ec' qa' qc') K ?_
  clear K H hA2 hA3 hb2
  clear k0 k1 k2 kz hi
  intro W2 H
  have H := hid H
  clear w2
  have k0 := H.out.c0
  have k1 := H.out.c1
  have k2 := H.out.c2
  have kz := H.out.cz
  have hi := H.out.hi
  go_wp2_with fail
  refine (epcCreate _ (pgA k p) _ H.out.at' HF.out.1).mono ?_
  rintro y w2 ⟨v2, rfl, hA2, hb2⟩
  rw [show (createD (pgA k p)).2.1 = 1 by rw [PG.out.b], show (createD (pgA k p)).2.2 = 0 by rw [PG.out.b]]
  obtain ⟨fa', fc', ea', ec', qa', qc', rfl, hA3⟩ := MachAt.sized (M := pgB k p) hA2 HZ.out.2.1
  have K := (H.out.later hb2).put hA3
  clear k0 k1 k2 kz hi
  replace H := hid (H.out.later hb2)
  have k0 := H.out.c0
  have k1 := H.out.c1
  have k2 := H.out.c2
  have kz := H.out.cz
  have hi := H.out.hi
  go_upto_region 6 with fail
  refine wp_gen (MSt w B (pgB k p) fa' fc' ea' ec' qa' qc') K ?_
  clear K H hA2 hA3 hb2
  clear k0 k1 k2 kz hi
  intro W2 H
  have H := hid H
  clear w2
  have k0 := H.out.c0
  have k1 := H.out.c1
  have k2 := H.out.c2
  have kz := H.out.cz
  have hi := H.out.hi
  have HN2 := HN
  go_cut [13] from 43 to 50 (fun e W => ∃ (fa2 : Option Addr) (fc2 : Nat) (ea2 : Option Addr) (ec2 : Nat) (qa2 : Option Addr) (qc2 : Nat), e = .int .i64 0 ∧ MSt w B (pgC k p m) fa2 fc2 ea2 ec2 qa2 qc2 W)
  case first =>
    go_region_with
      (first
        | (skip
           go_at_call 7
           refine (picked_any n 8 _ HN2.out (by decide)).mono ?_
           rintro y w' ⟨rfl, rfl⟩
           rw [HM.out]
           skip)
        | (go_at_call 10
           refine (epcPut _ (pgB k p) 1 k m 1 _ (H.out.at'.mono (by go_grown)) HF.out.2.1 (HT.out.mono (H.out.below.trans (Below.mono (by go_grown) H.out.below.size)))).mono ?_
           rintro y w2 ⟨v2, rfl, hA2, hb2⟩
           have B2 : Below W2.heap.size W2 w2 := Below.trans (by go_grown) (hb2.mono (by go_size))
           have e0 := cell_later B2 k0
           have e1 := cell_later B2 k1
           have e2 := cell_later B2 k2
           have hi2 : B < w2.heap.size := by have := B2.size; omega
           have ez : ∀ o, w2.frozen? ⟨B, o, none⟩ = false := fun o => by rw [(bcell B2).2 _ _ hi]; exact kz o
           rw [PG.out.c]
           obtain ⟨fa2, fc2, ea2, ec2, qa2, qc2, rfl, hA3⟩ := MachAt.sized (M := pgC k p m) hA2 HZ.out.2.2.1))
    all_goals
      go_wp2_with fail
      go_meet
      have K := (H.out.later B2).put hA3
      exact ⟨_, _, _, _, _, _, rfl, K⟩
  case rest =>
  obtain ⟨fa2, fc2, ea2, ec2, qa2, qc2, rfl, K⟩ := hcut
  clear H
  clear k0 k1 k2 kz hi
  have H := hid K
  have k0 := H.out.c0
  have k1 := H.out.c1
  have k2 := H.out.c2
  have kz := H.out.cz
  have hi := H.out.hi
  clear K
  go_upto_region 9 with fail
  with_reducible refine act_gen (MSt w B (pgC k p m) fa2 fc2 ea2 ec2 qa2 qc2) ?_ ?_
  · exact H.out
  clear H
  clear k0 k1 k2 kz hi
  intro W2 H
  have H := hid H
  have k0 := H.out.c0
  have k1 := H.out.c1
  have k2 := H.out.c2
  have kz := H.out.cz
  have hi := H.out.hi
  go_wp2_with fail
  refine (epcPeek _ (pgC k p m) k p _ H.out.at' HF.out.2.2.1).mono ?_
  rintro y w2 ⟨rfl, hb2⟩
  rw [PG.out.peek k24 p8]
  dsimp only
  have K := H.out.later hb2
  clear H hb2
  clear k0 k1 k2 kz hi
  go_upto_region 10 with fail
  with_reducible refine act_gen (MSt w B (pgC k p m) fa2 fc2 ea2 ec2 qa2 qc2) ?_ ?_
  · exact K
  clear K
  intro W2 H
  have hlo := H.below.size
  have H := hid H
  have k0 := H.out.c0
  have k1 := H.out.c1
  have k2 := H.out.c2
  have kz := H.out.cz
  have hi := H.out.hi
  go_cut [16, 17] from 69 to 76 (fun x e W => ∃ (b : Nat) (fa3 : Option Addr) (fc3 : Nat) (ea3 : Option Addr) (ec3 : Nat) (qa3 : Option Addr) (qc3 : Nat), x = .pointer (some ⟨b, 0, none⟩) ∧ e = .int .i64 0 ∧ MSt w B (pgC k p m) fa2 fc2 ea2 ec2 qa2 qc2 W ∧ MSt w b (pgC k p m) fa3 fc3 ea3 ec3 qa3 qc3 W ∧ B ≠ b)
  case first =>
    go_region_with
      (first
        | (skip
           go_at_call 7
           refine (picked_any n 65536 _ HN2.out (by decide)).mono ?_
           rintro y w' ⟨rfl, rfl⟩
           rw [HV.out]
           skip)
        | (go_at_call 8
           refine (epcPoke _ (pgC k p m) k p v _ (H.out.at'.mono (by go_grown)) HF.out.2.2.1).mono ?_
           rintro y w2 ⟨v2, rfl, hA2, hb2⟩
           have B2 : Below W2.heap.size W2 w2 := Below.trans (by go_grown) (hb2.mono (by go_size))
           have hi2 : B < w2.heap.size := by have := B2.size; omega
           have lo2 : w.heap.size ≤ w2.heap.size := by have := B2.size; omega
           try have zA : W2.heap.size < w2.heap.size := by have := hb2.size; simp at this; omega
           try have f0 : w2.cell? ⟨W2.heap.size, 0, none⟩ = some (.slice none 0 0) := by rw [(bcell hb2).1 _ _ (by go_size)]; simp [go_sem]
           try have f1 : w2.cell? ⟨W2.heap.size, 1, none⟩ = some (.slice none 0 0) := by rw [(bcell hb2).1 _ _ (by go_size)]; simp [go_sem]
           try have f2 : w2.cell? ⟨W2.heap.size, 2, none⟩ = some (.slice none 0 0) := by rw [(bcell hb2).1 _ _ (by go_size)]; simp [go_sem]
           try have f3 : ∀ o, w2.frozen? ⟨W2.heap.size, o, none⟩ = false := by (intro o; rw [(bcell hb2).2 _ _ (by go_size)]; simp [go_sem])
           rw [PG.out.poke k24 p8 HVB.out.1 HVB.out.2] at hA2 ⊢
           obtain ⟨fa3, fc3, ea3, ec3, qa3, qc3, rfl, hA3⟩ := MachAt.sized (M := pgC k p m) hA2 HZ.out.2.2.1
           dsimp only))
    all_goals
      go_wp2_with fail
      go_meet
    all_goals
      have L2 := H.out.later B2
      first
      | exact ⟨w2.heap.size, _, _, _, _, _, _, rfl, rfl, L2.later (below_alloc _ _), MSt.of hA3 L2.below, by omega⟩
      | exact ⟨W2.heap.size, _, _, _, _, _, _, rfl, rfl, L2.box (by omega) (by omega) ⟨_, _, _, f0⟩ ⟨_, _, _, f1⟩ ⟨_, _, _, f2⟩ _ _ _ _ _ _ _ _ _, MSt.of2 hA3 L2.below (by omega) (by omega) f0 f1 f2 f3, by omega⟩
  case rest =>
  obtain ⟨b, fa3, fc3, ea3, ec3, qa3, qc3, rfl, rfl, K, KX, hBb⟩ := hcut
  clear H hlo
  clear k0 k1 k2 kz hi
  go_upto_region 11 with fail
  with_reducible refine act_gen (fun W => MSt w B (pgC k p m) fa2 fc2 ea2 ec2 qa2 qc2 W ∧ MSt w b (pgC k p m) fa3 fc3 ea3 ec3 qa3 qc3 W) ?_ ?_
  · exact ⟨K, KX⟩
  clear K KX
  rintro W2 ⟨H, HX⟩
  have hlo := H.below.size
  have hxi := HX.hi
  have H := hid H
  have HX := hid HX
  have k0 := H.out.c0
  have k1 := H.out.c1
  have k2 := H.out.c2
  have kz := H.out.cz
  have hi := H.out.hi
  go_cut [18, 19] from 78 to 86 (fun _ e W => e = .int .i64 6 ∧ MSt w B (pgC k p m) fa2 fc2 ea2 ec2 qa2 qc2 W ∧ MSt w b (pgC k p m) fa3 fc3 ea3 ec3 qa3 qc3 W)
  case first =>
    go_region_with
      (first
        | (go_at_call 7
           refine (picked_any u 8 _ HU.out (by decide)).mono ?_
           rintro y w' ⟨rfl, rfl⟩
           rw [HR.out])
        | (go_at_call 10
           refine (epcPut _ (pgC k p m) 1 k r 0 _ (H.out.at'.mono (by go_grown)) HF.out.2.2.1 (HT.out.mono (H.out.below.trans (Below.mono (by go_grown) H.out.below.size)))).mono ?_
           rintro y w2 ⟨v2, rfl, hA2, hb2⟩
           have B2 : Below W2.heap.size W2 w2 := Below.trans (by go_grown) (hb2.mono (by go_size))
           have hi2 : B < w2.heap.size := by have := B2.size; omega
           have lo2 : w.heap.size ≤ w2.heap.size := by have := B2.size; omega
           try have zA : W2.heap.size < w2.heap.size := by have := hb2.size; simp at this; omega
           try have f0 : w2.cell? ⟨W2.heap.size, 0, none⟩ = some (.slice none 0 0) := by rw [(bcell hb2).1 _ _ (by go_size)]; simp [go_sem]
           try have f1 : w2.cell? ⟨W2.heap.size, 1, none⟩ = some (.slice none 0 0) := by rw [(bcell hb2).1 _ _ (by go_size)]; simp [go_sem]
           try have f2 : w2.cell? ⟨W2.heap.size, 2, none⟩ = some (.slice none 0 0) := by rw [(bcell hb2).1 _ _ (by go_size)]; simp [go_sem]
           try have f3 : ∀ o, w2.frozen? ⟨W2.heap.size, o, none⟩ = false := by (intro o; rw [(bcell hb2).2 _ _ (by go_size)]; simp [go_sem])
           rw [PG.out.twice k24 p8 HRB.out.1 HRB.out.2] at hA2 ⊢
           obtain ⟨fa9, fc9, ea9, ec9, qa9, qc9, rfl, _⟩ := hA2
           dsimp only))
    all_goals
      go_wp2_with fail
      go_meet
    all_goals
      have L2 := H.out.later B2
      have X2 := HX.out.later B2
      first
      | exact ⟨rfl, L2.later (below_alloc _ _), X2.later (below_alloc _ _)⟩
      | exact ⟨rfl, L2.box (by omega) (by omega) ⟨_, _, _, f0⟩ ⟨_, _, _, f1⟩ ⟨_, _, _, f2⟩ _ _ _ _ _ _ _ _ _, X2.box (by omega) (by omega) ⟨_, _, _, f0⟩ ⟨_, _, _, f1⟩ ⟨_, _, _, f2⟩ _ _ _ _ _ _ _ _ _⟩
  case rest =>
  obtain ⟨rfl, K, KX⟩ := hcut
  clear H HX hlo hxi
  clear k0 k1 k2 kz hi
  go_upto_region 12 with fail
  with_reducible refine act_gen (fun W => MSt w B (pgC k p m) fa2 fc2 ea2 ec2 qa2 qc2 W ∧ MSt w b (pgC k p m) fa3 fc3 ea3 ec3 qa3 qc3 W) ?_ ?_
  · exact ⟨K, KX⟩
  clear K KX
  rintro W2 ⟨H, HX⟩
  have x0 := HX.c0
  have x1 := HX.c1
  have x2 := HX.c2
  have H := hid H
  have HX := hid HX
  go_wp2_with fail
  refine (epcRemove _ (pgC k p m) 1 _ HX.out.at' HF.out.2.2.1).mono ?_
  rintro y w2 ⟨v2, rfl, hA2, hb2⟩
  rw [PG.out.d]
  obtain ⟨fa4, fc4, ea4, ec4, qa4, qc4, rfl, hA3⟩ := MachAt.sized (M := pgY k p m) hA2 HZ.out.2.2.2
  have K := (H.out.later hb2).later (below_alloc _ (.cells #[.slice fa4 24 fc4, .slice ea4 4 ec4, .slice qa4 0 qc4] 26))
  have KX := (HX.out.later hb2).later (below_alloc _ (.cells #[.slice fa4 24 fc4, .slice ea4 4 ec4, .slice qa4 0 qc4] 26))
  have KY := MSt.of (t := 26) hA3 (H.out.later hb2).below
  obtain ⟨B4, hB4⟩ : ∃ B4, w2.heap.size = B4 := ⟨_, rfl⟩
  rw [hB4] at KY
  clear x0 x1 x2 hb2 hA2 hA3 H HX
  go_upto_region 13 with fail
  with_reducible refine act_gen (fun W => MSt w B (pgC k p m) fa2 fc2 ea2 ec2 qa2 qc2 W ∧ MSt w b (pgC k p m) fa3 fc3 ea3 ec3 qa3 qc3 W ∧ MSt w B4 (pgY k p m) fa4 fc4 ea4 ec4 qa4 qc4 W) ?_ ?_
  · exact ⟨K, KX, KY⟩
  clear K KX KY
  rintro W2 ⟨H, HX, HY⟩
  have y0 := HY.c0
  have y1 := HY.c1
  have y2 := HY.c2
  have H := hid H
  have HX := hid HX
  have HY := hid HY
  go_wp2_with fail
  refine (epcPeek _ (pgY k p m) k p _ HY.out.at' HF.out.2.2.2).mono ?_
  rintro y w3 ⟨rfl, hb3⟩
  rw [PG.out.left]
  dsimp only
  have K := H.out.later hb3
  have KX := HX.out.later hb3
  have KY := HY.out.later hb3
  clear H HX HY y0 y1 y2 hb3
  go_upto_region 14 with fail
  with_reducible refine act_gen (fun W => MSt w B (pgC k p m) fa2 fc2 ea2 ec2 qa2 qc2 W ∧ MSt w b (pgC k p m) fa3 fc3 ea3 ec3 qa3 qc3 W ∧ MSt w B4 (pgY k p m) fa4 fc4 ea4 ec4 qa4 qc4 W) ?_ ?_
  · exact ⟨K, KX, KY⟩
  clear K KX KY
  rintro W2 ⟨H, HX, HY⟩
  obtain ⟨x, hx, ho, h8, h7⟩ := PG.out.frame k24 p8
  obtain ⟨fb, fo, wa, wc, hfb, _, _, _, a3, hI⟩ := HX.at'.fr k x hx
  obtain ⟨wb, wo, hwb, a4⟩ := hI p 7 h7
  subst hfb hwb
  rw [h8] at a3
  have HFr := hid H.at'.fr
  have q0 := H.c0
  have q1 := H.c1
  have q2 := H.c2
  have x0 := HX.c0
  have y0 := HY.c0
  have y1 := HY.c1
  have y2 := HY.c2
  have HB := hid H.below
  have H := hid H
  have HY := hid HY
  clear hI hx h7 h8 ho HX
  have k1' : (k : Int) < 24 := by omega
  have p1' : (p : Int) < 8 := by omega
  have k0' : (0 : Int) ≤ (k : Int) := by omega
  have p0' : (0 : Int) ≤ (p : Int) := by omega
  go_wp2_with fail
  go_region_held3 (fun w' => w'.cell? ⟨B, 0, none⟩ = some (.slice fa2 24 fc2) ∧ w'.cell? ⟨B, 1, none⟩ = some (.slice ea2 4 ec2) ∧ w'.cell? ⟨B, 2, none⟩ = some (.slice qa2 0 qc2) ∧ w'.cell? ⟨b, 0, none⟩ = some (.slice (some ⟨fb, fo, none⟩) 24 fc3) ∧ w'.cell? ⟨fb, fo + k * 4 + 3, none⟩ = some (.slice (some ⟨wb, wo, none⟩) 8 wc) ∧ w'.cell? ⟨wb, wo + p, none⟩ = some (.int .i64 7) ∧ w'.cell? ⟨B4, 0, none⟩ = some (.slice fa4 24 fc4) ∧ w'.cell? ⟨B4, 1, none⟩ = some (.slice ea4 4 ec4) ∧ w'.cell? ⟨B4, 2, none⟩ = some (.slice qa4 0 qc4))
    (first | go_keep | exact ⟨r0, r1, r2, r3, r4, r5, r6, r7, r8⟩ | exact ⟨t0, t1, t2, t3, t4, t5, t6, t7, t8⟩)
    (first
      | (skip
         go_at_call 7
         refine (picked_any n 8 _ HN2.out (by decide)).mono ?_
         rintro y w' ⟨rfl, rfl⟩
         rw [HM.out]
         skip)
      | (go_at_call 13
         refine (epcPlace fa2 (pgC k p m).frames 24 fc2 _ _ 1 m _ HZ.out.2.2.1.1 (by omega) (HFr.out.mono (by go_grown))).mono ?_
         rintro y w5 ⟨rfl, hb5⟩
         have B5 : Below W2.heap.size W2 w5 := Below.trans (by go_grown) (hb5.mono (by go_size))
         have r0 := cell_later B5 q0
         have r1 := cell_later B5 q1
         have r2 := cell_later B5 q2
         have r3 := cell_later B5 x0
         have r4 := cell_later B5 a3
         have r5 := cell_later B5 a4
         have r6 := cell_later B5 y0
         have r7 := cell_later B5 y1
         have r8 := cell_later B5 y2
         rw [PG.out.at'])
      | (go_at_call 14
         refine (epcCheck _ (pgY k p m) _ (HY.out.at'.mono (B5.trans (Below.mono (by go_grown) B5.size))) HF.out.2.2.2).mono ?_
         rintro y w6 ⟨rfl, hb6⟩
         have B6 : Below W2.heap.size W2 w6 := B5.trans (Below.trans (by go_grown) (hb6.mono (by go_size)) |>.mono B5.size)
         have t0 := cell_later B6 q0
         have t1 := cell_later B6 q1
         have t2 := cell_later B6 q2
         have t3 := cell_later B6 x0
         have t4 := cell_later B6 a3
         have t5 := cell_later B6 a4
         have t6 := cell_later B6 y0
         have t7 := cell_later B6 y1
         have t8 := cell_later B6 y2
         rw [PG.out.y]))
  go_wp2_with fail
  go_ret
  exact ⟨rfl, HB.out.trans (B6.mono HB.out.size)⟩
set_option maxRecDepth 100000 in
theorem pagesApart_args {H : Type} {enc : TypeId × Value → H} (W : World) (b0 : Nat) (args : Array Value) (hT : Tab W) (hs : args.size = (Tryd.f3).params.size)
    (ha : ∀ (j : Nat) t v, (Tryd.f3).params[j]? = some t → args[j]? = some v → Value.okWide Tryd.prog W .any b0 t v ∧ Rd enc Tryd.prog W t v.cells.toList) :
    Calls Tryd.prog 3 args W fun e w' => e = .returned (.bool true) ∧ Below W.heap.size W w' := by
  obtain ⟨l⟩ := args
  match l, hs with
  | [v, v1, v2], _ =>
    obtain ⟨f, rfl, hf⟩ := rd_int_v (ha 0 _ v rfl rfl).1 (ha 0 _ v rfl rfl).2
    obtain ⟨q, rfl, hq⟩ := rd_int_v (ha 1 _ v1 rfl rfl).1 (ha 1 _ v1 rfl rfl).2
    obtain ⟨n, rfl, hn⟩ := rd_int_v (ha 2 _ v2 rfl rfl).1 (ha 2 _ v2 rfl rfl).2
    exact pagesApart_calls f q n W hf hq hn hT

set_option maxRecDepth 100000 in
theorem pagesApart_lifted (os : Os) (started : os.Started) (H : Type) (enc : TypeId × Value → H) :
    ReturnsInHanded {} Tryd.checked os 3 .any (fun w args => (Rows.pagesApartSpec.pre enc Tryd.prog Tryd.f3 [] false w args ∧ laidMetH Tryd.prog Rows.pagesApartRow.laid w) ∧ sizedMet enc Tryd.prog Tryd.f3 (OpenSpec.ofChange Rows.pagesApartSpec) false w args)
      (Rows.pagesApartSpec.post enc Tryd.prog Tryd.f3 false true false false) := by
  refine returnsInHanded_of_change_and (C := Tryd.checked) (X := fun w _ => laidMetH Tryd.prog Rows.pagesApartRow.laid w) (fun _ _ _ hh h => h.of_heap hh) own started (by kernel_rfl) Tryd.func3
    (ChangeSpec.witness_shaped (enc := enc) (C := Tryd.checked) (os := os) (X := fun w _ => laidMetH Tryd.prog Rows.pagesApartRow.laid w) false (World.doorLaid Tryd.prog doorSteps os) #[.int .i64 0, .int .i64 0, .int .i64 0] 8 rfl (World.shaped_of_RefB (by kernel_rfl) (by kernel_rfl)) (by kernel_rfl) (by kernel_rfl) (by kernel_rfl) (door_met os _)) ?_
  intro W base args ds gs before hval hW _ hsz hL _
  exact law_contract laidOut (by kernel_rfl) rfl Tryd.underlying4 rfl (fun ds h => by
    match ds, h with
    | [_, _, _], _ => exact ⟨rfl, rfl, rfl⟩) hval hW hsz fun hs ha => pagesApart_args W base args (tab_of_laid hL) hs ha

theorem pagesApart_row : Rows.PagesApartSaid :=
  OpenClaim.holds_of_wide 3 Tryd.f3 rfl rfl rfl rfl rfl rfl rfl ⟨rfl, rfl, rfl, rfl, rfl⟩ rfl rfl rfl rfl rfl (by kernel_rfl) Tryd.func3 (by kernel_rfl)
    (of_decide_eq_true (by kernel_rfl)) (by unfold Func.isWrapper; first | (rw [if_pos (by decide +kernel)]; kernel_rfl) | (rw [if_neg (by decide +kernel)]; exact ⟨rfl, rfl⟩))
    (fun os started H enc _ => pagesApart_lifted os started H enc)

theorem pagesApart_holds : Rows.PagesApartCardSaid :=
  Claim7.holds_tied_plain_at .later [] [.data, .data, .data] true _ false
    pagesApart_row (fun _ h => by cases h) (by kernel_rfl) (fun _ h => by cases h) pagesApart_row_tie rfl ⟨rfl, rfl⟩ (by kernel_rfl) rfl
    (fun f fn hf hfn => by
      obtain rfl : f = 3 := Option.some.inj ((show Tryd.prog.funcNamed Rows.pagesApartRow.func = some 3 by kernel_rfl).symm.trans hf) |>.symm
      obtain rfl : fn = Tryd.f3 := (Option.some.inj (Tryd.func3.symm.trans hfn)).symm
      exact ⟨by kernel_rfl, fun j t ht => by
        have hm : t ∈ (Tryd.f3).params.toList := by simpa using Array.mem_of_getElem? ht
        have hall : ((Tryd.f3).params.toList.all fun u => !Tryd.prog.wantsStandIn u) = true := by kernel_rfl
        exact (show Tryd.prog.wantsStandIn t = false by simpa using List.all_eq_true.1 hall t hm)⟩)
    (by kernel_rfl)


end Go.Proofs.YtehhhliiehhdjaaDoor
