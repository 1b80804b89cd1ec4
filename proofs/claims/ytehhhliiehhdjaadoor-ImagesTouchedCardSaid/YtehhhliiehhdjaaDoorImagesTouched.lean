/- An image of which a word, a right or a page is another one is measured otherwise, whatever the raw things are: the law returns true, its arguments read as they did; the card is tied. Condition: the library's tables start as the program's text lays them. -/
import Derived.Test.YtehhhliiehhdjaaDoorLiftD
import Derived.Test.YtehhhliiehhdjaaDoorKeepImage
import Derived.Test.YtehhhliiehhdjaaDoorPagesSet
import Derived.Deep.RegionWith
namespace Go.Proofs.YtehhhliiehhdjaaDoor
open Go.ChangeShapes Go.WideShapes Go.ChangeAt Go.RowKit

/-- The image behind the touch. -/
def Touched (base : Nat) (A : List PageD) (w : World) (bv : Value) (W : World) : Prop :=
  ∃ a n c B, bv = .slice a n c ∧ B.length = n ∧ PagesAt W a B ∧ SeqD B ∧ B ≠ A ∧ Below base w W
theorem row_cap {W : World} {base e size g n c : Nat} {xs : List Value} (h : W.ownsRow base e size (.slice (some ⟨g, 0, none⟩) n c) n xs) (h0 : 0 < n) : n ≤ c := by
  obtain ⟨hl, ⟨h1, h2⟩ | ⟨g', cap', cur, h1, hg', hh, hn', hcap', hsz, ht⟩⟩ := h
  · omega
  · cases h1; omega
theorem touched_of {base : Nat} {A : List PageD} {w W : World} {zg q zc i : Nat} {F : List (PageD × Value)} {x' : PageD} {wv : Value} (h : OwnPages base W (.slice (some ⟨zg, 0, none⟩) q zc) (F.set i (x', wv))) (hF : F.map Prod.fst = A) (hq : A.length = q)
    (hs : SeqD (A.set i x')) (hne : A.set i x' ≠ A) (hb : Below base w W) : Touched base A w (.slice (some ⟨zg, 0, none⟩) q zc) W := by
  obtain ⟨a, c, e, hp⟩ := h.pages
  obtain ⟨rfl, -, rfl⟩ := Value.slice.inj e
  have e2 : (F.set i (x', wv)).map (·.1) = A.set i x' := by rw [List.map_set, ← hF]
  rw [e2] at hp
  exact ⟨_, _, _, A.set i x', rfl, by rw [List.length_set, hq], hp, hs, hne, hb⟩
theorem touched_word {base : Nat} {A : List PageD} {w W : World} {zg q zc i wg wc k : Nat} {F : List (PageD × Value)} {x : PageD} {n d : Int} (h : OwnPages base W (.slice (some ⟨zg, 0, none⟩) q zc) F) (hF : F.map Prod.fst = A) (hq : A.length = q) (hs : SeqD A)
    (hx : F[i]? = some (x, .slice (some ⟨wg, 0, none⟩) 8 wc)) (hn : x.words[k]? = some n) (hd : 0 < d ∧ d ≤ 1000) (hb : Below base w W) : Touched base A w (.slice (some ⟨zg, 0, none⟩) q zc) (W.setCell ⟨wg, k, none⟩ (.int .i64 (bits .xor .i64 n d))) := by
  have hxA : A[i]? = some x := by rw [← hF, List.getElem?_map, hx]; rfl
  have hok := (hs i x hxA).2
  obtain ⟨_, _, h3⟩ := pageF_zero hok
  have h8 := wordsB_len h3
  have hnr := wordsB_in h3 n (List.mem_of_getElem? hn)
  obtain ⟨v0, v1, v2⟩ := xor_small 16 (Nat.le_refl _) hnr.1 (show n < 2 ^ 16 by omega) hd.1 (show d < 2 ^ 16 by omega)
  have hwg := ((h.sub i _ hx).1.lt wg rfl).1
  refine touched_of (x' := { x with words := x.words.set k (bits .xor .i64 n d) }) (pages_setW h h8 hx) hF hq (hs.set hxA rfl (page_setW hok k ⟨v0, by omega⟩)) (set_other hxA fun e => ?_) (hb.setCell hwg _)
  have h1 := congrArg (fun y : PageD => y.words[k]?) e
  simp only at h1
  rw [List.getElem?_set_self (List.getElem?_eq_some_iff.1 hn).1, hn] at h1
  exact v2 (Option.some.inj h1)
theorem touched_rights {base : Nat} {A : List PageD} {w W : World} {zg q zc i : Nat} {F : List (PageD × Value)} {x : PageD} {wv : Value} {d : Int} (h : OwnPages base W (.slice (some ⟨zg, 0, none⟩) q zc) F) (hF : F.map Prod.fst = A) (hq : A.length = q) (hs : SeqD A)
    (hx : F[i]? = some (x, wv)) (hd : 0 < d ∧ d ≤ 7) (hb : Below base w W) : Touched base A w (.slice (some ⟨zg, 0, none⟩) q zc) (W.setCell ⟨zg, i * 3 + 1, none⟩ (.int .i64 (bits .xor .i64 x.rights d))) := by
  have hxA : A[i]? = some x := by rw [← hF, List.getElem?_map, hx]; rfl
  have hok := (hs i x hxA).2
  obtain ⟨_, h2, _⟩ := pageF_zero hok
  obtain ⟨v0, v1, v2⟩ := xor_small 3 (by decide) h2.1 (show x.rights < 2 ^ 3 by omega) hd.1 (show d < 2 ^ 3 by omega)
  have hzg := (h.row.lt zg rfl).1
  exact touched_of (x' := { x with rights := bits .xor .i64 x.rights d }) (pages_setR h (by rw [← hq, ← hF, List.length_map]) hx) hF hq (hs.set hxA rfl (page_setR hok ⟨v0, by omega⟩)) (set_other hxA fun e => v2 (congrArg PageD.rights e)) (hb.setCell hzg _)
theorem touched_last {base : Nat} {A : List PageD} {w W : World} {a : Option Addr} {q zc : Nat} (hp : PagesAt W a A) (hq : A.length = q) (h0 : 0 < q) (hs : SeqD A) (hb : Below base w W) : Touched base A w (.slice a (q - 1) zc) W :=
  ⟨_, _, _, A.take (q - 1), rfl, by rw [List.length_take]; omega, pages_take hp _, hs.take _, by rw [← hq]; exact take_other (by omega), hb⟩
set_option linter.unusedSimpArgs false in
set_option maxRecDepth 10000 in
set_option maxHeartbeats 1600000 in
theorem imagesTouched_calls (a : Option Addr) (l : List RawD) (c : Nat) (r : RawD) (which kind : Int) (w : World) (hl : l.length * 32 ≤ 140737488351232) (ha : RawsAt w a l)
    (kl : ∀ x ∈ l, x.Ok) (hr : r.Ok) (hw : Is64 which) (hk : Is64 kind) (hT : Tab w) :
    Calls Tryd.prog 4 #[.slice a l.length c, .agg #[.int .i64 r.kind, .int .i64 r.a, .int .i64 r.b, .int .i64 r.c], .int .i64 which, .int .i64 kind] w fun e w' => e = .returned (.bool true) ∧ Below w.heap.size w w' := by
  have HA := hid ha
  have HB0 : Hid (Below w.heap.size w (w.alloc (.cells #[.int .i64 r.kind, .int .i64 r.a, .int .i64 r.b, .int .i64 r.c] 46))) := below_alloc _ _
  obtain ⟨n, hn⟩ : ∃ n, l.length = n := ⟨_, rfl⟩
  rw [hn] at hl ⊢
  have HN := hid hn
  have HW := hid hw
  have HK := hid hk
  clear hn ha hw hk
  go_enter Tryd.func4, Tryd.ntmps4
  go_wp2_with fail
  refine (keepImage a l n c r _ HN.out hl (HA.out.mono HB0.out) kl hr).mono ?_
  rintro e w1 ⟨xa, xc, rfl, hx, hb1⟩
  have HB1 : Hid (Below w.heap.size w w1) := HB0.out.trans (hb1.mono (by go_size))
  have HX := hid hx
  clear hb1 hx
  have gA := imageD_good l r
  have sA : SeqD (imageD l r) := fun _ _ h => imageD_get h
  have lA := imageD_len l r
  have fA := good_fit gA
  obtain ⟨A, hA⟩ : ∃ A, imageD l r = A := ⟨_, rfl⟩
  rw [hA] at gA fA sA lA HX ⊢
  clear hA kl
  have HXE := hid (expectD_good gA)
  have HFA := hid fA
  have HGA := hid gA
  have HSA := hid sA
  have HLA := hid lA
  have HT := hid hT
  clear fA gA sA lA hT
  obtain ⟨q, hq⟩ : ∃ q, A.length = q := ⟨_, rfl⟩
  rw [hq] at HLA ⊢
  have HLQ := hid hq
  clear hq
  go_wp2_with fail
  refine (imageCopy xa A q xc _ HLQ.out HFA.out HX.out).mono ?_
  rintro e w2 ⟨za, zc, F, rfl, hF, hO, hb2⟩
  rw [HLQ.out] at hO ⊢
  have hql := HLA.out
  have hq0 : (0 : Int) < (q : Int) := by omega
  obtain ⟨i, hi⟩ : ∃ i : Nat, pickD which q = i := ⟨(pickD which q).toNat, by have := pickD_lo which hq0; omega⟩
  have hiq : i < q := by have := pickD_hi which hq0; omega
  have HPI : Hid (∀ W, Calls Tryd.prog 7 #[.int .i64 which, .int .i64 q] W fun x w' => x = .returned (.int .i64 i) ∧ w' = W) := fun W => by
    rw [← hi]
    exact picked_any which q W HW.out hq0
  obtain ⟨t, ht⟩ : ∃ t, pickD kind 3 = t := ⟨_, rfl⟩
  have ht0 := pickD_lo kind (many := 3) (by decide)
  have ht1 := pickD_hi kind (many := 3) (by decide)
  rw [ht] at ht0 ht1
  have HPT : Hid (∀ W, Calls Tryd.prog 7 #[.int .i64 kind, .int .i64 3] W fun x w' => x = .returned (.int .i64 t) ∧ w' = W) := fun W => by
    rw [← ht]
    exact picked_any kind 3 W HK.out (by decide)
  have hi0' : (0 : Int) ≤ (i : Int) := by omega
  have hi1' : (i : Int) < (q : Int) := by omega
  have hFl : F.length = q := by rw [← HLQ.out, ← hF, List.length_map]
  have hO2 := hO.row
  rw [hFl] at hO2
  obtain ⟨zg, zc', ez, hz1, hz2⟩ := own_some hO2 (by omega)
  obtain ⟨rfl, -, rfl⟩ := Value.slice.inj ez
  obtain ⟨⟨x, wv⟩, hxi⟩ : ∃ p, F[i]? = some p := ⟨_, List.getElem?_eq_getElem (by omega)⟩
  have hxA : A[i]? = some x := by rw [← hF, List.getElem?_map, hxi]; rfl
  have hxok := (HSA.out i x hxA).2
  have hw8 := wordsB_len (pageF_zero hxok).2.2
  obtain ⟨hx1, hx2⟩ := hO.sub i _ hxi
  simp only at hx1 hx2
  rw [hw8] at hx1
  obtain ⟨wg, wc, rfl, hw1, hw2⟩ := own_some hx1 (by decide)
  have HO := hid hO
  have HF := hid hF
  have HFL := hid hFl
  have HXI := hid hxi
  have HXA := hid hxA
  have HXO := hid hxok
  have HW8 := hid hw8
  have HB2 := hid hb2
  have hgne : wg ≠ zg := fun e => hx2 wg rfl (by rw [e]; rfl)
  -- the cells of the page
  obtain ⟨pa, pc, ep, hP⟩ := hO.pages
  obtain ⟨rfl, -, rfl⟩ := Value.slice.inj ep
  rw [hF] at hP
  obtain ⟨b, off, va, vc, eb, m0, m1, m2, mI⟩ := hP i x hxA
  obtain ⟨rfl, rfl, _⟩ := Addr.mk.inj (Option.some.inj eb)
  rw [Nat.zero_add] at m0 m1 m2
  have hm2 : w2.cell? ⟨zg, i * 3 + 2, none⟩ = some (.slice (some ⟨wg, 0, none⟩) 8 wc) := by
    have g := flat_get pcs 3 pcs_len F i 2 (by decide)
    rw [hO2.cellAt _ (by omega), g, hxi]
    rfl
  clear m2
  have hzc := row_cap hO2 (by omega)
  have hzr : ∀ o, w2.frozen? ⟨zg, o, none⟩ = false := fun o => hO2.frozenAt o
  have hwr : ∀ o, w2.frozen? ⟨wg, o, none⟩ = false := fun o => hx1.frozenAt o
  have HP := hid hP
  have HX1 := hid hx1
  clear hF hO hFl hO2 hx1 hx2 hxi hxA hxok hw8 hb2 ep eb mI hP ez hi ht
  go_wp2_with fail
  refine (HPI.out _).mono ?_
  rintro e w3 ⟨rfl, rfl⟩
  go_wp2_with fail
  refine (HPT.out _).mono ?_
  rintro e w4 ⟨rfl, rfl⟩
  go_upto_block 0 with fail
  go_cut [10] from 34 to 65 (fun bv W => Hid (Touched w1.heap.size A w1 bv W))
  case first =>
    by_cases h0 : t = 0
    · have h0b : (t == 0) = true := by rw [beq_iff_eq]; exact h0
      obtain ⟨k, hk⟩ : ∃ k : Nat, pickD kind 8 = k := ⟨(pickD kind 8).toNat, by have := pickD_lo kind (many := 8) (by decide); omega⟩
      have hk8 : k < 8 := by have := pickD_hi kind (many := 8) (by decide); omega
      obtain ⟨v, hv, hv0, hv1⟩ := page_word HXO.out hk8
      have hcv : w4.cell? ⟨wg, k, none⟩ = some (.int .i64 v) := (HX1.out.cellAt k (by omega)).trans (by simp [intCells, hv])
      obtain ⟨d, hd⟩ : ∃ d, pickD which 1000 = d := ⟨_, rfl⟩
      have hd0 := pickD_lo which (many := 1000) (by decide)
      have hd1 := pickD_hi which (many := 1000) (by decide)
      rw [hd] at hd0 hd1
      have hwd : IntKind.i64.wrap (1 + d) = 1 + d := by rw [IntKind.wrap_i64]; omega
      have hki0 : (0 : Int) ≤ (k : Int) := by omega
      have hki1 : (k : Int) < 8 := by omega
      have HV := hid hv
      have HH0 := hid h0
      clear h0 hv
      go_wp2_with fail
      go_region_with (go_at_call 7; refine (picked_any _ _ _ ?hp (by decide)).mono ?_; (case hp => first | exact HW.out | exact HK.out); rintro e w5 ⟨rfl, rfl⟩; first | rw [hk] | rw [hd])
      all_goals
        go_wp2_with fail
        go_meet
        exact hid (touched_word (HO.out.below (below_drew _)) HF.out HLQ.out HSA.out HXI.out HV.out ⟨by omega, by omega⟩ (HB2.out.trans ((below_drew _).mono HB2.out.size)))
    have h0b : (t == 0) = false := by rw [beq_eq_false_iff_ne]; exact h0
    by_cases h1 : t = 1
    · have h1b : (t == 1) = true := by rw [beq_iff_eq]; exact h1
      obtain ⟨d, hd⟩ : ∃ d, pickD which 7 = d := ⟨_, rfl⟩
      have hd0 := pickD_lo which (many := 7) (by decide)
      have hd1 := pickD_hi which (many := 7) (by decide)
      rw [hd] at hd0 hd1
      have hwd : IntKind.i64.wrap (1 + d) = 1 + d := by rw [IntKind.wrap_i64]; omega
      have HH0 := hid h0
      have HH1 := hid h1
      clear h0 h1
      go_wp2_with fail
      go_region_with (go_at_call 7; refine (picked_any _ _ _ ?hp (by decide)).mono ?_; (case hp => exact HW.out); rintro e w5 ⟨rfl, rfl⟩; rw [hd])
      all_goals
        go_wp2_with fail
        go_meet
        exact hid (touched_rights (HO.out.below (below_drew _)) HF.out HLQ.out HSA.out HXI.out ⟨by omega, by omega⟩ (HB2.out.trans ((below_drew _).mono HB2.out.size)))
    · have h1b : (t == 1) = false := by rw [beq_eq_false_iff_ne]; exact h1
      have hwq : IntKind.i64.wrap ((q : Int) - 1) = ((q - 1 : Nat) : Int) := by rw [IntKind.wrap_i64]; omega
      have HH0 := hid h0
      have HH1 := hid h1
      clear h0 h1
      go_wp2_with fail
      go_meet
      exact hid (touched_last HP.out HLQ.out (by omega) HSA.out HB2.out)
  case rest =>
  obtain ⟨ba, bn, bc, B, rfl, hBl, hBP, hBS, hBA, hBB⟩ := hcut.out
  have HBl := hid hBl
  have HBP := hid hBP
  have HBA := hid hBA
  have HBB := hid hBB
  have gB := hBS.good
  have HGB := hid gB
  have HFB := hid (good_fit gB)
  have HYE := hid (expectD_good gB)
  clear hcut hBl hBP hBS hBA hBB gB m0 m1 hm2 hzr hwr HP HX1 HO HF HFL HXI HXA HXO HW8 HPI HPT
  go_wp2_with fail
  refine (imageExpect xa A q xc _ HLQ.out HFA.out (HX.out.mono HBB.out) (HT.out.mono (HB1.out.trans (HBB.out.mono HB1.out.size)))).mono ?_
  rintro e w5 ⟨rfl, hb5⟩
  rw [HXE.out]
  dsimp only
  have HB5 : Hid (Below w1.heap.size w1 w5) := HBB.out.trans (hb5.mono HBB.out.size)
  have HY5 : Hid (PagesAt w5 ba B) := HBP.out.mono hb5
  clear hb5
  go_wp2_with fail
  refine (imageExpect ba B bn bc _ HBl.out HFB.out HY5.out (HT.out.mono (HB1.out.trans (HB5.out.mono HB1.out.size)))).mono ?_
  rintro e w6 ⟨rfl, hb6⟩
  rw [HYE.out]
  dsimp only
  have HB6 : Hid (Below w1.heap.size w1 w6) := HB5.out.trans (hb6.mono HB5.out.size)
  clear hb6
  have hne : ((bytesOf (expectL A)).toList == (bytesOf (expectL B)).toList) = false := by
    rw [expect_same HGA.out HGB.out]
    cases h : sameI A B with
    | false => rfl
    | true => exact absurd ((sameI_iff _ _).1 h).symm HBA.out
  have hne2 : ((bytesOf (expectL A)).toList != (bytesOf (expectL B)).toList) = true := by rw [bne, hne]; rfl
  go_wp2_with fail
  go_ret
  exact ⟨rfl, HB1.out.trans (HB6.out.mono HB1.out.size)⟩
set_option maxRecDepth 100000 in
theorem imagesTouched_args {H : Type} {enc : TypeId × Value → H} (W : World) (b0 : Nat) (args : Array Value) (hT : Tab W) (hs : args.size = (Tryd.f4).params.size)
    (ha : ∀ (j : Nat) t v, (Tryd.f4).params[j]? = some t → args[j]? = some v → Value.okWide Tryd.prog W .any b0 t v ∧ Rd enc Tryd.prog W t v.cells.toList) :
    Calls Tryd.prog 4 args W fun e w' => e = .returned (.bool true) ∧ Below W.heap.size W w' := by
  obtain ⟨l⟩ := args
  match l, hs with
  | [v, v1, v2, v3], _ =>
    obtain ⟨h1, h2⟩ := ha 0 _ v rfl rfl
    obtain ⟨a, l, c, e, hl, ra, kl⟩ := rd_raws h2
    obtain rfl : v = .slice a l.length c := by
      have := rd_slice_v Tryd.underlying44 h1
      rw [this] at e
      exact (List.cons.inj e).1
    obtain ⟨r, rfl, hr⟩ := rd_raw (ha 1 _ v1 rfl rfl).1 (ha 1 _ v1 rfl rfl).2
    obtain ⟨n, rfl, hn⟩ := rd_int_v (ha 2 _ v2 rfl rfl).1 (ha 2 _ v2 rfl rfl).2
    obtain ⟨k, rfl, hk⟩ := rd_int_v (ha 3 _ v3 rfl rfl).1 (ha 3 _ v3 rfl rfl).2
    exact imagesTouched_calls a l c r n k W hl ra kl hr hn hk hT

set_option maxRecDepth 100000 in
theorem imagesTouched_lifted (os : Os) (started : os.Started) (H : Type) (enc : TypeId × Value → H) :
    ReturnsInHanded {} Tryd.checked os 4 .any (fun w args => (Rows.imagesTouchedSpec.pre enc Tryd.prog Tryd.f4 [] false w args ∧ laidMetH Tryd.prog Rows.imagesTouchedRow.laid w) ∧ sizedMet enc Tryd.prog Tryd.f4 (OpenSpec.ofChange Rows.imagesTouchedSpec) false w args)
      (Rows.imagesTouchedSpec.post enc Tryd.prog Tryd.f4 false true false false) := by
  refine returnsInHanded_of_change_and (C := Tryd.checked) (X := fun w _ => laidMetH Tryd.prog Rows.imagesTouchedRow.laid w) (fun _ _ _ hh h => h.of_heap hh) own started (by kernel_rfl) Tryd.func4
    (ChangeSpec.witness_shaped (enc := enc) (C := Tryd.checked) (os := os) (X := fun w _ => laidMetH Tryd.prog Rows.imagesTouchedRow.laid w) false (World.doorLaid Tryd.prog doorSteps os) #[.slice none 0 0, .agg #[.int .i64 0, .int .i64 0, .int .i64 0, .int .i64 0], .int .i64 0, .int .i64 0] 8 rfl (World.shaped_of_RefB (by kernel_rfl) (by kernel_rfl)) (by kernel_rfl) (by kernel_rfl) (by kernel_rfl) (door_met os _)) ?_
  intro W base args ds gs before hval hW _ hsz hL _
  exact law_contract laidOut (by kernel_rfl) rfl Tryd.underlying4 rfl (fun ds h => by
    match ds, h with
    | [_, _, _, _], _ => exact ⟨rfl, rfl, rfl⟩) hval hW hsz fun hs ha => imagesTouched_args W base args (tab_of_laid hL) hs ha

theorem imagesTouched_row : Rows.ImagesTouchedSaid :=
  OpenClaim.holds_of_wide 4 Tryd.f4 rfl rfl rfl rfl rfl rfl rfl ⟨rfl, rfl, rfl, rfl, rfl⟩ rfl rfl rfl rfl rfl (by kernel_rfl) Tryd.func4 (by kernel_rfl)
    (of_decide_eq_true (by kernel_rfl)) (by unfold Func.isWrapper; first | (rw [if_pos (by decide +kernel)]; kernel_rfl) | (rw [if_neg (by decide +kernel)]; exact ⟨rfl, rfl⟩))
    (fun os started H enc _ => imagesTouched_lifted os started H enc)

theorem imagesTouched_holds : Rows.ImagesTouchedCardSaid :=
  Claim7.holds_tied_plain_at .later [] [.data, .data, .data] true _ false
    imagesTouched_row (fun _ h => by cases h) (by kernel_rfl) (fun _ h => by cases h) imagesTouched_row_tie rfl ⟨rfl, rfl⟩ (by kernel_rfl) rfl
    (fun f fn hf hfn => by
      obtain rfl : f = 4 := Option.some.inj ((show Tryd.prog.funcNamed Rows.imagesTouchedRow.func = some 4 by kernel_rfl).symm.trans hf) |>.symm
      obtain rfl : fn = Tryd.f4 := (Option.some.inj (Tryd.func4.symm.trans hfn)).symm
      exact ⟨by kernel_rfl, fun j t ht => by
        have hm : t ∈ (Tryd.f4).params.toList := by simpa using Array.mem_of_getElem? ht
        have hall : ((Tryd.f4).params.toList.all fun u => !Tryd.prog.wantsStandIn u) = true := by kernel_rfl
        exact (show Tryd.prog.wantsStandIn t = false by simpa using List.all_eq_true.1 hall t hm)⟩)
    (by kernel_rfl)


end Go.Proofs.YtehhhliiehhdjaaDoor
