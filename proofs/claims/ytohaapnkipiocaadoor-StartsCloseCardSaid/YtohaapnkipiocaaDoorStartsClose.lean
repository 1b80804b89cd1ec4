/- Who is started has its pages, and what was measured, no more: the law returns true at every number; its argument reads as it did; the card is tied. Condition: the library's tables start as the program's text lays them. -/
import Derived.Test.YtohaapnkipiocaaDoorLiftD
import Derived.Test.YtohaapnkipiocaaDoorOpensM
import Derived.Test.YtohaapnkipiocaaDoorMSt
import Derived.Test.YtohaapnkipiocaaDoorPutFits
import Derived.Test.YtohaapnkipiocaaDoorNewPlain
import Derived.Test.YtohaapnkipiocaaDoorPick
import Derived.Test.YtohaapnkipiocaaDoorNew
import Derived.Test.YtohaapnkipiocaaDoorCreate
import Derived.Test.YtohaapnkipiocaaDoorStart
import Derived.Test.YtohaapnkipiocaaDoorPut
import Derived.Test.YtohaapnkipiocaaDoorMeasure
namespace Go.Proofs.YtohaapnkipiocaaDoor
open Go.ChangeShapes Go.WideShapes Go.ChangeAt Go.RowKit

def scA : MachD := (createD newD).1
def scB (p : Int) : MachD := (putD scA 1 3 p 1).1
def scC (p : Int) : MachD := (measD (scB p) 1 p).1
def scD (p : Int) : MachD := (startD (scC p) 1).1
def nextP (p : Int) : Int := (p + 1) % 8
theorem pair_of {α : Type} {r : α × Int} {n : Int} (h : r.2 = n) : r = (r.1, n) := by subst h; rfl
theorem tri_of {α : Type} {r : α × Int × Int} {n m : Int} (h : r.2 = (n, m)) : r = (r.1, n, m) := by rw [← h]
theorem sc1 : (createD newD).2 = (1, 0) := by kernel_rfl
theorem eight {P : Int → Prop} (h0 : P 0) (h1 : P 1) (h2 : P 2) (h3 : P 3) (h4 : P 4) (h5 : P 5) (h6 : P 6) (h7 : P 7) (p : Int) (hl : 0 ≤ p) (hh : p ≤ 7) : P p := by
  obtain rfl | rfl | rfl | rfl | rfl | rfl | rfl | rfl : p = 0 ∨ p = 1 ∨ p = 2 ∨ p = 3 ∨ p = 4 ∨ p = 5 ∨ p = 6 ∨ p = 7 := by omega
  all_goals assumption
theorem sc2 : ∀ p : Int, 0 ≤ p → p ≤ 7 → (putD scA 1 3 p 1).2 = 0 := eight (by kernel_rfl) (by kernel_rfl) (by kernel_rfl) (by kernel_rfl) (by kernel_rfl) (by kernel_rfl) (by kernel_rfl) (by kernel_rfl)
theorem sc3 : ∀ p : Int, 0 ≤ p → p ≤ 7 → (measD (scB p) 1 p).2 = 0 := eight (by kernel_rfl) (by kernel_rfl) (by kernel_rfl) (by kernel_rfl) (by kernel_rfl) (by kernel_rfl) (by kernel_rfl) (by kernel_rfl)
theorem sc4 : ∀ p : Int, 0 ≤ p → p ≤ 7 → (measD (scC p) 1 (nextP p)).2 = 5 := eight (by kernel_rfl) (by kernel_rfl) (by kernel_rfl) (by kernel_rfl) (by kernel_rfl) (by kernel_rfl) (by kernel_rfl) (by kernel_rfl)
theorem sc5 : ∀ p : Int, 0 ≤ p → p ≤ 7 → (startD (scC p) 1).2 = 0 := eight (by kernel_rfl) (by kernel_rfl) (by kernel_rfl) (by kernel_rfl) (by kernel_rfl) (by kernel_rfl) (by kernel_rfl) (by kernel_rfl)
theorem sc6 : ∀ p : Int, 0 ≤ p → p ≤ 7 → (putD (scD p) 1 4 (nextP p) 1).2 = 8 := eight (by kernel_rfl) (by kernel_rfl) (by kernel_rfl) (by kernel_rfl) (by kernel_rfl) (by kernel_rfl) (by kernel_rfl) (by kernel_rfl)
theorem sc7 : ∀ p : Int, 0 ≤ p → p ≤ 7 → (measD (scD p) 1 p).2 = 8 := eight (by kernel_rfl) (by kernel_rfl) (by kernel_rfl) (by kernel_rfl) (by kernel_rfl) (by kernel_rfl) (by kernel_rfl) (by kernel_rfl)
theorem sc8 : ∀ p : Int, 0 ≤ p → p ≤ 7 → (startD (scD p) 1).2 = 8 := eight (by kernel_rfl) (by kernel_rfl) (by kernel_rfl) (by kernel_rfl) (by kernel_rfl) (by kernel_rfl) (by kernel_rfl) (by kernel_rfl)
theorem sc9 : ∀ p : Int, 0 ≤ p → p ≤ 7 → (startD (scD p) (1 + 1)).2 = 5 := eight (by kernel_rfl) (by kernel_rfl) (by kernel_rfl) (by kernel_rfl) (by kernel_rfl) (by kernel_rfl) (by kernel_rfl) (by kernel_rfl)
theorem scA_size : Sized scA := ⟨by kernel_rfl, by kernel_rfl, by kernel_rfl⟩
theorem putD_size {M : MachD} {e f p r : Int} (h : Sized M) (h0 : (putD M e f p r).2 = 0) : Sized (putD M e f p r).1 := by
  unfold putD at h0 ⊢
  split at h0
  · rename_i hn; exact absurd h0 hn
  · rename_i hn
    rw [if_neg hn]
    exact ⟨by simpa [upd_len] using h.1, by simpa [upd_len] using h.2.1, h.2.2⟩
theorem measD_size {M : MachD} {e p : Int} (h : Sized M) (h0 : (measD M e p).2 = 0) : Sized (measD M e p).1 := by
  unfold measD at h0 ⊢
  split at h0
  · rename_i hn; exact absurd h0 hn
  · rename_i hn
    rw [if_neg hn]
    exact ⟨h.1, by simpa [upd_len] using h.2.1, h.2.2⟩
theorem startD_size {M : MachD} {e : Int} (h : Sized M) (h0 : (startD M e).2 = 0) : Sized (startD M e).1 := by
  unfold startD at h0 ⊢
  split at h0
  · rename_i hn; exact absurd h0 hn
  · rename_i hn
    rw [if_neg hn]
    exact ⟨h.1, by simpa [upd_len] using h.2.1, h.2.2⟩
theorem newD_fit : newD.Fits := ⟨by simp [newD], by simp [newD], by simp [newD], fun i x hx => by
  simp only [newD] at hx
  have := List.mem_of_getElem? hx
  rw [List.mem_replicate] at this
  rw [this.2]
  simp [bare]⟩


set_option maxRecDepth 10000 in
set_option maxHeartbeats 3200000 in
theorem startsClose_calls (n : Int) (w : World) (hn : Is64 n) (hT : Tab w) : Calls Tryd.prog 11 #[.int .i64 n] w fun x w' => x = .returned (.bool true) ∧ Below w.heap.size w w' := by
  have HT := hid hT
  have h0 := pickD_lo n (many := 8) (by decide)
  have h7 := pickD_hi n (many := 8) (by decide)
  obtain ⟨p, hp⟩ : ∃ p, pickD n 8 = p := ⟨_, rfl⟩
  rw [hp] at h0 h7
  have HP := hid hp
  have h7' : p ≤ 7 := by omega
  have S2 := sc2 p h0 h7'
  have S3 := sc3 p h0 h7'
  have S4 := sc4 p h0 h7'
  have S5 := sc5 p h0 h7'
  have S6 := sc6 p h0 h7'
  have S7 := sc7 p h0 h7'
  have S8 := sc8 p h0 h7'
  have S9 : (startD (scD p) 2).2 = 5 := sc9 p h0 h7'
  have zB : Sized (scB p) := putD_size scA_size S2
  have zC : Sized (scC p) := measD_size zB S3
  have zD : Sized (scD p) := startD_size zC S5
  have fA : scA.Fits := createD_fits newD_fit
  have fB : (scB p).Fits := putD_fits fA _ _ _ _
  have fC : (scC p).Fits := measD_fits fB _ _
  have fD : (scD p).Fits := startD_fits fC _
  have HS := hid (And.intro S2 (And.intro S3 (And.intro S4 (And.intro S5 (And.intro S6 (And.intro S7 (And.intro S8 S9)))))))
  have HZ := hid (And.intro zB (And.intro zC zD))
  have HF := hid (And.intro fA (And.intro fB (And.intro fC fD)))
  have e1 : IntKind.i64.wrap (p + 1) = p + 1 := by rw [IntKind.wrap_i64]; omega
  have e2 : (p + 1).tmod 8 = nextP p := by rw [nextP, Int.tmod_eq_emod_of_nonneg (by omega)]
  have e3 : IntKind.i64.wrap (nextP p) = nextP p := by rw [IntKind.wrap_i64, nextP]; omega
  clear S2 S3 S4 S5 S6 S7 S8 S9 zB zC zD fA fB fC fD hT hp h7' h0 h7
  go_enter Tryd.func11, Tryd.ntmps11
  go_wp2_with fail
  refine (epcNew _).mono ?_
  rintro x w1 ⟨fv1, ev1, qv1, F1, rfl, hF1, hO1, hb1⟩
  have HA1 := hid (OwnMach.at (M := newD) hO1 hF1)
  have HB1 := hid hb1
  clear hF1 hO1 hb1
  go_wp2_with fail
  refine (epcCreate _ newD _ HA1.out newD_fit).mono ?_
  rintro y w2 ⟨v2, rfl, hA2, hb2⟩
  rw [show (createD newD).2.1 = 1 by rw [sc1], show (createD newD).2.2 = 0 by rw [sc1]]
  obtain ⟨fa, fc, ea, ec, qa, qc, rfl, hA3⟩ := MachAt.sized (M := scA) hA2 scA_size
  have K := MSt.of (t := 36) hA3 (HB1.out.trans (hb2.mono HB1.out.size))
  go_upto_region 2 with fail
  refine wp_gen (MSt w w2.heap.size scA fa fc ea ec qa qc) K ?_
  clear K hA2 hA3 hb2 HA1 HB1
  generalize w2.heap.size = B
  intro W2 H
  have H := hid H
  clear w2 w1
  have k0 := H.out.c0
  have k1 := H.out.c1
  have k2 := H.out.c2
  have kz := H.out.cz
  have hi := H.out.hi
  go_wp2_with fail
  refine (picked_any n 8 _ hn (by decide)).mono ?_
  rintro y w2 ⟨rfl, rfl⟩
  rw [HP.out]
  go_wp2_with fail
  refine (epcPut _ scA 1 3 p 1 _ H.out.at' HF.out.1 (HT.out.mono H.out.below)).mono ?_
  rintro y w2 ⟨v2, rfl, hA2, hb2⟩
  rw [HS.out.1]
  obtain ⟨fa', fc', ea', ec', qa', qc', rfl, hA3⟩ := hA2.sized HZ.out.1
  have K := (H.out.later hb2).put hA3
  clear k0 k1 k2 kz hi
  replace H := hid (H.out.later hb2)
  have k0 := H.out.c0
  have k1 := H.out.c1
  have k2 := H.out.c2
  have kz := H.out.cz
  have hi := H.out.hi
  go_upto_region 4 with fail
  refine wp_gen (MSt w B (scB p) fa' fc' ea' ec' qa' qc') K ?_
  clear K H hA2 hA3 hb2
  clear k0 k1 k2 kz hi
  intro W2 H
  have H := hid H
  clear w2
  have k0 := H.out.c0
  have k1 := H.out.c1
  have k2 := H.out.c2
  have kz := H.out.cz
  have hi := H.out.hi
  go_wp2_with fail
  refine (epcMeasure _ (scB p) 1 p _ H.out.at' HF.out.2.1 (HT.out.mono H.out.below)).mono ?_
  rintro y w2 ⟨v2, rfl, hA2, hb2⟩
  rw [HS.out.2.1]
  obtain ⟨fa', fc', ea', ec', qa', qc', rfl, hA3⟩ := hA2.sized HZ.out.2.1
  have K := (H.out.later hb2).put hA3
  clear k0 k1 k2 kz hi
  replace H := hid (H.out.later hb2)
  have k0 := H.out.c0
  have k1 := H.out.c1
  have k2 := H.out.c2
  have kz := H.out.cz
  have hi := H.out.hi
  go_upto_region 5 with fail
  refine wp_gen (MSt w B (scC p) fa' fc' ea' ec' qa' qc') K ?_
  clear K H hA2 hA3 hb2
  clear k0 k1 k2 kz hi
  intro W2 H
  have H := hid H
  clear w2
  have k0 := H.out.c0
  have k1 := H.out.c1
  have k2 := H.out.c2
  have kz := H.out.cz
  have hi := H.out.hi
  go_wp2_with fail
  refine (epcMeasure _ (scC p) 1 (nextP p) _ H.out.at' HF.out.2.2.1 (HT.out.mono H.out.below)).mono ?_
  rintro y w2 ⟨v2, rfl, hA2, hb2⟩
  rw [HS.out.2.2.1]
  obtain ⟨fa', fc', ea', ec', qa', qc', rfl, hA3⟩ := hA2
  clear hA3
  clear k0 k1 k2 kz hi
  replace H := hid (H.out.later hb2)
  clear hb2
  have k0 := H.out.c0
  have k1 := H.out.c1
  have k2 := H.out.c2
  have kz := H.out.cz
  have hi := H.out.hi
  go_upto_region 6 with fail
  refine wp_gen (MSt w B (scC p) _ _ _ _ _ _) (H.out.later (below_alloc _ _)) ?_
  clear H
  clear k0 k1 k2 kz hi
  intro W2 H
  have H := hid H
  have k0 := H.out.c0
  have k1 := H.out.c1
  have k2 := H.out.c2
  have kz := H.out.cz
  have hi := H.out.hi
  go_wp2_with fail
  refine (epcStart _ (scC p) 1 _ H.out.at' HF.out.2.2.1).mono ?_
  rintro y w2 ⟨v2, rfl, hA2, hb2⟩
  rw [HS.out.2.2.2.1]
  obtain ⟨fa', fc', ea', ec', qa', qc', rfl, hA3⟩ := hA2.sized HZ.out.2.2
  have K := (H.out.later hb2).put hA3
  clear k0 k1 k2 kz hi
  replace H := hid (H.out.later hb2)
  have k0 := H.out.c0
  have k1 := H.out.c1
  have k2 := H.out.c2
  have kz := H.out.cz
  have hi := H.out.hi
  go_upto_region 7 with fail
  refine wp_gen (MSt w B (scD p) fa' fc' ea' ec' qa' qc') K ?_
  clear K H hA2 hA3 hb2
  clear k0 k1 k2 kz hi
  intro W2 H
  have H := hid H
  clear w2
  have k0 := H.out.c0
  have k1 := H.out.c1
  have k2 := H.out.c2
  have kz := H.out.cz
  have hi := H.out.hi
  go_wp2_with fail
  refine (epcPut _ (scD p) 1 4 (nextP p) 1 _ H.out.at' HF.out.2.2.2 (HT.out.mono H.out.below)).mono ?_
  rintro y w2 ⟨v2, rfl, hA2, hb2⟩
  rw [HS.out.2.2.2.2.1]
  obtain ⟨fa', fc', ea', ec', qa', qc', rfl, hA3⟩ := hA2
  clear hA3
  clear k0 k1 k2 kz hi
  replace H := hid (H.out.later hb2)
  clear hb2
  have k0 := H.out.c0
  have k1 := H.out.c1
  have k2 := H.out.c2
  have kz := H.out.cz
  have hi := H.out.hi
  go_upto_region 8 with fail
  refine wp_gen (MSt w B (scD p) _ _ _ _ _ _) (H.out.later (below_alloc _ _)) ?_
  clear H
  clear k0 k1 k2 kz hi
  intro W2 H
  have H := hid H
  have k0 := H.out.c0
  have k1 := H.out.c1
  have k2 := H.out.c2
  have kz := H.out.cz
  have hi := H.out.hi
  go_wp2_with fail
  refine (epcMeasure _ (scD p) 1 p _ H.out.at' HF.out.2.2.2 (HT.out.mono H.out.below)).mono ?_
  rintro y w2 ⟨v2, rfl, hA2, hb2⟩
  rw [HS.out.2.2.2.2.2.1]
  obtain ⟨fa', fc', ea', ec', qa', qc', rfl, hA3⟩ := hA2
  clear hA3
  clear k0 k1 k2 kz hi
  replace H := hid (H.out.later hb2)
  clear hb2
  have k0 := H.out.c0
  have k1 := H.out.c1
  have k2 := H.out.c2
  have kz := H.out.cz
  have hi := H.out.hi
  go_upto_region 9 with fail
  refine wp_gen (MSt w B (scD p) _ _ _ _ _ _) (H.out.later (below_alloc _ _)) ?_
  clear H
  clear k0 k1 k2 kz hi
  intro W2 H
  have H := hid H
  have k0 := H.out.c0
  have k1 := H.out.c1
  have k2 := H.out.c2
  have kz := H.out.cz
  have hi := H.out.hi
  go_wp2_with fail
  refine (epcStart _ (scD p) 1 _ H.out.at' HF.out.2.2.2).mono ?_
  rintro y w2 ⟨v2, rfl, hA2, hb2⟩
  rw [HS.out.2.2.2.2.2.2.1]
  obtain ⟨fa', fc', ea', ec', qa', qc', rfl, hA3⟩ := hA2
  clear hA3
  clear k0 k1 k2 kz hi
  replace H := hid (H.out.later hb2)
  clear hb2
  have k0 := H.out.c0
  have k1 := H.out.c1
  have k2 := H.out.c2
  have kz := H.out.cz
  have hi := H.out.hi
  go_upto_region 10 with fail
  refine wp_gen (MSt w B (scD p) _ _ _ _ _ _) (H.out.later (below_alloc _ _)) ?_
  clear H
  clear k0 k1 k2 kz hi
  intro W2 H
  have H := hid H
  have k0 := H.out.c0
  have k1 := H.out.c1
  have k2 := H.out.c2
  have kz := H.out.cz
  have hi := H.out.hi
  go_wp2_with fail
  refine (epcStart _ (scD p) 2 _ H.out.at' HF.out.2.2.2).mono ?_
  rintro y w2 ⟨v2, rfl, hA2, hb2⟩
  rw [HS.out.2.2.2.2.2.2.2]
  obtain ⟨fa', fc', ea', ec', qa', qc', rfl, hA3⟩ := hA2
  clear hA3
  clear k0 k1 k2 kz hi
  replace H := hid (H.out.later hb2)
  clear hb2
  have k0 := H.out.c0
  have k1 := H.out.c1
  have k2 := H.out.c2
  have kz := H.out.cz
  have hi := H.out.hi
  go_upto_region 11 with fail
  refine wp_gen (MSt w B (scD p) _ _ _ _ _ _) (H.out.later (below_alloc _ _)) ?_
  clear H
  clear k0 k1 k2 kz hi
  intro W2 H
  have H := hid H
  have k0 := H.out.c0
  have k1 := H.out.c1
  have k2 := H.out.c2
  have kz := H.out.cz
  have hi := H.out.hi
  go_wp2_with fail
  go_ret
  exact ⟨rfl, H.out.below⟩
set_option maxRecDepth 100000 in
theorem startsClose_args {H : Type} {enc : TypeId × Value → H} (W : World) (b0 : Nat) (args : Array Value) (hT : Tab W) (hs : args.size = (Tryd.f11).params.size)
    (ha : ∀ (j : Nat) t v, (Tryd.f11).params[j]? = some t → args[j]? = some v → Value.okWide Tryd.prog W .any b0 t v ∧ Rd enc Tryd.prog W t v.cells.toList) :
    Calls Tryd.prog 11 args W fun e w' => e = .returned (.bool true) ∧ Below W.heap.size W w' := by
  obtain ⟨l⟩ := args
  match l, hs with
  | [v], _ =>
    obtain ⟨n, rfl, hn⟩ := rd_int_v (ha 0 _ v rfl rfl).1 (ha 0 _ v rfl rfl).2
    exact startsClose_calls n W hn hT

set_option maxRecDepth 100000 in
theorem startsClose_lifted (os : Os) (started : os.Started) (H : Type) (enc : TypeId × Value → H) :
    ReturnsInHanded {} Tryd.checked os 11 .any (fun w args => (Rows.startsCloseSpec.pre enc Tryd.prog Tryd.f11 [] false w args ∧ laidMetH Tryd.prog Rows.startsCloseRow.laid w) ∧ sizedMet enc Tryd.prog Tryd.f11 (OpenSpec.ofChange Rows.startsCloseSpec) false w args)
      (Rows.startsCloseSpec.post enc Tryd.prog Tryd.f11 false true false false) := by
  refine returnsInHanded_of_change_and (C := Tryd.checked) (X := fun w _ => laidMetH Tryd.prog Rows.startsCloseRow.laid w) (fun _ _ _ hh h => h.of_heap hh) own started (by kernel_rfl) Tryd.func11
    (ChangeSpec.witness_shaped (enc := enc) (C := Tryd.checked) (os := os) (X := fun w _ => laidMetH Tryd.prog Rows.startsCloseRow.laid w) false (World.doorLaid Tryd.prog doorSteps os) #[.int .i64 0] 8 rfl (World.shaped_of_RefB (by kernel_rfl) (by kernel_rfl)) (by kernel_rfl) (by kernel_rfl) (by kernel_rfl) (door_met os _)) ?_
  intro W base args ds gs before hval hW _ hsz hL _
  exact law_contract laidOut (by kernel_rfl) rfl Tryd.underlying4 rfl (fun ds h => by
    match ds, h with
    | [_], _ => exact ⟨rfl, rfl, rfl⟩) hval hW hsz fun hs ha => startsClose_args W base args (tab_of_laid hL) hs ha

theorem startsClose_row : Rows.StartsCloseSaid :=
  OpenClaim.holds_of_wide 11 Tryd.f11 rfl rfl rfl rfl rfl rfl rfl ⟨rfl, rfl, rfl, rfl, rfl⟩ rfl rfl rfl rfl rfl (by kernel_rfl) Tryd.func11 (by kernel_rfl)
    (of_decide_eq_true (by kernel_rfl)) (by unfold Func.isWrapper; first | (rw [if_pos (by decide +kernel)]; kernel_rfl) | (rw [if_neg (by decide +kernel)]; exact ⟨rfl, rfl⟩))
    (fun os started H enc _ => startsClose_lifted os started H enc)

theorem startsClose_holds : Rows.StartsCloseCardSaid :=
  Claim7.holds_tied_plain_at .later [] [.data, .data, .data] true _ false
    startsClose_row (fun _ h => by cases h) (by kernel_rfl) (fun _ h => by cases h) startsClose_row_tie rfl ⟨rfl, rfl⟩ (by kernel_rfl) rfl
    (fun f fn hf hfn => by
      obtain rfl : f = 11 := Option.some.inj ((show Tryd.prog.funcNamed Rows.startsCloseRow.func = some 11 by kernel_rfl).symm.trans hf) |>.symm
      obtain rfl : fn = Tryd.f11 := (Option.some.inj (Tryd.func11.symm.trans hfn)).symm
      exact ⟨by kernel_rfl, fun j t ht => by
        have hm : t ∈ (Tryd.f11).params.toList := by simpa using Array.mem_of_getElem? ht
        have hall : ((Tryd.f11).params.toList.all fun u => !Tryd.prog.wantsStandIn u) = true := by kernel_rfl
        exact (show Tryd.prog.wantsStandIn t = false by simpa using List.all_eq_true.1 hall t hm)⟩)
    (by kernel_rfl)


end Go.Proofs.YtohaapnkipiocaaDoor
