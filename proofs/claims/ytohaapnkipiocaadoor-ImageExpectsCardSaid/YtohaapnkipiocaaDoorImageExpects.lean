/- image.Expect answers as the reference does, for every image: the law returns true, its argument reads as it did; the card is tied. Condition: the library's tables start as the program's text lays them. -/
import Derived.Test.YtohaapnkipiocaaDoorLiftD
import Derived.Test.YtohaapnkipiocaaDoorExpect
import Derived.Test.YtohaapnkipiocaaDoorImageCopy
namespace Go.Proofs.YtohaapnkipiocaaDoor
open Go.ChangeShapes Go.WideShapes Go.ChangeAt Go.RowKit

set_option maxRecDepth 10000 in
set_option maxHeartbeats 800000 in
theorem imageExpects_calls (a : Option Addr) (l : List PageD) (cap : Nat) (w : World) (hf : PagesFit l) (hc : PagesAt w a l) (hT : Tab w) : Calls Tryd.prog 5 #[.slice a l.length cap] w fun e w' => e = .returned (.bool true) ∧ Below w.heap.size w w' := by
  obtain ⟨n, hl⟩ : ∃ n, l.length = n := ⟨_, rfl⟩
  rw [hl]
  have HL := hid hl
  have HC := hid hc
  clear hl hc
  go_enter Tryd.func5, Tryd.ntmps5
  go_wp2_with fail
  refine (imageExpect a l n cap _ HL.out hf HC.out hT).mono ?_
  rintro x w1 ⟨rfl, hb1⟩
  dsimp only
  go_wp2_with fail
  refine (refExpect a l n cap _ HL.out hf (HC.out.mono hb1)).mono ?_
  rintro x w2 ⟨rfl, hb2⟩
  generalize expectD l = R
  dsimp only
  go_wp2_with fail
  go_ret
  exact ⟨rfl, hb1.trans (hb2.mono hb1.size)⟩
set_option maxRecDepth 100000 in
theorem imageExpects_args {H : Type} {enc : TypeId × Value → H} (W : World) (b0 : Nat) (args : Array Value) (hT : Tab W) (hs : args.size = (Tryd.f5).params.size)
    (ha : ∀ (j : Nat) t v, (Tryd.f5).params[j]? = some t → args[j]? = some v → Value.okWide Tryd.prog W .any b0 t v ∧ Rd enc Tryd.prog W t v.cells.toList) :
    Calls Tryd.prog 5 args W fun e w' => e = .returned (.bool true) ∧ Below W.heap.size W w' := by
  obtain ⟨l⟩ := args
  match l, hs with
  | [v], _ =>
    obtain ⟨h1, h2⟩ := ha 0 _ v rfl rfl
    obtain ⟨a, l, c, e, hf, hi⟩ := rd_pages h2
    obtain rfl : v = .slice a l.length c := by
      have := rd_slice_v Tryd.underlying29 h1
      rw [this] at e
      exact (List.cons.inj e).1
    exact imageExpects_calls a l c W hf hi hT

set_option maxRecDepth 100000 in
theorem imageExpects_lifted (os : Os) (started : os.Started) (H : Type) (enc : TypeId × Value → H) :
    ReturnsInHanded {} Tryd.checked os 5 .any (fun w args => (Rows.imageExpectsSpec.pre enc Tryd.prog Tryd.f5 [] false w args ∧ laidMetH Tryd.prog Rows.imageExpectsRow.laid w) ∧ sizedMet enc Tryd.prog Tryd.f5 (OpenSpec.ofChange Rows.imageExpectsSpec) false w args)
      (Rows.imageExpectsSpec.post enc Tryd.prog Tryd.f5 false true false false) := by
  refine returnsInHanded_of_change_and (C := Tryd.checked) (X := fun w _ => laidMetH Tryd.prog Rows.imageExpectsRow.laid w) (fun _ _ _ hh h => h.of_heap hh) own started (by kernel_rfl) Tryd.func5
    (ChangeSpec.witness_shaped (enc := enc) (C := Tryd.checked) (os := os) (X := fun w _ => laidMetH Tryd.prog Rows.imageExpectsRow.laid w) false (World.doorLaid Tryd.prog doorSteps os) #[.slice none 0 0] 8 rfl (World.shaped_of_RefB (by kernel_rfl) (by kernel_rfl)) (by kernel_rfl) (by kernel_rfl) (by kernel_rfl) (door_met os _)) ?_
  intro W base args ds gs before hval hW _ hsz hL _
  exact law_contract laidOut (by kernel_rfl) rfl Tryd.underlying4 rfl (fun ds h => by
    match ds, h with
    | [_], _ => exact ⟨rfl, rfl, rfl⟩) hval hW hsz fun hs ha => imageExpects_args W base args (tab_of_laid hL) hs ha

theorem imageExpects_row : Rows.ImageExpectsSaid :=
  OpenClaim.holds_of_wide 5 Tryd.f5 rfl rfl rfl rfl rfl rfl rfl ⟨rfl, rfl, rfl, rfl, rfl⟩ rfl rfl rfl rfl rfl (by kernel_rfl) Tryd.func5 (by kernel_rfl)
    (of_decide_eq_true (by kernel_rfl)) (by unfold Func.isWrapper; first | (rw [if_pos (by decide +kernel)]; kernel_rfl) | (rw [if_neg (by decide +kernel)]; exact ⟨rfl, rfl⟩))
    (fun os started H enc _ => imageExpects_lifted os started H enc)

theorem imageExpects_holds : Rows.ImageExpectsCardSaid :=
  Claim7.holds_tied_plain_at .later [] [.data, .data, .data] true _ false
    imageExpects_row (fun _ h => by cases h) (by kernel_rfl) (fun _ h => by cases h) imageExpects_row_tie rfl ⟨rfl, rfl⟩ (by kernel_rfl) rfl
    (fun f fn hf hfn => by
      obtain rfl : f = 5 := Option.some.inj ((show Tryd.prog.funcNamed Rows.imageExpectsRow.func = some 5 by kernel_rfl).symm.trans hf) |>.symm
      obtain rfl : fn = Tryd.f5 := (Option.some.inj (Tryd.func5.symm.trans hfn)).symm
      exact ⟨by kernel_rfl, fun j t ht => by
        have hm : t ∈ (Tryd.f5).params.toList := by simpa using Array.mem_of_getElem? ht
        have hall : ((Tryd.f5).params.toList.all fun u => !Tryd.prog.wantsStandIn u) = true := by kernel_rfl
        exact (show Tryd.prog.wantsStandIn t = false by simpa using List.all_eq_true.1 hall t hm)⟩)
    (by kernel_rfl)


end Go.Proofs.YtohaapnkipiocaaDoor
