/- image.Held answers as the reference does, at every place and list of words: the law returns true, its arguments read as they did; the card is tied. Condition: the library's tables start as the program's text lays them. -/
import Derived.Test.YtohaapnkipiocaaDoorLiftD
import Derived.Test.YtohaapnkipiocaaDoorHeld
namespace Go.Proofs.YtohaapnkipiocaaDoor
open Go.ChangeShapes Go.WideShapes Go.ChangeAt Go.RowKit

set_option maxRecDepth 10000 in
set_option maxHeartbeats 800000 in
theorem imageHolds_calls (p : Int) (a : Option Addr) (ws : List Int) (cap : Nat) (w : World) (hn : ws.length * 8 ≤ 140737488351232) (hc : IntsAt w a ws) (hT : Tab w) : Calls Tryd.prog 4 #[.int .i64 p, .slice a ws.length cap] w fun e w' => e = .returned (.bool true) ∧ Below w.heap.size w w' := by
  obtain ⟨n, hl⟩ : ∃ n, ws.length = n := ⟨_, rfl⟩
  rw [hl] at hn ⊢
  have HL := hid hl
  have HC := hid hc
  clear hl hc
  go_enter Tryd.func4, Tryd.ntmps4
  go_wp2_with fail
  refine (imageHeld p a ws n cap _ HL.out (by omega) HC.out hT).mono ?_
  rintro x w1 ⟨rfl, hb1⟩
  dsimp only
  go_wp2_with fail
  refine (refHeld p a ws n cap _ HL.out (by omega) (HC.out.mono hb1)).mono ?_
  rintro x w2 ⟨rfl, hb2⟩
  generalize heldD p ws = R
  dsimp only
  go_wp2_with fail
  go_ret
  exact ⟨rfl, hb1.trans (hb2.mono hb1.size)⟩
set_option maxRecDepth 100000 in
theorem imageHolds_args {H : Type} {enc : TypeId × Value → H} (W : World) (b0 : Nat) (args : Array Value) (hT : Tab W) (hs : args.size = (Tryd.f4).params.size)
    (ha : ∀ (j : Nat) t v, (Tryd.f4).params[j]? = some t → args[j]? = some v → Value.okWide Tryd.prog W .any b0 t v ∧ Rd enc Tryd.prog W t v.cells.toList) :
    Calls Tryd.prog 4 args W fun e w' => e = .returned (.bool true) ∧ Below W.heap.size W w' := by
  obtain ⟨l⟩ := args
  match l, hs with
  | [v, v1], _ =>
    obtain ⟨p, rfl, _⟩ := rd_int_v (ha 0 _ v rfl rfl).1 (ha 0 _ v rfl rfl).2
    obtain ⟨h1, h2⟩ := ha 1 _ v1 rfl rfl
    obtain ⟨a, l, c, e, hz, hi⟩ := rd_ints h2
    obtain rfl : v1 = .slice a l.length c := by
      have := rd_slice_v Tryd.underlying26 h1
      rw [this] at e
      exact (List.cons.inj e).1
    exact imageHolds_calls p a l c W hz hi hT

set_option maxRecDepth 100000 in
theorem imageHolds_lifted (os : Os) (started : os.Started) (H : Type) (enc : TypeId × Value → H) :
    ReturnsInHanded {} Tryd.checked os 4 .any (fun w args => (Rows.imageHoldsSpec.pre enc Tryd.prog Tryd.f4 [] false w args ∧ laidMetH Tryd.prog Rows.imageHoldsRow.laid w) ∧ sizedMet enc Tryd.prog Tryd.f4 (OpenSpec.ofChange Rows.imageHoldsSpec) false w args)
      (Rows.imageHoldsSpec.post enc Tryd.prog Tryd.f4 false true false false) := by
  refine returnsInHanded_of_change_and (C := Tryd.checked) (X := fun w _ => laidMetH Tryd.prog Rows.imageHoldsRow.laid w) (fun _ _ _ hh h => h.of_heap hh) own started (by kernel_rfl) Tryd.func4
    (ChangeSpec.witness_shaped (enc := enc) (C := Tryd.checked) (os := os) (X := fun w _ => laidMetH Tryd.prog Rows.imageHoldsRow.laid w) false (World.doorLaid Tryd.prog doorSteps os) #[.int .i64 0, .slice none 0 0] 8 rfl (World.shaped_of_RefB (by kernel_rfl) (by kernel_rfl)) (by kernel_rfl) (by kernel_rfl) (by kernel_rfl) (door_met os _)) ?_
  intro W base args ds gs before hval hW _ hsz hL _
  exact law_contract laidOut (by kernel_rfl) rfl Tryd.underlying4 rfl (fun ds h => by
    match ds, h with
    | [_, _], _ => exact ⟨rfl, rfl, rfl⟩) hval hW hsz fun hs ha => imageHolds_args W base args (tab_of_laid hL) hs ha

theorem imageHolds_row : Rows.ImageHoldsSaid :=
  OpenClaim.holds_of_wide 4 Tryd.f4 rfl rfl rfl rfl rfl rfl rfl ⟨rfl, rfl, rfl, rfl, rfl⟩ rfl rfl rfl rfl rfl (by kernel_rfl) Tryd.func4 (by kernel_rfl)
    (of_decide_eq_true (by kernel_rfl)) (by unfold Func.isWrapper; first | (rw [if_pos (by decide +kernel)]; kernel_rfl) | (rw [if_neg (by decide +kernel)]; exact ⟨rfl, rfl⟩))
    (fun os started H enc _ => imageHolds_lifted os started H enc)

theorem imageHolds_holds : Rows.ImageHoldsCardSaid :=
  Claim7.holds_tied_plain_at .later [] [.data, .data, .data] true _ false
    imageHolds_row (fun _ h => by cases h) (by kernel_rfl) (fun _ h => by cases h) imageHolds_row_tie rfl ⟨rfl, rfl⟩ (by kernel_rfl) rfl
    (fun f fn hf hfn => by
      obtain rfl : f = 4 := Option.some.inj ((show Tryd.prog.funcNamed Rows.imageHoldsRow.func = some 4 by kernel_rfl).symm.trans hf) |>.symm
      obtain rfl : fn = Tryd.f4 := (Option.some.inj (Tryd.func4.symm.trans hfn)).symm
      exact ⟨by kernel_rfl, fun j t ht => by
        have hm : t ∈ (Tryd.f4).params.toList := by simpa using Array.mem_of_getElem? ht
        have hall : ((Tryd.f4).params.toList.all fun u => !Tryd.prog.wantsStandIn u) = true := by kernel_rfl
        exact (show Tryd.prog.wantsStandIn t = false by simpa using List.all_eq_true.1 hall t hm)⟩)
    (by kernel_rfl)


end Go.Proofs.YtohaapnkipiocaaDoor
