/- image.Added answers as the reference does, at every place and rights: the law returns true, its arguments read as they did; the card is tied. Condition: the library's tables start as the program's text lays them. -/
import Derived.Test.YtohaapnkipiocaaDoorLiftD
import Derived.Test.YtohaapnkipiocaaDoorAdded
namespace Go.Proofs.YtohaapnkipiocaaDoor
open Go.ChangeShapes Go.WideShapes Go.ChangeAt Go.RowKit

set_option maxRecDepth 10000 in
set_option maxHeartbeats 800000 in
theorem imageAdds_calls (p r : Int) (w : World) (hT : Tab w) : Calls Tryd.prog 3 #[.int .i64 p, .int .i64 r] w fun e w' => e = .returned (.bool true) ∧ Below w.heap.size w w' := by
  go_enter Tryd.func3, Tryd.ntmps3
  go_wp2_with fail
  refine (imageAdded p r _ hT).mono ?_
  rintro x w1 ⟨rfl, hb1⟩
  dsimp only
  go_wp2_with fail
  refine (refPut p r _).mono ?_
  rintro x w2 ⟨rfl, hb2⟩
  generalize addD p r = R
  dsimp only
  go_wp2_with fail
  go_ret
  exact ⟨rfl, hb1.trans (hb2.mono hb1.size)⟩
set_option maxRecDepth 100000 in
theorem imageAdds_args {H : Type} {enc : TypeId × Value → H} (W : World) (b0 : Nat) (args : Array Value) (hT : Tab W) (hs : args.size = (Tryd.f3).params.size)
    (ha : ∀ (j : Nat) t v, (Tryd.f3).params[j]? = some t → args[j]? = some v → Value.okWide Tryd.prog W .any b0 t v ∧ Rd enc Tryd.prog W t v.cells.toList) :
    Calls Tryd.prog 3 args W fun e w' => e = .returned (.bool true) ∧ Below W.heap.size W w' := by
  obtain ⟨l⟩ := args
  match l, hs with
  | [v, v1], _ =>
    obtain ⟨p, rfl, _⟩ := rd_int_v (ha 0 _ v rfl rfl).1 (ha 0 _ v rfl rfl).2
    obtain ⟨r, rfl, _⟩ := rd_int_v (ha 1 _ v1 rfl rfl).1 (ha 1 _ v1 rfl rfl).2
    exact imageAdds_calls p r W hT

set_option maxRecDepth 100000 in
theorem imageAdds_lifted (os : Os) (started : os.Started) (H : Type) (enc : TypeId × Value → H) :
    ReturnsInHanded {} Tryd.checked os 3 .any (fun w args => (Rows.imageAddsSpec.pre enc Tryd.prog Tryd.f3 [] false w args ∧ laidMetH Tryd.prog Rows.imageAddsRow.laid w) ∧ sizedMet enc Tryd.prog Tryd.f3 (OpenSpec.ofChange Rows.imageAddsSpec) false w args)
      (Rows.imageAddsSpec.post enc Tryd.prog Tryd.f3 false true false false) := by
  refine returnsInHanded_of_change_and (C := Tryd.checked) (X := fun w _ => laidMetH Tryd.prog Rows.imageAddsRow.laid w) (fun _ _ _ hh h => h.of_heap hh) own started (by kernel_rfl) Tryd.func3
    (ChangeSpec.witness_shaped (enc := enc) (C := Tryd.checked) (os := os) (X := fun w _ => laidMetH Tryd.prog Rows.imageAddsRow.laid w) false (World.doorLaid Tryd.prog doorSteps os) #[.int .i64 0, .int .i64 0] 8 rfl (World.shaped_of_RefB (by kernel_rfl) (by kernel_rfl)) (by kernel_rfl) (by kernel_rfl) (by kernel_rfl) (door_met os _)) ?_
  intro W base args ds gs before hval hW _ hsz hL _
  exact law_contract laidOut (by kernel_rfl) rfl Tryd.underlying4 rfl (fun ds h => by
    match ds, h with
    | [_, _], _ => exact ⟨rfl, rfl, rfl⟩) hval hW hsz fun hs ha => imageAdds_args W base args (tab_of_laid hL) hs ha

theorem imageAdds_row : Rows.ImageAddsSaid :=
  OpenClaim.holds_of_wide 3 Tryd.f3 rfl rfl rfl rfl rfl rfl rfl ⟨rfl, rfl, rfl, rfl, rfl⟩ rfl rfl rfl rfl rfl (by kernel_rfl) Tryd.func3 (by kernel_rfl)
    (of_decide_eq_true (by kernel_rfl)) (by unfold Func.isWrapper; first | (rw [if_pos (by decide +kernel)]; kernel_rfl) | (rw [if_neg (by decide +kernel)]; exact ⟨rfl, rfl⟩))
    (fun os started H enc _ => imageAdds_lifted os started H enc)

theorem imageAdds_holds : Rows.ImageAddsCardSaid :=
  Claim7.holds_tied_plain_at .later [] [.data, .data, .data] true _ false
    imageAdds_row (fun _ h => by cases h) (by kernel_rfl) (fun _ h => by cases h) imageAdds_row_tie rfl ⟨rfl, rfl⟩ (by kernel_rfl) rfl
    (fun f fn hf hfn => by
      obtain rfl : f = 3 := Option.some.inj ((show Tryd.prog.funcNamed Rows.imageAddsRow.func = some 3 by kernel_rfl).symm.trans hf) |>.symm
      obtain rfl : fn = Tryd.f3 := (Option.some.inj (Tryd.func3.symm.trans hfn)).symm
      exact ⟨by kernel_rfl, fun j t ht => by
        have hm : t ∈ (Tryd.f3).params.toList := by simpa using Array.mem_of_getElem? ht
        have hall : ((Tryd.f3).params.toList.all fun u => !Tryd.prog.wantsStandIn u) = true := by kernel_rfl
        exact (show Tryd.prog.wantsStandIn t = false by simpa using List.all_eq_true.1 hall t hm)⟩)
    (by kernel_rfl)


end Go.Proofs.YtohaapnkipiocaaDoor
