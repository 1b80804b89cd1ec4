/- image.Opened answers "open;": the law returns true. No condition. -/
import Derived.Test.YtepgccflakopkaaOpens
namespace Go.Proofs.Ytepgccflakopkaa
open Go.ChangeShapes Go.WideShapes Go.ChangeAt Go.RowKit

theorem imageOpens_calls (w : World) : Calls Try.prog 4 #[] w fun e w' => e = .returned (.bool true) ∧ Below w.heap.size w w' := by
  go_enter Try.func4, Try.ntmps4
  go_wp2
  go_ret
  exact ⟨rfl, Below.refl _ _⟩
set_option maxRecDepth 100000 in
theorem imageOpens_args {H : Type} {enc : TypeId × Value → H} (W : World) (b0 : Nat) (args : Array Value) (hs : args.size = (Try.f4).params.size)
    (ha : ∀ (j : Nat) t v, (Try.f4).params[j]? = some t → args[j]? = some v → Value.okWide Try.prog W .any b0 t v ∧ Rd enc Try.prog W t v.cells.toList) :
    Calls Try.prog 4 args W fun e w' => e = .returned (.bool true) ∧ Below W.heap.size W w' := by
  obtain ⟨l⟩ := args
  match l, hs with
  | [], _ => exact imageOpens_calls W

set_option maxRecDepth 100000 in
theorem imageOpens_lifted (os : Os) (started : os.Started) (H : Type) (enc : TypeId × Value → H) :
    ReturnsInHanded {} Try.checked os 4 .any (Rows.imageOpensSpec.pre6 enc Try.prog Try.f4 Rows.imageOpensRow.domain false) (Rows.imageOpensSpec.post enc Try.prog Try.f4 false true false false) :=
  returnsInHanded_of_change_sized (C := Try.checked) own started (by kernel_rfl) Try.func4
    (ChangeSpec.witness6 (enc := enc) (C := Try.checked) false ⟨#[], #[], []⟩ 8 (by kernel_rfl) (by kernel_rfl) (by kernel_rfl) (by kernel_rfl))
    fun W base args ds gs before hval hW _ hsz _ => law_contract laidOut (by kernel_rfl) rfl Try.underlying4 rfl (fun ds h => by
      match ds, h with
      | [], _ => exact ⟨rfl, rfl, rfl⟩) hval hW hsz fun hs ha => imageOpens_args W base args hs ha

theorem imageOpens_holds : Rows.ImageOpensSaid :=
  OpenClaim.holds_of_wide 4 Try.f4 rfl rfl rfl rfl rfl rfl rfl ⟨rfl, rfl, rfl, rfl, rfl⟩ rfl rfl rfl rfl rfl (by kernel_rfl) Try.func4 (by kernel_rfl)
    (of_decide_eq_true (by kernel_rfl)) (by unfold Func.isWrapper; first | (rw [if_pos (by decide +kernel)]; kernel_rfl) | (rw [if_neg (by decide +kernel)]; exact ⟨rfl, rfl⟩))
    (fun os started H enc _ => imageOpens_lifted os started H enc)


end Go.Proofs.Ytepgccflakopkaa
