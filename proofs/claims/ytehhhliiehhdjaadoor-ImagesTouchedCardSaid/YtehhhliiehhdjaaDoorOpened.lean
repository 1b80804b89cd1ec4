/- image.Opened, walked: the opening text. No condition. -/
import Derived.Test.YtehhhliiehhdjaaDoorTexts
namespace Go.Proofs.YtehhhliiehhdjaaDoor
open Go.RowKit

theorem imageOpened2 (w : World) : Calls Tryd.prog 24 #[] w fun e w' => e = .returned (.string (bytesOf openL)) ∧ w = w' := by
  go_enter Tryd.func24, Tryd.ntmps24
  go_wp2_with fail
  go_ret
  exact ⟨rfl, rfl⟩

end Go.Proofs.YtehhhliiehhdjaaDoor
