/- image.Opened, walked: the opening text. No condition. -/
import Derived.Test.YtohaapnkipiocaaDoorTexts
namespace Go.Proofs.YtohaapnkipiocaaDoor
open Go.RowKit

theorem imageOpened2 (w : World) : Calls Tryd.prog 65 #[] w fun e w' => e = .returned (.string (bytesOf openL)) ∧ w = w' := by
  go_enter Tryd.func65, Tryd.ntmps65
  go_wp2_with fail
  go_ret
  exact ⟨rfl, rfl⟩

end Go.Proofs.YtohaapnkipiocaaDoor
