/- What a page put, or measured, leaves a machine is one that fits the form's reach. Plain laws. -/
import Derived.Test.YtehhhliiehhdjaaDoorPutLaws
namespace Go.Proofs.YtehhhliiehhdjaaDoor
open Go.RowKit

theorem putD_fits {M : MachD} (hf : M.Fits) (e f p r : Int) : (putD M e f p r).1.Fits := by
  unfold putD
  split
  · exact mach0_fits
  · refine fits_upd hf (upd_len _ _ _) (upd_len _ _ _) fun i x hx => ?_
    obtain ⟨y, hy, h | h⟩ := upd_get hx
    · rw [h]; exact hf.w i y hy
    · rw [h]; exact hf.w i y hy
theorem measD_fits {M : MachD} (hf : M.Fits) (e p : Int) : (measD M e p).1.Fits := by
  unfold measD
  split
  · exact mach0_fits
  · exact fits_upd hf rfl (upd_len _ _ _) hf.w

end Go.Proofs.YtehhhliiehhdjaaDoor
