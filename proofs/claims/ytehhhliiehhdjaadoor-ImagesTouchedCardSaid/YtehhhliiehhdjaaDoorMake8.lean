/- 'make([]int, 8)'. No condition. -/
import Derived.Test.YtehhhliiehhdjaaDoorClone
namespace Go.Proofs.YtehhhliiehhdjaaDoor
open Go.RowKit

def zero8 : Array Value := #[.int .i64 0, .int .i64 0, .int .i64 0, .int .i64 0, .int .i64 0, .int .i64 0, .int .i64 0, .int .i64 0]
theorem make8 (w : World) : (Instr.makeSlice 38 (.int .i64 8) (.int .i64 8)).run Tryd.prog w = .ok (.slice (some ⟨w.heap.size, 0, none⟩) 8 8) (w.alloc (.cells zero8 3)) := by
  obtain ⟨i0, hi0, hz0, hz1, hz2⟩ := info_parts infoInts
  have := run_make (P := Tryd.prog) w 38 3 i0 _ Tryd.underlying38 hi0 hz0 .i64 .i64 8 8 (by decide) (by decide) (by rw [hz2]; decide) (by decide)
  rw [hz1] at this
  have e : madeCells (Value.int IntKind.i64 0).cells ((8 : Int).toNat * 1) = zero8 := by kernel_rfl
  rw [e] at this
  exact this

end Go.Proofs.YtehhhliiehhdjaaDoor
