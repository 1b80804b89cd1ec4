/- ref.MachineFault, walked. Conditions: those that each contract writes. -/
import Derived.Test.YtbamacddfonloaaDoorGf
namespace Go.Proofs.YtbamacddfonloaaDoor
open Go.RowKit

theorem all_take {α : Type} {p : α → Bool} {l : List α} {i : Nat} {x : α} (hx : l[i]? = some x) : (l.take (i + 1)).all p = ((l.take i).all p && p x) := by
  rw [List.take_add_one, hx, List.all_append]
  simp
theorem any_take {α : Type} {p : α → Bool} {l : List α} {i : Nat} {x : α} (hx : l[i]? = some x) : (l.take (i + 1)).any p = ((l.take i).any p || p x) := by
  rw [List.take_add_one, hx, List.any_append]
  simp

end Go.Proofs.YtbamacddfonloaaDoor
