/- trust.Ask and its reference at any challenger; what Ask and Look hand back fits. Conditions: those that each contract writes. -/
import Derived.Test.YtbamacddfonloaaDoorLook
namespace Go.Proofs.YtbamacddfonloaaDoor
open Go.RowKit

theorem trustAsk (v : Value) (C : ChalD) (w : World) (hv : ChalAt w v C) (hf : C.Fits) : Calls Tryd.prog 67 #[v] w (Chal3 w.heap.size (askD C) w) := by
  by_cases h0 : chalF C = 0
  · by_cases h20 : C.nonces.length = 20
    · exact trustAsk_no v C w hv hf (.inr h20)
    · exact trustAsk_ok v C w hv hf h0 h20
  · exact trustAsk_no v C w hv hf (.inl h0)
theorem askD_fits {C : ChalD} (hf : C.Fits) : (askD C).1.Fits := by
  unfold askD
  by_cases h0 : chalF C = 0
  · have := chalF_le h0
    by_cases h20 : C.nonces.length = 20
    · rw [if_neg (by simpa using h0), if_pos h20]
      exact ⟨by simp [chal0], by simp [chal0]⟩
    · rw [if_neg (by simpa using h0), if_neg h20]
      exact ⟨hf.t, by simp; omega⟩
  · rw [if_pos h0]
    exact ⟨by simp [chal0], by simp [chal0]⟩
theorem lookD_fits {C : ChalD} (hf : C.Fits) (L : List QuoteD) (q : QuoteD) : (lookD C L q).1.Fits := by
  unfold lookD
  split
  · exact ⟨by simp [chal0], by simp [chal0]⟩
  split
  · exact ⟨by simp [chal0], by simp [chal0]⟩
  split
  · exact ⟨by simp [chal0], by simp [chal0]⟩
  split
  · exact ⟨by simp [chal0], by simp [chal0]⟩
  split
  · exact ⟨by simp [chal0], by simp [chal0]⟩
  · exact ⟨hf.t, by simpa using hf.n⟩

end Go.Proofs.YtbamacddfonloaaDoor
