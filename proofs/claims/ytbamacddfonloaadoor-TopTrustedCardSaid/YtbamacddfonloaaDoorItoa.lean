/- strconv.Itoa and the reference's dec: the same digits. Conditions: a number from 0 to 65535; the library's table reads as it is laid. -/
import Derived.Test.YtbamacddfonloaaDoorLiftD
import Derived.Test.YtbamacddfonloaaDoorShelf
import Derived.Test.YtbamacddfonloaaDoorGb
import Derived.Laws.IdiomStrings
namespace Go.Proofs.YtbamacddfonloaaDoor
open Go.RowKit

theorem itoa_any (n : Int) (w : World) (h0 : 0 ≤ n) (h1 : n ≤ 65535) (hT : Tab w) : Calls Tryd.prog 83 #[.int .i64 n] w fun x w' => x = .returned (.string (bytesOf (dec n))) ∧ Below w.heap.size w w' := by
  refine (Tryd.strconv_Itoa n (by omega) (by omega) w hT).mono ?_
  rintro x w' ⟨rfl, k, os, rfl⟩
  refine ⟨?_, Lib.below_grow _ _ (Nat.le_refl _) _ _⟩
  rw [Lib.itoa, if_neg (by omega)]
  rfl
theorem decDigits_small {n : Nat} (h : n < 10) : Lib.decDigits n = [UInt8.ofNat (48 + n)] := by rw [Lib.decDigits, dif_pos h]
theorem decDigits_big {n : Nat} (h : ¬ n < 10) : Lib.decDigits n = Lib.decDigits (n / 10) ++ Lib.decDigits (n % 10) := by
  rw [Lib.decDigits, dif_neg h, decDigits_small (n := n % 10) (by omega)]
theorem decDigits_len (n : Nat) : (Lib.decDigits n).length ≤ n + 1 := by
  induction n using Nat.strongRecOn with
  | _ n ih =>
    rw [Lib.decDigits]
    split
    · simp
    · rename_i h
      have := ih (n / 10) (by omega)
      simp
      omega
theorem dec_size {n : Int} (h0 : 0 ≤ n) (h1 : n ≤ 65535) : (bytesOf (dec n)).size ≤ 65536 := by rw [bytesOf_size]; have := decDigits_len n.toNat; simp only [dec]; omega
end Go.Proofs.YtbamacddfonloaaDoor
