/- strconv.Itoa and the reference's dec: the same digits. Conditions: a number from 0 to 65535; the library's table reads as it is laid. -/
import Derived.Test.YtklbbjionoeofaaGreatDoorLiftD
import Derived.Test.YtklbbjionoeofaaGreatDoorShelf
import Derived.Test.YtklbbjionoeofaaGreatDoorGb
import Derived.Laws.IdiomStrings
namespace Go.Proofs.YtklbbjionoeofaaGreatDoor
open Go.RowKit

theorem itoa_any (n : Int) (w : World) (h0 : 0 ≤ n) (h1 : n ≤ 65535) (hT : Tab w) : Calls Tryz.prog 83 #[.int .i64 n] w fun x w' => x = .returned (.string (bytesOf (dec n))) ∧ Below w.heap.size w w' := by
  refine (Tryz.strconv_Itoa n (by omega) (by omega) w hT).mono ?_
  rintro x w' ⟨rfl, k, os, rfl⟩
  refine ⟨?_, Lib.below_grow _ _ (Nat.le_refl _) _ _⟩
  rw [Lib.itoa, if_neg (by omega)]
  rfl
theorem decDigits_small {n : Nat} (h : n < 10) : Lib.decDigits n = [UInt8.ofNat (48 + n)] := by rw [Lib.decDigits, dif_pos h]
theorem decDigits_big {n : Nat} (h : ¬ n < 10) : Lib.decDigits n = Lib.decDigits (n / 10) ++ Lib.decDigits (n % 10) := by
  rw [Lib.decDigits, dif_neg h, decDigits_small (n := n % 10) (by omega)]
theorem decDigits_len (n : Nat) : (Lib.decDigits n).length ≤ n + 1 := by
  induction n using Nat.strongRecOn with
  | _ n ih =>
    rw [Lib.decDigits]
    split
    · simp
    · rename_i h
      have := ih (n / 10) (by omega)
      simp
      omega
theorem dec_size {n : Int} (h0 : 0 ≤ n) (h1 : n ≤ 65535) : (bytesOf (dec n)).size ≤ 65536 := by rw [bytesOf_size]; have := decDigits_len n.toNat; simp only [dec]; omega
theorem refDec_small (n : Nat) (hn : n < 10) (w : World) : Calls Tryz.prog 74 #[.int .i64 n] w fun x w' => x = .returned (.string (bytesOf (Lib.decDigits n))) ∧ Below w.heap.size w w' := by
  have hw1 : IntKind.i64.wrap (48 + (n : Int)) = 48 + n := by rw [IntKind.wrap_i64]; omega
  have hw2 : IntKind.u8.wrap (48 + (n : Int)) = 48 + n := by rw [IntKind.wrap_u8]; omega
  have hlt : ((n : Int) < 10) := by omega
  have hc : ∀ W : World, W.cell? ⟨w.heap.size, 0, none⟩ = some (.int .u8 (48 + (n : Int))) → (convert 130 9 (.slice (some ⟨w.heap.size, 0, none⟩) 1 1)).run Tryz.prog W = .ok (.string (bytesOf (Lib.decDigits n))) W := fun W h => by
    rw [decDigits_small hn]
    refine run_convert_bytes_back (P := Tryz.prog) W 130 9 5 ⟨w.heap.size, 0, none⟩ 1 [UInt8.ofNat (48 + n)] Tryz.underlying130 Tryz.underlying5 Tryz.underlying9 (fun j hj => ?_)
    obtain rfl : j = 0 := by simp at hj; omega
    rw [add_plain]
    simp only [List.getElem_cons_zero, dig_ofNat n hn]
    rw [Nat.zero_add, h]
    simp
  go_enter Tryz.func74, Tryz.ntmps74
  go_wp2_with fail
  go_ret
  exact ⟨rfl, by go_grown⟩
theorem refDec (n : Nat) : ∀ (w : World), n ≤ 65535 → Calls Tryz.prog 74 #[.int .i64 n] w fun x w' => x = .returned (.string (bytesOf (Lib.decDigits n))) ∧ Below w.heap.size w w' := by
  induction n using Nat.strongRecOn with
  | _ n ih =>
    intro w hn
    by_cases h : n < 10
    · exact refDec_small n h w
    · have h1 := ih (n / 10) (by omega)
      have hlt : ¬ ((n : Int) < 10) := by omega
      have e1 : IntKind.i64.wrap ((n : Int) / 10) = ((n / 10 : Nat) : Int) := by rw [IntKind.wrap_i64]; omega
      have e2 : IntKind.i64.wrap ((n : Int) % 10) = ((n % 10 : Nat) : Int) := by rw [IntKind.wrap_i64]; omega
      have HD := hid (decDigits_big h)
      have l1 : (bytesOf (Lib.decDigits (n / 10))).size ≤ 65536 := by rw [bytesOf_size]; have := decDigits_len (n / 10); omega
      have l2 : (bytesOf (Lib.decDigits (n % 10))).size ≤ 65536 := by rw [bytesOf_size]; have := decDigits_len (n % 10); omega
      clear ih h
      go_enter Tryz.func74, Tryz.ntmps74
      go_wp2_with fail
      refine (h1 _ (by omega)).mono ?_
      rintro x w1 ⟨rfl, hb1⟩
      dsimp only
      go_wp2_with fail
      refine (refDec_small (n % 10) (by omega) _).mono ?_
      rintro x w2 ⟨rfl, hb2⟩
      dsimp only
      go_wp2_with fail
      go_ret
      exact ⟨by rw [HD.out, bytesOf_append]; rfl, hb1.trans (hb2.mono hb1.size)⟩

end Go.Proofs.YtklbbjionoeofaaGreatDoor
