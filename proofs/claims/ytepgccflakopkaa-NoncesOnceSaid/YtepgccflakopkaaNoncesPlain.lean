/- Nonces and quotes of the law NoncesOnce, as plain data. No program is walked. -/
import Derived.Test.YtepgccflakopkaaLook
namespace Go.Proofs.Ytepgccflakopkaa
open Go.RowKit

def goodS : ByteArray := { data := #[103, 111, 111, 100] }
def badS : ByteArray := { data := #[98, 97, 100] }
def nonC (i : Nat) : ChalD := ⟨[goodS], List.replicate i 0⟩
def madeL (k m : Int) : List QuoteD := [⟨goodS, k⟩, ⟨badS, k⟩, ⟨goodS, m + 1⟩]
theorem nonC_fits {i : Nat} (h : i ≤ 20) : (nonC i).Fits := ⟨by simp [nonC], by simp [nonC]; omega⟩
theorem chalF_zero {C : ChalD} (h1 : C.trusts.length ≤ 4) (h2 : C.nonces.length ≤ 20) (h3 : C.trusts.any longB = false) (h4 : (C.nonces.any fun n => !inR n 0 1) = false) : chalF C = 0 := by
  have e1 : decide (4 < C.trusts.length) = false := by rw [decide_eq_false_iff_not]; omega
  have e2 : decide (20 < C.nonces.length) = false := by rw [decide_eq_false_iff_not]; omega
  rw [chalF, e1, e2, h3, h4]
  rfl
theorem nonC_ok {i : Nat} (h : i ≤ 20) : chalF (nonC i) = 0 :=
  chalF_zero (by simp [nonC]) (by simp [nonC]; omega) (show [goodS].any longB = false by decide) (by
    rw [List.any_eq_false]
    intro x hx
    obtain ⟨_, rfl⟩ := List.mem_replicate.1 hx
    decide)
theorem nonC_ask {i : Nat} (h : i < 20) : askD (nonC i) = (nonC (i + 1), (i : Int) + 1, 0) := by
  rw [askD, if_neg (by simp [nonC_ok (Nat.le_of_lt h)]), if_neg (by simp [nonC]; omega)]
  simp [nonC, List.replicate_succ']
def lookedC (m k : Nat) : ChalD := ⟨[goodS], (List.replicate m 0).set k 1⟩
theorem lookedC_ok {m k : Nat} (h : m ≤ 20) : chalF (lookedC m k) = 0 :=
  chalF_zero (by simp [lookedC]) (by simp [lookedC]; omega) (show [goodS].any longB = false by decide) (by
    rw [List.any_eq_false]
    intro x hx
    rcases List.mem_or_eq_of_mem_set hx with hx | rfl
    · obtain ⟨_, rfl⟩ := List.mem_replicate.1 hx
      decide
    · decide)
theorem lookedC_fits {m k : Nat} (h : m ≤ 20) : (lookedC m k).Fits := ⟨by simp [lookedC], by simp [lookedC]; omega⟩
theorem good_bad : sameS badS goodS = false := by decide +kernel
section
variable {m k : Nat} (hm : m ≤ 20) (h2 : k < m)
include hm h2
theorem non_1 : lookD (nonC m) (madeL ((k : Int) + 1) m) ⟨goodS, (k : Int) + 1⟩ = (lookedC m k, 0) := by
  have e : (List.replicate m (0 : Int))[k]? = some 0 := by rw [List.getElem?_replicate, if_pos h2]
  have e0 : ((k : Int) + 1 - 1).toNat = k := by omega
  have l0 : ¬ ((k : Int) + 1 < 1 ∨ ((nonC m).nonces.length : Int) < (k : Int) + 1) := by simp only [nonC, List.length_replicate]; omega
  rw [lookD, if_neg (by simp [nonC_ok hm]), if_neg (by simp [madeL, sameQ])]
  simp only
  rw [if_neg l0, e0, if_neg (by simp [nonC, e]), if_neg (by simp [nonC, sameS])]
  rfl
theorem non_2 : lookD (lookedC m k) (madeL ((k : Int) + 1) m) ⟨goodS, (k : Int) + 1⟩ = (chal0, 6) := by
  have e : ((List.replicate m (0 : Int)).set k 1)[k]? = some 1 := by rw [List.getElem?_set_self (by simp; omega)]
  have e0 : ((k : Int) + 1 - 1).toNat = k := by omega
  have l0 : ¬ ((k : Int) + 1 < 1 ∨ ((lookedC m k).nonces.length : Int) < (k : Int) + 1) := by simp only [lookedC, List.length_set, List.length_replicate]; omega
  rw [lookD, if_neg (by simp [lookedC_ok hm]), if_neg (by simp [madeL, sameQ])]
  simp only
  rw [if_neg l0, e0, if_pos (by simp only [lookedC, e]; decide)]
theorem non_3 : lookD (nonC m) (madeL ((k : Int) + 1) m) ⟨badS, (k : Int) + 1⟩ = (chal0, 11) := by
  have e : (List.replicate m (0 : Int))[k]? = some 0 := by rw [List.getElem?_replicate, if_pos h2]
  have e0 : ((k : Int) + 1 - 1).toNat = k := by omega
  have l0 : ¬ ((k : Int) + 1 < 1 ∨ ((nonC m).nonces.length : Int) < (k : Int) + 1) := by simp only [nonC, List.length_replicate]; omega
  rw [lookD, if_neg (by simp [nonC_ok hm]), if_neg (by simp [madeL, sameQ])]
  simp only
  rw [if_neg l0, e0, if_neg (by simp [nonC, e]), if_pos (by simp [nonC, good_bad])]
omit h2 in
theorem non_4 : lookD (nonC m) (madeL ((k : Int) + 1) m) ⟨goodS, (m : Int) + 1⟩ = (chal0, 5) := by
  have l0 : (m : Int) + 1 < 1 ∨ ((nonC m).nonces.length : Int) < (m : Int) + 1 := by simp only [nonC, List.length_replicate]; omega
  rw [lookD, if_neg (by simp [nonC_ok hm]), if_neg (by simp [madeL, sameQ])]
  simp only
  rw [if_pos l0]
omit h2 in
theorem non_5 : lookD (nonC m) [] ⟨goodS, (k : Int) + 1⟩ = (chal0, 4) := by
  rw [lookD, if_neg (by simp [nonC_ok hm])]
  rfl
omit hm in
theorem non_6 : (lookedC m k).nonces[k]? = some 1 := by
  simp only [lookedC]
  rw [List.getElem?_set_self (by simp; omega)]
end

end Go.Proofs.Ytepgccflakopkaa
