/- epc.enclave, epc.Check's closures, ref.regsMay, walked. No condition. -/
import Derived.Test.YtlbjdjjdafnemaaPlace
namespace Go.Proofs.Ytlbjdjjdafnemaa
open Go.RowKit

def zeroRegs (x : EnclD) : Bool := x.r0 == 0 && (x.r1 == 0 && (x.r2 == 0 && x.r3 == 0))
def wordRegs (x : EnclD) : Bool := !([x.r0, x.r1, x.r2, x.r3].any fun n => !inR n 0 65535)
def enclB (x : EnclD) : Bool := inR x.state 0 4 && !longB' x.log && !(x.state == 0 && !x.log.toList.isEmpty) && (if x.state = 3 then inR x.pc 0 65535 && wordRegs x else x.pc == 0 && zeroRegs x)
where longB' (s : ByteArray) : Bool := decide (1000 < s.size)

theorem eqlArr4 (a0 a1 a2 a3 b0 b1 b2 b3 : Int) (w : World) : (binOp .eql 41 (.agg #[.int .i64 a0, .int .i64 a1, .int .i64 a2, .int .i64 a3]) (.agg #[.int .i64 b0, .int .i64 b1, .int .i64 b2, .int .i64 b3])).run Try.prog w = .ok (.bool (a0 == b0 && (a1 == b1 && (a2 == b2 && a3 == b3)))) w := by
  rw [run_eql_struct, show (10000 : Nat) = 9998 + 2 from rfl, eqArr4]
  rfl
theorem encl1_any (n : Int) (w : World) : Calls Try.prog 38 #[.int .i64 n] w fun e w' => e = .returned (.bool (!inR n 0 65535)) ∧ w = w' := by
  by_cases h1 : n < 0
  all_goals by_cases h2 : 65535 < n
  all_goals
    go_enter Try.func38, Try.ntmps38
    go_wp2
    all_goals
      go_ret
      refine ⟨?_, rfl⟩
      simp [inR]; omega
theorem enters_encl1 : ∀ args w, (callFunc 38 args).run Try.prog w = .ok (.enter 38 args) w := enters_of Try.func38 (by kernel_rfl) rfl

set_option maxRecDepth 10000 in
set_option maxHeartbeats 1600000 in
theorem epcEnclave (x : EnclD) (w : World) : Calls Try.prog 24 #[.agg #[.int .i64 x.state, .string x.log, .int .i64 x.pc, .int .i64 x.r0, .int .i64 x.r1, .int .i64 x.r2, .int .i64 x.r3]] w fun e w' => e = .returned (.bool (enclB x)) ∧ Below w.heap.size w w' := by
  have B0 : ∀ X, Below w.heap.size w (w.alloc X) := fun X => by go_grown
  by_cases h1 : x.state < 0
  · have HF : Hid (enclB x = false) := by show enclB x = false; simp [enclB, inR]; omega
    go_enter Try.func24, Try.ntmps24
    go_wp2_with fail
    go_ret
    exact ⟨by rw [HF.out]; rfl, B0 _⟩
  by_cases h2 : 4 < x.state
  · have HF : Hid (enclB x = false) := by show enclB x = false; simp [enclB, inR]; omega
    go_enter Try.func24, Try.ntmps24
    go_wp2_with fail
    go_ret
    exact ⟨by rw [HF.out]; rfl, B0 _⟩
  by_cases h3 : 1000 < x.log.size
  · have HF : Hid (enclB x = false) := by show enclB x = false; simp [enclB, enclB.longB', h3]
    go_enter Try.func24, Try.ntmps24
    go_wp2_with fail
    go_ret
    exact ⟨by rw [HF.out]; rfl, B0 _⟩
  by_cases h4 : x.state = 0 ∧ ¬ x.log.toList = []
  · obtain ⟨h4a, h4b⟩ := h4
    have HF : Hid (enclB x = false) := by show enclB x = false; simp [enclB, h4a, h4b]
    have h4c : (x.state == 0) = true := by rw [beq_iff_eq]; exact h4a
    have h4d : x.log.toList.isEmpty = false := by rw [List.isEmpty_eq_false_iff]; exact h4b
    clear h4a h4b
    go_enter Try.func24, Try.ntmps24
    go_wp2_with fail
    go_ret
    exact ⟨by rw [HF.out]; rfl, B0 _⟩
  have h3b : decide ((1000 : Int) < (x.log.size : Int)) = false := by rw [decide_eq_false_iff_not]; omega
  have HE : Hid (enclB x = if x.state = 3 then inR x.pc 0 65535 && wordRegs x else x.pc == 0 && zeroRegs x) := by
    show enclB x = _
    have e1 : inR x.state 0 4 = true := by simp [inR]; omega
    have e2 : (x.state == 0 && !x.log.toList.isEmpty) = false := by
      by_cases hs : x.state = 0
      · have : x.log.toList = [] := by simpa [hs] using h4
        simp [this]
      · simp [hs]
    unfold enclB
    rw [e1, e2]
    simp [enclB.longB', h3]
  have hT : ((x.state == 0) = false) ∨ ((x.state == 0) = true ∧ x.log.toList = [] ∧ x.log.toList.isEmpty = true) := by
    by_cases hs : x.state = 0
    · have : x.log.toList = [] := by simpa [hs] using h4
      exact .inr ⟨by simp [hs], this, by simp [this]⟩
    · exact .inl (by simp [hs])
  have h43 : Hid (¬(x.state = 0 ∧ ¬x.log.toList = [])) := h4
  clear h4
  have HQ := hid (eqlArr4 x.r0 x.r1 x.r2 x.r3 0 0 0 0)
  by_cases h5 : x.state = 3
  · have h5a : (x.state == 3) = true := by rw [beq_iff_eq]; exact h5
    have h5b : (x.state == 0) = false := by rw [beq_eq_false_iff_ne]; omega
    have h5c : (x.state != 3) = false := by simp [h5]
    rw [if_pos h5] at HE
    clear h5 hT
    by_cases h6 : x.pc < 0
    · have HF : Hid (enclB x = false) := by show enclB x = false; rw [HE.out]; simp [inR]; omega
      go_enter Try.func24, Try.ntmps24
      go_wp2_with fail
      go_ret
      exact ⟨by rw [HF.out]; rfl, B0 _⟩
    by_cases h7 : 65535 < x.pc
    · have HF : Hid (enclB x = false) := by show enclB x = false; rw [HE.out]; simp [inR]; omega
      go_enter Try.func24, Try.ntmps24
      go_wp2_with fail
      go_ret
      exact ⟨by rw [HF.out]; rfl, B0 _⟩
    have HF : Hid (enclB x = wordRegs x) := by
      show enclB x = _
      rw [HE.out, show inR x.pc 0 65535 = true by simp [inR]; omega]
      rfl
    clear HE
    go_enter Try.func24, Try.ntmps24
    go_wp2_with fail
    refine (containsFuncInts 38 #[] (some ⟨w.heap.size, 3, none⟩) [x.r0, x.r1, x.r2, x.r3] 4 4 (fun n => !inR n 0 65535) _ (by omega) rfl enters_encl1 ?_ (fun i y _ W hW => (encl1_any y W).mono fun e w' ⟨he, hw⟩ => ⟨he, hw ▸ Below.refl _ _⟩)).mono ?_
    · intro i y hy
      refine ⟨w.heap.size, 3, rfl, ?_⟩
      match i, hy with
      | 0, hy => cases hy; go_simp
      | 1, hy => cases hy; go_simp
      | 2, hy => cases hy; go_simp
      | 3, hy => cases hy; go_simp
    rintro e w1 ⟨rfl, hb1⟩
    have HF' : Hid (enclB x = !([x.r0, x.r1, x.r2, x.r3].any fun n => !inR n 0 65535)) := HF
    clear HF
    generalize ([x.r0, x.r1, x.r2, x.r3].any fun n => !inR n 0 65535) = r at HF' ⊢
    go_wp2_with fail
    go_ret
    exact ⟨by rw [HF'.out]; rfl, (B0 _).trans (hb1.mono (by go_size))⟩
  · have h5c : (x.state != 3) = true := by simp [h5]
    have h5a : (x.state == 3) = false := by simp [h5]
    rw [if_neg h5] at HE
    clear h5
    by_cases h6 : x.pc = 0
    · have h6a : (x.pc == 0) = true := by simp [h6]
      have HF : Hid (enclB x = (x.r0 == 0 && (x.r1 == 0 && (x.r2 == 0 && x.r3 == 0)))) := by
        show enclB x = _
        rw [HE.out, h6a]
        rfl
      clear HE h6
      have hq := HQ.out
      rcases hT with hT | ⟨hT, hT1, hT2⟩
      all_goals
        generalize (x.r0 == 0 && (x.r1 == 0 && (x.r2 == 0 && x.r3 == 0))) = r at HF hq
        go_enter Try.func24, Try.ntmps24
        go_wp2_with fail
        go_ret
        exact ⟨by rw [HF.out]; rfl, B0 _⟩
    · have h6a : (x.pc == 0) = false := by simp [h6]
      have HF : Hid (enclB x = false) := by
        show enclB x = _
        rw [HE.out, h6a]
        rfl
      clear HE h6
      rcases hT with hT | ⟨hT, hT1, hT2⟩
      all_goals
        go_enter Try.func24, Try.ntmps24
        go_wp2_with fail
        go_ret
        exact ⟨by rw [HF.out]; rfl, B0 _⟩

end Go.Proofs.Ytlbjdjjdafnemaa
