/- trust.Check and its reference, walked. Conditions: those that each contract writes. -/
import Derived.Test.YtohaapnkipiocaaDoorImageCopy
namespace Go.Proofs.YtohaapnkipiocaaDoor
open Go.RowKit

def longB (s : ByteArray) : Bool := decide (1000 < s.size)
theorem trustCheck1 (s : ByteArray) (w : World) : Calls Tryd.prog 91 #[.string s] w fun e w' => e = .returned (.bool (longB s)) ∧ w = w' := by
  by_cases h1 : 1000 < s.size
  all_goals
    go_enter Tryd.func91, Tryd.ntmps91
    go_wp2
    go_ret
    exact ⟨by simp [longB]; omega, rfl⟩
theorem trustCheck2 (n : Int) (w : World) : Calls Tryd.prog 93 #[.int .i64 n] w fun e w' => e = .returned (.bool (!inR n 0 1)) ∧ w = w' := by
  by_cases h1 : n < 0
  all_goals by_cases h2 : 1 < n
  all_goals
    go_enter Tryd.func93, Tryd.ntmps93
    go_wp2
    all_goals
      go_ret
      refine ⟨?_, rfl⟩
      simp [inR]; omega
theorem enters_tc1 : ∀ args w, (callFunc 91 args).run Tryd.prog w = .ok (.enter 91 args) w := enters_of Tryd.func91 (by kernel_rfl) rfl
theorem enters_tc2 : ∀ args w, (callFunc 93 args).run Tryd.prog w = .ok (.enter 93 args) w := enters_of Tryd.func93 (by kernel_rfl) rfl

def chalF (C : ChalD) : Int := if decide (4 < C.trusts.length) || decide (20 < C.nonces.length) then 1 else if C.trusts.any longB || C.nonces.any (fun n => !inR n 0 1) then 8 else 0

set_option maxRecDepth 10000 in
set_option maxHeartbeats 800000 in
theorem trustCheck (v : Value) (C : ChalD) (w : World) (hv : ChalAt w v C) (hf : C.Fits) : Calls Tryd.prog 47 #[v] w fun e w' => e = .returned (.int .i64 (chalF C)) ∧ Below w.heap.size w w' := by
  obtain ⟨ta, tc, na, nc, rfl, ht, hn⟩ := hv
  obtain ⟨hft, hfn⟩ := hf
  have HT := hid ht
  have HN := hid hn
  clear ht hn
  have B0 : ∀ X, Below w.heap.size w (w.alloc X) := fun X => by go_grown
  by_cases h1 : 4 < C.trusts.length
  · have HF : Hid (chalF C = 1) := by show chalF C = 1; simp [chalF, h1]
    go_enter Tryd.func47, Tryd.ntmps47
    go_wp2_with fail
    go_ret
    exact ⟨by rw [HF.out]; rfl, B0 _⟩
  by_cases h2 : 20 < C.nonces.length
  · have HF : Hid (chalF C = 1) := by show chalF C = 1; simp [chalF, h2]
    go_enter Tryd.func47, Tryd.ntmps47
    go_wp2_with fail
    go_ret
    exact ⟨by rw [HF.out]; rfl, B0 _⟩
  have HF : Hid (chalF C = if C.trusts.any longB || C.nonces.any (fun n => !inR n 0 1) then 8 else 0) := by show chalF C = _; simp [chalF, h1, h2]
  go_enter Tryd.func47, Tryd.ntmps47
  go_wp2_with fail
  refine (containsFuncStrs 91 #[] ta C.trusts C.trusts.length tc longB _ (by omega) rfl enters_tc1 (HT.out.mono (B0 _)) (fun i x _ W hW => (trustCheck1 x W).mono fun e w' ⟨he, hw⟩ => ⟨he, hw ▸ Below.refl _ _⟩)).mono ?_
  rintro e w1 ⟨rfl, hb1⟩
  have p1 : w1.cell? ⟨w.heap.size, 1, none⟩ = some (.slice na C.nonces.length nc) := by rw [(bcell hb1).1 _ _ (by go_size)]; simp [go_sem]
  have B1 : Below w.heap.size w w1 := (B0 _).trans (hb1.mono (by go_size))
  clear hb1
  cases hr1 : C.trusts.any longB with
  | true =>
    rw [hr1] at HF
    clear hr1
    go_wp2_with fail
    go_ret
    exact ⟨by rw [HF.out]; rfl, B1⟩
  | false =>
    rw [hr1] at HF
    clear hr1
    go_wp2_with fail
    refine (containsFuncInts 93 #[] na C.nonces C.nonces.length nc (fun n => !inR n 0 1) _ (by omega) rfl enters_tc2 (HN.out.mono B1) (fun i x _ W hW => (trustCheck2 x W).mono fun e w' ⟨he, hw⟩ => ⟨he, hw ▸ Below.refl _ _⟩)).mono ?_
    rintro e w2 ⟨rfl, hb2⟩
    generalize (C.nonces.any fun n => !inR n 0 1) = r at HF ⊢
    cases r
    all_goals
      go_wp2_with fail
      go_ret
      exact ⟨by rw [HF.out]; rfl, B1.trans (hb2.mono B1.size)⟩

end Go.Proofs.YtohaapnkipiocaaDoor
