/- trust.Ask answers as the reference does, for every challenger: the law returns true, its argument reads as it did. No condition beyond the form's reach. -/
import Derived.Test.YtaknndkaeelkbaaOpens
import Derived.Test.YtaknndkaeelkbaaAsk
namespace Go.Proofs.Ytaknndkaeelkbaa
open Go.ChangeShapes Go.WideShapes Go.ChangeAt Go.RowKit

theorem trustAsk (v : Value) (C : ChalD) (w : World) (hv : ChalAt w v C) (hf : C.Fits) : Calls Try.prog 43 #[v] w (Chal3 w.heap.size (askD C) w) := by
  by_cases h0 : chalF C = 0
  · by_cases h20 : C.nonces.length = 20
    · exact trustAsk_no v C w hv hf (.inr h20)
    · exact trustAsk_ok v C w hv hf h0 h20
  · exact trustAsk_no v C w hv hf (.inl h0)
theorem refAsked (v : Value) (C : ChalD) (w : World) (hv : ChalAt w v C) (hf : C.Fits) : Calls Try.prog 44 #[v] w (Chal3 w.heap.size (askD C) w) := by
  by_cases h0 : chalF C = 0
  · by_cases h20 : C.nonces.length = 20
    · exact refAsked_no v C w hv hf (.inr h20)
    · exact refAsked_ok v C w hv hf h0 h20
  · exact refAsked_no v C w hv hf (.inl h0)
theorem askD_fits {C : ChalD} (hf : C.Fits) : (askD C).1.Fits := by
  unfold askD
  by_cases h0 : chalF C = 0
  · have := chalF_le h0
    by_cases h20 : C.nonces.length = 20
    · rw [if_neg (by simpa using h0), if_pos h20]
      exact ⟨by simp [chal0], by simp [chal0]⟩
    · rw [if_neg (by simpa using h0), if_neg h20]
      exact ⟨hf.t, by simp; omega⟩
  · rw [if_pos h0]
    exact ⟨by simp [chal0], by simp [chal0]⟩

set_option maxRecDepth 10000 in
set_option maxHeartbeats 1600000 in
theorem trustAsks_calls (v : Value) (C : ChalD) (w : World) (hf : C.Fits) (hv : ChalAt w v C) : Calls Try.prog 12 #[v] w fun e w' => e = .returned (.bool true) ∧ Below w.heap.size w w' := by
  have hv' := hv
  obtain ⟨ta, tc, na, nc, rfl, ht, hn⟩ := hv'
  have HV := hid hv
  clear hv ht hn
  have B0 : ∀ X, Below w.heap.size w (w.alloc X) := fun X => by go_grown
  go_enter Try.func12, Try.ntmps12
  go_wp2_with fail
  refine (refChalCopy _ C _ (HV.out.mono (B0 _)) hf).mono ?_
  rintro e w1 ⟨v1, rfl, ho, hb1⟩
  have hA1 := ho.at
  obtain ⟨ta1, tc1, na1, nc1, rfl, _, _⟩ := ho.at
  have HA1 := hid hA1
  have p0 : w1.cell? ⟨w.heap.size, 0, none⟩ = some (.slice ta C.trusts.length tc) := by rw [(bcell hb1).1 _ _ (by go_size)]; simp [go_sem]
  have p1 : w1.cell? ⟨w.heap.size, 1, none⟩ = some (.slice na C.nonces.length nc) := by rw [(bcell hb1).1 _ _ (by go_size)]; simp [go_sem]
  have z1 : w.heap.size < w1.heap.size := by have := hb1.size; simp at this; omega
  have B1 : Below w.heap.size w w1 := (B0 _).trans (hb1.mono (by go_size))
  clear hb1 ho hA1
  go_wp2_with fail
  refine (trustAsk _ C _ (HA1.out.mono (by go_grown)) hf).mono ?_
  rintro e w2 ⟨v2, rfl, ha2, hb2⟩
  have hA2 := ha2
  obtain ⟨ta2, tc2, na2, nc2, rfl, _, _⟩ := ha2
  have HA2 := hid hA2
  have k0 : w2.cell? ⟨w1.heap.size, 0, none⟩ = some (.slice ta1 C.trusts.length tc1) := by rw [(bcell hb2).1 _ _ (by go_size)]; simp [go_sem]
  have k1 : w2.cell? ⟨w1.heap.size, 1, none⟩ = some (.slice na1 C.nonces.length nc1) := by rw [(bcell hb2).1 _ _ (by go_size)]; simp [go_sem]
  have B12 : Below w1.heap.size w1 w2 := Below.trans (by go_grown) (hb2.mono (by go_size))
  have q0 := cell_later B12 p0
  have q1 := cell_later B12 p1
  have z2 : w1.heap.size < w2.heap.size := by have := hb2.size; simp at this; omega
  have B2 : Below w.heap.size w w2 := B1.trans (B12.mono (by omega))
  clear hb2 hA2 p0 p1
  have z3 : w.heap.size < w2.heap.size := by omega
  go_wp2_with fail
  refine (refAsked _ C _ (HV.out.mono (B2.trans (by go_grown))) hf).mono ?_
  rintro e w3 ⟨v3, rfl, ha3, hb3⟩
  have hA3 := ha3
  obtain ⟨ta3, tc3, na3, nc3, rfl, _, _⟩ := ha3
  have HA3 := hid hA3
  have a0 : w3.cell? ⟨w2.heap.size, 0, none⟩ = some (.slice ta2 (askD C).1.trusts.length tc2) := by rw [(bcell hb3).1 _ _ (by go_size)]; simp [go_sem]
  have a1 : w3.cell? ⟨w2.heap.size, 1, none⟩ = some (.slice na2 (askD C).1.nonces.length nc2) := by rw [(bcell hb3).1 _ _ (by go_size)]; simp [go_sem]
  have B23 : Below w2.heap.size w2 w3 := Below.trans (by go_grown) (hb3.mono (by go_size))
  have r0 := cell_later B23 q0
  have r1 := cell_later B23 q1
  have s0 := cell_later B23 k0
  have s1 := cell_later B23 k1
  have z4 : w2.heap.size < w3.heap.size := by have := hb3.size; simp at this; omega
  have z5 : w1.heap.size < w3.heap.size := by omega
  have z6 : w.heap.size < w3.heap.size := by omega
  have B3 : Below w.heap.size w w3 := B2.trans (B23.mono (by omega))
  have HB13 := hid (B12.trans (B23.mono (by omega)))
  have HB23 := hid B23
  clear hb3 hA3 q0 q1 k0 k1 B12 B23
  have hff := askD_fits hf
  have HC0 := HA1.out
  generalize askD C = R at *
  go_wp2_with fail
  refine (sameChallenger _ _ R.1 _ hff (HA2.out.mono (HB23.out.trans ((below_alloc _ _).mono HB23.out.size))) (HA3.out.mono (below_alloc _ _))).mono ?_
  rintro e w4 ⟨rfl, hb4⟩
  have B34 : Below w3.heap.size w3 w4 := (below_alloc _ _).trans (hb4.mono (by go_size))
  have t0 := cell_later B34 r0
  have t1 := cell_later B34 r1
  have u0 := cell_later B34 s0
  have u1 := cell_later B34 s1
  have HB4 : Below w1.heap.size w1 w4 := HB13.out.trans (B34.mono (by omega))
  have B4 : Below w.heap.size w w4 := B3.trans (B34.mono (by omega))
  clear hb4 B34 r0 r1 s0 s1
  go_wp2_with fail
  refine (sameChallenger _ _ C _ hf (HA1.out.mono HB4) (HV.out.mono B4)).mono ?_
  rintro e w5 ⟨rfl, hb5⟩
  go_wp2_with fail
  go_ret
  exact ⟨rfl, B4.trans (hb5.mono B4.size)⟩
set_option maxRecDepth 100000 in
theorem trustAsks_args {H : Type} {enc : TypeId × Value → H} (W : World) (b0 : Nat) (args : Array Value) (hs : args.size = (Try.f12).params.size)
    (ha : ∀ (j : Nat) t v, (Try.f12).params[j]? = some t → args[j]? = some v → Value.okWide Try.prog W .any b0 t v ∧ Rd enc Try.prog W t v.cells.toList) :
    Calls Try.prog 12 args W fun e w' => e = .returned (.bool true) ∧ Below W.heap.size W w' := by
  obtain ⟨l⟩ := args
  match l, hs with
  | [v], _ =>
    obtain ⟨C, hC, hf, _⟩ := rd_chal (ha 0 _ v rfl rfl).1 (ha 0 _ v rfl rfl).2
    exact trustAsks_calls v C W hf hC

set_option maxRecDepth 100000 in
theorem trustAsks_lifted (os : Os) (started : os.Started) (H : Type) (enc : TypeId × Value → H) :
    ReturnsInHanded {} Try.checked os 12 .any (Rows.trustAsksSpec.pre6 enc Try.prog Try.f12 Rows.trustAsksRow.domain false) (Rows.trustAsksSpec.post enc Try.prog Try.f12 false true false false) :=
  returnsInHanded_of_change_sized (C := Try.checked) own started (by kernel_rfl) Try.func12
    (ChangeSpec.witness6 (enc := enc) (C := Try.checked) false ⟨#[], #[.agg #[.slice none 0 0, .slice none 0 0]], []⟩ 8 (by kernel_rfl) (by kernel_rfl) (by kernel_rfl) (by kernel_rfl))
    fun W base args ds gs before hval hW _ hsz _ => law_contract laidOut (by kernel_rfl) rfl Try.underlying4 rfl (fun ds h => by
      match ds, h with
      | [_], _ => exact ⟨rfl, rfl, rfl⟩) hval hW hsz fun hs ha => trustAsks_args W base args hs ha

theorem trustAsks_holds : Rows.TrustAsksSaid :=
  OpenClaim.holds_of_wide 12 Try.f12 rfl rfl rfl rfl rfl rfl rfl ⟨rfl, rfl, rfl, rfl, rfl⟩ rfl rfl rfl rfl rfl (by kernel_rfl) Try.func12 (by kernel_rfl)
    (of_decide_eq_true (by kernel_rfl)) (by unfold Func.isWrapper; first | (rw [if_pos (by decide +kernel)]; kernel_rfl) | (rw [if_neg (by decide +kernel)]; exact ⟨rfl, rfl⟩))
    (fun os started H enc _ => trustAsks_lifted os started H enc)


end Go.Proofs.Ytaknndkaeelkbaa
