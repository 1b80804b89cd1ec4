/- TrustCopies: trust.Copy answers the same challenger: the law returns true for every challenger; its argument reads as it did. No condition beyond the form's reach. -/
import Derived.Test.YtaknndkaeelkbaaOpens
import Derived.Test.YtaknndkaeelkbaaSame
namespace Go.Proofs.Ytaknndkaeelkbaa
open Go.ChangeShapes Go.WideShapes Go.ChangeAt Go.RowKit

theorem trustCopies_calls (v : Value) (C : ChalD) (w : World) (hf : C.Fits) (hv : ChalAt w v C) : Calls Try.prog 5 #[v] w fun e w' => e = .returned (.bool true) ∧ Below w.heap.size w w' := by
  have hv' := hv
  obtain ⟨ta, tc, na, nc, rfl, ht, hn⟩ := hv'
  have HV := hid hv
  clear hv ht hn
  go_enter Try.func5, Try.ntmps5
  go_wp2_with fail
  have B0 : ∀ X, Below w.heap.size w (w.alloc X) := fun X => by go_grown
  refine (trustCopy _ C _ (HV.out.mono (B0 _)) hf).mono ?_
  rintro e w1 ⟨v1, rfl, ho, hb1⟩
  have hA1 := ho.at
  obtain ⟨ta1, tc1, na1, nc1, rfl, _, _⟩ := ho.at
  have HO := hid hA1
  have hB1 : Below w.heap.size w w1 := Below.trans (B0 _) (hb1.mono (by go_size))
  have p0 : w1.cell? ⟨w.heap.size, 0, none⟩ = some (.slice ta C.trusts.length tc) := by rw [(bcell hb1).1 _ _ (by go_size)]; simp [go_sem]
  have p1 : w1.cell? ⟨w.heap.size, 1, none⟩ = some (.slice na C.nonces.length nc) := by rw [(bcell hb1).1 _ _ (by go_size)]; simp [go_sem]
  have z1 : w.heap.size < w1.heap.size := by have := hb1.size; simp at this; omega
  clear hb1 ho hA1
  go_wp2_with fail
  refine (sameChallenger _ _ C _ hf (HO.out.mono (by go_grown)) (HV.out.mono (hB1.trans (by go_grown)))).mono ?_
  rintro e w2 ⟨rfl, hb2⟩
  go_wp2_with fail
  go_ret
  exact ⟨rfl, hB1.trans (Below.trans (by go_grown) (hb2.mono (by go_size)))⟩

set_option maxRecDepth 100000 in
theorem trustCopies_args {H : Type} {enc : TypeId × Value → H} (W : World) (b0 : Nat) (args : Array Value) (hs : args.size = (Try.f5).params.size)
    (ha : ∀ (j : Nat) t v, (Try.f5).params[j]? = some t → args[j]? = some v → Value.okWide Try.prog W .any b0 t v ∧ Rd enc Try.prog W t v.cells.toList) :
    Calls Try.prog 5 args W fun e w' => e = .returned (.bool true) ∧ Below W.heap.size W w' := by
  obtain ⟨l⟩ := args
  match l, hs with
  | [v], _ =>
    obtain ⟨C, hC, hf, _⟩ := rd_chal (ha 0 _ v rfl rfl).1 (ha 0 _ v rfl rfl).2
    exact trustCopies_calls v C W hf hC

set_option maxRecDepth 100000 in
theorem trustCopies_lifted (os : Os) (started : os.Started) (H : Type) (enc : TypeId × Value → H) :
    ReturnsInHanded {} Try.checked os 5 .any (Rows.trustCopiesSpec.pre6 enc Try.prog Try.f5 Rows.trustCopiesRow.domain false) (Rows.trustCopiesSpec.post enc Try.prog Try.f5 false true false false) :=
  returnsInHanded_of_change_sized (C := Try.checked) own started (by kernel_rfl) Try.func5
    (ChangeSpec.witness6 (enc := enc) (C := Try.checked) false ⟨#[], #[.agg #[.slice none 0 0, .slice none 0 0]], []⟩ 8 (by kernel_rfl) (by kernel_rfl) (by kernel_rfl) (by kernel_rfl))
    fun W base args ds gs before hval hW _ hsz _ => law_contract laidOut (by kernel_rfl) rfl Try.underlying4 rfl (fun ds h => by
      match ds, h with
      | [_], _ => exact ⟨rfl, rfl, rfl⟩) hval hW hsz fun hs ha => trustCopies_args W base args hs ha

theorem trustCopies_holds : Rows.TrustCopiesSaid :=
  OpenClaim.holds_of_wide 5 Try.f5 rfl rfl rfl rfl rfl rfl rfl ⟨rfl, rfl, rfl, rfl, rfl⟩ rfl rfl rfl rfl rfl (by kernel_rfl) Try.func5 (by kernel_rfl)
    (of_decide_eq_true (by kernel_rfl)) (by unfold Func.isWrapper; first | (rw [if_pos (by decide +kernel)]; kernel_rfl) | (rw [if_neg (by decide +kernel)]; exact ⟨rfl, rfl⟩))
    (fun os started H enc _ => trustCopies_lifted os started H enc)


end Go.Proofs.Ytaknndkaeelkbaa
