/- trust.Check answers as the reference does, for every challenger: the law returns true, its argument reads as it did. No condition beyond the form's reach. -/
import Derived.Test.YtaknndkaeelkbaaOpens
import Derived.Test.YtaknndkaeelkbaaTrust2
namespace Go.Proofs.Ytaknndkaeelkbaa
open Go.ChangeShapes Go.WideShapes Go.ChangeAt Go.RowKit

theorem trustChecks_calls (v : Value) (C : ChalD) (w : World) (hf : C.Fits) (hv : ChalAt w v C) : Calls Try.prog 9 #[v] w fun e w' => e = .returned (.bool true) ∧ Below w.heap.size w w' := by
  have hv' := hv
  obtain ⟨ta, tc, na, nc, rfl, ht, hn⟩ := hv'
  have HV := hid hv
  clear hv ht hn
  have B0 : ∀ X, Below w.heap.size w (w.alloc X) := fun X => by go_grown
  go_enter Try.func9, Try.ntmps9
  go_wp2_with fail
  refine (trustCheck _ C _ (HV.out.mono (B0 _)) hf).mono ?_
  rintro e w1 ⟨rfl, hb1⟩
  have p0 : w1.cell? ⟨w.heap.size, 0, none⟩ = some (.slice ta C.trusts.length tc) := by rw [(bcell hb1).1 _ _ (by go_size)]; simp [go_sem]
  have p1 : w1.cell? ⟨w.heap.size, 1, none⟩ = some (.slice na C.nonces.length nc) := by rw [(bcell hb1).1 _ _ (by go_size)]; simp [go_sem]
  have B1 : Below w.heap.size w w1 := (B0 _).trans (hb1.mono (by go_size))
  clear hb1
  go_wp2_with fail
  refine (refChalFault _ C _ (HV.out.mono B1) hf).mono ?_
  rintro e w2 ⟨rfl, hb2⟩
  generalize chalF C = r
  go_wp2_with fail
  go_ret
  exact ⟨by simp, B1.trans (hb2.mono B1.size)⟩
set_option maxRecDepth 100000 in
theorem trustChecks_args {H : Type} {enc : TypeId × Value → H} (W : World) (b0 : Nat) (args : Array Value) (hs : args.size = (Try.f9).params.size)
    (ha : ∀ (j : Nat) t v, (Try.f9).params[j]? = some t → args[j]? = some v → Value.okWide Try.prog W .any b0 t v ∧ Rd enc Try.prog W t v.cells.toList) :
    Calls Try.prog 9 args W fun e w' => e = .returned (.bool true) ∧ Below W.heap.size W w' := by
  obtain ⟨l⟩ := args
  match l, hs with
  | [v], _ =>
    obtain ⟨C, hC, hf, _⟩ := rd_chal (ha 0 _ v rfl rfl).1 (ha 0 _ v rfl rfl).2
    exact trustChecks_calls v C W hf hC

set_option maxRecDepth 100000 in
theorem trustChecks_lifted (os : Os) (started : os.Started) (H : Type) (enc : TypeId × Value → H) :
    ReturnsInHanded {} Try.checked os 9 .any (Rows.trustChecksSpec.pre6 enc Try.prog Try.f9 Rows.trustChecksRow.domain false) (Rows.trustChecksSpec.post enc Try.prog Try.f9 false true false false) :=
  returnsInHanded_of_change_sized (C := Try.checked) own started (by kernel_rfl) Try.func9
    (ChangeSpec.witness6 (enc := enc) (C := Try.checked) false ⟨#[], #[.agg #[.slice none 0 0, .slice none 0 0]], []⟩ 8 (by kernel_rfl) (by kernel_rfl) (by kernel_rfl) (by kernel_rfl))
    fun W base args ds gs before hval hW _ hsz _ => law_contract laidOut (by kernel_rfl) rfl Try.underlying4 rfl (fun ds h => by
      match ds, h with
      | [_], _ => exact ⟨rfl, rfl, rfl⟩) hval hW hsz fun hs ha => trustChecks_args W base args hs ha

theorem trustChecks_holds : Rows.TrustChecksSaid :=
  OpenClaim.holds_of_wide 9 Try.f9 rfl rfl rfl rfl rfl rfl rfl ⟨rfl, rfl, rfl, rfl, rfl⟩ rfl rfl rfl rfl rfl (by kernel_rfl) Try.func9 (by kernel_rfl)
    (of_decide_eq_true (by kernel_rfl)) (by unfold Func.isWrapper; first | (rw [if_pos (by decide +kernel)]; kernel_rfl) | (rw [if_neg (by decide +kernel)]; exact ⟨rfl, rfl⟩))
    (fun os started H enc _ => trustChecks_lifted os started H enc)


end Go.Proofs.Ytaknndkaeelkbaa
