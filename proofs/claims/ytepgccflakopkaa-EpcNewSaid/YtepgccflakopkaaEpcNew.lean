/- epc.New answers as the reference does: the law returns true. No condition. -/
import Derived.Test.YtepgccflakopkaaOpens
import Derived.Test.YtepgccflakopkaaSameMach
import Derived.Test.YtepgccflakopkaaNew
namespace Go.Proofs.Ytepgccflakopkaa
open Go.ChangeShapes Go.WideShapes Go.ChangeAt Go.RowKit

theorem newD_fits : newD.Fits := ⟨by simp [newD], by simp [newD], by simp [newD], fun i x hx => by
  simp only [newD] at hx
  have := List.mem_of_getElem? hx
  rw [List.mem_replicate] at this
  rw [this.2]
  simp [bare]⟩
set_option maxRecDepth 10000 in
set_option maxHeartbeats 1600000 in
theorem epcNew_calls (w : World) : Calls Try.prog 5 #[] w fun e w' => e = .returned (.bool true) ∧ Below w.heap.size w w' := by
  go_enter Try.func5, Try.ntmps5
  go_wp2_with fail
  refine (epcNew _).mono ?_
  rintro x w1 ⟨fv1, ev1, qv1, F1, rfl, hF1, hO1, hb1⟩
  have hA1 := OwnMach.at (M := newD) hO1 hF1
  obtain ⟨fa1, fc1, ea1, ec1, qa1, qc1, he1, _⟩ := id hA1
  obtain ⟨rfl, rfl, rfl⟩ : fv1 = .slice fa1 newD.frames.length fc1 ∧ ev1 = .slice ea1 newD.encl.length ec1 ∧ qv1 = .slice qa1 newD.quotes.length qc1 := by simpa using he1
  have HA1 := hid hA1
  have HB1 := hid hb1
  clear hO1 hF1 hA1 he1 hb1
  go_wp2_with fail
  refine (refNew _).mono ?_
  rintro x w2 ⟨fv2, ev2, qv2, F2, rfl, hF2, hO2, hb2⟩
  have hA2 := OwnMach.at (M := newD) hO2 hF2
  obtain ⟨fa2, fc2, ea2, ec2, qa2, qc2, he2, _⟩ := id hA2
  obtain ⟨rfl, rfl, rfl⟩ : fv2 = .slice fa2 newD.frames.length fc2 ∧ ev2 = .slice ea2 newD.encl.length ec2 ∧ qv2 = .slice qa2 newD.quotes.length qc2 := by simpa using he2
  have k0 : w2.cell? ⟨w1.heap.size, 0, none⟩ = some (.slice fa1 newD.frames.length fc1) := by rw [(bcell hb2).1 _ _ (by go_size)]; go_simp
  have k1 : w2.cell? ⟨w1.heap.size, 1, none⟩ = some (.slice ea1 newD.encl.length ec1) := by rw [(bcell hb2).1 _ _ (by go_size)]; go_simp
  have k2 : w2.cell? ⟨w1.heap.size, 2, none⟩ = some (.slice qa1 newD.quotes.length qc1) := by rw [(bcell hb2).1 _ _ (by go_size)]; go_simp
  have B12 : Below w1.heap.size w1 w2 := Below.trans (by go_grown) (hb2.mono (by go_size))
  have z2 : w1.heap.size < w2.heap.size := by have := hb2.size; simp at this; omega
  have HA2 := hid hA2
  have HA3 := hid (HA1.out.mono B12)
  have HB2 := hid (HB1.out.trans (B12.mono HB1.out.size))
  clear hO2 hF2 hA2 he2 hb2 B12
  generalize hD : newD = D at *
  go_wp2_with fail
  refine (sameMachine _ _ D _ (hD ▸ newD_fits) (HA3.out.mono (by go_grown)) (HA2.out.mono (by go_grown))).mono ?_
  rintro x w3 ⟨rfl, hb3⟩
  go_wp2_with fail
  go_ret
  exact ⟨rfl, HB2.out.trans (Below.trans (by go_grown) (hb3.mono (by go_size)) |>.mono HB2.out.size)⟩
set_option maxRecDepth 100000 in
theorem epcNew_args {H : Type} {enc : TypeId × Value → H} (W : World) (b0 : Nat) (args : Array Value) (hs : args.size = (Try.f5).params.size)
    (ha : ∀ (j : Nat) t v, (Try.f5).params[j]? = some t → args[j]? = some v → Value.okWide Try.prog W .any b0 t v ∧ Rd enc Try.prog W t v.cells.toList) :
    Calls Try.prog 5 args W fun e w' => e = .returned (.bool true) ∧ Below W.heap.size W w' := by
  obtain ⟨l⟩ := args
  match l, hs with
  | [], _ => exact epcNew_calls W

set_option maxRecDepth 100000 in
theorem epcNew_lifted (os : Os) (started : os.Started) (H : Type) (enc : TypeId × Value → H) :
    ReturnsInHanded {} Try.checked os 5 .any (Rows.epcNewSpec.pre6 enc Try.prog Try.f5 Rows.epcNewRow.domain false) (Rows.epcNewSpec.post enc Try.prog Try.f5 false true false false) :=
  returnsInHanded_of_change_sized (C := Try.checked) own started (by kernel_rfl) Try.func5
    (ChangeSpec.witness6 (enc := enc) (C := Try.checked) false ⟨#[], #[], []⟩ 8 (by kernel_rfl) (by kernel_rfl) (by kernel_rfl) (by kernel_rfl))
    fun W base args ds gs before hval hW _ hsz _ => law_contract laidOut (by kernel_rfl) rfl Try.underlying4 rfl (fun ds h => by
      match ds, h with
      | [], _ => exact ⟨rfl, rfl, rfl⟩) hval hW hsz fun hs ha => epcNew_args W base args hs ha

theorem epcNew_holds : Rows.EpcNewSaid :=
  OpenClaim.holds_of_wide 5 Try.f5 rfl rfl rfl rfl rfl rfl rfl ⟨rfl, rfl, rfl, rfl, rfl⟩ rfl rfl rfl rfl rfl (by kernel_rfl) Try.func5 (by kernel_rfl)
    (of_decide_eq_true (by kernel_rfl)) (by unfold Func.isWrapper; first | (rw [if_pos (by decide +kernel)]; kernel_rfl) | (rw [if_neg (by decide +kernel)]; exact ⟨rfl, rfl⟩))
    (fun os started H enc _ => epcNew_lifted os started H enc)


end Go.Proofs.Ytepgccflakopkaa
