/- epc.Place answers as the reference does, for every machine, enclave and place: the law returns true, its arguments read as they did. No condition beyond the form's reach. -/
import Derived.Test.YtaknndkaeelkbaaOpensM
import Derived.Test.YtaknndkaeelkbaaPlace
namespace Go.Proofs.Ytaknndkaeelkbaa
open Go.ChangeShapes Go.WideShapes Go.ChangeAt Go.RowKit

set_option maxHeartbeats 400000 in
theorem epcPlaces_calls (v : Value) (M : MachD) (e q : Int) (w : World) (hf : M.Fits) (hv : MachAt w v M) : Calls Try.prog 4 #[v, .int .i64 e, .int .i64 q] w fun x w' => x = .returned (.bool true) ∧ Below w.heap.size w w' := by
  obtain ⟨fa, fc, ea, ec, qa, qc, rfl, hF, _, _⟩ := hv
  obtain ⟨n, hl⟩ : ∃ n, M.frames.length = n := ⟨_, rfl⟩
  have hn := hf.f
  rw [hl] at hn ⊢
  have HL := hid hl
  have HF := hid hF
  clear hl hF hf
  have B0 : ∀ X, Below w.heap.size w (w.alloc X) := fun X => by go_grown
  go_enter Try.func4, Try.ntmps4
  go_wp2_with fail
  refine (epcPlace fa M.frames n fc _ _ e q _ HL.out (by omega) (HF.out.mono (B0 _))).mono ?_
  rintro x w1 ⟨rfl, hb1⟩
  have p0 : w1.cell? ⟨w.heap.size, 0, none⟩ = some (.slice fa n fc) := by rw [(bcell hb1).1 _ _ (by go_size)]; go_simp
  have p1 : w1.cell? ⟨w.heap.size, 1, none⟩ = some (.slice ea M.encl.length ec) := by rw [(bcell hb1).1 _ _ (by go_size)]; go_simp
  have p2 : w1.cell? ⟨w.heap.size, 2, none⟩ = some (.slice qa M.quotes.length qc) := by rw [(bcell hb1).1 _ _ (by go_size)]; go_simp
  have B1 : Below w.heap.size w w1 := (B0 _).trans (hb1.mono (by go_size))
  clear hb1
  go_wp2_with fail
  refine (refPlace fa M.frames n fc _ _ e q _ HL.out (by omega) (HF.out.mono B1)).mono ?_
  rintro x w2 ⟨rfl, hb2⟩
  generalize placeF M.frames e q = r
  go_wp2_with fail
  go_ret
  exact ⟨by simp, B1.trans (hb2.mono B1.size)⟩
set_option maxRecDepth 100000 in
theorem epcPlaces_args {H : Type} {enc : TypeId × Value → H} (W : World) (b0 : Nat) (args : Array Value) (hs : args.size = (Try.f4).params.size)
    (ha : ∀ (j : Nat) t v, (Try.f4).params[j]? = some t → args[j]? = some v → Value.okWide Try.prog W .any b0 t v ∧ Rd enc Try.prog W t v.cells.toList) :
    Calls Try.prog 4 args W fun e w' => e = .returned (.bool true) ∧ Below W.heap.size W w' := by
  obtain ⟨l⟩ := args
  match l, hs with
  | [v, v1, v2], _ =>
    obtain ⟨M, hM, hf, _⟩ := rd_mach (ha 0 _ v rfl rfl).1 (ha 0 _ v rfl rfl).2
    obtain ⟨e, rfl, _⟩ := rd_int_v (ha 1 _ v1 rfl rfl).1 (ha 1 _ v1 rfl rfl).2
    obtain ⟨q, rfl, _⟩ := rd_int_v (ha 2 _ v2 rfl rfl).1 (ha 2 _ v2 rfl rfl).2
    exact epcPlaces_calls v M e q W hf hM

set_option maxRecDepth 100000 in
theorem epcPlaces_lifted (os : Os) (started : os.Started) (H : Type) (enc : TypeId × Value → H) :
    ReturnsInHanded {} Try.checked os 4 .any (Rows.epcPlacesSpec.pre6 enc Try.prog Try.f4 Rows.epcPlacesRow.domain false) (Rows.epcPlacesSpec.post enc Try.prog Try.f4 false true false false) :=
  returnsInHanded_of_change_sized (C := Try.checked) own started (by kernel_rfl) Try.func4
    (ChangeSpec.witness6 (enc := enc) (C := Try.checked) false ⟨#[], #[.agg #[.slice none 0 0, .slice none 0 0, .slice none 0 0], .int .i64 0, .int .i64 0], []⟩ 8 (by kernel_rfl) (by kernel_rfl) (by kernel_rfl) (by kernel_rfl))
    fun W base args ds gs before hval hW _ hsz _ => law_contract laidOut (by kernel_rfl) rfl Try.underlying4 rfl (fun ds h => by
      match ds, h with
      | [_, _, _], _ => exact ⟨rfl, rfl, rfl⟩) hval hW hsz fun hs ha => epcPlaces_args W base args hs ha

theorem epcPlaces_holds : Rows.EpcPlacesSaid :=
  OpenClaim.holds_of_wide 4 Try.f4 rfl rfl rfl rfl rfl rfl rfl ⟨rfl, rfl, rfl, rfl, rfl⟩ rfl rfl rfl rfl rfl (by kernel_rfl) Try.func4 (by kernel_rfl)
    (of_decide_eq_true (by kernel_rfl)) (by unfold Func.isWrapper; first | (rw [if_pos (by decide +kernel)]; kernel_rfl) | (rw [if_neg (by decide +kernel)]; exact ⟨rfl, rfl⟩))
    (fun os started H enc _ => epcPlaces_lifted os started H enc)


end Go.Proofs.Ytaknndkaeelkbaa
