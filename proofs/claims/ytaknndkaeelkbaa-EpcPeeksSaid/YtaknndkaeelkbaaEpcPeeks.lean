/- epc.Peek answers as the reference does, for every machine, frame and place: the law returns true, its arguments read as they did. No condition beyond the form's reach. -/
import Derived.Test.YtaknndkaeelkbaaOpensM
import Derived.Test.YtaknndkaeelkbaaPeek
namespace Go.Proofs.Ytaknndkaeelkbaa
open Go.ChangeShapes Go.WideShapes Go.ChangeAt Go.RowKit

set_option maxHeartbeats 400000 in
theorem epcPeeks_calls (v : Value) (M : MachD) (f q : Int) (w : World) (hf : M.Fits) (hv : MachAt w v M) : Calls Try.prog 17 #[v, .int .i64 f, .int .i64 q] w fun x w' => x = .returned (.bool true) ∧ Below w.heap.size w w' := by
  have HV := hid hv
  obtain ⟨fa, fc, ea, ec, qa, qc, rfl, _, _, _, _⟩ := hv
  have B0 : ∀ X, Below w.heap.size w (w.alloc X) := fun X => by go_grown
  go_enter Try.func17, Try.ntmps17
  go_wp2_with fail
  refine (epcPeek _ M f q _ (HV.out.mono (B0 _)) hf).mono ?_
  rintro x w1 ⟨rfl, hb1⟩
  have p0 : w1.cell? ⟨w.heap.size, 0, none⟩ = some (.slice fa M.frames.length fc) := by rw [(bcell hb1).1 _ _ (by go_size)]; go_simp
  have p1 : w1.cell? ⟨w.heap.size, 1, none⟩ = some (.slice ea M.encl.length ec) := by rw [(bcell hb1).1 _ _ (by go_size)]; go_simp
  have p2 : w1.cell? ⟨w.heap.size, 2, none⟩ = some (.slice qa M.quotes.length qc) := by rw [(bcell hb1).1 _ _ (by go_size)]; go_simp
  have B1 : Below w.heap.size w w1 := (B0 _).trans (hb1.mono (by go_size))
  clear hb1
  go_wp2_with fail
  refine (refPeeked _ M f q _ (HV.out.mono B1) hf).mono ?_
  rintro x w2 ⟨rfl, hb2⟩
  generalize peekD M f q = R
  obtain ⟨a, b⟩ := R
  go_wp2_with fail
  go_ret
  exact ⟨by simp, B1.trans (hb2.mono B1.size)⟩
set_option maxRecDepth 100000 in
theorem epcPeeks_args {H : Type} {enc : TypeId × Value → H} (W : World) (b0 : Nat) (args : Array Value) (hs : args.size = (Try.f17).params.size)
    (ha : ∀ (j : Nat) t v, (Try.f17).params[j]? = some t → args[j]? = some v → Value.okWide Try.prog W .any b0 t v ∧ Rd enc Try.prog W t v.cells.toList) :
    Calls Try.prog 17 args W fun e w' => e = .returned (.bool true) ∧ Below W.heap.size W w' := by
  obtain ⟨l⟩ := args
  match l, hs with
  | [v, v1, v2], _ =>
    obtain ⟨M, hM, hf, _⟩ := rd_mach (ha 0 _ v rfl rfl).1 (ha 0 _ v rfl rfl).2
    obtain ⟨f, rfl, _⟩ := rd_int_v (ha 1 _ v1 rfl rfl).1 (ha 1 _ v1 rfl rfl).2
    obtain ⟨q, rfl, _⟩ := rd_int_v (ha 2 _ v2 rfl rfl).1 (ha 2 _ v2 rfl rfl).2
    exact epcPeeks_calls v M f q W hf hM

set_option maxRecDepth 100000 in
theorem epcPeeks_lifted (os : Os) (started : os.Started) (H : Type) (enc : TypeId × Value → H) :
    ReturnsInHanded {} Try.checked os 17 .any (Rows.epcPeeksSpec.pre6 enc Try.prog Try.f17 Rows.epcPeeksRow.domain false) (Rows.epcPeeksSpec.post enc Try.prog Try.f17 false true false false) :=
  returnsInHanded_of_change_sized (C := Try.checked) own started (by kernel_rfl) Try.func17
    (ChangeSpec.witness6 (enc := enc) (C := Try.checked) false ⟨#[], #[.agg #[.slice none 0 0, .slice none 0 0, .slice none 0 0], .int .i64 0, .int .i64 0], []⟩ 8 (by kernel_rfl) (by kernel_rfl) (by kernel_rfl) (by kernel_rfl))
    fun W base args ds gs before hval hW _ hsz _ => law_contract laidOut (by kernel_rfl) rfl Try.underlying4 rfl (fun ds h => by
      match ds, h with
      | [_, _, _], _ => exact ⟨rfl, rfl, rfl⟩) hval hW hsz fun hs ha => epcPeeks_args W base args hs ha

theorem epcPeeks_holds : Rows.EpcPeeksSaid :=
  OpenClaim.holds_of_wide 17 Try.f17 rfl rfl rfl rfl rfl rfl rfl ⟨rfl, rfl, rfl, rfl, rfl⟩ rfl rfl rfl rfl rfl (by kernel_rfl) Try.func17 (by kernel_rfl)
    (of_decide_eq_true (by kernel_rfl)) (by unfold Func.isWrapper; first | (rw [if_pos (by decide +kernel)]; kernel_rfl) | (rw [if_neg (by decide +kernel)]; exact ⟨rfl, rfl⟩))
    (fun os started H enc _ => epcPeeks_lifted os started H enc)


end Go.Proofs.Ytaknndkaeelkbaa
