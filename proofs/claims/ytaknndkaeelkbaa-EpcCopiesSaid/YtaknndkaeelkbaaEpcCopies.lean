/- epc.Copy answers the same machine, for every machine: the law returns true, its argument reads as it did. No condition beyond the form's reach. -/
import Derived.Test.YtaknndkaeelkbaaOpensM
import Derived.Test.YtaknndkaeelkbaaMachCopy
import Derived.Test.YtaknndkaeelkbaaSameMach
namespace Go.Proofs.Ytaknndkaeelkbaa
open Go.ChangeShapes Go.WideShapes Go.ChangeAt Go.RowKit

set_option maxRecDepth 10000 in
set_option maxHeartbeats 400000 in
theorem epcCopies_calls (v : Value) (M : MachD) (w : World) (hf : M.Fits) (hv : MachAt w v M) : Calls Try.prog 8 #[v] w fun x w' => x = .returned (.bool true) ∧ Below w.heap.size w w' := by
  have HV := hid hv
  obtain ⟨fa, fc, ea, ec, qa, qc, rfl, _, _, _, _⟩ := hv
  have B0 : ∀ X, Below w.heap.size w (w.alloc X) := fun X => by go_grown
  go_enter Try.func8, Try.ntmps8
  go_wp2_with fail
  refine (epcCopy _ M _ hf (HV.out.mono (B0 _))).mono ?_
  rintro e w1 ⟨fv, ev, qv, F, rfl, hF, hO, hb1⟩
  have HO := hid (hO.at hF)
  have p0 : w1.cell? ⟨w.heap.size, 0, none⟩ = some (.slice fa M.frames.length fc) := by rw [(bcell hb1).1 _ _ (by go_size)]; go_simp
  have p1 : w1.cell? ⟨w.heap.size, 1, none⟩ = some (.slice ea M.encl.length ec) := by rw [(bcell hb1).1 _ _ (by go_size)]; go_simp
  have p2 : w1.cell? ⟨w.heap.size, 2, none⟩ = some (.slice qa M.quotes.length qc) := by rw [(bcell hb1).1 _ _ (by go_size)]; go_simp
  have B1 : Below w.heap.size w w1 := (B0 _).trans (hb1.mono (by go_size))
  have z1 : w.heap.size < w1.heap.size := by have := hb1.size; simp at this; omega
  obtain ⟨fa', fc', rfl, _⟩ := hO.f.frames
  obtain ⟨ea', ec', rfl, _⟩ := CellsAt.of_own hO.e
  obtain ⟨qa', qc', rfl, _⟩ := CellsAt.of_own hO.q
  clear hb1 hO hF
  go_wp2_with fail
  refine (sameMachine _ _ M _ hf (HO.out.mono (by go_grown)) (HV.out.mono (B1.trans (by go_grown)))).mono ?_
  rintro e w2 ⟨rfl, hb2⟩
  go_wp2_with fail
  go_ret
  exact ⟨by simp, (B1.trans (by go_grown)).trans (hb2.mono (by go_size))⟩
set_option maxRecDepth 100000 in
theorem epcCopies_args {H : Type} {enc : TypeId × Value → H} (W : World) (b0 : Nat) (args : Array Value) (hs : args.size = (Try.f8).params.size)
    (ha : ∀ (j : Nat) t v, (Try.f8).params[j]? = some t → args[j]? = some v → Value.okWide Try.prog W .any b0 t v ∧ Rd enc Try.prog W t v.cells.toList) :
    Calls Try.prog 8 args W fun e w' => e = .returned (.bool true) ∧ Below W.heap.size W w' := by
  obtain ⟨l⟩ := args
  match l, hs with
  | [v], _ =>
    obtain ⟨M, hM, hf, _⟩ := rd_mach (ha 0 _ v rfl rfl).1 (ha 0 _ v rfl rfl).2
    exact epcCopies_calls v M W hf hM

set_option maxRecDepth 100000 in
theorem epcCopies_lifted (os : Os) (started : os.Started) (H : Type) (enc : TypeId × Value → H) :
    ReturnsInHanded {} Try.checked os 8 .any (Rows.epcCopiesSpec.pre6 enc Try.prog Try.f8 Rows.epcCopiesRow.domain false) (Rows.epcCopiesSpec.post enc Try.prog Try.f8 false true false false) :=
  returnsInHanded_of_change_sized (C := Try.checked) own started (by kernel_rfl) Try.func8
    (ChangeSpec.witness6 (enc := enc) (C := Try.checked) false ⟨#[], #[.agg #[.slice none 0 0, .slice none 0 0, .slice none 0 0]], []⟩ 8 (by kernel_rfl) (by kernel_rfl) (by kernel_rfl) (by kernel_rfl))
    fun W base args ds gs before hval hW _ hsz _ => law_contract laidOut (by kernel_rfl) rfl Try.underlying4 rfl (fun ds h => by
      match ds, h with
      | [_], _ => exact ⟨rfl, rfl, rfl⟩) hval hW hsz fun hs ha => epcCopies_args W base args hs ha

theorem epcCopies_holds : Rows.EpcCopiesSaid :=
  OpenClaim.holds_of_wide 8 Try.f8 rfl rfl rfl rfl rfl rfl rfl ⟨rfl, rfl, rfl, rfl, rfl⟩ rfl rfl rfl rfl rfl (by kernel_rfl) Try.func8 (by kernel_rfl)
    (of_decide_eq_true (by kernel_rfl)) (by unfold Func.isWrapper; first | (rw [if_pos (by decide +kernel)]; kernel_rfl) | (rw [if_neg (by decide +kernel)]; exact ⟨rfl, rfl⟩))
    (fun os started H enc _ => epcCopies_lifted os started H enc)


end Go.Proofs.Ytaknndkaeelkbaa
