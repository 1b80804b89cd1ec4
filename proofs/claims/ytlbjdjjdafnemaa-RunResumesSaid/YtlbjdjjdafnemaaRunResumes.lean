/- run.Resume answers as the reference does, for every machine, enclave and fuel: the law returns true, its arguments read as they did. Conditions: what fits the form's own reach. -/
import Derived.Test.YtlbjdjjdafnemaaOpensM
import Derived.Test.YtlbjdjjdafnemaaSameMach
import Derived.Test.YtlbjdjjdafnemaaEnter
import Derived.Test.YtlbjdjjdafnemaaEnterRef
import Derived.Test.YtlbjdjjdafnemaaEqOut
namespace Go.Proofs.Ytlbjdjjdafnemaa
open Go.ChangeShapes Go.WideShapes Go.ChangeAt Go.RowKit

set_option maxRecDepth 10000 in
set_option maxHeartbeats 1600000 in
theorem runResumes_calls (v : Value) (M : MachD) (e : Int) (fuel : Int) (w : World) (hf : M.Fits) (hv : MachAt w v M) : Calls Try.prog 3 #[v, .int .i64 e, .int .i64 fuel] w fun x w' => x = .returned (.bool true) ∧ Below w.heap.size w w' := by
  have HV := hid hv
  obtain ⟨fa, fc, ea, ec, qa, qc, rfl, _, _, _, _⟩ := hv
  have B0 : ∀ X, Below w.heap.size w (w.alloc X) := fun X => by go_grown
  have heq := eqlOut
  go_enter Try.func3, Try.ntmps3
  go_wp2_with fail
  refine (refMachCopy _ M _ hf (HV.out.mono (B0 _))).mono ?_
  rintro x w1 ⟨fv1, ev1, qv1, F1, rfl, hF1, hO1, hb1⟩
  have hA1 := OwnMach.at (M := M) hO1 hF1
  obtain ⟨fa1, fc1, ea1, ec1, qa1, qc1, he1, _⟩ := id hA1
  obtain ⟨rfl, rfl, rfl⟩ : fv1 = .slice fa1 M.frames.length fc1 ∧ ev1 = .slice ea1 M.encl.length ec1 ∧ qv1 = .slice qa1 M.quotes.length qc1 := by simpa using he1
  have HA1 := hid hA1
  have p0 : w1.cell? ⟨w.heap.size, 0, none⟩ = some (.slice fa M.frames.length fc) := by rw [(bcell hb1).1 _ _ (by go_size)]; go_simp
  have p1 : w1.cell? ⟨w.heap.size, 1, none⟩ = some (.slice ea M.encl.length ec) := by rw [(bcell hb1).1 _ _ (by go_size)]; go_simp
  have p2 : w1.cell? ⟨w.heap.size, 2, none⟩ = some (.slice qa M.quotes.length qc) := by rw [(bcell hb1).1 _ _ (by go_size)]; go_simp
  have z1 : w.heap.size < w1.heap.size := by have := hb1.size; simp at this; omega
  have B1 : Below w.heap.size w w1 := (B0 _).trans (hb1.mono (by go_size))
  clear hb1 hO1 hF1 hA1 he1
  go_wp2_with fail
  refine (runResume _ M e fuel _ (HA1.out.mono (by go_grown)) hf).mono ?_
  rintro x w2 ⟨v2, rfl, hA2, hb2⟩
  have HA2 := hid hA2
  have hff := resumeD_fits M e fuel
  obtain ⟨fa2, fc2, ea2, ec2, qa2, qc2, rfl, _⟩ := id hA2
  have k0 : w2.cell? ⟨w1.heap.size, 0, none⟩ = some (.slice fa1 M.frames.length fc1) := by rw [(bcell hb2).1 _ _ (by go_size)]; go_simp
  have k1 : w2.cell? ⟨w1.heap.size, 1, none⟩ = some (.slice ea1 M.encl.length ec1) := by rw [(bcell hb2).1 _ _ (by go_size)]; go_simp
  have k2 : w2.cell? ⟨w1.heap.size, 2, none⟩ = some (.slice qa1 M.quotes.length qc1) := by rw [(bcell hb2).1 _ _ (by go_size)]; go_simp
  have ko0 : True := trivial
  have B12 : Below w1.heap.size w1 w2 := Below.trans (by go_grown) (hb2.mono (by go_size))
  have q0 := cell_later B12 p0
  have q1 := cell_later B12 p1
  have q2 := cell_later B12 p2
  have z2 : w1.heap.size < w2.heap.size := by have := hb2.size; simp at this; omega
  have B2 : Below w.heap.size w w2 := B1.trans (B12.mono (by omega))
  clear hb2 hA2 p0 p1 p2
  have z3 : w.heap.size < w2.heap.size := by omega
  go_wp2_with fail
  refine (refResumed _ M e fuel _ (HV.out.mono (B2.trans (by go_grown))) hf).mono ?_
  rintro x w3 ⟨v3, rfl, hA3, hb3⟩
  have HA3 := hid hA3
  obtain ⟨fa3, fc3, ea3, ec3, qa3, qc3, rfl, _⟩ := id hA3
  have a0 : w3.cell? ⟨w2.heap.size, 0, none⟩ = some (.slice fa2 (resumeD M e fuel).1.frames.length fc2) := by rw [(bcell hb3).1 _ _ (by go_size)]; go_simp
  have a1 : w3.cell? ⟨w2.heap.size, 1, none⟩ = some (.slice ea2 (resumeD M e fuel).1.encl.length ec2) := by rw [(bcell hb3).1 _ _ (by go_size)]; go_simp
  have a2 : w3.cell? ⟨w2.heap.size, 2, none⟩ = some (.slice qa2 (resumeD M e fuel).1.quotes.length qc2) := by rw [(bcell hb3).1 _ _ (by go_size)]; go_simp
  have o0 : w3.cell? ⟨w2.heap.size + 1, 0, none⟩ = some (.int .i64 (resumeD M e fuel).2.1.1) := by rw [(bcell hb3).1 _ _ (by go_size)]; go_simp
  have o1 : w3.cell? ⟨w2.heap.size + 1, 1, none⟩ = some (.int .i64 (resumeD M e fuel).2.1.2) := by rw [(bcell hb3).1 _ _ (by go_size)]; go_simp
  have B23 : Below w2.heap.size w2 w3 := Below.trans (by go_grown) (hb3.mono (by go_size))
  have r0 := cell_later B23 q0
  have r1 := cell_later B23 q1
  have r2 := cell_later B23 q2
  have s0 := cell_later B23 k0
  have s1 := cell_later B23 k1
  have s2 := cell_later B23 k2
  have z4 : w2.heap.size + 1 < w3.heap.size := by have := hb3.size; simp at this; omega
  have z4b : w2.heap.size < w3.heap.size := by omega
  have z5 : w1.heap.size < w3.heap.size := by omega
  have z6 : w.heap.size < w3.heap.size := by omega
  have B3 : Below w.heap.size w w3 := B2.trans (B23.mono (by omega))
  have HB13 := hid (B12.trans (B23.mono (by omega)))
  have HB23 := hid B23
  clear hb3 hA3 q0 q1 q2 k0 k1 k2 B12 B23
  generalize resumeD M e fuel = R at *
  go_wp2_with fail
  refine (sameMachine _ _ R.1 _ hff (HA2.out.mono (HB23.out.trans (Below.mono (by go_grown) HB23.out.size))) (HA3.out.mono (by go_grown))).mono ?_
  rintro x w4 ⟨rfl, hb4⟩
  have B34 : Below w3.heap.size w3 w4 := Below.trans (by go_grown) (hb4.mono (by go_size))
  have t0 := cell_later B34 r0
  have t1 := cell_later B34 r1
  have t2 := cell_later B34 r2
  have u0 := cell_later B34 s0
  have u1 := cell_later B34 s1
  have u2 := cell_later B34 s2
  have HB4 : Below w1.heap.size w1 w4 := HB13.out.trans (B34.mono (by omega))
  have B4 : Below w.heap.size w w4 := B3.trans (B34.mono (by omega))
  clear hb4 B34 r0 r1 r2 s0 s1 s2
  go_wp2_with fail
  refine (sameMachine _ _ M _ hf (HA1.out.mono HB4) (HV.out.mono B4)).mono ?_
  rintro x w5 ⟨rfl, hb5⟩
  go_wp2_with fail
  go_ret
  exact ⟨rfl, B4.trans (hb5.mono B4.size)⟩
set_option maxRecDepth 100000 in
theorem runResumes_args {H : Type} {enc : TypeId × Value → H} (W : World) (b0 : Nat) (args : Array Value) (hs : args.size = (Try.f3).params.size)
    (ha : ∀ (j : Nat) t v, (Try.f3).params[j]? = some t → args[j]? = some v → Value.okWide Try.prog W .any b0 t v ∧ Rd enc Try.prog W t v.cells.toList) :
    Calls Try.prog 3 args W fun e w' => e = .returned (.bool true) ∧ Below W.heap.size W w' := by
  obtain ⟨l⟩ := args
  match l, hs with
  | [v, v1, v2], _ =>
    obtain ⟨M, hM, hf, _⟩ := rd_mach (ha 0 _ v rfl rfl).1 (ha 0 _ v rfl rfl).2
    obtain ⟨e, rfl, _⟩ := rd_int_v (ha 1 _ v1 rfl rfl).1 (ha 1 _ v1 rfl rfl).2
    obtain ⟨fuel, rfl, _⟩ := rd_int_v (ha 2 _ v2 rfl rfl).1 (ha 2 _ v2 rfl rfl).2
    exact runResumes_calls v M e fuel W hf hM

set_option maxRecDepth 100000 in
theorem runResumes_lifted (os : Os) (started : os.Started) (H : Type) (enc : TypeId × Value → H) :
    ReturnsInHanded {} Try.checked os 3 .any (Rows.runResumesSpec.pre6 enc Try.prog Try.f3 Rows.runResumesRow.domain false) (Rows.runResumesSpec.post enc Try.prog Try.f3 false true false false) :=
  returnsInHanded_of_change_sized (C := Try.checked) own started (by kernel_rfl) Try.func3
    (ChangeSpec.witness6 (enc := enc) (C := Try.checked) false ⟨#[], #[.agg #[.slice none 0 0, .slice none 0 0, .slice none 0 0], .int .i64 0, .int .i64 0], []⟩ 8 (by kernel_rfl) (by kernel_rfl) (by kernel_rfl) (by kernel_rfl))
    fun W base args ds gs before hval hW _ hsz _ => law_contract laidOut (by kernel_rfl) rfl Try.underlying4 rfl (fun ds h => by
      match ds, h with
      | [_, _, _], _ => exact ⟨rfl, rfl, rfl⟩) hval hW hsz fun hs ha => runResumes_args W base args hs ha

theorem runResumes_holds : Rows.RunResumesSaid :=
  OpenClaim.holds_of_wide 3 Try.f3 rfl rfl rfl rfl rfl rfl rfl ⟨rfl, rfl, rfl, rfl, rfl⟩ rfl rfl rfl rfl rfl (by kernel_rfl) Try.func3 (by kernel_rfl)
    (of_decide_eq_true (by kernel_rfl)) (by unfold Func.isWrapper; first | (rw [if_pos (by decide +kernel)]; kernel_rfl) | (rw [if_neg (by decide +kernel)]; exact ⟨rfl, rfl⟩))
    (fun os started H enc _ => runResumes_lifted os started H enc)


end Go.Proofs.Ytlbjdjjdafnemaa
