/- epc.Measure answers as the reference does, for every machine, enclave and place: the law returns true, its arguments read as they did; the card is tied. Conditions: the library's tables start as the program's text lays them; what fits the form's own reach. -/
import Derived.Test.YtohaapnkipiocaaDoorOpensM
import Derived.Test.YtohaapnkipiocaaDoorSameMach
import Derived.Test.YtohaapnkipiocaaDoorMeasure
import Derived.Test.YtohaapnkipiocaaDoorRefMeasured
import Derived.Test.YtohaapnkipiocaaDoorPutFits
import Derived.Test.YtohaapnkipiocaaDoorLiftD
namespace Go.Proofs.YtohaapnkipiocaaDoor
open Go.ChangeShapes Go.WideShapes Go.ChangeAt Go.RowKit

set_option maxRecDepth 10000 in
set_option maxHeartbeats 1600000 in
theorem epcMeasures_calls (v : Value) (M : MachD) (e : Int) (p : Int) (w : World) (hf : M.Fits) (hv : MachAt w v M) (hT : Tab w) : Calls Tryd.prog 9 #[v, .int .i64 e, .int .i64 p] w fun x w' => x = .returned (.bool true) ∧ Below w.heap.size w w' := by
  have HV := hid hv
  obtain ⟨fa, fc, ea, ec, qa, qc, rfl, _, _, _, _⟩ := hv
  have B0 : ∀ X, Below w.heap.size w (w.alloc X) := fun X => by go_grown
  go_enter Tryd.func9, Tryd.ntmps9
  go_wp2_with fail
  refine (refMachCopy _ M _ hf (HV.out.mono (B0 _))).mono ?_
  rintro x w1 ⟨fv1, ev1, qv1, F1, rfl, hF1, hO1, hb1⟩
  have hA1 := OwnMach.at (M := M) hO1 hF1
  obtain ⟨fa1, fc1, ea1, ec1, qa1, qc1, he1, _⟩ := id hA1
  obtain ⟨rfl, rfl, rfl⟩ : fv1 = .slice fa1 M.frames.length fc1 ∧ ev1 = .slice ea1 M.encl.length ec1 ∧ qv1 = .slice qa1 M.quotes.length qc1 := by simpa using he1
  have HA1 := hid hA1
  have p0 : w1.cell? ⟨w.heap.size, 0, none⟩ = some (.slice fa M.frames.length fc) := by rw [(bcell hb1).1 _ _ (by go_size)]; go_simp
  have p1 : w1.cell? ⟨w.heap.size, 1, none⟩ = some (.slice ea M.encl.length ec) := by rw [(bcell hb1).1 _ _ (by go_size)]; go_simp
  have p2 : w1.cell? ⟨w.heap.size, 2, none⟩ = some (.slice qa M.quotes.length qc) := by rw [(bcell hb1).1 _ _ (by go_size)]; go_simp
  have z1 : w.heap.size < w1.heap.size := by have := hb1.size; simp at this; omega
  have B1 : Below w.heap.size w w1 := (B0 _).trans (hb1.mono (by go_size))
  clear hb1 hO1 hF1 hA1 he1
  go_wp2_with fail
  refine (epcMeasure _ M e p _ (HA1.out.mono (by go_grown)) hf (hT.mono (B1.trans (Below.mono (by go_grown) B1.size)))).mono ?_
  rintro x w2 ⟨v2, rfl, hA2, hb2⟩
  have HA2 := hid hA2
  have hff := measD_fits hf e p
  obtain ⟨fa2, fc2, ea2, ec2, qa2, qc2, rfl, _⟩ := id hA2
  have k0 : w2.cell? ⟨w1.heap.size, 0, none⟩ = some (.slice fa1 M.frames.length fc1) := by rw [(bcell hb2).1 _ _ (by go_size)]; go_simp
  have k1 : w2.cell? ⟨w1.heap.size, 1, none⟩ = some (.slice ea1 M.encl.length ec1) := by rw [(bcell hb2).1 _ _ (by go_size)]; go_simp
  have k2 : w2.cell? ⟨w1.heap.size, 2, none⟩ = some (.slice qa1 M.quotes.length qc1) := by rw [(bcell hb2).1 _ _ (by go_size)]; go_simp
  have B12 : Below w1.heap.size w1 w2 := Below.trans (by go_grown) (hb2.mono (by go_size))
  have q0 := cell_later B12 p0
  have q1 := cell_later B12 p1
  have q2 := cell_later B12 p2
  have z2 : w1.heap.size < w2.heap.size := by have := hb2.size; simp at this; omega
  have B2 : Below w.heap.size w w2 := B1.trans (B12.mono (by omega))
  clear hb2 hA2 p0 p1 p2
  have z3 : w.heap.size < w2.heap.size := by omega
  go_wp2_with fail
  refine (refMeasuredOf _ M e p _ (HV.out.mono (B2.trans (by go_grown))) hf).mono ?_
  rintro x w3 ⟨v3, rfl, hA3, hb3⟩
  have HA3 := hid hA3
  obtain ⟨fa3, fc3, ea3, ec3, qa3, qc3, rfl, _⟩ := id hA3
  have a0 : w3.cell? ⟨w2.heap.size, 0, none⟩ = some (.slice fa2 (measD M e p).1.frames.length fc2) := by rw [(bcell hb3).1 _ _ (by go_size)]; go_simp
  have a1 : w3.cell? ⟨w2.heap.size, 1, none⟩ = some (.slice ea2 (measD M e p).1.encl.length ec2) := by rw [(bcell hb3).1 _ _ (by go_size)]; go_simp
  have a2 : w3.cell? ⟨w2.heap.size, 2, none⟩ = some (.slice qa2 (measD M e p).1.quotes.length qc2) := by rw [(bcell hb3).1 _ _ (by go_size)]; go_simp
  have B23 : Below w2.heap.size w2 w3 := Below.trans (by go_grown) (hb3.mono (by go_size))
  have r0 := cell_later B23 q0
  have r1 := cell_later B23 q1
  have r2 := cell_later B23 q2
  have s0 := cell_later B23 k0
  have s1 := cell_later B23 k1
  have s2 := cell_later B23 k2
  have z4 : w2.heap.size < w3.heap.size := by have := hb3.size; simp at this; omega
  have z5 : w1.heap.size < w3.heap.size := by omega
  have z6 : w.heap.size < w3.heap.size := by omega
  have B3 : Below w.heap.size w w3 := B2.trans (B23.mono (by omega))
  have HB13 := hid (B12.trans (B23.mono (by omega)))
  have HB23 := hid B23
  clear hb3 hA3 q0 q1 q2 k0 k1 k2 B12 B23
  generalize measD M e p = R at *
  go_wp2_with fail
  refine (sameMachine _ _ R.1 _ hff (HA2.out.mono (HB23.out.trans ((below_alloc _ _).mono HB23.out.size))) (HA3.out.mono (below_alloc _ _))).mono ?_
  rintro x w4 ⟨rfl, hb4⟩
  have B34 : Below w3.heap.size w3 w4 := (below_alloc _ _).trans (hb4.mono (by go_size))
  have t0 := cell_later B34 r0
  have t1 := cell_later B34 r1
  have t2 := cell_later B34 r2
  have u0 := cell_later B34 s0
  have u1 := cell_later B34 s1
  have u2 := cell_later B34 s2
  have HB4 : Below w1.heap.size w1 w4 := HB13.out.trans (B34.mono (by omega))
  have B4 : Below w.heap.size w w4 := B3.trans (B34.mono (by omega))
  clear hb4 B34 r0 r1 r2 s0 s1 s2
  go_wp2_with fail
  refine (sameMachine _ _ M _ hf (HA1.out.mono HB4) (HV.out.mono B4)).mono ?_
  rintro x w5 ⟨rfl, hb5⟩
  go_wp2_with fail
  go_ret
  exact ⟨rfl, B4.trans (hb5.mono B4.size)⟩
set_option maxRecDepth 100000 in
theorem epcMeasures_args {H : Type} {enc : TypeId × Value → H} (W : World) (b0 : Nat) (args : Array Value) (hT : Tab W) (hs : args.size = (Tryd.f9).params.size)
    (ha : ∀ (j : Nat) t v, (Tryd.f9).params[j]? = some t → args[j]? = some v → Value.okWide Tryd.prog W .any b0 t v ∧ Rd enc Tryd.prog W t v.cells.toList) :
    Calls Tryd.prog 9 args W fun e w' => e = .returned (.bool true) ∧ Below W.heap.size W w' := by
  obtain ⟨l⟩ := args
  match l, hs with
  | [v, v1, v2], _ =>
    obtain ⟨M, hM, hf, _⟩ := rd_mach (ha 0 _ v rfl rfl).1 (ha 0 _ v rfl rfl).2
    obtain ⟨e, rfl, _⟩ := rd_int_v (ha 1 _ v1 rfl rfl).1 (ha 1 _ v1 rfl rfl).2
    obtain ⟨p, rfl, _⟩ := rd_int_v (ha 2 _ v2 rfl rfl).1 (ha 2 _ v2 rfl rfl).2
    exact epcMeasures_calls v M e p W hf hM hT

set_option maxRecDepth 100000 in
theorem epcMeasures_lifted (os : Os) (started : os.Started) (H : Type) (enc : TypeId × Value → H) :
    ReturnsInHanded {} Tryd.checked os 9 .any (fun w args => (Rows.epcMeasuresSpec.pre enc Tryd.prog Tryd.f9 [] false w args ∧ laidMetH Tryd.prog Rows.epcMeasuresRow.laid w) ∧ sizedMet enc Tryd.prog Tryd.f9 (OpenSpec.ofChange Rows.epcMeasuresSpec) false w args)
      (Rows.epcMeasuresSpec.post enc Tryd.prog Tryd.f9 false true false false) := by
  refine returnsInHanded_of_change_and (C := Tryd.checked) (X := fun w _ => laidMetH Tryd.prog Rows.epcMeasuresRow.laid w) (fun _ _ _ hh h => h.of_heap hh) own started (by kernel_rfl) Tryd.func9
    (ChangeSpec.witness_shaped (enc := enc) (C := Tryd.checked) (os := os) (X := fun w _ => laidMetH Tryd.prog Rows.epcMeasuresRow.laid w) false (World.doorLaid Tryd.prog doorSteps os) #[.agg #[.slice none 0 0, .slice none 0 0, .slice none 0 0], .int .i64 0, .int .i64 0] 8 rfl (World.shaped_of_RefB (by kernel_rfl) (by kernel_rfl)) (by kernel_rfl) (by kernel_rfl) (by kernel_rfl) (door_met os _)) ?_
  intro W base args ds gs before hval hW _ hsz hL _
  exact law_contract laidOut (by kernel_rfl) rfl Tryd.underlying4 rfl (fun ds h => by
    match ds, h with
    | [_, _, _], _ => exact ⟨rfl, rfl, rfl⟩) hval hW hsz fun hs ha => epcMeasures_args W base args (tab_of_laid hL) hs ha

theorem epcMeasures_row : Rows.EpcMeasuresSaid :=
  OpenClaim.holds_of_wide 9 Tryd.f9 rfl rfl rfl rfl rfl rfl rfl ⟨rfl, rfl, rfl, rfl, rfl⟩ rfl rfl rfl rfl rfl (by kernel_rfl) Tryd.func9 (by kernel_rfl)
    (of_decide_eq_true (by kernel_rfl)) (by unfold Func.isWrapper; first | (rw [if_pos (by decide +kernel)]; kernel_rfl) | (rw [if_neg (by decide +kernel)]; exact ⟨rfl, rfl⟩))
    (fun os started H enc _ => epcMeasures_lifted os started H enc)

theorem epcMeasures_holds : Rows.EpcMeasuresCardSaid :=
  Claim7.holds_tied_plain_at .later [] [.data, .data, .data] true _ false
    epcMeasures_row (fun _ h => by cases h) (by kernel_rfl) (fun _ h => by cases h) epcMeasures_row_tie rfl ⟨rfl, rfl⟩ (by kernel_rfl) rfl
    (fun f fn hf hfn => by
      obtain rfl : f = 9 := Option.some.inj ((show Tryd.prog.funcNamed Rows.epcMeasuresRow.func = some 9 by kernel_rfl).symm.trans hf) |>.symm
      obtain rfl : fn = Tryd.f9 := (Option.some.inj (Tryd.func9.symm.trans hfn)).symm
      exact ⟨by kernel_rfl, fun j t ht => by
        have hm : t ∈ (Tryd.f9).params.toList := by simpa using Array.mem_of_getElem? ht
        have hall : ((Tryd.f9).params.toList.all fun u => !Tryd.prog.wantsStandIn u) = true := by kernel_rfl
        exact (show Tryd.prog.wantsStandIn t = false by simpa using List.all_eq_true.1 hall t hm)⟩)
    (by kernel_rfl)


end Go.Proofs.YtohaapnkipiocaaDoor
