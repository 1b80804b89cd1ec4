/- ref.CreatedOf, walked. Condition: what fits the form's own reach. -/
import Derived.Test.YtklbbjionoeofaaGreatDoorGi
import Derived.Test.YtklbbjionoeofaaGreatDoorRefMachCopy
import Derived.Test.YtklbbjionoeofaaGreatDoorFault
import Derived.Test.YtklbbjionoeofaaGreatDoorCreate
namespace Go.Proofs.YtklbbjionoeofaaGreatDoor
open Go.RowKit

set_option maxRecDepth 10000 in
set_option maxHeartbeats 1600000 in
theorem refCreated (v : Value) (M : MachD) (w : World) (hv : MachAt w v M) (hf : M.Fits) : Calls Tryz.prog 15 #[v] w (Mach3 w.heap.size (createD M) w) := by
  have HV := hid hv
  obtain ⟨fa, fc, ea, ec, qa, qc, rfl, _, hE, _, _⟩ := hv
  have HE := hid hE
  clear hE
  have B0 : ∀ X Y, Below w.heap.size w ((w.alloc X).alloc Y) := fun X Y => by go_grown
  go_enter Tryz.func15, Tryz.ntmps15
  go_wp2_with fail
  refine (refFault _ M _ (HV.out.mono (B0 _ _)) hf).mono ?_
  rintro x w1 ⟨rfl, hb1⟩
  have p0 : w1.cell? ⟨w.heap.size, 0, none⟩ = some (.slice fa M.frames.length fc) := by rw [(bcell hb1).1 _ _ (by go_size)]; go_simp
  have p1 : w1.cell? ⟨w.heap.size, 1, none⟩ = some (.slice ea M.encl.length ec) := by rw [(bcell hb1).1 _ _ (by go_size)]; go_simp
  have p2 : w1.cell? ⟨w.heap.size, 2, none⟩ = some (.slice qa M.quotes.length qc) := by rw [(bcell hb1).1 _ _ (by go_size)]; go_simp
  have p3 : ∀ o, w1.frozen? ⟨w.heap.size, o, none⟩ = false := fun o => by rw [(bcell hb1).2 _ _ (by go_size)]; go_simp
  have r0 : w1.cell? ⟨w.heap.size + 1, 0, none⟩ = some (.slice none 0 0) := by rw [(bcell hb1).1 _ _ (by go_size)]; go_simp
  have r1 : w1.cell? ⟨w.heap.size + 1, 1, none⟩ = some (.slice none 0 0) := by rw [(bcell hb1).1 _ _ (by go_size)]; go_simp
  have r2 : w1.cell? ⟨w.heap.size + 1, 2, none⟩ = some (.slice none 0 0) := by rw [(bcell hb1).1 _ _ (by go_size)]; go_simp
  have r3 : ∀ o, w1.frozen? ⟨w.heap.size + 1, o, none⟩ = false := fun o => by rw [(bcell hb1).2 _ _ (by go_size)]; go_simp
  have z1 : w.heap.size + 1 < w1.heap.size := by have := hb1.size; simp at this; omega
  have B1 : Below w.heap.size w w1 := (B0 _ _).trans (hb1.mono (by go_size))
  clear hb1
  by_cases h0 : machF M = 0
  · have HS := hid (machF_sizes h0)
    rw [h0]
    have e4 : M.encl.length = 4 := HS.out.2.1
    rw [e4] at p1 HV ⊢
    have HL := hid e4
    clear e4
    have H0 := hid h0
    clear h0
    have HD : Hid (createD M = if firstEmpty M < 0 then (mach0, 0, 7) else (⟨M.frames, M.encl.set (firstEmpty M).toNat newEncl, M.quotes⟩, firstEmpty M + 1, 0)) := by show createD M = _; simp [createD, H0.out]
    go_wp2_with fail
    go_loop [6] (fun j => ∃ i : Nat, i ≤ 4 ∧ j = .int .i64 i ∧ Hid (∀ (j : Nat) y, j < i → M.encl[j]? = some y → (y.state == 0) = false)) (fun j => 4 - (intOf j).toNat)
    case atStart => exact ⟨0, by omega, rfl, fun _ _ h => by omega⟩
    case round =>
      obtain ⟨i, hi, rfl, HI⟩ := hrel
      by_cases hlt : i < 4
      · obtain ⟨y, hy⟩ : ∃ y, M.encl[i]? = some y := ⟨_, List.getElem?_eq_getElem (by rw [HL.out]; exact hlt)⟩
        obtain ⟨eb, eo, rfl, m0, _⟩ := HE.out i y hy
        have n0 := cell_later B1 m0
        have HY := hid hy
        clear m0 hy
        have hi1 : (i : Int) < 4 := by omega
        have hi0 : (0 : Int) ≤ (i : Int) := by omega
        by_cases hs : y.state = 0
        · have hsb : (y.state == 0) = true := by simp [hs]
          have hF : firstEmpty M = i := findI_some HY.out hsb HI.out
          have HD' : Hid (createD M = (⟨M.frames, M.encl.set i newEncl, M.quotes⟩, (i : Int) + 1, 0)) := by show createD M = _; rw [HD.out, hF, if_neg (by omega), Int.toNat_natCast]
          clear HD hF HI hs
          go_wp2_with fail
          refine (refMachCopy _ M _ hf (HV.out.mono B1)).mono ?_
          rintro x w2 ⟨fv, ev, qv, F, rfl, hF, hO, hb2⟩
          have hFl : F.length = 24 := by rw [← HS.out.1, ← hF, List.length_map]
          have o1 := hO.f.row
          rw [hFl] at o1
          obtain ⟨f, c1, rfl, _, _⟩ := own_some o1 (by decide)
          have o2 := hO.e
          rw [HL.out] at o2
          obtain ⟨g, c2, rfl, hg1, hg2⟩ := own_some o2 (by decide)
          obtain ⟨qa2, qc2, rfl⟩ := own_slice hO.q
          obtain ⟨s0, s1, s2, s3, s4, s5, s6, s9⟩ := hO.enclAt HY.out
          have p0 := cell_later hb2 p0
          have p1 := cell_later hb2 p1
          have p2 := cell_later hb2 p2
          have p3 : ∀ o, w2.frozen? ⟨w.heap.size, o, none⟩ = false := fun o => by rw [(bcell hb2).2 _ _ (by omega)]; exact p3 o
          have r0 := cell_later hb2 r0
          have r1 := cell_later hb2 r1
          have r2 := cell_later hb2 r2
          have r3 : ∀ o, w2.frozen? ⟨w.heap.size + 1, o, none⟩ = false := fun o => by rw [(bcell hb2).2 _ _ (by omega)]; exact r3 o
          have z2 : w.heap.size + 1 < w2.heap.size := by have := hb2.size; omega
          have B2 : Below w.heap.size w w2 := B1.trans (hb2.mono (by omega))
          have HO := hid (CopyInv.of hO (by omega) B2 z2 p0 r0 r1 r2 r3 29)
          have HF := hid hF
          rw [HS.out.1]
          clear o1 o2 hFl hO hF hb2 HV B0 HE s0 s1 s2 s3 s4 s5 s6 s9
          go_upto_region 9 with fail
          refine wp_gen (CopyInv w w2.heap.size (.slice fa M.frames.length fc) (.slice (some ⟨f, 0, none⟩) 24 c1) (.slice (some ⟨g, 0, none⟩) 4 c2) (.slice qa2 M.quotes.length qc2) F M.encl M.quotes) HO.out ?_
          clear HO p0 p1 p2 p3 r0 r1 r2 r3 z2 B2 n0
          intro W HO
          have k1 := HO.c1
          obtain ⟨s0, s1, s2, s3, s4, s5, s6, s9⟩ := HO.own.enclAt HY.out
          go_upto_region 10 with fail
          refine wp_gen (CopyInv w w2.heap.size (.slice fa M.frames.length fc) (.slice (some ⟨f, 0, none⟩) 24 c1) (.slice (some ⟨g, 0, none⟩) 4 c2) (.slice qa2 M.quotes.length qc2) F (M.encl.set i newEncl) M.quotes) (HO.setEncl HL.out HY.out newEncl) ?_
          clear HO k1 s0 s1 s2 s3 s4 s5 s6 s9
          intro W2 HO
          have k0 := HO.c0
          have k1 := HO.c1
          have k2 := HO.c2
          have r0 := HO.r0
          have r1 := HO.r1
          have r2 := HO.r2
          have r3 := HO.rz
          go_wp2_with fail
          exact bodyPost_ret (v := .tuple #[.agg #[.slice (some ⟨f, 0, none⟩) 24 c1, .slice (some ⟨g, 0, none⟩) 4 c2, .slice qa2 M.quotes.length qc2], .int .i64 ((i : Int) + 1), .int .i64 0]) (by simp only [results, Tryz.results15]; go_simp) rfl (HO.done3 (M := ⟨M.frames, M.encl.set i newEncl, M.quotes⟩) HF.out rfl rfl HD'.out)
        · have hsb : (y.state == 0) = false := by simp [hs]
          have HI' : Hid (∀ (j : Nat) z, j < i + 1 → M.encl[j]? = some z → (z.state == 0) = false) := fun j z hj hz => by
            by_cases hji : j < i
            · exact HI.out j z hji hz
            · obtain rfl : j = i := by omega
              rw [HY.out] at hz
              rw [← Option.some.inj hz]
              exact hsb
          clear hs HI
          go_wp2_with fail
          go_round
          case rel => exact ⟨i + 1, by omega, by go_num, HI'⟩
          case measure => simp [intOf]; omega
      · obtain rfl : i = 4 := by omega
        have hF : firstEmpty M = -1 := findI_none fun j y hy => HI.out j y (by rw [← HL.out]; exact (List.getElem?_eq_some_iff.1 hy).1) hy
        have HD' : Hid (createD M = (mach0, 0, 7)) := by show createD M = _; rw [HD.out, hF]; rfl
        clear HD hF HI
        go_wp2_with fail
        refine bodyPost_ret (v := .tuple #[.agg #[.slice none 0 0, .slice none 0 0, .slice none 0 0], .int .i64 0, .int .i64 7]) (by simp [results, Tryz.results15, go_sem, r0, r1, r2]) rfl (Mach3.mk HD'.out mach0_from ?_)
        exact below_low3 B1 (by omega) _ _ _
  · have HD : Hid (createD M = (mach0, 0, machF M)) := by show createD M = _; simp [createD, h0]
    have hE1 : (machF M != 0) = true := by rw [bne_iff_ne]; exact h0
    generalize machF M = E at HD hE1 h0 ⊢
    clear h0
    go_wp2_with fail
    refine bodyPost_ret (v := .tuple #[.agg #[.slice none 0 0, .slice none 0 0, .slice none 0 0], .int .i64 0, .int .i64 E]) (by simp [results, Tryz.results15, go_sem, r0, r1, r2]) rfl (Mach3.mk HD.out mach0_from ?_)
    exact below_low3 B1 (by omega) _ _ _

end Go.Proofs.YtklbbjionoeofaaGreatDoor
