/- epc.Create and its reference, walked. Condition: what fits the form's own reach. -/
import Derived.Test.YtklbbjionoeofaaGreatDoorGi
namespace Go.Proofs.YtklbbjionoeofaaGreatDoor
open Go.RowKit

theorem create1_any (x : EnclD) (w : World) : Calls Tryz.prog 60 #[.agg #[.int .i64 x.state, .string x.log, .int .i64 x.pc, .int .i64 x.r0, .int .i64 x.r1, .int .i64 x.r2, .int .i64 x.r3]] w fun e w' => e = .returned (.bool (x.state == 0)) ∧ Below w.heap.size w w' := by
  have B0 : ∀ X, Below w.heap.size w (w.alloc X) := fun X => by go_grown
  go_enter Tryz.func60, Tryz.ntmps60
  go_wp2_with fail
  go_ret
  exact ⟨rfl, B0 _⟩
theorem enters_create1 : ∀ args w, (callFunc 60 args).run Tryz.prog w = .ok (.enter 60 args) w := enters_of Tryz.func60 (by kernel_rfl) rfl
theorem openLog_eq : openLog = ⟨#[111, 112, 101, 110, 59]⟩ := by kernel_rfl
theorem imageOpened (w : World) : Calls Tryz.prog 61 #[] w fun e w' => e = .returned (.string openLog) ∧ w = w' := by
  go_enter Tryz.func61, Tryz.ntmps61
  go_wp2_with fail
  go_ret
  exact ⟨by rw [openLog_eq]; rfl, rfl⟩

set_option maxRecDepth 10000 in
set_option maxHeartbeats 1600000 in
theorem epcCreate (v : Value) (M : MachD) (w : World) (hv : MachAt w v M) (hf : M.Fits) : Calls Tryz.prog 36 #[v] w (Mach3 w.heap.size (createD M) w) := by
  have HV := hid hv
  obtain ⟨fa, fc, ea, ec, qa, qc, rfl, _, hE, _, _⟩ := hv
  have HE := hid hE
  clear hE
  have B0 : ∀ X Y, Below w.heap.size w ((w.alloc X).alloc Y) := fun X Y => by go_grown
  go_enter Tryz.func36, Tryz.ntmps36
  go_wp2_with fail
  refine (epcCheck _ M _ (HV.out.mono (B0 _ _)) hf).mono ?_
  rintro x w1 ⟨rfl, hb1⟩
  have p0 : w1.cell? ⟨w.heap.size, 0, none⟩ = some (.slice fa M.frames.length fc) := by rw [(bcell hb1).1 _ _ (by go_size)]; go_simp
  have p1 : w1.cell? ⟨w.heap.size, 1, none⟩ = some (.slice ea M.encl.length ec) := by rw [(bcell hb1).1 _ _ (by go_size)]; go_simp
  have p2 : w1.cell? ⟨w.heap.size, 2, none⟩ = some (.slice qa M.quotes.length qc) := by rw [(bcell hb1).1 _ _ (by go_size)]; go_simp
  have p3 : ∀ o, w1.frozen? ⟨w.heap.size, o, none⟩ = false := fun o => by rw [(bcell hb1).2 _ _ (by go_size)]; go_simp
  have r0 : w1.cell? ⟨w.heap.size + 1, 0, none⟩ = some (.slice none 0 0) := by rw [(bcell hb1).1 _ _ (by go_size)]; go_simp
  have r1 : w1.cell? ⟨w.heap.size + 1, 1, none⟩ = some (.slice none 0 0) := by rw [(bcell hb1).1 _ _ (by go_size)]; go_simp
  have r2 : w1.cell? ⟨w.heap.size + 1, 2, none⟩ = some (.slice none 0 0) := by rw [(bcell hb1).1 _ _ (by go_size)]; go_simp
  have r3 : ∀ o, w1.frozen? ⟨w.heap.size + 1, o, none⟩ = false := fun o => by rw [(bcell hb1).2 _ _ (by go_size)]; go_simp
  have z1 : w.heap.size + 1 < w1.heap.size := by have := hb1.size; simp at this; omega
  have B1 : Below w.heap.size w w1 := (B0 _ _).trans (hb1.mono (by go_size))
  clear hb1
  by_cases h0 : machF M = 0
  · have HS := hid (machF_sizes h0)
    rw [h0]
    have e4 : M.encl.length = 4 := HS.out.2.1
    rw [e4] at p1 HV ⊢
    have HL := hid e4
    clear e4
    have H0 := hid h0
    clear h0
    go_wp2_with fail
    refine (indexFuncEncls 60 #[] ea M.encl 4 ec (fun x => x.state == 0) _ (by omega) HL.out enters_create1 (HE.out.mono B1) (fun i x _ W hW => create1_any x W)).mono ?_
    rintro x w2 ⟨rfl, hb2⟩
    have p0 := cell_later hb2 p0
    have p1 := cell_later hb2 p1
    have p2 := cell_later hb2 p2
    have p3 : ∀ o, w2.frozen? ⟨w.heap.size, o, none⟩ = false := fun o => by rw [(bcell hb2).2 _ _ (by omega)]; exact p3 o
    have r0 := cell_later hb2 r0
    have r1 := cell_later hb2 r1
    have r2 := cell_later hb2 r2
    have r3 : ∀ o, w2.frozen? ⟨w.heap.size + 1, o, none⟩ = false := fun o => by rw [(bcell hb2).2 _ _ (by omega)]; exact r3 o
    have z2 : w.heap.size + 1 < w2.heap.size := by have := hb2.size; omega
    have B2 : Below w.heap.size w w2 := B1.trans (hb2.mono (by omega))
    clear hb2
    have HI : Hid (findI (fun x : EnclD => x.state == 0) M.encl = firstEmpty M) := rfl
    have h4 : firstEmpty M < 4 := by have := findI_lt (p := fun x : EnclD => x.state == 0) (l := M.encl); rw [HL.out] at this; exact this
    have hge : -1 ≤ firstEmpty M := findI_ge
    have HG : Hid (∀ i : Nat, firstEmpty M = i → ∃ x, M.encl[i]? = some x ∧ (x.state == 0) = true) := fun i h => findI_get h
    have HD : Hid (createD M = if firstEmpty M < 0 then (mach0, 0, 7) else (⟨M.frames, M.encl.set (firstEmpty M).toNat newEncl, M.quotes⟩, firstEmpty M + 1, 0)) := by show createD M = _; simp [createD, H0.out]
    rw [HI.out]
    generalize firstEmpty M = I at HI h4 hge HG HD ⊢
    by_cases hI : I < 0
    · have HD' : Hid (createD M = (mach0, 0, 7)) := by show createD M = _; rw [HD.out, if_pos hI]
      clear HD HG HI
      go_wp2_with fail
      refine bodyPost_ret (v := .tuple #[.agg #[.slice none 0 0, .slice none 0 0, .slice none 0 0], .int .i64 0, .int .i64 7]) (by simp [results, Tryz.results36, go_sem, r0, r1, r2]) rfl (Mach3.mk HD'.out mach0_from ?_)
      exact below_low3 B2 (by omega) _ _ _
    · obtain ⟨i, rfl⟩ : ∃ i : Nat, I = i := ⟨I.toNat, by omega⟩
      obtain ⟨y, hy, _⟩ := HG.out i rfl
      have HD' : Hid (createD M = (⟨M.frames, M.encl.set i newEncl, M.quotes⟩, (i : Int) + 1, 0)) := by show createD M = _; rw [HD.out, if_neg hI, Int.toNat_natCast]
      have HY := hid hy
      have hi4 : i < 4 := by omega
      have hI' : ¬ (i : Int) < 0 := hI
      clear HD HG HI hy hI h4 hge
      go_wp2_with fail
      refine (epcCopy _ M _ hf (HV.out.mono B2)).mono ?_
      rintro x w3 ⟨fv, ev, qv, F, rfl, hF, hO, hb3⟩
      have hFl : F.length = 24 := by rw [← HS.out.1, ← hF, List.length_map]
      have o1 := hO.f.row
      rw [hFl] at o1
      obtain ⟨f, c1, rfl, _, _⟩ := own_some o1 (by decide)
      have o2 := hO.e
      rw [HL.out] at o2
      obtain ⟨g, c2, rfl, hg1, hg2⟩ := own_some o2 (by decide)
      obtain ⟨qa2, qc2, rfl⟩ := own_slice hO.q
      obtain ⟨s0, s1, s2, s3, s4, s5, s6, s9⟩ := hO.enclAt HY.out
      have p0 := cell_later hb3 p0
      have p1 := cell_later hb3 p1
      have p2 := cell_later hb3 p2
      have p3 : ∀ o, w3.frozen? ⟨w.heap.size, o, none⟩ = false := fun o => by rw [(bcell hb3).2 _ _ (by omega)]; exact p3 o
      have r0 := cell_later hb3 r0
      have r1 := cell_later hb3 r1
      have r2 := cell_later hb3 r2
      have r3 : ∀ o, w3.frozen? ⟨w.heap.size + 1, o, none⟩ = false := fun o => by rw [(bcell hb3).2 _ _ (by omega)]; exact r3 o
      have z3 : w.heap.size + 1 < w3.heap.size := by have := hb3.size; omega
      have B3 : Below w.heap.size w w3 := B2.trans (hb3.mono (by omega))
      have hgn : w.heap.size ≠ g := by omega
      have hgn1 : w.heap.size + 1 ≠ g := by omega
      have HO := hid (OpenM.of hO (by omega) B3 z3 p0 p1 p2 p3 r0 r1 r2 r3)
      have HF := hid hF
      clear o1 o2 hFl hO hF hb3 HV B0 B1 B2 HE
      go_wp2_with fail
      go_region_with (go_at_call 61; refine (imageOpened _).mono ?_; rintro x w' ⟨rfl, rfl⟩)
      all_goals
        refine act_gen (OpenM w (.slice (some ⟨f, 0, none⟩) 24 c1) (.slice (some ⟨g, 0, none⟩) 4 c2) (.slice qa2 M.quotes.length qc2) F (M.encl.set i newEncl) M.quotes) ((HO.out.setEncl HL.out HY.out newEncl).later (below_drew _)) ?_
        clear s0 s1 s2 s3 s4 s5 s6 s9 p0 p1 p2 p3 r0 r1 r2 r3 z3 B3 hg1 hg2 HO
        intro W HO
        have k0 := HO.c0
        have k1 := HO.c1
        have k2 := HO.c2
        have r0 := HO.r0
        have r1 := HO.r1
        have r2 := HO.r2
        have r3 := HO.rz
        have z3 := HO.z
        go_wp2_with fail
        exact bodyPost_ret (v := .tuple #[.agg #[.slice (some ⟨f, 0, none⟩) 24 c1, .slice (some ⟨g, 0, none⟩) 4 c2, .slice qa2 M.quotes.length qc2], .int .i64 ((i : Int) + 1), .int .i64 0]) (by simp only [results, Tryz.results36]; go_simp) rfl (HO.done3 (M := ⟨M.frames, M.encl.set i newEncl, M.quotes⟩) HF.out rfl rfl HD'.out)
  · have HD : Hid (createD M = (mach0, 0, machF M)) := by show createD M = _; simp [createD, h0]
    have hE1 : (machF M != 0) = true := by rw [bne_iff_ne]; exact h0
    generalize machF M = E at HD hE1 h0 ⊢
    clear h0
    go_wp2_with fail
    refine bodyPost_ret (v := .tuple #[.agg #[.slice none 0 0, .slice none 0 0, .slice none 0 0], .int .i64 0, .int .i64 E]) (by simp [results, Tryz.results36, go_sem, r0, r1, r2]) rfl (Mach3.mk HD.out mach0_from ?_)
    exact below_low3 B1 (by omega) _ _ _

end Go.Proofs.YtklbbjionoeofaaGreatDoor
