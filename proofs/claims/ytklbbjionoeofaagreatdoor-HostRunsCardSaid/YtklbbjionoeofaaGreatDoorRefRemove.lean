/- ref.RemovedOf, walked. Condition: what fits the form's own reach. -/
import Derived.Test.YtklbbjionoeofaaGreatDoorGl
import Derived.Test.YtklbbjionoeofaaGreatDoorGh
import Derived.Test.YtklbbjionoeofaaGreatDoorRefMachCopy
namespace Go.Proofs.YtklbbjionoeofaaGreatDoor
open Go.RowKit

set_option maxRecDepth 10000 in
set_option maxHeartbeats 1600000 in
theorem refRemoved (v : Value) (M : MachD) (e : Int) (w : World) (hv : MachAt w v M) (hf : M.Fits) : Calls Tryz.prog 19 #[v, .int .i64 e] w (Mach2 w.heap.size (removeD M e) w) := by
  have HV := hid hv
  obtain ⟨fa, fc, ea, ec, qa, qc, rfl, _, _, _, _⟩ := hv
  have B0 : ∀ X Y, Below w.heap.size w ((w.alloc X).alloc Y) := fun X Y => by go_grown
  go_enter Tryz.func19, Tryz.ntmps19
  go_wp2_with fail
  refine (refAsk _ M e (-1) _ (HV.out.mono (B0 _ _)) hf).mono ?_
  rintro x w1 ⟨rfl, hb1⟩
  have p0 : w1.cell? ⟨w.heap.size, 0, none⟩ = some (.slice fa M.frames.length fc) := by rw [(bcell hb1).1 _ _ (by go_size)]; go_simp
  have p1 : w1.cell? ⟨w.heap.size, 1, none⟩ = some (.slice ea M.encl.length ec) := by rw [(bcell hb1).1 _ _ (by go_size)]; go_simp
  have p2 : w1.cell? ⟨w.heap.size, 2, none⟩ = some (.slice qa M.quotes.length qc) := by rw [(bcell hb1).1 _ _ (by go_size)]; go_simp
  have p3 : ∀ o, w1.frozen? ⟨w.heap.size, o, none⟩ = false := fun o => by rw [(bcell hb1).2 _ _ (by go_size)]; go_simp
  have r0 : w1.cell? ⟨w.heap.size + 1, 0, none⟩ = some (.slice none 0 0) := by rw [(bcell hb1).1 _ _ (by go_size)]; go_simp
  have r1 : w1.cell? ⟨w.heap.size + 1, 1, none⟩ = some (.slice none 0 0) := by rw [(bcell hb1).1 _ _ (by go_size)]; go_simp
  have r2 : w1.cell? ⟨w.heap.size + 1, 2, none⟩ = some (.slice none 0 0) := by rw [(bcell hb1).1 _ _ (by go_size)]; go_simp
  have r3 : ∀ o, w1.frozen? ⟨w.heap.size + 1, o, none⟩ = false := fun o => by rw [(bcell hb1).2 _ _ (by go_size)]; go_simp
  have z1 : w.heap.size + 1 < w1.heap.size := by have := hb1.size; simp at this; omega
  have B1 : Below w.heap.size w w1 := (B0 _ _).trans (hb1.mono (by go_size))
  clear hb1
  by_cases h0 : askF M e (-1) = 0
  · obtain ⟨hm0, k, y, he, hk4, hx, _, _⟩ := askF_zero h0
    have HD := hid (removeD_eq h0 he)
    have HS := hid (machF_sizes hm0)
    have HX := hid hx
    rw [h0]
    clear h0 hm0 hx
    go_wp2_with fail
    refine (refMachCopy _ M _ hf (HV.out.mono B1)).mono ?_
    rintro x w2 ⟨fv, ev, qv, F, rfl, hF, hO, hb2⟩
    have hFl : F.length = 24 := by rw [← HS.out.1, ← hF, List.length_map]
    have o1 := hO.f.row
    rw [hFl] at o1
    obtain ⟨f, c1, rfl, _, _⟩ := own_some o1 (by decide)
    have o2 := hO.e
    rw [HS.out.2.1] at o2
    obtain ⟨g, c2, rfl, hg1, hg2⟩ := own_some o2 (by decide)
    obtain ⟨qa2, qc2, rfl⟩ := own_slice hO.q
    have p0 := cell_later hb2 p0
    have p1 := cell_later hb2 p1
    have p2 := cell_later hb2 p2
    have p3 : ∀ o, w2.frozen? ⟨w.heap.size, o, none⟩ = false := fun o => by rw [(bcell hb2).2 _ _ (by omega)]; exact p3 o
    have r0 := cell_later hb2 r0
    have r1 := cell_later hb2 r1
    have r2 := cell_later hb2 r2
    have r3 : ∀ o, w2.frozen? ⟨w.heap.size + 1, o, none⟩ = false := fun o => by rw [(bcell hb2).2 _ _ (by omega)]; exact r3 o
    have z2 : w.heap.size + 1 < w2.heap.size := by have := hb2.size; omega
    have B2 : Below w.heap.size w w2 := B1.trans (hb2.mono (by omega))
    have HO := hid (CopyInv.of hO (by omega) B2 z2 p0 r0 r1 r2 r3 29)
    have HF := hid hF
    clear o1 o2 hFl hO hF hb2 HV B0
    go_upto_region 5 with fail
    refine wp_gen (CopyInv w w2.heap.size (.slice fa M.frames.length fc) (.slice (some ⟨f, 0, none⟩) 24 c1) (.slice (some ⟨g, 0, none⟩) 4 c2) (.slice qa2 M.quotes.length qc2) F M.encl M.quotes) HO.out ?_
    clear HO p0 p1 p2 p3 r0 r1 r2 r3 B2 B1
    intro W HO
    have HO := hid HO
    have k1 := HO.out.c1
    obtain ⟨s0, s1, s2, s3, s4, s5, s6, s9⟩ := HO.out.own.enclAt HX.out
    have HE := hid he
    obtain ⟨E, hE⟩ : ∃ E : Int, E = e := ⟨e, rfl⟩
    subst he
    have hk0 : (0 : Int) ≤ (k : Int) := by omega
    have hk1 : (k : Int) < 4 := by omega
    go_upto_region 6 with fail
    refine wp_gen (CopyInv w w2.heap.size (.slice fa M.frames.length fc) (.slice (some ⟨f, 0, none⟩) 24 c1) (.slice (some ⟨g, 0, none⟩) 4 c2) (.slice qa2 M.quotes.length qc2) F (M.encl.set k emptyEncl) M.quotes) (HO.out.setEncl HS.out.2.1 HX.out emptyEncl) ?_
    clear HO s0 s1 s2 s3 s4 s5 s6 s9 k1
    intro W HO
    have HO := hid HO
    rw [← hE]
    have HEE := hid hE
    rw [← hE] at HD
    clear hE HE
    go_wp2_with fail
    go_loopw [8] (fun j W => ∃ (i : Nat) (F : List (FrameD × Value)), i ≤ 24 ∧ j = .int .i64 i ∧ Hid (F.map Prod.fst = rmTo M.frames E i) ∧ Hid (CopyInv w w2.heap.size (.slice fa M.frames.length fc) (.slice (some ⟨f, 0, none⟩) 24 c1) (.slice (some ⟨g, 0, none⟩) 4 c2) (.slice qa2 M.quotes.length qc2) F (M.encl.set k emptyEncl) M.quotes W)) (fun j _ => 24 - (intOf j).toNat)
    case atStart => exact ⟨0, F, by omega, rfl, by show _ = _; rw [rmTo_zero]; exact HF.out, HO⟩
    case round =>
      obtain ⟨i, F, hi, rfl, HF, HO⟩ := hrel
      have k0 := HO.out.c0
      have HFl : Hid (F.length = 24) := by
        show _ = _
        have := congrArg List.length HF.out
        rw [List.length_map] at this
        rw [this, rmTo]
        simp [HS.out.1]
        omega
      have zb := HO.out.hi
      have zl := HO.out.lo
      by_cases hlt : i < 24
      · obtain ⟨x, hx⟩ : ∃ x, M.frames[i]? = some x := ⟨_, List.getElem?_eq_getElem (by rw [HS.out.1]; exact hlt)⟩
        obtain ⟨wv, hfx⟩ := frame_val HF.out (rmTo_get hx)
        have HFX := hid hfx
        have HX2 := hid hx
        obtain ⟨s0, s1, s2, s3, s9⟩ := HO.out.own.frameAt hfx
        obtain ⟨hf1, hf2⟩ := HO.out.own.f.row.lt f rfl
        have hi0 : (0 : Int) ≤ (i : Int) := by omega
        have hi1 : (i : Int) < 24 := by omega
        obtain ⟨wa, wn, rfl⟩ : ∃ wa wn, wv = .slice wa x.words.length wn := own_slice (HO.out.own.f.sub i _ hfx).1
        have n1 : f ≠ wr.heap.size := by omega
        have n2 : wr.heap.size ≠ f := by omega
        simp only at s0 s1 s2 s3
        clear hfx hx
        by_cases h1 : x.owner = E
        · have h1b : (x.owner == E) = true := by simp [h1]
          have HR := hid (rmTo_step (e := E) HX2.out)
          have hrm : rmF E x = bareF := by simp [rmF, h1]
          rw [hrm] at HR
          have HO3 := hid ((HO.out.bareA HFl.out HFX.out).later (below_drew _))
          have hmk := make8
          clear h1 hrm HO
          go_wp2_with fail
          go_region
          all_goals
            go_wp2_with fail
            go_roundw
            case rel => exact ⟨i + 1, _, by omega, by go_num, by show _ = _; rw [HR.out, map_set_fst, HF.out], HO3⟩
            case measure => simp [intOf]; omega
        · have h1b : (x.owner == E) = false := by simp [h1]
          have HR := hid (rmTo_same HX2.out h1)
          clear h1
          go_wp2_with fail
          go_roundw
          case rel => exact ⟨i + 1, F, by omega, by go_num, by show _ = _; rw [HR.out]; exact HF.out, HO⟩
          case measure => simp [intOf]; omega
      · obtain rfl : i = 24 := by omega
        have k1 := HO.out.c1
        have k2 := HO.out.c2
        have r0 := HO.out.r0
        have r1 := HO.out.r1
        have r2 := HO.out.r2
        have r3 := HO.out.rz
        go_wp2_with fail
        exact bodyPost_ret (v := .tuple #[.agg #[.slice (some ⟨f, 0, none⟩) 24 c1, .slice (some ⟨g, 0, none⟩) 4 c2, .slice qa2 M.quotes.length qc2], .int .i64 0]) (by simp only [results, Tryz.results19]; go_simp) rfl
          (HO.out.done (M := ⟨M.frames.map (rmF E), M.encl.set k emptyEncl, M.quotes⟩) (by rw [HF.out, rmTo_all _ _ _ (by rw [HS.out.1]; exact Nat.le_refl _)]) rfl rfl (by rw [← HEE.out]; exact HD.out))
  · have HD : Hid (removeD M e = (mach0, askF M e (-1))) := by show removeD M e = _; simp [removeD, h0]
    have hE1 : (askF M e (-1) != 0) = true := by rw [bne_iff_ne]; exact h0
    generalize askF M e (-1) = E at HD hE1 h0 ⊢
    clear h0
    go_wp2_with fail
    refine bodyPost_ret (v := .tuple #[.agg #[.slice none 0 0, .slice none 0 0, .slice none 0 0], .int .i64 E]) (by simp [results, Tryz.results19, go_sem, r0, r1, r2]) rfl (Mach2.mk HD.out mach0_from ?_)
    exact below_low3 B1 (by omega) _ _ _

end Go.Proofs.YtklbbjionoeofaaGreatDoor
