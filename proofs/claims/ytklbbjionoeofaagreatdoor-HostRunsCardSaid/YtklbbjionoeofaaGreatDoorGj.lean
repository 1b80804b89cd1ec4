/- epc.Start, walked. Condition: what fits the form's own reach.
ref.StartedOf, walked. Condition: what fits the form's own reach. -/
import Derived.Test.YtklbbjionoeofaaGreatDoorGi
import Derived.Test.YtklbbjionoeofaaGreatDoorGh
import Derived.Test.YtklbbjionoeofaaGreatDoorRefMachCopy
namespace Go.Proofs.YtklbbjionoeofaaGreatDoor
open Go.RowKit

set_option maxRecDepth 10000 in
set_option maxHeartbeats 3200000 in
theorem epcStart (v : Value) (M : MachD) (e : Int) (w : World) (hv : MachAt w v M) (hf : M.Fits) : Calls Tryz.prog 39 #[v, .int .i64 e] w (Mach2 w.heap.size (startD M e) w) := by
  have HV := hid hv
  obtain ⟨fa, fc, ea, ec, qa, qc, rfl, _, _, _, _⟩ := hv
  have B0 : ∀ X Y, Below w.heap.size w ((w.alloc X).alloc Y) := fun X Y => by go_grown
  go_enter Tryz.func39, Tryz.ntmps39
  go_wp2_with fail
  refine (epcBegin _ M e 1 _ (HV.out.mono (B0 _ _)) hf).mono ?_
  rintro x w1 ⟨hb1, hx⟩
  have p0 : w1.cell? ⟨w.heap.size, 0, none⟩ = some (.slice fa M.frames.length fc) := by rw [(bcell hb1).1 _ _ (by go_size)]; go_simp
  have p1 : w1.cell? ⟨w.heap.size, 1, none⟩ = some (.slice ea M.encl.length ec) := by rw [(bcell hb1).1 _ _ (by go_size)]; go_simp
  have p2 : w1.cell? ⟨w.heap.size, 2, none⟩ = some (.slice qa M.quotes.length qc) := by rw [(bcell hb1).1 _ _ (by go_size)]; go_simp
  have p3 : ∀ o, w1.frozen? ⟨w.heap.size, o, none⟩ = false := fun o => by rw [(bcell hb1).2 _ _ (by go_size)]; go_simp
  have r0 : w1.cell? ⟨w.heap.size + 1, 0, none⟩ = some (.slice none 0 0) := by rw [(bcell hb1).1 _ _ (by go_size)]; go_simp
  have r1 : w1.cell? ⟨w.heap.size + 1, 1, none⟩ = some (.slice none 0 0) := by rw [(bcell hb1).1 _ _ (by go_size)]; go_simp
  have r2 : w1.cell? ⟨w.heap.size + 1, 2, none⟩ = some (.slice none 0 0) := by rw [(bcell hb1).1 _ _ (by go_size)]; go_simp
  have r3 : ∀ o, w1.frozen? ⟨w.heap.size + 1, o, none⟩ = false := fun o => by rw [(bcell hb1).2 _ _ (by go_size)]; go_simp
  have z1 : w.heap.size + 1 < w1.heap.size := by have := hb1.size; simp at this; omega
  have B1 : Below w.heap.size w w1 := (B0 _ _).trans (hb1.mono (by go_size))
  rcases hx with ⟨hne, rfl⟩ | ⟨h0, hm0, k, y, f, c1, g, c2, qv, F, rfl, hk4, hx, hy, hs, rfl, hF, hO⟩
  · have HD : Hid (startD M e = (mach0, askF M e 1)) := by show startD M e = _; simp [startD, hne]
    have hE1 : (askF M e 1 != 0) = true := by rw [bne_iff_ne]; exact hne
    generalize askF M e 1 = E at HD hE1 ⊢
    clear hne hb1
    go_wp2_with fail
    refine bodyPost_ret (v := .tuple #[.agg #[.slice none 0 0, .slice none 0 0, .slice none 0 0], .int .i64 E]) (by simp [results, Tryz.results39, go_sem, r0, r1, r2]) rfl (Mach2.mk HD.out mach0_from ?_)
    exact (((((B1.setCell (by simp) _).setCell (by simp) _).setCell (by simp) _).setCell (by simp) _).setCell (by simp) _).setCell (by simp) _
  · obtain ⟨s0, _, _, _, _, _, _, s9⟩ := hO.enclAt hx
    have hO2 := hO.mono (b' := w.heap.size + 2) (by go_size)
    obtain ⟨hg1, hg2⟩ := hO2.e.lt g rfl
    have hgn : w.heap.size ≠ g := by omega
    have hgn1 : w.heap.size + 1 ≠ g := by omega
    have hl := (machF_sizes hm0).2.1
    obtain ⟨qa2, qc2, rfl⟩ := own_slice hO2.q
    have HD : Hid (startD M ((k : Int) + 1) = (⟨M.frames, M.encl.set k { y with state := 2 }, M.quotes⟩, 0)) := by
      show startD M _ = _
      rw [startD, if_neg (fun h => h h0), show ((k : Int) + 1 - 1).toNat = k by omega, upd_some hx]
    have HO := hid hO2
    have HF := hid hF
    have HX := hid hx
    have HL := hid hl
    clear hO hO2 hF hx hl h0 hm0 hs hb1 hy HV B0
    go_wp2_with fail
    have K := ((HO.out.low3 (b := w.heap.size) (by omega) (.slice (some ⟨f, 0, none⟩) 24 c1) (.slice (some ⟨g, 0, none⟩) 4 c2) (.slice qa2 M.quotes.length qc2)).setE (j := 0) (u := .int .i64 2) (x' := { y with state := 2 }) HL.out HX.out (by decide) rfl).low3 (b := w.heap.size + 1) (by omega) (.slice (some ⟨f, 0, none⟩) 24 c1) (.slice (some ⟨g, 0, none⟩) 4 c2) (.slice qa2 M.quotes.length qc2)
    have KB := below_low3 (below_at (below_low3 B1 (Nat.le_refl _) (.slice (some ⟨f, 0, none⟩) 24 c1) (.slice (some ⟨g, 0, none⟩) 4 c2) (.slice qa2 M.quotes.length qc2)) (b := g) (by omega) (k * 7) (.int .i64 2)) (b := w.heap.size + 1) (by omega) (.slice (some ⟨f, 0, none⟩) 24 c1) (.slice (some ⟨g, 0, none⟩) 4 c2) (.slice qa2 M.quotes.length qc2)
    exact bodyPost_ret (v := .tuple #[.agg #[.slice (some ⟨f, 0, none⟩) 24 c1, .slice (some ⟨g, 0, none⟩) 4 c2, .slice qa2 M.quotes.length qc2], .int .i64 0]) (by simp [results, Tryz.results39, go_sem, r0, r1, r2]) rfl (Mach2.mk HD.out (OwnMach.from' (M := ⟨M.frames, M.encl.set k { y with state := 2 }, M.quotes⟩) K HF.out (by omega)) KB)

end Go.Proofs.YtklbbjionoeofaaGreatDoor

namespace Go.Proofs.YtklbbjionoeofaaGreatDoor
open Go.RowKit

set_option maxRecDepth 10000 in
set_option maxHeartbeats 3200000 in
theorem refStarted (v : Value) (M : MachD) (e : Int) (w : World) (hv : MachAt w v M) (hf : M.Fits) : Calls Tryz.prog 18 #[v, .int .i64 e] w (Mach2 w.heap.size (startD M e) w) := by
  have HV := hid hv
  obtain ⟨fa, fc, ea, ec, qa, qc, rfl, _, _, _, _⟩ := hv
  have B0 : ∀ X Y, Below w.heap.size w ((w.alloc X).alloc Y) := fun X Y => by go_grown
  go_enter Tryz.func18, Tryz.ntmps18
  go_wp2_with fail
  refine (refAsk _ M e 1 _ (HV.out.mono (B0 _ _)) hf).mono ?_
  rintro x w1 ⟨rfl, hb1⟩
  have p0 : w1.cell? ⟨w.heap.size, 0, none⟩ = some (.slice fa M.frames.length fc) := by rw [(bcell hb1).1 _ _ (by go_size)]; go_simp
  have p1 : w1.cell? ⟨w.heap.size, 1, none⟩ = some (.slice ea M.encl.length ec) := by rw [(bcell hb1).1 _ _ (by go_size)]; go_simp
  have p2 : w1.cell? ⟨w.heap.size, 2, none⟩ = some (.slice qa M.quotes.length qc) := by rw [(bcell hb1).1 _ _ (by go_size)]; go_simp
  have p3 : ∀ o, w1.frozen? ⟨w.heap.size, o, none⟩ = false := fun o => by rw [(bcell hb1).2 _ _ (by go_size)]; go_simp
  have r0 : w1.cell? ⟨w.heap.size + 1, 0, none⟩ = some (.slice none 0 0) := by rw [(bcell hb1).1 _ _ (by go_size)]; go_simp
  have r1 : w1.cell? ⟨w.heap.size + 1, 1, none⟩ = some (.slice none 0 0) := by rw [(bcell hb1).1 _ _ (by go_size)]; go_simp
  have r2 : w1.cell? ⟨w.heap.size + 1, 2, none⟩ = some (.slice none 0 0) := by rw [(bcell hb1).1 _ _ (by go_size)]; go_simp
  have r3 : ∀ o, w1.frozen? ⟨w.heap.size + 1, o, none⟩ = false := fun o => by rw [(bcell hb1).2 _ _ (by go_size)]; go_simp
  have z1 : w.heap.size + 1 < w1.heap.size := by have := hb1.size; simp at this; omega
  have B1 : Below w.heap.size w w1 := (B0 _ _).trans (hb1.mono (by go_size))
  clear hb1
  by_cases h0 : askF M e 1 = 0
  · obtain ⟨hm0, k, y, rfl, hk4, hx, _, _⟩ := askF_zero h0
    rw [h0]
    have HD : Hid (startD M ((k : Int) + 1) = (⟨M.frames, M.encl.set k { y with state := 2 }, M.quotes⟩, 0)) := by
      show startD M _ = _
      rw [startD, if_neg (fun h => h h0), show ((k : Int) + 1 - 1).toNat = k by omega, upd_some hx]
    have HS := hid (machF_sizes hm0)
    have HX := hid hx
    clear h0 hm0 hx
    go_wp2_with fail
    refine (refMachCopy _ M _ hf (HV.out.mono B1)).mono ?_
    rintro x w2 ⟨fv, ev, qv, F, rfl, hF, hO, hb2⟩
    have hFl : F.length = 24 := by rw [← HS.out.1, ← hF, List.length_map]
    have o1 := hO.f.row
    rw [hFl] at o1
    obtain ⟨f, c1, rfl, _, _⟩ := own_some o1 (by decide)
    have o2 := hO.e
    rw [HS.out.2.1] at o2
    obtain ⟨g, c2, rfl, hg1, hg2⟩ := own_some o2 (by decide)
    obtain ⟨qa2, qc2, rfl⟩ := own_slice hO.q
    obtain ⟨s0, _, _, _, _, _, _, s9⟩ := hO.enclAt HX.out
    have t0 := cell_later hb2 r0
    have t1 := cell_later hb2 r1
    have t2 := cell_later hb2 r2
    have t3 : ∀ o, w2.frozen? ⟨w.heap.size + 1, o, none⟩ = false := fun o => by rw [(bcell hb2).2 _ _ (by omega)]; exact r3 o
    have z2 : w.heap.size + 1 < w2.heap.size := by have := hb2.size; omega
    have hgn : w2.heap.size ≠ g := by omega
    have hgn1 : w.heap.size + 1 ≠ g := by omega
    have hgn2 : w2.heap.size ≠ w.heap.size + 1 := by omega
    have hgn3 : w.heap.size + 1 ≠ w2.heap.size := by omega
    have B2 : Below w.heap.size w w2 := B1.trans (hb2.mono (by omega))
    have HO := hid (hO.mono (b' := w.heap.size + 2) (by omega))
    have HF := hid hF
    clear o1 o2 hFl hO hF hb2 p0 p1 p2 p3 r0 r1 r2 r3 HV B0
    rw [HS.out.1, HS.out.2.1]
    go_wp2_with fail
    have K := (((HO.out.setE (j := 0) (u := .int .i64 2) (x' := { y with state := 2 }) HS.out.2.1 HX.out (by decide) rfl).low3 (b := w.heap.size + 1) (by omega) (.slice (some ⟨f, 0, none⟩) 24 c1) (.slice (some ⟨g, 0, none⟩) 4 c2) (.slice qa2 M.quotes.length qc2))).below (below_alloc _ (.cells #[.slice (some ⟨f, 0, none⟩) 24 c1, .slice (some ⟨g, 0, none⟩) 4 c2, .slice qa2 M.quotes.length qc2] 29))
    have KB := (below_low3 (below_at B2 (b := g) (by omega) (k * 7) (.int .i64 2)) (b := w.heap.size + 1) (by omega) (.slice (some ⟨f, 0, none⟩) 24 c1) (.slice (some ⟨g, 0, none⟩) 4 c2) (.slice qa2 M.quotes.length qc2)).trans ((below_alloc _ (.cells #[.slice (some ⟨f, 0, none⟩) 24 c1, .slice (some ⟨g, 0, none⟩) 4 c2, .slice qa2 M.quotes.length qc2] 29)).mono (by simp; omega))
    refine bodyPost_ret (v := .tuple #[.agg #[.slice (some ⟨f, 0, none⟩) 24 c1, .slice (some ⟨g, 0, none⟩) 4 c2, .slice qa2 M.quotes.length qc2], .int .i64 0]) (by simp only [results, Tryz.results18]; go_simp) rfl (Mach2.mk HD.out ?_ ?_)
    · exact OwnMach.from' (M := ⟨M.frames, M.encl.set k { y with state := 2 }, M.quotes⟩) K HF.out (by omega)
    · exact KB
  · have HD : Hid (startD M e = (mach0, askF M e 1)) := by show startD M e = _; simp [startD, h0]
    have hE1 : (askF M e 1 != 0) = true := by rw [bne_iff_ne]; exact h0
    have hE2 : (askF M e 1 == 0) = false := by rw [beq_eq_false_iff_ne]; exact h0
    generalize askF M e 1 = E at HD hE1 hE2 h0 ⊢
    clear h0
    go_wp2_with fail
    refine bodyPost_ret (v := .tuple #[.agg #[.slice none 0 0, .slice none 0 0, .slice none 0 0], .int .i64 E]) (by simp [results, Tryz.results18, go_sem, r0, r1, r2]) rfl (Mach2.mk HD.out mach0_from ?_)
    exact ((B1.setCell (by simp) _).setCell (by simp) _).setCell (by simp) _

end Go.Proofs.YtklbbjionoeofaaGreatDoor
