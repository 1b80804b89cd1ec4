/- epc.Start, walked. Condition: what fits the form's own reach.
ref.StartedOf, walked. Condition: what fits the form's own reach. -/
import Derived.Test.YtbamacddfonloaaDoorGi
import Derived.Test.YtbamacddfonloaaDoorGh
import Derived.Test.YtbamacddfonloaaDoorRefMachCopy
namespace Go.Proofs.YtbamacddfonloaaDoor
open Go.RowKit

set_option maxRecDepth 10000 in
set_option maxHeartbeats 3200000 in
theorem epcStart (v : Value) (M : MachD) (e : Int) (w : World) (hv : MachAt w v M) (hf : M.Fits) : Calls Tryd.prog 63 #[v, .int .i64 e] w (Mach2 w.heap.size (startD M e) w) := by
  have HV := hid hv
  obtain ⟨fa, fc, ea, ec, qa, qc, rfl, _, _, _, _⟩ := hv
  have B0 : ∀ X Y, Below w.heap.size w ((w.alloc X).alloc Y) := fun X Y => by go_grown
  go_enter Tryd.func63, Tryd.ntmps63
  go_wp2_with fail
  refine (epcBegin _ M e 1 _ (HV.out.mono (B0 _ _)) hf).mono ?_
  rintro x w1 ⟨hb1, hx⟩
  have p0 : w1.cell? ⟨w.heap.size, 0, none⟩ = some (.slice fa M.frames.length fc) := by rw [(bcell hb1).1 _ _ (by go_size)]; go_simp
  have p1 : w1.cell? ⟨w.heap.size, 1, none⟩ = some (.slice ea M.encl.length ec) := by rw [(bcell hb1).1 _ _ (by go_size)]; go_simp
  have p2 : w1.cell? ⟨w.heap.size, 2, none⟩ = some (.slice qa M.quotes.length qc) := by rw [(bcell hb1).1 _ _ (by go_size)]; go_simp
  have p3 : ∀ o, w1.frozen? ⟨w.heap.size, o, none⟩ = false := fun o => by rw [(bcell hb1).2 _ _ (by go_size)]; go_simp
  have r0 : w1.cell? ⟨w.heap.size + 1, 0, none⟩ = some (.slice none 0 0) := by rw [(bcell hb1).1 _ _ (by go_size)]; go_simp
  have r1 : w1.cell? ⟨w.heap.size + 1, 1, none⟩ = some (.slice none 0 0) := by rw [(bcell hb1).1 _ _ (by go_size)]; go_simp
  have r2 : w1.cell? ⟨w.heap.size + 1, 2, none⟩ = some (.slice none 0 0) := by rw [(bcell hb1).1 _ _ (by go_size)]; go_simp
  have r3 : ∀ o, w1.frozen? ⟨w.heap.size + 1, o, none⟩ = false := fun o => by rw [(bcell hb1).2 _ _ (by go_size)]; go_simp
  have z1 : w.heap.size + 1 < w1.heap.size := by have := hb1.size; simp at this; omega
  have B1 : Below w.heap.size w w1 := (B0 _ _).trans (hb1.mono (by go_size))
  rcases hx with ⟨hne, rfl⟩ | ⟨h0, hm0, k, y, f, c1, g, c2, qv, F, rfl, hk4, hx, hy, hs, rfl, hF, hO⟩
  · have HD : Hid (startD M e = (mach0, askF M e 1)) := by show startD M e = _; simp [startD, hne]
    have hE1 : (askF M e 1 != 0) = true := by rw [bne_iff_ne]; exact hne
    generalize askF M e 1 = E at HD hE1 ⊢
    clear hne hb1
    go_wp2_with fail
    refine bodyPost_ret (v := .tuple #[.agg #[.slice none 0 0, .slice none 0 0, .slice none 0 0], .int .i64 E]) (by simp [results, Tryd.results63, go_sem, r0, r1, r2]) rfl (Mach2.mk HD.out mach0_from ?_)
    exact (((((B1.setCell (by simp) _).setCell (by simp) _).setCell (by simp) _).setCell (by simp) _).setCell (by simp) _).setCell (by simp) _
  · obtain ⟨s0, _, _, _, _, _, _, s9⟩ := hO.enclAt hx
    have hO2 := hO.mono (b' := w.heap.size + 2) (by go_size)
    obtain ⟨hg1, hg2⟩ := hO2.e.lt g rfl
    have hgn : w.heap.size ≠ g := by omega
    have hgn1 : w.heap.size + 1 ≠ g := by omega
    have hl := (machF_sizes hm0).2.1
    obtain ⟨qa2, qc2, rfl⟩ := own_slice hO2.q
    have HD : Hid (startD M ((k : Int) + 1) = (⟨M.frames, M.encl.set k { y with state := 2 }, M.quotes⟩, 0)) := by
      show startD M _ = _
      rw [startD, if_neg (fun h => h h0), show ((k : Int) + 1 - 1).toNat = k by omega, upd_some hx]
    have HO := hid hO2
    have HF := hid hF
    have HX := hid hx
    have HL := hid hl
    clear hO hO2 hF hx hl h0 hm0 hs hb1 hy HV B0
    go_wp2_with fail
    have K := ((HO.out.low3 (b := w.heap.size) (by omega) (.slice (some ⟨f, 0, none⟩) 24 c1) (.slice (some ⟨g, 0, none⟩) 4 c2) (.slice qa2 M.quotes.length qc2)).setE (j := 0) (u := .int .i64 2) (x' := { y with state := 2 }) HL.out HX.out (by decide) rfl).low3 (b := w.heap.size + 1) (by omega) (.slice (some ⟨f, 0, none⟩) 24 c1) (.slice (some ⟨g, 0, none⟩) 4 c2) (.slice qa2 M.quotes.length qc2)
    have KB := below_low3 (below_at (below_low3 B1 (Nat.le_refl _) (.slice (some ⟨f, 0, none⟩) 24 c1) (.slice (some ⟨g, 0, none⟩) 4 c2) (.slice qa2 M.quotes.length qc2)) (b := g) (by omega) (k * 7) (.int .i64 2)) (b := w.heap.size + 1) (by omega) (.slice (some ⟨f, 0, none⟩) 24 c1) (.slice (some ⟨g, 0, none⟩) 4 c2) (.slice qa2 M.quotes.length qc2)
    exact bodyPost_ret (v := .tuple #[.agg #[.slice (some ⟨f, 0, none⟩) 24 c1, .slice (some ⟨g, 0, none⟩) 4 c2, .slice qa2 M.quotes.length qc2], .int .i64 0]) (by simp [results, Tryd.results63, go_sem, r0, r1, r2]) rfl (Mach2.mk HD.out (OwnMach.from' (M := ⟨M.frames, M.encl.set k { y with state := 2 }, M.quotes⟩) K HF.out (by omega)) KB)

end Go.Proofs.YtbamacddfonloaaDoor

namespace Go.Proofs.YtbamacddfonloaaDoor
open Go.RowKit

end Go.Proofs.YtbamacddfonloaaDoor
