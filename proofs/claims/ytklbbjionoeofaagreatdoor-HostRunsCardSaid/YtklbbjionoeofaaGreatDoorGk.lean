/- epc.Poke, walked. Condition: what fits the form's own reach.
ref.PokedOf, walked. Condition: what fits the form's own reach. -/
import Derived.Test.YtklbbjionoeofaaGreatDoorPeek
import Derived.Test.YtklbbjionoeofaaGreatDoorGi
import Derived.Test.YtklbbjionoeofaaGreatDoorRefMachCopy
namespace Go.Proofs.YtklbbjionoeofaaGreatDoor
open Go.RowKit

set_option maxRecDepth 10000 in
set_option maxHeartbeats 1600000 in
theorem epcPoke (v : Value) (M : MachD) (f q n : Int) (w : World) (hv : MachAt w v M) (hf : M.Fits) : Calls Tryz.prog 42 #[v, .int .i64 f, .int .i64 q, .int .i64 n] w (Mach2 w.heap.size (pokeD M f q n) w) := by
  have HV := hid hv
  obtain ⟨fa, fc, ea, ec, qa, qc, rfl, _, _, _, _⟩ := hv
  have B0 : ∀ X Y, Below w.heap.size w ((w.alloc X).alloc Y) := fun X Y => by go_grown
  go_enter Tryz.func42, Tryz.ntmps42
  go_wp2_with fail
  refine (epcWord _ M f q _ (HV.out.mono (B0 _ _)) hf).mono ?_
  rintro x w1 ⟨rfl, hb1⟩
  have p0 : w1.cell? ⟨w.heap.size, 0, none⟩ = some (.slice fa M.frames.length fc) := by rw [(bcell hb1).1 _ _ (by go_size)]; go_simp
  have p1 : w1.cell? ⟨w.heap.size, 1, none⟩ = some (.slice ea M.encl.length ec) := by rw [(bcell hb1).1 _ _ (by go_size)]; go_simp
  have p2 : w1.cell? ⟨w.heap.size, 2, none⟩ = some (.slice qa M.quotes.length qc) := by rw [(bcell hb1).1 _ _ (by go_size)]; go_simp
  have p3 : ∀ o, w1.frozen? ⟨w.heap.size, o, none⟩ = false := fun o => by rw [(bcell hb1).2 _ _ (by go_size)]; go_simp
  have r0 : w1.cell? ⟨w.heap.size + 1, 0, none⟩ = some (.slice none 0 0) := by rw [(bcell hb1).1 _ _ (by go_size)]; go_simp
  have r1 : w1.cell? ⟨w.heap.size + 1, 1, none⟩ = some (.slice none 0 0) := by rw [(bcell hb1).1 _ _ (by go_size)]; go_simp
  have r2 : w1.cell? ⟨w.heap.size + 1, 2, none⟩ = some (.slice none 0 0) := by rw [(bcell hb1).1 _ _ (by go_size)]; go_simp
  have r3 : ∀ o, w1.frozen? ⟨w.heap.size + 1, o, none⟩ = false := fun o => by rw [(bcell hb1).2 _ _ (by go_size)]; go_simp
  have z1 : w.heap.size + 1 < w1.heap.size := by have := hb1.size; simp at this; omega
  have B1 : Below w.heap.size w w1 := (B0 _ _).trans (hb1.mono (by go_size))
  clear hb1
  by_cases h0 : wordF M f q = 0
  · by_cases h1 : n < 0
    · have HD : Hid (pokeD M f q n = (mach0, 2)) := by show pokeD M f q n = _; simp [pokeD, h0, h1]
      rw [h0]
      clear h0
      go_wp2_with fail
      refine bodyPost_ret (v := .tuple #[.agg #[.slice none 0 0, .slice none 0 0, .slice none 0 0], .int .i64 2]) (by simp [results, Tryz.results42, go_sem, r0, r1, r2]) rfl (Mach2.mk HD.out mach0_from ?_)
      exact below_low3 B1 (by omega) _ _ _
    by_cases h2 : 65535 < n
    · have HD : Hid (pokeD M f q n = (mach0, 2)) := by show pokeD M f q n = _; simp [pokeD, h0, h2]
      rw [h0]
      clear h0
      go_wp2_with fail
      refine bodyPost_ret (v := .tuple #[.agg #[.slice none 0 0, .slice none 0 0, .slice none 0 0], .int .i64 2]) (by simp [results, Tryz.results42, go_sem, r0, r1, r2]) rfl (Mach2.mk HD.out mach0_from ?_)
      exact below_low3 B1 (by omega) _ _ _
    obtain ⟨hm0, i, k, y, c, rfl, rfl, hi, hk, hx, ho, hn⟩ := wordF_zero h0
    have HS := hid (machF_sizes hm0)
    have HD : Hid (pokeD M i k n = if y.owner = 0 then (⟨M.frames.set i { y with words := y.words.set k n }, M.encl, M.quotes⟩, 0) else (M, 0)) := by
      show pokeD M i k n = _
      rw [pokeD, if_neg (by simpa using h0), if_neg (by omega), show frameOf M i = y by simp [frameOf, hx]]
      simp only [Int.toNat_natCast]
      rw [upd_some hx]
    have HX := hid hx
    have HN := hid hn
    have HL := hid ho.len
    rw [h0]
    clear h0 hm0 hx hn ho
    go_wp2_with fail
    refine (epcCopy _ M _ hf (HV.out.mono B1)).mono ?_
    rintro x w2 ⟨fv, ev, qv, F, rfl, hF, hO, hb2⟩
    have p0 := cell_later hb2 p0
    have p1 := cell_later hb2 p1
    have p2 := cell_later hb2 p2
    have p3 : ∀ o, w2.frozen? ⟨w.heap.size, o, none⟩ = false := fun o => by rw [(bcell hb2).2 _ _ (by omega)]; exact p3 o
    have r0 := cell_later hb2 r0
    have r1 := cell_later hb2 r1
    have r2 := cell_later hb2 r2
    have r3 : ∀ o, w2.frozen? ⟨w.heap.size + 1, o, none⟩ = false := fun o => by rw [(bcell hb2).2 _ _ (by omega)]; exact r3 o
    have z2 : w.heap.size + 1 < w2.heap.size := by have := hb2.size; omega
    have B2 : Below w.heap.size w w2 := B1.trans (hb2.mono (by omega))
    have hFl : F.length = 24 := by rw [← HS.out.1, ← hF, List.length_map]
    have o1 := hO.f.row
    rw [hFl] at o1
    obtain ⟨g, c1, rfl, hg1, hg2⟩ := own_some o1 (by decide)
    have o2 := hO.e
    rw [HS.out.2.1] at o2
    obtain ⟨e, c2, rfl, _, _⟩ := own_some o2 (by decide)
    obtain ⟨qa2, qc2, rfl⟩ := own_slice hO.q
    obtain ⟨yv, hy⟩ : ∃ yv, F[i]? = some (y, yv) := by
      have : (F.map Prod.fst)[i]? = some y := by rw [hF]; exact HX.out
      simp only [List.getElem?_map, Option.map_eq_some_iff] at this
      obtain ⟨p, hp, rfl⟩ := this
      exact ⟨p.2, hp⟩
    have o3 := (hO.f.sub i _ hy).1
    simp only [HL.out] at o3
    obtain ⟨gw, cw, rfl, hw1, hw2⟩ := own_some o3 (by decide)
    have HO := hid (OpenM.of hO (by omega) B2 z2 p0 p1 p2 p3 r0 r1 r2 r3)
    have HF := hid hF
    have HY := hid hy
    clear o1 o2 o3 hO hF hb2 HV B0 hy hFl
    go_upto_region 7 with fail
    refine wp_gen (OpenM w (.slice (some ⟨g, 0, none⟩) 24 c1) (.slice (some ⟨e, 0, none⟩) 4 c2) (.slice qa2 M.quotes.length qc2) F M.encl M.quotes) HO.out ?_
    clear HO p0 p1 p2 p3 r0 r1 r2 r3 z2 B2 B1
    intro W HO
    have HO := hid HO
    have k0 := HO.out.c0
    have k1 := HO.out.c1
    have k2 := HO.out.c2
    have r0 := HO.out.r0
    have r1 := HO.out.r1
    have r2 := HO.out.r2
    have r3 := HO.out.rz
    obtain ⟨s0, s1, s2, s3, s9⟩ := HO.out.own.frameAt HY.out
    obtain ⟨t0, t9⟩ := HO.out.own.wordAt HY.out HN.out
    simp only at s0 s1 s2 s3
    have hi0 : (i : Int) < 24 := by omega
    have hk0 : (k : Int) < 8 := by omega
    have n0 : gw ≠ w.heap.size := by omega
    have n1 : w.heap.size ≠ gw := by omega
    have n2 : gw ≠ w.heap.size + 1 := by omega
    have n3 : w.heap.size + 1 ≠ gw := by omega
    by_cases h3 : y.owner = 0
    · rw [if_pos h3] at HD
      have h3b : (y.owner == 0) = true := by simp [h3]
      clear h3
      go_wp2_with fail
      exact bodyPost_ret (v := .tuple #[.agg #[.slice (some ⟨g, 0, none⟩) 24 c1, .slice (some ⟨e, 0, none⟩) 4 c2, .slice qa2 M.quotes.length qc2], .int .i64 0]) (by simp only [results, Tryz.results42]; go_simp) rfl
        ((HO.out.setW (k := k) (n := n) HL.out HY.out).done (M := ⟨M.frames.set i { y with words := y.words.set k n }, M.encl, M.quotes⟩) (by rw [map_set_fst, HF.out]) rfl rfl HD.out)
    · rw [if_neg h3] at HD
      have h3b : (y.owner == 0) = false := by simp [h3]
      clear h3
      go_wp2_with fail
      exact bodyPost_ret (v := .tuple #[.agg #[.slice (some ⟨g, 0, none⟩) 24 c1, .slice (some ⟨e, 0, none⟩) 4 c2, .slice qa2 M.quotes.length qc2], .int .i64 0]) (by simp only [results, Tryz.results42]; go_simp) rfl (HO.out.done (M := M) HF.out rfl rfl HD.out)
  · have HD : Hid (pokeD M f q n = (mach0, wordF M f q)) := by show pokeD M f q n = _; simp [pokeD, h0]
    have hE1 : (wordF M f q != 0) = true := by rw [bne_iff_ne]; exact h0
    generalize wordF M f q = E at HD hE1 h0 ⊢
    clear h0
    go_wp2_with fail
    refine bodyPost_ret (v := .tuple #[.agg #[.slice none 0 0, .slice none 0 0, .slice none 0 0], .int .i64 E]) (by simp [results, Tryz.results42, go_sem, r0, r1, r2]) rfl (Mach2.mk HD.out mach0_from ?_)
    exact below_low3 B1 (by omega) _ _ _

end Go.Proofs.YtklbbjionoeofaaGreatDoor

namespace Go.Proofs.YtklbbjionoeofaaGreatDoor
open Go.RowKit

set_option maxRecDepth 10000 in
set_option maxHeartbeats 1600000 in
theorem refPoked (v : Value) (M : MachD) (f q n : Int) (w : World) (hv : MachAt w v M) (hf : M.Fits) : Calls Tryz.prog 21 #[v, .int .i64 f, .int .i64 q, .int .i64 n] w (Mach2 w.heap.size (pokeD M f q n) w) := by
  have HV := hid hv
  obtain ⟨fa, fc, ea, ec, qa, qc, rfl, _, _, _, _⟩ := hv
  have B0 : ∀ X Y, Below w.heap.size w ((w.alloc X).alloc Y) := fun X Y => by go_grown
  go_enter Tryz.func21, Tryz.ntmps21
  go_wp2_with fail
  refine (refPeeked _ M f q _ (HV.out.mono (B0 _ _)) hf).mono ?_
  rintro x w1 ⟨rfl, hb1⟩
  have p0 : w1.cell? ⟨w.heap.size, 0, none⟩ = some (.slice fa M.frames.length fc) := by rw [(bcell hb1).1 _ _ (by go_size)]; go_simp
  have p1 : w1.cell? ⟨w.heap.size, 1, none⟩ = some (.slice ea M.encl.length ec) := by rw [(bcell hb1).1 _ _ (by go_size)]; go_simp
  have p2 : w1.cell? ⟨w.heap.size, 2, none⟩ = some (.slice qa M.quotes.length qc) := by rw [(bcell hb1).1 _ _ (by go_size)]; go_simp
  have p3 : ∀ o, w1.frozen? ⟨w.heap.size, o, none⟩ = false := fun o => by rw [(bcell hb1).2 _ _ (by go_size)]; go_simp
  have r0 : w1.cell? ⟨w.heap.size + 1, 0, none⟩ = some (.slice none 0 0) := by rw [(bcell hb1).1 _ _ (by go_size)]; go_simp
  have r1 : w1.cell? ⟨w.heap.size + 1, 1, none⟩ = some (.slice none 0 0) := by rw [(bcell hb1).1 _ _ (by go_size)]; go_simp
  have r2 : w1.cell? ⟨w.heap.size + 1, 2, none⟩ = some (.slice none 0 0) := by rw [(bcell hb1).1 _ _ (by go_size)]; go_simp
  have r3 : ∀ o, w1.frozen? ⟨w.heap.size + 1, o, none⟩ = false := fun o => by rw [(bcell hb1).2 _ _ (by go_size)]; go_simp
  have z1 : w.heap.size + 1 < w1.heap.size := by have := hb1.size; simp at this; omega
  have B1 : Below w.heap.size w w1 := (B0 _ _).trans (hb1.mono (by go_size))
  clear hb1
  by_cases h0 : wordF M f q = 0
  · obtain ⟨hm0, i, k, y, c, rfl, rfl, hi, hk, hx, ho, hn⟩ := wordF_zero h0
    have hp2 : (peekD M i k).2 = 0 := by
      unfold peekD
      rw [if_neg (by simpa using h0)]
      split <;> rfl
    rw [hp2]
    generalize (peekD M i k).1 = pk
    by_cases h1 : n < 0 ∨ 65535 < n
    · have HD : Hid (pokeD M i k n = (mach0, 2)) := by show pokeD M i k n = _; simp [pokeD, h0, h1]
      have hin : inR n 0 65535 = false := by simp [inR]; omega
      clear h0 h1 hp2 hx hn ho hm0
      go_wp2_with (go_at_call 25; refine (in_any _ _ _ _).mono ?_; rintro e w' ⟨rfl, rfl⟩)
      refine bodyPost_ret (v := .tuple #[.agg #[.slice none 0 0, .slice none 0 0, .slice none 0 0], .int .i64 2]) (by simp [results, Tryz.results21, go_sem, r0, r1, r2]) rfl (Mach2.mk HD.out mach0_from ?_)
      exact below_low3 B1 (by omega) _ _ _
    have hin : inR n 0 65535 = true := by simp [inR]; omega
    have HS := hid (machF_sizes hm0)
    have HD : Hid (pokeD M i k n = if y.owner = 0 then (⟨M.frames.set i { y with words := y.words.set k n }, M.encl, M.quotes⟩, 0) else (M, 0)) := by
      show pokeD M i k n = _
      rw [pokeD, if_neg (by simpa using h0), if_neg (by omega), show frameOf M i = y by simp [frameOf, hx]]
      simp only [Int.toNat_natCast]
      rw [upd_some hx]
    have HX := hid hx
    have HN := hid hn
    have HL := hid ho.len
    clear h0 hm0 hx hn ho hp2 h1
    go_wp2_with (go_at_call 25; refine (in_any _ _ _ _).mono ?_; rintro e w' ⟨rfl, rfl⟩)
    refine (refMachCopy _ M _ hf (HV.out.mono B1)).mono ?_
    rintro x w2 ⟨fv, ev, qv, F, rfl, hF, hO, hb2⟩
    have p0 := cell_later hb2 p0
    have p1 := cell_later hb2 p1
    have p2 := cell_later hb2 p2
    have p3 : ∀ o, w2.frozen? ⟨w.heap.size, o, none⟩ = false := fun o => by rw [(bcell hb2).2 _ _ (by omega)]; exact p3 o
    have r0 := cell_later hb2 r0
    have r1 := cell_later hb2 r1
    have r2 := cell_later hb2 r2
    have r3 : ∀ o, w2.frozen? ⟨w.heap.size + 1, o, none⟩ = false := fun o => by rw [(bcell hb2).2 _ _ (by omega)]; exact r3 o
    have z2 : w.heap.size + 1 < w2.heap.size := by have := hb2.size; omega
    have B2 : Below w.heap.size w w2 := B1.trans (hb2.mono (by omega))
    have hFl : F.length = 24 := by rw [← HS.out.1, ← hF, List.length_map]
    have o1 := hO.f.row
    rw [hFl] at o1
    obtain ⟨g, c1, rfl, hg1, hg2⟩ := own_some o1 (by decide)
    have o2 := hO.e
    rw [HS.out.2.1] at o2
    obtain ⟨e, c2, rfl, _, _⟩ := own_some o2 (by decide)
    obtain ⟨qa2, qc2, rfl⟩ := own_slice hO.q
    obtain ⟨yv, hy⟩ : ∃ yv, F[i]? = some (y, yv) := by
      have : (F.map Prod.fst)[i]? = some y := by rw [hF]; exact HX.out
      simp only [List.getElem?_map, Option.map_eq_some_iff] at this
      obtain ⟨p, hp, rfl⟩ := this
      exact ⟨p.2, hp⟩
    have o3 := (hO.f.sub i _ hy).1
    simp only [HL.out] at o3
    obtain ⟨gw, cw, rfl, hw1, hw2⟩ := own_some o3 (by decide)
    have HO := hid (CopyInv.of hO (by omega) B2 z2 p0 r0 r1 r2 r3 29)
    have HF := hid hF
    have HY := hid hy
    clear o1 o2 o3 hO hF hb2 HV B0 hy hFl hin
    go_upto_region 7 with fail
    refine wp_gen (CopyInv w w2.heap.size (.slice fa M.frames.length fc) (.slice (some ⟨g, 0, none⟩) 24 c1) (.slice (some ⟨e, 0, none⟩) 4 c2) (.slice qa2 M.quotes.length qc2) F M.encl M.quotes) HO.out ?_
    clear HO p0 p1 p2 p3 r0 r1 r2 r3 B2 B1
    intro W HO
    have HO := hid HO
    have k0 := HO.out.c0
    have k1 := HO.out.c1
    have k2 := HO.out.c2
    have r0 := HO.out.r0
    have r1 := HO.out.r1
    have r2 := HO.out.r2
    have r3 := HO.out.rz
    obtain ⟨s0, s1, s2, s3, s9⟩ := HO.out.own.frameAt HY.out
    obtain ⟨t0, t9⟩ := HO.out.own.wordAt HY.out HN.out
    simp only at s0 s1 s2 s3
    have hi0 : (i : Int) < 24 := by omega
    have hk0 : (k : Int) < 8 := by omega
    have n0 : gw ≠ w2.heap.size := by omega
    have n1 : w2.heap.size ≠ gw := by omega
    have n2 : gw ≠ w.heap.size + 1 := by omega
    have n3 : w.heap.size + 1 ≠ gw := by omega
    have n4 : w.heap.size + 1 ≠ w2.heap.size := by omega
    have n5 : w2.heap.size ≠ w.heap.size + 1 := by omega
    by_cases h3 : y.owner = 0
    · rw [if_pos h3] at HD
      have h3b : (y.owner == 0) = true := by simp [h3]
      clear h3
      go_wp2_with fail
      exact bodyPost_ret (v := .tuple #[.agg #[.slice (some ⟨g, 0, none⟩) 24 c1, .slice (some ⟨e, 0, none⟩) 4 c2, .slice qa2 M.quotes.length qc2], .int .i64 0]) (by simp only [results, Tryz.results21]; go_simp) rfl
        ((HO.out.setW (k := k) (n := n) HL.out HY.out).done (M := ⟨M.frames.set i { y with words := y.words.set k n }, M.encl, M.quotes⟩) (by rw [map_set_fst, HF.out]) rfl rfl HD.out)
    · rw [if_neg h3] at HD
      have h3b : (y.owner == 0) = false := by simp [h3]
      clear h3
      go_wp2_with fail
      exact bodyPost_ret (v := .tuple #[.agg #[.slice (some ⟨g, 0, none⟩) 24 c1, .slice (some ⟨e, 0, none⟩) 4 c2, .slice qa2 M.quotes.length qc2], .int .i64 0]) (by simp only [results, Tryz.results21]; go_simp) rfl (HO.out.done (M := M) HF.out rfl rfl HD.out)
  · have HD : Hid (pokeD M f q n = (mach0, wordF M f q)) := by show pokeD M f q n = _; simp [pokeD, h0]
    have hp : peekD M f q = (0, wordF M f q) := by simp [peekD, h0]
    rw [hp]
    have hE1 : (wordF M f q != 0) = true := by rw [bne_iff_ne]; exact h0
    have hE2 : (wordF M f q == 0) = false := by rw [beq_eq_false_iff_ne]; exact h0
    generalize wordF M f q = E at HD hE1 hE2 h0 ⊢
    clear h0 hp
    go_wp2_with (go_at_call 25; refine (in_any _ _ _ _).mono ?_; rintro e w' ⟨rfl, rfl⟩)
    refine bodyPost_ret (v := .tuple #[.agg #[.slice none 0 0, .slice none 0 0, .slice none 0 0], .int .i64 E]) (by simp [results, Tryz.results21, go_sem, r0, r1, r2]) rfl (Mach2.mk HD.out mach0_from ?_)
    exact below_low3 B1 (by omega) _ _ _

end Go.Proofs.YtklbbjionoeofaaGreatDoor
