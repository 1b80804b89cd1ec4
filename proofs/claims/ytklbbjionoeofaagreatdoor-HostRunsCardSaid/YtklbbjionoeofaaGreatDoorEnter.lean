/- run.Enter, run.Resume, ref.EnteredOf and ref.ResumedOf, walked. Condition: what fits the form's own reach. -/
import Derived.Test.YtklbbjionoeofaaGreatDoorGn
import Derived.Test.YtklbbjionoeofaaGreatDoorRun
namespace Go.Proofs.YtklbbjionoeofaaGreatDoor
open Go.RowKit

set_option maxRecDepth 10000 in
set_option maxHeartbeats 3200000 in
theorem runEnter (v : Value) (M : MachD) (e word fuel : Int) (w : World) (hv : MachAt w v M) (hf : M.Fits) : Calls Tryz.prog 43 #[v, .int .i64 e, .int .i64 word, .int .i64 fuel] w (Ran3 w.heap.size (enterD M e word fuel) w) := by
  have HV := hid hv
  obtain ⟨fa, fc, ea, ec, qa, qc, rfl, _, hE, _, _⟩ := hv
  have HE := hid hE
  clear hE
  go_enter Tryz.func43, Tryz.ntmps43
  go_wp2_with fail
  refine (runMay _ M e 2 fuel _ (HV.out.mono (by go_grown)) hf (by decide)).mono ?_
  rintro x w1 ⟨rfl, hb1⟩
  have p0 : w1.cell? ⟨w.heap.size, 0, none⟩ = some (.slice fa M.frames.length fc) := by rw [(bcell hb1).1 _ _ (by go_size)]; go_simp
  have p1 : w1.cell? ⟨w.heap.size, 1, none⟩ = some (.slice ea M.encl.length ec) := by rw [(bcell hb1).1 _ _ (by go_size)]; go_simp
  have p2 : w1.cell? ⟨w.heap.size, 2, none⟩ = some (.slice qa M.quotes.length qc) := by rw [(bcell hb1).1 _ _ (by go_size)]; go_simp
  have r0 : w1.cell? ⟨w.heap.size + 1, 0, none⟩ = some (.slice none 0 0) := by rw [(bcell hb1).1 _ _ (by go_size)]; go_simp
  have r1 : w1.cell? ⟨w.heap.size + 1, 1, none⟩ = some (.slice none 0 0) := by rw [(bcell hb1).1 _ _ (by go_size)]; go_simp
  have r2 : w1.cell? ⟨w.heap.size + 1, 2, none⟩ = some (.slice none 0 0) := by rw [(bcell hb1).1 _ _ (by go_size)]; go_simp
  have rz : ∀ o, w1.frozen? ⟨w.heap.size + 1, o, none⟩ = false := fun o => by rw [(bcell hb1).2 _ _ (by go_size)]; go_simp
  have s0 : w1.cell? ⟨w.heap.size + 1 + 1, 0, none⟩ = some (.int .i64 0) := by rw [(bcell hb1).1 _ _ (by go_size)]; go_simp
  have s1 : w1.cell? ⟨w.heap.size + 1 + 1, 1, none⟩ = some (.int .i64 0) := by rw [(bcell hb1).1 _ _ (by go_size)]; go_simp
  have sz : ∀ o, w1.frozen? ⟨w.heap.size + 1 + 1, o, none⟩ = false := fun o => by rw [(bcell hb1).2 _ _ (by go_size)]; go_simp
  have z1 : w.heap.size + 1 + 1 < w1.heap.size := by have := hb1.size; simp at this; omega
  have B1 : Below w.heap.size w w1 := Below.trans (by go_grown) (hb1.mono (by go_size))
  clear hb1
  by_cases h0 : mayF M e 2 fuel = 0
  rotate_left
  · have HR : Hid (enterD M e word fuel = noRun (mayF M e 2 fuel)) := by show _ = _; rw [enterD, if_pos h0]
    generalize mayF M e 2 fuel = E at HR h0 ⊢
    have hE1 : (E != 0) = true := by rw [bne_iff_ne]; exact h0
    clear h0
    go_wp2_with fail
    refine bodyPost_ret (v := .tuple #[.agg #[.slice none 0 0, .slice none 0 0, .slice none 0 0], .agg #[.int .i64 0, .int .i64 0], .int .i64 E]) (by simp only [results, Tryz.results43]; go_simp) rfl (Ran3.no HR.out ?_)
    exact below_at (below_at (below_low3 B1 (by omega) _ _ _) (by omega) _ _) (by omega) _ _
  rw [h0]
  obtain ⟨ha, hf0, hf5⟩ := mayF_ok h0
  have HM0 := hid (askF_mach ha)
  have HS := hid (machF_sizes HM0.out)
  obtain ⟨k, y, rfl, hk4, hy, hst⟩ := askF_encl ha (by decide)
  have HY := hid hy
  have HW := hid hst
  clear hy ha hst
  by_cases hw1 : word < 0
  · have HR : Hid (enterD M ((k : Int) + 1) word fuel = noRun 2) := by show _ = _; rw [enterD, if_neg (by simp [h0]), if_pos (.inl hw1)]
    clear h0
    go_wp2_with fail
    refine bodyPost_ret (v := .tuple #[.agg #[.slice none 0 0, .slice none 0 0, .slice none 0 0], .agg #[.int .i64 0, .int .i64 0], .int .i64 2]) (by simp only [results, Tryz.results43]; go_simp) rfl (Ran3.no HR.out ?_)
    exact below_at (below_at (below_low3 B1 (by omega) _ _ _) (by omega) _ _) (by omega) _ _
  by_cases hw2 : 65535 < word
  · have HR : Hid (enterD M ((k : Int) + 1) word fuel = noRun 2) := by show _ = _; rw [enterD, if_neg (by simp [h0]), if_pos (.inr hw2)]
    clear h0
    go_wp2_with fail
    refine bodyPost_ret (v := .tuple #[.agg #[.slice none 0 0, .slice none 0 0, .slice none 0 0], .agg #[.int .i64 0, .int .i64 0], .int .i64 2]) (by simp only [results, Tryz.results43]; go_simp) rfl (Ran3.no HR.out ?_)
    exact below_at (below_at (below_low3 B1 (by omega) _ _ _) (by omega) _ _) (by omega) _ _
  obtain ⟨n, rfl⟩ : ∃ n : Nat, fuel = n := ⟨fuel.toNat, by omega⟩
  obtain ⟨C2, y2, o2, n2, hr⟩ : ∃ C2 y2 o2 n2, runM ((k : Int) + 1) y.log n (core0 M 0 [word, 0, 0, 0]) = (C2, y2, o2, n2) := ⟨_, _, _, _, rfl⟩
  have HR : Hid (enterD M ((k : Int) + 1) word (n : Int) = ((⟨C2.F, M.encl.set k y2, C2.Q⟩ : MachD), (o2, n2), (0 : Int))) := by
    show _ = _
    rw [enterD, if_neg (by simp [h0]), if_neg (by omega), show ((k : Int) + 1 - 1).toNat = k by omega, HY.out, Int.toNat_natCast]
    simp only [ranD, hr]
  clear h0
  go_wp2_with fail
  refine (runRun _ M k 0 word 0 0 0 n y _ (HV.out.mono (by first | exact B1 | exact B1.trans (by go_grown))) hf HM0.out HY.out (by omega) (fun j m hj => ?_) (by omega)).mono ?_
  · rcases j with _ | _ | _ | _ | j
    all_goals
      simp at hj
      try subst hj
      try omega
  rw [hr]
  rintro x w2 ⟨fv, ev, qv, F, rfl, hF, hO, hb2⟩
  have HO : Hid (OwnMach (w.heap.size + 3) w2 fv ev qv F (M.encl.set k y2) C2.Q) := hO.mono (by first | omega | (simp; omega) | (go_size))
  have HF : Hid (F.map Prod.fst = C2.F) := hF
  obtain ⟨fa2, fc2, rfl, _⟩ := hO.f.frames
  obtain ⟨ea2, ec2, rfl, _⟩ := CellsAt.of_own hO.e
  obtain ⟨qa2, qc2, rfl, _⟩ := CellsAt.of_own hO.q
  have B0 : Below w1.heap.size w1 w2 := by first | exact hb2 | exact Below.trans (by go_grown) (hb2.mono (by go_size))
  replace r0 := cell_later B0 r0
  replace r1 := cell_later B0 r1
  replace r2 := cell_later B0 r2
  replace s0 := cell_later B0 s0
  replace s1 := cell_later B0 s1
  replace rz : ∀ o, w2.frozen? ⟨w.heap.size + 1, o, none⟩ = false := fun o => by rw [(bcell B0).2 _ _ (by omega)]; exact rz o
  replace sz : ∀ o, w2.frozen? ⟨w.heap.size + 1 + 1, o, none⟩ = false := fun o => by rw [(bcell B0).2 _ _ (by omega)]; exact sz o
  have z2 : w.heap.size + 1 + 1 < w2.heap.size := by have := B0.size; omega
  have B2 : Below w.heap.size w w2 := B1.trans (B0.mono (by omega))
  have z3 : w.heap.size + 1 < w2.heap.size := by omega
  clear hO hF hb2 B0 p0 p1 p2 B1 z1
  dsimp only
  generalize hE2 : M.encl.set k y2 = E2 at HO HR ⊢
  clear hE2
  go_upto_region 7 with fail
  with_reducible refine act_gen (fun W => (OwnMach (w.heap.size + 3) W (.slice fa2 F.length fc2) (.slice ea2 E2.length ec2) (.slice qa2 C2.Q.length qc2) F E2 C2.Q ∧ Below w.heap.size w W) ∧
    (W.cell? ⟨w.heap.size + 1, 0, none⟩ = some (.slice none 0 0) ∧ W.cell? ⟨w.heap.size + 1, 1, none⟩ = some (.slice none 0 0) ∧ W.cell? ⟨w.heap.size + 1, 2, none⟩ = some (.slice none 0 0) ∧ (∀ o, W.frozen? ⟨w.heap.size + 1, o, none⟩ = false)) ∧
    (W.cell? ⟨w.heap.size + 1 + 1, 0, none⟩ = some (.int .i64 0) ∧ W.cell? ⟨w.heap.size + 1 + 1, 1, none⟩ = some (.int .i64 0) ∧ (∀ o, W.frozen? ⟨w.heap.size + 1 + 1, o, none⟩ = false)) ∧
    (W.cell? ⟨w2.heap.size, 0, none⟩ = some (.slice fa2 F.length fc2) ∧ W.cell? ⟨w2.heap.size, 1, none⟩ = some (.slice ea2 E2.length ec2) ∧ W.cell? ⟨w2.heap.size, 2, none⟩ = some (.slice qa2 C2.Q.length qc2)) ∧
    (W.cell? ⟨w2.heap.size + 1, 0, none⟩ = some (.int .i64 o2) ∧ W.cell? ⟨w2.heap.size + 1, 1, none⟩ = some (.int .i64 n2)) ∧ w2.heap.size + 1 < W.heap.size) ?_ ?_
  · exact ⟨⟨HO.out.below (by go_grown), B2.trans (Below.mono (by go_grown) B2.size)⟩, ⟨cell_later (by go_grown) r0, cell_later (by go_grown) r1, cell_later (by go_grown) r2, fun o => by rw [(bcell (W := w2) (by go_grown)).2 _ _ z3]; exact rz o⟩, ⟨cell_later (by go_grown) s0, cell_later (by go_grown) s1, fun o => by rw [(bcell (W := w2) (by go_grown)).2 _ _ z2]; exact sz o⟩, ⟨by go_simp, by go_simp, by go_simp⟩, ⟨by go_simp, by go_simp⟩, by go_size⟩
  clear r0 r1 r2 rz s0 s1 sz B2 HO
  rintro W5 ⟨⟨hO, hB⟩, ⟨r0, r1, r2, rz⟩, ⟨s0, s1, sz⟩, ⟨u0, u1, u2⟩, ⟨v0, v1⟩, z5⟩
  have HO := hid hO
  have HB := hid hB
  clear hO hB
  have z6 : w.heap.size + 1 < W5.heap.size := by omega
  have z7 : w.heap.size + 1 + 1 < W5.heap.size := by omega
  have z8 : w2.heap.size ≠ w.heap.size + 1 := by omega
  have z9 : w2.heap.size ≠ w.heap.size + 1 + 1 := by omega
  have z10 : w2.heap.size + 1 ≠ w.heap.size + 1 := by omega
  have z11 : w2.heap.size + 1 ≠ w.heap.size + 1 + 1 := by omega
  go_wp2_with fail
  go_region_held3 (fun w' => w'.cell? ⟨w2.heap.size, 0, none⟩ = some (.slice fa2 F.length fc2) ∧ w'.cell? ⟨w2.heap.size, 1, none⟩ = some (.slice ea2 E2.length ec2) ∧ w'.cell? ⟨w2.heap.size, 2, none⟩ = some (.slice qa2 C2.Q.length qc2) ∧ w'.cell? ⟨w2.heap.size + 1, 0, none⟩ = some (.int .i64 o2) ∧ w'.cell? ⟨w2.heap.size + 1, 1, none⟩ = some (.int .i64 n2))
    (refine ⟨?_, ?_, ?_, ?_, ?_⟩ <;> (go_simp; done))
    (fail)
  all_goals
    go_wp2_with fail
    refine bodyPost_ret (v := .tuple #[.agg #[.slice fa2 F.length fc2, .slice ea2 E2.length ec2, .slice qa2 C2.Q.length qc2], .agg #[.int .i64 o2, .int .i64 n2], .int .i64 0]) (by simp only [results, Tryz.results43]; go_simp) rfl (Ran3.of HR.out (OwnMach.from' (b := w.heap.size + 3) (M := ⟨C2.F, E2, C2.Q⟩) (F := F) ?own HF.out (by omega)) ?bel)
    case own =>
      repeat (first | refine OwnMach.setLow ?_ (by first | (simp; done) | (simp; omega)) _ | refine OwnMach.below ?_ (below_drew _))
      exact HO.out
    case bel =>
      repeat (first | refine Below.setCell ?_ (by first | (simp; done) | (simp; omega)) _ | refine below_drewn ?_)
      exact HB.out
set_option maxRecDepth 10000 in
set_option maxHeartbeats 3200000 in
theorem runResume (v : Value) (M : MachD) (e fuel : Int) (w : World) (hv : MachAt w v M) (hf : M.Fits) : Calls Tryz.prog 44 #[v, .int .i64 e, .int .i64 fuel] w (Ran3 w.heap.size (resumeD M e fuel) w) := by
  have HV := hid hv
  obtain ⟨fa, fc, ea, ec, qa, qc, rfl, _, hE, _, _⟩ := hv
  have HE := hid hE
  clear hE
  go_enter Tryz.func44, Tryz.ntmps44
  go_wp2_with fail
  refine (runMay _ M e 3 fuel _ (HV.out.mono (by go_grown)) hf (by decide)).mono ?_
  rintro x w1 ⟨rfl, hb1⟩
  have p0 : w1.cell? ⟨w.heap.size, 0, none⟩ = some (.slice fa M.frames.length fc) := by rw [(bcell hb1).1 _ _ (by go_size)]; go_simp
  have p1 : w1.cell? ⟨w.heap.size, 1, none⟩ = some (.slice ea M.encl.length ec) := by rw [(bcell hb1).1 _ _ (by go_size)]; go_simp
  have p2 : w1.cell? ⟨w.heap.size, 2, none⟩ = some (.slice qa M.quotes.length qc) := by rw [(bcell hb1).1 _ _ (by go_size)]; go_simp
  have r0 : w1.cell? ⟨w.heap.size + 1, 0, none⟩ = some (.slice none 0 0) := by rw [(bcell hb1).1 _ _ (by go_size)]; go_simp
  have r1 : w1.cell? ⟨w.heap.size + 1, 1, none⟩ = some (.slice none 0 0) := by rw [(bcell hb1).1 _ _ (by go_size)]; go_simp
  have r2 : w1.cell? ⟨w.heap.size + 1, 2, none⟩ = some (.slice none 0 0) := by rw [(bcell hb1).1 _ _ (by go_size)]; go_simp
  have rz : ∀ o, w1.frozen? ⟨w.heap.size + 1, o, none⟩ = false := fun o => by rw [(bcell hb1).2 _ _ (by go_size)]; go_simp
  have s0 : w1.cell? ⟨w.heap.size + 1 + 1, 0, none⟩ = some (.int .i64 0) := by rw [(bcell hb1).1 _ _ (by go_size)]; go_simp
  have s1 : w1.cell? ⟨w.heap.size + 1 + 1, 1, none⟩ = some (.int .i64 0) := by rw [(bcell hb1).1 _ _ (by go_size)]; go_simp
  have sz : ∀ o, w1.frozen? ⟨w.heap.size + 1 + 1, o, none⟩ = false := fun o => by rw [(bcell hb1).2 _ _ (by go_size)]; go_simp
  have z1 : w.heap.size + 1 + 1 < w1.heap.size := by have := hb1.size; simp at this; omega
  have B1 : Below w.heap.size w w1 := Below.trans (by go_grown) (hb1.mono (by go_size))
  clear hb1
  by_cases h0 : mayF M e 3 fuel = 0
  rotate_left
  · have HR : Hid (resumeD M e fuel = noRun (mayF M e 3 fuel)) := by show _ = _; rw [resumeD, if_pos h0]
    generalize mayF M e 3 fuel = E at HR h0 ⊢
    have hE1 : (E != 0) = true := by rw [bne_iff_ne]; exact h0
    clear h0
    go_wp2_with fail
    refine bodyPost_ret (v := .tuple #[.agg #[.slice none 0 0, .slice none 0 0, .slice none 0 0], .agg #[.int .i64 0, .int .i64 0], .int .i64 E]) (by simp only [results, Tryz.results44]; go_simp) rfl (Ran3.no HR.out ?_)
    exact below_at (below_at (below_low3 B1 (by omega) _ _ _) (by omega) _ _) (by omega) _ _
  rw [h0]
  obtain ⟨ha, hf0, hf5⟩ := mayF_ok h0
  have HM0 := hid (askF_mach ha)
  have HS := hid (machF_sizes HM0.out)
  obtain ⟨k, y, rfl, hk4, hy, hst⟩ := askF_encl ha (by decide)
  have HY := hid hy
  have HW := hid hst
  clear hy ha hst
  obtain ⟨n, rfl⟩ : ∃ n : Nat, fuel = n := ⟨fuel.toNat, by omega⟩
  obtain ⟨C2, y2, o2, n2, hr⟩ : ∃ C2 y2 o2 n2, runM ((k : Int) + 1) y.log n (core0 M y.pc [y.r0, y.r1, y.r2, y.r3]) = (C2, y2, o2, n2) := ⟨_, _, _, _, rfl⟩
  have HR : Hid (resumeD M ((k : Int) + 1) (n : Int) = ((⟨C2.F, M.encl.set k y2, C2.Q⟩ : MachD), (o2, n2), (0 : Int))) := by
    show _ = _
    rw [resumeD, if_neg (by simp [h0]), show ((k : Int) + 1 - 1).toNat = k by omega, HY.out, Int.toNat_natCast]
    simp only [ranD, hr]
  clear h0
  obtain ⟨eb, eo, rfl, e0, e1, e2, e3, e4, e5, e6⟩ := HE.out k y HY.out
  replace e2 := cell_later B1 e2
  replace e3 := cell_later B1 e3
  replace e4 := cell_later B1 e4
  replace e5 := cell_later B1 e5
  replace e6 := cell_later B1 e6
  replace e0 := cell_later B1 e0
  replace e1 := cell_later B1 e1
  have eb1 := World.block_lt_of_cell? _ _ e0
  simp only at eb1
  have e9 : M.encl.length = 4 := HS.out.2.1
  rw [e9] at p1 HV ⊢
  clear e9
  have hk0 : (0 : Int) ≤ (k : Int) := by omega
  have hk1 : (k : Int) < 4 := by omega
  have z0 : w.heap.size < w1.heap.size := by omega
  have hwe : IntKind.i64.wrap ((k : Int) + 1 - 1) = k := by rw [IntKind.wrap_i64]; omega
  have hwe2 : IntKind.i64.wrap (k : Int) = k := by rw [IntKind.wrap_i64]; omega
  go_wp2_with fail
  refine (runRun _ M k y.pc y.r0 y.r1 y.r2 y.r3 n y _ (HV.out.mono (by first | exact B1 | exact B1.trans (by go_grown))) hf HM0.out HY.out (stopped_words HM0.out HY.out HW.out).1 (stopped_words HM0.out HY.out HW.out).2 (by omega)).mono ?_
  rw [hr]
  rintro x w2 ⟨fv, ev, qv, F, rfl, hF, hO, hb2⟩
  have HO : Hid (OwnMach (w.heap.size + 3) w2 fv ev qv F (M.encl.set k y2) C2.Q) := hO.mono (by first | omega | (simp; omega) | (go_size))
  have HF : Hid (F.map Prod.fst = C2.F) := hF
  obtain ⟨fa2, fc2, rfl, _⟩ := hO.f.frames
  obtain ⟨ea2, ec2, rfl, _⟩ := CellsAt.of_own hO.e
  obtain ⟨qa2, qc2, rfl, _⟩ := CellsAt.of_own hO.q
  have B0 : Below w1.heap.size w1 w2 := by first | exact hb2 | exact Below.trans (by go_grown) (hb2.mono (by go_size))
  replace r0 := cell_later B0 r0
  replace r1 := cell_later B0 r1
  replace r2 := cell_later B0 r2
  replace s0 := cell_later B0 s0
  replace s1 := cell_later B0 s1
  replace rz : ∀ o, w2.frozen? ⟨w.heap.size + 1, o, none⟩ = false := fun o => by rw [(bcell B0).2 _ _ (by omega)]; exact rz o
  replace sz : ∀ o, w2.frozen? ⟨w.heap.size + 1 + 1, o, none⟩ = false := fun o => by rw [(bcell B0).2 _ _ (by omega)]; exact sz o
  have z2 : w.heap.size + 1 + 1 < w2.heap.size := by have := B0.size; omega
  have B2 : Below w.heap.size w w2 := B1.trans (B0.mono (by omega))
  have z3 : w.heap.size + 1 < w2.heap.size := by omega
  clear hO hF hb2 B0 p0 p1 p2 B1 z1
  dsimp only
  generalize hE2 : M.encl.set k y2 = E2 at HO HR ⊢
  clear hE2
  go_upto_region 6 with fail
  with_reducible refine act_gen (fun W => (OwnMach (w.heap.size + 3) W (.slice fa2 F.length fc2) (.slice ea2 E2.length ec2) (.slice qa2 C2.Q.length qc2) F E2 C2.Q ∧ Below w.heap.size w W) ∧
    (W.cell? ⟨w.heap.size + 1, 0, none⟩ = some (.slice none 0 0) ∧ W.cell? ⟨w.heap.size + 1, 1, none⟩ = some (.slice none 0 0) ∧ W.cell? ⟨w.heap.size + 1, 2, none⟩ = some (.slice none 0 0) ∧ (∀ o, W.frozen? ⟨w.heap.size + 1, o, none⟩ = false)) ∧
    (W.cell? ⟨w.heap.size + 1 + 1, 0, none⟩ = some (.int .i64 0) ∧ W.cell? ⟨w.heap.size + 1 + 1, 1, none⟩ = some (.int .i64 0) ∧ (∀ o, W.frozen? ⟨w.heap.size + 1 + 1, o, none⟩ = false)) ∧
    (W.cell? ⟨w2.heap.size, 0, none⟩ = some (.slice fa2 F.length fc2) ∧ W.cell? ⟨w2.heap.size, 1, none⟩ = some (.slice ea2 E2.length ec2) ∧ W.cell? ⟨w2.heap.size, 2, none⟩ = some (.slice qa2 C2.Q.length qc2)) ∧
    (W.cell? ⟨w2.heap.size + 1, 0, none⟩ = some (.int .i64 o2) ∧ W.cell? ⟨w2.heap.size + 1, 1, none⟩ = some (.int .i64 n2)) ∧ w2.heap.size + 1 < W.heap.size) ?_ ?_
  · exact ⟨⟨HO.out.below (by go_grown), B2.trans (Below.mono (by go_grown) B2.size)⟩, ⟨cell_later (by go_grown) r0, cell_later (by go_grown) r1, cell_later (by go_grown) r2, fun o => by rw [(bcell (W := w2) (by go_grown)).2 _ _ z3]; exact rz o⟩, ⟨cell_later (by go_grown) s0, cell_later (by go_grown) s1, fun o => by rw [(bcell (W := w2) (by go_grown)).2 _ _ z2]; exact sz o⟩, ⟨by go_simp, by go_simp, by go_simp⟩, ⟨by go_simp, by go_simp⟩, by go_size⟩
  clear r0 r1 r2 rz s0 s1 sz B2 HO
  rintro W5 ⟨⟨hO, hB⟩, ⟨r0, r1, r2, rz⟩, ⟨s0, s1, sz⟩, ⟨u0, u1, u2⟩, ⟨v0, v1⟩, z5⟩
  have HO := hid hO
  have HB := hid hB
  clear hO hB
  have z6 : w.heap.size + 1 < W5.heap.size := by omega
  have z7 : w.heap.size + 1 + 1 < W5.heap.size := by omega
  have z8 : w2.heap.size ≠ w.heap.size + 1 := by omega
  have z9 : w2.heap.size ≠ w.heap.size + 1 + 1 := by omega
  have z10 : w2.heap.size + 1 ≠ w.heap.size + 1 := by omega
  have z11 : w2.heap.size + 1 ≠ w.heap.size + 1 + 1 := by omega
  go_wp2_with fail
  go_region_held3 (fun w' => w'.cell? ⟨w2.heap.size, 0, none⟩ = some (.slice fa2 F.length fc2) ∧ w'.cell? ⟨w2.heap.size, 1, none⟩ = some (.slice ea2 E2.length ec2) ∧ w'.cell? ⟨w2.heap.size, 2, none⟩ = some (.slice qa2 C2.Q.length qc2) ∧ w'.cell? ⟨w2.heap.size + 1, 0, none⟩ = some (.int .i64 o2) ∧ w'.cell? ⟨w2.heap.size + 1, 1, none⟩ = some (.int .i64 n2))
    (refine ⟨?_, ?_, ?_, ?_, ?_⟩ <;> (go_simp; done))
    (fail)
  all_goals
    go_wp2_with fail
    refine bodyPost_ret (v := .tuple #[.agg #[.slice fa2 F.length fc2, .slice ea2 E2.length ec2, .slice qa2 C2.Q.length qc2], .agg #[.int .i64 o2, .int .i64 n2], .int .i64 0]) (by simp only [results, Tryz.results44]; go_simp) rfl (Ran3.of HR.out (OwnMach.from' (b := w.heap.size + 3) (M := ⟨C2.F, E2, C2.Q⟩) (F := F) ?own HF.out (by omega)) ?bel)
    case own =>
      repeat (first | refine OwnMach.setLow ?_ (by first | (simp; done) | (simp; omega)) _ | refine OwnMach.below ?_ (below_drew _))
      exact HO.out
    case bel =>
      repeat (first | refine Below.setCell ?_ (by first | (simp; done) | (simp; omega)) _ | refine below_drewn ?_)
      exact HB.out

end Go.Proofs.YtklbbjionoeofaaGreatDoor
