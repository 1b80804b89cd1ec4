/- run.Enter, run.Resume, ref.EnteredOf and ref.ResumedOf, walked. Condition: what fits the form's own reach. -/
import Derived.Test.YtklbbjionoeofaaGreatDoorGn
import Derived.Test.YtklbbjionoeofaaGreatDoorRun
import Derived.Test.YtklbbjionoeofaaGreatDoorRanOf
namespace Go.Proofs.YtklbbjionoeofaaGreatDoor
open Go.RowKit

theorem lay {P Q : Prop} (h : P) (k : P → Q) : Q := k h
theorem OwnMach.setOff {base : Nat} {W : World} {fv ev qv : Value} {F : List (FrameD × Value)} {E : List EnclD} {Q : List QuoteD} (h : OwnMach base W fv ev qv F E Q) {a : Addr} (ho : Off fv ev qv F a.block) (u : Value) : OwnMach base (W.setCell a u) fv ev qv F E Q :=
  h.setCell ho.f ho.e ho.q ho.w u
set_option maxRecDepth 10000 in
set_option maxHeartbeats 3200000 in
theorem refEntered (v : Value) (M : MachD) (e word fuel : Int) (w : World) (hv : MachAt w v M) (hf : M.Fits) : Calls Tryz.prog 22 #[v, .int .i64 e, .int .i64 word, .int .i64 fuel] w (Ran3 w.heap.size (enterD M e word fuel) w) := by
  have HV := hid hv
  obtain ⟨fa, fc, ea, ec, qa, qc, rfl, _, hE, _, _⟩ := hv
  have HE := hid hE
  clear hE
  go_enter Tryz.func22, Tryz.ntmps22
  go_wp2_with fail
  refine (refAsk _ M e 2 _ (HV.out.mono (by go_grown)) hf).mono ?_
  rintro x w1 ⟨rfl, hb1⟩
  have p0 : w1.cell? ⟨w.heap.size, 0, none⟩ = some (.slice fa M.frames.length fc) := by rw [(bcell hb1).1 _ _ (by go_size)]; go_simp
  have p1 : w1.cell? ⟨w.heap.size, 1, none⟩ = some (.slice ea M.encl.length ec) := by rw [(bcell hb1).1 _ _ (by go_size)]; go_simp
  have p2 : w1.cell? ⟨w.heap.size, 2, none⟩ = some (.slice qa M.quotes.length qc) := by rw [(bcell hb1).1 _ _ (by go_size)]; go_simp
  have r0 : w1.cell? ⟨w.heap.size + 1, 0, none⟩ = some (.slice none 0 0) := by rw [(bcell hb1).1 _ _ (by go_size)]; go_simp
  have r1 : w1.cell? ⟨w.heap.size + 1, 1, none⟩ = some (.slice none 0 0) := by rw [(bcell hb1).1 _ _ (by go_size)]; go_simp
  have r2 : w1.cell? ⟨w.heap.size + 1, 2, none⟩ = some (.slice none 0 0) := by rw [(bcell hb1).1 _ _ (by go_size)]; go_simp
  have rz : ∀ o, w1.frozen? ⟨w.heap.size + 1, o, none⟩ = false := fun o => by rw [(bcell hb1).2 _ _ (by go_size)]; go_simp
  have s0 : w1.cell? ⟨w.heap.size + 1 + 1, 0, none⟩ = some (.int .i64 0) := by rw [(bcell hb1).1 _ _ (by go_size)]; go_simp
  have s1 : w1.cell? ⟨w.heap.size + 1 + 1, 1, none⟩ = some (.int .i64 0) := by rw [(bcell hb1).1 _ _ (by go_size)]; go_simp
  have sz : ∀ o, w1.frozen? ⟨w.heap.size + 1 + 1, o, none⟩ = false := fun o => by rw [(bcell hb1).2 _ _ (by go_size)]; go_simp
  have z1 : w.heap.size + 1 + 1 < w1.heap.size := by have := hb1.size; simp at this; omega
  have B1 : Below w.heap.size w w1 := Below.trans (by go_grown) (hb1.mono (by go_size))
  clear hb1
  by_cases h1 : askF M e 2 = 0
  rotate_left
  · have HR : Hid (enterD M e word fuel = noRun (askF M e 2)) := by show _ = _; rw [enterD, mayF, if_pos h1, if_pos h1]
    generalize askF M e 2 = E at HR h1 ⊢
    have hE1 : (E != 0) = true := by rw [bne_iff_ne]; exact h1
    have hE2 : (E == 0) = false := by rw [beq_eq_false_iff_ne]; exact h1
    clear h1
    go_wp2_with (go_at_call 25; refine (in_any _ _ _ _).mono ?_; rintro e w' ⟨rfl, rfl⟩)
    refine bodyPost_ret (v := .tuple #[.agg #[.slice none 0 0, .slice none 0 0, .slice none 0 0], .agg #[.int .i64 0, .int .i64 0], .int .i64 E]) (by simp only [results, Tryz.results22]; go_simp) rfl (Ran3.no HR.out ?_)
    exact below_at (below_at (below_low3 B1 (by omega) _ _ _) (by omega) _ _) (by omega) _ _
  rw [h1]
  by_cases hfu : fuel < 0 ∨ 5000 < fuel
  · have h0 : mayF M e 2 fuel = 2 := by rw [mayF, if_neg (by simp [h1]), if_pos hfu]
    have HR : Hid (enterD M e word fuel = noRun 2) := by show _ = _; rw [enterD, h0, if_pos (by decide)]
    have hi : inR fuel 0 5000 = false := by simp [inR]; omega
    clear h0 h1 hfu
    go_wp2_with (go_at_call 25; refine (in_any _ _ _ _).mono ?_; rintro e w' ⟨rfl, rfl⟩)
    refine bodyPost_ret (v := .tuple #[.agg #[.slice none 0 0, .slice none 0 0, .slice none 0 0], .agg #[.int .i64 0, .int .i64 0], .int .i64 2]) (by simp only [results, Tryz.results22]; go_simp) rfl (Ran3.no HR.out ?_)
    exact below_at (below_at (below_low3 B1 (by omega) _ _ _) (by omega) _ _) (by omega) _ _
  have hi : inR fuel 0 5000 = true := by simp [inR]; omega
  have h0 : mayF M e 2 fuel = 0 := by rw [mayF, if_neg (by simp [h1]), if_neg hfu]
  obtain ⟨ha, hf0, hf5⟩ := mayF_ok h0
  clear hfu
  have HM0 := hid (askF_mach ha)
  have HS := hid (machF_sizes HM0.out)
  obtain ⟨k, y, rfl, hk4, hy, hst⟩ := askF_encl ha (by decide)
  have HY := hid hy
  have HW := hid hst
  clear hy ha hst h1
  by_cases hwo : word < 0 ∨ 65535 < word
  · have HR : Hid (enterD M ((k : Int) + 1) word fuel = noRun 2) := by show _ = _; rw [enterD, if_neg (by simp [h0]), if_pos hwo]
    have hj : inR word 0 65535 = false := by simp [inR]; omega
    clear h0 hwo
    go_wp2_with (go_at_call 25; refine (in_any _ _ _ _).mono ?_; rintro e w' ⟨rfl, rfl⟩)
    refine bodyPost_ret (v := .tuple #[.agg #[.slice none 0 0, .slice none 0 0, .slice none 0 0], .agg #[.int .i64 0, .int .i64 0], .int .i64 2]) (by simp only [results, Tryz.results22]; go_simp) rfl (Ran3.no HR.out ?_)
    exact below_at (below_at (below_low3 B1 (by omega) _ _ _) (by omega) _ _) (by omega) _ _
  have hj : inR word 0 65535 = true := by simp [inR]; omega
  obtain ⟨n, rfl⟩ : ∃ n : Nat, fuel = n := ⟨fuel.toNat, by omega⟩
  obtain ⟨C2, y2, o2, n2, hr⟩ : ∃ C2 y2 o2 n2, runM ((k : Int) + 1) y.log n (core0 M 0 [word, 0, 0, 0]) = (C2, y2, o2, n2) := ⟨_, _, _, _, rfl⟩
  have HR : Hid (enterD M ((k : Int) + 1) word (n : Int) = ((⟨C2.F, M.encl.set k y2, C2.Q⟩ : MachD), (o2, n2), (0 : Int))) := by
    show _ = _
    rw [enterD, if_neg (by simp [h0]), if_neg (by omega), show ((k : Int) + 1 - 1).toNat = k by omega, HY.out, Int.toNat_natCast]
    simp only [ranD, hr]
  clear h0
  go_wp2_with (go_at_call 25; refine (in_any _ _ _ _).mono ?_; rintro e w' ⟨rfl, rfl⟩)
  refine (refRan _ M k 0 word 0 0 0 n y _ (HV.out.mono (by first | exact B1 | exact B1.trans (by go_grown))) hf HM0.out HY.out (by omega) (fun j m hj => ?_) (by omega)).mono ?_
  · rcases j with _ | _ | _ | _ | j
    all_goals
      simp at hj
      try subst hj
      try omega
  rw [hr]
  rintro x w2 ⟨fv, ev, qv, F, rfl, hF, hO, hb2⟩
  have HO : Hid (OwnMach (w.heap.size + 3) w2 fv ev qv F (M.encl.set k y2) C2.Q) := hO.mono (by first | omega | (simp; omega) | (go_size))
  have HF : Hid (F.map Prod.fst = C2.F) := hF
  obtain ⟨fa2, fc2, rfl, _⟩ := hO.f.frames
  obtain ⟨ea2, ec2, rfl, _⟩ := CellsAt.of_own hO.e
  obtain ⟨qa2, qc2, rfl, _⟩ := CellsAt.of_own hO.q
  have B0 : Below w1.heap.size w1 w2 := by first | exact hb2 | exact Below.trans (by go_grown) (hb2.mono (by go_size))
  replace r0 := cell_later B0 r0
  replace r1 := cell_later B0 r1
  replace r2 := cell_later B0 r2
  replace s0 := cell_later B0 s0
  replace s1 := cell_later B0 s1
  replace rz : ∀ o, w2.frozen? ⟨w.heap.size + 1, o, none⟩ = false := fun o => by rw [(bcell B0).2 _ _ (by omega)]; exact rz o
  replace sz : ∀ o, w2.frozen? ⟨w.heap.size + 1 + 1, o, none⟩ = false := fun o => by rw [(bcell B0).2 _ _ (by omega)]; exact sz o
  have z2 : w.heap.size + 1 + 1 < w2.heap.size := by have := B0.size; omega
  have B2 : Below w.heap.size w w2 := B1.trans (B0.mono (by omega))
  have z3 : w.heap.size + 1 < w2.heap.size := by omega
  clear hO hF hb2 B0 p0 p1 p2 B1 z1
  dsimp only
  generalize hE2 : M.encl.set k y2 = E2 at HO HR ⊢
  clear hE2
  go_upto_region 7 with fail
  with_reducible refine act_gen (fun W => (OwnMach (w.heap.size + 3) W (.slice fa2 F.length fc2) (.slice ea2 E2.length ec2) (.slice qa2 C2.Q.length qc2) F E2 C2.Q ∧ Below w.heap.size w W) ∧
    (W.cell? ⟨w.heap.size + 1, 0, none⟩ = some (.slice none 0 0) ∧ W.cell? ⟨w.heap.size + 1, 1, none⟩ = some (.slice none 0 0) ∧ W.cell? ⟨w.heap.size + 1, 2, none⟩ = some (.slice none 0 0) ∧ (∀ o, W.frozen? ⟨w.heap.size + 1, o, none⟩ = false)) ∧
    (W.cell? ⟨w.heap.size + 1 + 1, 0, none⟩ = some (.int .i64 0) ∧ W.cell? ⟨w.heap.size + 1 + 1, 1, none⟩ = some (.int .i64 0) ∧ (∀ o, W.frozen? ⟨w.heap.size + 1 + 1, o, none⟩ = false)) ∧
    (W.cell? ⟨w2.heap.size, 0, none⟩ = some (.slice fa2 F.length fc2) ∧ W.cell? ⟨w2.heap.size, 1, none⟩ = some (.slice ea2 E2.length ec2) ∧ W.cell? ⟨w2.heap.size, 2, none⟩ = some (.slice qa2 C2.Q.length qc2)) ∧
    (W.cell? ⟨w2.heap.size + 1, 0, none⟩ = some (.int .i64 o2) ∧ W.cell? ⟨w2.heap.size + 1, 1, none⟩ = some (.int .i64 n2)) ∧ w2.heap.size + 1 < W.heap.size) ?_ ?_
  · exact ⟨⟨HO.out.below (by go_grown), B2.trans (Below.mono (by go_grown) B2.size)⟩, ⟨cell_later (by go_grown) r0, cell_later (by go_grown) r1, cell_later (by go_grown) r2, fun o => by rw [(bcell (W := w2) (by go_grown)).2 _ _ z3]; exact rz o⟩, ⟨cell_later (by go_grown) s0, cell_later (by go_grown) s1, fun o => by rw [(bcell (W := w2) (by go_grown)).2 _ _ z2]; exact sz o⟩, ⟨by go_simp, by go_simp, by go_simp⟩, ⟨by go_simp, by go_simp⟩, by go_size⟩
  clear r0 r1 r2 rz s0 s1 sz B2 HO
  rintro W5 ⟨⟨hO, hB⟩, ⟨r0, r1, r2, rz⟩, ⟨s0, s1, sz⟩, ⟨u0, u1, u2⟩, ⟨v0, v1⟩, z5⟩
  have HO := hid hO
  have HB := hid hB
  clear hO hB
  have z6 : w.heap.size + 1 < W5.heap.size := by omega
  have z7 : w.heap.size + 1 + 1 < W5.heap.size := by omega
  have z8 : w2.heap.size ≠ w.heap.size + 1 := by omega
  have z9 : w2.heap.size ≠ w.heap.size + 1 + 1 := by omega
  have z10 : w2.heap.size + 1 ≠ w.heap.size + 1 := by omega
  have z11 : w2.heap.size + 1 ≠ w.heap.size + 1 + 1 := by omega
  go_wp2_with fail
  go_region_held3 (fun w' => w'.cell? ⟨w2.heap.size, 0, none⟩ = some (.slice fa2 F.length fc2) ∧ w'.cell? ⟨w2.heap.size, 1, none⟩ = some (.slice ea2 E2.length ec2) ∧ w'.cell? ⟨w2.heap.size, 2, none⟩ = some (.slice qa2 C2.Q.length qc2) ∧ w'.cell? ⟨w2.heap.size + 1, 0, none⟩ = some (.int .i64 o2) ∧ w'.cell? ⟨w2.heap.size + 1, 1, none⟩ = some (.int .i64 n2))
    (refine ⟨?_, ?_, ?_, ?_, ?_⟩ <;> (go_simp; done))
    (fail)
  all_goals
    go_wp2_with fail
    refine bodyPost_ret (v := .tuple #[.agg #[.slice fa2 F.length fc2, .slice ea2 E2.length ec2, .slice qa2 C2.Q.length qc2], .agg #[.int .i64 o2, .int .i64 n2], .int .i64 0]) (by simp only [results, Tryz.results22]; go_simp) rfl (Ran3.of HR.out (OwnMach.from' (b := w.heap.size + 3) (M := ⟨C2.F, E2, C2.Q⟩) (F := F) ?own HF.out (by omega)) ?bel)
    case own =>
      repeat (first | refine OwnMach.setLow ?_ (by first | (simp; done) | (simp; omega)) _ | refine OwnMach.below ?_ (below_drew _))
      exact HO.out
    case bel =>
      repeat (first | refine Below.setCell ?_ (by first | (simp; done) | (simp; omega)) _ | refine below_drewn ?_)
      exact HB.out
set_option maxRecDepth 10000 in
set_option maxHeartbeats 3200000 in
theorem refResumed (v : Value) (M : MachD) (e fuel : Int) (w : World) (hv : MachAt w v M) (hf : M.Fits) : Calls Tryz.prog 23 #[v, .int .i64 e, .int .i64 fuel] w (Ran3 w.heap.size (resumeD M e fuel) w) := by
  have HV := hid hv
  obtain ⟨fa, fc, ea, ec, qa, qc, rfl, _, hE, _, _⟩ := hv
  have HE := hid hE
  clear hE
  go_enter Tryz.func23, Tryz.ntmps23
  go_wp2_with fail
  refine (refAsk _ M e 3 _ (HV.out.mono (by go_grown)) hf).mono ?_
  rintro x w1 ⟨rfl, hb1⟩
  have p0 : w1.cell? ⟨w.heap.size, 0, none⟩ = some (.slice fa M.frames.length fc) := by rw [(bcell hb1).1 _ _ (by go_size)]; go_simp
  have p1 : w1.cell? ⟨w.heap.size, 1, none⟩ = some (.slice ea M.encl.length ec) := by rw [(bcell hb1).1 _ _ (by go_size)]; go_simp
  have p2 : w1.cell? ⟨w.heap.size, 2, none⟩ = some (.slice qa M.quotes.length qc) := by rw [(bcell hb1).1 _ _ (by go_size)]; go_simp
  have r0 : w1.cell? ⟨w.heap.size + 1, 0, none⟩ = some (.slice none 0 0) := by rw [(bcell hb1).1 _ _ (by go_size)]; go_simp
  have r1 : w1.cell? ⟨w.heap.size + 1, 1, none⟩ = some (.slice none 0 0) := by rw [(bcell hb1).1 _ _ (by go_size)]; go_simp
  have r2 : w1.cell? ⟨w.heap.size + 1, 2, none⟩ = some (.slice none 0 0) := by rw [(bcell hb1).1 _ _ (by go_size)]; go_simp
  have rz : ∀ o, w1.frozen? ⟨w.heap.size + 1, o, none⟩ = false := fun o => by rw [(bcell hb1).2 _ _ (by go_size)]; go_simp
  have s0 : w1.cell? ⟨w.heap.size + 1 + 1, 0, none⟩ = some (.int .i64 0) := by rw [(bcell hb1).1 _ _ (by go_size)]; go_simp
  have s1 : w1.cell? ⟨w.heap.size + 1 + 1, 1, none⟩ = some (.int .i64 0) := by rw [(bcell hb1).1 _ _ (by go_size)]; go_simp
  have sz : ∀ o, w1.frozen? ⟨w.heap.size + 1 + 1, o, none⟩ = false := fun o => by rw [(bcell hb1).2 _ _ (by go_size)]; go_simp
  have z1 : w.heap.size + 1 + 1 < w1.heap.size := by have := hb1.size; simp at this; omega
  have B1 : Below w.heap.size w w1 := Below.trans (by go_grown) (hb1.mono (by go_size))
  clear hb1
  by_cases h1 : askF M e 3 = 0
  rotate_left
  · have HR : Hid (resumeD M e fuel = noRun (askF M e 3)) := by show _ = _; rw [resumeD, mayF, if_pos h1, if_pos h1]
    generalize askF M e 3 = E at HR h1 ⊢
    have hE1 : (E != 0) = true := by rw [bne_iff_ne]; exact h1
    have hE2 : (E == 0) = false := by rw [beq_eq_false_iff_ne]; exact h1
    clear h1
    go_wp2_with (go_at_call 25; refine (in_any _ _ _ _).mono ?_; rintro e w' ⟨rfl, rfl⟩)
    refine bodyPost_ret (v := .tuple #[.agg #[.slice none 0 0, .slice none 0 0, .slice none 0 0], .agg #[.int .i64 0, .int .i64 0], .int .i64 E]) (by simp only [results, Tryz.results23]; go_simp) rfl (Ran3.no HR.out ?_)
    exact below_at (below_at (below_low3 B1 (by omega) _ _ _) (by omega) _ _) (by omega) _ _
  rw [h1]
  by_cases hfu : fuel < 0 ∨ 5000 < fuel
  · have h0 : mayF M e 3 fuel = 2 := by rw [mayF, if_neg (by simp [h1]), if_pos hfu]
    have HR : Hid (resumeD M e fuel = noRun 2) := by show _ = _; rw [resumeD, h0, if_pos (by decide)]
    have hi : inR fuel 0 5000 = false := by simp [inR]; omega
    clear h0 h1 hfu
    go_wp2_with (go_at_call 25; refine (in_any _ _ _ _).mono ?_; rintro e w' ⟨rfl, rfl⟩)
    refine bodyPost_ret (v := .tuple #[.agg #[.slice none 0 0, .slice none 0 0, .slice none 0 0], .agg #[.int .i64 0, .int .i64 0], .int .i64 2]) (by simp only [results, Tryz.results23]; go_simp) rfl (Ran3.no HR.out ?_)
    exact below_at (below_at (below_low3 B1 (by omega) _ _ _) (by omega) _ _) (by omega) _ _
  have hi : inR fuel 0 5000 = true := by simp [inR]; omega
  have h0 : mayF M e 3 fuel = 0 := by rw [mayF, if_neg (by simp [h1]), if_neg hfu]
  obtain ⟨ha, hf0, hf5⟩ := mayF_ok h0
  clear hfu
  have HM0 := hid (askF_mach ha)
  have HS := hid (machF_sizes HM0.out)
  obtain ⟨k, y, rfl, hk4, hy, hst⟩ := askF_encl ha (by decide)
  have HY := hid hy
  have HW := hid hst
  clear hy ha hst h1
  obtain ⟨n, rfl⟩ : ∃ n : Nat, fuel = n := ⟨fuel.toNat, by omega⟩
  obtain ⟨C2, y2, o2, n2, hr⟩ : ∃ C2 y2 o2 n2, runM ((k : Int) + 1) y.log n (core0 M y.pc [y.r0, y.r1, y.r2, y.r3]) = (C2, y2, o2, n2) := ⟨_, _, _, _, rfl⟩
  have HR : Hid (resumeD M ((k : Int) + 1) (n : Int) = ((⟨C2.F, M.encl.set k y2, C2.Q⟩ : MachD), (o2, n2), (0 : Int))) := by
    show _ = _
    rw [resumeD, if_neg (by simp [h0]), show ((k : Int) + 1 - 1).toNat = k by omega, HY.out, Int.toNat_natCast]
    simp only [ranD, hr]
  clear h0
  obtain ⟨eb, eo, rfl, e0, e1, e2, e3, e4, e5, e6⟩ := HE.out k y HY.out
  replace e2 := cell_later B1 e2
  replace e3 := cell_later B1 e3
  replace e4 := cell_later B1 e4
  replace e5 := cell_later B1 e5
  replace e6 := cell_later B1 e6
  replace e0 := cell_later B1 e0
  replace e1 := cell_later B1 e1
  have eb1 := World.block_lt_of_cell? _ _ e0
  simp only at eb1
  have e9 : M.encl.length = 4 := HS.out.2.1
  rw [e9] at p1 HV ⊢
  clear e9
  have hk0 : (0 : Int) ≤ (k : Int) := by omega
  have hk1 : (k : Int) < 4 := by omega
  have z0 : w.heap.size < w1.heap.size := by omega
  have hwe : IntKind.i64.wrap ((k : Int) + 1 - 1) = k := by rw [IntKind.wrap_i64]; omega
  have hwe2 : IntKind.i64.wrap (k : Int) = k := by rw [IntKind.wrap_i64]; omega
  have q0 : w.heap.size < w1.heap.size := by omega
  have n0 : eb ≠ w1.heap.size := by omega
  clear e0 e1
  go_upto_region 6 with (go_at_call 25; refine (in_any _ _ _ _).mono ?_; rintro e w' ⟨rfl, rfl⟩)
  go_cut [10, 11, 27] from 28 to 47 (fun t10 t11 _ W5 => ∃ (b c : Nat) (F : List (FrameD × Value)) (fa2 : Option Addr) (fc2 : Nat) (ea2 : Option Addr) (ec2 : Nat) (qa2 : Option Addr) (qc2 : Nat), t10 = .pointer (some ⟨b, 0, none⟩) ∧ t11 = .pointer (some ⟨c, 0, none⟩) ∧ Hid (F.map Prod.fst = C2.F) ∧ OwnMach (w.heap.size + 3) W5 (.slice fa2 F.length fc2) (.slice ea2 (M.encl.set k y2).length ec2) (.slice qa2 C2.Q.length qc2) F (M.encl.set k y2) C2.Q ∧ Below w1.heap.size w1 W5 ∧
    (W5.cell? ⟨b, 0, none⟩ = some (.slice fa2 F.length fc2) ∧ W5.cell? ⟨b, 1, none⟩ = some (.slice ea2 (M.encl.set k y2).length ec2) ∧ W5.cell? ⟨b, 2, none⟩ = some (.slice qa2 C2.Q.length qc2)) ∧ (W5.cell? ⟨c, 0, none⟩ = some (.int .i64 o2) ∧ W5.cell? ⟨c, 1, none⟩ = some (.int .i64 n2)) ∧ w1.heap.size ≤ b ∧ w1.heap.size ≤ c)
  case first =>
    go_region_held3 (fun w' => w'.cell? ⟨w.heap.size, 0, none⟩ = some (.slice fa M.frames.length fc) ∧ w'.cell? ⟨w.heap.size, 1, none⟩ = some (.slice (some ⟨eb, eo, none⟩) 4 ec) ∧ w'.cell? ⟨w.heap.size, 2, none⟩ = some (.slice qa M.quotes.length qc) ∧ w'.cell? ⟨eb, eo + k * 7 + 2, none⟩ = some (.int .i64 y.pc) ∧ w'.cell? ⟨eb, eo + k * 7 + 3, none⟩ = some (.int .i64 y.r0) ∧ w'.cell? ⟨eb, eo + k * 7 + 4, none⟩ = some (.int .i64 y.r1) ∧ w'.cell? ⟨eb, eo + k * 7 + 5, none⟩ = some (.int .i64 y.r2) ∧ w'.cell? ⟨eb, eo + k * 7 + 6, none⟩ = some (.int .i64 y.r3))
      ((refine ⟨cell_later ?_ p0, cell_later ?_ p1, cell_later ?_ p2, cell_later ?_ e2, cell_later ?_ e3, cell_later ?_ e4, cell_later ?_ e5, cell_later ?_ e6⟩ <;> (repeat (first | with_reducible exact B0 | with_reducible exact Below.refl _ _ | with_reducible refine Below.setCell ?_ (by first | (simp; done) | (simp; omega) | omega) _ | with_reducible refine below_drewn ?_ | with_reducible refine Below.alloc ?_ (by first | (simp; done) | (simp; omega) | omega) _)); done))
      ((go_at_call 55
        refine (refRan _ M k y.pc y.r0 y.r1 y.r2 y.r3 n y _ (HV.out.mono (B1.trans (Below.mono (by go_grown) B1.size))) hf HM0.out HY.out (stopped_words HM0.out HY.out HW.out).1 (stopped_words HM0.out HY.out HW.out).2 (by omega)).mono ?_
        rw [hr]
        rintro x w2 ⟨fv, ev, qv, F, rfl, hF, hO, hb2⟩
        obtain ⟨fa2, fc2, rfl, _⟩ := hO.f.frames
        obtain ⟨ea2, ec2, rfl, _⟩ := CellsAt.of_own hO.e
        obtain ⟨qa2, qc2, rfl, _⟩ := CellsAt.of_own hO.q
        have B0 : Below w1.heap.size w1 w2 := by first | exact hb2 | exact Below.trans (by go_grown) (hb2.mono (by go_size))
        have HOff := fun (b : Nat) => And.intro (off_low (b := b) hO) (off_new (b := b) hO)
        have HOz := hb2.size
        have HF : Hid (F.map Prod.fst = C2.F) := hF
        have HO : Hid (OwnMach (w.heap.size + 3) w2 _ _ _ F (M.encl.set k y2) C2.Q) := hO.mono (by first | omega | (simp; omega) | (go_size))
        have HOff := hid HOff
        simp at HOz
        have z20 := B0.size
        first
          | (refine lay (P := w2.cell? ⟨w1.heap.size, 0, none⟩ = some (.slice none 0 0) ∧ w2.cell? ⟨w1.heap.size, 1, none⟩ = some (.slice none 0 0) ∧ w2.cell? ⟨w1.heap.size, 2, none⟩ = some (.slice none 0 0)) ?hh ?_
             case hh => (refine ⟨?_, ?_, ?_⟩ <;> (refine ((bcell hb2).1 _ _ ?ha).trans ?hb; (case ha => go_size); (case hb => (go_simp; done))))
             rintro ⟨ga0, ga1, ga2⟩)
          | (refine lay (P := w2.cell? ⟨w1.heap.size, 0, none⟩ = some (.int .i64 0) ∧ w2.cell? ⟨w1.heap.size, 1, none⟩ = some (.int .i64 0)) ?hh ?_
             case hh => (refine ⟨?_, ?_⟩ <;> (refine ((bcell hb2).1 _ _ ?ha).trans ?hb; (case ha => go_size); (case hb => (go_simp; done))))
             rintro ⟨ga0, ga1⟩)
          | skip
        first
          | (refine lay (P := ∀ o, w2.frozen? ⟨w1.heap.size, o, none⟩ = false) ?hh ?_
             case hh => (intro o; refine ((bcell hb2).2 _ _ ?ha).trans ?hb; (case ha => go_size); (case hb => (go_simp; done)))
             intro gaz)
          | skip
        first
          | (refine lay (P := w2.cell? ⟨w1.heap.size + 1, 0, none⟩ = some (.slice none 0 0) ∧ w2.cell? ⟨w1.heap.size + 1, 1, none⟩ = some (.slice none 0 0) ∧ w2.cell? ⟨w1.heap.size + 1, 2, none⟩ = some (.slice none 0 0)) ?hh ?_
             case hh => (refine ⟨?_, ?_, ?_⟩ <;> (refine ((bcell hb2).1 _ _ ?ha).trans ?hb; (case ha => go_size); (case hb => (go_simp; done))))
             rintro ⟨gb0, gb1, gb2⟩)
          | (refine lay (P := w2.cell? ⟨w1.heap.size + 1, 0, none⟩ = some (.int .i64 0) ∧ w2.cell? ⟨w1.heap.size + 1, 1, none⟩ = some (.int .i64 0)) ?hh ?_
             case hh => (refine ⟨?_, ?_⟩ <;> (refine ((bcell hb2).1 _ _ ?ha).trans ?hb; (case ha => go_size); (case hb => (go_simp; done))))
             rintro ⟨gb0, gb1⟩)
          | skip
        first
          | (refine lay (P := ∀ o, w2.frozen? ⟨w1.heap.size + 1, o, none⟩ = false) ?hh ?_
             case hh => (intro o; refine ((bcell hb2).2 _ _ ?ha).trans ?hb; (case ha => go_size); (case hb => (go_simp; done)))
             intro gbz)
          | skip
        clear hO hF hb2
        first
          | (refine lay (P := w1.heap.size < w2.heap.size) ?hh ?_
             case hh => omega
             intro z21)
          | skip
        first
          | (refine lay (P := w1.heap.size + 1 < w2.heap.size) ?hh ?_
             case hh => omega
             intro z22)
          | skip
        have z23 : w1.heap.size + 1 ≠ w1.heap.size := by omega
        have z24 : w1.heap.size ≠ w1.heap.size + 1 := by omega
        have z25 : ∀ o o' : Nat, (⟨w1.heap.size + 1, o, none⟩ : Addr) ≠ ⟨w1.heap.size, o', none⟩ := fun o o' e => by simp at e
        have z26 : ∀ o o' : Nat, (⟨w1.heap.size, o, none⟩ : Addr) ≠ ⟨w1.heap.size + 1, o', none⟩ := fun o o' e => by simp at e))
    all_goals
      go_wp2_with fail
      go_meet
      refine ⟨_, _, F, fa2, fc2, ea2, ec2, qa2, qc2, rfl, rfl, HF, ?own, ?bel, ⟨?u0, ?u1, ?u2⟩, ⟨?v0, ?v1⟩, ?gb, ?gc⟩
      case own =>
        repeat (first | with_reducible exact HO.out | with_reducible refine OwnMach.setOff ?_ (by first | exact (HOff.out _).1 (by first | (simp; done) | (simp; omega) | omega) | exact (HOff.out _).2 (by first | (simp; done) | (simp; omega) | omega)) _ | with_reducible refine OwnMach.below ?_ (below_drew _) | with_reducible refine OwnMach.below ?_ (below_alloc _ _))
      case bel =>
        repeat (first | with_reducible exact B0 | with_reducible exact Below.refl _ _ | with_reducible refine Below.setCell ?_ (by first | (simp; done) | (simp; omega) | omega) _ | with_reducible refine below_drewn ?_ | with_reducible refine Below.alloc ?_ (by first | (simp; done) | (simp; omega) | omega) _)
      case u0 => go_simp
      case u1 => go_simp
      case u2 => go_simp
      case v0 => go_simp
      case v1 => go_simp
      case gb => first | exact Nat.le_refl _ | (simp; done) | (simp; omega) | omega
      case gc => first | exact Nat.le_refl _ | (simp; done) | (simp; omega) | omega
  case rest =>
  obtain ⟨b, c, F, fa2, fc2, ea2, ec2, qa2, qc2, rfl, rfl, HF, hO, B0, ⟨u0, u1, u2⟩, ⟨v0, v1⟩, gb, gc⟩ := hcut
  replace r0 := cell_later B0 r0
  replace r1 := cell_later B0 r1
  replace r2 := cell_later B0 r2
  replace s0 := cell_later B0 s0
  replace s1 := cell_later B0 s1
  replace rz : ∀ o, wc.frozen? ⟨w.heap.size + 1, o, none⟩ = false := fun o => by rw [(bcell B0).2 _ _ (by omega)]; exact rz o
  replace sz : ∀ o, wc.frozen? ⟨w.heap.size + 1 + 1, o, none⟩ = false := fun o => by rw [(bcell B0).2 _ _ (by omega)]; exact sz o
  have z5 := B0.size
  have hB : Below w.heap.size w wc := B1.trans (B0.mono (by omega))
  clear e2 e3 e4 e5 e6 p0 p1 p2
  generalize hE2 : M.encl.set k y2 = E2 at hO u1 HR ⊢
  clear hE2
  have HO := hid hO
  have HB := hid hB
  clear hO hB
  have z6 : w.heap.size + 1 < wc.heap.size := by omega
  have z7 : w.heap.size + 1 + 1 < wc.heap.size := by omega
  have z8 : b ≠ w.heap.size + 1 := by omega
  have z9 : b ≠ w.heap.size + 1 + 1 := by omega
  have z10 : c ≠ w.heap.size + 1 := by omega
  have z11 : c ≠ w.heap.size + 1 + 1 := by omega
  go_wp2_with fail
  go_region_held3 (fun w' => w'.cell? ⟨b, 0, none⟩ = some (.slice fa2 F.length fc2) ∧ w'.cell? ⟨b, 1, none⟩ = some (.slice ea2 E2.length ec2) ∧ w'.cell? ⟨b, 2, none⟩ = some (.slice qa2 C2.Q.length qc2) ∧ w'.cell? ⟨c, 0, none⟩ = some (.int .i64 o2) ∧ w'.cell? ⟨c, 1, none⟩ = some (.int .i64 n2))
    (refine ⟨?_, ?_, ?_, ?_, ?_⟩ <;> (go_simp; done))
    (fail)
  all_goals
    go_wp2_with fail
    refine bodyPost_ret (v := .tuple #[.agg #[.slice fa2 F.length fc2, .slice ea2 E2.length ec2, .slice qa2 C2.Q.length qc2], .agg #[.int .i64 o2, .int .i64 n2], .int .i64 0]) (by simp only [results, Tryz.results23]; go_simp) rfl (Ran3.of HR.out (OwnMach.from' (b := w.heap.size + 3) (M := ⟨C2.F, E2, C2.Q⟩) (F := F) ?own HF.out (by omega)) ?bel)
    case own =>
      repeat (first | refine OwnMach.setLow ?_ (by first | (simp; done) | (simp; omega)) _ | refine OwnMach.below ?_ (below_drew _))
      exact HO.out
    case bel =>
      repeat (first | refine Below.setCell ?_ (by first | (simp; done) | (simp; omega)) _ | refine below_drewn ?_)
      exact HB.out

end Go.Proofs.YtklbbjionoeofaaGreatDoor
