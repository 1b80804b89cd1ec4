/- What run.Enter and run.Resume answer, as plain data. No program is walked.
run.may, walked. Conditions: what fits the form's own reach; the state asked is not below 0. -/
import Derived.Test.YtklbbjionoeofaaGreatDoorGm
import Derived.Test.YtklbbjionoeofaaGreatDoorGh
namespace Go.Proofs.YtklbbjionoeofaaGreatDoor
open Go.RowKit

theorem below_drewn {w W : World} (h : Below w.heap.size w W) : Below w.heap.size w W.drew := h.trans ((below_drew _).mono h.size)
/-- May an enclave be run? -/
def mayF (M : MachD) (e st fuel : Int) : Int := if askF M e st ≠ 0 then askF M e st else if fuel < 0 ∨ 5000 < fuel then 2 else 0
def ranD (M : MachD) (ei : Nat) (y : EnclD) (pc : Int) (R : List Int) (fuel : Nat) : MachD × (Int × Int) × Int :=
  let r := runM ((ei : Int) + 1) y.log fuel (core0 M pc R)
  (⟨r.1.F, M.encl.set ei r.2.1, r.1.Q⟩, (r.2.2.1, r.2.2.2), 0)
def noRun (f : Int) : MachD × (Int × Int) × Int := (mach0, (0, 0), f)
def enterD (M : MachD) (e word fuel : Int) : MachD × (Int × Int) × Int :=
  if mayF M e 2 fuel ≠ 0 then noRun (mayF M e 2 fuel) else if word < 0 ∨ 65535 < word then noRun 2 else match M.encl[(e - 1).toNat]? with
  | some y => ranD M (e - 1).toNat y 0 [word, 0, 0, 0] fuel.toNat
  | none => noRun 5
def resumeD (M : MachD) (e fuel : Int) : MachD × (Int × Int) × Int :=
  if mayF M e 3 fuel ≠ 0 then noRun (mayF M e 3 fuel) else match M.encl[(e - 1).toNat]? with
  | some y => ranD M (e - 1).toNat y y.pc [y.r0, y.r1, y.r2, y.r3] fuel.toNat
  | none => noRun 5
def Ran3 (base : Nat) (r : MachD × (Int × Int) × Int) (w : World) (x : Ending) (w' : World) : Prop :=
  ∃ v, x = .returned (.tuple #[v, .agg #[.int .i64 r.2.1.1, .int .i64 r.2.1.2], .int .i64 r.2.2]) ∧ MachFrom base w' v r.1 ∧ Below base w w'
theorem Ran3.no {base : Nat} {r : MachD × (Int × Int) × Int} {w w' : World} {f : Int} (h : r = noRun f) (hb : Below base w w') : Ran3 base r w (.returned (.tuple #[.agg #[.slice none 0 0, .slice none 0 0, .slice none 0 0], .agg #[.int .i64 0, .int .i64 0], .int .i64 f])) w' := by
  subst h
  exact ⟨_, rfl, mach0_from, hb⟩
theorem Ran3.of {base : Nat} {r : MachD × (Int × Int) × Int} {w w' : World} {v : Value} {M : MachD} {o n f : Int} (h : r = (M, (o, n), f)) (hv : MachFrom base w' v M) (hb : Below base w w') : Ran3 base r w (.returned (.tuple #[v, .agg #[.int .i64 o, .int .i64 n], .int .i64 f])) w' := by
  subst h
  exact ⟨_, rfl, hv, hb⟩

theorem runM_ok {e : Int} {g : ByteArray} (n : Nat) {c : CoreD} (hc : CoreOk c) : CoreOk (runM e g n c).1 := by
  induction n generalizing c with
  | zero => exact hc
  | succ n ih =>
    rw [runM]
    cases h : stepM e g c with
    | none => exact hc
    | some p =>
      obtain ⟨d, o⟩ := p
      have hd := (stepM_ok hc h).1
      cases o with
      | none => exact ih hd
      | some v => exact hd
theorem coreOk_fits {c : CoreD} (hc : CoreOk c) {E : List EnclD} (hE : E.length = 4) : (⟨c.F, E, c.Q⟩ : MachD).Fits := by
  refine ⟨?_, ?_, ?_, fun i x hx => ?_⟩
  · simp only [hc.len]; omega
  · simp only [hE]; omega
  · have := hc.q; simp only; omega
  · have := (hc.fr i x hx).1; omega
theorem enclB_of {M : MachD} (h : machF M = 0) {i : Nat} {y : EnclD} (hy : M.encl[i]? = some y) : enclB y = true := by
  unfold machF at h
  cases hs : sizeB M with
  | false => rw [hs] at h; simp at h
  | true =>
    rw [hs] at h
    cases hb : machB M with
    | false => rw [hb] at h; simp at h
    | true =>
      simp only [machB, Bool.and_eq_true, List.all_eq_true] at hb
      exact hb.1 y (List.mem_of_getElem? hy)
/-- A stopped enclave has words. -/
theorem stopped_words {M : MachD} (h : machF M = 0) {i : Nat} {y : EnclD} (hy : M.encl[i]? = some y) (hs : y.state = 3) : (0 ≤ y.pc ∧ y.pc ≤ 65535) ∧ ∀ (k : Nat) (m : Int), [y.r0, y.r1, y.r2, y.r3][k]? = some m → 0 ≤ m ∧ m ≤ 65535 := by
  have hb := enclB_of h hy
  simp only [enclB, Bool.and_eq_true, hs] at hb
  have h3 := hb.2
  simp only [if_true, Bool.and_eq_true] at h3
  refine ⟨by simpa [inR] using h3.1, fun k m hk => ?_⟩
  have h4 := h3.2
  rw [wordRegs, Bool.not_eq_true', List.any_eq_false] at h4
  have := h4 m (List.mem_of_getElem? hk)
  simpa [inR] using this
theorem ranD_fits {M : MachD} (h : machF M = 0) {ei : Nat} {y : EnclD} {pc : Int} {R : List Int} (n : Nat) (hp : 0 ≤ pc ∧ pc ≤ 65535) (hl : R.length = 4) (hR : ∀ (k : Nat) (m : Int), R[k]? = some m → 0 ≤ m ∧ m ≤ 65535) : (ranD M ei y pc R n).1.Fits := by
  have h4 := (machF_sizes h).2.1
  exact coreOk_fits (runM_ok n (core0_ok h hp hl hR)) (by rw [List.length_set]; exact h4)
theorem mayF_ok {M : MachD} {e st fuel : Int} (h : mayF M e st fuel = 0) : askF M e st = 0 ∧ 0 ≤ fuel ∧ fuel ≤ 5000 := by
  unfold mayF at h
  by_cases h1 : askF M e st = 0
  · rw [if_neg (by simpa using h1)] at h
    by_cases h2 : fuel < 0 ∨ 5000 < fuel
    · rw [if_pos h2] at h; omega
    · exact ⟨h1, by omega, by omega⟩
  · rw [if_pos h1] at h; exact absurd h h1
theorem askF_mach {M : MachD} {e st : Int} (h : askF M e st = 0) : machF M = 0 := by
  unfold askF at h
  by_cases h1 : machF M = 0
  · exact h1
  · rw [if_pos h1] at h; exact absurd h h1
/-- An enclave in the state that is asked. -/
theorem askF_encl {M : MachD} {e st : Int} (h : askF M e st = 0) (hs : 0 ≤ st) : ∃ (k : Nat) (y : EnclD), e = (k : Int) + 1 ∧ k < 4 ∧ M.encl[k]? = some y ∧ y.state = st := by
  rcases askF_cases M e st with ⟨h0, h1⟩ | ⟨h0, ⟨_, h1⟩ | ⟨_, _, h1⟩ | ⟨k, x, hk, hk4, hx, ⟨_, h1⟩ | ⟨_, _, _, h1⟩ | ⟨_, _, h2, _⟩ | ⟨_, h2, _⟩⟩⟩
  · exact absurd (h1 ▸ h) h0
  · omega
  · omega
  · omega
  · omega
  · exact ⟨k, x, hk, hk4, hx, h2⟩
  · exact absurd hs h2
theorem enterD_fits (M : MachD) (e word fuel : Int) : (enterD M e word fuel).1.Fits := by
  unfold enterD
  split
  · exact mach0_fits
  rename_i h
  split
  · exact mach0_fits
  rename_i h2
  have hm := mayF_ok (by simpa using h)
  split
  · refine ranD_fits (askF_mach hm.1) _ (by omega) rfl (fun k m hk => ?_)
    rcases k with _ | _ | _ | _ | k
    all_goals
      simp at hk
      try subst hk
      try omega
  · exact mach0_fits
theorem resumeD_fits (M : MachD) (e fuel : Int) : (resumeD M e fuel).1.Fits := by
  unfold resumeD
  split
  · exact mach0_fits
  rename_i h
  have hm := mayF_ok (by simpa using h)
  obtain ⟨k, y, rfl, _, hy, hs⟩ := askF_encl hm.1 (by decide)
  rw [show ((k : Int) + 1 - 1).toNat = k by omega, hy]
  have hw := stopped_words (askF_mach hm.1) hy hs
  exact ranD_fits (askF_mach hm.1) _ hw.1 rfl hw.2

end Go.Proofs.YtklbbjionoeofaaGreatDoor

namespace Go.Proofs.YtklbbjionoeofaaGreatDoor
open Go.RowKit

set_option maxRecDepth 10000 in
set_option maxHeartbeats 3200000 in
theorem runMay (v : Value) (M : MachD) (e st fuel : Int) (w : World) (hv : MachAt w v M) (hf : M.Fits) (hst : 0 ≤ st) : Calls Tryz.prog 68 #[v, .int .i64 e, .int .i64 st, .int .i64 fuel] w fun x w' => x = .returned (.int .i64 (mayF M e st fuel)) ∧ Below w.heap.size w w' := by
  have HV := hid hv
  obtain ⟨fa, fc, ea, ec, qa, qc, rfl, _, hE, _, _⟩ := hv
  have HE := hid hE
  clear hE
  have HC := hid (askF_cases M e st)
  have B0 : ∀ X, Below w.heap.size w (w.alloc X) := fun X => by go_grown
  go_enter Tryz.func68, Tryz.ntmps68
  go_wp2_with fail
  refine (epcCheck _ M _ (HV.out.mono (B0 _)) hf).mono ?_
  rintro x w1 ⟨rfl, hb1⟩
  have p1 : w1.cell? ⟨w.heap.size, 1, none⟩ = some (.slice ea M.encl.length ec) := by rw [(bcell hb1).1 _ _ (by go_size)]; go_simp
  have z1 : w.heap.size < w1.heap.size := by have := hb1.size; simp at this; omega
  have B1 : Below w.heap.size w w1 := (B0 _).trans (hb1.mono (by go_size))
  clear hb1
  rcases HC.out with ⟨h0, hR⟩ | ⟨h0, hR⟩
  · have HR := hid hR
    have H0 := hid h0
    clear hR
    generalize machF M = E at HR H0 h0 ⊢
    have hE1 : (E != 0) = true := by rw [bne_iff_ne]; exact h0
    have hE2 : (E == 0) = false := by rw [beq_eq_false_iff_ne]; exact h0
    clear h0
    go_wp2_with fail
    go_ret
    exact ⟨by rw [mayF, if_pos (by rw [HR.out]; exact H0.out), HR.out]; rfl, B1⟩
  have H4 := hid (machF_sizes h0)
  rw [h0]
  clear h0
  rcases hR with ⟨h1, hR⟩ | ⟨h1, h1', hR⟩ | ⟨k, y, hk, hk4, hx, hR⟩
  · have HR := hid hR
    clear hR
    go_wp2_with fail
    go_ret
    exact ⟨by rw [mayF, if_pos (by rw [HR.out]; decide), HR.out]; rfl, B1⟩
  · have HR := hid hR
    clear hR
    go_wp2_with fail
    go_ret
    exact ⟨by rw [mayF, if_pos (by rw [HR.out]; decide), HR.out]; rfl, B1⟩
  subst hk
  obtain ⟨eb, eo, rfl, m0, m1, _⟩ := HE.out k y hx
  have n0 := cell_later B1 m0
  have nb := World.block_lt_of_cell? _ _ n0
  simp only at nb
  have e4 : M.encl.length = 4 := H4.out.2.1
  rw [e4] at p1 HV ⊢
  clear e4 hx m0 m1
  have hk0 : (0 : Int) ≤ (k : Int) := by omega
  have hk1 : (k : Int) < 4 := by omega
  rcases hR with ⟨h2, hR⟩ | ⟨h2, h3, h4, hR⟩ | ⟨h2, h3, h4, hR⟩ | ⟨h2, h3, hR⟩
  · have HR := hid hR
    have h2b : (y.state == 0) = true := by simp [h2]
    clear hR h2
    go_wp2_with fail
    go_ret
    exact ⟨by rw [mayF, if_pos (by rw [HR.out]; decide), HR.out]; rfl, B1⟩
  · have HR := hid hR
    have h2b : (y.state == 0) = false := by simp [h2]
    have h4b : (y.state != st) = true := by rw [bne_iff_ne]; exact h4
    clear hR h2 h4
    go_wp2_with fail
    go_ret
    exact ⟨by rw [mayF, if_pos (by rw [HR.out]; decide), HR.out]; rfl, B1⟩
  · have HR := hid hR
    have h2b : (y.state == 0) = false := by simp [h2]
    have h4b : (y.state != st) = false := by rw [h4]; simp
    clear hR h2 h4
    by_cases hf1 : fuel < 0
    · go_wp2_with fail
      go_ret
      exact ⟨by rw [mayF, if_neg (by rw [HR.out]; simp), if_pos (.inl hf1)]; rfl, B1⟩
    by_cases hf2 : 5000 < fuel
    · go_wp2_with fail
      go_ret
      exact ⟨by rw [mayF, if_neg (by rw [HR.out]; simp), if_pos (.inr hf2)]; rfl, B1⟩
    · go_wp2_with fail
      go_ret
      exact ⟨by rw [mayF, if_neg (by rw [HR.out]; simp), if_neg (by omega)]; rfl, B1⟩
  · omega

end Go.Proofs.YtklbbjionoeofaaGreatDoor
