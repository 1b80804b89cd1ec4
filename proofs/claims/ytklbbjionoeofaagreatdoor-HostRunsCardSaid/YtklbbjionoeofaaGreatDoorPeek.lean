/- epc.word, epc.Peek and its reference, walked. Condition: what fits the form's own reach. -/
import Derived.Test.YtklbbjionoeofaaGreatDoorGi
import Derived.Test.YtklbbjionoeofaaGreatDoorFault
namespace Go.Proofs.YtklbbjionoeofaaGreatDoor
open Go.RowKit

theorem wordF_zero {M : MachD} {f q : Int} (h : wordF M f q = 0) : machF M = 0 ∧ ∃ (i k : Nat) (x : FrameD) (n : Int), f = i ∧ q = k ∧ i < 24 ∧ k < 8 ∧ M.frames[i]? = some x ∧ FrameOk M x ∧ x.words[k]? = some n := by
  unfold wordF at h
  by_cases h0 : machF M = 0
  · rw [if_neg (by simpa using h0)] at h
    by_cases h1 : f < 0 ∨ 24 ≤ f ∨ q < 0 ∨ 8 ≤ q
    · rw [if_pos h1] at h; omega
    · have hl := (machF_sizes h0).1
      obtain ⟨i, rfl⟩ : ∃ i : Nat, f = i := ⟨f.toNat, by omega⟩
      obtain ⟨k, rfl⟩ : ∃ k : Nat, q = k := ⟨q.toNat, by omega⟩
      obtain ⟨x, hx⟩ : ∃ x, M.frames[i]? = some x := ⟨_, List.getElem?_eq_getElem (by omega)⟩
      have ho := machF_frame h0 hx
      have hlen := ho.len
      exact ⟨h0, i, k, x, _, rfl, rfl, by omega, by omega, hx, ho, List.getElem?_eq_getElem (by omega)⟩
  · rw [if_pos h0] at h
    exact absurd h h0

set_option maxRecDepth 10000 in
set_option maxHeartbeats 1600000 in
theorem epcWord (v : Value) (M : MachD) (f q : Int) (w : World) (hv : MachAt w v M) (hf : M.Fits) : Calls Tryz.prog 67 #[v, .int .i64 f, .int .i64 q] w fun x w' => x = .returned (.int .i64 (wordF M f q)) ∧ Below w.heap.size w w' := by
  have HV := hid hv
  obtain ⟨fa, fc, ea, ec, qa, qc, rfl, _, _, _, _⟩ := hv
  have B0 : ∀ X, Below w.heap.size w (w.alloc X) := fun X => by go_grown
  go_enter Tryz.func67, Tryz.ntmps67
  go_wp2_with fail
  refine (epcCheck _ M _ (HV.out.mono (B0 _)) hf).mono ?_
  rintro x w1 ⟨rfl, hb1⟩
  have B1 : Below w.heap.size w w1 := (B0 _).trans (hb1.mono (by go_size))
  clear hb1 HV
  by_cases h0 : machF M = 0
  · have HD : Hid (wordF M f q = if f < 0 ∨ 24 ≤ f ∨ q < 0 ∨ 8 ≤ q then 2 else 0) := by show wordF M f q = _; simp [wordF, h0]
    rw [h0]
    clear h0
    by_cases h1 : f < 0
    · have HR : Hid (wordF M f q = 2) := by show wordF M f q = 2; rw [HD.out, if_pos (.inl h1)]
      go_wp2_with fail
      go_ret
      exact ⟨by rw [HR.out]; rfl, B1⟩
    by_cases h2 : 24 ≤ f
    · have HR : Hid (wordF M f q = 2) := by show wordF M f q = 2; rw [HD.out, if_pos (.inr (.inl h2))]
      go_wp2_with fail
      go_ret
      exact ⟨by rw [HR.out]; rfl, B1⟩
    by_cases h3 : q < 0
    · have HR : Hid (wordF M f q = 2) := by show wordF M f q = 2; rw [HD.out, if_pos (.inr (.inr (.inl h3)))]
      go_wp2_with fail
      go_ret
      exact ⟨by rw [HR.out]; rfl, B1⟩
    by_cases h4 : 8 ≤ q
    · have HR : Hid (wordF M f q = 2) := by show wordF M f q = 2; rw [HD.out, if_pos (.inr (.inr (.inr h4)))]
      go_wp2_with fail
      go_ret
      exact ⟨by rw [HR.out]; rfl, B1⟩
    have HR : Hid (wordF M f q = 0) := by show wordF M f q = 0; rw [HD.out, if_neg (by omega)]
    go_wp2_with fail
    go_ret
    exact ⟨by rw [HR.out]; rfl, B1⟩
  · have HR : Hid (wordF M f q = machF M) := by show wordF M f q = _; simp [wordF, h0]
    have hE1 : (machF M != 0) = true := by rw [bne_iff_ne]; exact h0
    generalize machF M = E at HR hE1 h0 ⊢
    clear h0
    go_wp2_with fail
    go_ret
    exact ⟨by rw [HR.out]; rfl, B1⟩

set_option maxRecDepth 10000 in
set_option maxHeartbeats 1600000 in
theorem epcPeek (v : Value) (M : MachD) (f q : Int) (w : World) (hv : MachAt w v M) (hf : M.Fits) : Calls Tryz.prog 41 #[v, .int .i64 f, .int .i64 q] w fun x w' => x = .returned (.tuple #[.int .i64 (peekD M f q).1, .int .i64 (peekD M f q).2]) ∧ Below w.heap.size w w' := by
  have HV := hid hv
  obtain ⟨fa, fc, ea, ec, qa, qc, rfl, hF, _, _, _⟩ := hv
  have HF := hid hF
  clear hF
  have B0 : ∀ X, Below w.heap.size w (w.alloc X) := fun X => by go_grown
  go_enter Tryz.func41, Tryz.ntmps41
  go_wp2_with fail
  refine (epcWord _ M f q _ (HV.out.mono (B0 _)) hf).mono ?_
  rintro x w1 ⟨rfl, hb1⟩
  have p0 : w1.cell? ⟨w.heap.size, 0, none⟩ = some (.slice fa M.frames.length fc) := by rw [(bcell hb1).1 _ _ (by go_size)]; go_simp
  have B1 : Below w.heap.size w w1 := (B0 _).trans (hb1.mono (by go_size))
  clear hb1 HV
  by_cases h0 : wordF M f q = 0
  · obtain ⟨hm0, i, k, x, n, rfl, rfl, hi, hk, hx, ho, hn⟩ := wordF_zero h0
    have HD : Hid (peekD M i k = if 0 < x.owner then (65535, 0) else (n, 0)) := by show peekD M i k = _; simp [peekD, h0, frameOf, hx, hn]
    obtain ⟨fb, off, wa, wc, rfl, m0, _, _, m3, m4⟩ := HF.out i x hx
    obtain ⟨wb, wo, rfl, m5⟩ := m4 k n hn
    have n0 := cell_later B1 m0
    have n3 := cell_later B1 m3
    have n5 := cell_later B1 m5
    have hl := (machF_sizes hm0).1
    have hl8 := ho.len
    rw [h0]
    rw [hl] at p0 ⊢
    rw [hl8] at n3
    clear h0 hx hn m0 m3 m5 hm0 hl hl8 HF ho
    have hi0 : (i : Int) < 24 := by omega
    have hk0 : (k : Int) < 8 := by omega
    by_cases h1 : 0 < x.owner
    · rw [if_pos h1] at HD
      go_wp2_with fail
      go_ret2
      exact ⟨by rw [HD.out]; rfl, B1⟩
    · rw [if_neg h1] at HD
      go_wp2_with fail
      go_ret2
      exact ⟨by rw [HD.out]; rfl, B1⟩
  · have HD : Hid (peekD M f q = (0, wordF M f q)) := by show peekD M f q = _; simp [peekD, h0]
    have hE1 : (wordF M f q != 0) = true := by rw [bne_iff_ne]; exact h0
    generalize wordF M f q = E at HD hE1 h0 ⊢
    clear h0
    go_wp2_with fail
    go_ret2
    exact ⟨by rw [HD.out]; rfl, B1⟩

set_option maxRecDepth 10000 in
set_option maxHeartbeats 1600000 in
theorem refPeeked (v : Value) (M : MachD) (f q : Int) (w : World) (hv : MachAt w v M) (hf : M.Fits) : Calls Tryz.prog 20 #[v, .int .i64 f, .int .i64 q] w fun x w' => x = .returned (.tuple #[.int .i64 (peekD M f q).1, .int .i64 (peekD M f q).2]) ∧ Below w.heap.size w w' := by
  have HV := hid hv
  obtain ⟨fa, fc, ea, ec, qa, qc, rfl, hF, _, _, _⟩ := hv
  have HF := hid hF
  clear hF
  have B0 : ∀ X, Below w.heap.size w (w.alloc X) := fun X => by go_grown
  go_enter Tryz.func20, Tryz.ntmps20
  go_wp2_with fail
  refine (refFault _ M _ (HV.out.mono (B0 _)) hf).mono ?_
  rintro x w1 ⟨rfl, hb1⟩
  have p0 : w1.cell? ⟨w.heap.size, 0, none⟩ = some (.slice fa M.frames.length fc) := by rw [(bcell hb1).1 _ _ (by go_size)]; go_simp
  have B1 : Below w.heap.size w w1 := (B0 _).trans (hb1.mono (by go_size))
  clear hb1 HV
  by_cases hm : machF M = 0
  · by_cases h0 : wordF M f q = 0
    · obtain ⟨hm0, i, k, x, n, rfl, rfl, hi, hk, hx, ho, hn⟩ := wordF_zero h0
      have HD : Hid (peekD M i k = if 0 < x.owner then (65535, 0) else (n, 0)) := by show peekD M i k = _; simp [peekD, h0, frameOf, hx, hn]
      obtain ⟨fb, off, wa, wc, rfl, m0, _, _, m3, m4⟩ := HF.out i x hx
      obtain ⟨wb, wo, rfl, m5⟩ := m4 k n hn
      have n0 := cell_later B1 m0
      have n3 := cell_later B1 m3
      have n5 := cell_later B1 m5
      have hl := (machF_sizes hm0).1
      have hl8 := ho.len
      rw [hm]
      rw [hl] at p0 ⊢
      rw [hl8] at n3
      have hi1 : inR (i : Int) 0 23 = true := by simp [inR]; omega
      have hk1 : inR (k : Int) 0 7 = true := by simp [inR]; omega
      clear h0 hx hn m0 m3 m5 hm0 hl hl8 HF ho hm
      have hi0 : (i : Int) < 24 := by omega
      have hk0 : (k : Int) < 8 := by omega
      by_cases h1 : 0 < x.owner
      · rw [if_pos h1] at HD
        go_wp2_with (go_at_call 25; refine (in_any _ _ _ _).mono ?_; rintro e w' ⟨rfl, rfl⟩)
        go_ret2
        exact ⟨by rw [HD.out]; rfl, B1⟩
      · rw [if_neg h1] at HD
        go_wp2_with (go_at_call 25; refine (in_any _ _ _ _).mono ?_; rintro e w' ⟨rfl, rfl⟩)
        go_ret2
        exact ⟨by rw [HD.out]; rfl, B1⟩
    · have h2 : f < 0 ∨ 24 ≤ f ∨ q < 0 ∨ 8 ≤ q := by
        by_cases h : f < 0 ∨ 24 ≤ f ∨ q < 0 ∨ 8 ≤ q
        · exact h
        · exact absurd (by simp [wordF, hm, h]) h0
      have HD : Hid (peekD M f q = (0, 2)) := by show peekD M f q = _; simp [peekD, wordF, hm, h2]
      rw [hm]
      clear h0 hm
      cases hi : inR f 0 23 with
      | false => 
        have HI := hid hi
        go_wp2_with (go_at_call 25; refine (in_any _ _ _ _).mono ?_; rintro e w' ⟨rfl, rfl⟩)
        go_ret2
        exact ⟨by rw [HD.out]; rfl, B1⟩
      | true =>
        have hq : inR q 0 7 = false := by
          have : 0 ≤ f ∧ f ≤ 23 := by simpa [inR] using hi
          simp [inR]; omega
        go_wp2_with (go_at_call 25; refine (in_any _ _ _ _).mono ?_; rintro e w' ⟨rfl, rfl⟩)
        go_ret2
        exact ⟨by rw [HD.out]; rfl, B1⟩
  · have HD : Hid (peekD M f q = (0, machF M)) := by show peekD M f q = _; simp [peekD, wordF, hm]
    have hE1 : (machF M != 0) = true := by rw [bne_iff_ne]; exact hm
    have hE2 : (machF M == 0) = false := by rw [beq_eq_false_iff_ne]; exact hm
    generalize machF M = E at HD hE1 hE2 hm ⊢
    clear hm
    go_wp2_with (go_at_call 25; refine (in_any _ _ _ _).mono ?_; rintro e w' ⟨rfl, rfl⟩)
    go_ret2
    exact ⟨by rw [HD.out]; rfl, B1⟩

end Go.Proofs.YtklbbjionoeofaaGreatDoor
