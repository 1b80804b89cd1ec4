/- run.may, walked. Conditions: what fits the form's own reach; the state asked is not below 0. -/
import Derived.Test.YtlbjdjjdafnemaaEnterPlain
import Derived.Test.YtlbjdjjdafnemaaBegin
namespace Go.Proofs.Ytlbjdjjdafnemaa
open Go.RowKit

set_option maxRecDepth 10000 in
set_option maxHeartbeats 3200000 in
theorem runMay (v : Value) (M : MachD) (e st fuel : Int) (w : World) (hv : MachAt w v M) (hf : M.Fits) (hst : 0 ≤ st) : Calls Try.prog 11 #[v, .int .i64 e, .int .i64 st, .int .i64 fuel] w fun x w' => x = .returned (.int .i64 (mayF M e st fuel)) ∧ Below w.heap.size w w' := by
  have HV := hid hv
  obtain ⟨fa, fc, ea, ec, qa, qc, rfl, _, hE, _, _⟩ := hv
  have HE := hid hE
  clear hE
  have HC := hid (askF_cases M e st)
  have B0 : ∀ X, Below w.heap.size w (w.alloc X) := fun X => by go_grown
  go_enter Try.func11, Try.ntmps11
  go_wp2_with fail
  refine (epcCheck _ M _ (HV.out.mono (B0 _)) hf).mono ?_
  rintro x w1 ⟨rfl, hb1⟩
  have p1 : w1.cell? ⟨w.heap.size, 1, none⟩ = some (.slice ea M.encl.length ec) := by rw [(bcell hb1).1 _ _ (by go_size)]; go_simp
  have z1 : w.heap.size < w1.heap.size := by have := hb1.size; simp at this; omega
  have B1 : Below w.heap.size w w1 := (B0 _).trans (hb1.mono (by go_size))
  clear hb1
  rcases HC.out with ⟨h0, hR⟩ | ⟨h0, hR⟩
  · have HR := hid hR
    have H0 := hid h0
    clear hR
    generalize machF M = E at HR H0 h0 ⊢
    have hE1 : (E != 0) = true := by rw [bne_iff_ne]; exact h0
    have hE2 : (E == 0) = false := by rw [beq_eq_false_iff_ne]; exact h0
    clear h0
    go_wp2_with fail
    go_ret
    exact ⟨by rw [mayF, if_pos (by rw [HR.out]; exact H0.out), HR.out]; rfl, B1⟩
  have H4 := hid (machF_sizes h0)
  rw [h0]
  clear h0
  rcases hR with ⟨h1, hR⟩ | ⟨h1, h1', hR⟩ | ⟨k, y, hk, hk4, hx, hR⟩
  · have HR := hid hR
    clear hR
    go_wp2_with fail
    go_ret
    exact ⟨by rw [mayF, if_pos (by rw [HR.out]; decide), HR.out]; rfl, B1⟩
  · have HR := hid hR
    clear hR
    go_wp2_with fail
    go_ret
    exact ⟨by rw [mayF, if_pos (by rw [HR.out]; decide), HR.out]; rfl, B1⟩
  subst hk
  obtain ⟨eb, eo, rfl, m0, m1, _⟩ := HE.out k y hx
  have n0 := cell_later B1 m0
  have nb := World.block_lt_of_cell? _ _ n0
  simp only at nb
  have e4 : M.encl.length = 4 := H4.out.2.1
  rw [e4] at p1 HV ⊢
  clear e4 hx m0 m1
  have hk0 : (0 : Int) ≤ (k : Int) := by omega
  have hk1 : (k : Int) < 4 := by omega
  rcases hR with ⟨h2, hR⟩ | ⟨h2, h3, h4, hR⟩ | ⟨h2, h3, h4, hR⟩ | ⟨h2, h3, hR⟩
  · have HR := hid hR
    have h2b : (y.state == 0) = true := by simp [h2]
    clear hR h2
    go_wp2_with fail
    go_ret
    exact ⟨by rw [mayF, if_pos (by rw [HR.out]; decide), HR.out]; rfl, B1⟩
  · have HR := hid hR
    have h2b : (y.state == 0) = false := by simp [h2]
    have h4b : (y.state != st) = true := by rw [bne_iff_ne]; exact h4
    clear hR h2 h4
    go_wp2_with fail
    go_ret
    exact ⟨by rw [mayF, if_pos (by rw [HR.out]; decide), HR.out]; rfl, B1⟩
  · have HR := hid hR
    have h2b : (y.state == 0) = false := by simp [h2]
    have h4b : (y.state != st) = false := by rw [h4]; simp
    clear hR h2 h4
    by_cases hf1 : fuel < 0
    · go_wp2_with fail
      go_ret
      exact ⟨by rw [mayF, if_neg (by rw [HR.out]; simp), if_pos (.inl hf1)]; rfl, B1⟩
    by_cases hf2 : 5000 < fuel
    · go_wp2_with fail
      go_ret
      exact ⟨by rw [mayF, if_neg (by rw [HR.out]; simp), if_pos (.inr hf2)]; rfl, B1⟩
    · go_wp2_with fail
      go_ret
      exact ⟨by rw [mayF, if_neg (by rw [HR.out]; simp), if_neg (by omega)]; rfl, B1⟩
  · omega

end Go.Proofs.Ytlbjdjjdafnemaa
