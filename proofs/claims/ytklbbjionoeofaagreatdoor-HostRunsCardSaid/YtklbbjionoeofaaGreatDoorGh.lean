/- epc.begin and ref.asked, walked. Conditions: those that each contract writes.
ref.asked, walked. Condition: what fits the form's own reach. -/
import Derived.Test.YtklbbjionoeofaaGreatDoorFault
import Derived.Test.YtklbbjionoeofaaGreatDoorMachCopy
import Derived.Test.YtklbbjionoeofaaGreatDoorGg
namespace Go.Proofs.YtklbbjionoeofaaGreatDoor
open Go.RowKit

def mach0 : MachD := ⟨[], [], []⟩
theorem mach0_at (w : World) : MachAt w (.agg #[.slice none 0 0, .slice none 0 0, .slice none 0 0]) mach0 :=
  ⟨none, 0, none, 0, none, 0, rfl, fun _ _ h => by simp [mach0] at h, fun _ _ h => by simp [mach0] at h, fun _ _ h => by simp [mach0] at h, by simp [mach0]⟩
theorem mach0_fits : mach0.Fits := ⟨by simp [mach0], by simp [mach0], by simp [mach0], fun _ _ h => by simp [mach0] at h⟩

def enclOf (M : MachD) (e : Int) : Option EnclD := if 1 ≤ e ∧ e ≤ 4 then M.encl[(e - 1).toNat]? else none
/-- What an act on an enclave refuses; a state below 0: any. -/
def askF (M : MachD) (e st : Int) : Int := if machF M ≠ 0 then machF M else match enclOf M e with
  | none => 5
  | some x => if x.state = 0 then 5 else if 0 ≤ st ∧ x.state ≠ st then 8 else 0
theorem machF_sizes {M : MachD} (h : machF M = 0) : M.frames.length = 24 ∧ M.encl.length = 4 ∧ M.quotes.length ≤ 40 := by
  unfold machF at h
  cases hs : sizeB M with
  | false => rw [hs] at h; simp at h
  | true => simpa [sizeB] using hs
theorem askF_cases (M : MachD) (e st : Int) : (machF M ≠ 0 ∧ askF M e st = machF M) ∨ (machF M = 0 ∧ ((e < 1 ∧ askF M e st = 5) ∨ (1 ≤ e ∧ 4 < e ∧ askF M e st = 5) ∨
    ∃ (k : Nat) (x : EnclD), e = (k : Int) + 1 ∧ k < 4 ∧ M.encl[k]? = some x ∧ ((x.state = 0 ∧ askF M e st = 5) ∨ (x.state ≠ 0 ∧ 0 ≤ st ∧ x.state ≠ st ∧ askF M e st = 8) ∨ (x.state ≠ 0 ∧ 0 ≤ st ∧ x.state = st ∧ askF M e st = 0) ∨ (x.state ≠ 0 ∧ ¬ 0 ≤ st ∧ askF M e st = 0)))) := by
  by_cases h0 : machF M = 0
  · refine .inr ⟨h0, ?_⟩
    obtain ⟨_, h4, _⟩ := machF_sizes h0
    by_cases h1 : e < 1
    · refine .inl ⟨h1, ?_⟩
      have h : ¬ (1 ≤ e ∧ e ≤ 4) := by omega
      simp [askF, h0, enclOf, h]
    by_cases h2 : 4 < e
    · refine .inr (.inl ⟨by omega, h2, ?_⟩)
      have h : ¬ (1 ≤ e ∧ e ≤ 4) := by omega
      simp [askF, h0, enclOf, h]
    obtain ⟨k, rfl⟩ : ∃ k : Nat, e = (k : Int) + 1 := ⟨(e - 1).toNat, by omega⟩
    have hk : k < 4 := by omega
    obtain ⟨x, hx⟩ : ∃ x, M.encl[k]? = some x := ⟨_, List.getElem?_eq_getElem (by omega)⟩
    have he : enclOf M ((k : Int) + 1) = some x := by
      have h : (1 : Int) ≤ (k : Int) + 1 ∧ (k : Int) + 1 ≤ 4 := by omega
      rw [enclOf, if_pos h, show ((k : Int) + 1 - 1).toNat = k by omega, hx]
    refine .inr (.inr ⟨k, x, rfl, hk, hx, ?_⟩)
    have hF : askF M ((k : Int) + 1) st = if x.state = 0 then 5 else if 0 ≤ st ∧ x.state ≠ st then 8 else 0 := by simp [askF, h0, he]
    rw [hF]
    by_cases h3 : x.state = 0
    · exact .inl ⟨h3, if_pos h3⟩
    rw [if_neg h3]
    by_cases h5 : 0 ≤ st
    · by_cases h6 : x.state = st
      · exact .inr (.inr (.inl ⟨h3, h5, h6, if_neg (fun h => h.2 h6)⟩))
      · exact .inr (.inl ⟨h3, h5, h6, if_pos ⟨h5, h6⟩⟩)
    · exact .inr (.inr (.inr ⟨h3, h5, if_neg (fun h => h5 h.1)⟩))
  · exact .inl ⟨h0, by simp [askF, h0]⟩

/-- What begin hands back. -/
def BeginRes (base : Nat) (M : MachD) (e st : Int) (w : World) (x : Ending) (w' : World) : Prop :=
  Below base w w' ∧ ((askF M e st ≠ 0 ∧ x = .returned (.tuple #[.agg #[.slice none 0 0, .slice none 0 0, .slice none 0 0], .pointer none, .int .i64 (askF M e st)])) ∨
  (askF M e st = 0 ∧ machF M = 0 ∧ ∃ (k : Nat) (y : EnclD) (f c1 g c2 : Nat) (qv : Value) (F : List (FrameD × Value)), e = (k : Int) + 1 ∧ k < 4 ∧ M.encl[k]? = some y ∧ y.state ≠ 0 ∧ (0 ≤ st → y.state = st) ∧
    x = .returned (.tuple #[.agg #[.slice (some ⟨f, 0, none⟩) 24 c1, .slice (some ⟨g, 0, none⟩) 4 c2, qv], .pointer (some ⟨g, k * 7, none⟩), .int .i64 0]) ∧ F.map Prod.fst = M.frames ∧ OwnMach base w' (.slice (some ⟨f, 0, none⟩) 24 c1) (.slice (some ⟨g, 0, none⟩) 4 c2) qv F M.encl M.quotes))
theorem BeginRes.no {base : Nat} {M : MachD} {e st : Int} {w w' : World} {r : Int} (h : askF M e st = r) (hr : r ≠ 0) (hb : Below base w w') : BeginRes base M e st w (.returned (.tuple #[.agg #[.slice none 0 0, .slice none 0 0, .slice none 0 0], .pointer none, .int .i64 r])) w' :=
  ⟨hb, .inl ⟨by rw [h]; exact hr, by rw [h]⟩⟩

set_option maxRecDepth 10000 in
set_option maxHeartbeats 3200000 in
theorem epcBegin (v : Value) (M : MachD) (e st : Int) (w : World) (hv : MachAt w v M) (hf : M.Fits) : Calls Tryz.prog 62 #[v, .int .i64 e, .int .i64 st] w (BeginRes w.heap.size M e st w) := by
  have HV := hid hv
  obtain ⟨fa, fc, ea, ec, qa, qc, rfl, _, hE, _, _⟩ := hv
  have HE := hid hE
  clear hE
  have HC := hid (askF_cases M e st)
  have B0 : ∀ X Y, Below w.heap.size w ((w.alloc X).alloc Y) := fun X Y => by go_grown
  go_enter Tryz.func62, Tryz.ntmps62
  go_wp2_with fail
  refine (epcCheck _ M _ (HV.out.mono (B0 _ _)) hf).mono ?_
  rintro x w1 ⟨rfl, hb1⟩
  have p0 : w1.cell? ⟨w.heap.size, 0, none⟩ = some (.slice fa M.frames.length fc) := by rw [(bcell hb1).1 _ _ (by go_size)]; go_simp
  have p1 : w1.cell? ⟨w.heap.size, 1, none⟩ = some (.slice ea M.encl.length ec) := by rw [(bcell hb1).1 _ _ (by go_size)]; go_simp
  have p2 : w1.cell? ⟨w.heap.size, 2, none⟩ = some (.slice qa M.quotes.length qc) := by rw [(bcell hb1).1 _ _ (by go_size)]; go_simp
  have p3 : ∀ o, w1.frozen? ⟨w.heap.size, o, none⟩ = false := fun o => by rw [(bcell hb1).2 _ _ (by go_size)]; go_simp
  have r0 : w1.cell? ⟨w.heap.size + 1, 0, none⟩ = some (.slice none 0 0) := by rw [(bcell hb1).1 _ _ (by go_size)]; go_simp
  have r1 : w1.cell? ⟨w.heap.size + 1, 1, none⟩ = some (.slice none 0 0) := by rw [(bcell hb1).1 _ _ (by go_size)]; go_simp
  have r2 : w1.cell? ⟨w.heap.size + 1, 2, none⟩ = some (.slice none 0 0) := by rw [(bcell hb1).1 _ _ (by go_size)]; go_simp
  have r3 : ∀ o, w1.frozen? ⟨w.heap.size + 1, o, none⟩ = false := fun o => by rw [(bcell hb1).2 _ _ (by go_size)]; go_simp
  have z1 : w.heap.size + 1 < w1.heap.size := by have := hb1.size; simp at this; omega
  have B1 : Below w.heap.size w w1 := (B0 _ _).trans (hb1.mono (by go_size))
  clear hb1
  rcases HC.out with ⟨h0, hR⟩ | ⟨h0, hR⟩
  · have HR := hid hR
    have H0 := hid h0
    clear hR
    generalize machF M = E at HR H0 h0 ⊢
    have hE1 : (E != 0) = true := by rw [bne_iff_ne]; exact h0
    have hE2 : (E == 0) = false := by rw [beq_eq_false_iff_ne]; exact h0
    clear h0
    go_wp2_with fail
    refine bodyPost_ret (v := .tuple #[.agg #[.slice none 0 0, .slice none 0 0, .slice none 0 0], .pointer none, .int .i64 E]) (by simp [results, Tryz.results62, go_sem, r0, r1, r2]) rfl (BeginRes.no HR.out H0.out (((B1.setCell (by simp) _).setCell (by simp) _).setCell (by simp) _))
  have H4 := hid (machF_sizes h0)
  have HM0 := hid h0
  rw [h0]
  clear h0
  rcases hR with ⟨h1, hR⟩ | ⟨h1, h1', hR⟩ | ⟨k, y, hk, hk4, hx, hR⟩
  · have HR := hid hR
    clear hR
    go_wp2_with fail
    refine bodyPost_ret (v := .tuple #[.agg #[.slice none 0 0, .slice none 0 0, .slice none 0 0], .pointer none, .int .i64 5]) (by simp [results, Tryz.results62, go_sem, r0, r1, r2]) rfl (BeginRes.no HR.out (by decide) (((B1.setCell (by simp) _).setCell (by simp) _).setCell (by simp) _))
  · have HR := hid hR
    clear hR
    go_wp2_with fail
    refine bodyPost_ret (v := .tuple #[.agg #[.slice none 0 0, .slice none 0 0, .slice none 0 0], .pointer none, .int .i64 5]) (by simp [results, Tryz.results62, go_sem, r0, r1, r2]) rfl (BeginRes.no HR.out (by decide) (((B1.setCell (by simp) _).setCell (by simp) _).setCell (by simp) _))
  subst hk
  have HX := hid hx
  obtain ⟨eb, eo, rfl, m0, m1, _⟩ := HE.out k y hx
  have n0 := cell_later B1 m0
  have nb := World.block_lt_of_cell? _ _ n0
  simp only at nb
  have e4 : M.encl.length = 4 := H4.out.2.1
  rw [e4] at p1 HV ⊢
  clear e4 hx m0 m1
  have hk0 : (0 : Int) ≤ (k : Int) := by omega
  have hk1 : (k : Int) < 4 := by omega
  rcases hR with ⟨h2, hR⟩ | hR
  · have HR := hid hR
    have h2b : (y.state == 0) = true := by simp [h2]
    clear hR h2
    go_wp2_with fail
    refine bodyPost_ret (v := .tuple #[.agg #[.slice none 0 0, .slice none 0 0, .slice none 0 0], .pointer none, .int .i64 5]) (by simp [results, Tryz.results62, go_sem, r0, r1, r2]) rfl (BeginRes.no HR.out (by decide) (((B1.setCell (by simp) _).setCell (by simp) _).setCell (by simp) _))
  have h2 : y.state ≠ 0 := by rcases hR with h | h | h <;> exact h.1
  have h2b : (y.state == 0) = false := by simp [h2]
  have H2 := hid h2
  have HRR := hid hR
  clear hR h2
  go_wp2_with fail
  refine (epcCopy _ M _ hf (HV.out.mono B1)).mono ?_
  rintro x w2 ⟨fv, ev, qv, F, rfl, hF, hO, hb2⟩
  have hFl : F.length = 24 := by rw [← H4.out.1, ← hF, List.length_map]
  have o1 := hO.f.row
  rw [hFl] at o1
  obtain ⟨f, c1, rfl, hf1, hf2⟩ := own_some o1 (by decide)
  have o2 := hO.e
  rw [H4.out.2.1] at o2
  obtain ⟨g, c2, rfl, hg1, hg2⟩ := own_some o2 (by decide)
  obtain ⟨qa2, qc2, rfl⟩ := own_slice hO.q
  obtain ⟨s0, _⟩ := hO.enclAt HX.out
  have s9 : ∀ o, w2.frozen? ⟨g, o, none⟩ = false := fun o => o2.frozenAt o
  have q0 := cell_later hb2 p0
  have q1 := cell_later hb2 p1
  have q2 := cell_later hb2 p2
  have q3 : ∀ o, w2.frozen? ⟨w.heap.size, o, none⟩ = false := fun o => by rw [(bcell hb2).2 _ _ (by omega)]; exact p3 o
  have t0 := cell_later hb2 r0
  have t1 := cell_later hb2 r1
  have t2 := cell_later hb2 r2
  have t3 : ∀ o, w2.frozen? ⟨w.heap.size + 1, o, none⟩ = false := fun o => by rw [(bcell hb2).2 _ _ (by omega)]; exact r3 o
  have B2 : Below w.heap.size w w2 := B1.trans (hb2.mono (by omega))
  have z2 : w.heap.size + 1 < w2.heap.size := by have := hb2.size; omega
  have hgn : w.heap.size ≠ g := by omega
  have hgn1 : w.heap.size + 1 ≠ g := by omega
  have HO := hid hO
  have HF := hid hF
  clear hO hF o1 o2 hb2 p0 p1 p2 p3 r0 r1 r2 r3 n0 nb hFl hf1 hf2
  rcases HRR.out with ⟨_, h3, h4, hR⟩ | ⟨_, h3, h4, hR⟩ | ⟨_, h3, hR⟩
  · have HR := hid hR
    have h4b : (y.state != st) = true := by rw [bne_iff_ne]; exact h4
    have h4c : (y.state == st) = false := by rw [beq_eq_false_iff_ne]; exact h4
    clear hR h4 HRR HC
    go_wp2_with fail
    refine bodyPost_ret (v := .tuple #[.agg #[.slice none 0 0, .slice none 0 0, .slice none 0 0], .pointer none, .int .i64 8]) (by simp [results, Tryz.results62, go_sem, t0, t1, t2]) rfl (BeginRes.no HR.out (by decide) ?_)
    exact (((((B2.setCell (by simp) _).setCell (by simp) _).setCell (by simp) _).setCell (by simp) _).setCell (by simp) _).setCell (by simp) _
  all_goals
    have HR := hid hR
    have HS : Hid (0 ≤ st → y.state = st) := fun h => by first | exact h4 | omega
    (try have h4b : (y.state != st) = false := by rw [h4]; simp)
    (try have h4c : (y.state == st) = true := by rw [h4]; simp)
    clear hR HRR HC
    (try clear h4)
    go_wp2_with fail
    refine bodyPost_ret (v := .tuple #[.agg #[.slice (some ⟨f, 0, none⟩) 24 c1, .slice (some ⟨g, 0, none⟩) 4 c2, .slice qa2 M.quotes.length qc2], .pointer (some ⟨g, k * 7, none⟩), .int .i64 0]) (by simp [results, Tryz.results62, go_sem, t0, t1, t2]) rfl
      ⟨(((((B2.setCell (by simp) _).setCell (by simp) _).setCell (by simp) _).setCell (by simp) _).setCell (by simp) _).setCell (by simp) _,
        .inr ⟨HR.out, HM0.out, k, y, f, c1, g, c2, _, F, rfl, hk4, HX.out, H2.out, HS.out, rfl, HF.out, ?_⟩⟩
    exact ((((((HO.out.setLow (by simp; omega) _).setLow (by simp; omega) _).setLow (by simp; omega) _).setLow (by simp; omega) _).setLow (by simp; omega) _).setLow (by simp; omega) _).mono (by omega)

end Go.Proofs.YtklbbjionoeofaaGreatDoor

namespace Go.Proofs.YtklbbjionoeofaaGreatDoor
open Go.RowKit

set_option maxRecDepth 10000 in
set_option maxHeartbeats 3200000 in
theorem refAsk (v : Value) (M : MachD) (e st : Int) (w : World) (hv : MachAt w v M) (hf : M.Fits) : Calls Tryz.prog 51 #[v, .int .i64 e, .int .i64 st] w fun x w' => x = .returned (.int .i64 (askF M e st)) ∧ Below w.heap.size w w' := by
  have HV := hid hv
  obtain ⟨fa, fc, ea, ec, qa, qc, rfl, _, hE, _, _⟩ := hv
  have HE := hid hE
  clear hE
  have HC := hid (askF_cases M e st)
  have B0 : ∀ X, Below w.heap.size w (w.alloc X) := fun X => by go_grown
  go_enter Tryz.func51, Tryz.ntmps51
  go_wp2_with fail
  refine (refFault _ M _ (HV.out.mono (B0 _)) hf).mono ?_
  rintro x w1 ⟨rfl, hb1⟩
  have p1 : w1.cell? ⟨w.heap.size, 1, none⟩ = some (.slice ea M.encl.length ec) := by rw [(bcell hb1).1 _ _ (by go_size)]; go_simp
  have z1 : w.heap.size < w1.heap.size := by have := hb1.size; simp at this; omega
  have B1 : Below w.heap.size w w1 := (B0 _).trans (hb1.mono (by go_size))
  clear hb1
  rcases HC.out with ⟨h0, hR⟩ | ⟨h0, hR⟩
  · have HR := hid hR
    have H0 := hid h0
    clear hR
    generalize machF M = E at HR H0 h0 ⊢
    have hE1 : (E != 0) = true := by rw [bne_iff_ne]; exact h0
    have hE2 : (E == 0) = false := by rw [beq_eq_false_iff_ne]; exact h0
    clear h0
    go_wp2_with (go_at_call 25; refine (in_any _ _ _ _).mono ?_; rintro e w' ⟨rfl, rfl⟩)
    go_ret
    exact ⟨by rw [HR.out]; rfl, B1⟩
  have H4 := hid (machF_sizes h0)
  rw [h0]
  clear h0
  rcases hR with ⟨h1, hR⟩ | ⟨h1, h1', hR⟩ | ⟨k, y, hk, hk4, hx, hR⟩
  · have HR := hid hR
    have hi : inR e 1 4 = false := by simp [inR]; omega
    clear hR
    go_wp2_with (go_at_call 25; refine (in_any _ _ _ _).mono ?_; rintro e w' ⟨rfl, rfl⟩)
    go_ret
    exact ⟨by rw [HR.out]; rfl, B1⟩
  · have HR := hid hR
    have hi : inR e 1 4 = false := by simp [inR]; omega
    clear hR
    go_wp2_with (go_at_call 25; refine (in_any _ _ _ _).mono ?_; rintro e w' ⟨rfl, rfl⟩)
    go_ret
    exact ⟨by rw [HR.out]; rfl, B1⟩
  subst hk
  obtain ⟨eb, eo, rfl, m0, m1, _⟩ := HE.out k y hx
  have n0 := cell_later B1 m0
  have nb := World.block_lt_of_cell? _ _ n0
  simp only at nb
  have e4 : M.encl.length = 4 := H4.out.2.1
  rw [e4] at p1 HV ⊢
  have hi : inR ((k : Int) + 1) 1 4 = true := by simp [inR]; omega
  clear e4 hx m0 m1
  have hk0 : (0 : Int) ≤ (k : Int) := by omega
  have hk1 : (k : Int) < 4 := by omega
  rcases hR with ⟨h2, hR⟩ | ⟨h2, h3, h4, hR⟩ | ⟨h2, h3, h4, hR⟩ | ⟨h2, h3, hR⟩
  · have HR := hid hR
    have h2b : (y.state == 0) = true := by simp [h2]
    clear hR h2
    go_wp2_with (go_at_call 25; refine (in_any _ _ _ _).mono ?_; rintro e w' ⟨rfl, rfl⟩)
    go_ret
    exact ⟨by rw [HR.out]; rfl, B1⟩
  all_goals
    have HR := hid hR
    have h2b : (y.state == 0) = false := by simp [h2]
    (try have h4b : (y.state != st) = true := by rw [bne_iff_ne]; exact h4)
    (try have h4b : (y.state != st) = false := by rw [h4]; simp)
    clear hR h2
    (try clear h4)
    go_wp2_with (go_at_call 25; refine (in_any _ _ _ _).mono ?_; rintro e w' ⟨rfl, rfl⟩)
    go_ret
    exact ⟨by rw [HR.out]; rfl, B1⟩

end Go.Proofs.YtklbbjionoeofaaGreatDoor
