/- A machine of the call's own that lies in a box of its own, a result in another: how a reference's act goes on. Plain laws; no program is walked. -/
import Derived.Test.YtehhhliiehhdjaaDoorOpenM
namespace Go.Proofs.YtehhhliiehhdjaaDoor
open Go.RowKit

section
variable {w W W' : World} {b : Nat} {pv fv ev qv : Value} {F F' : List (FrameD × Value)} {E E' : List EnclD} {Q Q' : List QuoteD}
/-- The copy in a new box. -/
theorem CopyInv.of {base : Nat} (hO : OwnMach base W fv ev qv F E Q) (hb : w.heap.size + 2 ≤ base) (hB : Below w.heap.size w W) (hz : w.heap.size + 1 < W.heap.size) (p0 : W.cell? ⟨w.heap.size, 0, none⟩ = some pv)
    (r0 : W.cell? ⟨w.heap.size + 1, 0, none⟩ = some (.slice none 0 0)) (r1 : W.cell? ⟨w.heap.size + 1, 1, none⟩ = some (.slice none 0 0)) (r2 : W.cell? ⟨w.heap.size + 1, 2, none⟩ = some (.slice none 0 0)) (rz : ∀ o, W.frozen? ⟨w.heap.size + 1, o, none⟩ = false) (t : TypeId) :
    CopyInv w W.heap.size pv fv ev qv F E Q (W.alloc (.cells #[fv, ev, qv] t)) := by
  have hO2 := hO.mono hb
  have z0 : w.heap.size < W.heap.size := by omega
  have na : ∀ {v : Value} {e s m : Nat} {xs : List Value}, W.ownsRow (w.heap.size + 2) e s v m xs → NotAt v W.heap.size := fun ho k hk => by have := (ho.lt k hk).2; omega
  have hA := hO2.below (below_alloc W (.cells #[fv, ev, qv] t))
  have n0 := na hO2.f.row
  have n1 := na hO2.e
  have n2 := na hO2.q
  have n3 : ∀ (i : Nat) (p : FrameD × Value), F[i]? = some p → NotAt p.2 W.heap.size := fun i p hp => na (hO2.f.sub i p hp).1
  clear hO hO2
  exact ⟨hB.alloc (by omega) _, by go_simp, by go_simp, by go_simp, by go_simp, fun o => by go_simp, by go_simp, by go_simp, by go_simp, fun o => by go_simp, by omega, by go_size, hA, n0, n1, n2, n3⟩
/-- One write into what the machine owns. -/
theorem CopyInv.set1 (h : CopyInv w b pv fv ev qv F E Q W) {g o : Nat} {u : Value} (hg : w.heap.size + 2 ≤ g) (hb : g ≠ b) (hO : OwnMach (w.heap.size + 2) (W.setCell ⟨g, o, none⟩ u) fv ev qv F' E' Q') (hn : ∀ (i : Nat) (p : FrameD × Value), F'[i]? = some p → NotAt p.2 b) :
    CopyInv w b pv fv ev qv F' E' Q' (W.setCell ⟨g, o, none⟩ u) := by
  have n0 : w.heap.size ≠ g := by omega
  have n1 : w.heap.size + 1 ≠ g := by omega
  have g0 : g ≠ w.heap.size := by omega
  have g1 : g ≠ w.heap.size + 1 := by omega
  have g2 : b ≠ g := fun e => hb e.symm
  have p0 := h.p0
  have c0 := h.c0
  have c1 := h.c1
  have c2 := h.c2
  have cz := h.cz
  have r0 := h.r0
  have r1 := h.r1
  have r2 := h.r2
  have rz := h.rz
  have lo := h.lo
  have hi := h.hi
  have bl := h.below
  have a0 := h.no
  have a1 := h.ne
  have a2 := h.nq
  clear h
  exact ⟨below_at bl (by omega) _ _, by go_simp, by go_simp, by go_simp, by go_simp, fun o => by go_simp, by go_simp, by go_simp, by go_simp, fun o => by go_simp, lo, by go_size, hO, a0, a1, a2, hn⟩
theorem CopyInv.setE {g m c i j : Nat} {x x' : EnclD} {u : Value} (h : CopyInv w b pv fv (.slice (some ⟨g, 0, none⟩) m c) qv F E Q W) (hm : E.length = m) (hx : E[i]? = some x) (hj : j < 7) (hu : x'.cs = x.cs.set j u) :
    CopyInv w b pv fv (.slice (some ⟨g, 0, none⟩) m c) qv F (E.set i x') Q (W.setCell ⟨g, i * 7 + j, none⟩ u) := h.set1 (h.own.e.lt g rfl).1 (h.ne g rfl) (h.own.setE hm hx hj hu) h.nf
theorem set_notAt {b i : Nat} {x : FrameD} {wv : Value} (h : ∀ (i : Nat) (p : FrameD × Value), F[i]? = some p → NotAt p.2 b) (hw : NotAt wv b) : ∀ (k : Nat) (p : FrameD × Value), (F.set i (x, wv))[k]? = some p → NotAt p.2 b := fun k p hp => by
  by_cases hk : i = k
  · subst hk
    have hl : i < (F.set i (x, wv)).length := (List.getElem?_eq_some_iff.1 hp).1
    rw [List.length_set] at hl
    rw [List.getElem?_set_self hl] at hp
    cases hp
    exact hw
  · rw [List.getElem?_set_ne hk] at hp
    exact h k p hp
theorem CopyInv.setF {g m c i j : Nat} {x x' : FrameD} {wv : Value} {u : Value} (h : CopyInv w b pv (.slice (some ⟨g, 0, none⟩) m c) ev qv F E Q W) (hm : F.length = m) (hx : F[i]? = some (x, wv)) (hj : j < 4) (hu : fcs (x', wv) = (fcs (x, wv)).set j u) (hw : x'.words = x.words) :
    CopyInv w b pv (.slice (some ⟨g, 0, none⟩) m c) ev qv (F.set i (x', wv)) E Q (W.setCell ⟨g, i * 4 + j, none⟩ u) := h.set1 (h.own.f.row.lt g rfl).1 (h.no g rfl) (h.own.setF hm hx hj hu hw) (set_notAt h.nf (h.nf i _ hx))
theorem CopyInv.setW {g m c i k : Nat} {x : FrameD} {n : Int} (h : CopyInv w b pv fv ev qv F E Q W) (hm : x.words.length = m) (hx : F[i]? = some (x, .slice (some ⟨g, 0, none⟩) m c)) :
    CopyInv w b pv fv ev qv (F.set i ({ x with words := x.words.set k n }, .slice (some ⟨g, 0, none⟩) m c)) E Q (W.setCell ⟨g, k, none⟩ (.int .i64 n)) :=
  h.set1 ((h.own.f.sub i _ hx).1.lt g rfl).1 (h.nf i _ hx g rfl) (h.own.setW hm hx) (set_notAt h.nf (h.nf i _ hx))
theorem CopyInv.setEncl {g m c i : Nat} {x : EnclD} (h : CopyInv w b pv fv (.slice (some ⟨g, 0, none⟩) m c) qv F E Q W) (hm : E.length = m) (hx : E[i]? = some x) (y : EnclD) :
    CopyInv w b pv fv (.slice (some ⟨g, 0, none⟩) m c) qv F (E.set i y) Q (((((((W.setCell ⟨g, i * 7, none⟩ (.int .i64 y.state)).setCell ⟨g, i * 7 + 1, none⟩ (.string y.log)).setCell ⟨g, i * 7 + 2, none⟩ (.int .i64 y.pc)).setCell ⟨g, i * 7 + 3, none⟩ (.int .i64 y.r0)).setCell ⟨g, i * 7 + 4, none⟩ (.int .i64 y.r1)).setCell ⟨g, i * 7 + 5, none⟩ (.int .i64 y.r2)).setCell ⟨g, i * 7 + 6, none⟩ (.int .i64 y.r3)) := by
  subst hm
  have hi : i < E.length := (List.getElem?_eq_some_iff.1 hx).1
  have step : ∀ {W : World} {x' : EnclD} (j : Nat) (u : Value) (x'' : EnclD), CopyInv w b pv fv (.slice (some ⟨g, 0, none⟩) E.length c) qv F (E.set i x') Q W → j < 7 → x''.cs = x'.cs.set j u → CopyInv w b pv fv (.slice (some ⟨g, 0, none⟩) E.length c) qv F (E.set i x'') Q (W.setCell ⟨g, i * 7 + j, none⟩ u) := fun {W x'} j u x'' h hj hu => by
    have := h.setE (i := i) (j := j) (x := x') (x' := x'') (u := u) (by simp) (by rw [List.getElem?_set_self hi]) hj hu
    rwa [List.set_set] at this
  have h0 : CopyInv w b pv fv (.slice (some ⟨g, 0, none⟩) E.length c) qv F (E.set i x) Q W := by rw [set_self hx]; exact h
  have h1 := step 0 (.int .i64 y.state) ⟨y.state, x.log, x.pc, x.r0, x.r1, x.r2, x.r3⟩ h0 (by decide) rfl
  have h2 := step 1 (.string y.log) ⟨y.state, y.log, x.pc, x.r0, x.r1, x.r2, x.r3⟩ h1 (by decide) rfl
  have h3 := step 2 (.int .i64 y.pc) ⟨y.state, y.log, y.pc, x.r0, x.r1, x.r2, x.r3⟩ h2 (by decide) rfl
  have h4 := step 3 (.int .i64 y.r0) ⟨y.state, y.log, y.pc, y.r0, x.r1, x.r2, x.r3⟩ h3 (by decide) rfl
  have h5 := step 4 (.int .i64 y.r1) ⟨y.state, y.log, y.pc, y.r0, y.r1, x.r2, x.r3⟩ h4 (by decide) rfl
  have h6 := step 5 (.int .i64 y.r2) ⟨y.state, y.log, y.pc, y.r0, y.r1, y.r2, x.r3⟩ h5 (by decide) rfl
  exact step 6 (.int .i64 y.r3) y h6 (by decide) rfl
theorem CopyInv.done {M : MachD} {r : MachD × Int} (h : CopyInv w b pv fv ev qv F E Q W) (hF : F.map Prod.fst = M.frames) (hE : E = M.encl) (hQ : Q = M.quotes) {er : Int} (hr : r = (M, er)) :
    Mach2 w.heap.size r w (.returned (.tuple #[.agg #[fv, ev, qv], .int .i64 er])) (((W.setCell ⟨w.heap.size + 1, 0, none⟩ fv).setCell ⟨w.heap.size + 1, 1, none⟩ ev).setCell ⟨w.heap.size + 1, 2, none⟩ qv) := by
  subst hE hQ
  exact Mach2.mk hr (OwnMach.at (M := M) (h.own.low3 (by omega) _ _ _) hF) (below_low3 h.below (by omega) _ _ _)
theorem CopyInv.done3 {M : MachD} {r : MachD × Int × Int} (h : CopyInv w b pv fv ev qv F E Q W) (hF : F.map Prod.fst = M.frames) (hE : E = M.encl) (hQ : Q = M.quotes) {n er : Int} (hr : r = (M, n, er)) :
    Mach3 w.heap.size r w (.returned (.tuple #[.agg #[fv, ev, qv], .int .i64 n, .int .i64 er])) (((W.setCell ⟨w.heap.size + 1, 0, none⟩ fv).setCell ⟨w.heap.size + 1, 1, none⟩ ev).setCell ⟨w.heap.size + 1, 2, none⟩ qv) := by
  subst hE hQ
  exact Mach3.mk hr (OwnMach.at (M := M) (h.own.low3 (by omega) _ _ _) hF) (below_low3 h.below (by omega) _ _ _)
end

end Go.Proofs.YtehhhliiehhdjaaDoor
