/- A machine of the call's own that lies in a box, a result in another: the state in which an act on a machine goes on. Plain laws; no program is walked. -/
import Derived.Test.YtlbjdjjdafnemaaMachOps2
namespace Go.Proofs.Ytlbjdjjdafnemaa
open Go.RowKit

theorem act_gen {Q : Act → World → Prop} {a : Act} {W : World} (R : World → Prop) (hR : R W) (h : ∀ W0, R W0 → Q a W0) : Q a W := h W hR

structure OpenM (w : World) (fv ev qv : Value) (F : List (FrameD × Value)) (E : List EnclD) (Q : List QuoteD) (W : World) : Prop where
  own : OwnMach (w.heap.size + 2) W fv ev qv F E Q
  below : Below w.heap.size w W
  c0 : W.cell? ⟨w.heap.size, 0, none⟩ = some fv
  c1 : W.cell? ⟨w.heap.size, 1, none⟩ = some ev
  c2 : W.cell? ⟨w.heap.size, 2, none⟩ = some qv
  cz : ∀ o, W.frozen? ⟨w.heap.size, o, none⟩ = false
  r0 : W.cell? ⟨w.heap.size + 1, 0, none⟩ = some (.slice none 0 0)
  r1 : W.cell? ⟨w.heap.size + 1, 1, none⟩ = some (.slice none 0 0)
  r2 : W.cell? ⟨w.heap.size + 1, 2, none⟩ = some (.slice none 0 0)
  rz : ∀ o, W.frozen? ⟨w.heap.size + 1, o, none⟩ = false
  z : w.heap.size + 1 < W.heap.size

section
variable {w W W' : World} {fv ev qv : Value} {F F' : List (FrameD × Value)} {E E' : List EnclD} {Q Q' : List QuoteD}
/-- The copy stored into the box of m. -/
theorem OpenM.of {base : Nat} (hO : OwnMach base W fv ev qv F E Q) (hb : w.heap.size + 2 ≤ base) (hB : Below w.heap.size w W) (hz : w.heap.size + 1 < W.heap.size) {u0 u1 u2 : Value} (p0 : W.cell? ⟨w.heap.size, 0, none⟩ = some u0) (p1 : W.cell? ⟨w.heap.size, 1, none⟩ = some u1) (p2 : W.cell? ⟨w.heap.size, 2, none⟩ = some u2) (pz : ∀ o, W.frozen? ⟨w.heap.size, o, none⟩ = false)
    (r0 : W.cell? ⟨w.heap.size + 1, 0, none⟩ = some (.slice none 0 0)) (r1 : W.cell? ⟨w.heap.size + 1, 1, none⟩ = some (.slice none 0 0)) (r2 : W.cell? ⟨w.heap.size + 1, 2, none⟩ = some (.slice none 0 0)) (rz : ∀ o, W.frozen? ⟨w.heap.size + 1, o, none⟩ = false) :
    OpenM w fv ev qv F E Q (((W.setCell ⟨w.heap.size, 0, none⟩ fv).setCell ⟨w.heap.size, 1, none⟩ ev).setCell ⟨w.heap.size, 2, none⟩ qv) :=
  ⟨(hO.mono hb).low3 (by omega) _ _ _, below_low3 hB (Nat.le_refl _) _ _ _, by go_simp, by go_simp, by go_simp, fun o => by go_simp, by go_simp, by go_simp, by go_simp, fun o => by go_simp, by go_size⟩
theorem OpenM.later (h : OpenM w fv ev qv F E Q W) (hb : Below W.heap.size W W') : OpenM w fv ev qv F E Q W' := by
  have hz := h.z
  exact ⟨h.own.below hb, h.below.trans (hb.mono h.below.size), cell_later hb h.c0, cell_later hb h.c1, cell_later hb h.c2, fun o => by rw [(bcell hb).2 _ _ (by omega)]; exact h.cz o, cell_later hb h.r0, cell_later hb h.r1, cell_later hb h.r2,
    fun o => by rw [(bcell hb).2 _ _ (by omega)]; exact h.rz o, by have := hb.size; omega⟩
/-- One write into what the machine owns. -/
theorem OpenM.set1 {F' : List (FrameD × Value)} {E' : List EnclD} {Q' : List QuoteD} (h : OpenM w fv ev qv F E Q W) {g o : Nat} {u : Value} (hg : w.heap.size + 2 ≤ g) (hO : OwnMach (w.heap.size + 2) (W.setCell ⟨g, o, none⟩ u) fv ev qv F' E' Q') : OpenM w fv ev qv F' E' Q' (W.setCell ⟨g, o, none⟩ u) := by
  have n0 : w.heap.size ≠ g := by omega
  have n1 : w.heap.size + 1 ≠ g := by omega
  have g0 : g ≠ w.heap.size := by omega
  have g1 : g ≠ w.heap.size + 1 := by omega
  have c0 := h.c0
  have c1 := h.c1
  have c2 := h.c2
  have cz := h.cz
  have r0 := h.r0
  have r1 := h.r1
  have r2 := h.r2
  have rz := h.rz
  have z := h.z
  have b := h.below
  clear h
  exact ⟨hO, below_at b (by omega) _ _, by go_simp, by go_simp, by go_simp, fun o => by go_simp, by go_simp, by go_simp, by go_simp, fun o => by go_simp, by go_size⟩
theorem OpenM.setE {g m c i j : Nat} {x x' : EnclD} {u : Value} (h : OpenM w fv (.slice (some ⟨g, 0, none⟩) m c) qv F E Q W) (hm : E.length = m) (hx : E[i]? = some x) (hj : j < 7) (hu : x'.cs = x.cs.set j u) :
    OpenM w fv (.slice (some ⟨g, 0, none⟩) m c) qv F (E.set i x') Q (W.setCell ⟨g, i * 7 + j, none⟩ u) := h.set1 (h.own.e.lt g rfl).1 (h.own.setE hm hx hj hu)
theorem OpenM.setF {g m c i j : Nat} {x x' : FrameD} {wv : Value} {u : Value} (h : OpenM w (.slice (some ⟨g, 0, none⟩) m c) ev qv F E Q W) (hm : F.length = m) (hx : F[i]? = some (x, wv)) (hj : j < 4) (hu : fcs (x', wv) = (fcs (x, wv)).set j u) (hw : x'.words = x.words) :
    OpenM w (.slice (some ⟨g, 0, none⟩) m c) ev qv (F.set i (x', wv)) E Q (W.setCell ⟨g, i * 4 + j, none⟩ u) := h.set1 (h.own.f.row.lt g rfl).1 (h.own.setF hm hx hj hu hw)
theorem OpenM.setW {g m c i k : Nat} {x : FrameD} {n : Int} (h : OpenM w fv ev qv F E Q W) (hm : x.words.length = m) (hx : F[i]? = some (x, .slice (some ⟨g, 0, none⟩) m c)) :
    OpenM w fv ev qv (F.set i ({ x with words := x.words.set k n }, .slice (some ⟨g, 0, none⟩) m c)) E Q (W.setCell ⟨g, k, none⟩ (.int .i64 n)) := h.set1 ((h.own.f.sub i _ hx).1.lt g rfl).1 (h.own.setW hm hx)
theorem set_self {α : Type} {l : List α} {i : Nat} {x : α} (hx : l[i]? = some x) : l.set i x = l := by
  apply List.ext_getElem?
  intro k
  by_cases hk : i = k
  · subst hk; rw [List.getElem?_set_self (List.getElem?_eq_some_iff.1 hx).1, hx]
  · rw [List.getElem?_set_ne hk]
theorem OpenM.setEncl {g m c i : Nat} {x : EnclD} (h : OpenM w fv (.slice (some ⟨g, 0, none⟩) m c) qv F E Q W) (hm : E.length = m) (hx : E[i]? = some x) (y : EnclD) :
    OpenM w fv (.slice (some ⟨g, 0, none⟩) m c) qv F (E.set i y) Q (((((((W.setCell ⟨g, i * 7, none⟩ (.int .i64 y.state)).setCell ⟨g, i * 7 + 1, none⟩ (.string y.log)).setCell ⟨g, i * 7 + 2, none⟩ (.int .i64 y.pc)).setCell ⟨g, i * 7 + 3, none⟩ (.int .i64 y.r0)).setCell ⟨g, i * 7 + 4, none⟩ (.int .i64 y.r1)).setCell ⟨g, i * 7 + 5, none⟩ (.int .i64 y.r2)).setCell ⟨g, i * 7 + 6, none⟩ (.int .i64 y.r3)) := by
  subst hm
  have hi : i < E.length := (List.getElem?_eq_some_iff.1 hx).1
  have step : ∀ {W : World} {x' : EnclD} (j : Nat) (u : Value) (x'' : EnclD), OpenM w fv (.slice (some ⟨g, 0, none⟩) E.length c) qv F (E.set i x') Q W → j < 7 → x''.cs = x'.cs.set j u → OpenM w fv (.slice (some ⟨g, 0, none⟩) E.length c) qv F (E.set i x'') Q (W.setCell ⟨g, i * 7 + j, none⟩ u) := fun {W x'} j u x'' h hj hu => by
    have := h.setE (i := i) (j := j) (x := x') (x' := x'') (u := u) (by simp) (by rw [List.getElem?_set_self hi]) hj hu
    rwa [List.set_set] at this
  have h0 : OpenM w fv (.slice (some ⟨g, 0, none⟩) E.length c) qv F (E.set i x) Q W := by rw [set_self hx]; exact h
  have h1 := step 0 (.int .i64 y.state) ⟨y.state, x.log, x.pc, x.r0, x.r1, x.r2, x.r3⟩ h0 (by decide) rfl
  have h2 := step 1 (.string y.log) ⟨y.state, y.log, x.pc, x.r0, x.r1, x.r2, x.r3⟩ h1 (by decide) rfl
  have h3 := step 2 (.int .i64 y.pc) ⟨y.state, y.log, y.pc, x.r0, x.r1, x.r2, x.r3⟩ h2 (by decide) rfl
  have h4 := step 3 (.int .i64 y.r0) ⟨y.state, y.log, y.pc, y.r0, x.r1, x.r2, x.r3⟩ h3 (by decide) rfl
  have h5 := step 4 (.int .i64 y.r1) ⟨y.state, y.log, y.pc, y.r0, y.r1, x.r2, x.r3⟩ h4 (by decide) rfl
  have h6 := step 5 (.int .i64 y.r2) ⟨y.state, y.log, y.pc, y.r0, y.r1, y.r2, x.r3⟩ h5 (by decide) rfl
  exact step 6 (.int .i64 y.r3) y h6 (by decide) rfl
/-- The machine copied into the result's box. -/
theorem OpenM.done {M : MachD} {r : MachD × Int} (h : OpenM w fv ev qv F E Q W) (hF : F.map Prod.fst = M.frames) (hE : E = M.encl) (hQ : Q = M.quotes) {er : Int} (hr : r = (M, er)) :
    Mach2 w.heap.size r w (.returned (.tuple #[.agg #[fv, ev, qv], .int .i64 er])) (((W.setCell ⟨w.heap.size + 1, 0, none⟩ fv).setCell ⟨w.heap.size + 1, 1, none⟩ ev).setCell ⟨w.heap.size + 1, 2, none⟩ qv) := by
  subst hE hQ
  exact Mach2.mk hr (OwnMach.at (M := M) (h.own.low3 (by omega) _ _ _) hF) (below_low3 h.below (by omega) _ _ _)
theorem OpenM.done3 {M : MachD} {r : MachD × Int × Int} (h : OpenM w fv ev qv F E Q W) (hF : F.map Prod.fst = M.frames) (hE : E = M.encl) (hQ : Q = M.quotes) {n er : Int} (hr : r = (M, n, er)) :
    Mach3 w.heap.size r w (.returned (.tuple #[.agg #[fv, ev, qv], .int .i64 n, .int .i64 er])) (((W.setCell ⟨w.heap.size + 1, 0, none⟩ fv).setCell ⟨w.heap.size + 1, 1, none⟩ ev).setCell ⟨w.heap.size + 1, 2, none⟩ qv) := by
  subst hE hQ
  exact Mach3.mk hr (OwnMach.at (M := M) (h.own.low3 (by omega) _ _ _) hF) (below_low3 h.below (by omega) _ _ _)
end

end Go.Proofs.Ytlbjdjjdafnemaa
