/- How frames are given back one by one: plain laws for epc.Remove and its reference. No program is walked. -/
import Derived.Test.YtehhhliiehhdjaaDoorMake8
import Derived.Test.YtehhhliiehhdjaaDoorOpenR
namespace Go.Proofs.YtehhhliiehhdjaaDoor
open Go.RowKit

abbrev bareF : FrameD := bare
def rmF (e : Int) (x : FrameD) : FrameD := if x.owner = e then bare else x
def rmTo (L : List FrameD) (e : Int) (i : Nat) : List FrameD := (L.take i).map (rmF e) ++ L.drop i
theorem rmTo_get {L : List FrameD} {e : Int} {i : Nat} {x : FrameD} (hx : L[i]? = some x) : (rmTo L e i)[i]? = some x := by
  have hi : i < L.length := (List.getElem?_eq_some_iff.1 hx).1
  unfold rmTo
  rw [List.getElem?_append_right (by simp; omega)]
  simp only [List.length_map, List.length_take]
  rw [show i - min i L.length = 0 by omega, List.getElem?_drop]
  simpa using hx
theorem rmTo_step {L : List FrameD} {e : Int} {i : Nat} {x : FrameD} (hx : L[i]? = some x) : rmTo L e (i + 1) = (rmTo L e i).set i (rmF e x) := by
  have hi : i < L.length := (List.getElem?_eq_some_iff.1 hx).1
  have e1 : L.drop i = x :: L.drop (i + 1) := by
    have : L[i] = x := by rw [List.getElem?_eq_getElem hi] at hx; exact Option.some.inj hx
    rw [← this]; exact List.drop_eq_getElem_cons hi
  unfold rmTo
  rw [List.set_append_right _ _ (by simp; omega), List.take_add_one, hx, e1]
  simp only [List.length_map, List.length_take, show i - min i L.length = 0 by omega, List.set_cons_zero]
  simp
theorem rmTo_same {L : List FrameD} {e : Int} {i : Nat} {x : FrameD} (hx : L[i]? = some x) (h : x.owner ≠ e) : rmTo L e (i + 1) = rmTo L e i := by
  rw [rmTo_step hx, show rmF e x = x by simp [rmF, h]]
  exact set_self (rmTo_get hx)
theorem rmTo_zero (L : List FrameD) (e : Int) : rmTo L e 0 = L := by simp [rmTo]
theorem rmTo_all (L : List FrameD) (e : Int) (n : Nat) (h : L.length ≤ n) : rmTo L e n = L.map (rmF e) := by
  unfold rmTo
  rw [List.take_of_length_le h, List.drop_eq_nil_of_le h, List.append_nil]

section
variable {w W W' : World} {b : Nat} {pv fv ev qv : Value} {F F' : List (FrameD × Value)} {E E' : List EnclD} {Q Q' : List QuoteD}
/-- Four writes into one block of the machine's own. -/
theorem OpenM.set4 (h : OpenM w fv ev qv F E Q W) {g o0 o1 o2 o3 : Nat} {u0 u1 u2 u3 : Value} (hg : w.heap.size + 2 ≤ g) (hO : OwnMach (w.heap.size + 2) ((((W.setCell ⟨g, o0, none⟩ u0).setCell ⟨g, o1, none⟩ u1).setCell ⟨g, o2, none⟩ u2).setCell ⟨g, o3, none⟩ u3) fv ev qv F' E' Q') :
    OpenM w fv ev qv F' E' Q' ((((W.setCell ⟨g, o0, none⟩ u0).setCell ⟨g, o1, none⟩ u1).setCell ⟨g, o2, none⟩ u2).setCell ⟨g, o3, none⟩ u3) := by
  have n0 : w.heap.size ≠ g := by omega
  have n1 : w.heap.size + 1 ≠ g := by omega
  have g0 : g ≠ w.heap.size := by omega
  have g1 : g ≠ w.heap.size + 1 := by omega
  have c0 := h.c0
  have c1 := h.c1
  have c2 := h.c2
  have cz := h.cz
  have r0 := h.r0
  have r1 := h.r1
  have r2 := h.r2
  have rz := h.rz
  have z := h.z
  have b := h.below
  clear h
  exact ⟨hO, below_at (below_at (below_at (below_at b (by omega) _ _) (by omega) _ _) (by omega) _ _) (by omega) _ _, by go_simp, by go_simp, by go_simp, fun o => by go_simp, by go_simp, by go_simp, by go_simp, fun o => by go_simp, by go_size⟩
theorem CopyInv.set4 (h : CopyInv w b pv fv ev qv F E Q W) {g o0 o1 o2 o3 : Nat} {u0 u1 u2 u3 : Value} (hg : w.heap.size + 2 ≤ g) (hb : g ≠ b) (hO : OwnMach (w.heap.size + 2) ((((W.setCell ⟨g, o0, none⟩ u0).setCell ⟨g, o1, none⟩ u1).setCell ⟨g, o2, none⟩ u2).setCell ⟨g, o3, none⟩ u3) fv ev qv F' E' Q')
    (hn : ∀ (i : Nat) (p : FrameD × Value), F'[i]? = some p → NotAt p.2 b) :
    CopyInv w b pv fv ev qv F' E' Q' ((((W.setCell ⟨g, o0, none⟩ u0).setCell ⟨g, o1, none⟩ u1).setCell ⟨g, o2, none⟩ u2).setCell ⟨g, o3, none⟩ u3) := by
  have n0 : w.heap.size ≠ g := by omega
  have n1 : w.heap.size + 1 ≠ g := by omega
  have g0 : g ≠ w.heap.size := by omega
  have g1 : g ≠ w.heap.size + 1 := by omega
  have g2 : b ≠ g := fun e => hb e.symm
  have p0 := h.p0
  have c0 := h.c0
  have c1 := h.c1
  have c2 := h.c2
  have cz := h.cz
  have r0 := h.r0
  have r1 := h.r1
  have r2 := h.r2
  have rz := h.rz
  have lo := h.lo
  have hi := h.hi
  have bl := h.below
  have a0 := h.no
  have a1 := h.ne
  have a2 := h.nq
  clear h
  exact ⟨below_at (below_at (below_at (below_at bl (by omega) _ _) (by omega) _ _) (by omega) _ _) (by omega) _ _, by go_simp, by go_simp, by go_simp, by go_simp, fun o => by go_simp, by go_simp, by go_simp, by go_simp, fun o => by go_simp, lo, by go_size, hO, a0, a1, a2, hn⟩
/-- A frame given back: its words a new row of zeros. -/
theorem OpenM.bare {g m c i : Nat} {x : FrameD} {wv : Value} (h : OpenM w (.slice (some ⟨g, 0, none⟩) m c) ev qv F E Q W) (hm : F.length = m) (hx : F[i]? = some (x, wv)) :
    OpenM w (.slice (some ⟨g, 0, none⟩) m c) ev qv (F.set i (bareF, .slice (some ⟨W.heap.size, 0, none⟩) 8 8)) E Q
      (((((W.alloc (.cells zero8 3)).setCell ⟨g, i * 4, none⟩ (.int .i64 0)).setCell ⟨g, i * 4 + 1, none⟩ (.int .i64 0)).setCell ⟨g, i * 4 + 2, none⟩ (.int .i64 0)).setCell ⟨g, i * 4 + 3, none⟩ (.slice (some ⟨W.heap.size, 0, none⟩) 8 8)) := by
  have h1 := h.later (below_alloc W (.cells zero8 3))
  have hw : (W.alloc (.cells zero8 3)).ownsRow (w.heap.size + 2) 3 1 (.slice (some ⟨W.heap.size, 0, none⟩) 8 8) 8 zero8.toList := World.ownsRow_lit W zero8 8 (by have := h.z; omega) (by decide) rfl
  have hA : ∀ {v : Value} {e s n : Nat} {xs : List Value}, W.ownsRow (w.heap.size + 2) e s v n xs → Apart (.slice (some ⟨W.heap.size, 0, none⟩) 8 8) v := fun ho k hk hk' => by
    simp only [Value.ownBlock, Option.some.injEq] at hk
    have := (ho.lt k hk').2
    omega
  exact h1.set4 (h.own.f.row.lt g rfl).1 (h1.own.setNew (x' := bareF) hm hx hw (hA h.own.f.row) (hA h.own.e) (hA h.own.q) (fun k p hp => hA (h.own.f.sub k p hp).1))
theorem CopyInv.bare {g m c i : Nat} {x : FrameD} {wv : Value} (h : CopyInv w b pv (.slice (some ⟨g, 0, none⟩) m c) ev qv F E Q W) (hm : F.length = m) (hx : F[i]? = some (x, wv)) :
    CopyInv w b pv (.slice (some ⟨g, 0, none⟩) m c) ev qv (F.set i (bareF, .slice (some ⟨W.heap.size, 0, none⟩) 8 8)) E Q
      (((((W.alloc (.cells zero8 3)).setCell ⟨g, i * 4, none⟩ (.int .i64 0)).setCell ⟨g, i * 4 + 1, none⟩ (.int .i64 0)).setCell ⟨g, i * 4 + 2, none⟩ (.int .i64 0)).setCell ⟨g, i * 4 + 3, none⟩ (.slice (some ⟨W.heap.size, 0, none⟩) 8 8)) := by
  have h1 := h.later (below_alloc W (.cells zero8 3))
  have hlo := h.lo
  have hhi := h.hi
  have hw : (W.alloc (.cells zero8 3)).ownsRow (w.heap.size + 2) 3 1 (.slice (some ⟨W.heap.size, 0, none⟩) 8 8) 8 zero8.toList := World.ownsRow_lit W zero8 8 (by omega) (by decide) rfl
  have hA : ∀ {v : Value} {e s n : Nat} {xs : List Value}, W.ownsRow (w.heap.size + 2) e s v n xs → Apart (.slice (some ⟨W.heap.size, 0, none⟩) 8 8) v := fun ho k hk hk' => by
    simp only [Value.ownBlock, Option.some.injEq] at hk
    have := (ho.lt k hk').2
    omega
  exact h1.set4 (h.own.f.row.lt g rfl).1 (h.no g rfl) (h1.own.setNew (x' := bareF) hm hx hw (hA h.own.f.row) (hA h.own.e) (hA h.own.q) (fun k p hp => hA (h.own.f.sub k p hp).1)) (set_notAt h.nf (fun k hk => by
    simp only [Value.ownBlock, Option.some.injEq] at hk
    omega))
theorem OpenM.bareA {g m c i : Nat} {x : FrameD} {wv : Value} (h : OpenM w (.slice (some ⟨g, 0, none⟩) m c) ev qv F E Q W) (hm : F.length = m) (hx : F[i]? = some (x, wv)) :
    OpenM w (.slice (some ⟨g, 0, none⟩) m c) ev qv (F.set i (bareF, .slice (some ⟨W.heap.size, 0, none⟩) 8 8)) E Q
      (((((W.setCell ⟨g, i * 4, none⟩ (.int .i64 0)).setCell ⟨g, i * 4 + 1, none⟩ (.int .i64 0)).setCell ⟨g, i * 4 + 2, none⟩ (.int .i64 0)).setCell ⟨g, i * 4 + 3, none⟩ (.slice (some ⟨W.heap.size, 0, none⟩) 8 8)).alloc (.cells zero8 3)) := by
  have hg := (h.own.f.row.lt g rfl).2
  have hh := h.bare hm hx
  rw [World.setCell_alloc_past _ _ _ _ hg, World.setCell_alloc_past _ _ _ _ (by simpa using hg), World.setCell_alloc_past _ _ _ _ (by simpa using hg), World.setCell_alloc_past _ _ _ _ (by simpa using hg)] at hh
  exact hh
theorem CopyInv.bareA {g m c i : Nat} {x : FrameD} {wv : Value} (h : CopyInv w b pv (.slice (some ⟨g, 0, none⟩) m c) ev qv F E Q W) (hm : F.length = m) (hx : F[i]? = some (x, wv)) :
    CopyInv w b pv (.slice (some ⟨g, 0, none⟩) m c) ev qv (F.set i (bareF, .slice (some ⟨W.heap.size, 0, none⟩) 8 8)) E Q
      (((((W.setCell ⟨g, i * 4, none⟩ (.int .i64 0)).setCell ⟨g, i * 4 + 1, none⟩ (.int .i64 0)).setCell ⟨g, i * 4 + 2, none⟩ (.int .i64 0)).setCell ⟨g, i * 4 + 3, none⟩ (.slice (some ⟨W.heap.size, 0, none⟩) 8 8)).alloc (.cells zero8 3)) := by
  have hg := (h.own.f.row.lt g rfl).2
  have hh := h.bare hm hx
  rw [World.setCell_alloc_past _ _ _ _ hg, World.setCell_alloc_past _ _ _ _ (by simpa using hg), World.setCell_alloc_past _ _ _ _ (by simpa using hg), World.setCell_alloc_past _ _ _ _ (by simpa using hg)] at hh
  exact hh
end

end Go.Proofs.YtehhhliiehhdjaaDoor
