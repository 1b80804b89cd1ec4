/- A machine or a challenger stored over another one: what else reads as data reads so still. Plain laws; no program is walked. -/
import Derived.Test.YtehhhliiehhdjaaDoorTrust
namespace Go.Proofs.YtehhhliiehhdjaaDoor
open Go.RowKit

/-- A cell holds a slice. -/
def SlAt (W : World) (b o : Nat) : Prop := ∃ x n c, W.cell? ⟨b, o, none⟩ = some (.slice x n c)
theorem cell_kept {W : World} {p q : Addr} {u v : Value} (hq : W.cell? q = some v) (hp : W.cell? p ≠ some v) : (W.setCell p u).cell? q = some v :=
  (World.cell?_setCell_other W p q u (fun e => hp (by rw [e]; exact hq))).trans hq
theorem SlAt.ne_int {W : World} {b o : Nat} (h : SlAt W b o) (n : Int) : W.cell? ⟨b, o, none⟩ ≠ some (.int .i64 n) := fun e => by
  obtain ⟨x, k, c, h1⟩ := h
  rw [h1] at e
  cases e
theorem SlAt.ne_str {W : World} {b o : Nat} (h : SlAt W b o) (s : ByteArray) : W.cell? ⟨b, o, none⟩ ≠ some (.string s) := fun e => by
  obtain ⟨x, k, c, h1⟩ := h
  rw [h1] at e
  cases e
theorem far_set {W : World} {a : Addr} {u : Value} {b o : Nat} (h : b ≠ a.block) : (W.setCell a u).cell? ⟨b, o, none⟩ = W.cell? ⟨b, o, none⟩ := World.cell?_setCell_other W a ⟨b, o, none⟩ u (fun e => h (by rw [e]))
section
variable {W : World} {a : Option Addr} {b o : Nat} {u : Value}
theorem SlAt.later {W' : World} (h : SlAt W b o) (hb : Below W.heap.size W W') : SlAt W' b o := by
  obtain ⟨x, k, c, h1⟩ := h
  exact ⟨x, k, c, cell_later hb h1⟩
theorem SlAt.set {b' o' : Nat} (h : SlAt W b o) (x : Option Addr) (n c : Nat) : SlAt (W.setCell ⟨b', o', none⟩ (.slice x n c)) b o := by
  by_cases e : (⟨b', o', none⟩ : Addr) = ⟨b, o, none⟩
  · cases e
    obtain ⟨x', k', c', h1⟩ := h
    exact ⟨x, n, c, World.cell?_setCell_same W _ _ h1⟩
  · obtain ⟨x', k', c', h1⟩ := h
    exact ⟨x', k', c', (World.cell?_setCell_other W _ _ _ e).trans h1⟩
theorem IntsAt.box {l : List Int} (h : IntsAt W a l) (hs : SlAt W b o) : IntsAt (W.setCell ⟨b, o, none⟩ u) a l := fun i x hx => by
  obtain ⟨c, off, ha, h0⟩ := h i x hx
  exact ⟨c, off, ha, cell_kept h0 (hs.ne_int _)⟩
theorem StrsAt.box {l : List ByteArray} (h : StrsAt W a l) (hs : SlAt W b o) : StrsAt (W.setCell ⟨b, o, none⟩ u) a l := fun i x hx => by
  obtain ⟨c, off, ha, h0⟩ := h i x hx
  exact ⟨c, off, ha, cell_kept h0 (hs.ne_str _)⟩
theorem QuotesAt.box {l : List QuoteD} (h : QuotesAt W a l) (hs : SlAt W b o) : QuotesAt (W.setCell ⟨b, o, none⟩ u) a l := fun i x hx => by
  obtain ⟨c, off, ha, h0, h1⟩ := h i x hx
  exact ⟨c, off, ha, cell_kept h0 (hs.ne_str _), cell_kept h1 (hs.ne_int _)⟩
theorem EnclsAt.box {l : List EnclD} (h : EnclsAt W a l) (hs : SlAt W b o) : EnclsAt (W.setCell ⟨b, o, none⟩ u) a l := fun i x hx => by
  obtain ⟨c, off, ha, h0, h1, h2, h3, h4, h5, h6⟩ := h i x hx
  exact ⟨c, off, ha, cell_kept h0 (hs.ne_int _), cell_kept h1 (hs.ne_str _), cell_kept h2 (hs.ne_int _), cell_kept h3 (hs.ne_int _), cell_kept h4 (hs.ne_int _), cell_kept h5 (hs.ne_int _), cell_kept h6 (hs.ne_int _)⟩
theorem FramesAt.box {l : List FrameD} (h : FramesAt W a l) (hs : SlAt W b o) (hp : ∀ o', o = o' + 1 → SlAt W b o') : FramesAt (W.setCell ⟨b, o, none⟩ u) a l := fun i x hx => by
  obtain ⟨c, off, wa, wc, ha, h0, h1, h2, h3, h4⟩ := h i x hx
  refine ⟨c, off, wa, wc, ha, cell_kept h0 (hs.ne_int _), cell_kept h1 (hs.ne_int _), cell_kept h2 (hs.ne_int _), (World.cell?_setCell_other W _ _ _ (fun e => ?_)).trans h3, h4.box hs⟩
  obtain ⟨rfl, rfl, _⟩ := Addr.mk.inj e
  exact (hp (off + i * 4 + 2) (by omega)).ne_int _ h2
theorem PagesAt.box {l : List PageD} (h : PagesAt W a l) (hs : SlAt W b o) (hp : ∀ o', o = o' + 1 → SlAt W b o') : PagesAt (W.setCell ⟨b, o, none⟩ u) a l := fun i x hx => by
  obtain ⟨c, off, wa, wc, ha, h0, h1, h2, h3⟩ := h i x hx
  refine ⟨c, off, wa, wc, ha, cell_kept h0 (hs.ne_int _), cell_kept h1 (hs.ne_int _), (World.cell?_setCell_other W _ _ _ (fun e => ?_)).trans h2, h3.box hs⟩
  obtain ⟨rfl, rfl, _⟩ := Addr.mk.inj e
  exact (hp (off + i * 3 + 1) (by omega)).ne_int _ h1
theorem MachAt.box {v : Value} {M : MachD} (h : MachAt W v M) (hs : SlAt W b o) (hp : ∀ o', o = o' + 1 → SlAt W b o') : MachAt (W.setCell ⟨b, o, none⟩ u) v M := by
  obtain ⟨fa, fc, ea, ec, qa, qc, rfl, h1, h2, h3, h4⟩ := h
  exact ⟨fa, fc, ea, ec, qa, qc, rfl, h1.box hs hp, h2.box hs, h3.box hs, h4⟩
theorem ChalAt.box {v : Value} {C : ChalD} (h : ChalAt W v C) (hs : SlAt W b o) : ChalAt (W.setCell ⟨b, o, none⟩ u) v C := by
  obtain ⟨ta, tc, na, nc, rfl, h1, h2⟩ := h
  exact ⟨ta, tc, na, nc, rfl, h1.box hs, h2.box hs⟩
/-- A machine's three cells written over three slices. -/
theorem MachAt.box3 {v : Value} {M : MachD} (h : MachAt W v M) (h0 : SlAt W b 0) (h1 : SlAt W b 1) (h2 : SlAt W b 2) (x y z : Option Addr) (n m k c d e : Nat) :
    MachAt (((W.setCell ⟨b, 0, none⟩ (.slice x n c)).setCell ⟨b, 1, none⟩ (.slice y m d)).setCell ⟨b, 2, none⟩ (.slice z k e)) v M := by
  have k0 := h.box (u := .slice x n c) h0 (fun o' e => absurd e (by omega))
  have g0 := h0.set (b' := b) (o' := 0) x n c
  have g1 := h1.set (b' := b) (o' := 0) x n c
  have g2 := h2.set (b' := b) (o' := 0) x n c
  have k1 := k0.box (u := .slice y m d) g1 (fun o' e => by
    obtain rfl : o' = 0 := by omega
    exact g0)
  have f1 := g1.set (b' := b) (o' := 1) y m d
  have f2 := g2.set (b' := b) (o' := 1) y m d
  exact k1.box f2 (fun o' e => by
    obtain rfl : o' = 1 := by omega
    exact f1)
/-- A challenger's two cells written over two slices. -/
theorem ChalAt.box2 {v : Value} {C : ChalD} (h : ChalAt W v C) {o' : Nat} (h0 : SlAt W b o) (h1 : SlAt W b o') (x y : Option Addr) (n m c d : Nat) :
    ChalAt ((W.setCell ⟨b, o, none⟩ (.slice x n c)).setCell ⟨b, o', none⟩ (.slice y m d)) v C := (h.box h0).box (h1.set _ _ _)
end

end Go.Proofs.YtehhhliiehhdjaaDoor
