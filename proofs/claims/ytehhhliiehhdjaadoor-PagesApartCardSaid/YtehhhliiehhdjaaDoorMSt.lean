/- A machine in a box of the call's own, stored anew. Plain laws; no program is walked. -/
import Derived.Test.YtehhhliiehhdjaaDoorBox
import Derived.Test.YtehhhliiehhdjaaDoorMachOps
namespace Go.Proofs.YtehhhliiehhdjaaDoor
open Go.RowKit

def Sized (M : MachD) : Prop := M.frames.length = 24 ∧ M.encl.length = 4 ∧ M.quotes.length = 0
structure MSt (w : World) (B : Nat) (M : MachD) (fa : Option Addr) (fc : Nat) (ea : Option Addr) (ec : Nat) (qa : Option Addr) (qc : Nat) (W : World) : Prop where
  below : Below w.heap.size w W
  lo : w.heap.size ≤ B
  hi : B < W.heap.size
  c0 : W.cell? ⟨B, 0, none⟩ = some (.slice fa 24 fc)
  c1 : W.cell? ⟨B, 1, none⟩ = some (.slice ea 4 ec)
  c2 : W.cell? ⟨B, 2, none⟩ = some (.slice qa 0 qc)
  cz : ∀ o, W.frozen? ⟨B, o, none⟩ = false
  at' : MachAt W (.agg #[.slice fa 24 fc, .slice ea 4 ec, .slice qa 0 qc]) M
theorem MachAt.sized {W : World} {v : Value} {M : MachD} (h : MachAt W v M) (hs : Sized M) : ∃ fa fc ea ec qa qc, v = .agg #[.slice fa 24 fc, .slice ea 4 ec, .slice qa 0 qc] ∧ MachAt W (.agg #[.slice fa 24 fc, .slice ea 4 ec, .slice qa 0 qc]) M := by
  have h0 := h
  obtain ⟨fa, fc, ea, ec, qa, qc, rfl, _⟩ := h0
  rw [hs.1, hs.2.1, hs.2.2] at h ⊢
  exact ⟨fa, fc, ea, ec, qa, qc, rfl, h⟩
section
variable {w W W' : World} {B : Nat} {M M' : MachD} {fa ea qa fa' ea' qa' : Option Addr} {fc ec qc fc' ec' qc' : Nat}
theorem MSt.of {t : TypeId} (h : MachAt W (.agg #[.slice fa 24 fc, .slice ea 4 ec, .slice qa 0 qc]) M) (hB : Below w.heap.size w W) : MSt w W.heap.size M fa fc ea ec qa qc (W.alloc (.cells #[.slice fa 24 fc, .slice ea 4 ec, .slice qa 0 qc] t)) :=
  ⟨hB.alloc hB.size _, hB.size, by go_size, by go_simp, by go_simp, by go_simp, fun o => by go_simp, h.mono (below_alloc _ _)⟩
theorem MSt.later (h : MSt w B M fa fc ea ec qa qc W) (hb : Below W.heap.size W W') : MSt w B M fa fc ea ec qa qc W' :=
  ⟨h.below.trans (hb.mono h.below.size), h.lo, by have := h.hi; have := hb.size; omega, cell_later hb h.c0, cell_later hb h.c1, cell_later hb h.c2, fun o => by rw [(bcell hb).2 _ _ h.hi]; exact h.cz o, h.at'.mono hb⟩
theorem MSt.put (h : MSt w B M fa fc ea ec qa qc W) (h' : MachAt W (.agg #[.slice fa' 24 fc', .slice ea' 4 ec', .slice qa' 0 qc']) M') :
    MSt w B M' fa' fc' ea' ec' qa' qc' (((W.setCell ⟨B, 0, none⟩ (.slice fa' 24 fc')).setCell ⟨B, 1, none⟩ (.slice ea' 4 ec')).setCell ⟨B, 2, none⟩ (.slice qa' 0 qc')) := by
  have c0 := h.c0
  have c1 := h.c1
  have c2 := h.c2
  have cz := h.cz
  have hi := h.hi
  have hb := h.below
  have lo := h.lo
  exact ⟨below_low3 hb lo _ _ _, lo, by go_size, by go_simp, by go_simp, by go_simp, fun o => by go_simp, h'.box3 ⟨_, _, _, c0⟩ ⟨_, _, _, c1⟩ ⟨_, _, _, c2⟩ _ _ _ _ _ _ _ _ _⟩
end

end Go.Proofs.YtehhhliiehhdjaaDoor
