/- A machine in memory of its own, and a copy of one under way. Plain laws; no program is walked. -/
import Derived.Test.YtehhhliiehhdjaaDoorOwn
import Derived.Test.YtehhhliiehhdjaaDoorAsk
import Derived.Deep.Cut
import Derived.Deep.CutRange
namespace Go.Proofs.YtehhhliiehhdjaaDoor
open Go.RowKit

/-- A machine in memory of its own. -/
structure OwnMach (base : Nat) (W : World) (fv ev qv : Value) (F : List (FrameD × Value)) (E : List EnclD) (Q : List QuoteD) : Prop where
  f : OwnFrames base W fv F
  e : W.ownsRow base 64 7 ev E.length (E.flatMap EnclD.cs)
  q : W.ownsRow base 78 2 qv Q.length (Q.flatMap QuoteD.cs)
  fe : Apart fv ev
  fq : Apart fv qv
  eq : Apart ev qv
  we : ∀ (i : Nat) (p : FrameD × Value), F[i]? = some p → Apart p.2 ev
  wq : ∀ (i : Nat) (p : FrameD × Value), F[i]? = some p → Apart p.2 qv
def MachRes (base : Nat) (M : MachD) (w : World) (x : Ending) (w' : World) : Prop :=
  ∃ fv ev qv F, x = .returned (.agg #[fv, ev, qv]) ∧ F.map Prod.fst = M.frames ∧ OwnMach base w' fv ev qv F M.encl M.quotes ∧ Below base w w'
theorem infoFrames : (Tryd.prog.info? 40).map (fun i => (i.zero, i.size, i.bytes)) = some (some (.agg #[.int .i64 0, .int .i64 0, .int .i64 0, .slice none 0 0]), 4, 48) := by kernel_rfl

theorem own_cap {w : World} {base : Nat} {e : TypeId} {size : Nat} {a : Option Addr} {n c : Nat} {xs : List Value} (h : w.ownsRow base e size (.slice a n c) n xs) : n ≤ c := by
  obtain ⟨hl, ⟨h1, h2⟩ | ⟨g, cap, cur, h1, hg, hh, hn, hcap, hsz, ht⟩⟩ := h
  · cases h1; omega
  · cases h1; omega
theorem OwnMach.at {base : Nat} {W : World} {fv ev qv : Value} {F : List (FrameD × Value)} {M : MachD} (h : OwnMach base W fv ev qv F M.encl M.quotes) (hF : F.map Prod.fst = M.frames) : MachAt W (.agg #[fv, ev, qv]) M := by
  obtain ⟨fa, fc, rfl, h1⟩ := h.f.frames
  obtain ⟨ea, ec, rfl, h2⟩ := CellsAt.of_own h.e
  obtain ⟨qa, qc, rfl, h3⟩ := CellsAt.of_own h.q
  rw [hF] at h1
  have hl : F.length = M.frames.length := by rw [← hF, List.length_map]
  have hc := own_cap h.f.row
  rw [hl] at hc ⊢
  exact ⟨fa, fc, ea, ec, qa, qc, rfl, h1, h2.encls, h3.quotes, hc⟩
theorem OwnMach.below {base : Nat} {W W' : World} {fv ev qv : Value} {F : List (FrameD × Value)} {E : List EnclD} {Q : List QuoteD} (h : OwnMach base W fv ev qv F E Q) (hb : Below W.heap.size W W') : OwnMach base W' fv ev qv F E Q :=
  ⟨h.f.below hb, ownsRow_below h.e hb, ownsRow_below h.q hb, h.fe, h.fq, h.eq, h.we, h.wq⟩
theorem OwnMach.mono {base b' : Nat} {W : World} {fv ev qv : Value} {F : List (FrameD × Value)} {E : List EnclD} {Q : List QuoteD} (h : OwnMach base W fv ev qv F E Q) (hb : b' ≤ base) : OwnMach b' W fv ev qv F E Q :=
  ⟨OwnRows.mono h.f hb, ownsRow_mono h.e hb, ownsRow_mono h.q hb, h.fe, h.fq, h.eq, h.we, h.wq⟩


/-- A slice's block is not b. -/
def NotAt (v : Value) (b : Nat) : Prop := ∀ k, v.ownBlock = some k → k ≠ b
theorem OwnRows.setCell {α : Type} {fc : α × Value → List Value} {ws : α → List Int} {T k base : Nat} {W : World} {ov : Value} {F : List (α × Value)} (h : OwnRows fc ws T k base W ov F) {a : Addr} (ho : NotAt ov a.block)
    (hf : ∀ (i : Nat) (p : α × Value), F[i]? = some p → NotAt p.2 a.block) (u : Value) : OwnRows fc ws T k base (W.setCell a u) ov F :=
  ⟨ownsRow_setCell_ne h.row ho u, fun i p hp => ⟨ownsRow_setCell_ne (h.sub i p hp).1 (hf i p hp) u, (h.sub i p hp).2⟩, h.dis⟩
theorem OwnMach.setCell {base : Nat} {W : World} {fv ev qv : Value} {F : List (FrameD × Value)} {E : List EnclD} {Q : List QuoteD} (h : OwnMach base W fv ev qv F E Q) {a : Addr} (ho : NotAt fv a.block) (he : NotAt ev a.block) (hq : NotAt qv a.block)
    (hf : ∀ (i : Nat) (p : FrameD × Value), F[i]? = some p → NotAt p.2 a.block) (u : Value) : OwnMach base (W.setCell a u) fv ev qv F E Q :=
  ⟨h.f.setCell ho hf u, ownsRow_setCell_ne h.e he u, ownsRow_setCell_ne h.q hq u, h.fe, h.fq, h.eq, h.we, h.wq⟩
theorem OwnMach.setLow {base : Nat} {W : World} {fv ev qv : Value} {F : List (FrameD × Value)} {E : List EnclD} {Q : List QuoteD} (h : OwnMach base W fv ev qv F E Q) {a : Addr} (ha : a.block < base) (u : Value) : OwnMach base (W.setCell a u) fv ev qv F E Q :=
  h.setCell (fun k hk => by have := (h.f.row.lt k hk).1; omega) (fun k hk => by have := (h.e.lt k hk).1; omega) (fun k hk => by have := (h.q.lt k hk).1; omega) (fun i p hp k hk => by have := ((h.f.sub i p hp).1.lt k hk).1; omega) u
theorem ownsRow_set3 {w : World} {base : Nat} {e : TypeId} {size : Nat} {v : Value} {n : Nat} {xs : List Value} (h : w.ownsRow base e size v n xs) {b : Nat} (hn : NotAt v b) (o1 o2 o3 : Nat) (u1 u2 u3 : Value) : (((w.setCell ⟨b, o1, none⟩ u1).setCell ⟨b, o2, none⟩ u2).setCell ⟨b, o3, none⟩ u3).ownsRow base e size v n xs :=
  ownsRow_setCell_ne (ownsRow_setCell_ne (ownsRow_setCell_ne h (a := ⟨b, o1, none⟩) hn _) (a := ⟨b, o2, none⟩) hn _) (a := ⟨b, o3, none⟩) hn _

/-- A copy under way: its frames so far, its box b, the box of the result. -/
structure CopyInv (w : World) (b : Nat) (pv ov ev qv : Value) (F : List (FrameD × Value)) (E : List EnclD) (Q : List QuoteD) (W : World) : Prop where
  below : Below w.heap.size w W
  p0 : W.cell? ⟨w.heap.size, 0, none⟩ = some pv
  c0 : W.cell? ⟨b, 0, none⟩ = some ov
  c1 : W.cell? ⟨b, 1, none⟩ = some ev
  c2 : W.cell? ⟨b, 2, none⟩ = some qv
  cz : ∀ o, W.frozen? ⟨b, o, none⟩ = false
  r0 : W.cell? ⟨w.heap.size + 1, 0, none⟩ = some (.slice none 0 0)
  r1 : W.cell? ⟨w.heap.size + 1, 1, none⟩ = some (.slice none 0 0)
  r2 : W.cell? ⟨w.heap.size + 1, 2, none⟩ = some (.slice none 0 0)
  rz : ∀ o, W.frozen? ⟨w.heap.size + 1, o, none⟩ = false
  lo : w.heap.size + 2 ≤ b
  hi : b < W.heap.size
  own : OwnMach (w.heap.size + 2) W ov ev qv F E Q
  no : NotAt ov b
  ne : NotAt ev b
  nq : NotAt qv b
  nf : ∀ (i : Nat) (p : FrameD × Value), F[i]? = some p → NotAt p.2 b
section
variable {w W W' : World} {b : Nat} {pv ov ev qv : Value} {F : List (FrameD × Value)} {E : List EnclD} {Q : List QuoteD}
theorem CopyInv.later (h : CopyInv w b pv ov ev qv F E Q W) (hb : Below W.heap.size W W') : CopyInv w b pv ov ev qv F E Q W' := by
  have h1 := h.below.size
  have hz := h.hi
  have hl := h.lo
  exact ⟨h.below.trans (hb.mono h1), cell_later hb h.p0, cell_later hb h.c0, cell_later hb h.c1, cell_later hb h.c2, fun o => by rw [(bcell hb).2 _ _ hz]; exact h.cz o, cell_later hb h.r0, cell_later hb h.r1, cell_later hb h.r2,
    fun o => by rw [(bcell hb).2 _ _ (by omega)]; exact h.rz o, hl, by have := hb.size; omega, h.own.below hb, h.no, h.ne, h.nq, h.nf⟩
/-- One more frame appended, and the box told of it. -/
theorem CopyInv.push (h : CopyInv w b pv ov ev qv F E Q W) (x : FrameD) (wv : Value) (hw : W.ownsRow (w.heap.size + 2) 3 1 wv x.words.length (intCells x.words)) (hwo : Apart wv ov) (hwf : ∀ (i : Nat) (p : FrameD × Value), F[i]? = some p → Apart p.2 wv)
    (hwe : Apart wv ev) (hwq : Apart wv qv) (hwb : NotAt wv b) {g n cap : Nat} (hrow : W'.ownsRow (w.heap.size + 2) 40 4 (.slice (some ⟨g, 0, none⟩) n cap) n (F.flatMap fcs ++ fcs (x, wv))) (hn : n = F.length + 1)
    (hg : W.grownBy W' ov.ownBlock) (hat : ov.ownBlock = some g ∨ g = W.heap.size) : CopyInv w b pv (.slice (some ⟨g, 0, none⟩) n cap) ev qv (F ++ [(x, wv)]) E Q (W'.setCell ⟨b, 0, none⟩ (.slice (some ⟨g, 0, none⟩) n cap)) := by
  have hsz := h.below.size
  have hz := h.hi
  have hl := h.lo
  have hgs := hg.size
  have hw' : Below w.heap.size w W' := h.below.grown hg hsz (fun k hk => by have := (h.own.f.row.lt k hk).1; omega)
  have hne : some b ≠ ov.ownBlock := fun e => h.no b e.symm rfl
  have hnr : some (w.heap.size + 1) ≠ ov.ownBlock := fun e => by have := (h.own.f.row.lt _ e.symm).1; omega
  have hnp : some w.heap.size ≠ ov.ownBlock := fun e => by have := (h.own.f.row.lt _ e.symm).1; omega
  have hgb : g ≠ b := by
    rcases hat with e | e
    · exact h.no g e
    · omega
  have hF := h.own.f.push x wv hw hwo hwf hrow hn hg hat
  have hgn : ∀ {v : Value} {e s m : Nat} {xs : List Value}, W.ownsRow (w.heap.size + 2) e s v m xs → Apart ov v → Apart (.slice (some ⟨g, 0, none⟩) n cap) v := fun hv ha k hk hk' => by
    simp only [Value.ownBlock, Option.some.injEq] at hk
    subst hk
    rcases hat with e | e
    · exact ha g e hk'
    · have := (hv.lt g hk').2
      omega
  have hkeep : ∀ {v : Value} {e s m : Nat} {xs : List Value}, W.ownsRow (w.heap.size + 2) e s v m xs → Apart ov v → W'.ownsRow (w.heap.size + 2) e s v m xs := fun {v e s m xs} hv ha => hv.kept hg (by
    cases hvb : v.ownBlock with
    | none => exact .inl rfl
    | some b => exact .inr fun e => ha b e.symm hvb)
  have hget : ∀ (i : Nat) (p : FrameD × Value), (F ++ [(x, wv)])[i]? = some p → F[i]? = some p ∨ p = (x, wv) := fun i p hp => by
    by_cases hi : i < F.length
    · rw [List.getElem?_append_left hi] at hp
      exact .inl hp
    · rw [List.getElem?_append_right (by omega)] at hp
      cases hk : i - F.length with
      | zero => rw [hk] at hp; simp only [List.getElem?_cons_zero, Option.some.injEq] at hp; exact .inr hp.symm
      | succ k => rw [hk] at hp; simp at hp
  have hO : OwnMach (w.heap.size + 2) W' (.slice (some ⟨g, 0, none⟩) n cap) ev qv (F ++ [(x, wv)]) E Q := ⟨hF, hkeep h.own.e h.own.fe, hkeep h.own.q h.own.fq, hgn h.own.e h.own.fe, hgn h.own.q h.own.fq, h.own.eq,
    fun i p hp => by rcases hget i p hp with hp | rfl; exact h.own.we i p hp; exact hwe, fun i p hp => by rcases hget i p hp with hp | rfl; exact h.own.wq i p hp; exact hwq⟩
  have hnf : ∀ (i : Nat) (p : FrameD × Value), (F ++ [(x, wv)])[i]? = some p → NotAt p.2 b := fun i p hp => by rcases hget i p hp with hp | rfl; exact h.nf i p hp; exact hwb
  have hno : NotAt (.slice (some ⟨g, 0, none⟩) n cap) b := fun k hk => by
    simp only [Value.ownBlock, Option.some.injEq] at hk
    omega
  have k0 := hg.cell h.c0 hne
  have k1 := hg.cell h.c1 hne
  have k2 := hg.cell h.c2 hne
  have kp := hg.cell h.p0 hnp
  have m0 := hg.cell h.r0 hnr
  have m1 := hg.cell h.r1 hnr
  have m2 := hg.cell h.r2 hnr
  have fb : ∀ o, W'.frozen? ⟨b, o, none⟩ = false := fun o => by rw [hg.frozen_far ⟨b, o, none⟩ hz hne]; exact h.cz o
  have fr : ∀ o, W'.frozen? ⟨w.heap.size + 1, o, none⟩ = false := fun o => by rw [hg.frozen_far ⟨w.heap.size + 1, o, none⟩ (by simp only; omega) hnr]; exact h.rz o
  have hbs : w.heap.size + 1 ≠ b := by omega
  have hbp : w.heap.size ≠ b := by omega
  exact ⟨hw'.setCell (by simp only; omega) _, by go_simp, by go_simp, by go_simp, by go_simp, fun o => by go_simp, by go_simp, by go_simp, by go_simp, fun o => by go_simp, hl, by simp; omega,
    hO.setCell hno h.ne h.nq hnf _, hno, h.ne, h.nq, hnf⟩
end

end Go.Proofs.YtehhhliiehhdjaaDoor
