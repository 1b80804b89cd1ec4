/- A machine in memory of its own, and a copy of one under way. Plain laws; no program is walked.
A machine in memory of its own, one part of it written: what it reads as then. Plain laws; no program is walked. -/
import Derived.Test.YtklbbjionoeofaaGreatDoorGd
import Derived.Deep.Cut
import Derived.Deep.CutRange
import Derived.Laws.OwnMore
namespace Go.Proofs.YtklbbjionoeofaaGreatDoor
open Go.RowKit

/-- A machine in memory of its own. -/
structure OwnMach (base : Nat) (W : World) (fv ev qv : Value) (F : List (FrameD × Value)) (E : List EnclD) (Q : List QuoteD) : Prop where
  f : OwnFrames base W fv F
  e : W.ownsRow base 77 7 ev E.length (E.flatMap EnclD.cs)
  q : W.ownsRow base 71 2 qv Q.length (Q.flatMap QuoteD.cs)
  fe : Apart fv ev
  fq : Apart fv qv
  eq : Apart ev qv
  we : ∀ (i : Nat) (p : FrameD × Value), F[i]? = some p → Apart p.2 ev
  wq : ∀ (i : Nat) (p : FrameD × Value), F[i]? = some p → Apart p.2 qv
def MachRes (base : Nat) (M : MachD) (w : World) (x : Ending) (w' : World) : Prop :=
  ∃ fv ev qv F, x = .returned (.agg #[fv, ev, qv]) ∧ F.map Prod.fst = M.frames ∧ OwnMach base w' fv ev qv F M.encl M.quotes ∧ Below base w w'
theorem infoFrames : (Tryz.prog.info? 73).map (fun i => (i.zero, i.size, i.bytes)) = some (some (.agg #[.int .i64 0, .int .i64 0, .int .i64 0, .slice none 0 0]), 4, 48) := by kernel_rfl

theorem own_cap {w : World} {base : Nat} {e : TypeId} {size : Nat} {a : Option Addr} {n c : Nat} {xs : List Value} (h : w.ownsRow base e size (.slice a n c) n xs) : n ≤ c := by
  obtain ⟨hl, ⟨h1, h2⟩ | ⟨g, cap, cur, h1, hg, hh, hn, hcap, hsz, ht⟩⟩ := h
  · cases h1; omega
  · cases h1; omega
theorem OwnMach.at {base : Nat} {W : World} {fv ev qv : Value} {F : List (FrameD × Value)} {M : MachD} (h : OwnMach base W fv ev qv F M.encl M.quotes) (hF : F.map Prod.fst = M.frames) : MachAt W (.agg #[fv, ev, qv]) M := by
  obtain ⟨fa, fc, rfl, h1⟩ := h.f.frames
  obtain ⟨ea, ec, rfl, h2⟩ := CellsAt.of_own h.e
  obtain ⟨qa, qc, rfl, h3⟩ := CellsAt.of_own h.q
  rw [hF] at h1
  have hl : F.length = M.frames.length := by rw [← hF, List.length_map]
  have hc := own_cap h.f.row
  rw [hl] at hc ⊢
  exact ⟨fa, fc, ea, ec, qa, qc, rfl, h1, h2.encls, h3.quotes, hc⟩
theorem OwnMach.below {base : Nat} {W W' : World} {fv ev qv : Value} {F : List (FrameD × Value)} {E : List EnclD} {Q : List QuoteD} (h : OwnMach base W fv ev qv F E Q) (hb : Below W.heap.size W W') : OwnMach base W' fv ev qv F E Q :=
  ⟨h.f.below hb, ownsRow_below h.e hb, ownsRow_below h.q hb, h.fe, h.fq, h.eq, h.we, h.wq⟩
theorem OwnMach.mono {base b' : Nat} {W : World} {fv ev qv : Value} {F : List (FrameD × Value)} {E : List EnclD} {Q : List QuoteD} (h : OwnMach base W fv ev qv F E Q) (hb : b' ≤ base) : OwnMach b' W fv ev qv F E Q :=
  ⟨OwnRows.mono h.f hb, ownsRow_mono h.e hb, ownsRow_mono h.q hb, h.fe, h.fq, h.eq, h.we, h.wq⟩


/-- A slice's block is not b. -/
def NotAt (v : Value) (b : Nat) : Prop := ∀ k, v.ownBlock = some k → k ≠ b
theorem OwnRows.setCell {α : Type} {fc : α × Value → List Value} {ws : α → List Int} {T k base : Nat} {W : World} {ov : Value} {F : List (α × Value)} (h : OwnRows fc ws T k base W ov F) {a : Addr} (ho : NotAt ov a.block)
    (hf : ∀ (i : Nat) (p : α × Value), F[i]? = some p → NotAt p.2 a.block) (u : Value) : OwnRows fc ws T k base (W.setCell a u) ov F :=
  ⟨ownsRow_setCell_ne h.row ho u, fun i p hp => ⟨ownsRow_setCell_ne (h.sub i p hp).1 (hf i p hp) u, (h.sub i p hp).2⟩, h.dis⟩
theorem OwnMach.setCell {base : Nat} {W : World} {fv ev qv : Value} {F : List (FrameD × Value)} {E : List EnclD} {Q : List QuoteD} (h : OwnMach base W fv ev qv F E Q) {a : Addr} (ho : NotAt fv a.block) (he : NotAt ev a.block) (hq : NotAt qv a.block)
    (hf : ∀ (i : Nat) (p : FrameD × Value), F[i]? = some p → NotAt p.2 a.block) (u : Value) : OwnMach base (W.setCell a u) fv ev qv F E Q :=
  ⟨h.f.setCell ho hf u, ownsRow_setCell_ne h.e he u, ownsRow_setCell_ne h.q hq u, h.fe, h.fq, h.eq, h.we, h.wq⟩
theorem OwnMach.setLow {base : Nat} {W : World} {fv ev qv : Value} {F : List (FrameD × Value)} {E : List EnclD} {Q : List QuoteD} (h : OwnMach base W fv ev qv F E Q) {a : Addr} (ha : a.block < base) (u : Value) : OwnMach base (W.setCell a u) fv ev qv F E Q :=
  h.setCell (fun k hk => by have := (h.f.row.lt k hk).1; omega) (fun k hk => by have := (h.e.lt k hk).1; omega) (fun k hk => by have := (h.q.lt k hk).1; omega) (fun i p hp k hk => by have := ((h.f.sub i p hp).1.lt k hk).1; omega) u
theorem ownsRow_set3 {w : World} {base : Nat} {e : TypeId} {size : Nat} {v : Value} {n : Nat} {xs : List Value} (h : w.ownsRow base e size v n xs) {b : Nat} (hn : NotAt v b) (o1 o2 o3 : Nat) (u1 u2 u3 : Value) : (((w.setCell ⟨b, o1, none⟩ u1).setCell ⟨b, o2, none⟩ u2).setCell ⟨b, o3, none⟩ u3).ownsRow base e size v n xs :=
  ownsRow_setCell_ne (ownsRow_setCell_ne (ownsRow_setCell_ne h (a := ⟨b, o1, none⟩) hn _) (a := ⟨b, o2, none⟩) hn _) (a := ⟨b, o3, none⟩) hn _

/-- A copy under way: its frames so far, its box b, the box of the result. -/
structure CopyInv (w : World) (b : Nat) (pv ov ev qv : Value) (F : List (FrameD × Value)) (E : List EnclD) (Q : List QuoteD) (W : World) : Prop where
  below : Below w.heap.size w W
  p0 : W.cell? ⟨w.heap.size, 0, none⟩ = some pv
  c0 : W.cell? ⟨b, 0, none⟩ = some ov
  c1 : W.cell? ⟨b, 1, none⟩ = some ev
  c2 : W.cell? ⟨b, 2, none⟩ = some qv
  cz : ∀ o, W.frozen? ⟨b, o, none⟩ = false
  r0 : W.cell? ⟨w.heap.size + 1, 0, none⟩ = some (.slice none 0 0)
  r1 : W.cell? ⟨w.heap.size + 1, 1, none⟩ = some (.slice none 0 0)
  r2 : W.cell? ⟨w.heap.size + 1, 2, none⟩ = some (.slice none 0 0)
  rz : ∀ o, W.frozen? ⟨w.heap.size + 1, o, none⟩ = false
  lo : w.heap.size + 2 ≤ b
  hi : b < W.heap.size
  own : OwnMach (w.heap.size + 2) W ov ev qv F E Q
  no : NotAt ov b
  ne : NotAt ev b
  nq : NotAt qv b
  nf : ∀ (i : Nat) (p : FrameD × Value), F[i]? = some p → NotAt p.2 b
section
variable {w W W' : World} {b : Nat} {pv ov ev qv : Value} {F : List (FrameD × Value)} {E : List EnclD} {Q : List QuoteD}
theorem CopyInv.later (h : CopyInv w b pv ov ev qv F E Q W) (hb : Below W.heap.size W W') : CopyInv w b pv ov ev qv F E Q W' := by
  have h1 := h.below.size
  have hz := h.hi
  have hl := h.lo
  exact ⟨h.below.trans (hb.mono h1), cell_later hb h.p0, cell_later hb h.c0, cell_later hb h.c1, cell_later hb h.c2, fun o => by rw [(bcell hb).2 _ _ hz]; exact h.cz o, cell_later hb h.r0, cell_later hb h.r1, cell_later hb h.r2,
    fun o => by rw [(bcell hb).2 _ _ (by omega)]; exact h.rz o, hl, by have := hb.size; omega, h.own.below hb, h.no, h.ne, h.nq, h.nf⟩
/-- One more frame appended, and the box told of it. -/
theorem CopyInv.push (h : CopyInv w b pv ov ev qv F E Q W) (x : FrameD) (wv : Value) (hw : W.ownsRow (w.heap.size + 2) 3 1 wv x.words.length (intCells x.words)) (hwo : Apart wv ov) (hwf : ∀ (i : Nat) (p : FrameD × Value), F[i]? = some p → Apart p.2 wv)
    (hwe : Apart wv ev) (hwq : Apart wv qv) (hwb : NotAt wv b) {g n cap : Nat} (hrow : W'.ownsRow (w.heap.size + 2) 73 4 (.slice (some ⟨g, 0, none⟩) n cap) n (F.flatMap fcs ++ fcs (x, wv))) (hn : n = F.length + 1)
    (hg : W.grownBy W' ov.ownBlock) (hat : ov.ownBlock = some g ∨ g = W.heap.size) : CopyInv w b pv (.slice (some ⟨g, 0, none⟩) n cap) ev qv (F ++ [(x, wv)]) E Q (W'.setCell ⟨b, 0, none⟩ (.slice (some ⟨g, 0, none⟩) n cap)) := by
  have hsz := h.below.size
  have hz := h.hi
  have hl := h.lo
  have hgs := hg.size
  have hw' : Below w.heap.size w W' := h.below.grown hg hsz (fun k hk => by have := (h.own.f.row.lt k hk).1; omega)
  have hne : some b ≠ ov.ownBlock := fun e => h.no b e.symm rfl
  have hnr : some (w.heap.size + 1) ≠ ov.ownBlock := fun e => by have := (h.own.f.row.lt _ e.symm).1; omega
  have hnp : some w.heap.size ≠ ov.ownBlock := fun e => by have := (h.own.f.row.lt _ e.symm).1; omega
  have hgb : g ≠ b := by
    rcases hat with e | e
    · exact h.no g e
    · omega
  have hF := h.own.f.push x wv hw hwo hwf hrow hn hg hat
  have hgn : ∀ {v : Value} {e s m : Nat} {xs : List Value}, W.ownsRow (w.heap.size + 2) e s v m xs → Apart ov v → Apart (.slice (some ⟨g, 0, none⟩) n cap) v := fun hv ha k hk hk' => by
    simp only [Value.ownBlock, Option.some.injEq] at hk
    subst hk
    rcases hat with e | e
    · exact ha g e hk'
    · have := (hv.lt g hk').2
      omega
  have hkeep : ∀ {v : Value} {e s m : Nat} {xs : List Value}, W.ownsRow (w.heap.size + 2) e s v m xs → Apart ov v → W'.ownsRow (w.heap.size + 2) e s v m xs := fun {v e s m xs} hv ha => hv.kept hg (by
    cases hvb : v.ownBlock with
    | none => exact .inl rfl
    | some b => exact .inr fun e => ha b e.symm hvb)
  have hget : ∀ (i : Nat) (p : FrameD × Value), (F ++ [(x, wv)])[i]? = some p → F[i]? = some p ∨ p = (x, wv) := fun i p hp => by
    by_cases hi : i < F.length
    · rw [List.getElem?_append_left hi] at hp
      exact .inl hp
    · rw [List.getElem?_append_right (by omega)] at hp
      cases hk : i - F.length with
      | zero => rw [hk] at hp; simp only [List.getElem?_cons_zero, Option.some.injEq] at hp; exact .inr hp.symm
      | succ k => rw [hk] at hp; simp at hp
  have hO : OwnMach (w.heap.size + 2) W' (.slice (some ⟨g, 0, none⟩) n cap) ev qv (F ++ [(x, wv)]) E Q := ⟨hF, hkeep h.own.e h.own.fe, hkeep h.own.q h.own.fq, hgn h.own.e h.own.fe, hgn h.own.q h.own.fq, h.own.eq,
    fun i p hp => by rcases hget i p hp with hp | rfl; exact h.own.we i p hp; exact hwe, fun i p hp => by rcases hget i p hp with hp | rfl; exact h.own.wq i p hp; exact hwq⟩
  have hnf : ∀ (i : Nat) (p : FrameD × Value), (F ++ [(x, wv)])[i]? = some p → NotAt p.2 b := fun i p hp => by rcases hget i p hp with hp | rfl; exact h.nf i p hp; exact hwb
  have hno : NotAt (.slice (some ⟨g, 0, none⟩) n cap) b := fun k hk => by
    simp only [Value.ownBlock, Option.some.injEq] at hk
    omega
  have k0 := hg.cell h.c0 hne
  have k1 := hg.cell h.c1 hne
  have k2 := hg.cell h.c2 hne
  have kp := hg.cell h.p0 hnp
  have m0 := hg.cell h.r0 hnr
  have m1 := hg.cell h.r1 hnr
  have m2 := hg.cell h.r2 hnr
  have fb : ∀ o, W'.frozen? ⟨b, o, none⟩ = false := fun o => by rw [hg.frozen_far ⟨b, o, none⟩ hz hne]; exact h.cz o
  have fr : ∀ o, W'.frozen? ⟨w.heap.size + 1, o, none⟩ = false := fun o => by rw [hg.frozen_far ⟨w.heap.size + 1, o, none⟩ (by simp only; omega) hnr]; exact h.rz o
  have hbs : w.heap.size + 1 ≠ b := by omega
  have hbp : w.heap.size ≠ b := by omega
  exact ⟨hw'.setCell (by simp only; omega) _, by go_simp, by go_simp, by go_simp, by go_simp, fun o => by go_simp, by go_simp, by go_simp, by go_simp, fun o => by go_simp, hl, by simp; omega,
    hO.setCell hno h.ne h.nq hnf _, hno, h.ne, h.nq, hnf⟩
end

end Go.Proofs.YtklbbjionoeofaaGreatDoor

namespace Go.Proofs.YtklbbjionoeofaaGreatDoor
open Go.RowKit

/-- One cell of one element written: the list with that element turned. -/
theorem flat_set {α : Type} (f : α → List Value) (k : Nat) (hk : ∀ x, (f x).length = k) (l : List α) (i j : Nat) (x x' : α) (u : Value) (hx : l[i]? = some x) (hj : j < k) (hu : f x' = (f x).set j u) :
    (l.flatMap f).set (i * k + j) u = (l.set i x').flatMap f := by
  induction l generalizing i with
  | nil => simp at hx
  | cons y l ih =>
    cases i with
    | zero =>
      simp only [List.getElem?_cons_zero, Option.some.injEq] at hx
      subst hx
      rw [List.flatMap_cons, List.set_cons_zero, List.flatMap_cons, Nat.zero_mul, Nat.zero_add, List.set_append_left _ _ (by rw [hk]; exact hj), hu]
    | succ i =>
      simp only [List.getElem?_cons_succ] at hx
      rw [List.flatMap_cons, List.set_cons_succ, List.flatMap_cons, List.set_append_right _ _ (by rw [hk, Nat.succ_mul]; omega), hk, show (i + 1) * k + j - k = i * k + j by rw [Nat.succ_mul]; omega, ih i hx]

theorem ownsRow_setAt {w : World} {base : Nat} {e : TypeId} {size : Nat} {v : Value} {n : Nat} {xs : List Value} (h : w.ownsRow base e size v n xs) {b : Nat} (hn : NotAt v b) (o : Nat) (u : Value) : (w.setCell ⟨b, o, none⟩ u).ownsRow base e size v n xs :=
  ownsRow_setCell_ne h (a := ⟨b, o, none⟩) hn u
theorem OwnRows.setAt {α : Type} {fc : α × Value → List Value} {ws : α → List Int} {T k base : Nat} {W : World} {ov : Value} {F : List (α × Value)} (h : OwnRows fc ws T k base W ov F) {b : Nat} (ho : NotAt ov b)
    (hf : ∀ (i : Nat) (p : α × Value), F[i]? = some p → NotAt p.2 b) (o : Nat) (u : Value) : OwnRows fc ws T k base (W.setCell ⟨b, o, none⟩ u) ov F := h.setCell (a := ⟨b, o, none⟩) ho hf u
section
variable {base : Nat} {W : World} {fv ev qv : Value} {F : List (FrameD × Value)} {E : List EnclD} {Q : List QuoteD}

theorem grown_set (W : World) (a : Addr) (u : Value) : W.grownBy (W.setCell a u) (some a.block) :=
  ⟨rfl, rfl, rfl, by simp, fun k _ hk => heap_setCell_other W a k u (fun e => hk (by simp [e]))⟩

/-- A cell of an enclave is written. -/
theorem OwnMach.setE {g m c i j : Nat} {x x' : EnclD} {u : Value} (h : OwnMach base W fv (.slice (some ⟨g, 0, none⟩) m c) qv F E Q) (hm : E.length = m) (hx : E[i]? = some x) (hj : j < 7) (hu : x'.cs = x.cs.set j u) :
    OwnMach base (W.setCell ⟨g, i * 7 + j, none⟩ u) fv (.slice (some ⟨g, 0, none⟩) m c) qv F (E.set i x') Q := by
  subst hm
  have hg : ∀ {v : Value}, Apart v (.slice (some ⟨g, 0, none⟩) E.length c) → NotAt v g := fun ha k hk e => ha k hk (by rw [e]; rfl)
  have hs := (h.e.stored (i * 7 + j) u).1
  rw [flat_set EnclD.cs 7 EnclD.cs_len E i j x x' u hx hj hu] at hs
  exact ⟨h.f.setAt (hg h.fe) (fun i p hp => hg (h.we i p hp)) _ u, by rw [List.length_set]; exact hs, ownsRow_setAt h.q (hg h.eq.symm) _ u, h.fe, h.fq, h.eq, h.we, h.wq⟩

/-- A number of a frame is written. -/
theorem OwnMach.setF {g m c i j : Nat} {x x' : FrameD} {wv : Value} {u : Value} (h : OwnMach base W (.slice (some ⟨g, 0, none⟩) m c) ev qv F E Q) (hm : F.length = m) (hx : F[i]? = some (x, wv)) (hj : j < 4) (hu : fcs (x', wv) = (fcs (x, wv)).set j u) (hw : x'.words = x.words) :
    OwnMach base (W.setCell ⟨g, i * 4 + j, none⟩ u) (.slice (some ⟨g, 0, none⟩) m c) ev qv (F.set i (x', wv)) E Q := by
  subst hm
  have hs := (h.f.row.stored (i * 4 + j) u).1
  rw [flat_set fcs 4 fcs_len F i j (x, wv) (x', wv) u hx hj hu] at hs
  have hg : ∀ {v : Value}, Apart v (.slice (some ⟨g, 0, none⟩) F.length c) → NotAt v g := fun ha k hk e => ha k hk (by rw [e]; rfl)
  have hget : ∀ (k : Nat) (p : FrameD × Value), (F.set i (x', wv))[k]? = some p → ∃ q, F[k]? = some q ∧ p.2 = q.2 ∧ p.1.words = q.1.words := fun k p hp => by
    by_cases hk : i = k
    · subst hk
      rw [List.getElem?_set_self (List.getElem?_eq_some_iff.1 hx).1] at hp
      cases hp
      exact ⟨_, hx, rfl, hw⟩
    · rw [List.getElem?_set_ne hk] at hp
      exact ⟨p, hp, rfl, rfl⟩
  refine ⟨⟨by rw [List.length_set]; exact hs, fun k p hp => ?_, fun k l p q hkl hp hq => ?_⟩, ownsRow_setAt h.e (hg h.fe.symm) _ u, ownsRow_setAt h.q (hg h.fq.symm) _ u, h.fe, h.fq, h.eq, fun k p hp => ?_, fun k p hp => ?_⟩
  · obtain ⟨q, hq, e2, e1⟩ := hget k p hp
    obtain ⟨h1, h2⟩ := h.f.sub k q hq
    rw [e2, e1]
    exact ⟨ownsRow_setAt h1 (hg h2) _ u, h2⟩
  · obtain ⟨p', hp', e2, _⟩ := hget k p hp
    obtain ⟨q', hq', f2, _⟩ := hget l q hq
    rw [e2, f2]
    exact h.f.dis k l p' q' hkl hp' hq'
  · obtain ⟨q, hq, e2, _⟩ := hget k p hp
    rw [e2]
    exact h.we k q hq
  · obtain ⟨q, hq, e2, _⟩ := hget k p hp
    rw [e2]
    exact h.wq k q hq

theorem intCells_set (l : List Int) (k : Nat) (n : Int) : (intCells l).set k (.int .i64 n) = intCells (l.set k n) := by simp [intCells, List.map_set]

/-- A word of a frame is written. -/
theorem OwnMach.setW {g m c i k : Nat} {x : FrameD} {n : Int} (h : OwnMach base W fv ev qv F E Q) (hm : x.words.length = m) (hx : F[i]? = some (x, .slice (some ⟨g, 0, none⟩) m c)) :
    OwnMach base (W.setCell ⟨g, k, none⟩ (.int .i64 n)) fv ev qv (F.set i ({ x with words := x.words.set k n }, .slice (some ⟨g, 0, none⟩) m c)) E Q := by
  subst hm
  obtain ⟨ho, ha⟩ := h.f.sub i _ hx
  have hs := (ho.stored k (.int .i64 n)).1
  rw [intCells_set] at hs
  have hg : ∀ {v : Value}, Apart (.slice (some ⟨g, 0, none⟩) x.words.length c) v → NotAt v g := fun ha k hk e => ha g rfl (by rw [hk, e])
  have hlen : i < F.length := (List.getElem?_eq_some_iff.1 hx).1
  have hget : ∀ (l : Nat) (p : FrameD × Value), (F.set i ({ x with words := x.words.set k n }, .slice (some ⟨g, 0, none⟩) x.words.length c))[l]? = some p →
      (i = l ∧ p = ({ x with words := x.words.set k n }, .slice (some ⟨g, 0, none⟩) x.words.length c)) ∨ (i ≠ l ∧ F[l]? = some p) := fun l p hp => by
    by_cases hk : i = l
    · subst hk
      rw [List.getElem?_set_self hlen] at hp
      exact .inl ⟨rfl, (Option.some.inj hp).symm⟩
    · rw [List.getElem?_set_ne hk] at hp
      exact .inr ⟨hk, hp⟩
  have hv : ∀ (l : Nat) (p : FrameD × Value), (F.set i ({ x with words := x.words.set k n }, .slice (some ⟨g, 0, none⟩) x.words.length c))[l]? = some p → ∃ q, F[l]? = some q ∧ p.2 = q.2 := fun l p hp => by
    rcases hget l p hp with ⟨rfl, rfl⟩ | ⟨_, hq⟩
    · exact ⟨_, hx, rfl⟩
    · exact ⟨p, hq, rfl⟩
  have hrow : (F.set i ({ x with words := x.words.set k n }, .slice (some ⟨g, 0, none⟩) x.words.length c)).flatMap fcs = F.flatMap fcs := by
    rw [← flat_set fcs 4 fcs_len F i 3 _ ({ x with words := x.words.set k n }, .slice (some ⟨g, 0, none⟩) x.words.length c) (.slice (some ⟨g, 0, none⟩) x.words.length c) hx (by decide) rfl]
    apply List.ext_getElem?
    intro r
    by_cases hr : r = i * 4 + 3
    · subst hr
      have := flat_get fcs 4 fcs_len F i 3 (by decide)
      rw [hx] at this
      rw [this, List.getElem?_set_self (by rw [flat_len fcs 4 fcs_len]; omega)]
      rfl
    · rw [List.getElem?_set_ne (fun e => hr e.symm)]
  refine ⟨⟨?_, fun l p hp => ?_, fun l r p q hlr hp hq => ?_⟩, ownsRow_setAt h.e (hg (h.we i _ hx)) _ _, ownsRow_setAt h.q (hg (h.wq i _ hx)) _ _, h.fe, h.fq, h.eq, fun l p hp => ?_, fun l p hp => ?_⟩
  · rw [hrow, List.length_set]
    exact ownsRow_setAt h.f.row (hg ha) _ _
  · rcases hget l p hp with ⟨rfl, rfl⟩ | ⟨hne, hq⟩
    · refine ⟨?_, ha⟩
      simp only [List.length_set]
      exact hs
    · obtain ⟨h1, h2⟩ := h.f.sub l p hq
      exact ⟨ownsRow_setAt h1 (hg (h.f.dis i l _ p hne hx hq)) _ _, h2⟩
  · obtain ⟨p', hp', e2⟩ := hv l p hp
    obtain ⟨q', hq', f2⟩ := hv r q hq
    rw [e2, f2]
    exact h.f.dis l r p' q' hlr hp' hq'
  · obtain ⟨q, hq, e2⟩ := hv l p hp
    rw [e2]
    exact h.we l q hq
  · obtain ⟨q, hq, e2⟩ := hv l p hp
    rw [e2]
    exact h.wq l q hq

/-- A frame's words replaced by a row of new memory; its numbers by others. -/
theorem OwnMach.setNew {g m c i : Nat} {x x' : FrameD} {wv wv' : Value} (h : OwnMach base W (.slice (some ⟨g, 0, none⟩) m c) ev qv F E Q) (hm : F.length = m) (hx : F[i]? = some (x, wv))
    (hw : W.ownsRow base 3 1 wv' x'.words.length (intCells x'.words)) (hwf : Apart wv' (.slice (some ⟨g, 0, none⟩) m c)) (hwe : Apart wv' ev) (hwq : Apart wv' qv) (hws : ∀ (k : Nat) (p : FrameD × Value), F[k]? = some p → Apart wv' p.2) :
    OwnMach base ((((W.setCell ⟨g, i * 4, none⟩ (.int .i64 x'.owner)).setCell ⟨g, i * 4 + 1, none⟩ (.int .i64 x'.pl)).setCell ⟨g, i * 4 + 2, none⟩ (.int .i64 x'.rights)).setCell ⟨g, i * 4 + 3, none⟩ wv') (.slice (some ⟨g, 0, none⟩) m c) ev qv (F.set i (x', wv')) E Q := by
  subst hm
  have hlen : i < F.length := (List.getElem?_eq_some_iff.1 hx).1
  have hg : ∀ {v : Value}, Apart v (.slice (some ⟨g, 0, none⟩) F.length c) → NotAt v g := fun ha k hk e => ha k hk (by rw [e]; rfl)
  have h4 : ∀ {b e s : Nat} {v : Value} {n : Nat} {xs : List Value}, W.ownsRow b e s v n xs → NotAt v g → ((((W.setCell ⟨g, i * 4, none⟩ (.int .i64 x'.owner)).setCell ⟨g, i * 4 + 1, none⟩ (.int .i64 x'.pl)).setCell ⟨g, i * 4 + 2, none⟩ (.int .i64 x'.rights)).setCell ⟨g, i * 4 + 3, none⟩ wv').ownsRow b e s v n xs := fun ho hn =>
    ownsRow_setCell_ne (ownsRow_set3 ho hn _ _ _ _ _ _) (a := ⟨g, i * 4 + 3, none⟩) hn _
  have s0 := (h.f.row.stored (i * 4 + 0) (.int .i64 x'.owner)).1
  rw [flat_set fcs 4 fcs_len F i 0 (x, wv) ({ x with owner := x'.owner }, wv) _ hx (by decide) rfl] at s0
  have x1 : (F.set i ({ x with owner := x'.owner }, wv))[i]? = some ({ x with owner := x'.owner }, wv) := List.getElem?_set_self hlen
  have s1 := (s0.stored (i * 4 + 1) (.int .i64 x'.pl)).1
  rw [flat_set fcs 4 fcs_len _ i 1 _ ({ x with owner := x'.owner, pl := x'.pl }, wv) _ x1 (by decide) rfl, List.set_set] at s1
  have x2 : (F.set i ({ x with owner := x'.owner, pl := x'.pl }, wv))[i]? = some ({ x with owner := x'.owner, pl := x'.pl }, wv) := List.getElem?_set_self hlen
  have s2 := (s1.stored (i * 4 + 2) (.int .i64 x'.rights)).1
  rw [flat_set fcs 4 fcs_len _ i 2 _ ({ x with owner := x'.owner, pl := x'.pl, rights := x'.rights }, wv) _ x2 (by decide) rfl, List.set_set] at s2
  have x3 : (F.set i ({ x with owner := x'.owner, pl := x'.pl, rights := x'.rights }, wv))[i]? = some ({ x with owner := x'.owner, pl := x'.pl, rights := x'.rights }, wv) := List.getElem?_set_self hlen
  have s3 := (s2.stored (i * 4 + 3) wv').1
  rw [flat_set fcs 4 fcs_len _ i 3 _ (x', wv') _ x3 (by decide) rfl, List.set_set] at s3
  have hget : ∀ (l : Nat) (p : FrameD × Value), (F.set i (x', wv'))[l]? = some p → (i = l ∧ p = (x', wv')) ∨ (i ≠ l ∧ F[l]? = some p) := fun l p hp => by
    by_cases hk : i = l
    · subst hk
      rw [List.getElem?_set_self hlen] at hp
      exact .inl ⟨rfl, (Option.some.inj hp).symm⟩
    · rw [List.getElem?_set_ne hk] at hp
      exact .inr ⟨hk, hp⟩
  refine ⟨⟨by rw [List.length_set]; exact s3, fun l p hp => ?_, fun l r p q hlr hp hq => ?_⟩, h4 h.e (hg h.fe.symm), h4 h.q (hg h.fq.symm), h.fe, h.fq, h.eq, fun l p hp => ?_, fun l p hp => ?_⟩
  · rcases hget l p hp with ⟨rfl, rfl⟩ | ⟨_, hq⟩
    · exact ⟨h4 hw (hg hwf), hwf⟩
    · obtain ⟨h1, h2⟩ := h.f.sub l p hq
      exact ⟨h4 h1 (hg h2), h2⟩
  · rcases hget l p hp with ⟨rfl, rfl⟩ | ⟨_, hp'⟩ <;> rcases hget r q hq with ⟨rfl, rfl⟩ | ⟨_, hq'⟩
    · exact absurd rfl hlr
    · exact hws r q hq'
    · exact (hws l p hp').symm
    · exact h.f.dis l r p q hlr hp' hq'
  · rcases hget l p hp with ⟨rfl, rfl⟩ | ⟨_, hq⟩
    · exact hwe
    · exact h.we l p hq
  · rcases hget l p hp with ⟨rfl, rfl⟩ | ⟨_, hq⟩
    · exact hwq
    · exact h.wq l p hq

/-- What a row of enclaves holds, cell by cell. -/
theorem OwnMach.enclAt {g m c i : Nat} {x : EnclD} (h : OwnMach base W fv (.slice (some ⟨g, 0, none⟩) m c) qv F E Q) (hx : E[i]? = some x) :
    W.cell? ⟨g, i * 7, none⟩ = some (.int .i64 x.state) ∧ W.cell? ⟨g, i * 7 + 1, none⟩ = some (.string x.log) ∧ W.cell? ⟨g, i * 7 + 2, none⟩ = some (.int .i64 x.pc) ∧ W.cell? ⟨g, i * 7 + 3, none⟩ = some (.int .i64 x.r0) ∧
      W.cell? ⟨g, i * 7 + 4, none⟩ = some (.int .i64 x.r1) ∧ W.cell? ⟨g, i * 7 + 5, none⟩ = some (.int .i64 x.r2) ∧ W.cell? ⟨g, i * 7 + 6, none⟩ = some (.int .i64 x.r3) ∧ ∀ o, W.frozen? ⟨g, o, none⟩ = false := by
  have hm : m = E.length := by
    obtain ⟨_, ⟨e1, _⟩ | ⟨g', cap, cur, e1, _⟩⟩ := h.e
    · cases e1
    · cases e1; rfl
  subst hm
  have hl : i < E.length := (List.getElem?_eq_some_iff.1 hx).1
  have k := fun (j : Nat) (hj : j < 7) => (h.e.cellAt (i * 7 + j) (by omega)).trans (flat_get EnclD.cs 7 EnclD.cs_len E i j hj)
  rw [hx] at k
  exact ⟨k 0 (by decide), k 1 (by decide), k 2 (by decide), k 3 (by decide), k 4 (by decide), k 5 (by decide), k 6 (by decide), fun o => h.e.frozenAt o⟩
theorem OwnMach.frameAt {g m c i : Nat} {p : FrameD × Value} (h : OwnMach base W (.slice (some ⟨g, 0, none⟩) m c) ev qv F E Q) (hx : F[i]? = some p) :
    W.cell? ⟨g, i * 4, none⟩ = some (.int .i64 p.1.owner) ∧ W.cell? ⟨g, i * 4 + 1, none⟩ = some (.int .i64 p.1.pl) ∧ W.cell? ⟨g, i * 4 + 2, none⟩ = some (.int .i64 p.1.rights) ∧ W.cell? ⟨g, i * 4 + 3, none⟩ = some p.2 ∧ ∀ o, W.frozen? ⟨g, o, none⟩ = false := by
  have hm : m = F.length := by
    obtain ⟨_, ⟨e1, _⟩ | ⟨g', cap, cur, e1, _⟩⟩ := h.f.row
    · cases e1
    · cases e1; rfl
  subst hm
  have hl : i < F.length := (List.getElem?_eq_some_iff.1 hx).1
  have k := fun (j : Nat) (hj : j < 4) => (h.f.row.cellAt (i * 4 + j) (by omega)).trans (flat_get fcs 4 fcs_len F i j hj)
  rw [hx] at k
  exact ⟨k 0 (by decide), k 1 (by decide), k 2 (by decide), k 3 (by decide), fun o => h.f.row.frozenAt o⟩
theorem OwnMach.wordAt {g m c i k : Nat} {x : FrameD} {n : Int} (h : OwnMach base W fv ev qv F E Q) (hx : F[i]? = some (x, .slice (some ⟨g, 0, none⟩) m c)) (hk : x.words[k]? = some n) : W.cell? ⟨g, k, none⟩ = some (.int .i64 n) ∧ ∀ o, W.frozen? ⟨g, o, none⟩ = false := by
  obtain ⟨ho, _⟩ := h.f.sub i _ hx
  have hm : m = x.words.length := by
    obtain ⟨_, ⟨e1, _⟩ | ⟨g', cap, cur, e1, _⟩⟩ := ho
    · cases e1
    · exact (Value.slice.inj e1).2.1
  subst hm
  have hl : k < x.words.length := (List.getElem?_eq_some_iff.1 hk).1
  exact ⟨(ho.cellAt k (by omega)).trans (by simp [intCells, hk]), fun o => ho.frozenAt o⟩
/-- A row that is not empty has a block of its own. -/
theorem own_some {w : World} {e size n : Nat} {v : Value} {xs : List Value} (h : w.ownsRow base e size v n xs) (hn : 0 < n) : ∃ g c, v = .slice (some ⟨g, 0, none⟩) n c ∧ base ≤ g ∧ g < w.heap.size := by
  obtain ⟨_, ⟨_, e1⟩ | ⟨g, cap, cur, rfl, hb, hg, _⟩⟩ := h
  · omega
  · exact ⟨g, cap, rfl, hb, (Array.getElem?_eq_some_iff.1 hg).1⟩
theorem own_slice {w : World} {e size n : Nat} {v : Value} {xs : List Value} (h : w.ownsRow base e size v n xs) : ∃ a c, v = .slice a n c := by
  obtain ⟨a, c, rfl, _⟩ := CellsAt.of_own h
  exact ⟨a, c, rfl⟩
end

theorem map_set_fst (F : List (FrameD × Value)) (i : Nat) (x : FrameD) (v : Value) : (F.set i (x, v)).map Prod.fst = (F.map Prod.fst).set i x := by rw [List.map_set]

end Go.Proofs.YtklbbjionoeofaaGreatDoor
