/- Rows of structs in memory of the call's own, each with a row of ints of its own. Plain laws; no program is walked. -/
import Derived.Test.YtehhhliiehhdjaaDoorImage2
namespace Go.Proofs.YtehhhliiehhdjaaDoor
open Go.RowKit

/-- The cells of a slice literal of one element. -/
theorem news_new {W : World} {n : Nat} (hn : W.heap.size = n) (cs : Array Value) (t : TypeId) : ∀ j u, cs.toList[j]? = some u → (W.alloc (.cells cs t)).cell? ((⟨n, 0, none⟩ : Addr).add j) = some u := by
  subst hn
  exact World.news_of_block (heap_alloc_new _ _)
theorem below_alloc (W : World) (X : Obj) : Below W.heap.size W (W.alloc X) := (Below.refl _ _).alloc (Nat.le_refl _) X

structure OwnRows {α : Type} (fc : α × Value → List Value) (ws : α → List Int) (T k : Nat) (base : Nat) (W : World) (ov : Value) (F : List (α × Value)) : Prop where
  row : W.ownsRow base T k ov F.length (F.flatMap fc)
  sub : ∀ (i : Nat) (p : α × Value), F[i]? = some p → W.ownsRow base 3 1 p.2 (ws p.1).length (intCells (ws p.1)) ∧ Apart p.2 ov
  dis : ∀ (i j : Nat) (p q : α × Value), i ≠ j → F[i]? = some p → F[j]? = some q → Apart p.2 q.2

section
variable {α : Type} {fc : α × Value → List Value} {ws : α → List Int} {T k base : Nat} {W W' : World} {ov : Value} {F : List (α × Value)}
theorem OwnRows.nil : OwnRows fc ws T k base W (.slice none 0 0) [] :=
  ⟨World.ownsRow_nil _ _ _ _, fun i p h => by simp at h, fun i j p q _ h => by simp at h⟩
theorem OwnRows.below (h : OwnRows fc ws T k base W ov F) (hb : Below W.heap.size W W') : OwnRows fc ws T k base W' ov F :=
  ⟨ownsRow_below h.row hb, fun i p hp => ⟨ownsRow_below (h.sub i p hp).1 hb, (h.sub i p hp).2⟩, h.dis⟩
theorem OwnRows.mono {b' : Nat} (h : OwnRows fc ws T k base W ov F) (hb : b' ≤ base) : OwnRows fc ws T k b' W ov F :=
  ⟨ownsRow_mono h.row hb, fun i p hp => ⟨ownsRow_mono (h.sub i p hp).1 hb, (h.sub i p hp).2⟩, h.dis⟩
/-- An append of one more. -/
theorem OwnRows.push (h : OwnRows fc ws T k base W ov F) (x : α) (wv : Value) (hw : W.ownsRow base 3 1 wv (ws x).length (intCells (ws x))) (ho : Apart wv ov)
    (hf : ∀ (i : Nat) (p : α × Value), F[i]? = some p → Apart p.2 wv) {g n cap : Nat} (hrow : W'.ownsRow base T k (.slice (some ⟨g, 0, none⟩) n cap) n (F.flatMap fc ++ fc (x, wv))) (hn : n = F.length + 1)
    (hg : W.grownBy W' ov.ownBlock) (hat : ov.ownBlock = some g ∨ g = W.heap.size) : OwnRows fc ws T k base W' (.slice (some ⟨g, 0, none⟩) n cap) (F ++ [(x, wv)]) := by
  subst hn
  have hne : ∀ {e s : Nat} {v : Value} {m : Nat} {xs : List Value}, W.ownsRow base e s v m xs → Apart v ov → Apart v (.slice (some ⟨g, 0, none⟩) (F.length + 1) cap) := fun hv ha b hb hb' => by
    simp only [Value.ownBlock, Option.some.injEq] at hb'
    subst hb'
    rcases hat with hat | hat
    · exact ha g hb hat
    · have := (hv.lt g hb).2
      omega
  have hkeep : ∀ {e s : Nat} {v : Value} {m : Nat} {xs : List Value}, W.ownsRow base e s v m xs → Apart v ov → W'.ownsRow base e s v m xs := fun {e s v m xs} hv ha => hv.kept hg (by
    cases hvb : v.ownBlock with
    | none => exact .inl rfl
    | some b => exact .inr fun e => ha b hvb e.symm)
  have hget : ∀ (i : Nat) (p : α × Value), (F ++ [(x, wv)])[i]? = some p → (i < F.length ∧ F[i]? = some p) ∨ (i = F.length ∧ p = (x, wv)) := fun i p hp => by
    by_cases hi : i < F.length
    · rw [List.getElem?_append_left hi] at hp
      exact .inl ⟨hi, hp⟩
    · rw [List.getElem?_append_right (by omega)] at hp
      cases hk : i - F.length with
      | zero => rw [hk] at hp; simp only [List.getElem?_cons_zero, Option.some.injEq] at hp; exact .inr ⟨by omega, hp.symm⟩
      | succ k => rw [hk] at hp; simp at hp
  refine ⟨?_, fun i p hp => ?_, fun i j p q hij hp hq => ?_⟩
  · rw [List.length_append, List.flatMap_append]
    simpa using hrow
  · rcases hget i p hp with ⟨_, hp'⟩ | ⟨_, rfl⟩
    · obtain ⟨h1, h2⟩ := h.sub i p hp'
      exact ⟨hkeep h1 h2, hne h1 h2⟩
    · exact ⟨hkeep hw ho, hne hw ho⟩
  · rcases hget i p hp with ⟨hi, hp'⟩ | ⟨hi, rfl⟩ <;> rcases hget j q hq with ⟨hj, hq'⟩ | ⟨hj, rfl⟩
    · exact h.dis i j p q hij hp' hq'
    · exact hf i p hp'
    · exact (hf j q hq').symm
    · omega
/-- What is new is apart from what was there. -/
theorem OwnRows.apart_new (h : OwnRows fc ws T k base W ov F) {W1 : World} {b1 e s m : Nat} {v : Value} {xs : List Value} (hv : W1.ownsRow b1 e s v m xs) (hb : W.heap.size ≤ b1) : Apart v ov ∧ ∀ (i : Nat) (p : α × Value), F[i]? = some p → Apart p.2 v :=
  ⟨(apart_of_lt h.row hv hb).symm, fun i p hp => apart_of_lt (h.sub i p hp).1 hv hb⟩
end

abbrev OwnPages (base : Nat) (W : World) (ov : Value) (F : List (PageD × Value)) : Prop := OwnRows pcs PageD.words 52 3 base W ov F
abbrev OwnFrames (base : Nat) (W : World) (ov : Value) (F : List (FrameD × Value)) : Prop := OwnRows fcs FrameD.words 40 4 base W ov F

section
variable {w : World} {base : Nat} {ov : Value}
theorem OwnRows.pages {F : List (PageD × Value)} (h : OwnPages base w ov F) : ∃ a c, ov = .slice a F.length c ∧ PagesAt w a (F.map (·.1)) := by
  obtain ⟨a, c, rfl, hc⟩ := CellsAt.of_own h.row
  refine ⟨a, c, rfl, fun i x hx => ?_⟩
  simp only [List.getElem?_map, Option.map_eq_some_iff] at hx
  obtain ⟨p, hp, rfl⟩ := hx
  obtain ⟨wa, wc, hw, hwc⟩ := CellsAt.of_own (h.sub i p hp).1
  have g := fun j hj => flat_get pcs 3 pcs_len F i j hj
  obtain ⟨b, off, rfl, h0⟩ := hc (i * 3 + 0) (.int .i64 p.1.pl) (by rw [g 0 (by decide), hp]; rfl)
  have k := fun (j : Nat) (u : Value) (hu : (F.flatMap pcs)[i * 3 + j]? = some u) => (show (World.cell? w ⟨b, off + i * 3 + j, none⟩ = some u) from by
    obtain ⟨b1, off1, e1, h1⟩ := hc (i * 3 + j) u hu
    cases e1
    rw [Nat.add_assoc]; exact h1)
  exact ⟨b, off, wa, wc, rfl, h0, k 1 _ (by rw [g 1 (by decide), hp]; rfl), (k 2 _ (by rw [g 2 (by decide), hp]; rfl)).trans (by rw [hw]), hwc.ints⟩
theorem OwnRows.frames {F : List (FrameD × Value)} (h : OwnFrames base w ov F) : ∃ a c, ov = .slice a F.length c ∧ FramesAt w a (F.map (·.1)) := by
  obtain ⟨a, c, rfl, hc⟩ := CellsAt.of_own h.row
  refine ⟨a, c, rfl, fun i x hx => ?_⟩
  simp only [List.getElem?_map, Option.map_eq_some_iff] at hx
  obtain ⟨p, hp, rfl⟩ := hx
  obtain ⟨wa, wc, hw, hwc⟩ := CellsAt.of_own (h.sub i p hp).1
  have g := fun j hj => flat_get fcs 4 fcs_len F i j hj
  obtain ⟨b, off, rfl, h0⟩ := hc (i * 4 + 0) (.int .i64 p.1.owner) (by rw [g 0 (by decide), hp]; rfl)
  have k := fun (j : Nat) (u : Value) (hu : (F.flatMap fcs)[i * 4 + j]? = some u) => (show (World.cell? w ⟨b, off + i * 4 + j, none⟩ = some u) from by
    obtain ⟨b1, off1, e1, h1⟩ := hc (i * 4 + j) u hu
    cases e1
    rw [Nat.add_assoc]; exact h1)
  exact ⟨b, off, wa, wc, rfl, h0, k 1 _ (by rw [g 1 (by decide), hp]; rfl), k 2 _ (by rw [g 2 (by decide), hp]; rfl), (k 3 _ (by rw [g 3 (by decide), hp]; rfl)).trans (by rw [hw]), hwc.ints⟩
end

end Go.Proofs.YtehhhliiehhdjaaDoor
