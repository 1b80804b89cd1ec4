/- The memory of host.act: the host's box, the call's own boxes, what a machine and a challenger read as behind stores into them. Plain laws; no program is walked. -/
import Derived.Test.YtklbbjionoeofaaGreatDoorHostPlain
import Derived.Test.YtklbbjionoeofaaGreatDoorGc
import Derived.Test.YtklbbjionoeofaaGreatDoorCreate
namespace Go.Proofs.YtklbbjionoeofaaGreatDoor
open Go.RowKit

def ActD.v (a : ActD) : Value := .agg #[.int .i64 a.kind, .int .i64 a.e, .int .i64 a.f, .int .i64 a.pl, .int .i64 a.rights, .int .i64 a.n, .int .i64 a.fuel]

/-- Two worlds alike below n are so behind one store into both. -/
theorem below_set {n : Nat} {w W : World} (h : Below n w W) (p : Addr) (u : Value) : Below n (w.setCell p u) (W.setCell p u) := by
  refine ⟨h.os, h.tape, h.output, ?_, fun k hk => ?_⟩
  · have := h.size
    simp only [World.setCell, Array.size_modify]
    exact this
  · have := h.block k hk
    simp only [World.setCell, Array.getElem?_modify, this]

section
variable {W W' : World} {v : Value} {C : ChalD}
theorem ChalFrom.below {base : Nat} (h : ChalFrom base W v C) (hb : Below W.heap.size W W') : ChalFrom base W' v C := by
  obtain ⟨tv, nv, rfl, h1, h2⟩ := h
  exact ⟨tv, nv, rfl, ownsRow_below h1 hb, ownsRow_below h2 hb⟩
theorem ChalFrom.low {base : Nat} (h : ChalFrom base W v C) {a : Addr} (ha : a.block < base) (u : Value) : ChalFrom base (W.setCell a u) v C := by
  obtain ⟨tv, nv, rfl, h1, h2⟩ := h
  exact ⟨tv, nv, rfl, ownsRow_setCell_below h1 ha u, ownsRow_setCell_below h2 ha u⟩
theorem ChalFrom.mono {base b' : Nat} (h : ChalFrom base W v C) (hb : b' ≤ base) : ChalFrom b' W v C := by
  obtain ⟨tv, nv, rfl, h1, h2⟩ := h
  exact ⟨tv, nv, rfl, ownsRow_mono h1 hb, ownsRow_mono h2 hb⟩
end
/-- A block of cells of the type t. -/
def BlkT (W : World) (B : Nat) (t : TypeId) : Prop := ∃ cs fr, W.heap[B]? = some (.cells cs t fr)
theorem BlkT.below {W W' : World} {B : Nat} {t : TypeId} (h : BlkT W B t) (hb : Below W.heap.size W W') : BlkT W' B t := by
  obtain ⟨cs, fr, h⟩ := h
  exact ⟨cs, fr, (hb.block B (Array.getElem?_eq_some_iff.1 h).1).trans h⟩
theorem BlkT.set {W : World} {B : Nat} {t : TypeId} (h : BlkT W B t) (p : Addr) (u : Value) : BlkT (W.setCell p u) B t := by
  obtain ⟨cs, fr, h⟩ := h
  by_cases hp : p.block = B
  · subst hp
    refine ⟨if p.spot.isSome then cs else cs.setIfInBounds p.off u, fr, ?_⟩
    simp only [World.setCell, Array.getElem?_modify, if_true, h, Option.map_some]
  · exact ⟨cs, fr, (Below.heap_setCell _ _ _ _ (fun e => hp e.symm)).trans h⟩
theorem BlkT.new {W : World} {n : Nat} (hn : W.heap.size = n) (cs : Array Value) (t : TypeId) : BlkT (W.alloc (.cells cs t)) n t := by
  subst hn
  exact ⟨cs, _, heap_alloc_new _ _⟩
/-- What is owned lies in blocks of its own element type. -/
theorem own_type {w : World} {base : Nat} {e : TypeId} {size : Nat} {v : Value} {n : Nat} {xs : List Value} (h : w.ownsRow base e size v n xs) {B : Nat} {t : TypeId} (hB : BlkT w B t) (ht : e ≠ t) : NotAt v B := by
  intro k hk e'
  subst e'
  obtain ⟨_, ⟨h1, h2⟩ | ⟨g, cap, cur, h3, h4, h5, h6⟩⟩ := h
  · subst h1
    simp [Value.ownBlock] at hk
  · subst h3
    simp only [Value.ownBlock, Option.some.injEq] at hk
    subst hk
    obtain ⟨cs, fr, h7⟩ := hB
    rw [h5] at h7
    cases h7
    exact ht rfl
section
variable {w w' : World} {base B : Nat} {t : TypeId} {v : Value} {M : MachD} {C : ChalD}
theorem MachFrom.setT (h : MachFrom base w v M) (hB : BlkT w B t) (h1 : 73 ≠ t) (h2 : 77 ≠ t) (h3 : 71 ≠ t) (h4 : 3 ≠ t) (o : Nat) (u : Value) : MachFrom base (w.setCell ⟨B, o, none⟩ u) v M := by
  obtain ⟨fv, ev, qv, F, rfl, hF, hO⟩ := h
  exact ⟨fv, ev, qv, F, rfl, hF, hO.setCell (a := ⟨B, o, none⟩) (own_type hO.f.row hB h1) (own_type hO.e hB h2) (own_type hO.q hB h3) (fun i p hp => own_type (hO.f.sub i p hp).1 hB h4) u⟩
theorem ChalFrom.setT (h : ChalFrom base w v C) (hB : BlkT w B t) (h1 : 9 ≠ t) (h2 : 3 ≠ t) (o : Nat) (u : Value) : ChalFrom base (w.setCell ⟨B, o, none⟩ u) v C := by
  obtain ⟨tv, nv, rfl, k1, k2⟩ := h
  exact ⟨tv, nv, rfl, ownsRow_setCell_ne k1 (a := ⟨B, o, none⟩) (own_type k1 hB h1) u, ownsRow_setCell_ne k2 (a := ⟨B, o, none⟩) (own_type k2 hB h2) u⟩
theorem own_grownT {e size n : Nat} {xs : List Value} (h : w.ownsRow base e size v n xs) (hB : BlkT w B t) (h1 : e ≠ t) (hg : w.grownBy w' (some B)) : w'.ownsRow base e size v n xs :=
  h.kept hg (by
    cases hv : v.ownBlock with
    | none => exact .inl rfl
    | some k => exact .inr fun e => own_type h hB h1 k hv (Option.some.inj e))
theorem MachFrom.grownT (h : MachFrom base w v M) (hB : BlkT w B t) (h1 : 73 ≠ t) (h2 : 77 ≠ t) (h3 : 71 ≠ t) (h4 : 3 ≠ t) (hg : w.grownBy w' (some B)) : MachFrom base w' v M := by
  obtain ⟨fv, ev, qv, F, rfl, hF, hO⟩ := h
  exact ⟨fv, ev, qv, F, rfl, hF, ⟨own_grownT hO.f.row hB h1 hg, fun i p hp => ⟨own_grownT (hO.f.sub i p hp).1 hB h4 hg, (hO.f.sub i p hp).2⟩, hO.f.dis⟩, own_grownT hO.e hB h2 hg, own_grownT hO.q hB h3 hg, hO.fe, hO.fq, hO.eq, hO.we, hO.wq⟩
theorem ChalFrom.grownT (h : ChalFrom base w v C) (hB : BlkT w B t) (h1 : 9 ≠ t) (h2 : 3 ≠ t) (hg : w.grownBy w' (some B)) : ChalFrom base w' v C := by
  obtain ⟨tv, nv, rfl, k1, k2⟩ := h
  exact ⟨tv, nv, rfl, own_grownT k1 hB h1 hg, own_grownT k2 hB h2 hg⟩
end
/-- The host's box; its machine and its challenger lie in memory of their own. -/
structure HostSt (B : Nat) (fa : Option Addr) (fc : Nat) (ea : Option Addr) (ec : Nat) (qa : Option Addr) (qc : Nat) (ta : Option Addr) (tc : Nat) (na : Option Addr) (nc : Nat) (h : HostD) (W : World) : Prop where
  c0 : W.cell? ⟨B, 0, none⟩ = some (.slice fa h.m.frames.length fc)
  c1 : W.cell? ⟨B, 1, none⟩ = some (.slice ea h.m.encl.length ec)
  c2 : W.cell? ⟨B, 2, none⟩ = some (.slice qa h.m.quotes.length qc)
  c3 : W.cell? ⟨B, 3, none⟩ = some (.slice ta h.c.trusts.length tc)
  c4 : W.cell? ⟨B, 4, none⟩ = some (.slice na h.c.nonces.length nc)
  cz : ∀ o, W.frozen? ⟨B, o, none⟩ = false
  bt : BlkT W B 45
  m : MachFrom 0 W (.agg #[.slice fa h.m.frames.length fc, .slice ea h.m.encl.length ec, .slice qa h.m.quotes.length qc]) h.m
  c : ChalFrom 0 W (.agg #[.slice ta h.c.trusts.length tc, .slice na h.c.nonces.length nc]) h.c
def HostAt (B : Nat) (h : HostD) (W : World) : Prop := ∃ fa fc ea ec qa qc ta tc na nc, HostSt B fa fc ea ec qa qc ta tc na nc h W
section
variable {B : Nat} {fa ea qa ta na : Option Addr} {fc ec qc tc nc : Nat} {h : HostD} {W W' : World}
theorem HostSt.lt (H : HostSt B fa fc ea ec qa qc ta tc na nc h W) : B < W.heap.size := World.block_lt_of_cell? W _ H.c0
theorem HostSt.later (H : HostSt B fa fc ea ec qa qc ta tc na nc h W) (hb : Below W.heap.size W W') : HostSt B fa fc ea ec qa qc ta tc na nc h W' :=
  ⟨cell_later hb H.c0, cell_later hb H.c1, cell_later hb H.c2, cell_later hb H.c3, cell_later hb H.c4, fun o => by rw [(bcell hb).2 _ _ H.lt]; exact H.cz o, H.bt.below hb, H.m.below hb, H.c.below hb⟩
theorem HostAt.later (H : HostAt B h W) (hb : Below W.heap.size W W') : HostAt B h W' := by
  obtain ⟨fa, fc, ea, ec, qa, qc, ta, tc, na, nc, H⟩ := H
  exact ⟨fa, fc, ea, ec, qa, qc, ta, tc, na, nc, H.later hb⟩
end

/-- A machine that was there when the call began, or one that lies above the call's own boxes. -/
def MachHeld (w : World) (top : Nat) (W : World) (v : Value) (M : MachD) : Prop := MachFrom top W v M ∨ (MachFrom 0 w v M ∧ Below w.heap.size w W)
def ChalHeld (w : World) (top : Nat) (W : World) (v : Value) (C : ChalD) : Prop := ChalFrom top W v C ∨ (ChalFrom 0 w v C ∧ Below w.heap.size w W)
section
variable {w W W' : World} {top : Nat} {v : Value} {M : MachD} {C : ChalD}
theorem MachHeld.from0 (h : MachHeld w top W v M) : MachFrom 0 W v M := by
  rcases h with h | ⟨h, hb⟩
  · exact h.mono (Nat.zero_le _)
  · exact h.below hb
theorem ChalHeld.from0 (h : ChalHeld w top W v C) : ChalFrom 0 W v C := by
  rcases h with h | ⟨h, hb⟩
  · exact h.mono (Nat.zero_le _)
  · exact h.below hb
theorem MachHeld.at (h : MachHeld w top W v M) : MachAt W v M := h.from0.at
theorem ChalHeld.at (h : ChalHeld w top W v C) : ChalAt W v C := h.from0.at
theorem MachHeld.later (h : MachHeld w top W v M) (hw : w.heap.size ≤ W.heap.size) (hb : Below W.heap.size W W') : MachHeld w top W' v M := by
  rcases h with h | ⟨h, hb0⟩
  · exact .inl (h.below hb)
  · exact .inr ⟨h, hb0.trans (hb.mono hw)⟩
theorem ChalHeld.later (h : ChalHeld w top W v C) (hw : w.heap.size ≤ W.heap.size) (hb : Below W.heap.size W W') : ChalHeld w top W' v C := by
  rcases h with h | ⟨h, hb0⟩
  · exact .inl (h.below hb)
  · exact .inr ⟨h, hb0.trans (hb.mono hw)⟩
theorem MachHeld.set (h : MachHeld w top W v M) {a : Addr} (h1 : w.heap.size ≤ a.block) (h2 : a.block < top) (u : Value) : MachHeld w top (W.setCell a u) v M := by
  rcases h with h | ⟨h, hb0⟩
  · exact .inl (h.low h2 u)
  · exact .inr ⟨h, hb0.setCell h1 u⟩
theorem ChalHeld.set (h : ChalHeld w top W v C) {a : Addr} (h1 : w.heap.size ≤ a.block) (h2 : a.block < top) (u : Value) : ChalHeld w top (W.setCell a u) v C := by
  rcases h with h | ⟨h, hb0⟩
  · exact .inl (h.low h2 u)
  · exact .inr ⟨h, hb0.setCell h1 u⟩
theorem MachFrom.set5T {base B : Nat} (h : MachFrom base W v M) (hB : BlkT W B 45) (u0 u1 u2 u3 u4 : Value) :
    MachFrom base (((((W.setCell ⟨B, 0, none⟩ u0).setCell ⟨B, 1, none⟩ u1).setCell ⟨B, 2, none⟩ u2).setCell ⟨B, 3, none⟩ u3).setCell ⟨B, 4, none⟩ u4) v M := by
  have g : ∀ {X : World} (o : Nat) (u : Value), MachFrom base X v M ∧ BlkT X B 45 → MachFrom base (X.setCell ⟨B, o, none⟩ u) v M ∧ BlkT (X.setCell ⟨B, o, none⟩ u) B 45 := fun o u hx => ⟨hx.1.setT hx.2 (by decide) (by decide) (by decide) (by decide) o u, hx.2.set _ _⟩
  exact (g 4 u4 (g 3 u3 (g 2 u2 (g 1 u1 (g 0 u0 ⟨h, hB⟩))))).1
theorem ChalFrom.set5T {base B : Nat} (h : ChalFrom base W v C) (hB : BlkT W B 45) (u0 u1 u2 u3 u4 : Value) :
    ChalFrom base (((((W.setCell ⟨B, 0, none⟩ u0).setCell ⟨B, 1, none⟩ u1).setCell ⟨B, 2, none⟩ u2).setCell ⟨B, 3, none⟩ u3).setCell ⟨B, 4, none⟩ u4) v C := by
  have g : ∀ {X : World} (o : Nat) (u : Value), ChalFrom base X v C ∧ BlkT X B 45 → ChalFrom base (X.setCell ⟨B, o, none⟩ u) v C ∧ BlkT (X.setCell ⟨B, o, none⟩ u) B 45 := fun o u hx => ⟨hx.1.setT hx.2 (by decide) (by decide) o u, hx.2.set _ _⟩
  exact (g 4 u4 (g 3 u3 (g 2 u2 (g 1 u1 (g 0 u0 ⟨h, hB⟩))))).1
theorem BlkT.set5 {B : Nat} {t : TypeId} (h : BlkT W B t) (u0 u1 u2 u3 u4 : Value) : BlkT (((((W.setCell ⟨B, 0, none⟩ u0).setCell ⟨B, 1, none⟩ u1).setCell ⟨B, 2, none⟩ u2).setCell ⟨B, 3, none⟩ u3).setCell ⟨B, 4, none⟩ u4) B t :=
  ((((h.set _ _).set _ _).set _ _).set _ _).set _ _
theorem MachFrom.low5 {base B : Nat} (h : MachFrom base W v M) (hB : B < base) (u0 u1 u2 u3 u4 : Value) :
    MachFrom base (((((W.setCell ⟨B, 0, none⟩ u0).setCell ⟨B, 1, none⟩ u1).setCell ⟨B, 2, none⟩ u2).setCell ⟨B, 3, none⟩ u3).setCell ⟨B, 4, none⟩ u4) v M :=
  ((((h.low (a := ⟨B, 0, none⟩) hB u0).low (a := ⟨B, 1, none⟩) hB u1).low (a := ⟨B, 2, none⟩) hB u2).low (a := ⟨B, 3, none⟩) hB u3).low (a := ⟨B, 4, none⟩) hB u4
theorem ChalFrom.low5 {base B : Nat} (h : ChalFrom base W v C) (hB : B < base) (u0 u1 u2 u3 u4 : Value) :
    ChalFrom base (((((W.setCell ⟨B, 0, none⟩ u0).setCell ⟨B, 1, none⟩ u1).setCell ⟨B, 2, none⟩ u2).setCell ⟨B, 3, none⟩ u3).setCell ⟨B, 4, none⟩ u4) v C :=
  ((((h.low (a := ⟨B, 0, none⟩) hB u0).low (a := ⟨B, 1, none⟩) hB u1).low (a := ⟨B, 2, none⟩) hB u2).low (a := ⟨B, 3, none⟩) hB u3).low (a := ⟨B, 4, none⟩) hB u4
end

/-- The act, in its box. -/
structure ArgSt (w : World) (a : ActD) (W : World) : Prop where
  a0 : W.cell? ⟨w.heap.size, 0, none⟩ = some (.int .i64 a.kind)
  a1 : W.cell? ⟨w.heap.size, 1, none⟩ = some (.int .i64 a.e)
  a2 : W.cell? ⟨w.heap.size, 2, none⟩ = some (.int .i64 a.f)
  a3 : W.cell? ⟨w.heap.size, 3, none⟩ = some (.int .i64 a.pl)
  a4 : W.cell? ⟨w.heap.size, 4, none⟩ = some (.int .i64 a.rights)
  a5 : W.cell? ⟨w.heap.size, 5, none⟩ = some (.int .i64 a.n)
  a6 : W.cell? ⟨w.heap.size, 6, none⟩ = some (.int .i64 a.fuel)
theorem ArgSt.later {w W W' : World} {a : ActD} (h : ArgSt w a W) (hb : Below W.heap.size W W') : ArgSt w a W' :=
  ⟨cell_later hb h.a0, cell_later hb h.a1, cell_later hb h.a2, cell_later hb h.a3, cell_later hb h.a4, cell_later hb h.a5, cell_later hb h.a6⟩
/-- Ahead of the first region that draws. -/
structure PreSt (w : World) (W : World) : Prop where
  below : Below w.heap.size w W
  sz : w.heap.size + 1 < W.heap.size
  r0 : W.cell? ⟨w.heap.size + 1, 0, none⟩ = some (.int .i64 0)
  r1 : W.cell? ⟨w.heap.size + 1, 1, none⟩ = some (.int .i64 0)
  rz : ∀ o, W.frozen? ⟨w.heap.size + 1, o, none⟩ = false
theorem PreSt.later {w W W' : World} (h : PreSt w W) (hb : Below W.heap.size W W') : PreSt w W' :=
  ⟨h.below.trans (hb.mono h.below.size), Nat.lt_of_lt_of_le h.sz hb.size, cell_later hb h.r0, cell_later hb h.r1, fun o => by rw [(bcell hb).2 _ _ h.sz]; exact h.rz o⟩
/-- An old cell behind one new block, and two. -/
theorem cell_new1 {W : World} {b o : Nat} {v : Value} (h : W.cell? ⟨b, o, none⟩ = some v) : ∀ X, (W.alloc X).cell? ⟨b, o, none⟩ = some v := fun _ => cell_later (below_alloc _ _) h
theorem cell_new2 {W : World} {b o : Nat} {v : Value} (h : W.cell? ⟨b, o, none⟩ = some v) : ∀ X Y, ((W.alloc X).alloc Y).cell? ⟨b, o, none⟩ = some v := fun _ _ => cell_later (below_alloc _ _) (cell_later (below_alloc _ _) h)
/-- m and c in their boxes. -/
structure TwoSt (w : World) (mb cb : Nat) (mv0 mv1 mv2 cv0 cv1 : Value) (W : World) : Prop where
  bm : w.heap.size + 1 < mb ∧ mb < W.heap.size
  bc : w.heap.size + 1 < cb ∧ cb < W.heap.size
  mc : mb ≠ cb
  m0 : W.cell? ⟨mb, 0, none⟩ = some mv0
  m1 : W.cell? ⟨mb, 1, none⟩ = some mv1
  m2 : W.cell? ⟨mb, 2, none⟩ = some mv2
  mz : ∀ o, W.frozen? ⟨mb, o, none⟩ = false
  c0 : W.cell? ⟨cb, 0, none⟩ = some cv0
  c1 : W.cell? ⟨cb, 1, none⟩ = some cv1
  cz : ∀ o, W.frozen? ⟨cb, o, none⟩ = false
theorem TwoSt.later {w W W' : World} {mb cb : Nat} {mv0 mv1 mv2 cv0 cv1 : Value} (h : TwoSt w mb cb mv0 mv1 mv2 cv0 cv1 W) (hb : Below W.heap.size W W') : TwoSt w mb cb mv0 mv1 mv2 cv0 cv1 W' :=
  ⟨⟨h.bm.1, Nat.lt_of_lt_of_le h.bm.2 hb.size⟩, ⟨h.bc.1, Nat.lt_of_lt_of_le h.bc.2 hb.size⟩, h.mc, cell_later hb h.m0, cell_later hb h.m1, cell_later hb h.m2, fun o => by rw [(bcell hb).2 _ _ h.bm.2]; exact h.mz o,
    cell_later hb h.c0, cell_later hb h.c1, fun o => by rw [(bcell hb).2 _ _ h.bc.2]; exact h.cz o⟩
theorem TwoSt.mc' {w W : World} {mv0 mv1 mv2 cv0 cv1 : Value} (h : PreSt w W) (t t' : TypeId) : TwoSt w W.heap.size (W.heap.size + 1) mv0 mv1 mv2 cv0 cv1 ((W.alloc (.cells #[mv0, mv1, mv2] t)).alloc (.cells #[cv0, cv1] t')) := by
  have := h.sz
  exact ⟨⟨by omega, by go_size⟩, ⟨by omega, by go_size⟩, by omega, by go_simp, by go_simp, by go_simp, fun o => by go_simp, by go_simp, by go_simp, fun o => by go_simp⟩
theorem TwoSt.cm' {w W : World} {mv0 mv1 mv2 cv0 cv1 : Value} (h : PreSt w W) (t t' : TypeId) : TwoSt w (W.heap.size + 1) W.heap.size mv0 mv1 mv2 cv0 cv1 ((W.alloc (.cells #[cv0, cv1] t')).alloc (.cells #[mv0, mv1, mv2] t)) := by
  have := h.sz
  exact ⟨⟨by omega, by go_size⟩, ⟨by omega, by go_size⟩, by omega, by go_simp, by go_simp, by go_simp, fun o => by go_simp, by go_simp, by go_simp, fun o => by go_simp⟩

/-- The call's boxes: m at mb, c at cb, the answer at ob, the outcome at ub; the result's at w.heap.size + 1. -/
structure ActSt (w : World) (mb cb ob ub top : Nat) (mv0 mv1 mv2 cv0 cv1 : Value) (M : MachD) (C : ChalD) (code n oe ov : Int) (W : World) : Prop where
  below : Below w.heap.size w W
  tl : top ≤ W.heap.size
  bm : w.heap.size + 1 < mb ∧ mb < top
  bc : w.heap.size + 1 < cb ∧ cb < top
  bo : w.heap.size + 1 < ob ∧ ob < top
  bu : w.heap.size + 1 < ub ∧ ub < top
  mc : mb ≠ cb
  mo : mb ≠ ob
  mu : mb ≠ ub
  co : cb ≠ ob
  cu : cb ≠ ub
  ou : ob ≠ ub
  r0 : W.cell? ⟨w.heap.size + 1, 0, none⟩ = some (.int .i64 0)
  r1 : W.cell? ⟨w.heap.size + 1, 1, none⟩ = some (.int .i64 0)
  rz : ∀ o, W.frozen? ⟨w.heap.size + 1, o, none⟩ = false
  m0 : W.cell? ⟨mb, 0, none⟩ = some mv0
  m1 : W.cell? ⟨mb, 1, none⟩ = some mv1
  m2 : W.cell? ⟨mb, 2, none⟩ = some mv2
  mz : ∀ o, W.frozen? ⟨mb, o, none⟩ = false
  c0 : W.cell? ⟨cb, 0, none⟩ = some cv0
  c1 : W.cell? ⟨cb, 1, none⟩ = some cv1
  cz : ∀ o, W.frozen? ⟨cb, o, none⟩ = false
  o0 : W.cell? ⟨ob, 0, none⟩ = some (.int .i64 code)
  o1 : W.cell? ⟨ob, 1, none⟩ = some (.int .i64 n)
  oz : ∀ o, W.frozen? ⟨ob, o, none⟩ = false
  u0 : W.cell? ⟨ub, 0, none⟩ = some (.int .i64 oe)
  u1 : W.cell? ⟨ub, 1, none⟩ = some (.int .i64 ov)
  uz : ∀ o, W.frozen? ⟨ub, o, none⟩ = false
  mok : MachHeld w top W (.agg #[mv0, mv1, mv2]) M
  cok : ChalHeld w top W (.agg #[cv0, cv1]) C
section
variable {w W W' : World} {mb cb ob ub top : Nat} {mv0 mv1 mv2 cv0 cv1 : Value} {M : MachD} {C : ChalD} {code n oe ov : Int} {t t' : TypeId}
/-- The answer and the outcome in new boxes. -/
theorem ActSt.start (h : PreSt w W) (h2 : TwoSt w mb cb mv0 mv1 mv2 cv0 cv1 W) (hM : MachHeld w (W.heap.size + 2) ((W.alloc (.cells #[.int .i64 0, .int .i64 0] t)).alloc (.cells #[.int .i64 0, .int .i64 0] t')) (.agg #[mv0, mv1, mv2]) M)
    (hC : ChalHeld w (W.heap.size + 2) ((W.alloc (.cells #[.int .i64 0, .int .i64 0] t)).alloc (.cells #[.int .i64 0, .int .i64 0] t')) (.agg #[cv0, cv1]) C) :
    ActSt w mb cb W.heap.size (W.heap.size + 1) (W.heap.size + 2) mv0 mv1 mv2 cv0 cv1 M C 0 0 0 0 ((W.alloc (.cells #[.int .i64 0, .int .i64 0] t)).alloc (.cells #[.int .i64 0, .int .i64 0] t')) := by
  have hb : Below W.heap.size W ((W.alloc (.cells #[.int .i64 0, .int .i64 0] t)).alloc (.cells #[.int .i64 0, .int .i64 0] t')) := by go_grown
  have k := h.later hb
  have k2 := h2.later hb
  have z := h.sz
  have z1 := h2.bm
  have z2 := h2.bc
  exact ⟨k.below, by go_size, ⟨z1.1, by omega⟩, ⟨z2.1, by omega⟩, ⟨by omega, by omega⟩, ⟨by omega, by omega⟩, h2.mc, by omega, by omega, by omega, by omega, by omega, k.r0, k.r1, k.rz, k2.m0, k2.m1, k2.m2, k2.mz, k2.c0, k2.c1, k2.cz,
    by go_simp, by go_simp, fun o => by go_simp, by go_simp, by go_simp, fun o => by go_simp, hM, hC⟩
theorem ActSt.later (h : ActSt w mb cb ob ub top mv0 mv1 mv2 cv0 cv1 M C code n oe ov W) (hb : Below W.heap.size W W') : ActSt w mb cb ob ub top mv0 mv1 mv2 cv0 cv1 M C code n oe ov W' := by
  have hz := h.below.size
  have ht := h.tl
  have h1 := h.bm
  have h2 := h.bc
  have h3 := h.bo
  have h4 := h.bu
  exact ⟨h.below.trans (hb.mono hz), Nat.le_trans ht hb.size, h.bm, h.bc, h.bo, h.bu, h.mc, h.mo, h.mu, h.co, h.cu, h.ou, cell_later hb h.r0, cell_later hb h.r1, fun o => by rw [(bcell hb).2 _ _ (by omega)]; exact h.rz o,
    cell_later hb h.m0, cell_later hb h.m1, cell_later hb h.m2, fun o => by rw [(bcell hb).2 _ _ (by omega)]; exact h.mz o, cell_later hb h.c0, cell_later hb h.c1, fun o => by rw [(bcell hb).2 _ _ (by omega)]; exact h.cz o,
    cell_later hb h.o0, cell_later hb h.o1, fun o => by rw [(bcell hb).2 _ _ (by omega)]; exact h.oz o, cell_later hb h.u0, cell_later hb h.u1, fun o => by rw [(bcell hb).2 _ _ (by omega)]; exact h.uz o, h.mok.later hz hb, h.cok.later hz hb⟩
theorem ArgSt.set {a : ActD} (h : ArgSt w a W) {b : Nat} (hb : b ≠ w.heap.size) (o : Nat) (u : Value) : ArgSt w a (W.setCell ⟨b, o, none⟩ u) := by
  have hb' := hb.symm
  exact ⟨by rw [far_set hb']; exact h.a0, by rw [far_set hb']; exact h.a1, by rw [far_set hb']; exact h.a2, by rw [far_set hb']; exact h.a3, by rw [far_set hb']; exact h.a4, by rw [far_set hb']; exact h.a5, by rw [far_set hb']; exact h.a6⟩
theorem ActSt.setM (h : ActSt w mb cb ob ub top mv0 mv1 mv2 cv0 cv1 M C code n oe ov W) {x0 x1 x2 : Value} {M' : MachD} (hM : MachHeld w top W (.agg #[x0, x1, x2]) M') :
    ActSt w mb cb ob ub top x0 x1 x2 cv0 cv1 M' C code n oe ov (((W.setCell ⟨mb, 0, none⟩ x0).setCell ⟨mb, 1, none⟩ x1).setCell ⟨mb, 2, none⟩ x2) := by
  have hbl := h.below
  have ht := h.tl
  have h1 := h.bm
  have h2 := h.bc
  have h3 := h.bo
  have h4 := h.bu
  have e1 := h.mc
  have e2 := h.mo
  have e3 := h.mu
  have e4 := h.co
  have e5 := h.cu
  have e6 := h.ou
  have e1' := e1.symm
  have e2' := e2.symm
  have e3' := e3.symm
  have e4' := e4.symm
  have e5' := e5.symm
  have e6' := e6.symm
  have r0 := h.r0
  have r1 := h.r1
  have rz := h.rz
  have m0 := h.m0
  have m1 := h.m1
  have m2 := h.m2
  have mz := h.mz
  have c0 := h.c0
  have c1 := h.c1
  have cz := h.cz
  have o0 := h.o0
  have o1 := h.o1
  have oz := h.oz
  have u0 := h.u0
  have u1 := h.u1
  have uz := h.uz
  have d1 : w.heap.size + 1 ≠ mb := by omega
  have d2 : w.heap.size + 1 ≠ cb := by omega
  have d3 : w.heap.size + 1 ≠ ob := by omega
  have d4 : w.heap.size + 1 ≠ ub := by omega
  have d1' := d1.symm
  have d2' := d2.symm
  have d3' := d3.symm
  have d4' := d4.symm
  exact ⟨below_low3 hbl (by omega) _ _ _, by simpa [World.setCell] using ht, h1, h2, h3, h4, e1, e2, e3, e4, e5, e6, by go_simp, by go_simp, fun o => by go_simp, by go_simp, by go_simp, by go_simp, fun o => by go_simp, by go_simp, by go_simp, fun o => by go_simp,
    by go_simp, by go_simp, fun o => by go_simp, by go_simp, by go_simp, fun o => by go_simp, ((hM.set (a := ⟨mb, 0, none⟩) (by simp only; omega) h1.2 _).set (a := ⟨mb, 1, none⟩) (by simp only; omega) h1.2 _).set (a := ⟨mb, 2, none⟩) (by simp only; omega) h1.2 _,
    ((h.cok.set (a := ⟨mb, 0, none⟩) (by simp only; omega) h1.2 _).set (a := ⟨mb, 1, none⟩) (by simp only; omega) h1.2 _).set (a := ⟨mb, 2, none⟩) (by simp only; omega) h1.2 _⟩
theorem ActSt.setC (h : ActSt w mb cb ob ub top mv0 mv1 mv2 cv0 cv1 M C code n oe ov W) {x0 x1 : Value} {C' : ChalD} (hC : ChalHeld w top W (.agg #[x0, x1]) C') :
    ActSt w mb cb ob ub top mv0 mv1 mv2 x0 x1 M C' code n oe ov ((W.setCell ⟨cb, 0, none⟩ x0).setCell ⟨cb, 1, none⟩ x1) := by
  have hbl := h.below
  have ht := h.tl
  have h1 := h.bm
  have h2 := h.bc
  have h3 := h.bo
  have h4 := h.bu
  have e1 := h.mc
  have e2 := h.mo
  have e3 := h.mu
  have e4 := h.co
  have e5 := h.cu
  have e6 := h.ou
  have e1' := e1.symm
  have e2' := e2.symm
  have e3' := e3.symm
  have e4' := e4.symm
  have e5' := e5.symm
  have e6' := e6.symm
  have r0 := h.r0
  have r1 := h.r1
  have rz := h.rz
  have m0 := h.m0
  have m1 := h.m1
  have m2 := h.m2
  have mz := h.mz
  have c0 := h.c0
  have c1 := h.c1
  have cz := h.cz
  have o0 := h.o0
  have o1 := h.o1
  have oz := h.oz
  have u0 := h.u0
  have u1 := h.u1
  have uz := h.uz
  have d1 : w.heap.size + 1 ≠ mb := by omega
  have d2 : w.heap.size + 1 ≠ cb := by omega
  have d3 : w.heap.size + 1 ≠ ob := by omega
  have d4 : w.heap.size + 1 ≠ ub := by omega
  have d1' := d1.symm
  have d2' := d2.symm
  have d3' := d3.symm
  have d4' := d4.symm
  exact ⟨below_low2 hbl (by omega) _ _, by simpa [World.setCell] using ht, h1, h2, h3, h4, e1, e2, e3, e4, e5, e6, by go_simp, by go_simp, fun o => by go_simp, by go_simp, by go_simp, by go_simp, fun o => by go_simp, by go_simp, by go_simp, fun o => by go_simp,
    by go_simp, by go_simp, fun o => by go_simp, by go_simp, by go_simp, fun o => by go_simp, (h.mok.set (a := ⟨cb, 0, none⟩) (by simp only; omega) h2.2 _).set (a := ⟨cb, 1, none⟩) (by simp only; omega) h2.2 _,
    (hC.set (a := ⟨cb, 0, none⟩) (by simp only; omega) h2.2 _).set (a := ⟨cb, 1, none⟩) (by simp only; omega) h2.2 _⟩
theorem ActSt.setN (h : ActSt w mb cb ob ub top mv0 mv1 mv2 cv0 cv1 M C code n oe ov W) (k : Int) : ActSt w mb cb ob ub top mv0 mv1 mv2 cv0 cv1 M C code k oe ov (W.setCell ⟨ob, 1, none⟩ (.int .i64 k)) := by
  have hbl := h.below
  have ht := h.tl
  have h1 := h.bm
  have h2 := h.bc
  have h3 := h.bo
  have h4 := h.bu
  have e1 := h.mc
  have e2 := h.mo
  have e3 := h.mu
  have e4 := h.co
  have e5 := h.cu
  have e6 := h.ou
  have e1' := e1.symm
  have e2' := e2.symm
  have e3' := e3.symm
  have e4' := e4.symm
  have e5' := e5.symm
  have e6' := e6.symm
  have r0 := h.r0
  have r1 := h.r1
  have rz := h.rz
  have m0 := h.m0
  have m1 := h.m1
  have m2 := h.m2
  have mz := h.mz
  have c0 := h.c0
  have c1 := h.c1
  have cz := h.cz
  have o0 := h.o0
  have o1 := h.o1
  have oz := h.oz
  have u0 := h.u0
  have u1 := h.u1
  have uz := h.uz
  have d1 : w.heap.size + 1 ≠ mb := by omega
  have d2 : w.heap.size + 1 ≠ cb := by omega
  have d3 : w.heap.size + 1 ≠ ob := by omega
  have d4 : w.heap.size + 1 ≠ ub := by omega
  have d1' := d1.symm
  have d2' := d2.symm
  have d3' := d3.symm
  have d4' := d4.symm
  exact ⟨below_at hbl (by omega) _ _, by simpa [World.setCell] using ht, h1, h2, h3, h4, e1, e2, e3, e4, e5, e6, by go_simp, by go_simp, fun o => by go_simp, by go_simp, by go_simp, by go_simp, fun o => by go_simp, by go_simp, by go_simp, fun o => by go_simp,
    by go_simp, by go_simp, fun o => by go_simp, by go_simp, by go_simp, fun o => by go_simp, h.mok.set (a := ⟨ob, 1, none⟩) (by simp only; omega) h3.2 _, h.cok.set (a := ⟨ob, 1, none⟩) (by simp only; omega) h3.2 _⟩
theorem ActSt.setCode (h : ActSt w mb cb ob ub top mv0 mv1 mv2 cv0 cv1 M C code n oe ov W) (k : Int) : ActSt w mb cb ob ub top mv0 mv1 mv2 cv0 cv1 M C k n oe ov (W.setCell ⟨ob, 0, none⟩ (.int .i64 k)) := by
  have hbl := h.below
  have ht := h.tl
  have h1 := h.bm
  have h2 := h.bc
  have h3 := h.bo
  have h4 := h.bu
  have e1 := h.mc
  have e2 := h.mo
  have e3 := h.mu
  have e4 := h.co
  have e5 := h.cu
  have e6 := h.ou
  have e1' := e1.symm
  have e2' := e2.symm
  have e3' := e3.symm
  have e4' := e4.symm
  have e5' := e5.symm
  have e6' := e6.symm
  have r0 := h.r0
  have r1 := h.r1
  have rz := h.rz
  have m0 := h.m0
  have m1 := h.m1
  have m2 := h.m2
  have mz := h.mz
  have c0 := h.c0
  have c1 := h.c1
  have cz := h.cz
  have o0 := h.o0
  have o1 := h.o1
  have oz := h.oz
  have u0 := h.u0
  have u1 := h.u1
  have uz := h.uz
  have d1 : w.heap.size + 1 ≠ mb := by omega
  have d2 : w.heap.size + 1 ≠ cb := by omega
  have d3 : w.heap.size + 1 ≠ ob := by omega
  have d4 : w.heap.size + 1 ≠ ub := by omega
  have d1' := d1.symm
  have d2' := d2.symm
  have d3' := d3.symm
  have d4' := d4.symm
  exact ⟨below_at hbl (by omega) _ _, by simpa [World.setCell] using ht, h1, h2, h3, h4, e1, e2, e3, e4, e5, e6, by go_simp, by go_simp, fun o => by go_simp, by go_simp, by go_simp, by go_simp, fun o => by go_simp, by go_simp, by go_simp, fun o => by go_simp,
    by go_simp, by go_simp, fun o => by go_simp, by go_simp, by go_simp, fun o => by go_simp, h.mok.set (a := ⟨ob, 0, none⟩) (by simp only; omega) h3.2 _, h.cok.set (a := ⟨ob, 0, none⟩) (by simp only; omega) h3.2 _⟩
theorem ActSt.setO (h : ActSt w mb cb ob ub top mv0 mv1 mv2 cv0 cv1 M C code n oe ov W) (k l : Int) : ActSt w mb cb ob ub top mv0 mv1 mv2 cv0 cv1 M C code n k l ((W.setCell ⟨ub, 0, none⟩ (.int .i64 k)).setCell ⟨ub, 1, none⟩ (.int .i64 l)) := by
  have hbl := h.below
  have ht := h.tl
  have h1 := h.bm
  have h2 := h.bc
  have h3 := h.bo
  have h4 := h.bu
  have e1 := h.mc
  have e2 := h.mo
  have e3 := h.mu
  have e4 := h.co
  have e5 := h.cu
  have e6 := h.ou
  have e1' := e1.symm
  have e2' := e2.symm
  have e3' := e3.symm
  have e4' := e4.symm
  have e5' := e5.symm
  have e6' := e6.symm
  have r0 := h.r0
  have r1 := h.r1
  have rz := h.rz
  have m0 := h.m0
  have m1 := h.m1
  have m2 := h.m2
  have mz := h.mz
  have c0 := h.c0
  have c1 := h.c1
  have cz := h.cz
  have o0 := h.o0
  have o1 := h.o1
  have oz := h.oz
  have u0 := h.u0
  have u1 := h.u1
  have uz := h.uz
  have d1 : w.heap.size + 1 ≠ mb := by omega
  have d2 : w.heap.size + 1 ≠ cb := by omega
  have d3 : w.heap.size + 1 ≠ ob := by omega
  have d4 : w.heap.size + 1 ≠ ub := by omega
  have d1' := d1.symm
  have d2' := d2.symm
  have d3' := d3.symm
  have d4' := d4.symm
  exact ⟨below_low2 hbl (by omega) _ _, by simpa [World.setCell] using ht, h1, h2, h3, h4, e1, e2, e3, e4, e5, e6, by go_simp, by go_simp, fun o => by go_simp, by go_simp, by go_simp, by go_simp, fun o => by go_simp, by go_simp, by go_simp, fun o => by go_simp,
    by go_simp, by go_simp, fun o => by go_simp, by go_simp, by go_simp, fun o => by go_simp, (h.mok.set (a := ⟨ub, 0, none⟩) (by simp only; omega) h4.2 _).set (a := ⟨ub, 1, none⟩) (by simp only; omega) h4.2 _, (h.cok.set (a := ⟨ub, 0, none⟩) (by simp only; omega) h4.2 _).set (a := ⟨ub, 1, none⟩) (by simp only; omega) h4.2 _⟩
end

/-- Behind the host's own stores: what its box holds; the boxes that are still read. -/
structure ActEnd (w : World) (B ob ub top : Nat) (fa : Option Addr) (fc : Nat) (ea : Option Addr) (ec : Nat) (qa : Option Addr) (qc : Nat) (ta : Option Addr) (tc : Nat) (na : Option Addr) (nc : Nat) (h : HostD) (n oe ov : Int) (W : World) : Prop where
  tl : top ≤ W.heap.size
  sz : w.heap.size ≤ W.heap.size
  bb : B < w.heap.size
  bo : w.heap.size + 1 < ob ∧ ob < top
  bu : w.heap.size + 1 < ub ∧ ub < top
  grown : w.grownBy W (some B)
  c0 : W.cell? ⟨B, 0, none⟩ = some (.slice fa h.m.frames.length fc)
  c1 : W.cell? ⟨B, 1, none⟩ = some (.slice ea h.m.encl.length ec)
  c2 : W.cell? ⟨B, 2, none⟩ = some (.slice qa h.m.quotes.length qc)
  c3 : W.cell? ⟨B, 3, none⟩ = some (.slice ta h.c.trusts.length tc)
  c4 : W.cell? ⟨B, 4, none⟩ = some (.slice na h.c.nonces.length nc)
  cz : ∀ o, W.frozen? ⟨B, o, none⟩ = false
  bt : BlkT W B 45
  r0 : W.cell? ⟨w.heap.size + 1, 0, none⟩ = some (.int .i64 0)
  r1 : W.cell? ⟨w.heap.size + 1, 1, none⟩ = some (.int .i64 0)
  rz : ∀ o, W.frozen? ⟨w.heap.size + 1, o, none⟩ = false
  o0 : W.cell? ⟨ob, 0, none⟩ = some (.int .i64 0)
  o1 : W.cell? ⟨ob, 1, none⟩ = some (.int .i64 n)
  u0 : W.cell? ⟨ub, 0, none⟩ = some (.int .i64 oe)
  u1 : W.cell? ⟨ub, 1, none⟩ = some (.int .i64 ov)
  m : ∃ w5, w5.heap.size = w.heap.size ∧ MachHeld w5 top W (.agg #[.slice fa h.m.frames.length fc, .slice ea h.m.encl.length ec, .slice qa h.m.quotes.length qc]) h.m
  c : ∃ w5, w5.heap.size = w.heap.size ∧ ChalHeld w5 top W (.agg #[.slice ta h.c.trusts.length tc, .slice na h.c.nonces.length nc]) h.c
section
variable {w W W' : World} {B mb cb ob ub top : Nat} {fa ea qa ta na : Option Addr} {fc ec qc tc nc : Nat} {h : HostD} {n oe ov : Int}
theorem grownBy_below {b : Nat} (hg : w.grownBy W (some b)) (hb : Below W.heap.size W W') : w.grownBy W' (some b) :=
  ⟨hb.os.trans hg.os, hb.tape.trans hg.tape, hb.output.trans hg.output, Nat.le_trans hg.size hb.size, fun k hk hn => (hb.block k (Nat.lt_of_lt_of_le hk hg.size)).trans (hg.block k hk hn)⟩
theorem grownBy_new {b : Nat} (hg : w.grownBy W (some b)) {a : Addr} (ha : w.heap.size ≤ a.block) (u : Value) : w.grownBy (W.setCell a u) (some b) :=
  ⟨hg.os, hg.tape, hg.output, by simpa [World.setCell] using hg.size, fun k hk hn => (Below.heap_setCell _ _ _ _ (by omega)).trans (hg.block k hk hn)⟩
theorem grownBy_self {b : Nat} (hg : w.grownBy W (some b)) {a : Addr} (ha : a.block = b) (u : Value) : w.grownBy (W.setCell a u) (some b) :=
  ⟨hg.os, hg.tape, hg.output, by simpa [World.setCell] using hg.size, fun k hk hn => (Below.heap_setCell _ _ _ _ (fun e => hn (by rw [e, ha]))).trans (hg.block k hk hn)⟩
theorem grownBy_self5 {b : Nat} (hg : w.grownBy W (some b)) (u0 u1 u2 u3 u4 : Value) : w.grownBy (((((W.setCell ⟨b, 0, none⟩ u0).setCell ⟨b, 1, none⟩ u1).setCell ⟨b, 2, none⟩ u2).setCell ⟨b, 3, none⟩ u3).setCell ⟨b, 4, none⟩ u4) (some b) := by
  have g0 := grownBy_self (a := ⟨b, 0, none⟩) hg rfl u0
  have g1 := grownBy_self (a := ⟨b, 1, none⟩) g0 rfl u1
  have g2 := grownBy_self (a := ⟨b, 2, none⟩) g1 rfl u2
  have g3 := grownBy_self (a := ⟨b, 3, none⟩) g2 rfl u3
  exact grownBy_self (a := ⟨b, 4, none⟩) g3 rfl u4
theorem grownBy_of_below {b : Nat} (hb : Below w.heap.size w W) : w.grownBy W (some b) := ⟨hb.os, hb.tape, hb.output, hb.size, fun k hk _ => hb.block k hk⟩
theorem ActEnd.later (H : ActEnd w B ob ub top fa fc ea ec qa qc ta tc na nc h n oe ov W) (hb : Below W.heap.size W W') : ActEnd w B ob ub top fa fc ea ec qa qc ta tc na nc h n oe ov W' := by
  have ht := H.tl
  have hs := H.sz
  have h0 := H.bb
  have h3 := H.bo
  have h4 := H.bu
  obtain ⟨w5, k5, hm⟩ := H.m
  obtain ⟨w6, k6, hc⟩ := H.c
  exact ⟨Nat.le_trans ht hb.size, Nat.le_trans hs hb.size, h0, h3, h4, grownBy_below H.grown hb, cell_later hb H.c0, cell_later hb H.c1, cell_later hb H.c2, cell_later hb H.c3, cell_later hb H.c4, fun o => by rw [(bcell hb).2 _ _ (by omega)]; exact H.cz o, H.bt.below hb,
    cell_later hb H.r0, cell_later hb H.r1, fun o => by rw [(bcell hb).2 _ _ (by omega)]; exact H.rz o, cell_later hb H.o0, cell_later hb H.o1, cell_later hb H.u0, cell_later hb H.u1, ⟨w5, k5, hm.later (by omega) hb⟩, ⟨w6, k6, hc.later (by omega) hb⟩⟩
/-- The answer laid into the result's box: the call is done. -/
theorem ActEnd.done (H : ActEnd w B ob ub top fa fc ea ec qa qc ta tc na nc h n oe ov W) (x y : Int) :
    HostAt B h ((W.setCell ⟨w.heap.size + 1, 0, none⟩ (.int .i64 x)).setCell ⟨w.heap.size + 1, 1, none⟩ (.int .i64 y)) ∧ w.grownBy ((W.setCell ⟨w.heap.size + 1, 0, none⟩ (.int .i64 x)).setCell ⟨w.heap.size + 1, 1, none⟩ (.int .i64 y)) (some B) := by
  have ht := H.tl
  have h0 := H.bb
  have h3 := H.bo
  have hB : B ≠ w.heap.size + 1 := by omega
  have c0 := H.c0
  have c1 := H.c1
  have c2 := H.c2
  have c3 := H.c3
  have c4 := H.c4
  have cz := H.cz
  obtain ⟨w5, k5, hm⟩ := H.m
  obtain ⟨w6, k6, hc⟩ := H.c
  refine ⟨⟨fa, fc, ea, ec, qa, qc, ta, tc, na, nc, by go_simp, by go_simp, by go_simp, by go_simp, by go_simp, fun o => by go_simp, (H.bt.set _ _).set _ _, ?_, ?_⟩, grownBy_new (grownBy_new H.grown (by simp only; omega) _) (by simp only; omega) _⟩
  · exact ((hm.set (a := ⟨w.heap.size + 1, 0, none⟩) (by simp only; omega) (by simp only; omega) _).set (a := ⟨w.heap.size + 1, 1, none⟩) (by simp only; omega) (by simp only; omega) _).from0
  · exact ((hc.set (a := ⟨w.heap.size + 1, 0, none⟩) (by simp only; omega) (by simp only; omega) _).set (a := ⟨w.heap.size + 1, 1, none⟩) (by simp only; omega) (by simp only; omega) _).from0
end

section
variable {w W : World} {B mb cb ob ub top : Nat} {fa ea qa ta na : Option Addr} {fc ec qc tc nc : Nat} {h h0 : HostD} {n oe ov : Int} {fa' ea' qa' ta' na' : Option Addr} {fc' ec' qc' tc' nc' : Nat}
/-- The host's own stores. -/
theorem ActSt.fin (A : ActSt w mb cb ob ub top (.slice fa h.m.frames.length fc) (.slice ea h.m.encl.length ec) (.slice qa h.m.quotes.length qc) (.slice ta h.c.trusts.length tc) (.slice na h.c.nonces.length nc) h.m h.c 0 n oe ov W)
    (H : HostSt B fa' fc' ea' ec' qa' qc' ta' tc' na' nc' h0 w) :
    ActEnd w B ob ub top fa fc ea ec qa qc ta tc na nc h n oe ov (((((W.setCell ⟨B, 0, none⟩ (.slice fa h.m.frames.length fc)).setCell ⟨B, 1, none⟩ (.slice ea h.m.encl.length ec)).setCell ⟨B, 2, none⟩ (.slice qa h.m.quotes.length qc)).setCell ⟨B, 3, none⟩ (.slice ta h.c.trusts.length tc)).setCell ⟨B, 4, none⟩ (.slice na h.c.nonces.length nc)) := by
  have hB := H.lt
  have hbl := A.below
  have ht := A.tl
  have hsz := hbl.size
  have h3 := A.bo
  have h4 := A.bu
  have k0 := cell_later hbl H.c0
  have k1 := cell_later hbl H.c1
  have k2 := cell_later hbl H.c2
  have k3 := cell_later hbl H.c3
  have k4 := cell_later hbl H.c4
  have kz : ∀ o, W.frozen? ⟨B, o, none⟩ = false := fun o => by rw [(bcell hbl).2 _ _ hB]; exact H.cz o
  have r0 := A.r0
  have r1 := A.r1
  have rz := A.rz
  have o0 := A.o0
  have o1 := A.o1
  have u0 := A.u0
  have u1 := A.u1
  have d1 : B ≠ w.heap.size + 1 := by omega
  have d2 : w.heap.size + 1 ≠ B := by omega
  have d3 : ob ≠ B := by omega
  have d4 : ub ≠ B := by omega
  have B5 := below_set (below_set (below_set (below_set (below_set hbl ⟨B, 0, none⟩ (.slice fa h.m.frames.length fc)) ⟨B, 1, none⟩ (.slice ea h.m.encl.length ec)) ⟨B, 2, none⟩ (.slice qa h.m.quotes.length qc)) ⟨B, 3, none⟩ (.slice ta h.c.trusts.length tc)) ⟨B, 4, none⟩ (.slice na h.c.nonces.length nc)
  have z5 : (((((w.setCell ⟨B, 0, none⟩ (.slice fa h.m.frames.length fc)).setCell ⟨B, 1, none⟩ (.slice ea h.m.encl.length ec)).setCell ⟨B, 2, none⟩ (.slice qa h.m.quotes.length qc)).setCell ⟨B, 3, none⟩ (.slice ta h.c.trusts.length tc)).setCell ⟨B, 4, none⟩ (.slice na h.c.nonces.length nc)).heap.size = w.heap.size := by simp [World.setCell]
  refine ⟨by simpa [World.setCell] using ht, by simpa [World.setCell] using hsz, hB, h3, h4, ?_, by go_simp, by go_simp, by go_simp, by go_simp, by go_simp, fun o => by go_simp, (H.bt.below hbl).set5 _ _ _ _ _, by go_simp, by go_simp, fun o => by go_simp, by go_simp, by go_simp, by go_simp, by go_simp, ?_, ?_⟩
  · exact grownBy_self5 (grownBy_of_below hbl) _ _ _ _ _
  · rcases A.mok with hm | ⟨hm, _⟩
    · exact ⟨w, rfl, .inl (hm.low5 (by omega) _ _ _ _ _)⟩
    · exact ⟨_, z5, .inr ⟨hm.set5T H.bt _ _ _ _ _, by rw [z5]; exact B5⟩⟩
  · rcases A.cok with hm | ⟨hm, _⟩
    · exact ⟨w, rfl, .inl (hm.low5 (by omega) _ _ _ _ _)⟩
    · exact ⟨_, z5, .inr ⟨hm.set5T H.bt _ _ _ _ _, by rw [z5]; exact B5⟩⟩
theorem ActEnd.drew (H : ActEnd w B ob ub top fa fc ea ec qa qc ta tc na nc h n oe ov W) : ActEnd w B ob ub top fa fc ea ec qa qc ta tc na nc h n oe ov W.drew := H.later (below_drew _)
end

end Go.Proofs.YtklbbjionoeofaaGreatDoor
