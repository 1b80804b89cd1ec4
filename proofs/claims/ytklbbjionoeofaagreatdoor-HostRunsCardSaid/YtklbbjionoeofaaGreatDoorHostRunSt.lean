/- The memory of host.Run's loop; what every act leaves fits. Plain laws; no program is walked. -/
import Derived.Test.YtklbbjionoeofaaGreatDoorHostSt
import Derived.Test.YtklbbjionoeofaaGreatDoorGq
import Derived.Test.YtklbbjionoeofaaGreatDoorGo
namespace Go.Proofs.YtklbbjionoeofaaGreatDoor
open Go.RowKit

def AnsD.cs (x : AnsD) : List Value := [.int .i64 x.code, .int .i64 x.n]
theorem AnsD.cs_len (x : AnsD) : x.cs.length = 2 := rfl
theorem infoAns : (Tryz.prog.info? 39).map (fun i => (i.zero, i.size, i.bytes)) = some (some (.agg #[.int .i64 0, .int .i64 0]), 2, 16) := by kernel_rfl
def AnsAt (w : World) (a : Option Addr) (l : List AnsD) : Prop :=
  ∀ i x, l[i]? = some x → ∃ b off, a = some ⟨b, off, none⟩ ∧ w.cell? ⟨b, off + i * 2, none⟩ = some (.int .i64 x.code) ∧ w.cell? ⟨b, off + i * 2 + 1, none⟩ = some (.int .i64 x.n)
theorem AnsAt.mono {w w' : World} {a : Option Addr} {l : List AnsD} (h : AnsAt w a l) (hb : Below w.heap.size w w') : AnsAt w' a l := fun i x hx => by
  obtain ⟨b, off, ha, h0, h1⟩ := h i x hx
  exact ⟨b, off, ha, cell_later hb h0, cell_later hb h1⟩
theorem CellsAt.ans {w : World} {a : Option Addr} {l : List AnsD} (h : CellsAt w a (l.flatMap AnsD.cs)) : AnsAt w a l := fun i x hx => by
  have g := fun j hj => flat_get AnsD.cs 2 AnsD.cs_len l i j hj
  obtain ⟨b, off, rfl, h0⟩ := h (i * 2 + 0) (.int .i64 x.code) (by rw [g 0 (by decide), hx]; rfl)
  obtain ⟨b1, off1, e1, h1⟩ := h (i * 2 + 1) (.int .i64 x.n) (by rw [g 1 (by decide), hx]; rfl)
  cases e1
  exact ⟨b, off, rfl, h0, by rw [Nat.add_assoc]; exact h1⟩
def ActsAt (w : World) (a : Option Addr) (l : List ActD) : Prop :=
  ∀ i x, l[i]? = some x → ∃ b off, a = some ⟨b, off, none⟩ ∧ w.cell? ⟨b, off + i * 7, none⟩ = some (.int .i64 x.kind) ∧ w.cell? ⟨b, off + i * 7 + 1, none⟩ = some (.int .i64 x.e) ∧ w.cell? ⟨b, off + i * 7 + 2, none⟩ = some (.int .i64 x.f) ∧
    w.cell? ⟨b, off + i * 7 + 3, none⟩ = some (.int .i64 x.pl) ∧ w.cell? ⟨b, off + i * 7 + 4, none⟩ = some (.int .i64 x.rights) ∧ w.cell? ⟨b, off + i * 7 + 5, none⟩ = some (.int .i64 x.n) ∧ w.cell? ⟨b, off + i * 7 + 6, none⟩ = some (.int .i64 x.fuel)
theorem ActsAt.mono {w w' : World} {a : Option Addr} {l : List ActD} (h : ActsAt w a l) (hb : Below w.heap.size w w') : ActsAt w' a l := fun i x hx => by
  obtain ⟨b, off, ha, h0, h1, h2, h3, h4, h5, h6⟩ := h i x hx
  exact ⟨b, off, ha, cell_later hb h0, cell_later hb h1, cell_later hb h2, cell_later hb h3, cell_later hb h4, cell_later hb h5, cell_later hb h6⟩

theorem keepM_fits {h : HostD} {m : MachD} {n c : Int} (hh : h.m.Fits ∧ h.c.Fits) (hm : m.Fits) : (keepM h m n c).1.m.Fits ∧ (keepM h m n c).1.c.Fits := by
  unfold keepM
  split
  · exact hh
  · exact ⟨hm, hh.2⟩
theorem keepC_fits {h : HostD} {d : ChalD} {n c : Int} (hh : h.m.Fits ∧ h.c.Fits) (hd : d.Fits) : (keepC h d n c).1.m.Fits ∧ (keepC h d n c).1.c.Fits := by
  unfold keepC
  split
  · exact hh
  · exact ⟨hh.1, hd⟩
theorem keepR_fits {h : HostD} {r : MachD × (Int × Int) × Int} (hh : h.m.Fits ∧ h.c.Fits) (hm : r.1.Fits) : (keepR h r).1.m.Fits ∧ (keepR h r).1.c.Fits := by
  unfold keepR
  split
  · exact hh
  · exact ⟨hm, hh.2⟩
theorem actD_fits {h : HostD} (a : ActD) (hh : h.m.Fits ∧ h.c.Fits) : (actD h a).1.m.Fits ∧ (actD h a).1.c.Fits := by
  unfold actD
  by_cases h1 : a.kind = 1
  · rw [if_pos h1]; exact keepM_fits hh (createD_fits hh.1)
  rw [if_neg h1]
  by_cases h2 : a.kind = 2
  · rw [if_pos h2]; exact keepM_fits hh (putD_fits hh.1 _ _ _ _)
  rw [if_neg h2]
  by_cases h3 : a.kind = 3
  · rw [if_pos h3]; exact keepM_fits hh (measD_fits hh.1 _ _)
  rw [if_neg h3]
  by_cases h4 : a.kind = 4
  · rw [if_pos h4]; exact keepM_fits hh (startD_fits hh.1 _)
  rw [if_neg h4]
  by_cases h5 : a.kind = 5
  · rw [if_pos h5]; exact keepM_fits hh (removeD_fits hh.1 _)
  rw [if_neg h5]
  by_cases h6 : a.kind = 6
  · rw [if_pos h6]; exact keepM_fits hh hh.1
  rw [if_neg h6]
  by_cases h7 : a.kind = 7
  · rw [if_pos h7]; exact keepM_fits hh (pokeD_fits hh.1 _ _ _)
  rw [if_neg h7]
  by_cases h8 : a.kind = 8
  · rw [if_pos h8]; exact keepR_fits hh (enterD_fits _ _ _ _)
  rw [if_neg h8]
  by_cases h9 : a.kind = 9
  · rw [if_pos h9]; exact keepR_fits hh (resumeD_fits _ _ _)
  rw [if_neg h9]
  by_cases h10 : a.kind = 10
  · rw [if_pos h10]; exact keepC_fits hh (askD_fits hh.2)
  rw [if_neg h10]
  by_cases h11 : a.kind = 11
  · rw [if_pos h11]
    by_cases h12 : a.pl < 0 ∨ (h.m.quotes.length : Int) ≤ a.pl
    · rw [if_pos h12]; exact hh
    · rw [if_neg h12]; exact keepC_fits hh (lookD_fits hh.2 _ _)
  · rw [if_neg h11]; exact hh
theorem actsD_fits (L : List ActD) {h : HostD} (hh : h.m.Fits ∧ h.c.Fits) : (actsD h L).1.m.Fits ∧ (actsD h L).1.c.Fits := by
  induction L generalizing h with
  | nil => exact hh
  | cons a l ih => exact ih (actD_fits a hh)
theorem actsD_snoc {L : List ActD} {h : HostD} {i : Nat} {a : ActD} (ha : L[i]? = some a) : actsD h (L.take (i + 1)) = ((actD (actsD h (L.take i)).1 a).1, (actsD h (L.take i)).2 ++ [(actD (actsD h (L.take i)).1 a).2]) := by
  rw [List.take_add_one, ha, Option.toList_some, actsD_append]
  rfl
theorem newD_fits : newD.Fits := ⟨by simp [newD], by simp [newD], by simp [newD], fun i x hx => by
  simp only [newD] at hx
  have := List.mem_of_getElem? hx
  rw [List.mem_replicate] at this
  rw [this.2]
  simp [bare]⟩

theorem own_blk {w : World} {base : Nat} {e : TypeId} {size : Nat} {v : Value} {n : Nat} {xs : List Value} (h : w.ownsRow base e size v n xs) {g : Nat} (hg : v.ownBlock = some g) : BlkT w g e := by
  obtain ⟨_, ⟨h1, _⟩ | ⟨g', cap, cur, h3, _, h5, _⟩⟩ := h
  · subst h1
    simp [Value.ownBlock] at hg
  · subst h3
    simp only [Value.ownBlock, Option.some.injEq] at hg
    subst hg
    exact ⟨cur, _, h5⟩
theorem grownBy_none {w w' : World} (h : w.grownBy w' none) : Below w.heap.size w w' := ⟨h.os, h.tape, h.output, h.size, fun k hk => h.block k hk (by simp)⟩
/-- The host stays while a row of answers grows. -/
theorem HostAt.grownAns {W W' : World} {B : Nat} {h : HostD} (H : HostAt B h W) {base n : Nat} {ov : Value} {xs : List Value} (ho : W.ownsRow base 39 2 ov n xs) (hg : W.grownBy W' ov.ownBlock) : HostAt B h W' := by
  obtain ⟨fa, fc, ea, ec, qa, qc, ta, tc, na, nc, H⟩ := H
  cases hv : ov.ownBlock with
  | none => rw [hv] at hg; exact HostAt.later ⟨_, _, _, _, _, _, _, _, _, _, H⟩ (grownBy_none hg)
  | some g =>
    rw [hv] at hg
    have hb := own_blk ho hv
    have hne : B ≠ g := fun e => by
      subst e
      exact own_type ho H.bt (by decide) _ hv rfl
    have hne' : some B ≠ some g := fun e => hne (Option.some.inj e)
    obtain ⟨cs, fr, hbt⟩ := H.bt
    exact ⟨fa, fc, ea, ec, qa, qc, ta, tc, na, nc, hg.cell H.c0 hne', hg.cell H.c1 hne', hg.cell H.c2 hne', hg.cell H.c3 hne', hg.cell H.c4 hne', fun o => by rw [hg.frozen_far ⟨B, o, none⟩ H.lt hne']; exact H.cz o,
      ⟨cs, fr, (hg.block B H.lt hne').trans hbt⟩, H.m.grownT hb (by decide) (by decide) (by decide) (by decide) hg, H.c.grownT hb (by decide) (by decide) hg⟩

/-- The loop of host.Run: the host's box, the answers so far, the results' boxes. -/
structure LoopSt (w : World) (B : Nat) (h : HostD) (X : List AnsD) (ov : Value) (W : World) : Prop where
  below : Below w.heap.size w W
  lo : w.heap.size + 2 ≤ B
  host : HostAt B h W
  own : W.ownsRow (w.heap.size + 2) 39 2 ov X.length (X.flatMap AnsD.cs)
  sz : w.heap.size + 2 ≤ W.heap.size
  r0 : W.cell? ⟨w.heap.size, 0, none⟩ = some (.slice none 0 0)
  r1 : W.cell? ⟨w.heap.size, 1, none⟩ = some (.slice none 0 0)
  r2 : W.cell? ⟨w.heap.size, 2, none⟩ = some (.slice none 0 0)
  rz : ∀ o, W.frozen? ⟨w.heap.size, o, none⟩ = false
  q0 : W.cell? ⟨w.heap.size + 1, 0, none⟩ = some (.slice none 0 0)
  q1 : W.cell? ⟨w.heap.size + 1, 1, none⟩ = some (.slice none 0 0)
  qz : ∀ o, W.frozen? ⟨w.heap.size + 1, o, none⟩ = false
section
variable {w W W' : World} {B : Nat} {h h' : HostD} {X : List AnsD} {ov : Value}
theorem LoopSt.later (H : LoopSt w B h X ov W) (hb : Below W.heap.size W W') : LoopSt w B h X ov W' := by
  have hz := H.sz
  have hs := hb.size
  exact ⟨H.below.trans (hb.mono H.below.size), H.lo, H.host.later hb, ownsRow_below H.own hb, by omega, cell_later hb H.r0, cell_later hb H.r1, cell_later hb H.r2, fun o => by rw [(bcell hb).2 _ _ (by omega)]; exact H.rz o,
    cell_later hb H.q0, cell_later hb H.q1, fun o => by rw [(bcell hb).2 _ _ (by omega)]; exact H.qz o⟩
theorem LoopSt.act (H : LoopSt w B h X ov W) (hh : HostAt B h' W') (hg : W.grownBy W' (some B)) : LoopSt w B h' X ov W' := by
  have hz := H.sz
  have hs := hg.size
  have hl := H.lo
  obtain ⟨fa, fc, ea, ec, qa, qc, ta, tc, na, nc, H1⟩ := H.host
  have n0 : some w.heap.size ≠ some B := fun e => by have := Option.some.inj e; omega
  have n1 : some (w.heap.size + 1) ≠ some B := fun e => by have := Option.some.inj e; omega
  exact ⟨H.below.grown hg (by omega) (fun k hk => by have := Option.some.inj hk; omega), hl, hh, own_grownT H.own H1.bt (by decide) hg, by omega, hg.cell H.r0 n0, hg.cell H.r1 n0, hg.cell H.r2 n0,
    fun o => by rw [hg.frozen_far ⟨w.heap.size, o, none⟩ (by simp only; omega) n0]; exact H.rz o, hg.cell H.q0 n1, hg.cell H.q1 n1, fun o => by rw [hg.frozen_far ⟨w.heap.size + 1, o, none⟩ (by simp only; omega) n1]; exact H.qz o⟩
theorem LoopSt.push (H : LoopSt w B h X ov W) {x : AnsD} {v' : Value} {n : Nat} (hr : W'.ownsRow (w.heap.size + 2) 39 2 v' n (X.flatMap AnsD.cs ++ x.cs)) (hn : n = X.length + 1) (hg : W.grownBy W' ov.ownBlock) : LoopSt w B h (X ++ [x]) v' W' := by
  subst hn
  have hz := H.sz
  have hs := hg.size
  have hl := H.lo
  have n0 : some w.heap.size ≠ ov.ownBlock := fun e => by have := (H.own.lt _ e.symm).1; omega
  have n1 : some (w.heap.size + 1) ≠ ov.ownBlock := fun e => by have := (H.own.lt _ e.symm).1; omega
  exact ⟨H.below.grown hg (by omega) (fun k hk => by have := (H.own.lt _ hk).1; omega), hl, H.host.grownAns H.own hg, by simpa using hr, by omega, hg.cell H.r0 n0, hg.cell H.r1 n0, hg.cell H.r2 n0,
    fun o => by rw [hg.frozen_far ⟨w.heap.size, o, none⟩ (by simp only; omega) n0]; exact H.rz o, hg.cell H.q0 n1, hg.cell H.q1 n1, fun o => by rw [hg.frozen_far ⟨w.heap.size + 1, o, none⟩ (by simp only; omega) n1]; exact H.qz o⟩
end

/-- What host.Run hands back. -/
def RunsRes (base : Nat) (r : RunD) (w : World) (e : Ending) (w' : World) : Prop :=
  ∃ xv mv cv, e = .returned (.tuple #[xv, mv, cv, .int .i64 r.e]) ∧ w'.ownsRow base 39 2 xv r.x.length (r.x.flatMap AnsD.cs) ∧ MachFrom base w' mv r.m ∧ ChalFrom base w' cv r.c ∧ Below base w w'

end Go.Proofs.YtklbbjionoeofaaGreatDoor
