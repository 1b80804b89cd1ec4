/- trust.Ask and its reference, walked. Conditions: those that each contract writes. -/
import Derived.Test.YtohaapnkipiocaaDoorChalOps
namespace Go.Proofs.YtohaapnkipiocaaDoor
open Go.RowKit

def chal0 : ChalD := ⟨[], []⟩
def askD (C : ChalD) : ChalD × Int × Int := if chalF C ≠ 0 then (chal0, 0, chalF C) else if C.nonces.length = 20 then (chal0, 0, 7) else (⟨C.trusts, C.nonces ++ [0]⟩, C.nonces.length + 1, 0)
/-- A call hands back a challenger, a number and an error. -/
def Chal3 (base : Nat) (r : ChalD × Int × Int) (w : World) (e : Ending) (w' : World) : Prop :=
  ∃ v, e = .returned (.tuple #[v, .int .i64 r.2.1, .int .i64 r.2.2]) ∧ ChalAt w' v r.1 ∧ Below base w w'
theorem Chal3.mk {base : Nat} {r : ChalD × Int × Int} {w w' : World} {v : Value} {D : ChalD} {k er : Int} (h : r = (D, k, er)) (hv : ChalAt w' v D) (hb : Below base w w') : Chal3 base r w (.returned (.tuple #[v, .int .i64 k, .int .i64 er])) w' := by
  subst h
  exact ⟨v, rfl, hv, hb⟩
theorem ownsRow_setCell_ne {w : World} {base : Nat} {e : TypeId} {size : Nat} {v : Value} {n : Nat} {xs : List Value} (h : w.ownsRow base e size v n xs) {a : Addr} (ha : ∀ k, v.ownBlock = some k → k ≠ a.block) (u : Value) : (w.setCell a u).ownsRow base e size v n xs := by
  obtain ⟨h1, h2⟩ := h
  refine ⟨h1, ?_⟩
  rcases h2 with h2 | ⟨g, cap, cur, rfl, hg, hh, r⟩
  · exact Or.inl h2
  · exact Or.inr ⟨g, cap, cur, rfl, hg, by rw [Below.heap_setCell _ _ _ _ (ha g rfl)]; exact hh, r⟩
theorem below_drew (w : World) : Below w.heap.size w w.drew := (Below.refl _ _).drew
theorem intCells_snoc (l : List Int) (x : Int) : intCells (l ++ [x]) = intCells l ++ [.int .i64 x] := by simp [intCells]
theorem chalAt_own {w : World} {b b' : Nat} {l1 : List ByteArray} {l2 : List Int} {a1 a2 : Option Addr} {n1 n2 c1 c2 : Nat} (h1 : w.ownsRow b 9 1 (.slice a1 n1 c1) n1 (strCells l1)) (h2 : w.ownsRow b' 3 1 (.slice a2 n2 c2) n2 (intCells l2)) (e1 : l1.length = n1) (e2 : l2.length = n2) :
    ChalAt w (.agg #[.slice a1 n1 c1, .slice a2 n2 c2]) ⟨l1, l2⟩ := by
  subst e1; subst e2
  obtain ⟨x1, y1, ex, h3⟩ := CellsAt.of_own h1
  obtain ⟨x2, y2, ey, h4⟩ := CellsAt.of_own h2
  rw [← (Value.slice.inj ex).1] at h3
  rw [← (Value.slice.inj ey).1] at h4
  exact ⟨a1, c1, a2, c2, rfl, h3.strs, h4.ints⟩
theorem chal0_at (w : World) : ChalAt w (.agg #[.slice none 0 0, .slice none 0 0]) chal0 := ⟨none, 0, none, 0, rfl, fun _ _ h => by simp [chal0] at h, fun _ _ h => by simp [chal0] at h⟩
theorem chalF_le {C : ChalD} (h : chalF C = 0) : C.trusts.length ≤ 4 ∧ C.nonces.length ≤ 20 := by
  unfold chalF at h
  by_cases h1 : 4 < C.trusts.length
  · simp [h1] at h
  · by_cases h2 : 20 < C.nonces.length
    · simp [h2] at h
    · omega

set_option maxRecDepth 10000 in
set_option maxHeartbeats 1600000 in
theorem trustAsk_no (v : Value) (C : ChalD) (w : World) (hv : ChalAt w v C) (hf : C.Fits) (he : chalF C ≠ 0 ∨ C.nonces.length = 20) : Calls Tryd.prog 114 #[v] w (Chal3 w.heap.size (askD C) w) := by
  have hv' := hv
  obtain ⟨ta, tc, na, nc, rfl, ht, hn⟩ := hv'
  obtain ⟨hft, hfn⟩ := id hf
  have HV := hid hv
  clear hv ht hn
  have B0 : ∀ X Y, Below w.heap.size w ((w.alloc X).alloc Y) := fun X Y => by go_grown
  go_enter Tryd.func114, Tryd.ntmps114
  go_wp2_with fail
  refine (trustCheck _ C _ (HV.out.mono (B0 _ _)) hf).mono ?_
  rintro e w1 ⟨rfl, hb1⟩
  have p1 : w1.cell? ⟨w.heap.size, 1, none⟩ = some (.slice na C.nonces.length nc) := by rw [(bcell hb1).1 _ _ (by go_size)]; simp [go_sem]
  have p2 : w1.cell? ⟨w.heap.size + 1, 0, none⟩ = some (.slice none 0 0) := by rw [(bcell hb1).1 _ _ (by go_size)]; simp [go_sem]
  have p3 : w1.cell? ⟨w.heap.size + 1, 1, none⟩ = some (.slice none 0 0) := by rw [(bcell hb1).1 _ _ (by go_size)]; simp [go_sem]
  have p4 : ∀ o, w1.frozen? ⟨w.heap.size + 1, o, none⟩ = false := fun o => by rw [(bcell hb1).2 _ _ (by go_size)]; simp [go_sem]
  have B1 : Below w.heap.size w w1 := (B0 _ _).trans (hb1.mono (by go_size))
  clear hb1
  by_cases h0 : chalF C = 0
  · have h20 : C.nonces.length = 20 := by omega
    have HD : Hid (askD C = (chal0, 0, 7)) := by show askD C = _; simp [askD, h0, h20]
    have h20b : ((C.nonces.length : Int) == 20) = true := by rw [beq_iff_eq]; omega
    have h20c : (20 : Int) ≤ (C.nonces.length : Int) := by omega
    rw [h0]
    clear he h0 h20
    go_wp2_with fail
    refine bodyPost_ret (v := .tuple #[.agg #[.slice none 0 0, .slice none 0 0], .int .i64 0, .int .i64 7]) (by simp [results, Tryd.results114, go_sem, p2, p3]) rfl (Chal3.mk HD.out (chal0_at _) (Below.setCell (Below.setCell B1 (by simp) _) (by simp) _))
  · have HD : Hid (askD C = (chal0, 0, chalF C)) := by show askD C = _; simp [askD, h0]
    generalize chalF C = E at HD h0 ⊢
    have hE1 : (E != 0) = true := by rw [bne_iff_ne]; exact h0
    have hE2 : (E == 0) = false := by rw [beq_eq_false_iff_ne]; exact h0
    clear h0 he
    go_wp2_with fail
    refine bodyPost_ret (v := .tuple #[.agg #[.slice none 0 0, .slice none 0 0], .int .i64 0, .int .i64 E]) (by simp [results, Tryd.results114, go_sem, p2, p3]) rfl (Chal3.mk HD.out (chal0_at _) (Below.setCell (Below.setCell B1 (by simp) _) (by simp) _))
set_option maxRecDepth 10000 in
set_option maxHeartbeats 1600000 in
theorem trustAsk_ok (v : Value) (C : ChalD) (w : World) (hv : ChalAt w v C) (hf : C.Fits) (h0 : chalF C = 0) (h20 : C.nonces.length ≠ 20) : Calls Tryd.prog 114 #[v] w (Chal3 w.heap.size (askD C) w) := by
  have hle := chalF_le h0
  have HD : Hid (askD C = ((⟨C.trusts, C.nonces ++ [0]⟩ : ChalD), (C.nonces.length : Int) + 1, (0 : Int))) := by show askD C = _; simp [askD, h0, h20]
  have hv' := hv
  obtain ⟨ta, tc, na, nc, rfl, ht, hn⟩ := hv'
  obtain ⟨j0, hj0, hy0, hy1, hy2⟩ := info_parts infoInts
  have HV := hid hv
  have H20 : Hid (C.nonces.length ≠ 20) := h20
  have h20b : ((C.nonces.length : Int) == 20) = false := by rw [beq_eq_false_iff_ne]; omega
  have h20c : decide ((20 : Int) ≤ (C.nonces.length : Int)) = false := by rw [decide_eq_false_iff_not]; omega
  clear hv ht hn h20
  have B0 : ∀ X Y, Below w.heap.size w ((w.alloc X).alloc Y) := fun X Y => by go_grown
  go_enter Tryd.func114, Tryd.ntmps114
  go_wp2_with fail
  refine (trustCheck _ C _ (HV.out.mono (B0 _ _)) hf).mono ?_
  rintro e w1 ⟨rfl, hb1⟩
  rw [h0]
  clear h0
  have p0 : w1.cell? ⟨w.heap.size, 0, none⟩ = some (.slice ta C.trusts.length tc) := by rw [(bcell hb1).1 _ _ (by go_size)]; simp [go_sem]
  have p1 : w1.cell? ⟨w.heap.size, 1, none⟩ = some (.slice na C.nonces.length nc) := by rw [(bcell hb1).1 _ _ (by go_size)]; simp [go_sem]
  have p2 : w1.cell? ⟨w.heap.size + 1, 0, none⟩ = some (.slice none 0 0) := by rw [(bcell hb1).1 _ _ (by go_size)]; simp [go_sem]
  have p3 : w1.cell? ⟨w.heap.size + 1, 1, none⟩ = some (.slice none 0 0) := by rw [(bcell hb1).1 _ _ (by go_size)]; simp [go_sem]
  have p4 : ∀ o, w1.frozen? ⟨w.heap.size + 1, o, none⟩ = false := fun o => by rw [(bcell hb1).2 _ _ (by go_size)]; simp [go_sem]
  have p5 : ∀ o, w1.frozen? ⟨w.heap.size, o, none⟩ = false := fun o => by rw [(bcell hb1).2 _ _ (by go_size)]; simp [go_sem]
  have z1 : w.heap.size + 1 < w1.heap.size := by have := hb1.size; simp at this; omega
  have B1 : Below w.heap.size w w1 := (B0 _ _).trans (hb1.mono (by go_size))
  clear hb1
  go_wp2_with fail
  refine (trustCopy _ C _ (HV.out.mono B1) hf).mono ?_
  rintro e w2 ⟨v2, rfl, ⟨tv, nv, rfl, hot, hon, hap⟩, hb2⟩
  obtain ⟨ta2, tc2, rfl, _⟩ := CellsAt.of_own hot
  obtain ⟨na2, nc2, rfl, _⟩ := CellsAt.of_own hon
  have r0 : w2.cell? ⟨w.heap.size, 0, none⟩ = some (.slice ta C.trusts.length tc) := by rw [(bcell hb2).1 _ _ (by omega)]; exact p0
  have r1 : w2.cell? ⟨w.heap.size, 1, none⟩ = some (.slice na C.nonces.length nc) := by rw [(bcell hb2).1 _ _ (by omega)]; exact p1
  have r2 : w2.cell? ⟨w.heap.size + 1, 0, none⟩ = some (.slice none 0 0) := by rw [(bcell hb2).1 _ _ (by omega)]; exact p2
  have r3 : w2.cell? ⟨w.heap.size + 1, 1, none⟩ = some (.slice none 0 0) := by rw [(bcell hb2).1 _ _ (by omega)]; exact p3
  have r4 : ∀ o, w2.frozen? ⟨w.heap.size + 1, o, none⟩ = false := fun o => by rw [(bcell hb2).2 _ _ (by omega)]; exact p4 o
  have r5 : ∀ o, w2.frozen? ⟨w.heap.size, o, none⟩ = false := fun o => by rw [(bcell hb2).2 _ _ (by omega)]; exact p5 o
  have z2 : w1.heap.size ≤ w2.heap.size := hb2.size
  have z3 : w.heap.size + 1 < w2.heap.size := by omega
  have z4 : w.heap.size < w2.heap.size := by omega
  have B2 : Below w.heap.size w w2 := B1.trans (hb2.mono (by omega))
  have HT : Hid (∀ X, World.ownsRow (((w2.setCell ⟨w.heap.size, 0, none⟩ (.slice ta2 C.trusts.length tc2)).setCell ⟨w.heap.size, 1, none⟩ (.slice na2 C.nonces.length nc2)).alloc X) w1.heap.size 9 1 (.slice ta2 C.trusts.length tc2) C.trusts.length (strCells C.trusts)) := fun X =>
    ownsRow_below (ownsRow_setCell_below (ownsRow_setCell_below hot (a := ⟨w.heap.size, 0, none⟩) (by simp; omega) _) (a := ⟨w.heap.size, 1, none⟩) (by simp; omega) _) (below_alloc _ X)
  have HN : Hid (∀ X, World.ownsRow (((w2.setCell ⟨w.heap.size, 0, none⟩ (.slice ta2 C.trusts.length tc2)).setCell ⟨w.heap.size, 1, none⟩ (.slice na2 C.nonces.length nc2)).alloc X) w1.heap.size 3 1 (.slice na2 C.nonces.length nc2) C.nonces.length (intCells C.nonces)) := fun X =>
    ownsRow_below (ownsRow_setCell_below (ownsRow_setCell_below hon (a := ⟨w.heap.size, 0, none⟩) (by simp; omega) _) (a := ⟨w.heap.size, 1, none⟩) (by simp; omega) _) (below_alloc _ X)
  have HB : Hid (∀ X, Below w.heap.size w (((w2.setCell ⟨w.heap.size, 0, none⟩ (.slice ta2 C.trusts.length tc2)).setCell ⟨w.heap.size, 1, none⟩ (.slice na2 C.nonces.length nc2)).alloc X)) := fun X => by
    exact ((B2.setCell (Nat.le_refl _) _).setCell (Nat.le_refl _) _).alloc (by simp; omega) _
  have HAP := hid hap
  clear hot hon hap hb2 p0 p1 p2 p3 p4 p5 B1 B2
  go_wp2_with (at_builtin; refine wpList_append_lies _ rfl _ _ 26 rfl w1.heap.size 3 j0 _ 1 8 Tryd.underlying26 hj0 hy0 hy1 hy2 rfl (by decide) _ C.nonces.length (intCells C.nonces) rfl (HN.out _) ⟨w2.heap.size, 0, none⟩ 1 1 [.int .i64 0] rfl rfl (news_new (by simp) #[_] _) (by simp [Value.oneCell']) (by decide) ?c2 ?c3 ?c4 (w2.heap.size + 1) ?c5 ?_)
  case c2 => unfold maxLen; omega
  case c3 => omega
  case c4 => simp; omega
  case c5 => simp
  intro g cap' W4 hrow hgrow hat hlt
  have B4 : Below w1.heap.size _ W4 := Below.grown (Below.refl _ _) hgrow (by simp; omega) (fun k hk => ((HN.out (.cells #[] 0)).lt k hk).1)
  have s0 : W4.cell? ⟨w.heap.size, 0, none⟩ = some (.slice ta2 C.trusts.length tc2) := by rw [B4.cell (p := ⟨w.heap.size, 0, none⟩) (by simp; omega)]; go_simp
  have s1 : W4.cell? ⟨w.heap.size, 1, none⟩ = some (.slice na2 C.nonces.length nc2) := by rw [B4.cell (p := ⟨w.heap.size, 1, none⟩) (by simp; omega)]; go_simp
  have s2 : W4.cell? ⟨w.heap.size + 1, 0, none⟩ = some (.slice none 0 0) := by rw [B4.cell (p := ⟨w.heap.size + 1, 0, none⟩) (by simp; omega)]; go_simp
  have s3 : W4.cell? ⟨w.heap.size + 1, 1, none⟩ = some (.slice none 0 0) := by rw [B4.cell (p := ⟨w.heap.size + 1, 1, none⟩) (by simp; omega)]; go_simp
  have s4 : ∀ o, W4.frozen? ⟨w.heap.size + 1, o, none⟩ = false := fun o => by rw [B4.frozen (p := ⟨w.heap.size + 1, o, none⟩) (by simp; omega)]; go_simp
  have s5 : ∀ o, W4.frozen? ⟨w.heap.size, o, none⟩ = false := fun o => by rw [B4.frozen (p := ⟨w.heap.size, o, none⟩) (by simp; omega)]; go_simp
  have HT4 := hid ((HT.out _).kept hgrow (by
    cases h : Value.ownBlock (.slice ta2 C.trusts.length tc2) with
    | none => exact .inl rfl
    | some k => exact .inr (fun e => HAP.out k h e.symm)))
  have HN4 := hid hrow
  have HB4 := hid ((HB.out _).trans (B4.mono (by omega)))
  clear B4 hgrow hrow hat r0 r1 r2 r3 r4 r5
  go_wp2_with fail
  go_region
  all_goals go_wp2_with fail
  have f1 := ownsRow_below (ownsRow_setCell_below (ownsRow_setCell_below (ownsRow_setCell_below HT4.out (a := ⟨w.heap.size, 1, none⟩) (by simp; omega) (.slice (some ⟨g, 0, none⟩) (C.nonces.length + 1) cap')) (a := ⟨w.heap.size + 1, 0, none⟩) (by simp; omega) (.slice ta2 C.trusts.length tc2)) (a := ⟨w.heap.size + 1, 1, none⟩) (by simp; omega) (.slice (some ⟨g, 0, none⟩) (C.nonces.length + 1) cap')) (below_drew _)
  have f2 := ownsRow_below (ownsRow_setCell_below (ownsRow_setCell_below (ownsRow_setCell_below HN4.out (a := ⟨w.heap.size, 1, none⟩) (by simp; omega) (.slice (some ⟨g, 0, none⟩) (C.nonces.length + 1) cap')) (a := ⟨w.heap.size + 1, 0, none⟩) (by simp; omega) (.slice ta2 C.trusts.length tc2)) (a := ⟨w.heap.size + 1, 1, none⟩) (by simp; omega) (.slice (some ⟨g, 0, none⟩) (C.nonces.length + 1) cap')) (below_drew _)
  refine bodyPost_ret (v := .tuple #[.agg #[.slice ta2 C.trusts.length tc2, .slice (some ⟨g, 0, none⟩) (C.nonces.length + 1) cap'], .int .i64 (C.nonces.length + 1), .int .i64 0]) (by simp [results, Tryd.results114, go_sem, s2, s3]) rfl (Chal3.mk HD.out (chalAt_own f1 (by rw [intCells_snoc]; exact f2) rfl (by simp)) ?_)
  exact (((HB4.out.setCell (by simp) _).setCell (by simp) _).setCell (by simp) _).drew


end Go.Proofs.YtohaapnkipiocaaDoor
