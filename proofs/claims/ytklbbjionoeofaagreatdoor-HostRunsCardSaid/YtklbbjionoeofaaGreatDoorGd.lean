/- Rows of structs in memory of the call's own, each with a row of ints of its own. Plain laws; no program is walked.
image.Copy, walked. Conditions: those that each contract writes.
trust.Check and its reference, walked. Conditions: those that each contract writes.
append onto nil, whatever is appended, a nil slice too: laws for the walk and for a region that draws. No program.
trust.Ask, Look and their references, walked. Conditions: those that each contract writes.
trust.Ask and its reference, walked. Conditions: those that each contract writes. -/
import Derived.Test.YtklbbjionoeofaaGreatDoorGb
import Derived.Deep.AppendLies
namespace Go.Proofs.YtklbbjionoeofaaGreatDoor
open Go.RowKit

/-- The cells of a slice literal of one element. -/
theorem news_new {W : World} {n : Nat} (hn : W.heap.size = n) (cs : Array Value) (t : TypeId) : ∀ j u, cs.toList[j]? = some u → (W.alloc (.cells cs t)).cell? ((⟨n, 0, none⟩ : Addr).add j) = some u := by
  subst hn
  exact World.news_of_block (heap_alloc_new _ _)
theorem below_alloc (W : World) (X : Obj) : Below W.heap.size W (W.alloc X) := (Below.refl _ _).alloc (Nat.le_refl _) X

structure OwnRows {α : Type} (fc : α × Value → List Value) (ws : α → List Int) (T k : Nat) (base : Nat) (W : World) (ov : Value) (F : List (α × Value)) : Prop where
  row : W.ownsRow base T k ov F.length (F.flatMap fc)
  sub : ∀ (i : Nat) (p : α × Value), F[i]? = some p → W.ownsRow base 3 1 p.2 (ws p.1).length (intCells (ws p.1)) ∧ Apart p.2 ov
  dis : ∀ (i j : Nat) (p q : α × Value), i ≠ j → F[i]? = some p → F[j]? = some q → Apart p.2 q.2

section
variable {α : Type} {fc : α × Value → List Value} {ws : α → List Int} {T k base : Nat} {W W' : World} {ov : Value} {F : List (α × Value)}
theorem OwnRows.nil : OwnRows fc ws T k base W (.slice none 0 0) [] :=
  ⟨World.ownsRow_nil _ _ _ _, fun i p h => by simp at h, fun i j p q _ h => by simp at h⟩
theorem OwnRows.below (h : OwnRows fc ws T k base W ov F) (hb : Below W.heap.size W W') : OwnRows fc ws T k base W' ov F :=
  ⟨ownsRow_below h.row hb, fun i p hp => ⟨ownsRow_below (h.sub i p hp).1 hb, (h.sub i p hp).2⟩, h.dis⟩
theorem OwnRows.mono {b' : Nat} (h : OwnRows fc ws T k base W ov F) (hb : b' ≤ base) : OwnRows fc ws T k b' W ov F :=
  ⟨ownsRow_mono h.row hb, fun i p hp => ⟨ownsRow_mono (h.sub i p hp).1 hb, (h.sub i p hp).2⟩, h.dis⟩
/-- An append of one more. -/
theorem OwnRows.push (h : OwnRows fc ws T k base W ov F) (x : α) (wv : Value) (hw : W.ownsRow base 3 1 wv (ws x).length (intCells (ws x))) (ho : Apart wv ov)
    (hf : ∀ (i : Nat) (p : α × Value), F[i]? = some p → Apart p.2 wv) {g n cap : Nat} (hrow : W'.ownsRow base T k (.slice (some ⟨g, 0, none⟩) n cap) n (F.flatMap fc ++ fc (x, wv))) (hn : n = F.length + 1)
    (hg : W.grownBy W' ov.ownBlock) (hat : ov.ownBlock = some g ∨ g = W.heap.size) : OwnRows fc ws T k base W' (.slice (some ⟨g, 0, none⟩) n cap) (F ++ [(x, wv)]) := by
  subst hn
  have hne : ∀ {e s : Nat} {v : Value} {m : Nat} {xs : List Value}, W.ownsRow base e s v m xs → Apart v ov → Apart v (.slice (some ⟨g, 0, none⟩) (F.length + 1) cap) := fun hv ha b hb hb' => by
    simp only [Value.ownBlock, Option.some.injEq] at hb'
    subst hb'
    rcases hat with hat | hat
    · exact ha g hb hat
    · have := (hv.lt g hb).2
      omega
  have hkeep : ∀ {e s : Nat} {v : Value} {m : Nat} {xs : List Value}, W.ownsRow base e s v m xs → Apart v ov → W'.ownsRow base e s v m xs := fun {e s v m xs} hv ha => hv.kept hg (by
    cases hvb : v.ownBlock with
    | none => exact .inl rfl
    | some b => exact .inr fun e => ha b hvb e.symm)
  have hget : ∀ (i : Nat) (p : α × Value), (F ++ [(x, wv)])[i]? = some p → (i < F.length ∧ F[i]? = some p) ∨ (i = F.length ∧ p = (x, wv)) := fun i p hp => by
    by_cases hi : i < F.length
    · rw [List.getElem?_append_left hi] at hp
      exact .inl ⟨hi, hp⟩
    · rw [List.getElem?_append_right (by omega)] at hp
      cases hk : i - F.length with
      | zero => rw [hk] at hp; simp only [List.getElem?_cons_zero, Option.some.injEq] at hp; exact .inr ⟨by omega, hp.symm⟩
      | succ k => rw [hk] at hp; simp at hp
  refine ⟨?_, fun i p hp => ?_, fun i j p q hij hp hq => ?_⟩
  · rw [List.length_append, List.flatMap_append]
    simpa using hrow
  · rcases hget i p hp with ⟨_, hp'⟩ | ⟨_, rfl⟩
    · obtain ⟨h1, h2⟩ := h.sub i p hp'
      exact ⟨hkeep h1 h2, hne h1 h2⟩
    · exact ⟨hkeep hw ho, hne hw ho⟩
  · rcases hget i p hp with ⟨hi, hp'⟩ | ⟨hi, rfl⟩ <;> rcases hget j q hq with ⟨hj, hq'⟩ | ⟨hj, rfl⟩
    · exact h.dis i j p q hij hp' hq'
    · exact hf i p hp'
    · exact (hf j q hq').symm
    · omega
/-- What is new is apart from what was there. -/
theorem OwnRows.apart_new (h : OwnRows fc ws T k base W ov F) {W1 : World} {b1 e s m : Nat} {v : Value} {xs : List Value} (hv : W1.ownsRow b1 e s v m xs) (hb : W.heap.size ≤ b1) : Apart v ov ∧ ∀ (i : Nat) (p : α × Value), F[i]? = some p → Apart p.2 v :=
  ⟨(apart_of_lt h.row hv hb).symm, fun i p hp => apart_of_lt (h.sub i p hp).1 hv hb⟩
end

abbrev OwnPages (base : Nat) (W : World) (ov : Value) (F : List (PageD × Value)) : Prop := OwnRows pcs PageD.words 118 3 base W ov F
abbrev OwnFrames (base : Nat) (W : World) (ov : Value) (F : List (FrameD × Value)) : Prop := OwnRows fcs FrameD.words 73 4 base W ov F

section
variable {w : World} {base : Nat} {ov : Value}
theorem OwnRows.pages {F : List (PageD × Value)} (h : OwnPages base w ov F) : ∃ a c, ov = .slice a F.length c ∧ PagesAt w a (F.map (·.1)) := by
  obtain ⟨a, c, rfl, hc⟩ := CellsAt.of_own h.row
  refine ⟨a, c, rfl, fun i x hx => ?_⟩
  simp only [List.getElem?_map, Option.map_eq_some_iff] at hx
  obtain ⟨p, hp, rfl⟩ := hx
  obtain ⟨wa, wc, hw, hwc⟩ := CellsAt.of_own (h.sub i p hp).1
  have g := fun j hj => flat_get pcs 3 pcs_len F i j hj
  obtain ⟨b, off, rfl, h0⟩ := hc (i * 3 + 0) (.int .i64 p.1.pl) (by rw [g 0 (by decide), hp]; rfl)
  have k := fun (j : Nat) (u : Value) (hu : (F.flatMap pcs)[i * 3 + j]? = some u) => (show (World.cell? w ⟨b, off + i * 3 + j, none⟩ = some u) from by
    obtain ⟨b1, off1, e1, h1⟩ := hc (i * 3 + j) u hu
    cases e1
    rw [Nat.add_assoc]; exact h1)
  exact ⟨b, off, wa, wc, rfl, h0, k 1 _ (by rw [g 1 (by decide), hp]; rfl), (k 2 _ (by rw [g 2 (by decide), hp]; rfl)).trans (by rw [hw]), hwc.ints⟩
theorem OwnRows.frames {F : List (FrameD × Value)} (h : OwnFrames base w ov F) : ∃ a c, ov = .slice a F.length c ∧ FramesAt w a (F.map (·.1)) := by
  obtain ⟨a, c, rfl, hc⟩ := CellsAt.of_own h.row
  refine ⟨a, c, rfl, fun i x hx => ?_⟩
  simp only [List.getElem?_map, Option.map_eq_some_iff] at hx
  obtain ⟨p, hp, rfl⟩ := hx
  obtain ⟨wa, wc, hw, hwc⟩ := CellsAt.of_own (h.sub i p hp).1
  have g := fun j hj => flat_get fcs 4 fcs_len F i j hj
  obtain ⟨b, off, rfl, h0⟩ := hc (i * 4 + 0) (.int .i64 p.1.owner) (by rw [g 0 (by decide), hp]; rfl)
  have k := fun (j : Nat) (u : Value) (hu : (F.flatMap fcs)[i * 4 + j]? = some u) => (show (World.cell? w ⟨b, off + i * 4 + j, none⟩ = some u) from by
    obtain ⟨b1, off1, e1, h1⟩ := hc (i * 4 + j) u hu
    cases e1
    rw [Nat.add_assoc]; exact h1)
  exact ⟨b, off, wa, wc, rfl, h0, k 1 _ (by rw [g 1 (by decide), hp]; rfl), k 2 _ (by rw [g 2 (by decide), hp]; rfl), (k 3 _ (by rw [g 3 (by decide), hp]; rfl)).trans (by rw [hw]), hwc.ints⟩
end

end Go.Proofs.YtklbbjionoeofaaGreatDoor

namespace Go.Proofs.YtklbbjionoeofaaGreatDoor
open Go.RowKit

def PagesRes (base : Nat) (l : List PageD) (w : World) (e : Ending) (w' : World) : Prop :=
  ∃ a c F, e = .returned (.slice a l.length c) ∧ F.map Prod.fst = l ∧ OwnPages base w' (.slice a l.length c) F ∧ Below base w w'
theorem infoPages : (Tryz.prog.info? 118).map (fun i => (i.zero, i.size, i.bytes)) = some (some (.agg #[.int .i64 0, .int .i64 0, .slice none 0 0]), 3, 40) := by kernel_rfl

end Go.Proofs.YtklbbjionoeofaaGreatDoor

namespace Go.Proofs.YtklbbjionoeofaaGreatDoor
open Go.RowKit

def longB (s : ByteArray) : Bool := decide (1000 < s.size)
theorem trustCheck1 (s : ByteArray) (w : World) : Calls Tryz.prog 33 #[.string s] w fun e w' => e = .returned (.bool (longB s)) ∧ w = w' := by
  by_cases h1 : 1000 < s.size
  all_goals
    go_enter Tryz.func33, Tryz.ntmps33
    go_wp2
    go_ret
    exact ⟨by simp [longB]; omega, rfl⟩
theorem trustCheck2 (n : Int) (w : World) : Calls Tryz.prog 35 #[.int .i64 n] w fun e w' => e = .returned (.bool (!inR n 0 1)) ∧ w = w' := by
  by_cases h1 : n < 0
  all_goals by_cases h2 : 1 < n
  all_goals
    go_enter Tryz.func35, Tryz.ntmps35
    go_wp2
    all_goals
      go_ret
      refine ⟨?_, rfl⟩
      simp [inR]; omega
theorem enters_tc1 : ∀ args w, (callFunc 33 args).run Tryz.prog w = .ok (.enter 33 args) w := enters_of Tryz.func33 (by kernel_rfl) rfl
theorem enters_tc2 : ∀ args w, (callFunc 35 args).run Tryz.prog w = .ok (.enter 35 args) w := enters_of Tryz.func35 (by kernel_rfl) rfl

def chalF (C : ChalD) : Int := if decide (4 < C.trusts.length) || decide (20 < C.nonces.length) then 1 else if C.trusts.any longB || C.nonces.any (fun n => !inR n 0 1) then 8 else 0

set_option maxRecDepth 10000 in
set_option maxHeartbeats 800000 in
theorem trustCheck (v : Value) (C : ChalD) (w : World) (hv : ChalAt w v C) (hf : C.Fits) : Calls Tryz.prog 10 #[v] w fun e w' => e = .returned (.int .i64 (chalF C)) ∧ Below w.heap.size w w' := by
  obtain ⟨ta, tc, na, nc, rfl, ht, hn⟩ := hv
  obtain ⟨hft, hfn⟩ := hf
  have HT := hid ht
  have HN := hid hn
  clear ht hn
  have B0 : ∀ X, Below w.heap.size w (w.alloc X) := fun X => by go_grown
  by_cases h1 : 4 < C.trusts.length
  · have HF : Hid (chalF C = 1) := by show chalF C = 1; simp [chalF, h1]
    go_enter Tryz.func10, Tryz.ntmps10
    go_wp2_with fail
    go_ret
    exact ⟨by rw [HF.out]; rfl, B0 _⟩
  by_cases h2 : 20 < C.nonces.length
  · have HF : Hid (chalF C = 1) := by show chalF C = 1; simp [chalF, h2]
    go_enter Tryz.func10, Tryz.ntmps10
    go_wp2_with fail
    go_ret
    exact ⟨by rw [HF.out]; rfl, B0 _⟩
  have HF : Hid (chalF C = if C.trusts.any longB || C.nonces.any (fun n => !inR n 0 1) then 8 else 0) := by show chalF C = _; simp [chalF, h1, h2]
  go_enter Tryz.func10, Tryz.ntmps10
  go_wp2_with fail
  refine (containsFuncStrs 33 #[] ta C.trusts C.trusts.length tc longB _ (by omega) rfl enters_tc1 (HT.out.mono (B0 _)) (fun i x _ W hW => (trustCheck1 x W).mono fun e w' ⟨he, hw⟩ => ⟨he, hw ▸ Below.refl _ _⟩)).mono ?_
  rintro e w1 ⟨rfl, hb1⟩
  have p1 : w1.cell? ⟨w.heap.size, 1, none⟩ = some (.slice na C.nonces.length nc) := by rw [(bcell hb1).1 _ _ (by go_size)]; simp [go_sem]
  have B1 : Below w.heap.size w w1 := (B0 _).trans (hb1.mono (by go_size))
  clear hb1
  cases hr1 : C.trusts.any longB with
  | true =>
    rw [hr1] at HF
    clear hr1
    go_wp2_with fail
    go_ret
    exact ⟨by rw [HF.out]; rfl, B1⟩
  | false =>
    rw [hr1] at HF
    clear hr1
    go_wp2_with fail
    refine (containsFuncInts 35 #[] na C.nonces C.nonces.length nc (fun n => !inR n 0 1) _ (by omega) rfl enters_tc2 (HN.out.mono B1) (fun i x _ W hW => (trustCheck2 x W).mono fun e w' ⟨he, hw⟩ => ⟨he, hw ▸ Below.refl _ _⟩)).mono ?_
    rintro e w2 ⟨rfl, hb2⟩
    generalize (C.nonces.any fun n => !inR n 0 1) = r at HF ⊢
    cases r
    all_goals
      go_wp2_with fail
      go_ret
      exact ⟨by rw [HF.out]; rfl, B1.trans (hb2.mono B1.size)⟩

set_option maxRecDepth 10000 in
set_option maxHeartbeats 1600000 in
theorem refChalFault (v : Value) (C : ChalD) (w : World) (hv : ChalAt w v C) (hf : C.Fits) : Calls Tryz.prog 13 #[v] w fun e w' => e = .returned (.int .i64 (chalF C)) ∧ Below w.heap.size w w' := by
  obtain ⟨ta, tc, na, nc, rfl, ht, hn⟩ := hv
  obtain ⟨hft, hfn⟩ := hf
  have HT := hid ht
  have HN := hid hn
  clear ht hn
  have B0 : ∀ X, Below w.heap.size w (w.alloc X) := fun X => by go_grown
  by_cases h1 : 4 < C.trusts.length
  · have HF : Hid (chalF C = 1) := by show chalF C = 1; simp [chalF, h1]
    go_enter Tryz.func13, Tryz.ntmps13
    go_wp2_with fail
    go_ret
    exact ⟨by rw [HF.out]; rfl, B0 _⟩
  by_cases h2 : 20 < C.nonces.length
  · have HF : Hid (chalF C = 1) := by show chalF C = 1; simp [chalF, h2]
    go_enter Tryz.func13, Tryz.ntmps13
    go_wp2_with fail
    go_ret
    exact ⟨by rw [HF.out]; rfl, B0 _⟩
  have HF : Hid (chalF C = if C.trusts.any longB || C.nonces.any (fun n => !inR n 0 1) then 8 else 0) := by show chalF C = _; simp [chalF, h1, h2]
  go_enter Tryz.func13, Tryz.ntmps13
  go_wp2_with fail
  refine wp_gen (fun W0 => Below w.heap.size w W0 ∧ W0.cell? ⟨w.heap.size, 0, none⟩ = some (.slice ta C.trusts.length tc) ∧ W0.cell? ⟨w.heap.size, 1, none⟩ = some (.slice na C.nonces.length nc)) ⟨by go_grown, by simp [go_sem], by simp [go_sem]⟩ ?_
  rintro W0 ⟨hb0, c0, c1⟩
  go_loop [3] (fun j => ∃ i : Nat, i ≤ C.trusts.length ∧ j = .int .i64 i ∧ Hid (∀ (j : Nat) y, j < i → C.trusts[j]? = some y → longB y = false)) (fun j => C.trusts.length - (intOf j).toNat)
  case atStart => exact ⟨0, by omega, rfl, fun _ _ h => by omega⟩
  case round =>
    obtain ⟨i, hi, rfl, HI⟩ := hrel
    by_cases hlt : i < C.trusts.length
    · obtain ⟨x, hx⟩ : ∃ x, C.trusts[i]? = some x := ⟨_, List.getElem?_eq_getElem hlt⟩
      obtain ⟨b, off, rfl, k0⟩ := HT.out i x hx
      have l0 := cell_later hb0 k0
      have HX := hid hx
      clear hx k0
      by_cases hlong : 1000 < x.size
      · go_wp2_with fail
        go_ret
        refine ⟨?_, hb0⟩
        rw [HF.out, show C.trusts.any longB = true from List.any_eq_true.2 ⟨x, List.mem_of_getElem? HX.out, by simp [longB, hlong]⟩]
        rfl
      · go_wp2_with fail
        go_round
        case rel =>
          refine ⟨i + 1, by omega, by go_num, fun j y hj hy => ?_⟩
          by_cases hji : j < i
          · exact HI.out j y hji hy
          · obtain rfl : j = i := by omega
            rw [HX.out] at hy
            rw [← Option.some.inj hy]
            simp only [longB, decide_eq_false_iff_not]
            omega
        case measure => simp [intOf]; omega
    · have HA : Hid (C.trusts.any longB = false) := by
        show _ = false
        rw [List.any_eq_false]
        intro y hy
        obtain ⟨j, hj, rfl⟩ := List.getElem_of_mem hy
        rw [HI.out j _ (by omega) (List.getElem?_eq_getElem hj)]
        simp
      rw [HA.out] at HF
      clear HA HI
      go_wp2_with fail
      go_loop [4] (fun j => ∃ i : Nat, i ≤ C.nonces.length ∧ j = .int .i64 i ∧ Hid (∀ (j : Nat) y, j < i → C.nonces[j]? = some y → inR y 0 1 = true)) (fun j => C.nonces.length - (intOf j).toNat)
      case atStart => exact ⟨0, by omega, rfl, fun _ _ h => by omega⟩
      case round =>
        obtain ⟨i, hi, rfl, HI⟩ := hrel
        by_cases hlt : i < C.nonces.length
        · obtain ⟨x, hx⟩ : ∃ x, C.nonces[i]? = some x := ⟨_, List.getElem?_eq_getElem hlt⟩
          obtain ⟨b, off, rfl, k0⟩ := HN.out i x hx
          have l0 := cell_later hb0 k0
          have HX := hid hx
          clear hx k0
          cases hin : inR x 0 1 with
          | true =>
            have HY := hid hin
            clear hin
            go_wp2_with fail
            refine (in_any x 0 1 _).mono ?_
            rintro e w' ⟨rfl, rfl⟩
            rw [HY.out]
            go_wp2_with fail
            go_round
            case rel =>
              refine ⟨i + 1, by omega, by go_num, fun j y hj hy => ?_⟩
              by_cases hji : j < i
              · exact HI.out j y hji hy
              · obtain rfl : j = i := by omega
                rw [HX.out] at hy
                rw [← Option.some.inj hy]
                exact HY.out
            case measure => simp [intOf]; omega
          | false =>
            have HY := hid hin
            clear hin
            go_wp2_with fail
            refine (in_any x 0 1 _).mono ?_
            rintro e w' ⟨rfl, rfl⟩
            rw [HY.out]
            go_wp2_with fail
            go_ret
            refine ⟨?_, hb0⟩
            rw [HF.out, show (C.nonces.any fun n => !inR n 0 1) = true from List.any_eq_true.2 ⟨x, List.mem_of_getElem? HX.out, by rw [HY.out]; rfl⟩]
            rfl
        · have HA : Hid ((C.nonces.any fun n => !inR n 0 1) = false) := by
            show _ = false
            rw [List.any_eq_false]
            intro y hy
            obtain ⟨j, hj, rfl⟩ := List.getElem_of_mem hy
            rw [HI.out j _ (by omega) (List.getElem?_eq_getElem hj)]
            simp
          rw [HA.out] at HF
          clear HA HI
          go_wp2_with fail
          go_ret
          exact ⟨by rw [HF.out]; rfl, hb0⟩

end Go.Proofs.YtklbbjionoeofaaGreatDoor

namespace Go.Proofs.YtklbbjionoeofaaGreatDoor
open Go.RowKit

section
variable {P : Program} {w : World}
theorem run_append_nil_none (t ty e : TypeId) (i : TypeInfo) (ht : P.underlying t = some (.slice e)) (hi : P.info? e = some i) (c : Nat) :
    (Builtin.append_ #[t, t] ty #[.slice none 0 0, .slice none 0 c]).run P w = .ok (.slice none 0 0) w := by
  simp [Builtin.append_, run_underlying ht, sizeOf, typeInfo, hi, Builtin.lenOf, Builtin.firstCells]

theorem run_append_nil (t ty e : TypeId) (i : TypeInfo) (z : Value) (size bytes : Nat) (ht : P.underlying t = some (.slice e)) (hi : P.info? e = some i) (hz : i.zero = some z)
    (hsize : i.size = size) (hby : i.bytes = bytes) (hzs : z.cells.size = size) (hsz : 0 < size) (ao : Option Addr) (m c : Nat) (news : List Value) (hl : news.length = m * size) (hnews : CellsAt w ao news) (h1 : ∀ u ∈ news, u.oneCell' = true)
    (h63 : m ≤ maxLen) (hbytes : m * bytes ≤ 140737488355328) :
    ∃ g cap w', (Builtin.append_ #[t, t] ty #[.slice none 0 0, .slice ao m c]).run P w = .ok (.slice g m cap) w' ∧ w'.ownsRow w.heap.size e size (.slice g m cap) m news ∧ w.grownBy w' none := by
  cases ao with
  | none =>
    have hn : news = [] := by
      cases news with
      | nil => rfl
      | cons u us => obtain ⟨b, off, e, _⟩ := hnews 0 u rfl; cases e
    subst hn
    have hm : m = 0 := by
      simp only [List.length_nil] at hl
      rcases Nat.mul_eq_zero.1 hl.symm with h | h
      · exact h
      · omega
    subst hm
    exact ⟨none, 0, w, run_append_nil_none t ty e i ht hi c, World.ownsRow_nil _ _ _ _, ⟨rfl, rfl, rfl, Nat.le_refl _, fun _ _ _ => rfl⟩⟩
  | some ad =>
    obtain ⟨v', w', hr, hown, hg, _⟩ := run_append_own (P := P) w w.heap.size t ty e i z size bytes ht hi hz hsize hby hzs hsz (.slice none 0 0) 0 [] (World.ownsRow_nil _ _ _ _) ad m c news hl
      (fun j u hj => by
        obtain ⟨b, off, e, h⟩ := hnews j u hj
        obtain rfl := Option.some.inj e
        rw [add_plain]
        exact h) h1 (by omega) (by rw [Nat.zero_add]; exact hbytes) (Nat.le_refl _)
    simp only [Nat.zero_add, List.nil_append] at hown
    obtain ⟨g, cap, rfl, _⟩ := CellsAt.of_own hown
    exact ⟨g, cap, w', hr, hown, hg⟩

theorem wp_append_nil {o : Oper} {a : Act} {K : Act → World → Prop} {Q : Exit → Act → World → Prop} (s x : Operand) (t : TypeId)
    (ho : o.op = .call { callee := .builtin .append, args := #[s, x], argTypes := #[t, t] }) (e : TypeId) (i : TypeInfo) (z : Value) (size bytes : Nat) (ht : P.underlying t = some (.slice e)) (hi : P.info? e = some i) (hz : i.zero = some z)
    (hsize : i.size = size) (hby : i.bytes = bytes) (hzs : z.cells.size = size) (hsz : 0 < size) (hs : a.eval s = .slice none 0 0) (ao : Option Addr) (m c : Nat) (news : List Value) (hx : a.eval x = .slice ao m c) (hl : news.length = m * size) (hnews : CellsAt w ao news)
    (h1 : ∀ u ∈ news, u.oneCell' = true) (h63 : m ≤ maxLen) (hbytes : m * bytes ≤ 140737488355328)
    (h : ∀ g cap w', w'.ownsRow w.heap.size e size (.slice g m cap) m news → w.grownBy w' none → K (a.put o.dst (.slice g m cap)) w') : o.wp P a w K Q := by
  obtain ⟨g, cap, w', hr, h2, h3⟩ := run_append_nil (P := P) (w := w) t o.type e i z size bytes ht hi hz hsize hby hzs hsz ao m c news hl hnews h1 h63 hbytes
  unfold Oper.wp execOp
  simp only [ho, resolve, invoke, builtin, Sem.run_bind, Sem.run_pure, Result.andThen_ok, List.map_toArray, List.map_cons, List.map_nil, hs, hx, hr]
  exact h g cap w' h2 h3

theorem wpList_append_nil {ops : Array Oper} {rest : List Oper} {o : Oper} {a : Act} {Q : Exit → Act → World → Prop} (hgd : o.guard = none) (s x : Operand) (t : TypeId)
    (ho : o.op = .call { callee := .builtin .append, args := #[s, x], argTypes := #[t, t] }) (e : TypeId) (i : TypeInfo) (z : Value) (size bytes : Nat) (ht : P.underlying t = some (.slice e)) (hi : P.info? e = some i) (hz : i.zero = some z)
    (hsize : i.size = size) (hby : i.bytes = bytes) (hzs : z.cells.size = size) (hsz : 0 < size) (hs : a.eval s = .slice none 0 0) (ao : Option Addr) (m c : Nat) (news : List Value) (hx : a.eval x = .slice ao m c) (hl : news.length = m * size) (hnews : CellsAt w ao news)
    (h1 : ∀ u ∈ news, u.oneCell' = true) (h63 : m ≤ maxLen) (hbytes : m * bytes ≤ 140737488355328)
    (h : ∀ g cap w', w'.ownsRow w.heap.size e size (.slice g m cap) m news → w.grownBy w' none → wpList P ops Q rest (a.put o.dst (.slice g m cap)) w') : wpList P ops Q (o :: rest) a w :=
  wpList_plain hgd fun _ hK => wp_append_nil s x t ho e i z size bytes ht hi hz hsize hby hzs hsz hs ao m c news hx hl hnews h1 h63 hbytes fun g cap w' h2 h3 => hK _ _ (h g cap w' h2 h3)

theorem step_append_nil {ops : Array Oper} {o : Oper} {a : Act} {K : Act → World → Prop} {Q : Exit → Act → World → Prop} {E : Prop} (hgd : o.guard = none) (s x : Operand) (t : TypeId)
    (ho : o.op = .call { callee := .builtin .append, args := #[s, x], argTypes := #[t, t] }) (e : TypeId) (i : TypeInfo) (z : Value) (size bytes : Nat) (ht : P.underlying t = some (.slice e)) (hi : P.info? e = some i) (hz : i.zero = some z)
    (hsize : i.size = size) (hby : i.bytes = bytes) (hzs : z.cells.size = size) (hsz : 0 < size) (hs : a.eval s = .slice none 0 0) (ao : Option Addr) (m c : Nat) (news : List Value) (hx : a.eval x = .slice ao m c) (hl : news.length = m * size) (hnews : CellsAt w ao news)
    (h1 : ∀ u ∈ news, u.oneCell' = true) (h63 : m ≤ maxLen) (hbytes : m * bytes ≤ 140737488355328)
    (h : ∀ g cap w', w'.ownsRow w.heap.size e size (.slice g m cap) m news → w.grownBy w' none → K (a.put o.dst (.slice g m cap)) w') : if Region.wanted o (yielded ops a.tmps) = true then Oper.wp P o a w K Q else E := by
  have hw : Region.wanted o (yielded ops a.tmps) = true := by simp [Region.wanted, hgd]
  rw [if_pos hw]
  exact wp_append_nil s x t ho e i z size bytes ht hi hz hsize hby hzs hsz hs ao m c news hx hl hnews h1 h63 hbytes h
theorem below_grown {w' : World} (h : w.grownBy w' none) : Below w.heap.size w w' := (Below.refl _ _).grown h (Nat.le_refl _) (fun k hk => by cases hk)
end

end Go.Proofs.YtklbbjionoeofaaGreatDoor

namespace Go.Proofs.YtklbbjionoeofaaGreatDoor
open Go.RowKit

/- ref.ChallengerCopy: a challenger in memory of its own. -/
set_option maxRecDepth 10000 in
set_option maxHeartbeats 1600000 in
theorem refChalCopy (v : Value) (C : ChalD) (w : World) (hv : ChalAt w v C) (hf : C.Fits) : Calls Tryz.prog 28 #[v] w (ChalRes w.heap.size C w) := by
  obtain ⟨ta, tc, na, nc, rfl, ht, hn⟩ := hv
  obtain ⟨hft, hfn⟩ := hf
  obtain ⟨i0, hi0, hz0, hz1, hz2⟩ := info_parts infoStrs
  obtain ⟨j0, hj0, hy0, hy1, hy2⟩ := info_parts infoInts
  have HT := hid ht
  have HN := hid hn
  clear ht hn
  go_enter Tryz.func28, Tryz.ntmps28
  go_wp2_with fail
  go_region_held3 (fun w' => w'.cell? ⟨w.heap.size, 0, none⟩ = some (.slice ta C.trusts.length tc) ∧ w'.cell? ⟨w.heap.size, 1, none⟩ = some (.slice na C.nonces.length nc))
    (first | go_keep | exact ⟨p0, p1⟩ | exact ⟨q0, q1⟩)
    (first
      | (refine step_append_nil rfl _ _ 22 rfl 9 i0 _ 1 16 Tryz.underlying22 hi0 hz0 hz1 hz2 rfl (by decide) rfl ta C.trusts.length tc (strCells C.trusts) rfl (by simp [strCells]) (HT.out.cells.mono (by go_grown)) (strCells_one _) (by unfold maxLen; omega) (by omega) ?_
         intro a1 c1 w1 ho1 hg1
         have hb1 := below_grown hg1
         have p0 : w1.cell? ⟨w.heap.size, 0, none⟩ = some (.slice ta C.trusts.length tc) := by rw [(bcell hb1).1 _ _ (by go_size)]; simp [go_sem]
         have p1 : w1.cell? ⟨w.heap.size, 1, none⟩ = some (.slice na C.nonces.length nc) := by rw [(bcell hb1).1 _ _ (by go_size)]; simp [go_sem]
         have p2 : w1.cell? ⟨w.heap.size + 1, 0, none⟩ = some (.slice none 0 0) := by rw [(bcell hb1).1 _ _ (by go_size)]; simp [go_sem]
         have p3 : w1.cell? ⟨w.heap.size + 1, 1, none⟩ = some (.slice none 0 0) := by rw [(bcell hb1).1 _ _ (by go_size)]; simp [go_sem]
         have p4 : ∀ o, w1.frozen? ⟨w.heap.size + 1, o, none⟩ = false := fun o => by rw [(bcell hb1).2 _ _ (by go_size)]; simp [go_sem]
         have z1 : w.heap.size + 1 < w1.heap.size := by have := hb1.size; simp at this; omega)
      | (refine step_append_nil rfl _ _ 30 rfl 3 j0 _ 1 8 Tryz.underlying30 hj0 hy0 hy1 hy2 rfl (by decide) rfl na C.nonces.length nc (intCells C.nonces) rfl (by simp [intCells]) (HN.out.cells.mono (Below.trans (by go_grown) (hb1.mono (by go_size)))) (intCells_one _) (by unfold maxLen; omega) (by omega) ?_
         intro a2 c2 w2 ho2 hg2
         have hb2 := below_grown hg2
         have q0 : w2.cell? ⟨w.heap.size, 0, none⟩ = some (.slice ta C.trusts.length tc) := by rw [(bcell hb2).1 _ _ (by omega)]; exact p0
         have q1 : w2.cell? ⟨w.heap.size, 1, none⟩ = some (.slice na C.nonces.length nc) := by rw [(bcell hb2).1 _ _ (by omega)]; exact p1
         have q2 : w2.cell? ⟨w.heap.size + 1, 0, none⟩ = some (.slice none 0 0) := by rw [(bcell hb2).1 _ _ (by omega)]; exact p2
         have q3 : w2.cell? ⟨w.heap.size + 1, 1, none⟩ = some (.slice none 0 0) := by rw [(bcell hb2).1 _ _ (by omega)]; exact p3
         have q4 : ∀ o, w2.frozen? ⟨w.heap.size + 1, o, none⟩ = false := fun o => by rw [(bcell hb2).2 _ _ (by omega)]; exact p4 o))
  go_wp2_with fail
  have g1 := ownsRow_setCell_below (ownsRow_setCell_below (ownsRow_below ho1 hb2) (a := ⟨w.heap.size + 1, 0, none⟩) (by go_size) (.slice a1 C.trusts.length c1)) (a := ⟨w.heap.size + 1, 1, none⟩) (by go_size) (.slice a2 C.nonces.length c2)
  have g2 := ownsRow_setCell_below (ownsRow_setCell_below ho2 (a := ⟨w.heap.size + 1, 0, none⟩) (by go_size) (.slice a1 C.trusts.length c1)) (a := ⟨w.heap.size + 1, 1, none⟩) (by go_size) (.slice a2 C.nonces.length c2)
  refine bodyPost_ret (v := .agg #[.slice a1 C.trusts.length c1, .slice a2 C.nonces.length c2]) (by simp [results, Tryz.results28, go_sem, q2, q3]) rfl ⟨_, rfl, ⟨_, _, rfl, ownsRow_mono g1 (by go_size), ownsRow_mono g2 (by omega), apart_of_lt ho1 ho2 (Nat.le_refl _)⟩, ?_⟩
  have B1 : Below w.heap.size w w1 := Below.trans (by go_grown) (hb1.mono (by go_size))
  exact Below.setCell (Below.setCell (B1.trans (hb2.mono (by omega))) (by simp) _) (by simp) _

end Go.Proofs.YtklbbjionoeofaaGreatDoor

namespace Go.Proofs.YtklbbjionoeofaaGreatDoor
open Go.RowKit

def chal0 : ChalD := ⟨[], []⟩
def askD (C : ChalD) : ChalD × Int × Int := if chalF C ≠ 0 then (chal0, 0, chalF C) else if C.nonces.length = 20 then (chal0, 0, 7) else (⟨C.trusts, C.nonces ++ [0]⟩, C.nonces.length + 1, 0)
/-- A challenger that lies in memory from 'base' on. -/
def ChalFrom (base : Nat) (w : World) (v : Value) (C : ChalD) : Prop := ∃ tv nv, v = .agg #[tv, nv] ∧ w.ownsRow base 9 1 tv C.trusts.length (strCells C.trusts) ∧ w.ownsRow base 3 1 nv C.nonces.length (intCells C.nonces)
theorem ChalFrom.at {base : Nat} {w : World} {v : Value} {C : ChalD} (h : ChalFrom base w v C) : ChalAt w v C := by
  obtain ⟨tv, nv, rfl, h1, h2⟩ := h
  obtain ⟨ta, tc, rfl, h3⟩ := CellsAt.of_own h1
  obtain ⟨na, nc, rfl, h4⟩ := CellsAt.of_own h2
  exact ⟨ta, tc, na, nc, rfl, h3.strs, h4.ints⟩
theorem chal0_from {base : Nat} {w : World} : ChalFrom base w (.agg #[.slice none 0 0, .slice none 0 0]) chal0 := ⟨_, _, rfl, World.ownsRow_nil _ _ _ _, World.ownsRow_nil _ _ _ _⟩
theorem chalFrom_own {w : World} {base b b' : Nat} {l1 : List ByteArray} {l2 : List Int} {a1 a2 : Option Addr} {n1 n2 c1 c2 : Nat} (hb : base ≤ b) (hb' : base ≤ b') (h1 : w.ownsRow b 9 1 (.slice a1 n1 c1) n1 (strCells l1)) (h2 : w.ownsRow b' 3 1 (.slice a2 n2 c2) n2 (intCells l2)) (e1 : n1 = l1.length) (e2 : n2 = l2.length) : ChalFrom base w (.agg #[.slice a1 n1 c1, .slice a2 n2 c2]) ⟨l1, l2⟩ := by
  subst e1 e2
  exact ⟨_, _, rfl, ownsRow_mono h1 hb, ownsRow_mono h2 hb'⟩
/-- A call hands back a challenger, a number and an error. -/
def Chal3 (base : Nat) (r : ChalD × Int × Int) (w : World) (e : Ending) (w' : World) : Prop :=
  ∃ v, e = .returned (.tuple #[v, .int .i64 r.2.1, .int .i64 r.2.2]) ∧ ChalFrom base w' v r.1 ∧ Below base w w'
theorem Chal3.mk {base : Nat} {r : ChalD × Int × Int} {w w' : World} {v : Value} {D : ChalD} {k er : Int} (h : r = (D, k, er)) (hv : ChalFrom base w' v D) (hb : Below base w w') : Chal3 base r w (.returned (.tuple #[v, .int .i64 k, .int .i64 er])) w' := by
  subst h
  exact ⟨v, rfl, hv, hb⟩
theorem ownsRow_setCell_ne {w : World} {base : Nat} {e : TypeId} {size : Nat} {v : Value} {n : Nat} {xs : List Value} (h : w.ownsRow base e size v n xs) {a : Addr} (ha : ∀ k, v.ownBlock = some k → k ≠ a.block) (u : Value) : (w.setCell a u).ownsRow base e size v n xs := by
  obtain ⟨h1, h2⟩ := h
  refine ⟨h1, ?_⟩
  rcases h2 with h2 | ⟨g, cap, cur, rfl, hg, hh, r⟩
  · exact Or.inl h2
  · exact Or.inr ⟨g, cap, cur, rfl, hg, by rw [Below.heap_setCell _ _ _ _ (ha g rfl)]; exact hh, r⟩
theorem below_drew (w : World) : Below w.heap.size w w.drew := (Below.refl _ _).drew
theorem intCells_snoc (l : List Int) (x : Int) : intCells (l ++ [x]) = intCells l ++ [.int .i64 x] := by simp [intCells]
theorem chalAt_own {w : World} {b b' : Nat} {l1 : List ByteArray} {l2 : List Int} {a1 a2 : Option Addr} {n1 n2 c1 c2 : Nat} (h1 : w.ownsRow b 9 1 (.slice a1 n1 c1) n1 (strCells l1)) (h2 : w.ownsRow b' 3 1 (.slice a2 n2 c2) n2 (intCells l2)) (e1 : l1.length = n1) (e2 : l2.length = n2) :
    ChalAt w (.agg #[.slice a1 n1 c1, .slice a2 n2 c2]) ⟨l1, l2⟩ := by
  subst e1; subst e2
  obtain ⟨x1, y1, ex, h3⟩ := CellsAt.of_own h1
  obtain ⟨x2, y2, ey, h4⟩ := CellsAt.of_own h2
  rw [← (Value.slice.inj ex).1] at h3
  rw [← (Value.slice.inj ey).1] at h4
  exact ⟨a1, c1, a2, c2, rfl, h3.strs, h4.ints⟩
theorem chal0_at (w : World) : ChalAt w (.agg #[.slice none 0 0, .slice none 0 0]) chal0 := ⟨none, 0, none, 0, rfl, fun _ _ h => by simp [chal0] at h, fun _ _ h => by simp [chal0] at h⟩
theorem chalF_le {C : ChalD} (h : chalF C = 0) : C.trusts.length ≤ 4 ∧ C.nonces.length ≤ 20 := by
  unfold chalF at h
  by_cases h1 : 4 < C.trusts.length
  · simp [h1] at h
  · by_cases h2 : 20 < C.nonces.length
    · simp [h2] at h
    · omega

set_option maxRecDepth 10000 in
set_option maxHeartbeats 1600000 in
theorem trustAsk_no (v : Value) (C : ChalD) (w : World) (hv : ChalAt w v C) (hf : C.Fits) (he : chalF C ≠ 0 ∨ C.nonces.length = 20) : Calls Tryz.prog 45 #[v] w (Chal3 w.heap.size (askD C) w) := by
  have hv' := hv
  obtain ⟨ta, tc, na, nc, rfl, ht, hn⟩ := hv'
  obtain ⟨hft, hfn⟩ := id hf
  have HV := hid hv
  clear hv ht hn
  have B0 : ∀ X Y, Below w.heap.size w ((w.alloc X).alloc Y) := fun X Y => by go_grown
  go_enter Tryz.func45, Tryz.ntmps45
  go_wp2_with fail
  refine (trustCheck _ C _ (HV.out.mono (B0 _ _)) hf).mono ?_
  rintro e w1 ⟨rfl, hb1⟩
  have p1 : w1.cell? ⟨w.heap.size, 1, none⟩ = some (.slice na C.nonces.length nc) := by rw [(bcell hb1).1 _ _ (by go_size)]; simp [go_sem]
  have p2 : w1.cell? ⟨w.heap.size + 1, 0, none⟩ = some (.slice none 0 0) := by rw [(bcell hb1).1 _ _ (by go_size)]; simp [go_sem]
  have p3 : w1.cell? ⟨w.heap.size + 1, 1, none⟩ = some (.slice none 0 0) := by rw [(bcell hb1).1 _ _ (by go_size)]; simp [go_sem]
  have p4 : ∀ o, w1.frozen? ⟨w.heap.size + 1, o, none⟩ = false := fun o => by rw [(bcell hb1).2 _ _ (by go_size)]; simp [go_sem]
  have B1 : Below w.heap.size w w1 := (B0 _ _).trans (hb1.mono (by go_size))
  clear hb1
  by_cases h0 : chalF C = 0
  · have h20 : C.nonces.length = 20 := by omega
    have HD : Hid (askD C = (chal0, 0, 7)) := by show askD C = _; simp [askD, h0, h20]
    have h20b : ((C.nonces.length : Int) == 20) = true := by rw [beq_iff_eq]; omega
    have h20c : (20 : Int) ≤ (C.nonces.length : Int) := by omega
    rw [h0]
    clear he h0 h20
    go_wp2_with fail
    refine bodyPost_ret (v := .tuple #[.agg #[.slice none 0 0, .slice none 0 0], .int .i64 0, .int .i64 7]) (by simp [results, Tryz.results45, go_sem, p2, p3]) rfl (Chal3.mk HD.out chal0_from (Below.setCell (Below.setCell B1 (by simp) _) (by simp) _))
  · have HD : Hid (askD C = (chal0, 0, chalF C)) := by show askD C = _; simp [askD, h0]
    generalize chalF C = E at HD h0 ⊢
    have hE1 : (E != 0) = true := by rw [bne_iff_ne]; exact h0
    have hE2 : (E == 0) = false := by rw [beq_eq_false_iff_ne]; exact h0
    clear h0 he
    go_wp2_with fail
    refine bodyPost_ret (v := .tuple #[.agg #[.slice none 0 0, .slice none 0 0], .int .i64 0, .int .i64 E]) (by simp [results, Tryz.results45, go_sem, p2, p3]) rfl (Chal3.mk HD.out chal0_from (Below.setCell (Below.setCell B1 (by simp) _) (by simp) _))
set_option maxRecDepth 10000 in
set_option maxHeartbeats 1600000 in
theorem refAsked_no (v : Value) (C : ChalD) (w : World) (hv : ChalAt w v C) (hf : C.Fits) (he : chalF C ≠ 0 ∨ C.nonces.length = 20) : Calls Tryz.prog 24 #[v] w (Chal3 w.heap.size (askD C) w) := by
  have hv' := hv
  obtain ⟨ta, tc, na, nc, rfl, ht, hn⟩ := hv'
  obtain ⟨hft, hfn⟩ := id hf
  have HV := hid hv
  clear hv ht hn
  have B0 : ∀ X Y, Below w.heap.size w ((w.alloc X).alloc Y) := fun X Y => by go_grown
  go_enter Tryz.func24, Tryz.ntmps24
  go_wp2_with fail
  refine (refChalFault _ C _ (HV.out.mono (B0 _ _)) hf).mono ?_
  rintro e w1 ⟨rfl, hb1⟩
  have p1 : w1.cell? ⟨w.heap.size, 1, none⟩ = some (.slice na C.nonces.length nc) := by rw [(bcell hb1).1 _ _ (by go_size)]; simp [go_sem]
  have p2 : w1.cell? ⟨w.heap.size + 1, 0, none⟩ = some (.slice none 0 0) := by rw [(bcell hb1).1 _ _ (by go_size)]; simp [go_sem]
  have p3 : w1.cell? ⟨w.heap.size + 1, 1, none⟩ = some (.slice none 0 0) := by rw [(bcell hb1).1 _ _ (by go_size)]; simp [go_sem]
  have p4 : ∀ o, w1.frozen? ⟨w.heap.size + 1, o, none⟩ = false := fun o => by rw [(bcell hb1).2 _ _ (by go_size)]; simp [go_sem]
  have B1 : Below w.heap.size w w1 := (B0 _ _).trans (hb1.mono (by go_size))
  clear hb1
  by_cases h0 : chalF C = 0
  · have h20 : C.nonces.length = 20 := by omega
    have HD : Hid (askD C = (chal0, 0, 7)) := by show askD C = _; simp [askD, h0, h20]
    have h20b : ((C.nonces.length : Int) == 20) = true := by rw [beq_iff_eq]; omega
    have h20c : (20 : Int) ≤ (C.nonces.length : Int) := by omega
    rw [h0]
    clear he h0 h20
    go_wp2_with fail
    refine bodyPost_ret (v := .tuple #[.agg #[.slice none 0 0, .slice none 0 0], .int .i64 0, .int .i64 7]) (by simp [results, Tryz.results24, go_sem, p2, p3]) rfl (Chal3.mk HD.out chal0_from (Below.setCell (Below.setCell B1 (by simp) _) (by simp) _))
  · have HD : Hid (askD C = (chal0, 0, chalF C)) := by show askD C = _; simp [askD, h0]
    generalize chalF C = E at HD h0 ⊢
    have hE1 : (E != 0) = true := by rw [bne_iff_ne]; exact h0
    have hE2 : (E == 0) = false := by rw [beq_eq_false_iff_ne]; exact h0
    clear h0 he
    go_wp2_with fail
    refine bodyPost_ret (v := .tuple #[.agg #[.slice none 0 0, .slice none 0 0], .int .i64 0, .int .i64 E]) (by simp [results, Tryz.results24, go_sem, p2, p3]) rfl (Chal3.mk HD.out chal0_from (Below.setCell (Below.setCell B1 (by simp) _) (by simp) _))


set_option maxRecDepth 10000 in
set_option maxHeartbeats 1600000 in
theorem trustAsk_ok (v : Value) (C : ChalD) (w : World) (hv : ChalAt w v C) (hf : C.Fits) (h0 : chalF C = 0) (h20 : C.nonces.length ≠ 20) : Calls Tryz.prog 45 #[v] w (Chal3 w.heap.size (askD C) w) := by
  have hle := chalF_le h0
  have HD : Hid (askD C = ((⟨C.trusts, C.nonces ++ [0]⟩ : ChalD), (C.nonces.length : Int) + 1, (0 : Int))) := by show askD C = _; simp [askD, h0, h20]
  have hv' := hv
  obtain ⟨ta, tc, na, nc, rfl, ht, hn⟩ := hv'
  obtain ⟨j0, hj0, hy0, hy1, hy2⟩ := info_parts infoInts
  have HV := hid hv
  have H20 : Hid (C.nonces.length ≠ 20) := h20
  have h20b : ((C.nonces.length : Int) == 20) = false := by rw [beq_eq_false_iff_ne]; omega
  have h20c : decide ((20 : Int) ≤ (C.nonces.length : Int)) = false := by rw [decide_eq_false_iff_not]; omega
  clear hv ht hn h20
  have B0 : ∀ X Y, Below w.heap.size w ((w.alloc X).alloc Y) := fun X Y => by go_grown
  go_enter Tryz.func45, Tryz.ntmps45
  go_wp2_with fail
  refine (trustCheck _ C _ (HV.out.mono (B0 _ _)) hf).mono ?_
  rintro e w1 ⟨rfl, hb1⟩
  rw [h0]
  clear h0
  have p0 : w1.cell? ⟨w.heap.size, 0, none⟩ = some (.slice ta C.trusts.length tc) := by rw [(bcell hb1).1 _ _ (by go_size)]; simp [go_sem]
  have p1 : w1.cell? ⟨w.heap.size, 1, none⟩ = some (.slice na C.nonces.length nc) := by rw [(bcell hb1).1 _ _ (by go_size)]; simp [go_sem]
  have p2 : w1.cell? ⟨w.heap.size + 1, 0, none⟩ = some (.slice none 0 0) := by rw [(bcell hb1).1 _ _ (by go_size)]; simp [go_sem]
  have p3 : w1.cell? ⟨w.heap.size + 1, 1, none⟩ = some (.slice none 0 0) := by rw [(bcell hb1).1 _ _ (by go_size)]; simp [go_sem]
  have p4 : ∀ o, w1.frozen? ⟨w.heap.size + 1, o, none⟩ = false := fun o => by rw [(bcell hb1).2 _ _ (by go_size)]; simp [go_sem]
  have p5 : ∀ o, w1.frozen? ⟨w.heap.size, o, none⟩ = false := fun o => by rw [(bcell hb1).2 _ _ (by go_size)]; simp [go_sem]
  have z1 : w.heap.size + 1 < w1.heap.size := by have := hb1.size; simp at this; omega
  have B1 : Below w.heap.size w w1 := (B0 _ _).trans (hb1.mono (by go_size))
  clear hb1
  go_wp2_with fail
  refine (trustCopy _ C _ (HV.out.mono B1) hf).mono ?_
  rintro e w2 ⟨v2, rfl, ⟨tv, nv, rfl, hot, hon, hap⟩, hb2⟩
  obtain ⟨ta2, tc2, rfl, _⟩ := CellsAt.of_own hot
  obtain ⟨na2, nc2, rfl, _⟩ := CellsAt.of_own hon
  have r0 : w2.cell? ⟨w.heap.size, 0, none⟩ = some (.slice ta C.trusts.length tc) := by rw [(bcell hb2).1 _ _ (by omega)]; exact p0
  have r1 : w2.cell? ⟨w.heap.size, 1, none⟩ = some (.slice na C.nonces.length nc) := by rw [(bcell hb2).1 _ _ (by omega)]; exact p1
  have r2 : w2.cell? ⟨w.heap.size + 1, 0, none⟩ = some (.slice none 0 0) := by rw [(bcell hb2).1 _ _ (by omega)]; exact p2
  have r3 : w2.cell? ⟨w.heap.size + 1, 1, none⟩ = some (.slice none 0 0) := by rw [(bcell hb2).1 _ _ (by omega)]; exact p3
  have r4 : ∀ o, w2.frozen? ⟨w.heap.size + 1, o, none⟩ = false := fun o => by rw [(bcell hb2).2 _ _ (by omega)]; exact p4 o
  have r5 : ∀ o, w2.frozen? ⟨w.heap.size, o, none⟩ = false := fun o => by rw [(bcell hb2).2 _ _ (by omega)]; exact p5 o
  have z2 : w1.heap.size ≤ w2.heap.size := hb2.size
  have z3 : w.heap.size + 1 < w2.heap.size := by omega
  have z4 : w.heap.size < w2.heap.size := by omega
  have B2 : Below w.heap.size w w2 := B1.trans (hb2.mono (by omega))
  have HT : Hid (∀ X, World.ownsRow (((w2.setCell ⟨w.heap.size, 0, none⟩ (.slice ta2 C.trusts.length tc2)).setCell ⟨w.heap.size, 1, none⟩ (.slice na2 C.nonces.length nc2)).alloc X) w1.heap.size 9 1 (.slice ta2 C.trusts.length tc2) C.trusts.length (strCells C.trusts)) := fun X =>
    ownsRow_below (ownsRow_setCell_below (ownsRow_setCell_below hot (a := ⟨w.heap.size, 0, none⟩) (by simp; omega) _) (a := ⟨w.heap.size, 1, none⟩) (by simp; omega) _) (below_alloc _ X)
  have HN : Hid (∀ X, World.ownsRow (((w2.setCell ⟨w.heap.size, 0, none⟩ (.slice ta2 C.trusts.length tc2)).setCell ⟨w.heap.size, 1, none⟩ (.slice na2 C.nonces.length nc2)).alloc X) w1.heap.size 3 1 (.slice na2 C.nonces.length nc2) C.nonces.length (intCells C.nonces)) := fun X =>
    ownsRow_below (ownsRow_setCell_below (ownsRow_setCell_below hon (a := ⟨w.heap.size, 0, none⟩) (by simp; omega) _) (a := ⟨w.heap.size, 1, none⟩) (by simp; omega) _) (below_alloc _ X)
  have HB : Hid (∀ X, Below w.heap.size w (((w2.setCell ⟨w.heap.size, 0, none⟩ (.slice ta2 C.trusts.length tc2)).setCell ⟨w.heap.size, 1, none⟩ (.slice na2 C.nonces.length nc2)).alloc X)) := fun X => by
    exact ((B2.setCell (Nat.le_refl _) _).setCell (Nat.le_refl _) _).alloc (by simp; omega) _
  have HAP := hid hap
  clear hot hon hap hb2 p0 p1 p2 p3 p4 p5 B1 B2
  go_wp2_with (at_builtin; refine wpList_append_lies _ rfl _ _ 30 rfl w1.heap.size 3 j0 _ 1 8 Tryz.underlying30 hj0 hy0 hy1 hy2 rfl (by decide) _ C.nonces.length (intCells C.nonces) rfl (HN.out _) ⟨w2.heap.size, 0, none⟩ 1 1 [.int .i64 0] rfl rfl (news_new (by simp) #[_] _) (by simp [Value.oneCell']) (by decide) ?c2 ?c3 ?c4 (w2.heap.size + 1) ?c5 ?_)
  case c2 => unfold maxLen; omega
  case c3 => omega
  case c4 => simp; omega
  case c5 => simp
  intro g cap' W4 hrow hgrow hat hlt
  have B4 : Below w1.heap.size _ W4 := Below.grown (Below.refl _ _) hgrow (by simp; omega) (fun k hk => ((HN.out (.cells #[] 0)).lt k hk).1)
  have s0 : W4.cell? ⟨w.heap.size, 0, none⟩ = some (.slice ta2 C.trusts.length tc2) := by rw [B4.cell (p := ⟨w.heap.size, 0, none⟩) (by simp; omega)]; go_simp
  have s1 : W4.cell? ⟨w.heap.size, 1, none⟩ = some (.slice na2 C.nonces.length nc2) := by rw [B4.cell (p := ⟨w.heap.size, 1, none⟩) (by simp; omega)]; go_simp
  have s2 : W4.cell? ⟨w.heap.size + 1, 0, none⟩ = some (.slice none 0 0) := by rw [B4.cell (p := ⟨w.heap.size + 1, 0, none⟩) (by simp; omega)]; go_simp
  have s3 : W4.cell? ⟨w.heap.size + 1, 1, none⟩ = some (.slice none 0 0) := by rw [B4.cell (p := ⟨w.heap.size + 1, 1, none⟩) (by simp; omega)]; go_simp
  have s4 : ∀ o, W4.frozen? ⟨w.heap.size + 1, o, none⟩ = false := fun o => by rw [B4.frozen (p := ⟨w.heap.size + 1, o, none⟩) (by simp; omega)]; go_simp
  have s5 : ∀ o, W4.frozen? ⟨w.heap.size, o, none⟩ = false := fun o => by rw [B4.frozen (p := ⟨w.heap.size, o, none⟩) (by simp; omega)]; go_simp
  have HT4 := hid ((HT.out _).kept hgrow (by
    cases h : Value.ownBlock (.slice ta2 C.trusts.length tc2) with
    | none => exact .inl rfl
    | some k => exact .inr (fun e => HAP.out k h e.symm)))
  have HN4 := hid hrow
  have HB4 := hid ((HB.out _).trans (B4.mono (by omega)))
  clear B4 hgrow hrow hat r0 r1 r2 r3 r4 r5
  go_wp2_with fail
  go_region
  all_goals go_wp2_with fail
  have f1 := ownsRow_below (ownsRow_setCell_below (ownsRow_setCell_below (ownsRow_setCell_below HT4.out (a := ⟨w.heap.size, 1, none⟩) (by simp; omega) (.slice (some ⟨g, 0, none⟩) (C.nonces.length + 1) cap')) (a := ⟨w.heap.size + 1, 0, none⟩) (by simp; omega) (.slice ta2 C.trusts.length tc2)) (a := ⟨w.heap.size + 1, 1, none⟩) (by simp; omega) (.slice (some ⟨g, 0, none⟩) (C.nonces.length + 1) cap')) (below_drew _)
  have f2 := ownsRow_below (ownsRow_setCell_below (ownsRow_setCell_below (ownsRow_setCell_below HN4.out (a := ⟨w.heap.size, 1, none⟩) (by simp; omega) (.slice (some ⟨g, 0, none⟩) (C.nonces.length + 1) cap')) (a := ⟨w.heap.size + 1, 0, none⟩) (by simp; omega) (.slice ta2 C.trusts.length tc2)) (a := ⟨w.heap.size + 1, 1, none⟩) (by simp; omega) (.slice (some ⟨g, 0, none⟩) (C.nonces.length + 1) cap')) (below_drew _)
  refine bodyPost_ret (v := .tuple #[.agg #[.slice ta2 C.trusts.length tc2, .slice (some ⟨g, 0, none⟩) (C.nonces.length + 1) cap'], .int .i64 (C.nonces.length + 1), .int .i64 0]) (by simp [results, Tryz.results45, go_sem, s2, s3]) rfl (Chal3.mk HD.out (chalFrom_own (b' := w1.heap.size) (by omega) (by omega) f1 (by rw [intCells_snoc]; exact f2) rfl (by simp)) ?_)
  exact (((HB4.out.setCell (by simp) _).setCell (by simp) _).setCell (by simp) _).drew


set_option maxRecDepth 10000 in
set_option maxHeartbeats 1600000 in
theorem refAsked_ok (v : Value) (C : ChalD) (w : World) (hv : ChalAt w v C) (hf : C.Fits) (h0 : chalF C = 0) (h20 : C.nonces.length ≠ 20) : Calls Tryz.prog 24 #[v] w (Chal3 w.heap.size (askD C) w) := by
  have hle := chalF_le h0
  have HD : Hid (askD C = ((⟨C.trusts, C.nonces ++ [0]⟩ : ChalD), (C.nonces.length : Int) + 1, (0 : Int))) := by show askD C = _; simp [askD, h0, h20]
  have hv' := hv
  obtain ⟨ta, tc, na, nc, rfl, ht, hn⟩ := hv'
  obtain ⟨j0, hj0, hy0, hy1, hy2⟩ := info_parts infoInts
  have HV := hid hv
  have H20 : Hid (C.nonces.length ≠ 20) := h20
  have h20b : ((C.nonces.length : Int) == 20) = false := by rw [beq_eq_false_iff_ne]; omega
  have h20c : decide ((20 : Int) ≤ (C.nonces.length : Int)) = false := by rw [decide_eq_false_iff_not]; omega
  clear hv ht hn h20
  have B0 : ∀ X Y, Below w.heap.size w ((w.alloc X).alloc Y) := fun X Y => by go_grown
  go_enter Tryz.func24, Tryz.ntmps24
  go_wp2_with fail
  refine (refChalFault _ C _ (HV.out.mono (B0 _ _)) hf).mono ?_
  rintro e w1 ⟨rfl, hb1⟩
  rw [h0]
  clear h0
  have p0 : w1.cell? ⟨w.heap.size, 0, none⟩ = some (.slice ta C.trusts.length tc) := by rw [(bcell hb1).1 _ _ (by go_size)]; simp [go_sem]
  have p1 : w1.cell? ⟨w.heap.size, 1, none⟩ = some (.slice na C.nonces.length nc) := by rw [(bcell hb1).1 _ _ (by go_size)]; simp [go_sem]
  have p2 : w1.cell? ⟨w.heap.size + 1, 0, none⟩ = some (.slice none 0 0) := by rw [(bcell hb1).1 _ _ (by go_size)]; simp [go_sem]
  have p3 : w1.cell? ⟨w.heap.size + 1, 1, none⟩ = some (.slice none 0 0) := by rw [(bcell hb1).1 _ _ (by go_size)]; simp [go_sem]
  have p4 : ∀ o, w1.frozen? ⟨w.heap.size + 1, o, none⟩ = false := fun o => by rw [(bcell hb1).2 _ _ (by go_size)]; simp [go_sem]
  have p5 : ∀ o, w1.frozen? ⟨w.heap.size, o, none⟩ = false := fun o => by rw [(bcell hb1).2 _ _ (by go_size)]; simp [go_sem]
  have z1 : w.heap.size + 1 < w1.heap.size := by have := hb1.size; simp at this; omega
  have B1 : Below w.heap.size w w1 := (B0 _ _).trans (hb1.mono (by go_size))
  clear hb1
  go_wp2_with fail
  refine (refChalCopy _ C _ (HV.out.mono B1) hf).mono ?_
  rintro e w2 ⟨v2, rfl, ⟨tv, nv, rfl, hot, hon, hap⟩, hb2⟩
  obtain ⟨ta2, tc2, rfl, _⟩ := CellsAt.of_own hot
  obtain ⟨na2, nc2, rfl, _⟩ := CellsAt.of_own hon
  have r2 : w2.cell? ⟨w.heap.size + 1, 0, none⟩ = some (.slice none 0 0) := by rw [(bcell hb2).1 _ _ (by omega)]; exact p2
  have r3 : w2.cell? ⟨w.heap.size + 1, 1, none⟩ = some (.slice none 0 0) := by rw [(bcell hb2).1 _ _ (by omega)]; exact p3
  have r4 : ∀ o, w2.frozen? ⟨w.heap.size + 1, o, none⟩ = false := fun o => by rw [(bcell hb2).2 _ _ (by omega)]; exact p4 o
  have z2 : w1.heap.size ≤ w2.heap.size := hb2.size
  have z3 : w.heap.size + 1 < w2.heap.size := by omega
  have z6 : w.heap.size < w2.heap.size := by omega
  have B2 : Below w.heap.size w w2 := B1.trans (hb2.mono (by omega))
  have HT : Hid (∀ X Y, World.ownsRow ((w2.alloc X).alloc Y) w1.heap.size 9 1 (.slice ta2 C.trusts.length tc2) C.trusts.length (strCells C.trusts)) := fun X Y => ownsRow_below (ownsRow_below hot (below_alloc _ X)) (below_alloc _ Y)
  have HN : Hid (∀ X Y, World.ownsRow ((w2.alloc X).alloc Y) w1.heap.size 3 1 (.slice na2 C.nonces.length nc2) C.nonces.length (intCells C.nonces)) := fun X Y => ownsRow_below (ownsRow_below hon (below_alloc _ X)) (below_alloc _ Y)
  have HB : Hid (∀ X Y, Below w.heap.size w ((w2.alloc X).alloc Y)) := fun X Y => (B2.alloc (by omega) _).alloc (by simp; omega) _
  have HAP := hid hap
  have HOT := hid hot
  have HON := hid hon
  clear hot hon hap hb2 p0 p1 p2 p3 p4 p5 B1 B2
  go_wp2_with (at_builtin; refine wpList_append_lies _ rfl _ _ 30 rfl w1.heap.size 3 j0 _ 1 8 Tryz.underlying30 hj0 hy0 hy1 hy2 rfl (by decide) _ C.nonces.length (intCells C.nonces) rfl (HN.out _ _) ⟨w2.heap.size + 1, 0, none⟩ 1 1 [.int .i64 0] rfl rfl (news_new (by simp) #[_] _) (by simp [Value.oneCell']) (by decide) ?c2 ?c3 ?c4 (w2.heap.size + 2) ?c5 ?_)
  case c2 => unfold maxLen; omega
  case c3 => omega
  case c4 => simp; omega
  case c5 => simp
  intro g cap' W4 hrow hgrow hat hlt
  have B4 : Below w1.heap.size _ W4 := Below.grown (Below.refl _ _) hgrow (by simp; omega) (fun k hk => ((HON.out).lt k hk).1)
  have hne : some w2.heap.size ≠ Value.ownBlock (.slice na2 C.nonces.length nc2) := fun e => by have := (HON.out.lt _ e.symm).2; omega
  have hblk := hgrow.block w2.heap.size (by simp; omega) hne
  have s0 : W4.cell? ⟨w2.heap.size, 0, none⟩ = some (.slice ta2 C.trusts.length tc2) := (World.cell?_of_block (a := ⟨w2.heap.size, 0, none⟩) hblk).trans (by go_simp)
  have s1 : W4.cell? ⟨w2.heap.size, 1, none⟩ = some (.slice na2 C.nonces.length nc2) := (World.cell?_of_block (a := ⟨w2.heap.size, 1, none⟩) hblk).trans (by go_simp)
  have s5 : ∀ o, W4.frozen? ⟨w2.heap.size, o, none⟩ = false := fun o => (World.frozen?_of_block (a := ⟨w2.heap.size, o, none⟩) hblk).trans (by go_simp)
  have s2 : W4.cell? ⟨w.heap.size + 1, 0, none⟩ = some (.slice none 0 0) := by rw [B4.cell (p := ⟨w.heap.size + 1, 0, none⟩) (by simp; omega)]; go_simp
  have s3 : W4.cell? ⟨w.heap.size + 1, 1, none⟩ = some (.slice none 0 0) := by rw [B4.cell (p := ⟨w.heap.size + 1, 1, none⟩) (by simp; omega)]; go_simp
  have s4 : ∀ o, W4.frozen? ⟨w.heap.size + 1, o, none⟩ = false := fun o => by rw [B4.frozen (p := ⟨w.heap.size + 1, o, none⟩) (by simp; omega)]; go_simp
  have HT4 := hid ((HT.out _ _).kept hgrow (by
    cases h : Value.ownBlock (.slice ta2 C.trusts.length tc2) with
    | none => exact .inl rfl
    | some k => exact .inr (fun e => HAP.out k h e.symm)))
  have HN4 := hid hrow
  have HB4 := hid ((HB.out _ _).trans (B4.mono (by omega)))
  have HNT : Hid (∀ k, Value.ownBlock (.slice ta2 C.trusts.length tc2) = some k → k ≠ w2.heap.size ∧ k ≠ w.heap.size + 1) := fun k hk => by have := HOT.out.lt k hk; omega
  have HNG : Hid (∀ k, Value.ownBlock (.slice (some ⟨g, 0, none⟩) (C.nonces.length + 1) cap') = some k → k ≠ w2.heap.size ∧ k ≠ w.heap.size + 1) := fun k hk => by
    simp only [Value.ownBlock, Option.some.injEq] at hk
    subst hk
    rcases hat with h | h
    · have := HON.out.lt g h; omega
    · omega
  clear B4 hgrow hrow hat r2 r3 r4 hblk hne
  have z5 : w2.heap.size ≠ w.heap.size + 1 := by omega
  go_wp2_with fail
  go_region
  all_goals go_wp2_with fail
  have f1 := ownsRow_below (ownsRow_setCell_ne (ownsRow_setCell_ne (ownsRow_setCell_ne HT4.out (a := ⟨w2.heap.size, 1, none⟩) (fun k hk => (HNT.out k hk).1) (.slice (some ⟨g, 0, none⟩) (C.nonces.length + 1) cap')) (a := ⟨w.heap.size + 1, 0, none⟩) (fun k hk => (HNT.out k hk).2) (.slice ta2 C.trusts.length tc2)) (a := ⟨w.heap.size + 1, 1, none⟩) (fun k hk => (HNT.out k hk).2) (.slice (some ⟨g, 0, none⟩) (C.nonces.length + 1) cap')) (below_drew _)
  have f2 := ownsRow_below (ownsRow_setCell_ne (ownsRow_setCell_ne (ownsRow_setCell_ne HN4.out (a := ⟨w2.heap.size, 1, none⟩) (fun k hk => (HNG.out k hk).1) (.slice (some ⟨g, 0, none⟩) (C.nonces.length + 1) cap')) (a := ⟨w.heap.size + 1, 0, none⟩) (fun k hk => (HNG.out k hk).2) (.slice ta2 C.trusts.length tc2)) (a := ⟨w.heap.size + 1, 1, none⟩) (fun k hk => (HNG.out k hk).2) (.slice (some ⟨g, 0, none⟩) (C.nonces.length + 1) cap')) (below_drew _)
  refine bodyPost_ret (v := .tuple #[.agg #[.slice ta2 C.trusts.length tc2, .slice (some ⟨g, 0, none⟩) (C.nonces.length + 1) cap'], .int .i64 (C.nonces.length + 1), .int .i64 0]) (by simp [results, Tryz.results24, go_sem, s2, s3]) rfl (Chal3.mk HD.out (chalFrom_own (b' := w1.heap.size) (by omega) (by omega) f1 (by rw [intCells_snoc]; exact f2) rfl (by simp)) ?_)
  exact (((HB4.out.setCell (by simp; omega) _).setCell (by simp) _).setCell (by simp) _).drew


end Go.Proofs.YtklbbjionoeofaaGreatDoor
