/- riddlekeep.Image, walked. Conditions: the numbers are of int. -/
import Derived.Test.YtbamacddfonloaaDoorGq
import Derived.Test.YtbamacddfonloaaDoorGd
import Derived.Deep.RegionLaw
namespace Go.Proofs.YtbamacddfonloaaDoor
open Go.RowKit

/-- A row of pages of the call's own; the pages' words lie elsewhere. -/
structure PRow (base : Nat) (W : World) (ov : Value) (F : List (PageD × Value)) : Prop where
  row : W.ownsRow base 84 3 ov F.length (F.flatMap pcs)
  sub : ∀ (i : Nat) (p : PageD × Value), F[i]? = some p → ∃ wa wc, p.2 = .slice wa p.1.words.length wc ∧ IntsAt W wa p.1.words ∧ ∀ b o, wa = some ⟨b, o, none⟩ → b < W.heap.size ∧ ov.ownBlock ≠ some b
section
variable {base : Nat} {W W' : World} {ov : Value} {F : List (PageD × Value)}
theorem PRow.nil : PRow base W (.slice none 0 0) [] := ⟨World.ownsRow_nil _ _ _ _, fun i p h => by simp at h⟩
theorem PRow.below (h : PRow base W ov F) (hb : Below W.heap.size W W') : PRow base W' ov F :=
  ⟨ownsRow_below h.row hb, fun i p hp => by
    obtain ⟨wa, wc, e, hi, hn⟩ := h.sub i p hp
    exact ⟨wa, wc, e, hi.mono hb, fun b o hbo => ⟨Nat.lt_of_lt_of_le (hn b o hbo).1 hb.size, (hn b o hbo).2⟩⟩⟩
theorem PRow.push (h : PRow base W ov F) (x : PageD) {wa : Option Addr} {wc : Nat} (hI : IntsAt W wa x.words) (hb : ∀ b o, wa = some ⟨b, o, none⟩ → b < W.heap.size ∧ ov.ownBlock ≠ some b) {g n cap : Nat}
    (hrow : W'.ownsRow base 84 3 (.slice (some ⟨g, 0, none⟩) n cap) n (F.flatMap pcs ++ pcs (x, .slice wa x.words.length wc))) (hn : n = F.length + 1) (hg : W.grownBy W' ov.ownBlock) (hat : ov.ownBlock = some g ∨ g = W.heap.size) :
    PRow base W' (.slice (some ⟨g, 0, none⟩) n cap) (F ++ [(x, .slice wa x.words.length wc)]) := by
  subst hn
  have hsz := hg.size
  have keep : ∀ {v : Option Addr} {ws : List Int}, IntsAt W v ws → (∀ b o, v = some ⟨b, o, none⟩ → b < W.heap.size ∧ ov.ownBlock ≠ some b) → IntsAt W' v ws ∧ ∀ b o, v = some ⟨b, o, none⟩ → b < W'.heap.size ∧ (Value.slice (some ⟨g, 0, none⟩) (F.length + 1) cap).ownBlock ≠ some b := fun hI hb =>
    ⟨fun i y hy => by
      obtain ⟨b, off, e, hc⟩ := hI i y hy
      exact ⟨b, off, e, hg.cell hc (fun e2 => (hb b off e).2 e2.symm)⟩, fun b o e => ⟨Nat.lt_of_lt_of_le (hb b o e).1 hsz, fun e2 => by
      simp only [Value.ownBlock, Option.some.injEq] at e2
      subst e2
      rcases hat with hat | hat
      · exact (hb g o e).2 hat
      · have := (hb g o e).1; omega⟩⟩
  refine ⟨?_, fun i p hp => ?_⟩
  · rw [List.length_append, List.flatMap_append]
    simpa using hrow
  · by_cases hi : i < F.length
    · rw [List.getElem?_append_left hi] at hp
      obtain ⟨va, vc, e, k1, k2⟩ := h.sub i p hp
      exact ⟨va, vc, e, keep k1 k2⟩
    · rw [List.getElem?_append_right (by omega)] at hp
      cases hk : i - F.length with
      | zero => rw [hk] at hp; simp only [List.getElem?_cons_zero, Option.some.injEq] at hp; subst hp; exact ⟨wa, wc, rfl, keep hI hb⟩
      | succ k => rw [hk] at hp; simp at hp
theorem PRow.pages (h : PRow base W ov F) : ∃ a c, ov = .slice a F.length c ∧ PagesAt W a (F.map (·.1)) := by
  obtain ⟨a, c, rfl, hc⟩ := CellsAt.of_own h.row
  refine ⟨a, c, rfl, fun i x hx => ?_⟩
  simp only [List.getElem?_map, Option.map_eq_some_iff] at hx
  obtain ⟨p, hp, rfl⟩ := hx
  obtain ⟨wa, wc, hw, hwc, _⟩ := h.sub i p hp
  have g := fun j hj => flat_get pcs 3 pcs_len F i j hj
  obtain ⟨b, off, rfl, h0⟩ := hc (i * 3 + 0) (.int .i64 p.1.pl) (by rw [g 0 (by decide), hp]; rfl)
  have k := fun (j : Nat) (u : Value) (hu : (F.flatMap pcs)[i * 3 + j]? = some u) => (show (World.cell? W ⟨b, off + i * 3 + j, none⟩ = some u) from by
    obtain ⟨b1, off1, e1, h1⟩ := hc (i * 3 + j) u hu
    cases e1
    rw [Nat.add_assoc]; exact h1)
  exact ⟨b, off, wa, wc, rfl, h0, k 1 _ (by rw [g 1 (by decide), hp]; rfl), (k 2 _ (by rw [g 2 (by decide), hp]; rfl)).trans (by rw [hw]), hwc⟩
end
theorem imageT_take (l : List RawD) (r : RawD) : (imageT l r 0).take 2 = imageT l r 0 := by simp [imageT]
theorem ints_half0 {W : World} {g : Nat} {l : List Int} (h : IntsAt W (some ⟨g, 0, none⟩) l) : IntsAt W (some ⟨g, 0, none⟩) (l.take 8) := fun i x hx => by
  rw [List.getElem?_take] at hx
  split at hx
  · exact h i x hx
  · cases hx
theorem ints_half1 {W : World} {g : Nat} {l : List Int} (h : IntsAt W (some ⟨g, 0, none⟩) l) : IntsAt W (some ⟨g, 8, none⟩) (l.drop 8) := fun i x hx => by
  rw [List.getElem?_drop] at hx
  obtain ⟨b, o, e, hc⟩ := h _ x hx
  cases e
  exact ⟨g, 8, rfl, by rw [Nat.zero_add] at hc; exact hc⟩
theorem own_cap16 {W : World} {base g c : Nat} {xs : List Value} (h : W.ownsRow base 3 1 (.slice (some ⟨g, 0, none⟩) 16 c) 16 xs) : 16 ≤ c := by
  obtain ⟨hl, ⟨h1, h2⟩ | ⟨g', cap', cur, h1, hg', hh, hn', hcap', hsz, ht⟩⟩ := h
  · omega
  · cases h1; omega

def ImgRes (base : Nat) (l : List RawD) (r : RawD) (w : World) (e : Ending) (w' : World) : Prop :=
  ∃ a c, e = .returned (.slice a (imageD l r).length c) ∧ PagesAt w' a (imageD l r) ∧ Below base w w'

set_option linter.unusedSimpArgs false in
set_option maxRecDepth 10000 in
set_option maxHeartbeats 1600000 in
theorem keepImage (a : Option Addr) (l : List RawD) (n cap : Nat) (r : RawD) (w : World) (hl : l.length = n) (hn : n * 32 ≤ 140737488351232) (hc : RawsAt w a l) (hk : ∀ x ∈ l, x.Ok) (hr : r.Ok) :
    Calls Tryd.prog 10 #[.slice a n cap, .agg #[.int .i64 r.kind, .int .i64 r.a, .int .i64 r.b, .int .i64 r.c]] w (ImgRes w.heap.size l r w) := by
  obtain ⟨i0, hi0, hz0, hz1, hz2⟩ := info_parts infoInts
  obtain ⟨j0, hj0, hy0, hy1, hy2⟩ := info_parts infoPages
  have HL := hid hl
  have HC := hid hc
  have HK := hid hk
  have HRB := hid hr.2.2.1
  have HRC := hid hr.2.2.2
  clear hl hc hk hr
  go_enter Tryd.func10, Tryd.ntmps10
  go_wp2_with fail
  refine (keepCode a l n cap _ HL.out hn (HC.out.mono (by go_grown)) HK.out).mono ?_
  rintro e w1 ⟨gc, cc, rfl, hO, hb1⟩
  have k1 : w1.cell? ⟨w.heap.size, 1, none⟩ = some (.int .i64 r.a) := by rw [(bcell hb1).1 _ _ (by go_size)]; go_simp
  have k2 : w1.cell? ⟨w.heap.size, 2, none⟩ = some (.int .i64 r.b) := by rw [(bcell hb1).1 _ _ (by go_size)]; go_simp
  have k3 : w1.cell? ⟨w.heap.size, 3, none⟩ = some (.int .i64 r.c) := by rw [(bcell hb1).1 _ _ (by go_size)]; go_simp
  have z1 : w.heap.size < w1.heap.size := by have := hb1.size; simp at this; omega
  have HB1 : Hid (Below w.heap.size w w1) := Below.trans (by go_grown) (hb1.mono (by go_size))
  have hcap := own_cap16 hO
  have hgc := (hO.lt gc rfl).2
  obtain ⟨ga, gcc, eg, hcs⟩ := CellsAt.of_own hO
  obtain ⟨rfl, _, rfl⟩ := Value.slice.inj eg
  have HI0 := hid (ints_half0 hcs.ints)
  have HI1 := hid (ints_half1 hcs.ints)
  clear hb1 hO eg hcs HC HK
  go_wp2_with fail
  go_loopw [6, 13] (fun ov j W => ∃ (i : Nat) (F : List (PageD × Value)), i ≤ 2 ∧ j = .int .i64 i ∧ Hid (F.map Prod.fst = (imageT l r 0).take i) ∧ Hid (PRow w1.heap.size W ov F) ∧ Below w1.heap.size w1 W) (fun _ j _ => 2 - (intOf j).toNat)
  case atStart => exact ⟨0, [], by omega, rfl, rfl, PRow.nil, Below.refl _ _⟩
  case round =>
    obtain ⟨i, F, hi, rfl, HF, HO, hb⟩ := hrel
    have hsz := hb.size
    obtain ⟨oa, oc, rfl, _⟩ := HO.out.pages
    have HLF : Hid (F.length = i) := by
      show F.length = i
      have := congrArg List.length HF.out
      rw [List.length_map, List.length_take, imageT_len] at this
      omega
    by_cases hlt : i < 2
    · have HO2 : Hid (∀ X, PRow w1.heap.size (wr.alloc X) (.slice oa F.length oc) F) := fun X => HO.out.below (below_alloc _ X)
      have HB := hid hb
      clear hb
      have hi2 : i = 0 ∨ i = 1 := by omega
      rcases hi2 with rfl | rfl
      · go_wp2_with (at_builtin; refine wpList_append_lies _ rfl _ _ 29 rfl w1.heap.size 84 j0 _ 3 40 Tryd.underlying29 hj0 hy0 hy1 hy2 rfl (by decide) _ F.length (F.flatMap pcs) rfl (HO2.out _).row ⟨wr.heap.size, 0, none⟩ 1 1 [.int .i64 0, .int .i64 5, .slice (some ⟨gc, 0, none⟩) 8 (cc)] rfl rfl (news_new (by simp) #[_, _, _] _) (by simp [Value.oneCell']) (by decide) ?c2 ?c3 ?c4 (wr.heap.size + 1) ?c5 ?_)
        case c2 => unfold maxLen; have := HLF.out; omega
        case c3 => have := HLF.out; omega
        case c4 => simp; omega
        case c5 => simp
        intro g cap' W' hrow hgrow hat _
        have HR := hid hrow
        have HG := hid hgrow
        have HAT := hid hat
        clear hrow hgrow hat
        go_wp2_with fail
        go_roundw
        case rel =>
          refine ⟨0 + 1, F ++ [(⟨0, 5, (codeD l).take 8⟩, .slice (some ⟨gc, 0, none⟩) 8 (cc))], by omega, by go_num, ?_, ?_, ?_⟩
          · show List.map Prod.fst (F ++ [(_, _)]) = _
            rw [List.map_append, HF.out]
            rfl
          · have K := (HO2.out (.cells #[.int .i64 0, .int .i64 5, .slice (some ⟨gc, 0, none⟩) 8 (cc)] 84)).push ⟨0, 5, (codeD l).take 8⟩ (wa := some ⟨gc, 0, none⟩) (wc := cc) (HI0.out.mono (HB.out.trans (Below.mono (by go_grown) hsz))) (fun b o e => by
              cases e
              exact ⟨by simp; omega, fun e2 => by have := (HO.out.row.lt gc e2).1; omega⟩) (by rw [show (List.take 8 (codeD l)).length = 8 by rw [List.length_take, codeD_len]; rfl]; exact HR.out) rfl HG.out (by rcases HAT.out with h | h; exact .inl h; exact .inr (by rw [h]; simp))
            rw [show (List.take 8 (codeD l)).length = 8 by rw [List.length_take, codeD_len]; rfl] at K
            exact K
          · exact (HB.out.trans (Below.mono (by go_grown) hsz)).grown HG.out (by simp; omega) (fun k hk => (HO.out.row.lt k hk).1)
        case measure => simp [intOf]
      · go_wp2_with (at_builtin; refine wpList_append_lies _ rfl _ _ 29 rfl w1.heap.size 84 j0 _ 3 40 Tryd.underlying29 hj0 hy0 hy1 hy2 rfl (by decide) _ F.length (F.flatMap pcs) rfl (HO2.out _).row ⟨wr.heap.size, 0, none⟩ 1 1 [.int .i64 1, .int .i64 5, .slice (some ⟨gc, 8, none⟩) 8 (cc - 8)] rfl rfl (news_new (by simp) #[_, _, _] _) (by simp [Value.oneCell']) (by decide) ?c2 ?c3 ?c4 (wr.heap.size + 1) ?c5 ?_)
        case c2 => unfold maxLen; have := HLF.out; omega
        case c3 => have := HLF.out; omega
        case c4 => simp; omega
        case c5 => simp
        intro g cap' W' hrow hgrow hat _
        have HR := hid hrow
        have HG := hid hgrow
        have HAT := hid hat
        clear hrow hgrow hat
        go_wp2_with fail
        go_roundw
        case rel =>
          refine ⟨1 + 1, F ++ [(⟨1, 5, (codeD l).drop 8⟩, .slice (some ⟨gc, 8, none⟩) 8 (cc - 8))], by omega, by go_num, ?_, ?_, ?_⟩
          · show List.map Prod.fst (F ++ [(_, _)]) = _
            rw [List.map_append, HF.out]
            rfl
          · have K := (HO2.out (.cells #[.int .i64 1, .int .i64 5, .slice (some ⟨gc, 8, none⟩) 8 (cc - 8)] 84)).push ⟨1, 5, (codeD l).drop 8⟩ (wa := some ⟨gc, 8, none⟩) (wc := cc - 8) (HI1.out.mono (HB.out.trans (Below.mono (by go_grown) hsz))) (fun b o e => by
              cases e
              exact ⟨by simp; omega, fun e2 => by have := (HO.out.row.lt gc e2).1; omega⟩) (by rw [show (List.drop 8 (codeD l)).length = 8 by rw [List.length_drop, codeD_len]]; exact HR.out) rfl HG.out (by rcases HAT.out with h | h; exact .inl h; exact .inr (by rw [h]; simp))
            rw [show (List.drop 8 (codeD l)).length = 8 by rw [List.length_drop, codeD_len]] at K
            exact K
          · exact (HB.out.trans (Below.mono (by go_grown) hsz)).grown HG.out (by simp; omega) (fun k hk => (HO.out.row.lt k hk).1)
        case measure => simp [intOf]
    · obtain rfl : i = 2 := by omega
      rw [imageT_take] at HF
      have HR0 := hid (moreD_le r)
      have HO1 := hid HO.out
      have HB0 := hid hb
      clear HI0 HI1 hb HO
      go_wp2_with fail
      go_loopw [6, 8] (fun ov j W => ∃ (k : Nat) (F : List (PageD × Value)), k ≤ moreD r ∧ j = .int .i64 ((k : Int) + 2) ∧ Hid (F.map Prod.fst = imageT l r k) ∧ Hid (PRow w1.heap.size W ov F) ∧ Below w1.heap.size w1 W) (fun _ j _ => 8 - (intOf j).toNat)
      case atStart => exact ⟨0, F, Nat.zero_le _, rfl, HF, HO1, HB0.out⟩
      case round =>
        clear HF HLF HO1 HB0 hsz
        obtain ⟨k, F, hk, rfl, HF, HO, hb⟩ := hrel
        have hsz := hb.size
        obtain ⟨oa, oc, rfl, _⟩ := HO.out.pages
        have HLF : Hid (F.length = 2 + k) := by
          show F.length = 2 + k
          rw [← imageT_len l r k, ← HF.out, List.length_map]
        have hm0 := pickD_lo r.b (many := 3) (by decide)
        have hm1 := pickD_hi r.b (many := 3) (by decide)
        have hwm : IntKind.i64.wrap (4 + pickD r.b 3) = 4 + pickD r.b 3 := by rw [IntKind.wrap_i64]; omega
        have q1 := cell_later hb k1
        have q2 := cell_later hb k2
        have q3 := cell_later hb k3
        have HB := hid hb
        have HM : Hid ((moreD r : Int) = 2 + pickD r.b 3) := by show _ = _; rw [moreD]; omega
        clear hb
        go_wp2_with fail
        refine (picked_any _ 3 _ HRB.out (by decide)).mono ?_
        rintro e w' ⟨rfl, rfl⟩
        by_cases hlt : k < moreD r
        · have hlt2 : (k : Int) + 2 < 4 + pickD r.b 3 := by have := HM.out; omega
          have hk4 : (k : Int) < 4 := by have := HM.out; omega
          have hwk : IntKind.i64.wrap ((k : Int) + 2 + 1) = (k : Int) + 2 + 1 := by rw [IntKind.wrap_i64]; omega
          have z2 : w.heap.size < w'.heap.size := by omega
          go_upto_if 40 with fail
          go_cut [] from 40 to 44 (fun W => W.cell? ⟨w'.heap.size, 0, none⟩ = some (.int .i64 ((k : Int) + 2)) ∧ W.cell? ⟨w'.heap.size, 1, none⟩ = some (.int .i64 (morePage r k).rights) ∧ W.cell? ⟨w'.heap.size, 2, none⟩ = some (.slice none 0 0) ∧ (∀ o, W.frozen? ⟨w'.heap.size, o, none⟩ = false) ∧ Below w'.heap.size w' W ∧ w'.heap.size < W.heap.size)
          case first =>
            by_cases h1 : k = 1
            · have h1b : ((k : Int) + 2 == 3) = true := by rw [beq_iff_eq]; omega
              have hr8 : (morePage r k).rights = pickD r.c 8 := if_pos h1
              have HR8 := hid hr8
              clear h1 hr8
              go_wp2_with fail
              refine (picked_any _ 8 _ HRC.out (by decide)).mono ?_
              rintro e w2 ⟨rfl, rfl⟩
              go_wp2_with fail
              go_meet
              rw [HR8.out]
              exact ⟨by go_simp, by go_simp, by go_simp, fun o => by go_simp, below_alloc _ _, by go_size⟩
            · have h1b : ((k : Int) + 2 == 3) = false := by rw [beq_eq_false_iff_ne]; omega
              go_wp2_with fail
              go_meet
              have hr3 : (morePage r k).rights = 3 := if_neg h1
              rw [hr3]
              exact ⟨by go_simp, by go_simp, by go_simp, fun o => by go_simp, below_alloc _ _, by go_size⟩
          case rest =>
          obtain ⟨p0, p1, p2, pz, hbp, zp⟩ := hcut
          have q1 := cell_later hbp q1
          have HBP := hid hbp
          clear q2 q3 hm0 hm1 hwm hlt2 hk4 hbp
          go_wp2_with fail
          go_loopw [45] (fun j W => ∃ (q : Nat) (wv : Value), q ≤ 8 ∧ j = .int .i64 q ∧ (W.cell? ⟨w'.heap.size, 0, none⟩ = some (.int .i64 ((k : Int) + 2)) ∧ W.cell? ⟨w'.heap.size, 1, none⟩ = some (.int .i64 (morePage r k).rights) ∧ W.cell? ⟨w'.heap.size, 2, none⟩ = some wv ∧ ∀ o, W.frozen? ⟨w'.heap.size, o, none⟩ = false) ∧ Hid (W.ownsRow (w'.heap.size + 1) 3 1 wv q (intCells (wordsT r q))) ∧ Below w'.heap.size w' W ∧ w'.heap.size < W.heap.size) (fun j _ => 8 - (intOf j).toNat)
          case atStart => exact ⟨0, _, by omega, rfl, ⟨p0, p1, p2, pz⟩, World.ownsRow_nil _ _ _ _, HBP.out, zp⟩
          case round =>
            clear p0 p1 p2 pz q1 HBP zp
            obtain ⟨q, wv, hq8, rfl, ⟨p0, p1, p2, pz⟩, HQ, hbq, zp⟩ := hrel
            obtain ⟨wa, wc, rfl, _⟩ := CellsAt.of_own HQ.out
            have HBQ := hid hbq
            by_cases hlq : q < 8
            · have q1 := cell_later hbq (cell_later HB.out k1)
              have hwq : IntKind.i64.wrap ((q : Int) * 7) = (q : Int) * 7 := by rw [IntKind.wrap_i64]; omega
              have z3 : w.heap.size < wr.heap.size := by omega
              have HQ2 : Hid (∀ W2, Below wr.heap.size wr W2 → World.ownsRow W2 (w'.heap.size + 1) 3 1 (.slice wa q wc) q (intCells (wordsT r q))) := fun W2 h => ownsRow_below HQ.out h
              have HP : Hid (∀ W2, Below wr.heap.size wr W2 → W2.cell? ⟨w'.heap.size, 0, none⟩ = some (.int .i64 ((k : Int) + 2)) ∧ W2.cell? ⟨w'.heap.size, 1, none⟩ = some (.int .i64 (morePage r k).rights) ∧ W2.cell? ⟨w'.heap.size, 2, none⟩ = some (.slice wa q wc) ∧ ∀ o, W2.frozen? ⟨w'.heap.size, o, none⟩ = false) := fun W2 h => ⟨cell_later h p0, cell_later h p1, cell_later h p2, fun o => by rw [(bcell h).2 _ _ zp]; exact pz o⟩
              have hno : Hid ((Value.slice wa q wc).ownBlock ≠ some w'.heap.size) := fun e => by have := (HQ.out.lt _ e).1; omega
              clear hbq
              go_wp2_with fail
              have zne : w.heap.size ≠ w'.heap.size := by omega
              have zne2 : w'.heap.size ≠ w.heap.size := by omega
              have hnr : Hid ((Value.slice wa q wc).ownBlock ≠ some w.heap.size) := fun e => by have := (HQ.out.lt _ e).1; omega
              go_region_law (first
                | (go_simp; go_at_call 14; refine (picked_any _ 100 _ (wrap_is64 _) (by decide)).mono ?_; rintro e w2 ⟨rfl, rfl⟩; dsimp only)
                | (refine step_append_lies _ rfl _ _ 41 rfl (w'.heap.size + 1) 3 i0 _ 1 8 Tryd.underlying41 hi0 hz0 hz1 hz2 rfl (by decide) _ q (intCells (wordsT r q)) rfl (HQ2.out _ (by go_grown)) ⟨wr.heap.size, 0, none⟩ 1 1 [.int .i64 (pickD (IntKind.i64.wrap (r.a + (q : Int) * 7)) 100)] rfl rfl (news_new (by simp) #[_] _) (by simp [Value.oneCell']) (by decide) (by unfold maxLen; omega) (by omega) (by simp; omega) (wr.heap.size + 1) (by simp) ?_
                   intro g cap' W' hrow hgrow hat _
                   have HPP := HP.out (wr.drew.alloc (.cells #[.int .i64 (pickD (IntKind.i64.wrap (r.a + (q : Int) * 7)) 100)] 3)) (by go_grown)
                   have s0 : W'.cell? ⟨w'.heap.size, 0, none⟩ = some (.int .i64 ((k : Int) + 2)) := hgrow.cell HPP.1 (fun e => hno.out e.symm)
                   have s1 : W'.cell? ⟨w'.heap.size, 1, none⟩ = some (.int .i64 (morePage r k).rights) := hgrow.cell HPP.2.1 (fun e => hno.out e.symm)
                   have s2 : W'.cell? ⟨w'.heap.size, 2, none⟩ = some (.slice wa q wc) := hgrow.cell HPP.2.2.1 (fun e => hno.out e.symm)
                   have sz : ∀ o, W'.frozen? ⟨w'.heap.size, o, none⟩ = false := fun o => by rw [hgrow.frozen_far ⟨w'.heap.size, o, none⟩ (by simp; omega) (fun e => hno.out e.symm)]; exact HPP.2.2.2 o
                   have s4 : W'.cell? ⟨w.heap.size, 1, none⟩ = some (.int .i64 r.a) := hgrow.cell (cell_later (wx := wr.drew.alloc (.cells #[.int .i64 (pickD (IntKind.i64.wrap (r.a + (q : Int) * 7)) 100)] 3)) (by go_grown) q1) (fun e => hnr.out e.symm)
                   have HR := hid hrow
                   have HG := hid hgrow
                   clear hrow hgrow hat HPP))
              all_goals
                go_wp2_with fail
                go_roundw
                case rel =>
                  refine ⟨q + 1, .slice (some ⟨g, 0, none⟩) (q + 1) cap', by omega, by go_num, ⟨by go_simp, by go_simp, by go_simp, fun o => by go_simp⟩, ?_, ?_, ?_⟩
                  · have K := ownsRow_setCell_ne HR.out (a := ⟨w'.heap.size, 2, none⟩) (fun k hk => by have := (HR.out.lt k hk).1; simp; omega) (.slice (some ⟨g, 0, none⟩) (q + 1) cap')
                    rw [show intCells (wordsT r (q + 1)) = intCells (wordsT r q) ++ [.int .i64 (pickD (IntKind.i64.wrap (r.a + (q : Int) * 7)) 100)] by rw [wordsT_step]; simp [intCells]]
                    exact K
                  · exact Below.setCell ((HBQ.out.trans (Below.mono (by go_grown) HBQ.out.size)).grown HG.out (by have := HBQ.out.size; simp; omega) (fun k hk => by have := (HQ.out.lt k hk).1; omega)) (Nat.le_refl _) _
                  · have := HG.out.size
                    simp at this
                    simp
                    omega
                case measure => simp [intOf]; omega
            · obtain rfl : q = 8 := by omega
              have HO3 : Hid (∀ X, PRow w1.heap.size (wr.alloc X) (.slice oa F.length oc) F) := fun X => HO.out.below (hbq.trans (Below.mono (by go_grown) hbq.size))
              have HI8 : Hid (∀ X, IntsAt (wr.alloc X) wa (wordsT r 8)) := fun X => by
                obtain ⟨a', c', e', h'⟩ := CellsAt.of_own HQ.out
                obtain ⟨rfl, _, rfl⟩ := Value.slice.inj e'
                exact h'.ints.mono (by go_grown)
              have HNB : Hid (∀ b o, wa = some ⟨b, o, none⟩ → b < wr.heap.size ∧ (Value.slice oa F.length oc).ownBlock ≠ some b) := fun b o e => by
                subst e
                have h1 := HQ.out.lt b (by
                  obtain ⟨_, ⟨h1, _⟩ | ⟨g', cap', cur, h1, _⟩⟩ := HQ.out
                  · cases h1
                  · cases h1; rfl)
                exact ⟨h1.2, fun e2 => by have := (HO.out.row.lt b e2).2; omega⟩
              clear hbq
              go_wp2_with (at_builtin; refine wpList_append_lies _ rfl _ _ 29 rfl w1.heap.size 84 j0 _ 3 40 Tryd.underlying29 hj0 hy0 hy1 hy2 rfl (by decide) _ F.length (F.flatMap pcs) rfl (HO3.out _).row ⟨wr.heap.size, 0, none⟩ 1 1 [.int .i64 ((k : Int) + 2), .int .i64 (morePage r k).rights, .slice wa 8 wc] rfl rfl (news_new (by simp) #[_, _, _] _) (by simp [Value.oneCell']) (by decide) ?c2 ?c3 ?c4 (wr.heap.size + 1) ?c5 ?_)
              case c2 => unfold maxLen; have := HLF.out; have := HR0.out; omega
              case c3 => have := HLF.out; have := HR0.out; omega
              case c4 => simp; omega
              case c5 => simp
              intro g cap' W' hrow hgrow hat _
              have HR := hid hrow
              have HG := hid hgrow
              have HAT := hid hat
              clear hrow hgrow hat
              go_wp2_with fail
              refine ⟨?_, ?measure⟩
              iterate 39 (apply Exists.intro)
              refine ⟨?rel, rfl⟩
              case rel =>
                refine ⟨k + 1, F ++ [(morePage r k, .slice wa 8 wc)], by omega, by go_num, ?_, ?_, ?_⟩
                · show List.map Prod.fst (F ++ [(_, _)]) = _
                  rw [List.map_append, HF.out, imageT_step]
                  rfl
                · have K := (HO3.out (.cells #[.int .i64 ((k : Int) + 2), .int .i64 (morePage r k).rights, .slice wa 8 wc] 84)).push (morePage r k) (wa := wa) (wc := wc) (HI8.out _) (fun b o e => ⟨by have := (HNB.out b o e).1; simp; omega, (HNB.out b o e).2⟩) (by rw [show (morePage r k).words.length = 8 from wordsT_len r 8]; exact HR.out) rfl HG.out (by rcases HAT.out with h | h; exact .inl h; exact .inr (by rw [h]; simp))
                  rw [show (morePage r k).words.length = 8 from wordsT_len r 8] at K
                  exact K
                · exact (HB.out.trans ((HBQ.out.trans (Below.mono (by go_grown) HBQ.out.size)).mono hsz)).grown HG.out (by have := HBQ.out.size; simp; omega) (fun k hk => (HO.out.row.lt k hk).1)
              case measure => simp [intOf]; have := HM.out; have := HR0.out; omega
        · obtain rfl : k = moreD r := by omega
          have hlt2 : ¬ ((moreD r : Int) + 2 < 4 + pickD r.b 3) := by have := HM.out; omega
          go_wp2_with fail
          go_ret
          have hl : (imageD l r).length = F.length := by rw [imageD, ← HF.out, List.length_map]
          obtain ⟨a', c', e', hp⟩ := HO.out.pages
          obtain ⟨rfl, _, rfl⟩ := Value.slice.inj e'
          exact ⟨oa, oc, by rw [hl]; rfl, by rw [imageD, ← HF.out]; exact hp, HB1.out.trans (HB.out.mono HB1.out.size)⟩

end Go.Proofs.YtbamacddfonloaaDoor
