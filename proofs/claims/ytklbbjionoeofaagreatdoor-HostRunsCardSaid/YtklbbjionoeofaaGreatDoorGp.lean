/- A machine under way that a call makes from nothing. Plain laws; no program is walked.
epc.New and ref.MachineOf, walked. No condition. -/
import Derived.Test.YtklbbjionoeofaaGreatDoorGl
import Derived.Test.YtklbbjionoeofaaGreatDoorGi
import Derived.Deep.RegionLaw
namespace Go.Proofs.YtklbbjionoeofaaGreatDoor
open Go.RowKit

def zeroE : Array Value := ((List.replicate 4 emptyEncl).flatMap EnclD.cs).toArray
theorem make4 (w : World) : (Instr.makeSlice 26 (.int .i64 4) (.int .i64 4)).run Tryz.prog w = .ok (.slice (some ⟨w.heap.size, 0, none⟩) 4 4) (w.alloc (.cells zeroE 77)) := by
  obtain ⟨i0, hi0, hz0, hz1, hz2⟩ := info_parts infoEncls
  have := run_make (P := Tryz.prog) w 26 77 i0 _ Tryz.underlying26 hi0 hz0 .i64 .i64 4 4 (by decide) (by decide) (by rw [hz2]; decide) (by decide)
  rw [hz1] at this
  have e : madeCells (Value.agg #[.int .i64 0, .string ⟨#[]⟩, .int .i64 0, .int .i64 0, .int .i64 0, .int .i64 0, .int .i64 0]).cells ((4 : Int).toNat * 7) = zeroE := by kernel_rfl
  rw [e] at this
  exact this
theorem zero8_cells : zero8.toList = intCells bare.words := rfl

/-- A machine in its box b, made of frames one by one; the result's box is the call's first. -/
structure GrowM (w : World) (base b : Nat) (ov ev qv : Value) (F : List (FrameD × Value)) (E : List EnclD) (Q : List QuoteD) (W : World) : Prop where
  below : Below w.heap.size w W
  c0 : W.cell? ⟨b, 0, none⟩ = some ov
  c1 : W.cell? ⟨b, 1, none⟩ = some ev
  c2 : W.cell? ⟨b, 2, none⟩ = some qv
  cz : ∀ o, W.frozen? ⟨b, o, none⟩ = false
  r0 : W.cell? ⟨w.heap.size, 0, none⟩ = some (.slice none 0 0)
  r1 : W.cell? ⟨w.heap.size, 1, none⟩ = some (.slice none 0 0)
  r2 : W.cell? ⟨w.heap.size, 2, none⟩ = some (.slice none 0 0)
  rz : ∀ o, W.frozen? ⟨w.heap.size, o, none⟩ = false
  lo : w.heap.size < b
  hi : b < W.heap.size
  hb : w.heap.size < base
  bw : base ≤ W.heap.size
  own : OwnMach base W ov ev qv F E Q
  no : NotAt ov b
  ne : NotAt ev b
  nq : NotAt qv b
  nf : ∀ (i : Nat) (p : FrameD × Value), F[i]? = some p → NotAt p.2 b
section
variable {w W W' : World} {base b : Nat} {ov ev qv : Value} {F : List (FrameD × Value)} {E : List EnclD} {Q : List QuoteD}
theorem GrowM.later (h : GrowM w base b ov ev qv F E Q W) (hb : Below W.heap.size W W') : GrowM w base b ov ev qv F E Q W' := by
  have h1 := h.below.size
  have hz := h.hi
  have hl := h.lo
  have hB := h.hb
  have hw := h.bw
  have hs := hb.size
  exact ⟨h.below.trans (hb.mono h1), cell_later hb h.c0, cell_later hb h.c1, cell_later hb h.c2, fun o => by rw [(bcell hb).2 _ _ hz]; exact h.cz o, cell_later hb h.r0, cell_later hb h.r1, cell_later hb h.r2,
    fun o => by rw [(bcell hb).2 _ _ (by omega)]; exact h.rz o, hl, by omega, hB, by omega, h.own.below hb, h.no, h.ne, h.nq, h.nf⟩
/-- One more frame appended, and the box told of it. -/
theorem GrowM.push (h : GrowM w base b ov ev qv F E Q W) (x : FrameD) (wv : Value) (hw : W.ownsRow base 3 1 wv x.words.length (intCells x.words)) (hwo : Apart wv ov) (hwf : ∀ (i : Nat) (p : FrameD × Value), F[i]? = some p → Apart p.2 wv)
    (hwe : Apart wv ev) (hwq : Apart wv qv) (hwb : NotAt wv b) {g n cap : Nat} (hrow : W'.ownsRow base 73 4 (.slice (some ⟨g, 0, none⟩) n cap) n (F.flatMap fcs ++ fcs (x, wv))) (hn : n = F.length + 1)
    (hg : W.grownBy W' ov.ownBlock) (hat : ov.ownBlock = some g ∨ g = W.heap.size) : GrowM w base b (.slice (some ⟨g, 0, none⟩) n cap) ev qv (F ++ [(x, wv)]) E Q (W'.setCell ⟨b, 0, none⟩ (.slice (some ⟨g, 0, none⟩) n cap)) := by
  have hsz := h.below.size
  have hz := h.hi
  have hl := h.lo
  have hB := h.hb
  have hbw := h.bw
  have hgs := hg.size
  have hw' : Below w.heap.size w W' := h.below.grown hg hsz (fun k hk => by have := (h.own.f.row.lt k hk).1; omega)
  have hne : some b ≠ ov.ownBlock := fun e => h.no b e.symm rfl
  have hnr : some w.heap.size ≠ ov.ownBlock := fun e => by have := (h.own.f.row.lt _ e.symm).1; omega
  have hgb : g ≠ b := by
    rcases hat with e | e
    · exact h.no g e
    · omega
  have hF := h.own.f.push x wv hw hwo hwf hrow hn hg hat
  have hgn : ∀ {v : Value} {e s m : Nat} {xs : List Value}, W.ownsRow base e s v m xs → Apart ov v → Apart (.slice (some ⟨g, 0, none⟩) n cap) v := fun hv ha k hk hk' => by
    simp only [Value.ownBlock, Option.some.injEq] at hk
    subst hk
    rcases hat with e | e
    · exact ha g e hk'
    · have := (hv.lt g hk').2
      omega
  have hkeep : ∀ {v : Value} {e s m : Nat} {xs : List Value}, W.ownsRow base e s v m xs → Apart ov v → W'.ownsRow base e s v m xs := fun {v e s m xs} hv ha => hv.kept hg (by
    cases hvb : v.ownBlock with
    | none => exact .inl rfl
    | some b => exact .inr fun e => ha b e.symm hvb)
  have hget : ∀ (i : Nat) (p : FrameD × Value), (F ++ [(x, wv)])[i]? = some p → F[i]? = some p ∨ p = (x, wv) := fun i p hp => by
    by_cases hi : i < F.length
    · rw [List.getElem?_append_left hi] at hp
      exact .inl hp
    · rw [List.getElem?_append_right (by omega)] at hp
      cases hk : i - F.length with
      | zero => rw [hk] at hp; simp only [List.getElem?_cons_zero, Option.some.injEq] at hp; exact .inr hp.symm
      | succ k => rw [hk] at hp; simp at hp
  have hO : OwnMach base W' (.slice (some ⟨g, 0, none⟩) n cap) ev qv (F ++ [(x, wv)]) E Q := ⟨hF, hkeep h.own.e h.own.fe, hkeep h.own.q h.own.fq, hgn h.own.e h.own.fe, hgn h.own.q h.own.fq, h.own.eq,
    fun i p hp => by rcases hget i p hp with hp | rfl; exact h.own.we i p hp; exact hwe, fun i p hp => by rcases hget i p hp with hp | rfl; exact h.own.wq i p hp; exact hwq⟩
  have hnf : ∀ (i : Nat) (p : FrameD × Value), (F ++ [(x, wv)])[i]? = some p → NotAt p.2 b := fun i p hp => by rcases hget i p hp with hp | rfl; exact h.nf i p hp; exact hwb
  have hno : NotAt (.slice (some ⟨g, 0, none⟩) n cap) b := fun k hk => by
    simp only [Value.ownBlock, Option.some.injEq] at hk
    omega
  have k0 := hg.cell h.c0 hne
  have k1 := hg.cell h.c1 hne
  have k2 := hg.cell h.c2 hne
  have m0 := hg.cell h.r0 hnr
  have m1 := hg.cell h.r1 hnr
  have m2 := hg.cell h.r2 hnr
  have fb : ∀ o, W'.frozen? ⟨b, o, none⟩ = false := fun o => by rw [hg.frozen_far ⟨b, o, none⟩ hz hne]; exact h.cz o
  have fr : ∀ o, W'.frozen? ⟨w.heap.size, o, none⟩ = false := fun o => by rw [hg.frozen_far ⟨w.heap.size, o, none⟩ (by simp only; omega) hnr]; exact h.rz o
  have hbs : w.heap.size ≠ b := by omega
  exact ⟨hw'.setCell (by simp only; omega) _, by go_simp, by go_simp, by go_simp, fun o => by go_simp, by go_simp, by go_simp, by go_simp, fun o => by go_simp, hl, by simp; omega, hB, by simp; omega,
    hO.setCell hno h.ne h.nq hnf _, hno, h.ne, h.nq, hnf⟩
theorem newD_take (i : Nat) (h : i < 24) : newD.frames.take i ++ [bare] = newD.frames.take (i + 1) := by
  show (List.replicate 24 bare).take i ++ [bare] = (List.replicate 24 bare).take (i + 1)
  rw [List.take_replicate, List.take_replicate, Nat.min_eq_left (by omega), Nat.min_eq_left (by omega), ← List.replicate_succ']
/-- It begins: no frame, the enclaves' zeros. -/
theorem GrowM.start (w : World) (t u : TypeId) : GrowM w (w.heap.size + 1) (w.heap.size + 1 + 1) (.slice none 0 0) (.slice (some ⟨w.heap.size + 1, 0, none⟩) 4 4) (.slice none 0 0) [] newD.encl []
    (((w.alloc (.cells #[.slice none 0 0, .slice none 0 0, .slice none 0 0] t)).alloc (.cells zeroE 77)).alloc (.cells #[.slice none 0 0, .slice (some ⟨w.heap.size + 1, 0, none⟩) 4 4, .slice none 0 0] u)) := by
  have hE0 : ((w.alloc (.cells #[.slice none 0 0, .slice none 0 0, .slice none 0 0] t)).alloc (.cells zeroE 77)).ownsRow (w.heap.size + 1) 77 7 (.slice (some ⟨w.heap.size + 1, 0, none⟩) 4 4) 4 zeroE.toList := by
    have := World.ownsRow_lit (e := 77) (size := 7) (base := w.heap.size + 1) (w.alloc (.cells #[.slice none 0 0, .slice none 0 0, .slice none 0 0] t)) zeroE 4 (by simp) (by decide) rfl
    simpa using this
  have hE := ownsRow_below hE0 (below_alloc _ (.cells #[.slice none 0 0, .slice (some ⟨w.heap.size + 1, 0, none⟩) 4 4, .slice none 0 0] u))
  exact ⟨by go_grown, by go_simp, by go_simp, by go_simp, fun o => by go_simp, by go_simp, by go_simp, by go_simp, fun o => by go_simp, by omega, by go_size, by omega, by go_size,
    ⟨OwnRows.nil, hE, ⟨rfl, .inl ⟨rfl, rfl⟩⟩, fun k hk => by simp [Value.ownBlock] at hk, fun k hk => by simp [Value.ownBlock] at hk, fun k hk => by simp [Value.ownBlock], fun i p hp => by simp at hp, fun i p hp => by simp at hp⟩,
    fun k hk => by simp [Value.ownBlock] at hk, fun k hk => by simp [Value.ownBlock] at hk; omega, fun k hk => by simp [Value.ownBlock] at hk, fun i p hp => by simp at hp⟩
end

end Go.Proofs.YtklbbjionoeofaaGreatDoor

namespace Go.Proofs.YtklbbjionoeofaaGreatDoor
open Go.RowKit

set_option maxRecDepth 10000 in
set_option maxHeartbeats 1600000 in
theorem epcNew (w : World) : Calls Tryz.prog 8 #[] w (MachRes w.heap.size newD w) := by
  obtain ⟨i0, hi0, hz0, hz1, hz2⟩ := info_parts infoFrames
  have hmk := make8
  have hmk4 := make4
  go_enter Tryz.func8, Tryz.ntmps8
  go_wp2_with fail
  refine wp_gen (GrowM w (w.heap.size + 1) (w.heap.size + 1 + 1) (.slice none 0 0) (.slice (some ⟨w.heap.size + 1, 0, none⟩) 4 4) (.slice none 0 0) [] newD.encl []) (GrowM.start w _ _) ?_
  clear hmk4
  intro W0 H0
  have H0 := hid H0
  go_loopw [4] (fun j W => ∃ (i : Nat) (ov : Value) (F : List (FrameD × Value)), i ≤ 24 ∧ j = .int .i64 i ∧ Hid (F.map Prod.fst = newD.frames.take i) ∧ Hid (GrowM w (w.heap.size + 1) (w.heap.size + 1 + 1) ov (.slice (some ⟨w.heap.size + 1, 0, none⟩) 4 4) (.slice none 0 0) F newD.encl [] W)) (fun j _ => 24 - (intOf j).toNat)
  case atStart => exact ⟨0, _, [], by omega, rfl, rfl, H0.out⟩
  case round =>
    obtain ⟨i, ov, F, hi, rfl, HM, HI⟩ := hrel
    clear H0
    have HLF : Hid (F.length = i) := by
      show F.length = i
      have := congrArg List.length HM.out
      rw [List.length_map, List.length_take] at this
      simp [newD] at this
      omega
    have hsz := HI.out.below.size
    have hlo := HI.out.lo
    have hhi := HI.out.hi
    have c0 := HI.out.c0
    have cz := HI.out.cz
    by_cases hlt : i < 24
    · have HO : Hid (∀ X, GrowM w (w.heap.size + 1) (w.heap.size + 1 + 1) ov (.slice (some ⟨w.heap.size + 1, 0, none⟩) 4 4) (.slice none 0 0) F newD.encl [] (((wr.alloc (.cells zero8 3)).alloc X).drew)) := fun X => HI.out.later (by go_grown)
      have ho1 : (wr.alloc (.cells zero8 3)).ownsRow wr.heap.size 3 1 (.slice (some ⟨wr.heap.size, 0, none⟩) 8 8) 8 zero8.toList := World.ownsRow_lit wr zero8 8 (Nat.le_refl _) (by decide) rfl
      have Hw : Hid (∀ X, World.ownsRow (((wr.alloc (.cells zero8 3)).alloc X).drew) (w.heap.size + 1) 3 1 (.slice (some ⟨wr.heap.size, 0, none⟩) 8 8) bare.words.length (intCells bare.words)) := fun X => ownsRow_mono (ownsRow_below ho1 (by go_grown)) (by have := HI.out.bw; omega)
      have HA := hid (HI.out.own.f.apart_new ho1 (Nat.le_refl _))
      have HAe : Hid (Apart (.slice (some ⟨wr.heap.size, 0, none⟩) 8 8) (.slice (some ⟨w.heap.size + 1, 0, none⟩) 4 4)) := (apart_of_lt HI.out.own.e ho1 (Nat.le_refl _)).symm
      have HAq : Hid (Apart (.slice (some ⟨wr.heap.size, 0, none⟩) 8 8) (.slice none 0 0)) := fun k hk hk' => by simp [Value.ownBlock] at hk'
      have HAb : Hid (NotAt (.slice (some ⟨wr.heap.size, 0, none⟩) 8 8) (w.heap.size + 1 + 1)) := fun k hk => by simp [Value.ownBlock] at hk; omega
      have ca : ∀ X, (wr.alloc X).cell? ⟨w.heap.size + 1 + 1, 0, none⟩ = some ov := fun X => cell_later (by go_grown) HI.out.c0
      have cb : ∀ X Y, ((wr.alloc X).alloc Y).cell? ⟨w.heap.size + 1 + 1, 0, none⟩ = some ov := fun X Y => cell_later (by go_grown) HI.out.c0
      clear ho1
      go_wp2_with fail
      go_region_law (first
          | (refine step_append_lies _ rfl _ _ 25 rfl (w.heap.size + 1) 73 i0 _ 4 48 Tryz.underlying25 hi0 hz0 hz1 hz2 rfl (by decide) _ F.length (F.flatMap fcs) rfl (HO.out _).own.f.row ⟨wr.heap.size + 1, 0, none⟩ 1 1 [.int .i64 0, .int .i64 0, .int .i64 0, .slice (some ⟨wr.heap.size, 0, none⟩) 8 8] rfl rfl (news_new (by simp) #[_, _, _, _] _) (by simp [Value.oneCell']) (by decide) (by unfold maxLen; have := HLF.out; omega) (by have := HLF.out; omega) (by simp; omega) (wr.heap.size + 1 + 1) (by simp) ?_
             intro g cap' W' hrow hgrow hat _
             have s0 : W'.cell? ⟨w.heap.size + 1 + 1, 0, none⟩ = some ov := hgrow.cell (HO.out _).c0 (fun e => (HO.out (.cells #[] 0)).no _ e.symm rfl)
             have s1 : ∀ o, W'.frozen? ⟨w.heap.size + 1 + 1, o, none⟩ = false := fun o => by rw [hgrow.frozen_far ⟨w.heap.size + 1 + 1, o, none⟩ (HO.out _).hi (fun e => (HO.out (.cells #[] 0)).no _ e.symm rfl)]; exact (HO.out _).cz o
             have HR := hid hrow
             have HG := hid hgrow
             have HAT := hid hat
             clear hrow hgrow hat))
      all_goals
        go_wp2_with fail
        go_roundw
        case rel =>
          refine ⟨i + 1, .slice (some ⟨g, 0, none⟩) (F.length + 1) cap', F ++ [(bare, .slice (some ⟨wr.heap.size, 0, none⟩) 8 8)], by omega, by go_num, ?_, ?_⟩
          · show List.map Prod.fst (F ++ [(bare, _)]) = newD.frames.take (i + 1)
            rw [List.map_append, HM.out]
            exact newD_take i hlt
          · exact (HO.out _).push bare _ (Hw.out _) HA.out.1 HA.out.2 HAe.out HAq.out HAb.out HR.out rfl HG.out (by rcases HAT.out with h | h; exact .inl h; exact .inr (by rw [h]; simp))
        case measure => simp [intOf]; omega
    · obtain rfl : i = 24 := by omega
      obtain ⟨oa, oc, rfl, _⟩ := HI.out.own.f.frames
      have o1 := HI.out.c1
      have o2 := HI.out.c2
      have r0 := HI.out.r0
      have r1 := HI.out.r1
      have r2 := HI.out.r2
      have r3 := HI.out.rz
      go_wp2_with fail
      have e : F.map Prod.fst = newD.frames := by rw [HM.out]; rfl
      refine bodyPost_ret (v := .agg #[.slice oa F.length oc, .slice (some ⟨w.heap.size + 1, 0, none⟩) 4 4, .slice none 0 0]) (by simp [results, Tryz.results8, go_sem, r0, r1, r2]) rfl ⟨_, _, _, F, rfl, e, ?_, ?_⟩
      · exact (((HI.out.own.setLow (by simp) _).setLow (by simp) _).setLow (by simp) _).mono (by omega)
      · exact ((HI.out.below.setCell (by simp) _).setCell (by simp) _).setCell (by simp) _
set_option maxRecDepth 10000 in
set_option maxHeartbeats 1600000 in
theorem refNew (w : World) : Calls Tryz.prog 14 #[] w (MachRes w.heap.size newD w) := by
  obtain ⟨i0, hi0, hz0, hz1, hz2⟩ := info_parts infoFrames
  have hmk := make8
  have hmk4 := make4
  go_enter Tryz.func14, Tryz.ntmps14
  go_wp2_with fail
  refine wp_gen (GrowM w (w.heap.size + 1) (w.heap.size + 1 + 1) (.slice none 0 0) (.slice (some ⟨w.heap.size + 1, 0, none⟩) 4 4) (.slice none 0 0) [] newD.encl []) (GrowM.start w _ _) ?_
  clear hmk4
  intro W0 H0
  have H0 := hid H0
  go_loopw [2] (fun j W => ∃ (i : Nat) (ov : Value) (F : List (FrameD × Value)), i ≤ 24 ∧ j = .int .i64 i ∧ Hid (F.map Prod.fst = newD.frames.take i) ∧ Hid (GrowM w (w.heap.size + 1) (w.heap.size + 1 + 1) ov (.slice (some ⟨w.heap.size + 1, 0, none⟩) 4 4) (.slice none 0 0) F newD.encl [] W)) (fun j _ => 24 - (intOf j).toNat)
  case atStart => exact ⟨0, _, [], by omega, rfl, rfl, H0.out⟩
  case round =>
    obtain ⟨i, ov, F, hi, rfl, HM, HI⟩ := hrel
    clear H0
    have HLF : Hid (F.length = i) := by
      show F.length = i
      have := congrArg List.length HM.out
      rw [List.length_map, List.length_take] at this
      simp [newD] at this
      omega
    have hsz := HI.out.below.size
    have hlo := HI.out.lo
    have hhi := HI.out.hi
    have c0 := HI.out.c0
    have cz := HI.out.cz
    by_cases hlt : i < 24
    · have HO : Hid (∀ X, GrowM w (w.heap.size + 1) (w.heap.size + 1 + 1) ov (.slice (some ⟨w.heap.size + 1, 0, none⟩) 4 4) (.slice none 0 0) F newD.encl [] (((wr.alloc (.cells zero8 3)).alloc X).drew)) := fun X => HI.out.later (by go_grown)
      have ho1 : (wr.alloc (.cells zero8 3)).ownsRow wr.heap.size 3 1 (.slice (some ⟨wr.heap.size, 0, none⟩) 8 8) 8 zero8.toList := World.ownsRow_lit wr zero8 8 (Nat.le_refl _) (by decide) rfl
      have Hw : Hid (∀ X, World.ownsRow (((wr.alloc (.cells zero8 3)).alloc X).drew) (w.heap.size + 1) 3 1 (.slice (some ⟨wr.heap.size, 0, none⟩) 8 8) bare.words.length (intCells bare.words)) := fun X => ownsRow_mono (ownsRow_below ho1 (by go_grown)) (by have := HI.out.bw; omega)
      have HA := hid (HI.out.own.f.apart_new ho1 (Nat.le_refl _))
      have HAe : Hid (Apart (.slice (some ⟨wr.heap.size, 0, none⟩) 8 8) (.slice (some ⟨w.heap.size + 1, 0, none⟩) 4 4)) := (apart_of_lt HI.out.own.e ho1 (Nat.le_refl _)).symm
      have HAq : Hid (Apart (.slice (some ⟨wr.heap.size, 0, none⟩) 8 8) (.slice none 0 0)) := fun k hk hk' => by simp [Value.ownBlock] at hk'
      have HAb : Hid (NotAt (.slice (some ⟨wr.heap.size, 0, none⟩) 8 8) (w.heap.size + 1 + 1)) := fun k hk => by simp [Value.ownBlock] at hk; omega
      have ca : ∀ X, (wr.alloc X).cell? ⟨w.heap.size + 1 + 1, 0, none⟩ = some ov := fun X => cell_later (by go_grown) HI.out.c0
      have cb : ∀ X Y, ((wr.alloc X).alloc Y).cell? ⟨w.heap.size + 1 + 1, 0, none⟩ = some ov := fun X Y => cell_later (by go_grown) HI.out.c0
      clear ho1
      go_wp2_with fail
      go_region_law (first
          | (refine step_append_lies _ rfl _ _ 25 rfl (w.heap.size + 1) 73 i0 _ 4 48 Tryz.underlying25 hi0 hz0 hz1 hz2 rfl (by decide) _ F.length (F.flatMap fcs) rfl (HO.out _).own.f.row ⟨wr.heap.size + 1, 0, none⟩ 1 1 [.int .i64 0, .int .i64 0, .int .i64 0, .slice (some ⟨wr.heap.size, 0, none⟩) 8 8] rfl rfl (news_new (by simp) #[_, _, _, _] _) (by simp [Value.oneCell']) (by decide) (by unfold maxLen; have := HLF.out; omega) (by have := HLF.out; omega) (by simp; omega) (wr.heap.size + 1 + 1) (by simp) ?_
             intro g cap' W' hrow hgrow hat _
             have s0 : W'.cell? ⟨w.heap.size + 1 + 1, 0, none⟩ = some ov := hgrow.cell (HO.out _).c0 (fun e => (HO.out (.cells #[] 0)).no _ e.symm rfl)
             have s1 : ∀ o, W'.frozen? ⟨w.heap.size + 1 + 1, o, none⟩ = false := fun o => by rw [hgrow.frozen_far ⟨w.heap.size + 1 + 1, o, none⟩ (HO.out _).hi (fun e => (HO.out (.cells #[] 0)).no _ e.symm rfl)]; exact (HO.out _).cz o
             have HR := hid hrow
             have HG := hid hgrow
             have HAT := hid hat
             clear hrow hgrow hat))
      all_goals
        go_wp2_with fail
        go_roundw
        case rel =>
          refine ⟨i + 1, .slice (some ⟨g, 0, none⟩) (F.length + 1) cap', F ++ [(bare, .slice (some ⟨wr.heap.size, 0, none⟩) 8 8)], by omega, by go_num, ?_, ?_⟩
          · show List.map Prod.fst (F ++ [(bare, _)]) = newD.frames.take (i + 1)
            rw [List.map_append, HM.out]
            exact newD_take i hlt
          · exact (HO.out _).push bare _ (Hw.out _) HA.out.1 HA.out.2 HAe.out HAq.out HAb.out HR.out rfl HG.out (by rcases HAT.out with h | h; exact .inl h; exact .inr (by rw [h]; simp))
        case measure => simp [intOf]; omega
    · obtain rfl : i = 24 := by omega
      obtain ⟨oa, oc, rfl, _⟩ := HI.out.own.f.frames
      have o1 := HI.out.c1
      have o2 := HI.out.c2
      have r0 := HI.out.r0
      have r1 := HI.out.r1
      have r2 := HI.out.r2
      have r3 := HI.out.rz
      go_wp2_with fail
      have e : F.map Prod.fst = newD.frames := by rw [HM.out]; rfl
      refine bodyPost_ret (v := .agg #[.slice oa F.length oc, .slice (some ⟨w.heap.size + 1, 0, none⟩) 4 4, .slice none 0 0]) (by simp [results, Tryz.results14, go_sem, r0, r1, r2]) rfl ⟨_, _, _, F, rfl, e, ?_, ?_⟩
      · exact (((HI.out.own.setLow (by simp) _).setLow (by simp) _).setLow (by simp) _).mono (by omega)
      · exact ((HI.out.below.setCell (by simp) _).setCell (by simp) _).setCell (by simp) _

end Go.Proofs.YtklbbjionoeofaaGreatDoor
