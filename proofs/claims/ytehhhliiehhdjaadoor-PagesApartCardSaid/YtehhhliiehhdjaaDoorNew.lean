/- epc.New and ref.MachineOf, walked. No condition. -/
import Derived.Test.YtehhhliiehhdjaaDoorGrowM
import Derived.Deep.RegionLaw
namespace Go.Proofs.YtehhhliiehhdjaaDoor
open Go.RowKit

set_option maxRecDepth 10000 in
set_option maxHeartbeats 1600000 in
theorem epcNew (w : World) : Calls Tryd.prog 6 #[] w (MachRes w.heap.size newD w) := by
  obtain ⟨i0, hi0, hz0, hz1, hz2⟩ := info_parts infoFrames
  have hmk := make8
  have hmk4 := make4
  go_enter Tryd.func6, Tryd.ntmps6
  go_wp2_with fail
  refine wp_gen (GrowM w (w.heap.size + 1) (w.heap.size + 1 + 1) (.slice none 0 0) (.slice (some ⟨w.heap.size + 1, 0, none⟩) 4 4) (.slice none 0 0) [] newD.encl []) (GrowM.start w _ _) ?_
  clear hmk4
  intro W0 H0
  have H0 := hid H0
  go_loopw [4] (fun j W => ∃ (i : Nat) (ov : Value) (F : List (FrameD × Value)), i ≤ 24 ∧ j = .int .i64 i ∧ Hid (F.map Prod.fst = newD.frames.take i) ∧ Hid (GrowM w (w.heap.size + 1) (w.heap.size + 1 + 1) ov (.slice (some ⟨w.heap.size + 1, 0, none⟩) 4 4) (.slice none 0 0) F newD.encl [] W)) (fun j _ => 24 - (intOf j).toNat)
  case atStart => exact ⟨0, _, [], by omega, rfl, rfl, H0.out⟩
  case round =>
    obtain ⟨i, ov, F, hi, rfl, HM, HI⟩ := hrel
    clear H0
    have HLF : Hid (F.length = i) := by
      show F.length = i
      have := congrArg List.length HM.out
      rw [List.length_map, List.length_take] at this
      simp [newD] at this
      omega
    have hsz := HI.out.below.size
    have hlo := HI.out.lo
    have hhi := HI.out.hi
    have c0 := HI.out.c0
    have cz := HI.out.cz
    by_cases hlt : i < 24
    · have HO : Hid (∀ X, GrowM w (w.heap.size + 1) (w.heap.size + 1 + 1) ov (.slice (some ⟨w.heap.size + 1, 0, none⟩) 4 4) (.slice none 0 0) F newD.encl [] (((wr.alloc (.cells zero8 3)).alloc X).drew)) := fun X => HI.out.later (by go_grown)
      have ho1 : (wr.alloc (.cells zero8 3)).ownsRow wr.heap.size 3 1 (.slice (some ⟨wr.heap.size, 0, none⟩) 8 8) 8 zero8.toList := World.ownsRow_lit wr zero8 8 (Nat.le_refl _) (by decide) rfl
      have Hw : Hid (∀ X, World.ownsRow (((wr.alloc (.cells zero8 3)).alloc X).drew) (w.heap.size + 1) 3 1 (.slice (some ⟨wr.heap.size, 0, none⟩) 8 8) bare.words.length (intCells bare.words)) := fun X => ownsRow_mono (ownsRow_below ho1 (by go_grown)) (by have := HI.out.bw; omega)
      have HA := hid (HI.out.own.f.apart_new ho1 (Nat.le_refl _))
      have HAe : Hid (Apart (.slice (some ⟨wr.heap.size, 0, none⟩) 8 8) (.slice (some ⟨w.heap.size + 1, 0, none⟩) 4 4)) := (apart_of_lt HI.out.own.e ho1 (Nat.le_refl _)).symm
      have HAq : Hid (Apart (.slice (some ⟨wr.heap.size, 0, none⟩) 8 8) (.slice none 0 0)) := fun k hk hk' => by simp [Value.ownBlock] at hk'
      have HAb : Hid (NotAt (.slice (some ⟨wr.heap.size, 0, none⟩) 8 8) (w.heap.size + 1 + 1)) := fun k hk => by simp [Value.ownBlock] at hk; omega
      have ca : ∀ X, (wr.alloc X).cell? ⟨w.heap.size + 1 + 1, 0, none⟩ = some ov := fun X => cell_later (by go_grown) HI.out.c0
      have cb : ∀ X Y, ((wr.alloc X).alloc Y).cell? ⟨w.heap.size + 1 + 1, 0, none⟩ = some ov := fun X Y => cell_later (by go_grown) HI.out.c0
      clear ho1
      go_wp2_with fail
      go_region_law (first
          | (refine step_append_lies _ rfl _ _ 22 rfl (w.heap.size + 1) 40 i0 _ 4 48 Tryd.underlying22 hi0 hz0 hz1 hz2 rfl (by decide) _ F.length (F.flatMap fcs) rfl (HO.out _).own.f.row ⟨wr.heap.size + 1, 0, none⟩ 1 1 [.int .i64 0, .int .i64 0, .int .i64 0, .slice (some ⟨wr.heap.size, 0, none⟩) 8 8] rfl rfl (news_new (by simp) #[_, _, _, _] _) (by simp [Value.oneCell']) (by decide) (by unfold maxLen; have := HLF.out; omega) (by have := HLF.out; omega) (by simp; omega) (wr.heap.size + 1 + 1) (by simp) ?_
             intro g cap' W' hrow hgrow hat _
             have s0 : W'.cell? ⟨w.heap.size + 1 + 1, 0, none⟩ = some ov := hgrow.cell (HO.out _).c0 (fun e => (HO.out (.cells #[] 0)).no _ e.symm rfl)
             have s1 : ∀ o, W'.frozen? ⟨w.heap.size + 1 + 1, o, none⟩ = false := fun o => by rw [hgrow.frozen_far ⟨w.heap.size + 1 + 1, o, none⟩ (HO.out _).hi (fun e => (HO.out (.cells #[] 0)).no _ e.symm rfl)]; exact (HO.out _).cz o
             have HR := hid hrow
             have HG := hid hgrow
             have HAT := hid hat
             clear hrow hgrow hat))
      all_goals
        go_wp2_with fail
        go_roundw
        case rel =>
          refine ⟨i + 1, .slice (some ⟨g, 0, none⟩) (F.length + 1) cap', F ++ [(bare, .slice (some ⟨wr.heap.size, 0, none⟩) 8 8)], by omega, by go_num, ?_, ?_⟩
          · show List.map Prod.fst (F ++ [(bare, _)]) = newD.frames.take (i + 1)
            rw [List.map_append, HM.out]
            exact newD_take i hlt
          · exact (HO.out _).push bare _ (Hw.out _) HA.out.1 HA.out.2 HAe.out HAq.out HAb.out HR.out rfl HG.out (by rcases HAT.out with h | h; exact .inl h; exact .inr (by rw [h]; simp))
        case measure => simp [intOf]; omega
    · obtain rfl : i = 24 := by omega
      obtain ⟨oa, oc, rfl, _⟩ := HI.out.own.f.frames
      have o1 := HI.out.c1
      have o2 := HI.out.c2
      have r0 := HI.out.r0
      have r1 := HI.out.r1
      have r2 := HI.out.r2
      have r3 := HI.out.rz
      go_wp2_with fail
      have e : F.map Prod.fst = newD.frames := by rw [HM.out]; rfl
      refine bodyPost_ret (v := .agg #[.slice oa F.length oc, .slice (some ⟨w.heap.size + 1, 0, none⟩) 4 4, .slice none 0 0]) (by simp [results, Tryd.results6, go_sem, r0, r1, r2]) rfl ⟨_, _, _, F, rfl, e, ?_, ?_⟩
      · exact (((HI.out.own.setLow (by simp) _).setLow (by simp) _).setLow (by simp) _).mono (by omega)
      · exact ((HI.out.below.setCell (by simp) _).setCell (by simp) _).setCell (by simp) _
end Go.Proofs.YtehhhliiehhdjaaDoor
