/- image.Copy, walked. Conditions: those that each contract writes. -/
import Derived.Test.YtehhhliiehhdjaaDoorOwn
namespace Go.Proofs.YtehhhliiehhdjaaDoor
open Go.RowKit

def PagesRes (base : Nat) (l : List PageD) (w : World) (e : Ending) (w' : World) : Prop :=
  ∃ a c F, e = .returned (.slice a l.length c) ∧ F.map Prod.fst = l ∧ OwnPages base w' (.slice a l.length c) F ∧ Below base w w'
theorem infoPages : (Tryd.prog.info? 52).map (fun i => (i.zero, i.size, i.bytes)) = some (some (.agg #[.int .i64 0, .int .i64 0, .slice none 0 0]), 3, 40) := by kernel_rfl

set_option maxRecDepth 10000 in
set_option maxHeartbeats 1600000 in
theorem imageCopy (a : Option Addr) (l : List PageD) (n cap : Nat) (w : World) (hl : l.length = n) (hf : PagesFit l) (hc : PagesAt w a l) :
    Calls Tryd.prog 16 #[.slice a n cap] w (PagesRes w.heap.size l w) := by
  obtain ⟨i0, hi0, hz0, hz1, hz2⟩ := info_parts infoPages
  have HL := hid hl
  have HC := hid hc
  have HW := hid hf.w
  have hn : n * 40 ≤ 140737488351232 := by rw [← hl]; exact hf.n
  clear hl hc hf
  go_enter Tryd.func16, Tryd.ntmps16
  go_wp2_with fail
  go_loopw [3, 8] (fun ov j W => ∃ (i : Nat) (F : List (PageD × Value)), i ≤ n ∧ j = .int .i64 i ∧ Hid (F.map Prod.fst = l.take i) ∧ OwnPages w.heap.size W ov F ∧ Below w.heap.size w W) (fun _ j _ => n - (intOf j).toNat)
  case atStart => exact ⟨0, [], by omega, rfl, rfl, OwnRows.nil, Below.refl _ _⟩
  case round =>
    obtain ⟨i, F, hi, rfl, HF, hO, hb⟩ := hrel
    have hsz := hb.size
    have HLF : Hid (F.length = i) := by
      show F.length = i
      have := congrArg List.length HF.out
      rw [List.length_map, List.length_take, HL.out] at this
      omega
    obtain ⟨oa, oc, rfl, _⟩ := hO.pages
    by_cases hlt : i < n
    · obtain ⟨x, hx⟩ : ∃ x, l[i]? = some x := ⟨_, List.getElem?_eq_getElem (by rw [HL.out]; exact hlt)⟩
      have hxw := HW.out i x hx
      have HX := hid hx
      obtain ⟨b, off, wa, wc, rfl, k0, k1, k2, hI⟩ := HC.out i x hx
      have l0 := cell_later hb k0
      have l1 := cell_later hb k1
      have l2 := cell_later hb k2
      have HI := hid (hI.mono hb)
      clear hx hI k0 k1 k2
      go_wp2_with fail
      refine (cloneInts wa _ wc (intCells x.words) _ (by simp [intCells]) (intCells_one _) (HI.out.cells.mono (by go_grown)) hxw).mono ?_
      rintro e w1 ⟨a1, c1, rfl, ho1, hb1⟩
      have q0 : w1.cell? ⟨wr.heap.size, 0, none⟩ = some (.int .i64 x.pl) := by rw [(bcell hb1).1 _ _ (by go_size)]; simp [go_sem]
      have q1 : w1.cell? ⟨wr.heap.size, 1, none⟩ = some (.int .i64 x.rights) := by rw [(bcell hb1).1 _ _ (by go_size)]; simp [go_sem]
      have q2 : w1.cell? ⟨wr.heap.size, 2, none⟩ = some (.slice wa x.words.length wc) := by rw [(bcell hb1).1 _ _ (by go_size)]; simp [go_sem]
      have q4 : ∀ o, w1.frozen? ⟨wr.heap.size, o, none⟩ = false := fun o => by rw [(bcell hb1).2 _ _ (by go_size)]; simp [go_sem]
      have z1 : wr.heap.size < w1.heap.size := by have := hb1.size; simp at this; omega
      have B1 : Below wr.heap.size wr w1 := Below.trans (by go_grown) (hb1.mono (by go_size))
      have B2 : Below wr.heap.size wr (w1.setCell ⟨wr.heap.size, 2, none⟩ (.slice a1 x.words.length c1)) := B1.setCell (Nat.le_refl _) _
      have HO : Hid (∀ X, OwnPages w.heap.size ((w1.setCell ⟨wr.heap.size, 2, none⟩ (.slice a1 x.words.length c1)).alloc X) (.slice oa F.length oc) F) := fun X => (hO.below B2).below (below_alloc _ X)
      have Hw : Hid (∀ X, World.ownsRow ((w1.setCell ⟨wr.heap.size, 2, none⟩ (.slice a1 x.words.length c1)).alloc X) w.heap.size 3 1 (.slice a1 x.words.length c1) x.words.length (intCells x.words)) := fun X =>
        ownsRow_mono (ownsRow_below (ownsRow_setCell_below ho1 (a := ⟨wr.heap.size, 2, none⟩) (by go_size) _) (below_alloc _ X)) (by go_size)
      have HA := hid (hO.apart_new ho1 (by go_size))
      have HB := hid (fun X => B2.trans ((below_alloc _ X).mono B2.size))
      have bs : w.heap.size ≤ w1.heap.size := by omega
      clear ho1 hb1 hO B1 B2
      go_wp2_with (at_builtin; refine wpList_append_lies _ rfl _ _ 47 rfl w.heap.size 52 i0 _ 3 40 Tryd.underlying47 hi0 hz0 hz1 hz2 rfl (by decide) _ F.length (F.flatMap pcs) rfl (HO.out _).row ⟨w1.heap.size, 0, none⟩ 1 1 [.int .i64 x.pl, .int .i64 x.rights, .slice a1 x.words.length c1] rfl rfl (news_new (by simp) #[_, _, _] _) (by simp [Value.oneCell']) (by decide) ?c2 ?c3 ?c4 (w1.heap.size + 1) ?c5 ?_)
      case c2 => unfold maxLen; have := HLF.out; omega
      case c3 => have := HLF.out; omega
      case c4 => simp; omega
      case c5 => simp
      intro g cap' W' hrow hgrow hat _
      have HR := hid hrow
      have HG := hid hgrow
      have HAT := hid hat
      clear hrow hgrow hat
      go_wp2_with fail
      go_roundw
      case rel =>
        refine ⟨i + 1, F ++ [(x, .slice a1 x.words.length c1)], by omega, by go_num, ?_, ?_, ?_⟩
        · show List.map Prod.fst (F ++ [(x, _)]) = l.take (i + 1)
          rw [List.map_append, HF.out, List.take_add_one, HX.out]
          rfl
        · exact (HO.out _).push x _ (Hw.out _) HA.out.1 HA.out.2 HR.out rfl HG.out (by rcases HAT.out with h | h; exact .inl h; exact .inr (by rw [h]; simp))
        · exact hb.trans (Below.trans ((HB.out _).mono hsz) (Below.grown (Below.refl _ _) HG.out (by simp; omega) (fun k hk => ((HO.out (.cells #[] 0)).row.lt k hk).1)))
      case measure => simp [intOf]; omega
    · obtain rfl : i = n := by omega
      go_wp2_with fail
      go_ret
      have e : F.map Prod.fst = l := by rw [HF.out, List.take_of_length_le (by rw [HL.out]; exact Nat.le_refl _)]
      refine ⟨oa, oc, F, ?_, e, ?_, hb⟩
      · rw [HL.out, ← HLF.out]; rfl
      · have : l.length = F.length := by rw [HL.out, HLF.out]
        rw [this]; exact hO

end Go.Proofs.YtehhhliiehhdjaaDoor
