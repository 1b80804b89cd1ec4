/- ref.MachineCopy, walked. Conditions: those that each contract writes. -/
import Derived.Test.YtklbbjionoeofaaGreatDoorGg
import Derived.Deep.Cut
import Derived.Deep.CutRange
namespace Go.Proofs.YtklbbjionoeofaaGreatDoor
open Go.RowKit

set_option maxRecDepth 10000 in
set_option maxHeartbeats 3200000 in
theorem refMachCopy (v : Value) (M : MachD) (w : World) (hf : M.Fits) (hv : MachAt w v M) : Calls Tryz.prog 27 #[v] w (MachRes w.heap.size M w) := by
  obtain ⟨fa, fc, ea, ec, qa, qc, rfl, hF, hE, hQ, _⟩ := hv
  obtain ⟨i0, hi0, hz0, hz1, hz2⟩ := info_parts infoFrames
  obtain ⟨j0, hj0, hy0, hy1, hy2⟩ := info_parts infoEncls
  obtain ⟨k0, hk0, hx0, hx1, hx2⟩ := info_parts infoQuotes
  obtain ⟨n0, hn0, hv0, hv1, hv2⟩ := info_parts infoInts
  have HF := hid hF
  have HE := hid hE
  have HQ := hid hQ
  have HW := hid hf.w
  have hfn := hf.f
  have hfe := hf.e
  have hfq := hf.q
  clear hF hE hQ hf
  obtain ⟨n, hn⟩ : ∃ n, M.frames.length = n := ⟨_, rfl⟩
  rw [hn] at hfn ⊢
  have HN := hid hn
  clear hn
  go_enter Tryz.func27, Tryz.ntmps27
  go_wp2_with fail
  go_upto_region 1 with fail
  go_cut [3] from 6 to 12 (fun t3 wc => ∃ b ev qv, t3 = .pointer (some ⟨b, 0, none⟩) ∧ CopyInv w b (.slice fa n fc) (.slice none 0 0) ev qv [] M.encl M.quotes wc)
  case first =>
    go_region_held3 (fun w' => w'.cell? ⟨w.heap.size, 0, none⟩ = some (.slice fa n fc) ∧ w'.cell? ⟨w.heap.size, 1, none⟩ = some (.slice ea M.encl.length ec) ∧ w'.cell? ⟨w.heap.size, 2, none⟩ = some (.slice qa M.quotes.length qc))
      (first | go_keep | exact ⟨p0, p1, p2⟩ | exact ⟨q0, q1, q2⟩ | (refine ⟨?_, ?_, ?_⟩ <;> (go_simp; done)))
      (first
        | (refine step_append_nil rfl _ _ 26 rfl 77 j0 _ 7 64 Tryz.underlying26 hj0 hy0 hy1 hy2 rfl (by decide) rfl ea M.encl.length ec (M.encl.flatMap EnclD.cs) rfl (flat_len _ 7 EnclD.cs_len _) (HE.out.cells.mono (by go_grown)) (enclCells_one _) (by unfold maxLen; omega) (by omega) ?_
           intro a1 c1 w1 ho1 hg1
           have hb1 := below_grown hg1
           have z1 : w.heap.size + 1 < w1.heap.size := by have := hb1.size; simp at this; omega
           have p0 : w1.cell? ⟨w.heap.size, 0, none⟩ = some (.slice fa n fc) := by rw [(bcell hb1).1 _ _ (by go_size)]; simp [go_sem]
           have p1 : w1.cell? ⟨w.heap.size, 1, none⟩ = some (.slice ea M.encl.length ec) := by rw [(bcell hb1).1 _ _ (by go_size)]; simp [go_sem]
           have p2 : w1.cell? ⟨w.heap.size, 2, none⟩ = some (.slice qa M.quotes.length qc) := by rw [(bcell hb1).1 _ _ (by go_size)]; simp [go_sem]
           have p3 : w1.cell? ⟨w.heap.size + 1, 0, none⟩ = some (.slice none 0 0) := by rw [(bcell hb1).1 _ _ (by go_size)]; simp [go_sem]
           have p4 : w1.cell? ⟨w.heap.size + 1, 1, none⟩ = some (.slice none 0 0) := by rw [(bcell hb1).1 _ _ (by go_size)]; simp [go_sem]
           have p5 : w1.cell? ⟨w.heap.size + 1, 2, none⟩ = some (.slice none 0 0) := by rw [(bcell hb1).1 _ _ (by go_size)]; simp [go_sem]
           have p6 : ∀ o, w1.frozen? ⟨w.heap.size + 1, o, none⟩ = false := fun o => by rw [(bcell hb1).2 _ _ (by go_size)]; simp [go_sem]
           have B1 : Below w.heap.size w w1 := Below.trans (by go_grown) (hb1.mono (by go_size))
           try have zA : w.heap.size + 2 < w1.heap.size := by have := hb1.size; simp at this; omega
           try have r0 : w1.cell? ⟨w.heap.size + 2, 0, none⟩ = some (.slice none 0 0) := by rw [(bcell hb1).1 _ _ (by go_size)]; simp [go_sem]
           try have r1 : w1.cell? ⟨w.heap.size + 2, 1, none⟩ = some (.slice none 0 0) := by rw [(bcell hb1).1 _ _ (by go_size)]; simp [go_sem]
           try have r2 : w1.cell? ⟨w.heap.size + 2, 2, none⟩ = some (.slice none 0 0) := by rw [(bcell hb1).1 _ _ (by go_size)]; simp [go_sem]
           try have r3 : ∀ o, w1.frozen? ⟨w.heap.size + 2, o, none⟩ = false := by (intro o; rw [(bcell hb1).2 _ _ (by go_size)]; simp [go_sem]))
        | (refine step_append_nil rfl _ _ 27 rfl 71 k0 _ 2 24 Tryz.underlying27 hk0 hx0 hx1 hx2 rfl (by decide) rfl qa M.quotes.length qc (M.quotes.flatMap QuoteD.cs) rfl (flat_len _ 2 QuoteD.cs_len _) (HQ.out.cells.mono (B1.trans (by go_grown))) (quoteCells_one _) (by unfold maxLen; omega) (by omega) ?_
           intro a2 c2 w2 ho2 hg2
           have hb2 := below_grown hg2
           have z2 : w1.heap.size ≤ w2.heap.size := by have := hb2.size; (try simp at this); omega
           have B12 : Below w1.heap.size w1 w2 := Below.trans (by go_grown) (hb2.mono (by go_size))
           have B2 : Below w.heap.size w w2 := B1.trans (B12.mono B1.size)
           have G1 : w2.ownsRow (w.heap.size + 2) 77 7 (.slice a1 M.encl.length c1) M.encl.length (M.encl.flatMap EnclD.cs) := ownsRow_mono (ownsRow_below ho1 B12) (by go_size)
           have G2 : w2.ownsRow (w.heap.size + 2) 71 2 (.slice a2 M.quotes.length c2) M.quotes.length (M.quotes.flatMap QuoteD.cs) := ownsRow_mono ho2 (by go_size)
           have G3 : Apart (.slice a1 M.encl.length c1) (.slice a2 M.quotes.length c2) := apart_of_lt ho1 ho2 (by go_size)
           have G4 := ho1.lt
           have G5 := ho2.lt
           simp at G4 G5
           have C2 : ∀ b o, b < w1.heap.size → w2.cell? ⟨b, o, none⟩ = w1.cell? ⟨b, o, none⟩ := fun b o h => by rw [(bcell hb2).1 _ _ (by go_size)]; try go_simp
           have D2 : ∀ b o, b < w1.heap.size → w2.frozen? ⟨b, o, none⟩ = w1.frozen? ⟨b, o, none⟩ := fun b o h => by rw [(bcell hb2).2 _ _ (by go_size)]; try go_simp
           have q0 : w2.cell? ⟨w.heap.size, 0, none⟩ = some (.slice fa n fc) := by rw [C2 _ _ (by omega)]; exact p0
           have q1 : w2.cell? ⟨w.heap.size, 1, none⟩ = some (.slice ea M.encl.length ec) := by rw [C2 _ _ (by omega)]; exact p1
           have q2 : w2.cell? ⟨w.heap.size, 2, none⟩ = some (.slice qa M.quotes.length qc) := by rw [C2 _ _ (by omega)]; exact p2
           have q3 : w2.cell? ⟨w.heap.size + 1, 0, none⟩ = some (.slice none 0 0) := by rw [C2 _ _ (by omega)]; exact p3
           have q4 : w2.cell? ⟨w.heap.size + 1, 1, none⟩ = some (.slice none 0 0) := by rw [C2 _ _ (by omega)]; exact p4
           have q5 : w2.cell? ⟨w.heap.size + 1, 2, none⟩ = some (.slice none 0 0) := by rw [C2 _ _ (by omega)]; exact p5
           have q6 : ∀ o, w2.frozen? ⟨w.heap.size + 1, o, none⟩ = false := fun o => by rw [D2 _ _ (by omega)]; exact p6 o
           try have s0 : w2.cell? ⟨w.heap.size + 2, 0, none⟩ = some (.slice none 0 0) := by rw [C2 _ _ (by omega)]; exact r0
           try have s1 : w2.cell? ⟨w.heap.size + 2, 1, none⟩ = some (.slice none 0 0) := by rw [C2 _ _ (by omega)]; exact r1
           try have s2 : w2.cell? ⟨w.heap.size + 2, 2, none⟩ = some (.slice none 0 0) := by rw [C2 _ _ (by omega)]; exact r2
           try have s3 : ∀ o, w2.frozen? ⟨w.heap.size + 2, o, none⟩ = false := by (intro o; rw [D2 _ _ (by omega)]; exact r3 o)
           try have zB : w1.heap.size < w2.heap.size := by have := hb2.size; (try simp at this); omega
           try have s0 : w2.cell? ⟨w1.heap.size, 0, none⟩ = some (.slice none 0 0) := by rw [(bcell hb2).1 _ _ (by go_size)]; simp [go_sem]
           try have s1 : w2.cell? ⟨w1.heap.size, 1, none⟩ = some (.slice none 0 0) := by rw [(bcell hb2).1 _ _ (by go_size)]; simp [go_sem]
           try have s2 : w2.cell? ⟨w1.heap.size, 2, none⟩ = some (.slice none 0 0) := by rw [(bcell hb2).1 _ _ (by go_size)]; simp [go_sem]
           try have s3 : ∀ o, w2.frozen? ⟨w1.heap.size, o, none⟩ = false := by (intro o; rw [(bcell hb2).2 _ _ (by go_size)]; simp [go_sem])))
    all_goals
      go_wp2_with fail
      go_meet
    · have zz : w.heap.size + 1 < w2.heap.size := by omega
      exact ⟨w2.heap.size, .slice a1 M.encl.length c1, .slice a2 M.quotes.length c2, rfl,
        ⟨B2.alloc (by omega) _, by go_simp, by go_simp, by go_simp, by go_simp, fun o => by go_simp, by go_simp, by go_simp, by go_simp, fun o => by go_simp, by omega, by go_size,
          ⟨OwnRows.nil, ownsRow_below G1 (below_alloc _ _), ownsRow_below G2 (below_alloc _ _), fun k hk => by simp [Value.ownBlock] at hk, fun k hk => by simp [Value.ownBlock] at hk, G3, fun i p hp => by simp at hp, fun i p hp => by simp at hp⟩,
          fun k hk => by simp [Value.ownBlock] at hk, fun k hk => by have := (G1.lt k hk).2; omega, fun k hk => by have := (G2.lt k hk).2; omega, fun i p hp => by simp at hp⟩⟩
    · have N1 : NotAt (.slice a1 M.encl.length c1) w1.heap.size := fun k hk => by have := (ho1.lt k hk).2; omega
      have N2 : NotAt (.slice a2 M.quotes.length c2) w1.heap.size := fun k hk => by have := (ho2.lt k hk).1; (try simp at this); omega
      have zn : w.heap.size ≠ w1.heap.size := by omega
      have zm : w.heap.size + 1 ≠ w1.heap.size := by omega
      exact ⟨w1.heap.size, .slice a1 M.encl.length c1, .slice a2 M.quotes.length c2, rfl,
        ⟨((B2.setCell (by simp only; omega) _).setCell (by simp only; omega) _).setCell (by simp only; omega) _, by go_simp, by go_simp, by go_simp, by go_simp, fun o => by go_simp, by go_simp, by go_simp, by go_simp, fun o => by go_simp, by omega, by go_size,
          ⟨OwnRows.nil, ownsRow_set3 G1 N1 _ _ _ _ _ _, ownsRow_set3 G2 N2 _ _ _ _ _ _, fun k hk => by simp [Value.ownBlock] at hk, fun k hk => by simp [Value.ownBlock] at hk, G3, fun i p hp => by simp at hp, fun i p hp => by simp at hp⟩,
          fun k hk => by simp [Value.ownBlock] at hk, N1, N2, fun i p hp => by simp at hp⟩⟩
    · have N1 : NotAt (.slice a1 M.encl.length c1) (w.heap.size + 1 + 1) := fun k hk => by have := (ho1.lt k hk).1; (try simp at this); omega
      have N2 : NotAt (.slice a2 M.quotes.length c2) (w.heap.size + 1 + 1) := fun k hk => by have := (ho2.lt k hk).1; (try simp at this); omega
      have zn : w.heap.size ≠ w.heap.size + 1 + 1 := by omega
      have zm : w.heap.size + 1 ≠ w.heap.size + 1 + 1 := by omega
      exact ⟨w.heap.size + 1 + 1, .slice a1 M.encl.length c1, .slice a2 M.quotes.length c2, rfl,
        ⟨((B2.setCell (by simp only; omega) _).setCell (by simp only; omega) _).setCell (by simp only; omega) _, by go_simp, by go_simp, by go_simp, by go_simp, fun o => by go_simp, by go_simp, by go_simp, by go_simp, fun o => by go_simp, by omega, by go_size,
          ⟨OwnRows.nil, ownsRow_set3 G1 N1 _ _ _ _ _ _, ownsRow_set3 G2 N2 _ _ _ _ _ _, fun k hk => by simp [Value.ownBlock] at hk, fun k hk => by simp [Value.ownBlock] at hk, G3, fun i p hp => by simp at hp, fun i p hp => by simp at hp⟩,
          fun k hk => by simp [Value.ownBlock] at hk, N1, N2, fun i p hp => by simp at hp⟩⟩
  case rest =>
    obtain ⟨b, ev, qv, rfl, hI⟩ := hcut
    have c0 := hI.p0
    go_wp2_with fail
    go_loopw [4] (fun j W => ∃ (i : Nat) (ov : Value) (F : List (FrameD × Value)), i ≤ n ∧ j = .int .i64 i ∧ Hid (F.map Prod.fst = M.frames.take i) ∧ Hid (CopyInv w b (.slice fa n fc) ov ev qv F M.encl M.quotes W)) (fun j _ => n - (intOf j).toNat)
    case atStart => exact ⟨0, _, [], by omega, rfl, rfl, hI⟩
    case round =>
      obtain ⟨i, ov, F, hi, rfl, HM, HI⟩ := hrel
      have c0' := HI.out.p0
      clear c0 hI
      have HLF : Hid (F.length = i) := by
        show F.length = i
        have := congrArg List.length HM.out
        rw [List.length_map, List.length_take, HN.out] at this
        omega
      have hsz := HI.out.below.size
      have hlo := HI.out.lo
      have hhi := HI.out.hi
      by_cases hlt : i < n
      · obtain ⟨x, hx⟩ : ∃ x, M.frames[i]? = some x := ⟨_, List.getElem?_eq_getElem (by rw [HN.out]; exact hlt)⟩
        have hxw := HW.out i x hx
        have HX := hid hx
        obtain ⟨fb, off, wa, wc', rfl, k0, k1, k2, k3, k4⟩ := HF.out i x hx
        have l0 := cell_later HI.out.below k0
        have l1 := cell_later HI.out.below k1
        have l2 := cell_later HI.out.below k2
        have l3 := cell_later HI.out.below k3
        have HK := hid (k4.mono HI.out.below)
        clear hx k0 k1 k2 k3 k4
        go_wp2_with (at_builtin; refine wpList_append_nil rfl _ _ 30 rfl 3 n0 _ 1 8 Tryz.underlying30 hn0 hv0 hv1 hv2 rfl (by decide) rfl wa x.words.length wc' (intCells x.words) rfl (by simp [intCells]) (HK.out.cells.mono (by go_grown)) (intCells_one _) (by unfold maxLen; omega) (by omega) ?_)
        intro a1 c1 w1 ho1 hg1
        have hb1 := below_grown hg1
        have q0 : w1.cell? ⟨wr.heap.size, 0, none⟩ = some (.int .i64 x.owner) := by rw [(bcell hb1).1 _ _ (by go_size)]; simp [go_sem]
        have q1 : w1.cell? ⟨wr.heap.size, 1, none⟩ = some (.int .i64 x.pl) := by rw [(bcell hb1).1 _ _ (by go_size)]; simp [go_sem]
        have q2 : w1.cell? ⟨wr.heap.size, 2, none⟩ = some (.int .i64 x.rights) := by rw [(bcell hb1).1 _ _ (by go_size)]; simp [go_sem]
        have q3 : w1.cell? ⟨wr.heap.size, 3, none⟩ = some (.slice wa x.words.length wc') := by rw [(bcell hb1).1 _ _ (by go_size)]; simp [go_sem]
        have q4 : ∀ o, w1.frozen? ⟨wr.heap.size, o, none⟩ = false := fun o => by rw [(bcell hb1).2 _ _ (by go_size)]; simp [go_sem]
        have z1 : wr.heap.size < w1.heap.size := by have := hb1.size; simp at this; omega
        have B1 : Below wr.heap.size wr w1 := Below.trans (by go_grown) (hb1.mono (by go_size))
        have q5 : w1.cell? ⟨b, 0, none⟩ = some ov := cell_later B1 HI.out.c0
        have q6 : ∀ o, w1.frozen? ⟨b, o, none⟩ = false := fun o => by rw [(bcell B1).2 _ _ hhi]; exact HI.out.cz o
        have B2 : Below wr.heap.size wr (w1.setCell ⟨wr.heap.size, 3, none⟩ (.slice a1 x.words.length c1)) := B1.setCell (Nat.le_refl _) _
        have HO : Hid (∀ X, CopyInv w b (.slice (some ⟨fb, off, none⟩) n fc) ov ev qv F M.encl M.quotes ((w1.setCell ⟨wr.heap.size, 3, none⟩ (.slice a1 x.words.length c1)).alloc X)) := fun X => HI.out.later (B2.trans ((below_alloc _ X).mono B2.size))
        have Hw : Hid (∀ X, World.ownsRow ((w1.setCell ⟨wr.heap.size, 3, none⟩ (.slice a1 x.words.length c1)).alloc X) (w.heap.size + 2) 3 1 (.slice a1 x.words.length c1) x.words.length (intCells x.words)) := fun X =>
          ownsRow_mono (ownsRow_below (ownsRow_setCell_below ho1 (a := ⟨wr.heap.size, 3, none⟩) (by go_size) _) (below_alloc _ X)) (by go_size)
        have HA := hid (HI.out.own.f.apart_new ho1 (by go_size))
        have HAe : Hid (Apart (.slice a1 x.words.length c1) ev) := (apart_of_lt HI.out.own.e ho1 (by go_size)).symm
        have HAq : Hid (Apart (.slice a1 x.words.length c1) qv) := (apart_of_lt HI.out.own.q ho1 (by go_size)).symm
        have HAb : Hid (NotAt (.slice a1 x.words.length c1) b) := fun k hk => by have := (ho1.lt k hk).1; (try simp at this); omega
        clear ho1 hb1 B1 B2
        go_wp2_with (at_builtin; refine wpList_append_lies _ rfl _ _ 25 rfl (w.heap.size + 2) 73 i0 _ 4 48 Tryz.underlying25 hi0 hz0 hz1 hz2 rfl (by decide) _ F.length (F.flatMap fcs) rfl (HO.out _).own.f.row ⟨w1.heap.size, 0, none⟩ 1 1 [.int .i64 x.owner, .int .i64 x.pl, .int .i64 x.rights, .slice a1 x.words.length c1] rfl rfl (news_new (by simp) #[_, _, _, _] _) (by simp [Value.oneCell']) (by decide) ?c2 ?c3 ?c4 (w1.heap.size + 1) ?c5 ?_)
        case c2 => unfold maxLen; have := HLF.out; omega
        case c3 => have := HLF.out; omega
        case c4 => simp; omega
        case c5 => simp
        intro g cap' W' hrow hgrow hat _
        have s0 : W'.cell? ⟨b, 0, none⟩ = some ov := hgrow.cell (HO.out _).c0 (fun e => (HO.out (.cells #[] 0)).no b e.symm rfl)
        have s1 : ∀ o, W'.frozen? ⟨b, o, none⟩ = false := fun o => by rw [hgrow.frozen_far ⟨b, o, none⟩ (HO.out _).hi (fun e => (HO.out (.cells #[] 0)).no b e.symm rfl)]; exact (HO.out _).cz o
        have HR := hid hrow
        have HG := hid hgrow
        have HAT := hid hat
        clear hrow hgrow hat
        go_wp2_with fail
        go_roundw
        case rel =>
          refine ⟨i + 1, .slice (some ⟨g, 0, none⟩) (F.length + 1) cap', F ++ [(x, .slice a1 x.words.length c1)], by omega, by go_num, ?_, ?_⟩
          · show List.map Prod.fst (F ++ [(x, _)]) = M.frames.take (i + 1)
            rw [List.map_append, HM.out, List.take_add_one, HX.out]
            rfl
          · exact (HO.out _).push x _ (Hw.out _) HA.out.1 HA.out.2 HAe.out HAq.out HAb.out HR.out rfl HG.out (by rcases HAT.out with h | h; exact .inl h; exact .inr (by rw [h]; simp))
        case measure => simp [intOf]; omega
      · obtain rfl : i = n := by omega
        obtain ⟨oa, oc, rfl, _⟩ := HI.out.own.f.frames
        obtain ⟨ea', ec', rfl, _⟩ := CellsAt.of_own HI.out.own.e
        obtain ⟨qa', qc', rfl, _⟩ := CellsAt.of_own HI.out.own.q
        have o0 := HI.out.c0
        have o1 := HI.out.c1
        have o2 := HI.out.c2
        have o3 := HI.out.cz
        have r0 := HI.out.r0
        have r1 := HI.out.r1
        have r2 := HI.out.r2
        have r3 := HI.out.rz
        go_wp2_with fail
        have e : F.map Prod.fst = M.frames := by rw [HM.out, List.take_of_length_le (by rw [HN.out]; exact Nat.le_refl _)]
        refine bodyPost_ret (v := .agg #[.slice oa F.length oc, .slice ea' M.encl.length ec', .slice qa' M.quotes.length qc']) (by simp [results, Tryz.results27, go_sem, r0, r1, r2]) rfl ⟨_, _, _, F, rfl, e, ?_, ?_⟩
        · exact (((HI.out.own.setLow (by simp) _).setLow (by simp) _).setLow (by simp) _).mono (by omega)
        · exact ((HI.out.below.setCell (by simp) _).setCell (by simp) _).setCell (by simp) _

end Go.Proofs.YtklbbjionoeofaaGreatDoor
