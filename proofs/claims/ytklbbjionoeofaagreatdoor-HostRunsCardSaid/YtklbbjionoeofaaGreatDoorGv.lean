/- host.Run, walked. Conditions: what fits the form's own reach; the library's table reads as it is laid.
host.act at every act but a look at a quote that is there. Conditions: those that the contract writes. -/
import Derived.Test.YtklbbjionoeofaaGreatDoorHostRunSt
import Derived.Test.YtklbbjionoeofaaGreatDoorHostAct2
import Derived.Test.YtklbbjionoeofaaGreatDoorGp
import Derived.Test.YtklbbjionoeofaaGreatDoorMachCopy
import Derived.Deep.RegionHeld3
import Derived.Test.YtklbbjionoeofaaGreatDoorHostAct4
namespace Go.Proofs.YtklbbjionoeofaaGreatDoor
open Go.RowKit

def host0 (T : List ByteArray) : HostD := ⟨newD, ⟨T, []⟩⟩
theorem LoopSt.start {w W : World} {T : List ByteArray} {base : Nat} {fv1 ev1 qv1 : Value} {F1 : List (FrameD × Value)} {tv nv : Value} (hB : Below w.heap.size w W) (hz : w.heap.size + 2 ≤ W.heap.size) (hF : F1.map Prod.fst = newD.frames) (hO : OwnMach base W fv1 ev1 qv1 F1 newD.encl newD.quotes) (hC : ChalFrom 0 W (.agg #[tv, nv]) ⟨T, []⟩)
    (r0 : W.cell? ⟨w.heap.size, 0, none⟩ = some (.slice none 0 0)) (r1 : W.cell? ⟨w.heap.size, 1, none⟩ = some (.slice none 0 0)) (r2 : W.cell? ⟨w.heap.size, 2, none⟩ = some (.slice none 0 0)) (rz : ∀ o, W.frozen? ⟨w.heap.size, o, none⟩ = false)
    (q0 : W.cell? ⟨w.heap.size + 1, 0, none⟩ = some (.slice none 0 0)) (q1 : W.cell? ⟨w.heap.size + 1, 1, none⟩ = some (.slice none 0 0)) (qz : ∀ o, W.frozen? ⟨w.heap.size + 1, o, none⟩ = false) :
    LoopSt w W.heap.size (host0 T) [] (.slice none 0 0) (W.alloc (.cells #[fv1, ev1, qv1, tv, nv] 45)) := by
  have hM : MachFrom 0 W (.agg #[fv1, ev1, qv1]) newD := ⟨fv1, ev1, qv1, F1, rfl, hF, hO.mono (Nat.zero_le _)⟩
  obtain ⟨fa, fc, ea, ec, qa, qc, e1, _⟩ := hM.at
  obtain ⟨ta, tc, na, nc, e2, _⟩ := hC.at
  simp only [Value.agg.injEq, Array.mk.injEq, List.cons.injEq, and_true] at e1 e2
  obtain ⟨rfl, rfl, rfl⟩ := e1
  obtain ⟨rfl, rfl⟩ := e2
  refine ⟨hB.alloc hB.size _, hz, ⟨fa, fc, ea, ec, qa, qc, ta, tc, na, nc, by go_simp; rfl, by go_simp; rfl, by go_simp; rfl, by go_simp; rfl, by go_simp; rfl, fun o => by go_simp, BlkT.new rfl _ _, hM.below (below_alloc _ _), hC.below (below_alloc _ _)⟩, World.ownsRow_nil _ _ _ _, by go_size, ?_, ?_, ?_, ?_, ?_, ?_, ?_⟩
  · exact cell_new1 r0 _
  · exact cell_new1 r1 _
  · exact cell_new1 r2 _
  · exact fun o => by rw [(bcell (below_alloc W _)).2 _ _ (by omega)]; exact rz o
  · exact cell_new1 q0 _
  · exact cell_new1 q1 _
  · exact fun o => by rw [(bcell (below_alloc W _)).2 _ _ (by omega)]; exact qz o

/-- What host.act does at one act, wherever the host lies. -/
def ActDoes (a : ActD) : Prop := ∀ (B : Nat) (h : HostD) (w : World), HostAt B h w → h.m.Fits → h.c.Fits → Tab w → Calls Tryz.prog 11 #[.pointer (some ⟨B, 0, none⟩), a.v] w (ActRes B h a w)
set_option maxRecDepth 10000 in
set_option maxHeartbeats 1600000 in
theorem hostRun_of (ta0 : Option Addr) (tc0 : Nat) (T : List ByteArray) (a : Option Addr) (cap n : Nat) (L : List ActD) (w : World) (hl : L.length = n) (hS : StrsAt w ta0 T) (hA : ActsAt w a L) (h1 : T.length * 16 ≤ 140737488351232) (h2 : n * 56 ≤ 140737488351232) (hT : Tab w) (hact : ∀ a ∈ L, ActDoes a) :
    Calls Tryz.prog 4 #[.slice ta0 T.length tc0, .slice a n cap] w (RunsRes w.heap.size (scriptD T L) w) := by
  obtain ⟨i0, hi0, hz0, hz1, hz2⟩ := info_parts infoAns
  have HS := hid hS
  have HACT := hid hact
  have HA := hid hA
  have HTab := hid hT
  have HL := hid hl
  have hn : n ≤ 9223372036854775807 := by omega
  clear hS hA hT hl hact
  go_enter Tryz.func4, Tryz.ntmps4
  go_wp2_with fail
  refine (epcNew _).mono ?_
  rintro x w1 ⟨fv1, ev1, qv1, F1, rfl, hF1, hO1, hb1⟩
  have p0 : w1.cell? ⟨w.heap.size, 0, none⟩ = some (.slice none 0 0) := by rw [(bcell hb1).1 _ _ (by go_size)]; go_simp
  have p1 : w1.cell? ⟨w.heap.size, 1, none⟩ = some (.slice none 0 0) := by rw [(bcell hb1).1 _ _ (by go_size)]; go_simp
  have p2 : w1.cell? ⟨w.heap.size, 2, none⟩ = some (.slice none 0 0) := by rw [(bcell hb1).1 _ _ (by go_size)]; go_simp
  have p3 : ∀ o, w1.frozen? ⟨w.heap.size, o, none⟩ = false := fun o => by rw [(bcell hb1).2 _ _ (by go_size)]; go_simp
  have p4 : w1.cell? ⟨w.heap.size + 1, 0, none⟩ = some (.slice none 0 0) := by rw [(bcell hb1).1 _ _ (by go_size)]; go_simp
  have p5 : w1.cell? ⟨w.heap.size + 1, 1, none⟩ = some (.slice none 0 0) := by rw [(bcell hb1).1 _ _ (by go_size)]; go_simp
  have p6 : ∀ o, w1.frozen? ⟨w.heap.size + 1, o, none⟩ = false := fun o => by rw [(bcell hb1).2 _ _ (by go_size)]; go_simp
  have z1 : w.heap.size + 2 ≤ w1.heap.size := by have := hb1.size; simp at this; omega
  have HB1 : Hid (Below w.heap.size w w1) := Below.trans (by go_grown) (hb1.mono (by go_size))
  have HC : Hid (ChalAt w1 (.agg #[.slice ta0 T.length tc0, .slice none 0 0]) ⟨T, []⟩) := ⟨ta0, tc0, none, 0, rfl, HS.out.mono HB1.out, fun _ _ h => by simp at h⟩
  have HO1 := hid hO1
  have HF1 := hid hF1
  clear hb1 hO1 hF1
  go_wp2_with fail
  refine (trustCopy _ ⟨T, []⟩ _ HC.out ⟨by simpa using h1, by simp⟩).mono ?_
  rintro x w2 ⟨v2, rfl, hC2, hb2⟩
  obtain ⟨tv, nv, rfl, ht2, hn2, _⟩ := hC2
  have HL0 := LoopSt.start (w := w) (W := w2) (T := T) (HB1.out.trans (hb2.mono HB1.out.size)) (by have := hb2.size; omega) HF1.out (HO1.out.below hb2) ⟨tv, nv, rfl, ownsRow_mono ht2 (Nat.zero_le _), ownsRow_mono hn2 (Nat.zero_le _)⟩ (cell_later hb2 p0) (cell_later hb2 p1) (cell_later hb2 p2) (fun o => by rw [(bcell hb2).2 _ _ (by omega)]; exact p3 o) (cell_later hb2 p4) (cell_later hb2 p5) (fun o => by rw [(bcell hb2).2 _ _ (by omega)]; exact p6 o)
  go_upto_region 2 with fail
  refine act_gen (LoopSt w w2.heap.size (host0 T) [] (.slice none 0 0)) HL0 ?_
  clear HL0 p0 p1 p2 p3 p4 p5 p6 z1 HB1 HC HO1 HF1 hb2 ht2 hn2
  generalize w2.heap.size = B
  clear w1 w2
  intro W H
  replace H := hid H
  obtain ⟨fa, fc, ea, ec, qa, qc, ta, tc, na, nc, HH⟩ := H.out.host
  have g0 := HH.c0
  have g1 := HH.c1
  have g2 := HH.c2
  have g3 := HH.c3
  have g4 := HH.c4
  have r0 := H.out.r0
  have r1 := H.out.r1
  have r2 := H.out.r2
  have rz := H.out.rz
  have q0 := H.out.q0
  have q1 := H.out.q1
  have qz := H.out.qz
  have hlo := H.out.lo
  have hhi := HH.lt
  have n1 : w.heap.size ≠ B := by omega
  have n2 : w.heap.size + 1 ≠ B := by omega
  have n1' := n1.symm
  have n2' := n2.symm
  replace HH := hid HH
  go_wp2_with fail
  refine (trustCheck _ (host0 T).c _ HH.out.c.at ⟨by simpa [host0] using h1, by simp [host0]⟩).mono ?_
  rintro x w2 ⟨rfl, hb2⟩
  replace H := H.out.later hb2
  clear g0 g1 g2 g3 g4 r0 r1 r2 rz q0 q1 qz hhi HH hb2
  replace H := hid H
  obtain ⟨fa, fc, ea, ec, qa, qc, ta, tc, na, nc, HH⟩ := H.out.host
  have g0 := HH.c0
  have g1 := HH.c1
  have g2 := HH.c2
  have g3 := HH.c3
  have g4 := HH.c4
  have r0 := H.out.r0
  have r1 := H.out.r1
  have r2 := H.out.r2
  have rz := H.out.rz
  have q0 := H.out.q0
  have q1 := H.out.q1
  have qz := H.out.qz
  have hlo := H.out.lo
  have hhi := HH.lt
  have n1 : w.heap.size ≠ B := by omega
  have n2 : w.heap.size + 1 ≠ B := by omega
  have n1' := n1.symm
  have n2' := n2.symm
  replace HH := hid HH
  by_cases hf0 : chalF ⟨T, []⟩ = 0
  · rw [show chalF (host0 T).c = 0 from hf0]
    by_cases h200 : 200 < n
    · have HD : Hid (scriptD T L = ⟨[], mach0, chal0, 1⟩) := by
        show _ = _
        have : scriptF T L = 1 := by rw [scriptF, if_neg (by simpa using hf0), HL.out, if_pos h200]
        rw [scriptD, this]; rfl
      have h200' : (200 : Int) < (n : Int) := by omega
      clear hf0
      go_wp2_with fail
      refine bodyPost_ret (v := .tuple #[.slice none 0 0, .agg #[.slice none 0 0, .slice none 0 0, .slice none 0 0], .agg #[.slice none 0 0, .slice none 0 0], .int .i64 1]) (by simp only [results, Tryz.results4]; go_simp) rfl ?_
      rw [HD.out]
      refine ⟨_, _, _, rfl, World.ownsRow_nil _ _ _ _, mach0_from, chal0_from, ?_⟩
      exact below_low2 (below_low3 H.out.below (by omega) _ _ _) (by omega) _ _
    · have HD : Hid (scriptD T L = ⟨(actsD (host0 T) L).2, (actsD (host0 T) L).1.m, (actsD (host0 T) L).1.c, 0⟩) := by
        show _ = _
        have : scriptF T L = 0 := by rw [scriptF, if_neg (by simpa using hf0), HL.out, if_neg h200]
        rw [scriptD, this]; rfl
      have h200' : ¬ ((200 : Int) < (n : Int)) := by omega
      have HFit : Hid ((host0 T).m.Fits ∧ (host0 T).c.Fits) := ⟨newD_fits, ⟨by simpa [host0] using h1, by simp [host0]⟩⟩
      clear hf0 h2 h1 g0 g1 g2 g3 g4 r0 r1 r2 rz q0 q1 qz hlo hhi n1 n2 n1' n2' HH
      go_wp2_with fail
      go_loopw [10, 36] (fun ov j W => ∃ i : Nat, i ≤ n ∧ j = .int .i64 i ∧ Hid (LoopSt w B (actsD (host0 T) (L.take i)).1 (actsD (host0 T) (L.take i)).2 ov W)) (fun _ j _ => n - (intOf j).toNat)
      case atStart => exact ⟨0, by omega, rfl, H.out⟩
      case round =>
        obtain ⟨i, hi, rfl, HI⟩ := hrel
        clear H
        by_cases hlt : i < n
        · obtain ⟨x, hx⟩ : ∃ x, L[i]? = some x := ⟨_, List.getElem?_eq_getElem (by rw [HL.out]; exact hlt)⟩
          obtain ⟨lb, lo, rfl, l0, l1, l2, l3, l4, l5, l6⟩ := HA.out.mono HI.out.below i x hx
          have HSN := hid (actsD_snoc (h := host0 T) hx)
          have hax := hid (HACT.out x (List.mem_of_getElem? hx))
          have HFI := hid (actsD_fits (L.take i) HFit.out)
          have HXL : Hid ((actsD (host0 T) (L.take i)).2.length = i) := by show _ = _; rw [actsD_len, List.length_take, HL.out]; omega
          clear hx
          generalize actsD (host0 T) (L.take i) = R at HI HSN HFI HXL
          obtain ⟨hst, X⟩ := R
          go_wp2_with fail
          refine (hax.out B hst _ (HI.out.host.later (below_alloc _ _)) HFI.out.1 HFI.out.2 (HTab.out.mono (HI.out.below.trans (Below.mono (by go_grown) HI.out.below.size)))).mono ?_
          rintro e w2 ⟨rfl, hh2, hg2⟩
          have H2 := hid ((HI.out.later (below_alloc _ _)).act hh2 hg2)
          clear hh2 hg2 HI l0 l1 l2 l3 l4 l5 l6
          obtain ⟨oa, oc, rfl⟩ := own_slice H2.out.own
          have HO2 : Hid (∀ Y, LoopSt w B (actD hst x).1 X (.slice oa X.length oc) (w2.alloc Y)) := fun Y => H2.out.later (below_alloc _ Y)
          go_wp2_with (at_builtin; refine wpList_append_lies _ rfl _ _ 24 rfl (w.heap.size + 2) 39 i0 _ 2 16 Tryz.underlying24 hi0 hz0 hz1 hz2 rfl (by decide) _ X.length (X.flatMap AnsD.cs) rfl (HO2.out _).own ⟨w2.heap.size, 0, none⟩ 1 1 [.int .i64 (actD hst x).2.code, .int .i64 (actD hst x).2.n] rfl rfl (news_new (by simp) #[_, _] _) (by simp [Value.oneCell']) (by decide) ?c2 ?c3 ?c4 (w2.heap.size + 1) ?c5 ?_)
          case c2 => unfold maxLen; have := HXL.out; omega
          case c3 => have := HXL.out; omega
          case c4 => have := H2.out.sz; simp; omega
          case c5 => simp
          intro g cap' W' hrow hgrow _ _
          have HR := hid hrow
          have HG := hid hgrow
          clear hrow hgrow
          go_wp2_with fail
          go_roundw
          case rel =>
            refine ⟨i + 1, by omega, by go_num, ?_⟩
            rw [HSN.out]
            exact (HO2.out _).push HR.out rfl HG.out
          case measure => simp [intOf]; omega
        · obtain rfl : i = n := by omega
          rw [show L.take i = L by rw [← HL.out, List.take_length]] at HI
          have HFI := hid (actsD_fits L HFit.out)
          generalize actsD (host0 T) L = R at HI HD HFI
          obtain ⟨hst, X⟩ := R
          have H := HI
          clear HI HFit
          obtain ⟨fa, fc, ea, ec, qa, qc, ta, tc, na, nc, HH⟩ := H.out.host
          have g0 := HH.c0
          have g1 := HH.c1
          have g2 := HH.c2
          have g3 := HH.c3
          have g4 := HH.c4
          have r0 := H.out.r0
          have r1 := H.out.r1
          have r2 := H.out.r2
          have rz := H.out.rz
          have q0 := H.out.q0
          have q1 := H.out.q1
          have qz := H.out.qz
          have hlo := H.out.lo
          have hhi := HH.lt
          have n1 : w.heap.size ≠ B := by omega
          have n2 : w.heap.size + 1 ≠ B := by omega
          have n1' := n1.symm
          have n2' := n2.symm
          replace HH := hid HH
          obtain ⟨oa, oc, rfl⟩ := own_slice H.out.own
          go_upto_region 13 with fail
          go_region_held3 (fun w' => w'.cell? ⟨B, 0, none⟩ = some (.slice fa hst.m.frames.length fc) ∧ w'.cell? ⟨B, 1, none⟩ = some (.slice ea hst.m.encl.length ec) ∧ w'.cell? ⟨B, 2, none⟩ = some (.slice qa hst.m.quotes.length qc) ∧ w'.cell? ⟨B, 3, none⟩ = some (.slice ta hst.c.trusts.length tc) ∧ w'.cell? ⟨B, 4, none⟩ = some (.slice na hst.c.nonces.length nc))
            (first | go_keep | exact ⟨e0, e1, e2, e3, e4⟩ | exact ⟨f0, f1, f2, f3, f4⟩ | (refine ⟨?_, ?_, ?_, ?_, ?_⟩ <;> (go_simp; done)))
            (first
              | (go_at_call 12
                 refine (epcCopy _ hst.m _ HFI.out.1 (HH.out.m.at.mono (by go_grown))).mono ?_
                 rintro e w2 ⟨fv2, ev2, qv2, F2, rfl, hF2, hO2, hb2⟩
                 obtain ⟨fa2, fc2, rfl⟩ := own_slice hO2.f.row
                 obtain ⟨ea2, ec2, rfl⟩ := own_slice hO2.e
                 obtain ⟨qa2, qc2, rfl⟩ := own_slice hO2.q
                 have B2 : Below wr.heap.size wr w2 := Below.trans (by go_grown) (hb2.mono (by go_size))
                 have e0 := cell_later B2 g0
                 have e1 := cell_later B2 g1
                 have e2 := cell_later B2 g2
                 have e3 := cell_later B2 g3
                 have e4 := cell_later B2 g4
                 have e5 := cell_later B2 r0
                 have e6 := cell_later B2 r1
                 have e7 := cell_later B2 r2
                 have e8 := (H.out.later B2).rz
                 have HO2 := hid hO2
                 have HF2 := hid hF2
                 clear hO2 hF2)
              | (go_at_call 9
                 refine (trustCopy _ hst.c _ ((HH.out.c.below B2).at.mono (by go_grown)) HFI.out.2).mono ?_
                 rintro e w3 ⟨v3, rfl, ⟨tv3, nv3, rfl, ht3, hn3, _⟩, hb3⟩
                 obtain ⟨ta3, tc3, rfl⟩ := own_slice ht3
                 obtain ⟨na3, nc3, rfl⟩ := own_slice hn3
                 have B3 : Below w2.heap.size w2 w3 := Below.trans (by go_grown) (hb3.mono (by go_size))
                 have f0 := cell_later B3 e0
                 have f1 := cell_later B3 e1
                 have f2 := cell_later B3 e2
                 have f3 := cell_later B3 e3
                 have f4 := cell_later B3 e4
                 have f5 := cell_later B3 e5
                 have f6 := cell_later B3 e6
                 have f7 := cell_later B3 e7
                 have f8 := ((H.out.later B2).later B3).rz
                 have f9 := ((H.out.later B2).later B3).q0
                 have fa' := ((H.out.later B2).later B3).q1
                 have fb' := ((H.out.later B2).later B3).qz))
          go_wp2_with fail
          have hz := H.out.sz
          have hw := B2.size
          have hX := below_low2 (below_low3 (H.out.below.trans ((B2.trans (B3.mono B2.size)).mono H.out.below.size)) (b := w.heap.size) (by omega) (.slice fa2 F2.length fc2) (.slice ea2 hst.m.encl.length ec2) (.slice qa2 hst.m.quotes.length qc2)) (b := w.heap.size + 1) (by omega) (.slice ta3 hst.c.trusts.length tc3) (.slice na3 hst.c.nonces.length nc3)
          have hO : w3.ownsRow (w.heap.size + 2) 39 2 (.slice oa X.length oc) X.length (X.flatMap AnsD.cs) := ownsRow_below (ownsRow_below H.out.own B2) B3
          have hO5 := ownsRow_low2 (ownsRow_setCell_below (ownsRow_setCell_below (ownsRow_setCell_below hO (a := ⟨w.heap.size, 0, none⟩) (by simp only; omega) (.slice fa2 F2.length fc2)) (a := ⟨w.heap.size, 1, none⟩) (by simp only; omega) (.slice ea2 hst.m.encl.length ec2)) (a := ⟨w.heap.size, 2, none⟩) (by simp only; omega) (.slice qa2 hst.m.quotes.length qc2)) (b := w.heap.size + 1) (by omega) (.slice ta3 hst.c.trusts.length tc3) (.slice na3 hst.c.nonces.length nc3)
          have hM : MachFrom (w.heap.size + 2) w3 (.agg #[.slice fa2 F2.length fc2, .slice ea2 hst.m.encl.length ec2, .slice qa2 hst.m.quotes.length qc2]) hst.m := ⟨_, _, _, F2, rfl, HF2.out, (HO2.out.below B3).mono (by go_size)⟩
          have hC : ChalFrom (w.heap.size + 2) w3 (.agg #[.slice ta3 hst.c.trusts.length tc3, .slice na3 hst.c.nonces.length nc3]) hst.c := ⟨_, _, rfl, ownsRow_mono ht3 (by omega), ownsRow_mono hn3 (by omega)⟩
          refine bodyPost_ret (v := .tuple #[.slice oa X.length oc, .agg #[.slice fa2 F2.length fc2, .slice ea2 hst.m.encl.length ec2, .slice qa2 hst.m.quotes.length qc2], .agg #[.slice ta3 hst.c.trusts.length tc3, .slice na3 hst.c.nonces.length nc3], .int .i64 0]) (by simp only [results, Tryz.results4]; go_simp) rfl ?_
          rw [HD.out]
          refine ⟨_, _, _, rfl, ownsRow_mono hO5 (by omega), ?_, ?_, hX⟩
          · exact (((((hM.low (a := ⟨w.heap.size, 0, none⟩) (by simp only; omega) _).low (a := ⟨w.heap.size, 1, none⟩) (by simp only; omega) _).low (a := ⟨w.heap.size, 2, none⟩) (by simp only; omega) _).low (a := ⟨w.heap.size + 1, 0, none⟩) (by simp only; omega) _).low (a := ⟨w.heap.size + 1, 1, none⟩) (by simp only; omega) _).mono (by omega)
          · exact (((((hC.low (a := ⟨w.heap.size, 0, none⟩) (by simp only; omega) _).low (a := ⟨w.heap.size, 1, none⟩) (by simp only; omega) _).low (a := ⟨w.heap.size, 2, none⟩) (by simp only; omega) _).low (a := ⟨w.heap.size + 1, 0, none⟩) (by simp only; omega) _).low (a := ⟨w.heap.size + 1, 1, none⟩) (by simp only; omega) _).mono (by omega)
  · have HD : Hid (scriptD T L = ⟨[], mach0, chal0, chalF ⟨T, []⟩⟩) := by
      show _ = _
      have : scriptF T L = chalF ⟨T, []⟩ := by rw [scriptF, if_pos hf0]
      rw [scriptD, this, if_pos hf0]
    have hE1 : (chalF ⟨T, []⟩ != 0) = true := by rw [bne_iff_ne]; exact hf0
    rw [show chalF (host0 T).c = chalF ⟨T, []⟩ from rfl]
    generalize chalF ⟨T, []⟩ = E at HD hE1 hf0 ⊢
    clear hf0
    go_wp2_with fail
    refine bodyPost_ret (v := .tuple #[.slice none 0 0, .agg #[.slice none 0 0, .slice none 0 0, .slice none 0 0], .agg #[.slice none 0 0, .slice none 0 0], .int .i64 E]) (by simp only [results, Tryz.results4]; go_simp) rfl ?_
    rw [HD.out]
    refine ⟨_, _, _, rfl, World.ownsRow_nil _ _ _ _, mach0_from, chal0_from, ?_⟩
    exact below_low2 (below_low3 H.out.below (by omega) _ _ _) (by omega) _ _

end Go.Proofs.YtklbbjionoeofaaGreatDoor

namespace Go.Proofs.YtklbbjionoeofaaGreatDoor
open Go.RowKit

/-- No act looks at a quote. -/
def NoLook (a : ActD) : Prop := a.kind = 11 → a.pl < 0
theorem actDoes {a : ActD} (hn : NoLook a) : ActDoes a := by
  intro B h w HA hf hfc hT
  by_cases h1 : a.kind = 1
  · exact hostAct_create B h a w HA hf hT h1
  by_cases h2 : a.kind = 2
  · exact hostAct_put B h a w HA hf hT h2
  by_cases h3 : a.kind = 3
  · exact hostAct_meas B h a w HA hf hT h3
  by_cases h4 : a.kind = 4
  · exact hostAct_start B h a w HA hf hT h4
  by_cases h5 : a.kind = 5
  · exact hostAct_remove B h a w HA hf hT h5
  by_cases h6 : a.kind = 6
  · exact hostAct_peek B h a w HA hf h6
  by_cases h7 : a.kind = 7
  · exact hostAct_poke B h a w HA hf hT h7
  by_cases h8 : a.kind = 8
  · exact hostAct_enter B h a w HA hf h8
  by_cases h9 : a.kind = 9
  · exact hostAct_resume B h a w HA hf h9
  by_cases h10 : a.kind = 10
  · exact hostAct_ask B h a w HA hfc h10
  by_cases h11 : a.kind = 11
  · exact hostAct_bad B h a w HA h11 (.inl (hn h11))
  · exact hostAct_else B h a.kind a.e a.f a.pl a.rights a.n a.fuel w HA h1 h2 h3 h4 h5 h6 h7 h8 h9 h10 h11
theorem hostRun (ta0 : Option Addr) (tc0 : Nat) (T : List ByteArray) (a : Option Addr) (cap n : Nat) (L : List ActD) (w : World) (hl : L.length = n) (hS : StrsAt w ta0 T) (hA : ActsAt w a L) (h1 : T.length * 16 ≤ 140737488351232) (h2 : n * 56 ≤ 140737488351232) (hT : Tab w) (hn : ∀ a ∈ L, NoLook a) :
    Calls Tryz.prog 4 #[.slice ta0 T.length tc0, .slice a n cap] w (RunsRes w.heap.size (scriptD T L) w) :=
  hostRun_of ta0 tc0 T a cap n L w hl hS hA h1 h2 hT (fun a ha => actDoes (hn a ha))

end Go.Proofs.YtklbbjionoeofaaGreatDoor
