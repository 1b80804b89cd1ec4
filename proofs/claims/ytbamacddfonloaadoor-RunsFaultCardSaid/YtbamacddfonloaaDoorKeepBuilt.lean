/- riddlekeep.built and riddlekeep.machine, walked. Conditions: what fits the form's own reach; the library's table reads as it is laid. -/
import Derived.Test.YtbamacddfonloaaDoorGt
import Derived.Test.YtbamacddfonloaaDoorGw
import Derived.Test.YtbamacddfonloaaDoorGv
import Derived.Test.YtbamacddfonloaaDoorGi
import Derived.Test.YtbamacddfonloaaDoorConcat
import Derived.Test.YtbamacddfonloaaDoorRunsPlain
import Derived.Test.YtbamacddfonloaaDoorGl
import Derived.Lib.AppendZerosOnto
import Derived.Deep.RegionHeld3
namespace Go.Proofs.YtbamacddfonloaaDoor
open Go.RowKit

section
variable {P : Program} {w : World}
/-- Zeros behind what the call owns. -/
theorem run_append_zeros_any (base : Nat) (t tn e : TypeId) (i : TypeInfo) (z : Value) (k kn : IntKind) (size bytes : Nat) (ht : P.underlying t = some (.slice e)) (htn : P.underlying tn = some (.int kn)) (hi : P.info? e = some i) (hz : i.zero = some z)
    (hsize : i.size = size) (hby : i.bytes = bytes) (hzs : z.cells.size = size) (hsz : 0 < size) (m : Nat) (hz1 : ∀ u ∈ (Builtin.zeroCells z.cells m).toList, u.oneCell' = true) (v : Value) (n : Nat) (xs : List Value) (hown : w.ownsRow base e size v n xs)
    (h0 : 0 < m) (h63 : n + m ≤ maxLen) (hbytes : (n + m) * bytes ≤ 140737488355328) (hbase : base ≤ w.heap.size) :
    ∃ v' w', (∀ ty, (Builtin.append_ #[t, tn] ty #[v, .int k m]).run P w = .ok v' w') ∧ w'.ownsRow base e size v' (n + m) (xs ++ (Builtin.zeroCells z.cells m).toList) ∧ w.grownBy w' v.ownBlock := by
  subst hsize
  subst hby
  have hsmall : n + m ≤ 9223372036854775807 := by simp only [maxLen] at h63; omega
  have hl : (Builtin.zeroCells z.cells m).toList.length = m * i.size := by rw [Array.length_toList, size_zeroCells, hzs]
  have hlen : (xs ++ (Builtin.zeroCells z.cells m).toList).length = (n + m) * i.size := by rw [List.length_append, hown.1, hl, Nat.add_mul]
  have hmb : m * i.bytes ≤ (n + m) * i.bytes := Nat.mul_le_mul_right _ (by omega)
  have grown : ∀ (old : Nat), old < n + m → ∀ (row : Option Nat),
      (w.drew.alloc (.cells (xs.toArray ++ Builtin.zeroCells z.cells m ++ Builtin.zeroCells z.cells (grownCap w (n + m) old e - (n + m))) e)).ownsRow base e i.size
        (.slice (some ⟨w.heap.size, 0, none⟩) (n + m) (grownCap w (n + m) old e)) (n + m) (xs ++ (Builtin.zeroCells z.cells m).toList) ∧
      w.grownBy (w.drew.alloc (.cells (xs.toArray ++ Builtin.zeroCells z.cells m ++ Builtin.zeroCells z.cells (grownCap w (n + m) old e - (n + m))) e)) row := by
    intro old ho row
    have hge := grownCap_ge w (n + m) old e
    have hcm : grownCap w (n + m) old e ≤ maxLen := grownCap_le_maxLen w (n + m) old e h63
    refine ⟨⟨hlen, .inr ⟨w.heap.size, _, _, rfl, hbase, heap_alloc_new w.drew _, hge, hcm, ?_, ?_⟩⟩, ⟨rfl, rfl, rfl, by simp, fun k hk _ => Go.heap_alloc_old w.drew _ hk⟩⟩
    · simp only [Array.size_append, List.size_toArray, size_zeroCells, hzs, hown.1, ← Nat.add_mul]
      congr 1
      omega
    · simp only [Array.toList_append, List.append_assoc]
      rw [← List.append_assoc, ← hlen]
      exact List.take_left
  rcases hown.2 with ⟨rfl, rfl⟩ | ⟨g, cap, cur, rfl, hbg, hg, hnc, hcm, hcs, htake⟩
  · have hx : xs = [] := List.eq_nil_of_length_eq_zero (by simpa using hown.1)
    subst hx
    have hr := fun ty => Lib.run_append_nil_zeros (P := P) w t tn ty e i z k kn ht htn hi hz m h0 hsz (by omega) (by omega)
    have hgr := grown 0 (by omega) (Value.ownBlock (.slice none 0 0))
    simp only [Nat.zero_add, List.nil_append, Array.empty_append] at hgr ⊢
    exact ⟨_, _, hr, hgr.1, hgr.2⟩
  · by_cases hroom : n + m ≤ cap
    · have hfit : n * i.size + (Builtin.zeroCells z.cells m).toList.length ≤ cur.size := by rw [hl, hcs, ← Nat.add_mul]; exact Nat.mul_le_mul_right _ hroom
      have hst := run_storeCells_at P g (n * i.size) e (Builtin.zeroCells z.cells m).toList 0 cur w hg (by simpa using hfit) hz1
      simp only [Nat.add_zero] at hst
      have hw : IntKind.i64.wrap (m : Int) = m := by rw [IntKind.wrap_i64]; omega
      have hneg : ¬ ((m : Int) < 0) := by omega
      have h48i : ¬ (281474976710656 < (m : Int) * (i.bytes : Int)) := by
        rw [← Int.natCast_mul]
        omega
      have hm0 : m ≠ 0 := by omega
      have hns : ¬ (m * i.size = 0) := Nat.mul_ne_zero hm0 (by omega)
      have hr : ∀ ty, (Builtin.append_ #[t, tn] ty #[.slice (some ⟨g, 0, none⟩) n cap, .int k m]).run P w =
          .ok (.slice (some ⟨g, 0, none⟩) (n + m) cap) (w.setRow g (cur.toList.take (n * i.size) ++ (Builtin.zeroCells z.cells m).toList ++ cur.toList.drop (n * i.size + (Builtin.zeroCells z.cells m).toList.length)).toArray) := fun ty => by
        simp [Builtin.append_, run_underlying ht, run_underlying htn, sizeOf, typeInfo, zeroValue, hi, hz, asInt, asIntOf, hw, hneg, hns, h48i, hroom, Addr.add_lit, hst]
      refine ⟨_, _, hr, ⟨hlen, .inr ⟨g, cap, _, rfl, hbg, setRow_heap w g cur _ e _ hg, hroom, hcm, ?_, ?_⟩⟩, ⟨rfl, rfl, rfl, by simp, fun k _ hk => setRow_other w g k _ (fun e => hk (by simp [Value.ownBlock, e]))⟩⟩
      · simp only [List.size_toArray, List.length_append, List.length_take, List.length_drop, Array.length_toList]
        simp only [Array.length_toList] at hfit
        omega
      · rw [htake, ← hlen]
        exact List.take_left
    · have holds : ∀ j u, xs[j]? = some u → w.cell? ((⟨g, 0, none⟩ : Addr).add j) = some u := hown.cells (g := g) rfl
      have hr := fun ty => Lib.run_append_grow_zeros (P := P) w t tn ty e i z k kn ht htn hi hz (some ⟨g, 0, none⟩) n cap xs (run_firstCells_some w.drew i.size n ⟨g, 0, none⟩ n cap xs hown.1 holds) m h0 hsz (by omega) (by omega) (by omega) (growslice_fits (by omega) hbytes)
      have hgr := grown cap (by omega) (Value.ownBlock (.slice (some ⟨g, 0, none⟩) n cap))
      exact ⟨_, _, hr, hgr.1, hgr.2⟩
end

def BuiltRes (base : Nat) (M : MachD) (w : World) (x : Ending) (w' : World) : Prop := ∃ mv, x = .returned (.tuple #[mv, .bool true]) ∧ MachFrom base w' mv M ∧ Below base w w'
set_option maxRecDepth 10000 in
set_option maxHeartbeats 1600000 in
theorem keepBuilt (ia : Option Addr) (L : List PageD) (n ic : Nat) (fr : Nat) (w : World) (hn : L.length = n) (hI : PagesAt w ia L) (hG : imageF L = 0) (hfr : fr + n ≤ 24) (hT : Tab w) :
    Calls Tryd.prog 48 #[.slice ia n ic, .int .i64 fr] w (BuiltRes w.heap.size (startedM L fr) w) := by
  have HI := hid hI
  have HG := hid hG
  have HN := hid hn
  have HTab := hid hT
  have HFT := hid (good_fit hG)
  have hn8 := imageF_len hG
  rw [hn] at hn8
  clear hI hG hn hT
  go_enter Tryd.func48, Tryd.ntmps48
  go_upto_region 1 with fail
  refine act_gen (fun W => Below w.heap.size w W ∧ w.heap.size < W.heap.size ∧ W.cell? ⟨w.heap.size, 0, none⟩ = some (.slice none 0 0) ∧ W.cell? ⟨w.heap.size, 1, none⟩ = some (.slice none 0 0) ∧ W.cell? ⟨w.heap.size, 2, none⟩ = some (.slice none 0 0) ∧ ∀ o, W.frozen? ⟨w.heap.size, o, none⟩ = false)
    ⟨by go_grown, by go_size, by go_simp, by go_simp, by go_simp, fun o => by go_simp⟩ ?_
  rintro w1 ⟨hb1, z1, p0, p1, p2, pz⟩
  have HB1 := hid hb1
  clear hb1
  go_wp2_with fail
  refine (imagePlan ia L n ic 1 fr _ HN.out HFT.out (HI.out.mono HB1.out) HG.out (by omega) (by omega) hfr).mono ?_
  rintro e w2 ⟨pv, rfl, hP, hb2⟩
  obtain ⟨pa, pc, rfl, hPA⟩ := hP.at
  have HPA := hid hPA
  have k0 := cell_later hb2 p0
  have k1 := cell_later hb2 p1
  have k2 := cell_later hb2 p2
  have kz : ∀ o, w2.frozen? ⟨w.heap.size, o, none⟩ = false := fun o => by rw [(bcell hb2).2 _ _ z1]; exact pz o
  have z2 : w.heap.size < w2.heap.size := by have := hb2.size; omega
  have HB2 := hid (HB1.out.trans (hb2.mono HB1.out.size))
  have hpl : (planD L 1 fr).length ≤ 200 := by
    have hp := pokesT_le (l := L) (fun x hx => PageOk.len (imgF_all HG.out x hx)) (fr : Int) L.length
    have hq := putsT_le L 1 (fr : Int) L.length
    have hl8 := imageF_len HG.out
    simp only [planD, List.length_append, List.length_cons, List.length_nil]; omega
  have hfr' : fr + L.length ≤ 24 := by rw [HN.out]; exact hfr
  have HSC := hid (script_plan HG.out hfr')
  have HSZ := hid (startedM_sized HG.out hfr')
  clear hb2 hP hPA p0 p1 p2 pz z1 HB1 hfr'
  dsimp only
  go_wp2_with fail
  refine (hostRun none 0 [] pa pc (planD L 1 fr).length (planD L 1 fr) _ rfl (fun _ _ h => by simp at h) HPA.out (by simp) (by omega) (HTab.out.mono HB2.out) (fun a ha hk => absurd hk (planD_look a ha))).mono ?_
  rintro e w3 ⟨xv, mv, cv, rfl, hX, hM, hC, hb3⟩
  rw [HSC.out.1] at hX hM hC ⊢
  dsimp only at hX hM hC ⊢
  obtain ⟨fa, fc, ea, ec, qa, qc, rfl, hM3⟩ := MachAt.sized hM.at HSZ.out
  obtain ⟨ta, tc, na, nc, rfl, _⟩ := hC.at
  obtain ⟨xa, xc, rfl, hXA⟩ := CellsAt.of_own hX
  have hxl : (actsD (⟨newD, ⟨[], []⟩⟩) (planD L 1 fr)).2.length ≤ 200 := by rw [actsD_len]; exact hpl
  have HX := hid hXA.ans
  have HX0 := hid HSC.out.2
  have HM := hid (hM.mono (b' := w.heap.size + 1) (by omega))
  have HB3 := hid (HB2.out.trans (hb3.mono HB2.out.size))
  have g0 := cell_later hb3 k0
  have g1 := cell_later hb3 k1
  have g2 := cell_later hb3 k2
  have gz : ∀ o, w3.frozen? ⟨w.heap.size, o, none⟩ = false := fun o => by rw [(bcell hb3).2 _ _ z2]; exact kz o
  have z3 : w.heap.size < w3.heap.size := by have := hb3.size; omega
  clear hb3 hM hC hX hXA hM3 HSC k0 k1 k2 kz z2 HB2 HPA
  generalize (actsD (⟨newD, ⟨[], []⟩⟩) (planD L 1 fr)).2 = X at HX HX0 hxl ⊢
  go_upto_region 3 with fail
  refine act_gen (fun W => Below w3.heap.size w3 W ∧ w3.heap.size < W.heap.size ∧ W.cell? ⟨w3.heap.size, 0, none⟩ = some (.slice fa 24 fc) ∧ W.cell? ⟨w3.heap.size, 1, none⟩ = some (.slice ea 4 ec) ∧ W.cell? ⟨w3.heap.size, 2, none⟩ = some (.slice qa 0 qc)) ⟨by go_grown, by go_size, by go_simp, by go_simp, by go_simp⟩ ?_
  rintro W ⟨hbW, zW, m0, m1, m2⟩
  replace g0 := cell_later hbW g0
  replace g1 := cell_later hbW g1
  replace g2 := cell_later hbW g2
  have gz' : ∀ o, W.frozen? ⟨w.heap.size, o, none⟩ = false := fun o => by rw [(bcell hbW).2 _ _ z3]; exact gz o
  have n1 : w.heap.size ≠ w3.heap.size := by omega
  have n1' := n1.symm
  have zz : w.heap.size < W.heap.size := by omega
  have HXW := hid (HX.out.mono hbW)
  have HBW := hid hbW
  clear hbW gz z3
  go_region_held3 (fun w' => w'.cell? ⟨w3.heap.size, 0, none⟩ = some (.slice fa 24 fc) ∧ w'.cell? ⟨w3.heap.size, 1, none⟩ = some (.slice ea 4 ec) ∧ w'.cell? ⟨w3.heap.size, 2, none⟩ = some (.slice qa 0 qc))
    (first | go_keep | exact ⟨e0, e1, e2⟩ | (refine ⟨?_, ?_, ?_⟩ <;> (go_simp; done)))
    (first
      | (skip
         go_at_call 80
         refine (refused_none (a := xa) (l := X) (cap := xc) (by omega) rfl (HXW.out.mono (by go_grown)) HX0.out).mono ?_
         rintro e w4 ⟨rfl, hb4⟩
         have B4 : Below W.heap.size W w4 := Below.trans (by go_grown) (hb4.mono (by go_size))
         have e0 := cell_later B4 m0
         have e1 := cell_later B4 m1
         have e2 := cell_later B4 m2
         have e3 := cell_later B4 g0
         have e4 := cell_later B4 g1
         have e5 := cell_later B4 g2
         have e6 : ∀ o, w4.frozen? ⟨w.heap.size, o, none⟩ = false := fun o => by rw [(bcell B4).2 _ _ zz]; exact gz' o))
  go_wp2_with fail
  have HM4 := hid ((HM.out.below HBW.out).below B4)
  have BB := hid (HB3.out.trans ((HBW.out.trans (B4.mono HBW.out.size)).mono HB3.out.size))
  refine bodyPost_ret (v := .tuple #[.agg #[.slice fa 24 fc, .slice ea 4 ec, .slice qa 0 qc], .bool true]) (by simp only [results, Tryd.results48]; go_simp) rfl ⟨_, rfl, ?_, below_low3 BB.out (by omega) _ _ _⟩
  exact (((HM4.out.low (a := ⟨w.heap.size, 0, none⟩) (by simp only; omega) _).low (a := ⟨w.heap.size, 1, none⟩) (by simp only; omega) _).low (a := ⟨w.heap.size, 2, none⟩) (by simp only; omega) _).mono (by omega)

theorem built0 (ia : Option Addr) (L : List PageD) (n ic : Nat) (w : World) (hn : L.length = n) (hI : PagesAt w ia L) (hG : imageF L = 0) (hfr : n ≤ 24) (hT : Tab w) :
    Calls Tryd.prog 48 #[.slice ia n ic, .int .i64 0] w (BuiltRes w.heap.size (startedM L 0) w) := keepBuilt ia L n ic 0 w hn hI hG (by omega) hT
theorem ints_part {w : World} {g : Nat} {l : List Int} (h : IntsAt w (some ⟨g, 0, none⟩) l) (k m : Nat) : IntsAt w (some ⟨g, k, none⟩) ((l.drop k).take m) := fun i x hx => by
  have h1 : l[k + i]? = some x := by
    rw [List.getElem?_take] at hx
    split at hx
    · rw [List.getElem?_drop] at hx; exact hx
    · cases hx
  obtain ⟨b, off, e, hc⟩ := h (k + i) x h1
  obtain ⟨rfl, rfl, _⟩ := Addr.mk.inj (Option.some.inj e)
  exact ⟨_, k, rfl, by rw [Nat.zero_add] at hc; exact hc⟩
theorem zero16 : (Builtin.zeroCells (Value.int .i64 0).cells 16).toList = intCells (List.replicate 16 0) := by kernel_rfl
theorem zeros8_new {W : World} {n : Nat} (hn : W.heap.size = n) (t : TypeId) : IntsAt (W.alloc (.cells zero8 t)) (some ⟨n, 0, none⟩) (List.replicate 8 0) := fun i x hx => by
  have := news_new hn zero8 t i (.int .i64 x) (by rw [show zero8.toList = (List.replicate 8 0).map (Value.int .i64) from rfl, List.getElem?_map, hx]; rfl)
  rw [add_plain] at this
  exact ⟨n, 0, rfl, this⟩
/-- Three pages, laid. -/
theorem pages_three {w : World} {b g z c1 c2 c3 : Nat} {ws : List Int} (hk : ∀ (j : Nat) (v : Value), (#[Value.int .i64 0, .int .i64 4, .slice (some ⟨g, 0, none⟩) 8 c1, .int .i64 1, .int .i64 4, .slice (some ⟨g, 8, none⟩) 8 c2, .int .i64 2, .int .i64 3, .slice (some ⟨z, 0, none⟩) 8 c3] : Array Value).toList[j]? = some v → w.cell? ((⟨b, 0, none⟩ : Addr).add j) = some v)
    (hg : IntsAt w (some ⟨g, 0, none⟩) (codeW ws)) (hz : IntsAt w (some ⟨z, 0, none⟩) (List.replicate 8 0)) : PagesAt w (some ⟨b, 0, none⟩) (codeP ws) := fun i x hx => by
  have hk : ∀ (j : Nat) (v : Value), (#[Value.int .i64 0, .int .i64 4, .slice (some ⟨g, 0, none⟩) 8 c1, .int .i64 1, .int .i64 4, .slice (some ⟨g, 8, none⟩) 8 c2, .int .i64 2, .int .i64 3, .slice (some ⟨z, 0, none⟩) 8 c3] : Array Value).toList[j]? = some v → w.cell? ⟨b, j, none⟩ = some v := fun j v hv => by
    have := hk j v hv
    rw [add_plain, Nat.zero_add] at this
    exact this
  have hl : 16 ≤ (codeW ws).length := by rw [codeW, List.length_append, List.length_replicate]; omega
  rcases i with _ | _ | _ | i
  · obtain rfl := Option.some.inj (show some _ = some x from hx)
    refine ⟨b, 0, some ⟨g, 0, none⟩, c1, rfl, hk 0 _ rfl, hk 1 _ rfl, ?_, by have := ints_part hg 0 8; exact this⟩
    have : ((codeW ws).take 8).length = 8 := by rw [List.length_take]; omega
    simp only [this]
    exact hk 2 _ rfl
  · obtain rfl := Option.some.inj (show some _ = some x from hx)
    refine ⟨b, 0, some ⟨g, 8, none⟩, c2, rfl, hk 3 _ rfl, hk 4 _ rfl, ?_, ints_part hg 8 8⟩
    have : (((codeW ws).drop 8).take 8).length = 8 := by rw [List.length_take, List.length_drop]; omega
    simp only [this]
    exact hk 5 _ rfl
  · obtain rfl := Option.some.inj (show some _ = some x from hx)
    exact ⟨b, 0, some ⟨z, 0, none⟩, c3, rfl, hk 6 _ rfl, hk 7 _ rfl, hk 8 _ rfl, hz⟩
  · simp [codeP] at hx
set_option maxRecDepth 10000 in
set_option maxHeartbeats 1600000 in
theorem keepMachine (a : Option Addr) (ws : List Int) (n c : Nat) (w : World) (hn : ws.length = n) (hn2 : n ≤ 100) (hA : IntsAt w a ws) (hW : WordsOk ws) (hT : Tab w) :
    Calls Tryd.prog 21 #[.slice a n c] w (BuiltRes w.heap.size (codeM ws) w) := by
  obtain ⟨i0, hinf, hz0, hz1, hz2⟩ := info_parts infoInts
  have HA := hid hA
  have HW := hid hW
  have HN := hid hn
  have HTab := hid hT
  clear hA hW hn hT
  go_enter Tryd.func21, Tryd.ntmps21
  go_upto_region 1 with fail
  refine act_gen (fun W => Below w.heap.size w W ∧ w.heap.size < W.heap.size ∧ W.cell? ⟨w.heap.size, 0, none⟩ = some (.slice none 0 0) ∧ W.cell? ⟨w.heap.size, 1, none⟩ = some (.slice none 0 0) ∧ W.cell? ⟨w.heap.size, 2, none⟩ = some (.slice none 0 0) ∧ ∀ o, W.frozen? ⟨w.heap.size, o, none⟩ = false)
    ⟨by go_grown, by go_size, by go_simp, by go_simp, by go_simp, fun o => by go_simp⟩ ?_
  rintro w0 ⟨hb0, z0, p0, p1, p2, pz⟩
  have HB0 := hid hb0
  clear hb0
  go_wp2_with fail
  refine (cloneInts a n c (intCells ws) _ (by rw [intCells, List.length_map, HN.out, Nat.mul_one]) (intCells_one _) (HA.out.mono HB0.out).cells (by omega)).mono ?_
  rintro e w1 ⟨ca, cc, rfl, hO, hb1⟩
  obtain ⟨v', w2, hr, hO2, hg⟩ := run_append_zeros_any (P := Tryd.prog) (w := w1) w0.heap.size 41 3 3 i0 _ .i64 .i64 1 8 Tryd.underlying41 Tryd.underlying3 hinf hz0 hz1 hz2 rfl (by decide) 16 (by rw [zero16]; exact intCells_one _) _ n (intCells ws) hO (by omega) (by unfold maxLen; omega) (by omega) hb1.size
  rw [zero16, ← (show intCells (codeW ws) = intCells ws ++ intCells (List.replicate 16 0) by rw [codeW, intCells, List.map_append]; rfl)] at hO2
  obtain ⟨g, c2, rfl, hg1, hg2⟩ := own_some hO2 (by omega)
  have hcap : n + 16 ≤ c2 ∧ c2 ≤ maxLen := by
    rcases hO2.2 with ⟨h, _⟩ | ⟨g', cap, cur, h, _, _, h1, h2, _⟩
    · cases h
    · obtain ⟨_, _, rfl⟩ := Value.slice.inj h
      exact ⟨h1, h2⟩
  have hc2 : c2 ≤ 9223372036854775807 := by have := hcap.2; unfold maxLen at this; omega
  have hc1 := hcap.1
  have i8 : (8 : Int) ≤ (c2 : Int) := by omega
  have i16 : (16 : Int) ≤ (c2 : Int) := by omega
  have ne8 : ¬ (c2 = 8) := by omega
  have hB12 : Below w0.heap.size w0 w2 := hb1.grown hg hb1.size (fun k hk => (hO.lt k hk).1)
  have HCO : Hid (IntsAt w2 (some ⟨g, 0, none⟩) (codeW ws)) := by
    obtain ⟨a3, c3, e3, h3⟩ := CellsAt.of_own hO2
    obtain ⟨rfl, _, _⟩ := Value.slice.inj e3
    exact h3.ints
  have HB2 := hid (HB0.out.trans (hB12.mono HB0.out.size))
  have k0 := cell_later hB12 p0
  have k1 := cell_later hB12 p1
  have k2 := cell_later hB12 p2
  have kz : ∀ o, w2.frozen? ⟨w.heap.size, o, none⟩ = false := fun o => by rw [(bcell hB12).2 _ _ z0]; exact pz o
  have z2 : w.heap.size < w2.heap.size := by have := hB12.size; omega
  have hgn : w.heap.size ≠ g := by omega
  have HG := hid (codeP_good HW.out)
  clear hO2 hg hcap hB12 hO hb1 p0 p1 p2 pz z0 HB0 hg1
  go_upto_region 2 with (at_builtin; refine Lib.wpList_append_run _ rfl _ _ _ _ rfl _ _ rfl rfl _ _ (hr _) ?_)
  clear hr
  have hmk := make8
  go_region_held3 (fun _ => True)
    (first | trivial | go_keep)
    (first
      | (skip
         go_at_call 48
         refine (built0 _ (codeP ws) 3 _ _ rfl ((pages_three (news_new (by simp) _ _) (HCO.out.mono (by go_grown)) ((zeros8_new rfl _).mono (below_alloc _ _))).mono (below_drew _)) HG.out (by omega) (HTab.out.mono (HB2.out.trans (Below.mono (by go_grown) HB2.out.size)))).mono ?_
         rintro e w4 ⟨mv, rfl, hM, hb4⟩
         obtain ⟨fa, fc, ea, ec, qa, qc, rfl⟩ := hM.parts
         have B4 : Below w2.heap.size w2 w4 := Below.trans (by go_grown) (hb4.mono (by go_size))
         have e0 := cell_later B4 k0
         have e1 := cell_later B4 k1
         have e2 := cell_later B4 k2
         have e3 : ∀ o, w4.frozen? ⟨w.heap.size, o, none⟩ = false := fun o => by rw [(bcell B4).2 _ _ z2]; exact kz o
         have HM4 := hid (hM.mono (b' := w2.heap.size) (by go_size))))
  go_wp2_with fail
  have BB := hid (HB2.out.trans (B4.mono HB2.out.size))
  refine bodyPost_ret (v := .tuple #[.agg #[.slice fa (startedM (codeP ws) 0).frames.length fc, .slice ea (startedM (codeP ws) 0).encl.length ec, .slice qa (startedM (codeP ws) 0).quotes.length qc], .bool true]) (by simp only [results, Tryd.results21]; go_simp) rfl ⟨_, rfl, ?_, below_low3 BB.out (by omega) _ _ _⟩
  exact (((HM4.out.low (a := ⟨w.heap.size, 0, none⟩) (by simp only; omega) _).low (a := ⟨w.heap.size, 1, none⟩) (by simp only; omega) _).low (a := ⟨w.heap.size, 2, none⟩) (by simp only; omega) _).mono (by omega)

end Go.Proofs.YtbamacddfonloaaDoor
