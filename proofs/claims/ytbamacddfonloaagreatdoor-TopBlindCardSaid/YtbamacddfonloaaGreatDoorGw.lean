/- slices.IndexFunc, slices.ContainsFunc at answers; is an act refused? Walked. Conditions: those that each contract writes.
riddletop.started, walked. Conditions: what fits the form's own reach; the library's table reads as it is laid. -/
import Derived.Test.YtbamacddfonloaaGreatDoorHostRunSt
import Derived.Test.YtbamacddfonloaaGreatDoorGt
import Derived.Test.YtbamacddfonloaaGreatDoorGv
import Derived.Test.YtbamacddfonloaaGreatDoorKeepImage
import Derived.Test.YtbamacddfonloaaGreatDoorGi
import Derived.Deep.RegionHeld3
namespace Go.Proofs.YtbamacddfonloaaGreatDoor
open Go.RowKit

set_option maxRecDepth 10000 in
set_option maxHeartbeats 800000 in
theorem indexFuncAns (g : FuncId) (cb : Array Value) (a : Option Addr) (l : List AnsD) (n cap : Nat) (p : AnsD → Bool) (w : World) (hn : n ≤ 9223372036854775807) (hl : l.length = n)
    (eg : ∀ args w, (callFunc g args).run Tryz.prog w = .ok (.enter g args) w) (hc : AnsAt w a l) (hp : ∀ (i : Nat) x , l[i]? = some x → PredAt Tryz.prog g cb w (.agg #[.int .i64 x.code, .int .i64 x.n]) (p x)) :
    Calls Tryz.prog 66 #[.slice a n cap, .func (.func g) #[] cb] w fun e w' => e = .returned (.int .i64 (findI p l)) ∧ Below w.heap.size w w' := by
  have HC := hid hc
  have HP := hid hp
  have HL := hid hl
  clear hc hp hl
  go_enter Tryz.func66, Tryz.ntmps66
  go_wp2_with fail
  go_loopw [8] (fun j W => ∃ i : Nat, i ≤ n ∧ j = .int .i64 i ∧ Hid (∀ (j : Nat) y, j < i → l[j]? = some y → p y = false) ∧ Below w.heap.size w W) (fun j _ => n - (intOf j).toNat)
  case atStart => exact ⟨0, by omega, rfl, fun _ _ h => by omega, Below.refl _ _⟩
  case round =>
    obtain ⟨i, hi, rfl, HF, hb⟩ := hrel
    by_cases hlt : i < n
    · obtain ⟨x, hx⟩ : ∃ x, l[i]? = some x := ⟨_, List.getElem?_eq_getElem (by rw [HL.out]; exact hlt)⟩
      have HX := hid hx
      clear hx
      obtain ⟨b, off, rfl, k0, k1⟩ := HC.out i x HX.out
      have l0 := cell_later hb k0; have l1 := cell_later hb k1
      clear k0 k1
      cases hpi : p x with
      | true =>
        have HPI := hid hpi
        clear hpi
        go_wp2_with fail
        refine (HP.out i x HX.out _ hb).mono ?_
        rintro e w' ⟨rfl, hb'⟩
        rw [HPI.out]
        go_wp2_with fail
        go_ret
        refine ⟨?_, hb.trans (hb'.mono hb.size)⟩
        rw [findI_some HX.out HPI.out HF.out]
        rfl
      | false =>
        have HPI := hid hpi
        clear hpi
        go_wp2_with fail
        refine (HP.out i x HX.out _ hb).mono ?_
        rintro e w' ⟨rfl, hb'⟩
        rw [HPI.out]
        go_wp2_with fail
        go_roundw
        case rel =>
          refine ⟨i + 1, by omega, by go_num, fun j y hj hy => ?_, hb.trans (hb'.mono hb.size)⟩
          by_cases hji : j < i
          · exact HF.out j y hji hy
          · obtain rfl : j = i := by omega
            rw [HX.out] at hy
            rw [← Option.some.inj hy]
            exact HPI.out
        case measure => simp [intOf]; omega
    · obtain rfl : i = n := by omega
      go_wp2_with fail
      go_ret
      refine ⟨?_, hb⟩
      rw [findI_none fun j y hy => HF.out j y (by rw [← HL.out]; exact (List.getElem?_eq_some_iff.1 hy).1) hy]
      rfl

set_option maxHeartbeats 400000 in
theorem containsFuncAns (g : FuncId) (cb : Array Value) (a : Option Addr) (l : List AnsD) (n cap : Nat) (p : AnsD → Bool) (w : World) (hn : n ≤ 9223372036854775807) (hl : l.length = n)
    (eg : ∀ args w, (callFunc g args).run Tryz.prog w = .ok (.enter g args) w) (hc : AnsAt w a l) (hp : ∀ (i : Nat) x , l[i]? = some x → PredAt Tryz.prog g cb w (.agg #[.int .i64 x.code, .int .i64 x.n]) (p x)) :
    Calls Tryz.prog 25 #[.slice a n cap, .func (.func g) #[] cb] w fun e w' => e = .returned (.bool (l.any p)) ∧ Below w.heap.size w w' := by
  have HC := hid hc
  have HP := hid hp
  have HL := hid hl
  have HA := hid (findI_any p l)
  clear hc hp hl
  go_enter Tryz.func25, Tryz.ntmps25
  go_wp2_with fail
  refine (indexFuncAns g cb a l n cap p w hn HL.out eg HC.out HP.out).mono ?_
  rintro e w' ⟨rfl, hb⟩
  generalize hr : findI p l = r
  have HR := hid hr
  clear hr
  by_cases h0 : 0 ≤ r
  · go_wp2_with fail
    go_ret
    refine ⟨?_, hb⟩
    rw [← HA.out, HR.out]
    simp [h0]
  · go_wp2_with fail
    go_ret
    refine ⟨?_, hb⟩
    rw [← HA.out, HR.out]
    simp
theorem refused_any (x : AnsD) (w : World) : Calls Tryz.prog 26 #[.agg #[.int .i64 x.code, .int .i64 x.n]] w fun e w' => e = .returned (.bool (x.code != 0)) ∧ Below w.heap.size w w' := by
  have B0 : ∀ X, Below w.heap.size w (w.alloc X) := fun X => by go_grown
  go_enter Tryz.func26, Tryz.ntmps26
  go_wp2_with fail
  go_ret
  exact ⟨rfl, B0 _⟩
theorem enters_refused : ∀ args w, (callFunc 26 args).run Tryz.prog w = .ok (.enter 26 args) w := enters_of Tryz.func26 (by kernel_rfl) rfl
theorem refused_none {a : Option Addr} {l : List AnsD} {n cap : Nat} {w : World} (hn : n ≤ 9223372036854775807) (hl : l.length = n) (hc : AnsAt w a l) (h0 : ∀ x ∈ l, x.code = 0) :
    Calls Tryz.prog 25 #[.slice a n cap, .func (.func 26) #[] #[]] w fun e w' => e = .returned (.bool false) ∧ Below w.heap.size w w' := by
  refine (containsFuncAns 26 #[] a l n cap (fun x => x.code != 0) w hn hl enters_refused hc (fun i x _ W _ => refused_any x W)).mono ?_
  rintro e w' ⟨rfl, hb⟩
  refine ⟨?_, hb⟩
  have : l.any (fun x => x.code != 0) = false := by
    rw [List.any_eq_false]
    intro x hx
    simp [h0 x hx]
  rw [this]

end Go.Proofs.YtbamacddfonloaaGreatDoor

namespace Go.Proofs.YtbamacddfonloaaGreatDoor
open Go.RowKit

set_option maxHeartbeats 400000 in
theorem picked2_any (n many : Int) (w : World) (hn : Is64 n) (hm : 0 < many) : Calls Tryz.prog 9 #[.int .i64 n, .int .i64 many] w fun x w' => x = .returned (.int .i64 (pickD n many)) ∧ w' = w := by
  go_enter Tryz.func9, Tryz.ntmps9
  go_wp2_with fail
  refine (picked_any n many w hn hm).mono ?_
  rintro x w' ⟨rfl, rfl⟩
  go_wp2_with fail
  go_ret
  exact ⟨rfl, rfl⟩

/-- A machine's three cells written over three slices: pages read so still. -/
theorem PagesAt.box3 {W : World} {a : Option Addr} {l : List PageD} {b : Nat} (h : PagesAt W a l) (h0 : SlAt W b 0) (h1 : SlAt W b 1) (h2 : SlAt W b 2) (x y z : Option Addr) (n m k c d e : Nat) :
    PagesAt (((W.setCell ⟨b, 0, none⟩ (.slice x n c)).setCell ⟨b, 1, none⟩ (.slice y m d)).setCell ⟨b, 2, none⟩ (.slice z k e)) a l := by
  have k0 := h.box (u := .slice x n c) h0 (fun o' e => absurd e (by omega))
  have g0 := h0.set (b' := b) (o' := 0) x n c
  have g1 := h1.set (b' := b) (o' := 0) x n c
  have g2 := h2.set (b' := b) (o' := 0) x n c
  have k1 := k0.box (u := .slice y m d) g1 (fun o' e => by
    obtain rfl : o' = 0 := by omega
    exact g0)
  have f1 := g1.set (b' := b) (o' := 1) y m d
  have f2 := g2.set (b' := b) (o' := 1) y m d
  exact k1.box f2 (fun o' e => by
    obtain rfl : o' = 1 := by omega
    exact f1)
/-- What started hands back. -/
def StartRes (base : Nat) (L : List PageD) (M : MachD) (w : World) (x : Ending) (w' : World) : Prop :=
  ∃ ia ic mv, x = .returned (.tuple #[.slice ia L.length ic, mv, .bool true]) ∧ PagesAt w' ia L ∧ MachFrom base w' mv M ∧ Below base w w'
set_option maxRecDepth 10000 in
set_option maxHeartbeats 1600000 in
theorem topStarted (a : Option Addr) (l : List RawD) (n cap : Nat) (r : RawD) (f : Int) (w : World) (hl : l.length = n) (hn : n * 32 ≤ 140737488351232) (hc : RawsAt w a l) (hk : ∀ x ∈ l, x.Ok) (hr : r.Ok) (hf : Is64 f) (hT : Tab w) :
    Calls Tryz.prog 7 #[.slice a n cap, .agg #[.int .i64 r.kind, .int .i64 r.a, .int .i64 r.b, .int .i64 r.c], .int .i64 f] w (StartRes w.heap.size (imageD l r) (startedM (imageD l r) (frameD l r f)) w) := by
  have HL := hid hl
  have HC := hid hc
  have HK := hid hk
  have HR := hid hr
  have HF := hid hf
  have HTab := hid hT
  have hlen := imageD_len l r
  have HG := hid (imageD_good l r)
  have HFr := hid (frameD_in l r f)
  clear hl hc hk hr hf hT
  go_enter Tryz.func7, Tryz.ntmps7
  go_wp2_with fail
  refine (keepImage a l n cap r _ HL.out hn (HC.out.mono (by go_grown)) HK.out HR.out).mono ?_
  rintro e w1 ⟨ia, ic, rfl, hI, hb1⟩
  have p0 : w1.cell? ⟨w.heap.size + 1, 0, none⟩ = some (.slice none 0 0) := by rw [(bcell hb1).1 _ _ (by go_size)]; go_simp
  have p1 : w1.cell? ⟨w.heap.size + 1, 1, none⟩ = some (.slice none 0 0) := by rw [(bcell hb1).1 _ _ (by go_size)]; go_simp
  have p2 : w1.cell? ⟨w.heap.size + 1, 2, none⟩ = some (.slice none 0 0) := by rw [(bcell hb1).1 _ _ (by go_size)]; go_simp
  have pz : ∀ o, w1.frozen? ⟨w.heap.size + 1, o, none⟩ = false := fun o => by rw [(bcell hb1).2 _ _ (by go_size)]; go_simp
  have z1 : w.heap.size + 1 < w1.heap.size := by have := hb1.size; simp at this; omega
  have HB1 : Hid (Below w.heap.size w w1) := Below.trans (by go_grown) (hb1.mono (by go_size))
  have HI := hid hI
  clear hb1 hI
  generalize imageD l r = L at *
  generalize frameD l r f = fr at *
  have HFT := hid (good_fit HG.out)
  have e24 : (24 : Int) - (L.length : Int) + 1 = 25 - (L.length : Int) := by omega
  have HE := hid e24
  clear e24
  go_wp2_with fail
  refine (picked2_any f (24 - (L.length : Int) + 1) _ HF.out (by omega)).mono ?_
  rintro e w' ⟨rfl, rfl⟩
  rw [HE.out, ← HFr.out.1]
  dsimp only
  go_wp2_with fail
  refine (imagePlan ia L L.length ic 1 fr _ rfl HFT.out HI.out HG.out (by omega) (by omega) HFr.out.2).mono ?_
  rintro e w2 ⟨pv, rfl, hP, hb2⟩
  obtain ⟨pa, pc, rfl, hPA⟩ := hP.at
  have HPA := hid hPA
  have k0 := cell_later hb2 p0
  have k1 := cell_later hb2 p1
  have k2 := cell_later hb2 p2
  have kz : ∀ o, w2.frozen? ⟨w.heap.size + 1, o, none⟩ = false := fun o => by rw [(bcell hb2).2 _ _ z1]; exact pz o
  have z2 : w.heap.size + 1 < w2.heap.size := by have := hb2.size; omega
  have HI2 := hid (HI.out.mono hb2)
  have HB2 := hid (HB1.out.trans (hb2.mono HB1.out.size))
  have hpl : (planD L 1 fr).length ≤ 200 := by
    have hp := pokesT_le (l := L) (fun x hx => PageOk.len (imgF_all HG.out x hx)) (fr : Int) L.length
    have hq := putsT_le L 1 (fr : Int) L.length
    simp only [planD, List.length_append, List.length_cons, List.length_nil]; omega
  have HSC := hid (script_plan HG.out HFr.out.2)
  have HSZ := hid (startedM_sized HG.out HFr.out.2)
  clear hb2 hP hPA p0 p1 p2 pz z1 HI HB1 HE
  dsimp only
  go_wp2_with fail
  refine (hostRun none 0 [] pa pc (planD L 1 fr).length (planD L 1 fr) _ rfl (fun _ _ h => by simp at h) HPA.out (by simp) (by omega) (HTab.out.mono HB2.out) (fun a ha hk => absurd hk (planD_look a ha))).mono ?_
  rintro e w3 ⟨xv, mv, cv, rfl, hX, hM, hC, hb3⟩
  rw [HSC.out.1] at hX hM hC ⊢
  dsimp only at hX hM hC ⊢
  obtain ⟨fa, fc, ea, ec, qa, qc, rfl, hM3⟩ := MachAt.sized hM.at HSZ.out
  obtain ⟨ta, tc, na, nc, rfl, _⟩ := hC.at
  obtain ⟨xa, xc, rfl, hXA⟩ := CellsAt.of_own hX
  have hxl : (actsD (⟨newD, ⟨[], []⟩⟩) (planD L 1 fr)).2.length ≤ 200 := by rw [actsD_len]; exact hpl
  have HX := hid hXA.ans
  have HX0 := hid HSC.out.2
  have HM := hid (hM.mono (b' := w.heap.size + 2) (by omega))
  have HB3 := hid (HB2.out.trans (hb3.mono HB2.out.size))
  have HI3 := hid (HI2.out.mono hb3)
  have HM3 := hid hM3
  have g0 := cell_later hb3 k0
  have g1 := cell_later hb3 k1
  have g2 := cell_later hb3 k2
  have gz : ∀ o, w3.frozen? ⟨w.heap.size + 1, o, none⟩ = false := fun o => by rw [(bcell hb3).2 _ _ z2]; exact kz o
  have z3 : w.heap.size + 1 < w3.heap.size := by have := hb3.size; omega
  clear hb3 hM hC hX hXA hM3 HSC k0 k1 k2 kz z2 HI2 HB2 HPA
  generalize (actsD (⟨newD, ⟨[], []⟩⟩) (planD L 1 fr)).2 = X at HX HX0 hxl ⊢
  go_upto_region 4 with fail
  refine act_gen (fun W => Below w3.heap.size w3 W ∧ w3.heap.size < W.heap.size ∧ W.cell? ⟨w3.heap.size, 0, none⟩ = some (.slice fa 24 fc) ∧ W.cell? ⟨w3.heap.size, 1, none⟩ = some (.slice ea 4 ec) ∧ W.cell? ⟨w3.heap.size, 2, none⟩ = some (.slice qa 0 qc)) ⟨by go_grown, by go_size, by go_simp, by go_simp, by go_simp⟩ ?_
  rintro W ⟨hbW, zW, m0, m1, m2⟩
  replace g0 := cell_later hbW g0
  replace g1 := cell_later hbW g1
  replace g2 := cell_later hbW g2
  have gz' : ∀ o, W.frozen? ⟨w.heap.size + 1, o, none⟩ = false := fun o => by rw [(bcell hbW).2 _ _ z3]; exact gz o
  have n1 : w.heap.size + 1 ≠ w3.heap.size := by omega
  have n1' := n1.symm
  have zz : w.heap.size + 1 < W.heap.size := by omega
  have HXW := hid (HX.out.mono hbW)
  have HBW := hid hbW
  clear hbW gz z3
  go_region_held3 (fun w' => w'.cell? ⟨w3.heap.size, 0, none⟩ = some (.slice fa 24 fc) ∧ w'.cell? ⟨w3.heap.size, 1, none⟩ = some (.slice ea 4 ec) ∧ w'.cell? ⟨w3.heap.size, 2, none⟩ = some (.slice qa 0 qc))
    (first | go_keep | exact ⟨e0, e1, e2⟩ | (refine ⟨?_, ?_, ?_⟩ <;> (go_simp; done)))
    (first
      | (skip
         go_at_call 25
         refine (refused_none (a := xa) (l := X) (cap := xc) (by omega) rfl (HXW.out.mono (by go_grown)) HX0.out).mono ?_
         rintro e w4 ⟨rfl, hb4⟩
         have B4 : Below W.heap.size W w4 := Below.trans (by go_grown) (hb4.mono (by go_size))
         have e0 := cell_later B4 m0
         have e1 := cell_later B4 m1
         have e2 := cell_later B4 m2
         have e3 := cell_later B4 g0
         have e4 := cell_later B4 g1
         have e5 := cell_later B4 g2
         have e6 : ∀ o, w4.frozen? ⟨w.heap.size + 1, o, none⟩ = false := fun o => by rw [(bcell B4).2 _ _ zz]; exact gz' o))
  go_wp2_with fail
  have HP4 := hid (HI3.out.mono (HBW.out.trans (B4.mono HBW.out.size)))
  have HM4 := hid ((HM.out.below HBW.out).below B4)
  have BB := hid (HB3.out.trans ((HBW.out.trans (B4.mono HBW.out.size)).mono HB3.out.size))
  have s0 : SlAt w4 (w.heap.size + 1) 0 := ⟨_, _, _, e3⟩
  have s1 : SlAt w4 (w.heap.size + 1) 1 := ⟨_, _, _, e4⟩
  have s2 : SlAt w4 (w.heap.size + 1) 2 := ⟨_, _, _, e5⟩
  have HQ := hid (PagesAt.box3 HP4.out s0 s1 s2 fa ea qa 24 4 0 fc ec qc)
  refine bodyPost_ret (v := .tuple #[.slice ia L.length ic, .agg #[.slice fa 24 fc, .slice ea 4 ec, .slice qa 0 qc], .bool true]) (by simp only [results, Tryz.results7]; go_simp) rfl ⟨ia, ic, _, rfl, HQ.out, ?_, below_low3 BB.out (by omega) _ _ _⟩
  exact (((HM4.out.low (a := ⟨w.heap.size + 1, 0, none⟩) (by simp only; omega) _).low (a := ⟨w.heap.size + 1, 1, none⟩) (by simp only; omega) _).low (a := ⟨w.heap.size + 1, 2, none⟩) (by simp only; omega) _).mono (by omega)

end Go.Proofs.YtbamacddfonloaaGreatDoor
