/- An enclave that is entered with a word exits with what it reckons: the law returns true at all numbers; its arguments read as they did; the card is tied. Condition: the library's tables start as the program's text lays them. -/
import Derived.Test.YtbamacddfonloaaDoorLiftD
import Derived.Test.YtbamacddfonloaaDoorGc
import Derived.Test.YtbamacddfonloaaDoorRunsCall
import Derived.Test.YtbamacddfonloaaDoorGx
import Derived.Test.YtbamacddfonloaaDoorEnter
namespace Go.Proofs.YtbamacddfonloaaDoor
open Go.ChangeShapes Go.WideShapes Go.ChangeAt Go.RowKit

/-- The machine behind the run. -/
def reckN (x y : Int) : MachD := ⟨setWord (codeM (reckW y)).frames (2, 0) ((x + y) % 65536), (codeM (reckW y)).encl.set 0 ⟨2, (readyE (codeP (reckW y))).log, 0, 0, 0, 0, 0⟩, []⟩
theorem reck_enter {x y : Int} (hx : 0 ≤ x ∧ x < 65536) (hy : 0 ≤ y ∧ y < 65536) : enterD (codeM (reckW y)) 1 x 100 = (reckN x y, (1, (x + y) % 65536), 0) := by
  have h := enter_is (codeM_good (reckW_ok hy)) (codeM_encl (reckW y)) rfl (n := x) (by omega) (t := 100) (by omega)
  rw [reck_run] at h
  exact h
theorem reck_place (y v : Int) : placeF (setWord (codeM (reckW y)).frames (2, 0) v) 1 2 = 2 := by kernel_rfl
theorem reck_len (y v : Int) : (setWord (codeM (reckW y)).frames (2, 0) v).length = 24 := by kernel_rfl

set_option maxRecDepth 10000 in
set_option maxHeartbeats 3200000 in
theorem runsReckon_calls (a b : Int) (w : World) (ha : Is64 a) (hb : Is64 b) (hT : Tab w) :
    Calls Tryd.prog 4 #[.int .i64 a, .int .i64 b] w fun e w' => e = .returned (.bool true) ∧ Below w.heap.size w w' := by
  have HA := hid ha
  have HB := hid hb
  have HT := hid hT
  obtain ⟨x, hx⟩ : ∃ x, pickD a 65536 = x := ⟨_, rfl⟩
  obtain ⟨y, hy⟩ : ∃ y, pickD b 65536 = y := ⟨_, rfl⟩
  have hx1 : 0 ≤ x ∧ x < 65536 := by rw [← hx]; exact ⟨pickD_lo a (by decide), pickD_hi a (by decide)⟩
  have hy1 : 0 ≤ y ∧ y < 65536 := by rw [← hy]; exact ⟨pickD_lo b (by decide), pickD_hi b (by decide)⟩
  have HX := hid hx
  have HY := hid hy
  have HX1 := hid hx1
  have HY1 := hid hy1
  clear ha hb hT hx hy hx1 hy1
  go_enter Tryd.func4, Tryd.ntmps4
  go_wp2_with fail
  refine (picked_any a 65536 _ HA.out (by decide)).mono ?_
  rintro e w' ⟨rfl, rfl⟩
  rw [HX.out]
  go_wp2_with fail
  refine (picked_any b 65536 _ HB.out (by decide)).mono ?_
  rintro e w'' ⟨rfl, rfl⟩
  rw [HY.out]
  go_wp2_with fail
  refine (instr_is 1 1 0 y 17 _ (by decide) (by decide) (by decide) (by decide)).mono ?_
  rintro e u1 ⟨rfl, rfl⟩
  go_wp2_with fail
  refine (instr_is 2 0 1 0 258 _ (by decide) (by decide) (by decide) (by decide)).mono ?_
  rintro e u2 ⟨rfl, rfl⟩
  go_wp2_with fail
  refine (instr_is 1 2 0 16 33 _ (by decide) (by decide) (by decide) (by decide)).mono ?_
  rintro e u3 ⟨rfl, rfl⟩
  go_wp2_with fail
  refine (instr_is 6 0 2 0 518 _ (by decide) (by decide) (by decide) (by decide)).mono ?_
  rintro e u4 ⟨rfl, rfl⟩
  go_wp2_with fail
  refine (instr_is 5 3 2 0 565 _ (by decide) (by decide) (by decide) (by decide)).mono ?_
  rintro e u5 ⟨rfl, rfl⟩
  go_wp2_with fail
  refine (instr_is 8 3 0 0 56 _ (by decide) (by decide) (by decide) (by decide)).mono ?_
  rintro e u6 ⟨rfl, rfl⟩
  go_wp2_with fail
  refine (concatIs _ [⟨some ⟨w''.heap.size, 0, none⟩, 2, [17, y]⟩, ⟨some ⟨w''.heap.size + 1, 0, none⟩, 2, [258, 0]⟩, ⟨some ⟨w''.heap.size + 2, 0, none⟩, 2, [33, 16]⟩, ⟨some ⟨w''.heap.size + 3, 0, none⟩, 2, [518, 0]⟩, ⟨some ⟨w''.heap.size + 4, 0, none⟩, 2, [565, 0]⟩, ⟨some ⟨w''.heap.size + 5, 0, none⟩, 2, [56, 0]⟩] 6 _ (reckW y) 12 _ rfl (by omega) rfl rfl (CellsAt.new (by simp) _ _) ?_ (by omega)).mono ?_
  · intro p hp j u hj
    simp only [List.mem_cons, List.not_mem_nil, or_false] at hp
    rcases hp with rfl | rfl | rfl | rfl | rfl | rfl
    all_goals
      rcases j with _ | _ | j
      · cases hj
        exact ⟨_, 0, rfl, by go_simp⟩
      · cases hj
        exact ⟨_, 0, rfl, by go_simp⟩
      · simp [intCells] at hj
  rintro e w1 ⟨ca, cc, rfl, hO, hb1⟩
  have HB1 : Hid (Below w''.heap.size w'' w1) := Below.trans (by go_grown) (hb1.mono (by go_size))
  have HI : Hid (IntsAt w1 ca (reckW y)) := by
    obtain ⟨a3, c3, e3, h3⟩ := CellsAt.of_own hO
    obtain ⟨rfl, _, _⟩ := Value.slice.inj e3
    exact h3.ints
  have HMG := hid (codeM_good (reckW_ok HY1.out))
  clear hO hb1
  go_wp2_with fail
  refine (keepMachine ca (reckW y) 12 cc _ rfl (by omega) HI.out (reckW_ok HY1.out) (HT.out.mono HB1.out)).mono ?_
  rintro e w2 ⟨mv, rfl, hM, hb2⟩
  obtain ⟨fa, fc, ea, ec, qa, qc, rfl⟩ := hM.parts
  have HM := hid hM
  have HB2 := hid (HB1.out.trans (hb2.mono HB1.out.size))
  clear hM hb2 HI HB1
  dsimp only
  go_upto_region 5 with fail
  refine act_gen (fun W => Below w''.heap.size w'' W ∧ MBox w2.heap.size fa fc ea ec qa qc (codeM (reckW y)) W) ⟨HB2.out.trans (Below.mono (by go_grown) HB2.out.size), MBox.new HM.out⟩ ?_
  clear HM HB2
  generalize w2.heap.size = mb
  clear w2 w1
  rintro W ⟨hbW, HB⟩
  have m0 := HB.c0
  have m1 := HB.c1
  have m2 := HB.c2
  have HBX := hid HB
  have HBW := hid hbW
  clear HB hbW
  have HRE := hid (reck_enter HX1.out HY1.out)
  go_wp2_with fail
  refine (runEnter _ (codeM (reckW y)) 1 x 100 _ HBX.out.at HMG.out.fits).mono ?_
  rintro e w3 ⟨xv, rfl, hX, hb3⟩
  rw [HRE.out] at hX ⊢
  dsimp only at hX ⊢
  obtain ⟨xa, xc, xe, xd, xq, xf, rfl⟩ := hX.parts
  have HXM := hid hX
  have HB3 := hid (HBW.out.trans (hb3.mono HBW.out.size))
  clear hX hb3 HBX HBW m0 m1 m2 HRE
  have hwr : IntKind.i64.wrap (x + y) = x + y := by rw [IntKind.wrap_i64]; have := HX1.out; have := HY1.out; omega
  have hrem : (x + y).tmod 65536 = (x + y) % 65536 := Int.tmod_eq_emod_of_nonneg (by have := HX1.out; have := HY1.out; omega)
  have HPL := hid (reck_place y ((x + y) % 65536))
  have HLE := hid (reck_len y ((x + y) % 65536))
  have HF2 := hid (reck_frame y ((x + y) % 65536))
  obtain ⟨v, hv⟩ : ∃ v, (x + y) % 65536 = v := ⟨_, rfl⟩
  have HV0 : Hid (0 ≤ v ∧ v < 65536) := by show _ ∧ _; omega
  obtain ⟨N, hN⟩ : ∃ N, reckN x y = N := ⟨_, rfl⟩
  have HNF : Hid (N.frames = setWord (codeM (reckW y)).frames (2, 0) v) := by rw [← hN, ← hv]; rfl
  rw [hv] at HPL HLE HF2 hrem ⊢
  rw [hN] at HXM ⊢
  clear hN hv
  go_upto_region 6 with fail
  refine act_gen (fun W => Below w''.heap.size w'' W ∧ MBox w3.heap.size xa xc xe xd xq xf N W ∧ OBox (w3.heap.size + 1) 1 v W)
    ⟨HB3.out.trans (Below.mono (by go_grown) HB3.out.size), (MBox.new HXM.out).later (by go_grown), by have := OBox.new (w3.alloc (.cells #[.slice xa N.frames.length xc, .slice xe N.encl.length xd, .slice xq N.quotes.length xf] 39)) 1 v; simpa using this⟩ ?_
  clear HXM HB3
  generalize w3.heap.size = nb
  clear w3 W
  rintro W ⟨hbW, HB, HO⟩
  have m0 := HB.c0
  have m1 := HB.c1
  have m2 := HB.c2
  have u0 := HO.c0
  have u1 := HO.c1
  have eN : N.frames.length = 24 := by rw [HNF.out]; exact HLE.out
  rw [eN] at m0
  have HMF := hid (mach_frames HB.at)
  have HBW := hid hbW
  have HEN := hid eN
  clear HB HO hbW eN
  go_wp2_with fail
  refine (epcPlace xa N.frames 24 xc _ _ 1 2 _ HEN.out (by omega) HMF.out).mono ?_
  rintro e w4 ⟨rfl, hb4⟩
  rw [HNF.out, HPL.out]
  obtain ⟨fb, fo, wa, wc, rfl, _, _, _, k3, k4⟩ := HMF.out 2 ⟨1, 2, 3, [v, 0, 0, 0, 0, 0, 0, 0]⟩ (by rw [HNF.out]; exact HF2.out)
  obtain ⟨wb, wo, rfl, k5⟩ := k4 0 v rfl
  replace k3 := cell_later hb4 k3
  replace k5 := cell_later hb4 k5
  replace m0 := cell_later hb4 m0
  replace u0 := cell_later hb4 u0
  replace u1 := cell_later hb4 u1
  have HB4 := hid (HBW.out.trans (hb4.mono HBW.out.size))
  clear hb4 HBW HMF k4
  have k3' : w4.cell? ⟨fb, fo + 8 + 3, none⟩ = some (.slice (some ⟨wb, wo, none⟩) 8 wc) := k3
  rw [Nat.add_zero] at k5
  clear k3
  go_wp2_with fail
  go_ret
  exact ⟨rfl, HB4.out⟩
set_option maxRecDepth 100000 in
theorem runsReckon_args {H : Type} {enc : TypeId × Value → H} (W : World) (b0 : Nat) (args : Array Value) (hT : Tab W) (hs : args.size = (Tryd.f4).params.size)
    (ha : ∀ (j : Nat) t v, (Tryd.f4).params[j]? = some t → args[j]? = some v → Value.okWide Tryd.prog W .any b0 t v ∧ Rd enc Tryd.prog W t v.cells.toList) :
    Calls Tryd.prog 4 args W fun e w' => e = .returned (.bool true) ∧ Below W.heap.size W w' := by
  obtain ⟨l⟩ := args
  match l, hs with
  | [v, v1], _ =>
    obtain ⟨x, rfl, hx⟩ := rd_int_v (ha 0 _ v rfl rfl).1 (ha 0 _ v rfl rfl).2
    obtain ⟨f, rfl, hf⟩ := rd_int_v (ha 1 _ v1 rfl rfl).1 (ha 1 _ v1 rfl rfl).2
    exact runsReckon_calls x f W hx hf hT

set_option maxRecDepth 100000 in
theorem runsReckon_lifted (os : Os) (started : os.Started) (H : Type) (enc : TypeId × Value → H) :
    ReturnsInHanded {} Tryd.checked os 4 .any (fun w args => (Rows.runsReckonSpec.pre enc Tryd.prog Tryd.f4 [] false w args ∧ laidMetH Tryd.prog Rows.runsReckonRow.laid w) ∧ sizedMet enc Tryd.prog Tryd.f4 (OpenSpec.ofChange Rows.runsReckonSpec) false w args)
      (Rows.runsReckonSpec.post enc Tryd.prog Tryd.f4 false true false false) := by
  refine returnsInHanded_of_change_and (C := Tryd.checked) (X := fun w _ => laidMetH Tryd.prog Rows.runsReckonRow.laid w) (fun _ _ _ hh h => h.of_heap hh) own started (by kernel_rfl) Tryd.func4
    (ChangeSpec.witness_shaped (enc := enc) (C := Tryd.checked) (os := os) (X := fun w _ => laidMetH Tryd.prog Rows.runsReckonRow.laid w) false (World.doorLaid Tryd.prog doorSteps os) #[.int .i64 0, .int .i64 0] 8 rfl (World.shaped_of_RefB (by kernel_rfl) (by kernel_rfl)) (by kernel_rfl) (by kernel_rfl) (by kernel_rfl) (door_met os _)) ?_
  intro W base args ds gs before hval hW _ hsz hL _
  exact law_contract laidOut (by kernel_rfl) rfl Tryd.underlying4 rfl (fun ds h => by
    match ds, h with
    | [_, _], _ => exact ⟨rfl, rfl, rfl⟩) hval hW hsz fun hs ha => runsReckon_args W base args (tab_of_laid hL) hs ha

theorem runsReckon_row : Rows.RunsReckonSaid :=
  OpenClaim.holds_of_wide 4 Tryd.f4 rfl rfl rfl rfl rfl rfl rfl ⟨rfl, rfl, rfl, rfl, rfl⟩ rfl rfl rfl rfl rfl (by kernel_rfl) Tryd.func4 (by kernel_rfl)
    (of_decide_eq_true (by kernel_rfl)) (by unfold Func.isWrapper; first | (rw [if_pos (by decide +kernel)]; kernel_rfl) | (rw [if_neg (by decide +kernel)]; exact ⟨rfl, rfl⟩))
    (fun os started H enc _ => runsReckon_lifted os started H enc)

theorem runsReckon_holds : Rows.RunsReckonCardSaid :=
  Claim7.holds_tied_plain_at .later [] [.data, .data, .data] true _ false
    runsReckon_row (fun _ h => by cases h) (by kernel_rfl) (fun _ h => by cases h) runsReckon_row_tie rfl ⟨rfl, rfl⟩ (by kernel_rfl) rfl
    (fun f fn hf hfn => by
      obtain rfl : f = 4 := Option.some.inj ((show Tryd.prog.funcNamed Rows.runsReckonRow.func = some 4 by kernel_rfl).symm.trans hf) |>.symm
      obtain rfl : fn = Tryd.f4 := (Option.some.inj (Tryd.func4.symm.trans hfn)).symm
      exact ⟨by kernel_rfl, fun j t ht => by
        have hm : t ∈ (Tryd.f4).params.toList := by simpa using Array.mem_of_getElem? ht
        have hall : ((Tryd.f4).params.toList.all fun u => !Tryd.prog.wantsStandIn u) = true := by kernel_rfl
        exact (show Tryd.prog.wantsStandIn t = false by simpa using List.all_eq_true.1 hall t hm)⟩)
    (by kernel_rfl)


end Go.Proofs.YtbamacddfonloaaDoor
