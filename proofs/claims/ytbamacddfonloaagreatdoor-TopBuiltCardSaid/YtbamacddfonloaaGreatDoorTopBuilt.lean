/- An image that is built as it is planned is measured as it is expected, wherever it is put: the law returns true at all raw things; its arguments read as they did; the card is tied. Condition: the library's tables start as the program's text lays them. -/
import Derived.Test.YtbamacddfonloaaGreatDoorLiftD
import Derived.Test.YtbamacddfonloaaGreatDoorGc
import Derived.Test.YtbamacddfonloaaGreatDoorGw
import Derived.Test.YtbamacddfonloaaGreatDoorGu
namespace Go.Proofs.YtbamacddfonloaaGreatDoor
open Go.ChangeShapes Go.WideShapes Go.ChangeAt Go.RowKit

theorem mach_encls {W : World} {fa ea qa : Option Addr} {fn fc en ec qn qc : Nat} {M : MachD} (h : MachAt W (.agg #[.slice fa fn fc, .slice ea en ec, .slice qa qn qc]) M) : EnclsAt W ea M.encl := by
  obtain ⟨x0, x1, x2, x3, x4, x5, ex, _, hE, _⟩ := h
  simp only [Value.agg.injEq, Array.mk.injEq, List.cons.injEq, Value.slice.injEq, and_true] at ex
  obtain ⟨_, ⟨rfl, _, _⟩, _⟩ := ex
  exact hE
set_option maxRecDepth 10000 in
set_option maxHeartbeats 1600000 in
theorem topBuilt_calls (a : Option Addr) (l : List RawD) (n c : Nat) (r : RawD) (f : Int) (w : World) (hn : l.length = n) (hl : n * 32 ≤ 140737488351232) (ha : RawsAt w a l)
    (kl : ∀ x ∈ l, x.Ok) (hr : r.Ok) (hf : Is64 f) (hT : Tab w) :
    Calls Tryz.prog 5 #[.slice a n c, .agg #[.int .i64 r.kind, .int .i64 r.a, .int .i64 r.b, .int .i64 r.c], .int .i64 f] w fun e w' => e = .returned (.bool true) ∧ Below w.heap.size w w' := by
  have HA := hid ha
  have HN := hid hn
  have HKL := hid kl
  have HR := hid hr
  have HFI := hid hf
  have HT := hid hT
  have HG := hid (imageD_good l r)
  have HFr := hid (frameD_in l r f)
  have hlen := imageD_len l r
  clear ha hn kl hr hf hT
  go_enter Tryz.func5, Tryz.ntmps5
  go_wp2_with fail
  refine (topStarted a l n c r f _ HN.out hl (HA.out.mono (by go_grown)) HKL.out HR.out HFI.out (HT.out.mono (by go_grown))).mono ?_
  rintro e w1 ⟨ia, ic, mv, rfl, hP, hM, hb1⟩
  generalize imageD l r = L at *
  generalize frameD l r f = fr at *
  have HB1 : Hid (Below w.heap.size w w1) := Below.trans (by go_grown) (hb1.mono (by go_size))
  have HFT := hid (good_fit HG.out)
  have HSZ := hid (startedM_sized HG.out HFr.out.2)
  have HHAS := hid (started_has HG.out HFr.out.2)
  have HEX := hid (expectD_good HG.out)
  obtain ⟨fa, fc, ea, ec, qa, qc, rfl, hM3⟩ := MachAt.sized hM.at HSZ.out
  have HM3 := hid hM3
  have HP := hid hP
  clear hb1 hP hM hM3
  go_upto_region 2 with fail
  refine act_gen (fun W => Below w1.heap.size w1 W ∧ w1.heap.size < W.heap.size ∧ W.cell? ⟨w1.heap.size, 0, none⟩ = some (.slice fa 24 fc) ∧ W.cell? ⟨w1.heap.size, 1, none⟩ = some (.slice ea 4 ec) ∧ W.cell? ⟨w1.heap.size, 2, none⟩ = some (.slice qa 0 qc)) ⟨by go_grown, by go_size, by go_simp, by go_simp, by go_simp⟩ ?_
  rintro W ⟨hbW, zW, m0, m1, m2⟩
  have HPW := hid (HP.out.mono hbW)
  have HBW := hid (HB1.out.trans (hbW.mono HB1.out.size))
  have HMW := hid (HM3.out.mono hbW)
  clear hbW
  go_wp2_with fail
  refine (imageExpect ia L L.length ic _ rfl HFT.out HPW.out (HT.out.mono HBW.out)).mono ?_
  rintro e w2 ⟨rfl, hb2⟩
  rw [HEX.out]
  have hE := mach_encls HMW.out
  obtain ⟨eb, eo, rfl, s0, s1, _⟩ := hE 0 (readyE L) (started_encl L fr)
  rw [Nat.zero_mul, Nat.add_zero] at s0 s1
  replace s0 := cell_later hb2 s0
  replace s1 := cell_later hb2 s1
  replace m0 := cell_later hb2 m0
  replace m1 := cell_later hb2 m1
  replace m2 := cell_later hb2 m2
  have HP2 := hid (HPW.out.mono hb2)
  have HM2 := hid (HMW.out.mono hb2)
  have HB2 := hid (HBW.out.trans (hb2.mono HBW.out.size))
  have HW8 : Hid (∀ p ∈ L, p.words.length = 8) := fun p hp => PageOk.len (imgF_all HG.out p hp)
  have z2 : w1.heap.size < w2.heap.size := by have := hb2.size; omega
  clear hb2 hE
  change w2.cell? ⟨eb, eo, none⟩ = some (.int .i64 2) at s0
  change w2.cell? ⟨eb, eo + 1, none⟩ = some (.string (bytesOf (expectL L))) at s1
  dsimp only
  generalize bytesOf (expectL L) = S at s1 ⊢
  go_wp2_with fail
  refine (topHas _ (startedM L fr) 1 ia L L.length ic _ HM2.out HSZ.out.1 rfl (by omega) HP2.out HW8.out HHAS.out).mono ?_
  rintro e w3 ⟨rfl, hb3⟩
  go_wp2_with fail
  go_ret
  exact ⟨rfl, HB2.out.trans (hb3.mono HB2.out.size)⟩
set_option maxRecDepth 100000 in
theorem topBuilt_args {H : Type} {enc : TypeId × Value → H} (W : World) (b0 : Nat) (args : Array Value) (hT : Tab W) (hs : args.size = (Tryz.f5).params.size)
    (ha : ∀ (j : Nat) t v, (Tryz.f5).params[j]? = some t → args[j]? = some v → Value.okWide Tryz.prog W .any b0 t v ∧ Rd enc Tryz.prog W t v.cells.toList) :
    Calls Tryz.prog 5 args W fun e w' => e = .returned (.bool true) ∧ Below W.heap.size W w' := by
  obtain ⟨l⟩ := args
  match l, hs with
  | [v, v1, v2], _ =>
    obtain ⟨h1, h2⟩ := ha 0 _ v rfl rfl
    obtain ⟨a, l, c, e, hl, ra, kl⟩ := rd_raws h2
    obtain rfl : v = .slice a l.length c := by
      have := rd_slice_v Tryz.underlying22 h1
      rw [this] at e
      exact (List.cons.inj e).1
    obtain ⟨r, rfl, hr⟩ := rd_raw (ha 1 _ v1 rfl rfl).1 (ha 1 _ v1 rfl rfl).2
    obtain ⟨n, rfl, hn⟩ := rd_int_v (ha 2 _ v2 rfl rfl).1 (ha 2 _ v2 rfl rfl).2
    exact topBuilt_calls a l l.length c r n W rfl hl ra kl hr hn hT

set_option maxRecDepth 100000 in
theorem topBuilt_lifted (os : Os) (started : os.Started) (H : Type) (enc : TypeId × Value → H) :
    ReturnsInHanded {} Tryz.checked os 5 .any (fun w args => (Rows.topBuiltSpec.pre enc Tryz.prog Tryz.f5 [] false w args ∧ laidMetH Tryz.prog Rows.topBuiltRow.laid w) ∧ sizedMet enc Tryz.prog Tryz.f5 (OpenSpec.ofChange Rows.topBuiltSpec) false w args)
      (Rows.topBuiltSpec.post enc Tryz.prog Tryz.f5 false true false false) := by
  refine returnsInHanded_of_change_and (C := Tryz.checked) (X := fun w _ => laidMetH Tryz.prog Rows.topBuiltRow.laid w) (fun _ _ _ hh h => h.of_heap hh) own started (by kernel_rfl) Tryz.func5
    (ChangeSpec.witness_shaped (enc := enc) (C := Tryz.checked) (os := os) (X := fun w _ => laidMetH Tryz.prog Rows.topBuiltRow.laid w) false (World.doorLaid Tryz.prog doorSteps os) #[.slice none 0 0, .agg #[.int .i64 0, .int .i64 0, .int .i64 0, .int .i64 0], .int .i64 0] 8 rfl (World.shaped_of_RefB (by kernel_rfl) (by kernel_rfl)) (by kernel_rfl) (by kernel_rfl) (by kernel_rfl) (door_met os _)) ?_
  intro W base args ds gs before hval hW _ hsz hL _
  exact law_contract laidOut (by kernel_rfl) rfl Tryz.underlying4 rfl (fun ds h => by
    match ds, h with
    | [_, _, _], _ => exact ⟨rfl, rfl, rfl⟩) hval hW hsz fun hs ha => topBuilt_args W base args (tab_of_laid hL) hs ha

theorem topBuilt_row : Rows.TopBuiltSaid :=
  OpenClaim.holds_of_wide 5 Tryz.f5 rfl rfl rfl rfl rfl rfl rfl ⟨rfl, rfl, rfl, rfl, rfl⟩ rfl rfl rfl rfl rfl (by kernel_rfl) Tryz.func5 (by kernel_rfl)
    (of_decide_eq_true (by kernel_rfl)) (by unfold Func.isWrapper; first | (rw [if_pos (by decide +kernel)]; kernel_rfl) | (rw [if_neg (by decide +kernel)]; exact ⟨rfl, rfl⟩))
    (fun os started H enc _ => topBuilt_lifted os started H enc)

theorem topBuilt_holds : Rows.TopBuiltCardSaid :=
  Claim7.holds_tied_plain_at .later [] [.data, .data, .data] true _ false
    topBuilt_row (fun _ h => by cases h) (by kernel_rfl) (fun _ h => by cases h) topBuilt_row_tie rfl ⟨rfl, rfl⟩ (by kernel_rfl) rfl
    (fun f fn hf hfn => by
      obtain rfl : f = 5 := Option.some.inj ((show Tryz.prog.funcNamed Rows.topBuiltRow.func = some 5 by kernel_rfl).symm.trans hf) |>.symm
      obtain rfl : fn = Tryz.f5 := (Option.some.inj (Tryz.func5.symm.trans hfn)).symm
      exact ⟨by kernel_rfl, fun j t ht => by
        have hm : t ∈ (Tryz.f5).params.toList := by simpa using Array.mem_of_getElem? ht
        have hall : ((Tryz.f5).params.toList.all fun u => !Tryz.prog.wantsStandIn u) = true := by kernel_rfl
        exact (show Tryz.prog.wantsStandIn t = false by simpa using List.all_eq_true.1 hall t hm)⟩)
    (by kernel_rfl)


end Go.Proofs.YtbamacddfonloaaGreatDoor
