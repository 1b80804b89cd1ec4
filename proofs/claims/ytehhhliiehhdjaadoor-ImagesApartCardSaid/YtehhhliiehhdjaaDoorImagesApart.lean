/- Two images of raw things are measured the same only if they are the same, whatever the raw things are: the law returns true, its arguments read as they did; the card is tied. Condition: the library's tables start as the program's text lays them. -/
import Derived.Test.YtehhhliiehhdjaaDoorLiftD
import Derived.Test.YtehhhliiehhdjaaDoorKeepImage
import Derived.Test.YtehhhliiehhdjaaDoorImagesPlain
namespace Go.Proofs.YtehhhliiehhdjaaDoor
open Go.ChangeShapes Go.WideShapes Go.ChangeAt Go.RowKit

set_option maxRecDepth 10000 in
set_option maxHeartbeats 1600000 in
theorem imagesApart_calls (a b : Option Addr) (l m : List RawD) (c d : Nat) (r s : RawD) (w : World) (hl : l.length * 32 ≤ 140737488351232) (hm : m.length * 32 ≤ 140737488351232) (ha : RawsAt w a l) (hb : RawsAt w b m)
    (kl : ∀ x ∈ l, x.Ok) (km : ∀ x ∈ m, x.Ok) (hr : r.Ok) (hs : s.Ok) (hT : Tab w) :
    Calls Tryd.prog 5 #[.slice a l.length c, .slice b m.length d, .agg #[.int .i64 r.kind, .int .i64 r.a, .int .i64 r.b, .int .i64 r.c], .agg #[.int .i64 s.kind, .int .i64 s.a, .int .i64 s.b, .int .i64 s.c]] w fun e w' => e = .returned (.bool true) ∧ Below w.heap.size w w' := by
  have HA := hid ha
  have HB := hid hb
  have B0 : Below w.heap.size w ((w.alloc (.cells #[.int .i64 r.kind, .int .i64 r.a, .int .i64 r.b, .int .i64 r.c] 46)).alloc (.cells #[.int .i64 s.kind, .int .i64 s.a, .int .i64 s.b, .int .i64 s.c] 46)) := by go_grown
  have HB0 := hid B0
  clear B0
  obtain ⟨n, hn⟩ : ∃ n, l.length = n := ⟨_, rfl⟩
  obtain ⟨k, hk⟩ : ∃ k, m.length = k := ⟨_, rfl⟩
  rw [hn] at hl ⊢
  rw [hk] at hm ⊢
  have HN := hid hn
  have HK := hid hk
  clear hn hk ha hb
  go_enter Tryd.func5, Tryd.ntmps5
  go_wp2_with fail
  refine (keepImage a l n c r _ HN.out hl (HA.out.mono HB0.out) kl hr).mono ?_
  rintro e w1 ⟨xa, xc, rfl, hx, hb1⟩
  have z1 : w.heap.size + 1 < w1.heap.size := by have := hb1.size; simp at this; omega
  have HB1 : Hid (Below w.heap.size w w1) := HB0.out.trans (hb1.mono (by go_size))
  have q0 : w1.cell? ⟨w.heap.size + 1, 0, none⟩ = some (.int .i64 s.kind) := by rw [(bcell hb1).1 _ _ (by go_size)]; go_simp
  have q1 : w1.cell? ⟨w.heap.size + 1, 1, none⟩ = some (.int .i64 s.a) := by rw [(bcell hb1).1 _ _ (by go_size)]; go_simp
  have q2 : w1.cell? ⟨w.heap.size + 1, 2, none⟩ = some (.int .i64 s.b) := by rw [(bcell hb1).1 _ _ (by go_size)]; go_simp
  have q3 : w1.cell? ⟨w.heap.size + 1, 3, none⟩ = some (.int .i64 s.c) := by rw [(bcell hb1).1 _ _ (by go_size)]; go_simp
  have HX := hid hx
  clear hb1 hx
  have gA := imageD_good l r
  have fA := good_fit gA
  obtain ⟨A, hA⟩ : ∃ A, imageD l r = A := ⟨_, rfl⟩
  rw [hA] at gA fA HX ⊢
  clear hA
  go_wp2_with fail
  refine (keepImage b m k d s _ HK.out hm (HB.out.mono HB1.out) km hs).mono ?_
  rintro e w2 ⟨ya, yc, rfl, hy, hb2⟩
  have HB2 : Hid (Below w1.heap.size w1 w2) := hb2
  have HY := hid hy
  have gB := imageD_good m s
  have fB := good_fit gB
  obtain ⟨B, hB⟩ : ∃ B, imageD m s = B := ⟨_, rfl⟩
  rw [hB] at gB fB HY ⊢
  clear hB hb2 hy q0 q1 q2 q3
  have HE : Hid (((bytesOf (expectL A)).toList == (bytesOf (expectL B)).toList) = sameI A B) := expect_same gA gB
  have HXE := hid (expectD_good gA)
  have HYE := hid (expectD_good gB)
  have HFA := hid fA
  have HFB := hid fB
  have HGA := hid gA
  have HGB := hid gB
  have HT := hid hT
  clear fA fB gA gB hT
  go_wp2_with fail
  refine (imageExpect xa A A.length xc _ rfl HFA.out (HX.out.mono HB2.out) (HT.out.mono (HB1.out.trans (HB2.out.mono HB1.out.size)))).mono ?_
  rintro e w3 ⟨rfl, hb3⟩
  rw [HXE.out]
  dsimp only
  have HB3 : Hid (Below w1.heap.size w1 w3) := HB2.out.trans (hb3.mono HB2.out.size)
  have HY3 : Hid (PagesAt w3 ya B) := HY.out.mono hb3
  clear hb3
  go_wp2_with fail
  refine (imageExpect ya B B.length yc _ rfl HFB.out HY3.out (HT.out.mono (HB1.out.trans (HB3.out.mono HB1.out.size)))).mono ?_
  rintro e w4 ⟨rfl, hb4⟩
  rw [HYE.out]
  dsimp only
  have HB4 : Hid (Below w1.heap.size w1 w4) := HB3.out.trans (hb4.mono HB3.out.size)
  have HY4 : Hid (PagesAt w4 ya B) := HY3.out.mono hb4
  clear hb4
  go_wp2_with fail
  refine (imageCheck xa A A.length xc _ rfl HFA.out (HX.out.mono HB4.out)).mono ?_
  rintro e w5 ⟨rfl, hb5⟩
  rw [HGA.out]
  have HB5 : Hid (Below w1.heap.size w1 w5) := HB4.out.trans (hb5.mono HB4.out.size)
  have HY5 : Hid (PagesAt w5 ya B) := HY4.out.mono hb5
  clear hb5
  go_wp2_with fail
  refine (keepSame xa ya A B A.length B.length xc yc _ rfl rfl HFA.out HFB.out (HX.out.mono HB5.out) HY5.out).mono ?_
  rintro e w6 ⟨rfl, hb6⟩
  have HB6 : Hid (Below w1.heap.size w1 w6) := HB5.out.trans (hb6.mono HB5.out.size)
  clear hb6
  rw [← HE.out]
  generalize ((bytesOf (expectL A)).toList == (bytesOf (expectL B)).toList) = t
  go_wp2_with fail
  refine (imageCopy xa A A.length xc _ rfl HFA.out (HX.out.mono HB6.out)).mono ?_
  rintro e w7 ⟨za, zc, F, rfl, hF, hO, hb7⟩
  obtain ⟨za', zc', ez, hz⟩ := hO.pages
  have hz2 : PagesAt w7 za A := by
    rw [← hF]
    obtain ⟨rfl, _, _⟩ := Value.slice.inj ez
    exact hz
  have HZ := hid hz2
  have HB7 : Hid (Below w1.heap.size w1 w7) := HB6.out.trans (hb7.mono HB6.out.size)
  clear hF hO hb7 ez hz hz2
  have HS : Hid (sameI A A = true) := (sameI_iff _ _).2 rfl
  go_wp2_with fail
  refine (keepSame za xa A A A.length A.length zc xc _ rfl rfl HFA.out HFA.out HZ.out (HX.out.mono HB7.out)).mono ?_
  rintro e w8 ⟨rfl, hb8⟩
  have HB8 : Hid (Below w1.heap.size w1 w8) := HB7.out.trans (hb8.mono HB7.out.size)
  clear hb8
  rw [HS.out]
  go_wp2_with fail
  go_ret
  exact ⟨by cases t <;> rfl, HB1.out.trans (HB8.out.mono HB1.out.size)⟩
set_option maxRecDepth 100000 in
theorem imagesApart_args {H : Type} {enc : TypeId × Value → H} (W : World) (b0 : Nat) (args : Array Value) (hT : Tab W) (hs : args.size = (Tryd.f5).params.size)
    (ha : ∀ (j : Nat) t v, (Tryd.f5).params[j]? = some t → args[j]? = some v → Value.okWide Tryd.prog W .any b0 t v ∧ Rd enc Tryd.prog W t v.cells.toList) :
    Calls Tryd.prog 5 args W fun e w' => e = .returned (.bool true) ∧ Below W.heap.size W w' := by
  obtain ⟨l⟩ := args
  match l, hs with
  | [v, v1, v2, v3], _ =>
    obtain ⟨h1, h2⟩ := ha 0 _ v rfl rfl
    obtain ⟨a, l, c, e, hl, ra, kl⟩ := rd_raws h2
    obtain rfl : v = .slice a l.length c := by
      have := rd_slice_v Tryd.underlying44 h1
      rw [this] at e
      exact (List.cons.inj e).1
    obtain ⟨h3, h4⟩ := ha 1 _ v1 rfl rfl
    obtain ⟨b, m, d, e2, hm, rb, km⟩ := rd_raws h4
    obtain rfl : v1 = .slice b m.length d := by
      have := rd_slice_v Tryd.underlying44 h3
      rw [this] at e2
      exact (List.cons.inj e2).1
    obtain ⟨r, rfl, hr⟩ := rd_raw (ha 2 _ v2 rfl rfl).1 (ha 2 _ v2 rfl rfl).2
    obtain ⟨s, rfl, hs⟩ := rd_raw (ha 3 _ v3 rfl rfl).1 (ha 3 _ v3 rfl rfl).2
    exact imagesApart_calls a b l m c d r s W hl hm ra rb kl km hr hs hT

set_option maxRecDepth 100000 in
theorem imagesApart_lifted (os : Os) (started : os.Started) (H : Type) (enc : TypeId × Value → H) :
    ReturnsInHanded {} Tryd.checked os 5 .any (fun w args => (Rows.imagesApartSpec.pre enc Tryd.prog Tryd.f5 [] false w args ∧ laidMetH Tryd.prog Rows.imagesApartRow.laid w) ∧ sizedMet enc Tryd.prog Tryd.f5 (OpenSpec.ofChange Rows.imagesApartSpec) false w args)
      (Rows.imagesApartSpec.post enc Tryd.prog Tryd.f5 false true false false) := by
  refine returnsInHanded_of_change_and (C := Tryd.checked) (X := fun w _ => laidMetH Tryd.prog Rows.imagesApartRow.laid w) (fun _ _ _ hh h => h.of_heap hh) own started (by kernel_rfl) Tryd.func5
    (ChangeSpec.witness_shaped (enc := enc) (C := Tryd.checked) (os := os) (X := fun w _ => laidMetH Tryd.prog Rows.imagesApartRow.laid w) false (World.doorLaid Tryd.prog doorSteps os) #[.slice none 0 0, .slice none 0 0, .agg #[.int .i64 0, .int .i64 0, .int .i64 0, .int .i64 0], .agg #[.int .i64 0, .int .i64 0, .int .i64 0, .int .i64 0]] 8 rfl (World.shaped_of_RefB (by kernel_rfl) (by kernel_rfl)) (by kernel_rfl) (by kernel_rfl) (by kernel_rfl) (door_met os _)) ?_
  intro W base args ds gs before hval hW _ hsz hL _
  exact law_contract laidOut (by kernel_rfl) rfl Tryd.underlying4 rfl (fun ds h => by
    match ds, h with
    | [_, _, _, _], _ => exact ⟨rfl, rfl, rfl⟩) hval hW hsz fun hs ha => imagesApart_args W base args (tab_of_laid hL) hs ha

theorem imagesApart_row : Rows.ImagesApartSaid :=
  OpenClaim.holds_of_wide 5 Tryd.f5 rfl rfl rfl rfl rfl rfl rfl ⟨rfl, rfl, rfl, rfl, rfl⟩ rfl rfl rfl rfl rfl (by kernel_rfl) Tryd.func5 (by kernel_rfl)
    (of_decide_eq_true (by kernel_rfl)) (by unfold Func.isWrapper; first | (rw [if_pos (by decide +kernel)]; kernel_rfl) | (rw [if_neg (by decide +kernel)]; exact ⟨rfl, rfl⟩))
    (fun os started H enc _ => imagesApart_lifted os started H enc)

theorem imagesApart_holds : Rows.ImagesApartCardSaid :=
  Claim7.holds_tied_plain_at .later [] [.data, .data, .data] true _ false
    imagesApart_row (fun _ h => by cases h) (by kernel_rfl) (fun _ h => by cases h) imagesApart_row_tie rfl ⟨rfl, rfl⟩ (by kernel_rfl) rfl
    (fun f fn hf hfn => by
      obtain rfl : f = 5 := Option.some.inj ((show Tryd.prog.funcNamed Rows.imagesApartRow.func = some 5 by kernel_rfl).symm.trans hf) |>.symm
      obtain rfl : fn = Tryd.f5 := (Option.some.inj (Tryd.func5.symm.trans hfn)).symm
      exact ⟨by kernel_rfl, fun j t ht => by
        have hm : t ∈ (Tryd.f5).params.toList := by simpa using Array.mem_of_getElem? ht
        have hall : ((Tryd.f5).params.toList.all fun u => !Tryd.prog.wantsStandIn u) = true := by kernel_rfl
        exact (show Tryd.prog.wantsStandIn t = false by simpa using List.all_eq_true.1 hall t hm)⟩)
    (by kernel_rfl)


end Go.Proofs.YtehhhliiehhdjaaDoor
