/- riddletop.has, walked, where an enclave has just the pages of an image. Conditions: that; what fits the form's own reach.
An enclave that is built as it is planned has just the pages of its image. Plain laws; no program is walked. -/
import Derived.Test.YtbamacddfonloaaDoorGt
import Derived.Test.YtbamacddfonloaaDoorGs
import Derived.Deep.RegionHeld3
namespace Go.Proofs.YtbamacddfonloaaDoor
open Go.RowKit

def ownedBy (e : Int) (F : List FrameD) : Nat := F.countP fun x => x.owner == e
/-- An enclave has just the pages of an image. -/
structure HasD (M : MachD) (e : Int) (L : List PageD) : Prop where
  many : ownedBy e M.frames = L.length
  page : ∀ (i : Nat) (p : PageD), L[i]? = some p → ∃ (k : Nat) (x : FrameD), placeF M.frames e p.pl = k ∧ M.frames[k]? = some x ∧ x.rights = p.rights ∧ x.words = p.words
theorem ownedBy_le (e : Int) (F : List FrameD) : ownedBy e F ≤ F.length := List.countP_le_length
theorem ownedBy_step {F : List FrameD} {i : Nat} {x : FrameD} (hx : F[i]? = some x) (e : Int) : ownedBy e (F.take (i + 1)) = ownedBy e (F.take i) + if x.owner = e then 1 else 0 := by
  rw [ownedBy, ownedBy, List.take_add_one, hx, Option.toList_some, List.countP_append, List.countP_singleton]
  simp
set_option maxRecDepth 10000 in
set_option maxHeartbeats 1600000 in
theorem topHas (v : Value) (M : MachD) (e : Int) (a : Option Addr) (L : List PageD) (n cap : Nat) (w : World) (hv : MachAt w v M) (hl : M.frames.length = 24) (hn : L.length = n) (hn8 : n ≤ 8) (hP : PagesAt w a L) (hw : ∀ p ∈ L, p.words.length = 8) (hh : HasD M e L) :
    Calls Tryd.prog 27 #[v, .int .i64 e, .slice a n cap] w fun x w' => x = .returned (.bool true) ∧ Below w.heap.size w w' := by
  have hv0 := hv
  obtain ⟨fa, fc, ea, ec, qa, qc, rfl, hF, _⟩ := hv0
  rw [hl] at hv ⊢
  have HV := hid hv
  have HF := hid hF
  have HL := hid hl
  have HN := hid hn
  have HP := hid hP
  have HW := hid hw
  have HH := hid hh
  clear hv hF hl hn hP hw hh
  go_enter Tryd.func27, Tryd.ntmps27
  go_upto_region 2 with fail
  refine act_gen (fun W => Below w.heap.size w W ∧ w.heap.size < W.heap.size ∧ W.cell? ⟨w.heap.size, 0, none⟩ = some (.slice fa 24 fc) ∧ W.cell? ⟨w.heap.size, 1, none⟩ = some (.slice ea M.encl.length ec) ∧ W.cell? ⟨w.heap.size, 2, none⟩ = some (.slice qa M.quotes.length qc)) ⟨by go_grown, by go_size, by go_simp, by go_simp, by go_simp⟩ ?_
  rintro W ⟨hbW, zW, m0, m1, m2⟩
  go_wp2_with fail
  go_loopw [7, 16] (fun c j W' => ∃ i : Nat, i ≤ 24 ∧ j = .int .i64 i ∧ c = .int .i64 (ownedBy e (M.frames.take i)) ∧ Below W.heap.size W W') (fun _ j _ => 24 - (intOf j).toNat)
  case atStart => exact ⟨0, by omega, rfl, by rfl, Below.refl _ _⟩
  case round =>
    obtain ⟨i, hi, rfl, rfl, hb⟩ := hrel
    by_cases hlt : i < 24
    · obtain ⟨x, hx⟩ : ∃ x, M.frames[i]? = some x := ⟨_, List.getElem?_eq_getElem (by rw [HL.out]; exact hlt)⟩
      obtain ⟨fb, fo, wa, wc, rfl, k0, k1, k2, k3, _⟩ := HF.out i x hx
      have BW := hbW.trans (hb.mono hbW.size)
      replace k0 := cell_later BW k0
      replace k1 := cell_later BW k1
      replace k2 := cell_later BW k2
      replace k3 := cell_later BW k3
      have HS := hid (ownedBy_step hx e)
      have hc := ownedBy_le e (M.frames.take i)
      rw [List.length_take] at hc
      have hwc : IntKind.i64.wrap ((ownedBy e (M.frames.take i) : Int) + 1) = (ownedBy e (M.frames.take i) : Int) + 1 := by rw [IntKind.wrap_i64]; omega
      have HB := hid hb
      clear hx hb BW
      by_cases ho : x.owner = e
      · have HS2 : Hid (ownedBy e (M.frames.take (i + 1)) = ownedBy e (M.frames.take i) + 1) := by show _ = _; rw [HS.out, if_pos ho]
        have hob : (x.owner == e) = true := by rw [beq_iff_eq]; exact ho
        clear HS ho
        go_wp2_with fail
        go_roundw
        case rel => exact ⟨i + 1, by omega, by go_num, by rw [HS2.out]; go_num, HB.out.trans (Below.mono (by go_grown) HB.out.size)⟩
        case measure => simp [intOf]; omega
      · have HS2 : Hid (ownedBy e (M.frames.take (i + 1)) = ownedBy e (M.frames.take i)) := by show _ = _; rw [HS.out, if_neg ho]; rfl
        have hob : (x.owner == e) = false := by rw [beq_eq_false_iff_ne]; exact ho
        clear HS ho
        go_wp2_with fail
        go_roundw
        case rel => exact ⟨i + 1, by omega, by go_num, by rw [HS2.out], HB.out.trans (Below.mono (by go_grown) HB.out.size)⟩
        case measure => simp [intOf]; omega
    · obtain rfl : i = 24 := by omega
      rw [List.take_of_length_le (by rw [HL.out]; omega), HH.out.many, HN.out, show ((24 : Nat) : Int) = 24 from rfl]
      have hb0 := hb
      go_wp2_with fail
      go_loopw [29] (fun j W' => ∃ i : Nat, i ≤ n ∧ j = .int .i64 i ∧ Below W.heap.size W W') (fun j _ => n - (intOf j).toNat)
      case atStart => exact ⟨0, by omega, rfl, hb0⟩
      case round =>
        clear hb hb0 hlt
        obtain ⟨i, hi, rfl, hb⟩ := hrel
        by_cases hlt : i < n
        · obtain ⟨p, hp⟩ : ∃ p, L[i]? = some p := ⟨_, List.getElem?_eq_getElem (by rw [HN.out]; exact hlt)⟩
          obtain ⟨pb, po, wa, wc, rfl, k0, k1, k2, k3⟩ := HP.out i p hp
          obtain ⟨k, x, hk, hx, hr, hwd⟩ := HH.out.page i p hp
          have h8 := HW.out p (List.mem_of_getElem? hp)
          have BW := hbW.trans (hb.mono hbW.size)
          replace k0 := cell_later BW k0
          replace k1 := cell_later BW k1
          replace k2 := cell_later BW k2
          have HK3 := hid (k3.mono BW)
          have q0 := cell_later hb m0
          have q1 := cell_later hb m1
          have q2 := cell_later hb m2
          have HFW := hid (HF.out.mono BW)
          have HKk := hid hk
          have HX := hid hx
          have HR := hid hr
          have HWD := hid hwd
          have HBB := hid hb
          have zq : w.heap.size < wr.heap.size := Nat.lt_of_lt_of_le zW hb.size
          have hk24 : k < 24 := by have := (List.getElem?_eq_some_iff.1 hx).1; rw [HL.out] at this; exact this
          rw [h8] at k2
          have H8 := hid h8
          clear hp k3 hk hx hr hwd BW hb h8
          go_wp2_with fail
          refine (epcPlace fa M.frames 24 fc (.slice ea M.encl.length ec) (.slice qa M.quotes.length qc) e p.pl _ HL.out (by omega) (HFW.out.mono (by go_grown))).mono ?_
          rintro y w2 ⟨rfl, hb2⟩
          rw [HKk.out]
          have B2 : Below wr.heap.size wr w2 := Below.trans (by go_grown) (hb2.mono (by go_size))
          obtain ⟨fb, fo, xa, xc, rfl, x0, x1, x2, x3, hxw⟩ := HFW.out k x HX.out
          rw [HWD.out, H8.out] at x3
          rw [HR.out] at x2
          have f0 := cell_later B2 q0
          have f2 := cell_later B2 x2
          have f3 := cell_later B2 x3
          have g1 : w2.cell? ⟨wr.heap.size, 1, none⟩ = some (.int .i64 p.rights) := by rw [(bcell hb2).1 _ _ (by go_size)]; go_simp
          have g2 : w2.cell? ⟨wr.heap.size, 2, none⟩ = some (.slice wa 8 wc) := by rw [(bcell hb2).1 _ _ (by go_size)]; go_simp
          have HXW := hid (hxw.mono B2)
          have HPW := hid (HK3.out.mono B2)
          have HB2 := hid B2
          have j0 : ¬ ((k : Int) < 0) := by omega
          have j1 : ¬ ((24 : Int) ≤ (k : Int)) := by omega
          have j2 : decide ((k : Int) < 0) = false := by rw [decide_eq_false_iff_not]; omega
          have j3 : decide ((24 : Int) ≤ (k : Int)) = false := by rw [decide_eq_false_iff_not]; omega
          clear x0 x1 x2 x3 hxw q0 q1 q2 k0 k1 k2 hb2 B2
          go_upto_region 12 with fail
          go_region_held3 (fun w' => w'.cell? ⟨w.heap.size, 0, none⟩ = some (.slice (some ⟨fb, fo, none⟩) 24 fc) ∧ w'.cell? ⟨fb, fo + k * 4 + 2, none⟩ = some (.int .i64 p.rights) ∧ w'.cell? ⟨fb, fo + k * 4 + 3, none⟩ = some (.slice xa 8 xc) ∧ w'.cell? ⟨wr.heap.size, 1, none⟩ = some (.int .i64 p.rights) ∧ w'.cell? ⟨wr.heap.size, 2, none⟩ = some (.slice wa 8 wc))
            (first | go_keep | exact ⟨e0, e1, e2, e3, e4⟩ | (refine ⟨?_, ?_, ?_, ?_, ?_⟩ <;> (go_simp; done)))
            (first
              | (skip
                 go_at_call 17
                 refine (equalInts xa wa x.words p.words 8 8 xc wc _ (by rw [HWD.out, H8.out]) H8.out (by omega) (by omega) (HXW.out.mono (by go_grown)) (HPW.out.mono (by go_grown))).mono ?_
                 rintro y w4 ⟨rfl, hb4⟩
                 rw [show decide (x.words = p.words) = true from decide_eq_true HWD.out]
                 have B4 : Below w2.heap.size w2 w4 := Below.trans (by go_grown) (hb4.mono (by go_size))
                 have e0 := cell_later B4 f0
                 have e1 := cell_later B4 f2
                 have e2 := cell_later B4 f3
                 have e3 := cell_later B4 g1
                 have e4 := cell_later B4 g2))
          all_goals
            have HB4 := hid (HBB.out.trans ((HB2.out.trans (B4.mono HB2.out.size)).mono HBB.out.size))
            clear B4 hb4
            have hwi : IntKind.i64.wrap ((i : Int) + 1) = (i : Int) + 1 := by rw [IntKind.wrap_i64]; omega
            go_wp2_with fail
            go_roundw
            case rel => exact ⟨i + 1, by omega, by go_num, HB4.out⟩
            case measure => simp [intOf]; omega
        · obtain rfl : i = n := by omega
          have BW := hbW.trans (hb.mono hbW.size)
          have hnn : ((i : Int) == (i : Int)) = true := by simp
          go_wp2_with fail
          go_ret
          exact ⟨rfl, BW⟩

end Go.Proofs.YtbamacddfonloaaDoor

namespace Go.Proofs.YtbamacddfonloaaDoor
open Go.RowKit

theorem ownedBy_set {F : List FrameD} {i : Nat} {x y : FrameD} (hx : F[i]? = some x) {e : Int} (h0 : x.owner ≠ e) : ownedBy e (F.set i y) = ownedBy e F + if y.owner = e then 1 else 0 := by
  obtain ⟨hi, hx'⟩ := List.getElem?_eq_some_iff.1 hx
  have h1 : ((F[i]).owner == e) = false := by rw [hx', beq_eq_false_iff_ne]; exact h0
  rw [ownedBy, ownedBy, List.countP_set hi, if_neg (by rw [h1]; simp), Nat.sub_zero]
  simp
theorem ownedBy_setAt {e : Int} (he : e ≠ 0) (G : List FrameD) : ∀ (F : List FrameD) (fr : Nat), (∀ (j : Nat), j < G.length → ∃ x, F[fr + j]? = some x ∧ x.owner = 0) → ownedBy e (setAt F fr G) = ownedBy e F + ownedBy e G := by
  induction G with
  | nil => intro F fr _; simp [setAt, ownedBy]
  | cons g G ih =>
    intro F fr hx
    obtain ⟨x, hx0, h0⟩ := hx 0 (by simp)
    rw [Nat.add_zero] at hx0
    rw [setAt, ih _ _ (fun j hj => ?_), ownedBy_set hx0 (by rw [h0]; exact fun h => he h.symm)]
    · have : ownedBy e (g :: G) = ownedBy e G + if g.owner = e then 1 else 0 := by
        rw [ownedBy, ownedBy, List.countP_cons]
        simp
      rw [this]; omega
    · obtain ⟨y, hy, hy0⟩ := hx (j + 1) (by simpa using hj)
      exact ⟨y, by rw [List.getElem?_set_ne (by omega), show fr + 1 + j = fr + (j + 1) by omega]; exact hy, hy0⟩
theorem ownedBy_own (e : Int) (L : List PageD) : ownedBy e (L.map (ownP e)) = L.length := by
  induction L with
  | nil => rfl
  | cons p L ih =>
    rw [List.map_cons, ownedBy, List.countP_cons]
    rw [ownedBy] at ih
    rw [ih]
    simp [ownP]
theorem place_of {M : MachD} (h : Good M) {k : Nat} {x : FrameD} (hx : M.frames[k]? = some x) (h0 : 0 < x.owner) : placeF M.frames x.owner x.pl = (k : Int) := by
  refine findI_some hx (by simp [fitsB, h0]) (fun j z hj hz => ?_)
  cases hb : fitsB x.owner x.pl z with
  | false => rfl
  | true =>
    simp only [fitsB, Bool.and_eq_true, decide_eq_true_eq] at hb
    exact absurd ⟨by omega, hb.2⟩ (h.u k j x z (by omega) hx hz (by omega))
theorem built_has {M : MachD} {L : List PageD} {k fr : Nat} (hg : Good (builtM M L k fr)) (hfr : fr + L.length ≤ M.frames.length) (hx : ∀ (j : Nat), j < L.length → ∃ x, M.frames[fr + j]? = some x ∧ x.owner = 0) (h0 : ownedBy ((k : Int) + 1) M.frames = 0) :
    HasD (builtM M L k fr) ((k : Int) + 1) L := by
  refine ⟨?_, fun i p hp => ?_⟩
  · rw [builtM, ownedBy_setAt (by omega) _ _ _ (by rw [List.length_map]; exact hx), h0, ownedBy_own]; omega
  · have hs : (builtM M L k fr).frames[fr + i]? = some (ownP ((k : Int) + 1) p) := setAt_own hfr hp
    have := place_of hg hs (by simp only [ownP]; omega)
    exact ⟨fr + i, _, this, hs, rfl, rfl⟩
theorem newD_none (e : Int) (he : e ≠ 0) : ownedBy e newD.frames = 0 := by
  rw [ownedBy, List.countP_eq_zero]
  intro x hx
  simp only [newD] at hx
  rw [List.mem_replicate] at hx
  rw [hx.2]
  simp only [bare, beq_iff_eq]
  exact fun h => he h.symm
theorem started_has {L : List PageD} (hi : imageF L = 0) {fr : Nat} (hfr : fr + L.length ≤ 24) : HasD (startedM L fr) 1 L :=
  built_has (M := newD) (k := 0) (startedM_good hi hfr) hfr (fun j hj => newD_free (by omega)) (newD_none _ (by omega))
theorem started_encl (L : List PageD) (fr : Nat) : (startedM L fr).encl[0]? = some (readyE L) := rfl

end Go.Proofs.YtbamacddfonloaaDoor
