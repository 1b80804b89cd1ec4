/- image.Check and its reference, walked. Conditions: those that each contract writes. -/
import Derived.Test.YtehhhliiehhdjaaDoorImage
namespace Go.Proofs.YtehhhliiehhdjaaDoor
open Go.RowKit

def prevGe (prev : Option Int) (x : Int) : Bool := match prev with
  | none => false
  | some y => decide (x ≤ y)
def imgF : Option Int → List PageD → Int
  | _, [] => 0
  | prev, p :: l => if pageF p.pl p.rights p.words ≠ 0 then pageF p.pl p.rights p.words else if prevGe prev p.pl then 12 else imgF (some p.pl) l
def imageF (l : List PageD) : Int := imgF none l
def prevOf (l : List PageD) : Nat → Option Int
  | 0 => none
  | i + 1 => (l[i]?).map (·.pl)
theorem imgF_step {l : List PageD} {i : Nat} {x : PageD} (hx : l[i]? = some x) :
    imgF (prevOf l i) (l.drop i) = if pageF x.pl x.rights x.words ≠ 0 then pageF x.pl x.rights x.words else if prevGe (prevOf l i) x.pl then 12 else imgF (prevOf l (i + 1)) (l.drop (i + 1)) := by
  have hi : i < l.length := (List.getElem?_eq_some_iff.1 hx).1
  have e : l[i] = x := by rw [List.getElem?_eq_getElem hi] at hx; exact Option.some.inj hx
  have hq : prevOf l (i + 1) = some x.pl := by simp [prevOf, hx]
  rw [List.drop_eq_getElem_cons hi, e, imgF, hq]
theorem imgF_end {l : List PageD} {p : Option Int} {n : Nat} (h : l.length = n) : imgF p (l.drop n) = 0 := by
  rw [List.drop_eq_nil_of_le (by omega)]
  rfl

structure PagesFit (l : List PageD) : Prop where
  n : l.length * 40 ≤ 140737488351232
  w : ∀ (i : Nat) (x : PageD), l[i]? = some x → x.words.length * 8 ≤ 140737488351232

set_option maxRecDepth 10000 in
set_option maxHeartbeats 1600000 in
theorem imageCheck (a : Option Addr) (l : List PageD) (n cap : Nat) (w : World) (hl : l.length = n) (hf : PagesFit l) (hc : PagesAt w a l) :
    Calls Tryd.prog 18 #[.slice a n cap] w fun e w' => e = .returned (.int .i64 (imageF l)) ∧ Below w.heap.size w w' := by
  have HL := hid hl
  have HC := hid hc
  have HW := hid hf.w
  have hn : n * 40 ≤ 140737488351232 := by rw [← hl]; exact hf.n
  clear hl hc hf
  go_enter Tryd.func18, Tryd.ntmps18
  go_wp2_with fail
  go_loopw [8] (fun j W => ∃ i : Nat, i ≤ n ∧ j = .int .i64 i ∧ Hid (imageF l = imgF (prevOf l i) (l.drop i)) ∧ Below w.heap.size w W) (fun j _ => n - (intOf j).toNat)
  case atStart => exact ⟨0, by omega, rfl, rfl, Below.refl _ _⟩
  case round =>
    obtain ⟨i, hi, rfl, HF, hb⟩ := hrel
    have hsz := hb.size
    by_cases hlt : i < n
    · obtain ⟨x, hx⟩ : ∃ x, l[i]? = some x := ⟨_, List.getElem?_eq_getElem (by rw [HL.out]; exact hlt)⟩
      have HS := hid (HF.out.trans (imgF_step hx))
      have HX := hid hx
      have hxw := HW.out i x hx
      obtain ⟨b, off, wa, wc, rfl, k0, k1, k2, hI⟩ := HC.out i x hx
      have l0 := cell_later hb k0
      have l1 := cell_later hb k1
      have l2 := cell_later hb k2
      have HI := hid (hI.mono hb)
      clear hx hI k0 k1 k2
      go_wp2_with fail
      refine (imageCheckPage x.pl x.rights wa x.words x.words.length wc _ rfl (by omega) (HI.out.mono (by go_grown))).mono ?_
      rintro e w1 ⟨rfl, hb1⟩
      have hB1 : Below w.heap.size w w1 := hb.trans (Below.trans (by go_grown) (hb1.mono (by go_size)))
      have q0 : w1.cell? ⟨wr.heap.size, 0, none⟩ = some (.int .i64 x.pl) := by rw [(bcell hb1).1 _ _ (by go_size)]; simp [go_sem]
      clear l0 l1 l2 hb1
      generalize pageF x.pl x.rights x.words = E at HS ⊢
      by_cases hE0 : E = 0
      · subst hE0
        cases i with
        | zero =>
          have HS' : Hid (imageF l = imgF (prevOf l 1) (l.drop 1)) := by show imageF l = _; rw [HS.out]; simp [prevOf, prevGe]
          clear HS
          have g0 : decide ((0 : Int) < 0) = false := by decide
          go_wp2_with fail
          go_quiet (fail)
          go_wp2_with fail
          go_roundw
          case rel => exact ⟨1, by omega, by go_num, HS', below_drewN hB1 _⟩
          case measure => simp [intOf]; omega
        | succ k =>
          obtain ⟨y, hy⟩ : ∃ y, l[k]? = some y := ⟨_, List.getElem?_eq_getElem (by rw [HL.out]; omega)⟩
          obtain ⟨b2, off2, wa2, wc2, e2, m0, _, _, _⟩ := HC.out k y hy
          cases e2
          have n0 := cell_later hB1 m0
          have HS' : Hid (imageF l = if decide (x.pl ≤ y.pl) then 12 else imgF (prevOf l (k + 1 + 1)) (l.drop (k + 1 + 1))) := by show imageF l = _; rw [HS.out]; simp [prevOf, prevGe, hy]
          clear HS m0 hy
          have g0 : decide ((0 : Int) < (k : Int) + 1) = true := by rw [decide_eq_true_eq]; omega
          have gi0 : (0 : Int) ≤ (k : Int) := by omega
          have gi1 : (k : Int) < (n : Int) := by omega
          by_cases hle : x.pl ≤ y.pl
          · go_wp2_with fail
            go_quiet (fail)
            go_wp2_with fail
            go_ret
            exact ⟨by rw [HS'.out]; simp [hle], below_drewN hB1 _⟩
          · have hle' : decide (x.pl ≤ y.pl) = false := by simp [hle]
            go_wp2_with fail
            go_quiet (fail)
            go_wp2_with fail
            go_roundw
            case rel => exact ⟨k + 1 + 1, by omega, by go_num, by show imageF l = _; rw [HS'.out]; simp [hle'], below_drewN hB1 _⟩
            case measure => simp [intOf]; omega
      · have hE1 : (E != 0) = true := by rw [bne_iff_ne]; exact hE0
        have HS' : Hid (imageF l = E) := by show imageF l = _; rw [HS.out]; simp [hE0]
        clear HS hE0
        go_wp2_with fail
        go_ret
        exact ⟨by rw [HS'.out]; rfl, hB1⟩
    · obtain rfl : i = n := by omega
      go_wp2_with fail
      go_ret
      exact ⟨by rw [HF.out, imgF_end HL.out]; rfl, hb⟩

end Go.Proofs.YtehhhliiehhdjaaDoor
