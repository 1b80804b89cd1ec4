/- Package image's checks and their reference, walked. Conditions: those that each contract writes. -/
import Derived.Test.YtlbjdjjdafnemaaSame
import Derived.Shelf.Abstract
namespace Go.Proofs.Ytlbjdjjdafnemaa
open Go.RowKit

def inR (n lo hi : Int) : Bool := decide (lo ≤ n) && decide (n ≤ hi)
theorem in_any (n lo hi : Int) (w : World) : Calls Try.prog 14 #[.int .i64 n, .int .i64 lo, .int .i64 hi] w fun e w' => e = .returned (.bool (inR n lo hi)) ∧ w = w' := by
  by_cases h1 : lo ≤ n
  all_goals by_cases h2 : n ≤ hi
  all_goals
    go_enter Try.func14, Try.ntmps14
    go_wp2
    go_ret
    exact ⟨by simp [inR, h1, h2], rfl⟩
theorem words1_any (n : Int) (w : World) : Calls Try.prog 46 #[.int .i64 n] w fun e w' => e = .returned (.bool (!inR n 0 65535)) ∧ w = w' := by
  by_cases h1 : n < 0
  all_goals by_cases h2 : 65535 < n
  all_goals
    go_enter Try.func46, Try.ntmps46
    go_wp2
    all_goals
      go_ret
      refine ⟨?_, rfl⟩
      simp [inR]; omega

/-- May these be a page's words? -/
def wordsB (l : List Int) : Bool := decide (l.length = 8) && !(l.any fun n => !inR n 0 65535)
theorem enters_words1 : ∀ args w, (callFunc 46 args).run Try.prog w = .ok (.enter 46 args) w := enters_of Try.func46 (by kernel_rfl) rfl

set_option maxHeartbeats 400000 in
theorem imageWords (a : Option Addr) (l : List Int) (n cap : Nat) (w : World) (hl : l.length = n) (hn : n ≤ 9223372036854775807) (hc : IntsAt w a l) :
    Calls Try.prog 39 #[.slice a n cap] w fun e w' => e = .returned (.bool (wordsB l)) ∧ Below w.heap.size w w' := by
  have HL := hid hl
  have HC := hid hc
  clear hl hc
  by_cases h8 : n = 8
  · subst h8
    go_enter Try.func39, Try.ntmps39
    go_wp2_with fail
    refine (containsFuncInts 46 #[] a l 8 cap (fun n => !inR n 0 65535) w (by omega) HL.out enters_words1 HC.out (fun i x _ W hW => (words1_any x W).mono fun e w' ⟨he, hw⟩ => ⟨he, hw ▸ Below.refl _ _⟩)).mono ?_
    rintro e w1 ⟨rfl, hb⟩
    have HW : Hid (wordsB l = !(l.any fun n => !inR n 0 65535)) := by
      show wordsB l = _
      unfold wordsB
      rw [HL.out]
      rfl
    generalize (l.any fun n => !inR n 0 65535) = r at HW ⊢
    go_wp2_with fail
    go_ret
    exact ⟨by rw [HW.out]; rfl, hb⟩
  · have h8' : ((n : Int) == 8) = false := by rw [beq_eq_false_iff_ne]; omega
    have HW : Hid (wordsB l = false) := by
      show wordsB l = false
      unfold wordsB
      rw [HL.out]
      simp [h8]
    go_enter Try.func39, Try.ntmps39
    go_wp2_with fail
    go_ret
    exact ⟨by rw [HW.out]; rfl, Below.refl _ _⟩

set_option maxHeartbeats 400000 in
theorem refWords (a : Option Addr) (l : List Int) (n cap : Nat) (w : World) (hl : l.length = n) (hn : n ≤ 9223372036854775807) (hc : IntsAt w a l) :
    Calls Try.prog 34 #[.slice a n cap] w fun e w' => e = .returned (.bool (wordsB l)) ∧ w = w' := by
  have HL := hid hl
  have HC := hid hc
  clear hl hc
  go_enter Try.func34, Try.ntmps34
  go_wp2_with fail
  go_loop [3] (fun j => ∃ i : Nat, i ≤ n ∧ j = .int .i64 i ∧ Hid (∀ (j : Nat) y, j < i → l[j]? = some y → inR y 0 65535 = true)) (fun j => n - (intOf j).toNat)
  case atStart => exact ⟨0, by omega, rfl, fun _ _ h => by omega⟩
  case round =>
    obtain ⟨i, hi, rfl, HF⟩ := hrel
    by_cases hlt : i < n
    · obtain ⟨x, hx⟩ : ∃ x, l[i]? = some x := ⟨_, List.getElem?_eq_getElem (by rw [HL.out]; exact hlt)⟩
      have HX := hid hx
      obtain ⟨b, off, rfl, k0⟩ := HC.out i x hx
      clear hx
      cases hin : inR x 0 65535 with
      | true =>
        have HI := hid hin
        clear hin
        go_wp2_with fail
        refine (in_any x 0 65535 _).mono ?_
        rintro e w' ⟨rfl, rfl⟩
        rw [HI.out]
        go_wp2_with fail
        go_round
        case rel =>
          refine ⟨i + 1, by omega, by go_num, fun j y hj hy => ?_⟩
          by_cases hji : j < i
          · exact HF.out j y hji hy
          · obtain rfl : j = i := by omega
            rw [HX.out] at hy
            rw [← Option.some.inj hy]
            exact HI.out
        case measure => simp [intOf]; omega
      | false =>
        have HI := hid hin
        clear hin
        go_wp2_with fail
        refine (in_any x 0 65535 _).mono ?_
        rintro e w' ⟨rfl, rfl⟩
        rw [HI.out]
        go_wp2_with fail
        go_ret
        refine ⟨?_, rfl⟩
        have : wordsB l = false := by
          unfold wordsB
          rw [show (l.any fun n => !inR n 0 65535) = true from List.any_eq_true.2 ⟨x, List.mem_of_getElem? HX.out, by rw [HI.out]; rfl⟩]
          simp
        rw [this]; rfl
    · obtain rfl : i = n := by omega
      have HW : Hid (wordsB l = decide ((i : Int) = 8)) := by
        show wordsB l = _
        have h0 : (l.any fun n => !inR n 0 65535) = false := by
          rw [List.any_eq_false]
          intro y hy
          obtain ⟨j, hj, rfl⟩ := List.getElem_of_mem hy
          rw [HF.out j _ (by rw [← HL.out]; exact hj) (List.getElem?_eq_getElem hj)]
          simp
        unfold wordsB
        rw [h0, HL.out]
        by_cases h : i = 8
        · simp [h]
        · simp [h]; omega
      by_cases h8 : i = 8
      · subst h8
        go_wp2_with fail
        go_ret
        exact ⟨by rw [HW.out]; rfl, rfl⟩
      · have h8' : ((i : Int) == 8) = false := by rw [beq_eq_false_iff_ne]; omega
        have HW' : Hid (wordsB l = false) := by
          show wordsB l = false
          rw [HW.out]
          simp; omega
        clear HW
        go_wp2_with fail
        go_ret
        exact ⟨by rw [HW'.out]; rfl, rfl⟩

def pageF (pl rights : Int) (words : List Int) : Int := if inR pl 0 7 && inR rights 0 7 then (if wordsB words then 0 else 4) else 2
theorem pageF_range {pl r : Int} {l : List Int} (h : (inR pl 0 7 && inR r 0 7) = false) : pageF pl r l = 2 := by simp [pageF, h]
theorem pageF_ok {pl r : Int} {l : List Int} (h : (inR pl 0 7 && inR r 0 7) = true) : pageF pl r l = if wordsB l then 0 else 4 := by simp [pageF, h]

set_option maxHeartbeats 800000 in
theorem imageCheckPage (pl r : Int) (a : Option Addr) (l : List Int) (n cap : Nat) (w : World) (hl : l.length = n) (hn : n ≤ 9223372036854775807) (hc : IntsAt w a l) :
    Calls Try.prog 40 #[.agg #[.int .i64 pl, .int .i64 r, .slice a n cap]] w fun e w' => e = .returned (.int .i64 (pageF pl r l)) ∧ Below w.heap.size w w' := by
  have HL := hid hl
  have HC := hid hc
  clear hl hc
  have B0 : ∀ X, Below w.heap.size w (w.alloc X) := fun X => by go_grown
  have H2 : Hid ((inR pl 0 7 && inR r 0 7) = false → pageF pl r l = 2) := fun h => pageF_range h
  by_cases h1 : pl < 0
  · have HF : Hid (pageF pl r l = 2) := H2.out (by simp [inR]; omega)
    clear H2
    go_enter Try.func40, Try.ntmps40
    go_wp2_with fail
    go_ret
    exact ⟨by rw [HF.out]; rfl, B0 _⟩
  by_cases h2 : 8 ≤ pl
  · have HF : Hid (pageF pl r l = 2) := H2.out (by simp [inR]; omega)
    clear H2
    go_enter Try.func40, Try.ntmps40
    go_wp2_with fail
    go_ret
    exact ⟨by rw [HF.out]; rfl, B0 _⟩
  by_cases h3 : r < 0
  · have HF : Hid (pageF pl r l = 2) := H2.out (by simp [inR]; omega)
    clear H2
    go_enter Try.func40, Try.ntmps40
    go_wp2_with fail
    go_ret
    exact ⟨by rw [HF.out]; rfl, B0 _⟩
  by_cases h4 : 7 < r
  · have HF : Hid (pageF pl r l = 2) := H2.out (by simp [inR]; omega)
    clear H2
    go_enter Try.func40, Try.ntmps40
    go_wp2_with fail
    go_ret
    exact ⟨by rw [HF.out]; rfl, B0 _⟩
  have HF : Hid (pageF pl r l = if wordsB l then 0 else 4) := pageF_ok (by simp [inR]; omega)
  clear H2
  go_enter Try.func40, Try.ntmps40
  go_wp2_with fail
  refine (imageWords a l n cap _ HL.out hn (HC.out.mono (B0 _))).mono ?_
  rintro e w1 ⟨rfl, hb⟩
  generalize wordsB l = r at HF ⊢
  cases r
  all_goals
    go_wp2_with fail
    go_ret
    exact ⟨by rw [HF.out]; rfl, (B0 _).trans (hb.mono (by go_size))⟩

end Go.Proofs.Ytlbjdjjdafnemaa
