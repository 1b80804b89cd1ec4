/- Package image's checks and their reference, walked. Conditions: those that each contract writes. -/
import Derived.Test.YtehhhliiehhdjaaDoorSame
import Derived.Shelf.Abstract
namespace Go.Proofs.YtehhhliiehhdjaaDoor
open Go.RowKit

def inR (n lo hi : Int) : Bool := decide (lo ≤ n) && decide (n ≤ hi)
theorem words1_any (n : Int) (w : World) : Calls Tryd.prog 56 #[.int .i64 n] w fun e w' => e = .returned (.bool (!inR n 0 65535)) ∧ w = w' := by
  by_cases h1 : n < 0
  all_goals by_cases h2 : 65535 < n
  all_goals
    go_enter Tryd.func56, Tryd.ntmps56
    go_wp2
    all_goals
      go_ret
      refine ⟨?_, rfl⟩
      simp [inR]; omega

/-- May these be a page's words? -/
def wordsB (l : List Int) : Bool := decide (l.length = 8) && !(l.any fun n => !inR n 0 65535)
theorem enters_words1 : ∀ args w, (callFunc 56 args).run Tryd.prog w = .ok (.enter 56 args) w := enters_of Tryd.func56 (by kernel_rfl) rfl

set_option maxHeartbeats 400000 in
theorem imageWords (a : Option Addr) (l : List Int) (n cap : Nat) (w : World) (hl : l.length = n) (hn : n ≤ 9223372036854775807) (hc : IntsAt w a l) :
    Calls Tryd.prog 48 #[.slice a n cap] w fun e w' => e = .returned (.bool (wordsB l)) ∧ Below w.heap.size w w' := by
  have HL := hid hl
  have HC := hid hc
  clear hl hc
  by_cases h8 : n = 8
  · subst h8
    go_enter Tryd.func48, Tryd.ntmps48
    go_wp2_with fail
    refine (containsFuncInts 56 #[] a l 8 cap (fun n => !inR n 0 65535) w (by omega) HL.out enters_words1 HC.out (fun i x _ W hW => (words1_any x W).mono fun e w' ⟨he, hw⟩ => ⟨he, hw ▸ Below.refl _ _⟩)).mono ?_
    rintro e w1 ⟨rfl, hb⟩
    have HW : Hid (wordsB l = !(l.any fun n => !inR n 0 65535)) := by
      show wordsB l = _
      unfold wordsB
      rw [HL.out]
      rfl
    generalize (l.any fun n => !inR n 0 65535) = r at HW ⊢
    go_wp2_with fail
    go_ret
    exact ⟨by rw [HW.out]; rfl, hb⟩
  · have h8' : ((n : Int) == 8) = false := by rw [beq_eq_false_iff_ne]; omega
    have HW : Hid (wordsB l = false) := by
      show wordsB l = false
      unfold wordsB
      rw [HL.out]
      simp [h8]
    go_enter Tryd.func48, Tryd.ntmps48
    go_wp2_with fail
    go_ret
    exact ⟨by rw [HW.out]; rfl, Below.refl _ _⟩

def pageF (pl rights : Int) (words : List Int) : Int := if inR pl 0 7 && inR rights 0 7 then (if wordsB words then 0 else 4) else 2
theorem pageF_range {pl r : Int} {l : List Int} (h : (inR pl 0 7 && inR r 0 7) = false) : pageF pl r l = 2 := by simp [pageF, h]
theorem pageF_ok {pl r : Int} {l : List Int} (h : (inR pl 0 7 && inR r 0 7) = true) : pageF pl r l = if wordsB l then 0 else 4 := by simp [pageF, h]

set_option maxHeartbeats 800000 in
theorem imageCheckPage (pl r : Int) (a : Option Addr) (l : List Int) (n cap : Nat) (w : World) (hl : l.length = n) (hn : n ≤ 9223372036854775807) (hc : IntsAt w a l) :
    Calls Tryd.prog 39 #[.agg #[.int .i64 pl, .int .i64 r, .slice a n cap]] w fun e w' => e = .returned (.int .i64 (pageF pl r l)) ∧ Below w.heap.size w w' := by
  have HL := hid hl
  have HC := hid hc
  clear hl hc
  have B0 : ∀ X, Below w.heap.size w (w.alloc X) := fun X => by go_grown
  have H2 : Hid ((inR pl 0 7 && inR r 0 7) = false → pageF pl r l = 2) := fun h => pageF_range h
  by_cases h1 : pl < 0
  · have HF : Hid (pageF pl r l = 2) := H2.out (by simp [inR]; omega)
    clear H2
    go_enter Tryd.func39, Tryd.ntmps39
    go_wp2_with fail
    go_ret
    exact ⟨by rw [HF.out]; rfl, B0 _⟩
  by_cases h2 : 8 ≤ pl
  · have HF : Hid (pageF pl r l = 2) := H2.out (by simp [inR]; omega)
    clear H2
    go_enter Tryd.func39, Tryd.ntmps39
    go_wp2_with fail
    go_ret
    exact ⟨by rw [HF.out]; rfl, B0 _⟩
  by_cases h3 : r < 0
  · have HF : Hid (pageF pl r l = 2) := H2.out (by simp [inR]; omega)
    clear H2
    go_enter Tryd.func39, Tryd.ntmps39
    go_wp2_with fail
    go_ret
    exact ⟨by rw [HF.out]; rfl, B0 _⟩
  by_cases h4 : 7 < r
  · have HF : Hid (pageF pl r l = 2) := H2.out (by simp [inR]; omega)
    clear H2
    go_enter Tryd.func39, Tryd.ntmps39
    go_wp2_with fail
    go_ret
    exact ⟨by rw [HF.out]; rfl, B0 _⟩
  have HF : Hid (pageF pl r l = if wordsB l then 0 else 4) := pageF_ok (by simp [inR]; omega)
  clear H2
  go_enter Tryd.func39, Tryd.ntmps39
  go_wp2_with fail
  refine (imageWords a l n cap _ HL.out hn (HC.out.mono (B0 _))).mono ?_
  rintro e w1 ⟨rfl, hb⟩
  generalize wordsB l = r at HF ⊢
  cases r
  all_goals
    go_wp2_with fail
    go_ret
    exact ⟨by rw [HF.out]; rfl, (B0 _).trans (hb.mono (by go_size))⟩

end Go.Proofs.YtehhhliiehhdjaaDoor
