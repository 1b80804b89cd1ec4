/- Package image's checks and their reference, walked. Conditions: those that each contract writes.
image.Check and its reference, walked. Conditions: those that each contract writes.
What is measured, as bytes: the texts, and that they tell apart what was measured. No program is walked. -/
import Derived.Test.YtklbbjionoeofaaGreatDoorGa
import Derived.Shelf.Abstract
import Derived.Lib.ItoaNum
namespace Go.Proofs.YtklbbjionoeofaaGreatDoor
open Go.RowKit

def inR (n lo hi : Int) : Bool := decide (lo ≤ n) && decide (n ≤ hi)
theorem in_any (n lo hi : Int) (w : World) : Calls Tryz.prog 25 #[.int .i64 n, .int .i64 lo, .int .i64 hi] w fun e w' => e = .returned (.bool (inR n lo hi)) ∧ w = w' := by
  by_cases h1 : lo ≤ n
  all_goals by_cases h2 : n ≤ hi
  all_goals
    go_enter Tryz.func25, Tryz.ntmps25
    go_wp2
    go_ret
    exact ⟨by simp [inR, h1, h2], rfl⟩
theorem words1_any (n : Int) (w : World) : Calls Tryz.prog 101 #[.int .i64 n] w fun e w' => e = .returned (.bool (!inR n 0 65535)) ∧ w = w' := by
  by_cases h1 : n < 0
  all_goals by_cases h2 : 65535 < n
  all_goals
    go_enter Tryz.func101, Tryz.ntmps101
    go_wp2
    all_goals
      go_ret
      refine ⟨?_, rfl⟩
      simp [inR]; omega

/-- May these be a page's words? -/
def wordsB (l : List Int) : Bool := decide (l.length = 8) && !(l.any fun n => !inR n 0 65535)
theorem enters_words1 : ∀ args w, (callFunc 101 args).run Tryz.prog w = .ok (.enter 101 args) w := enters_of Tryz.func101 (by kernel_rfl) rfl

set_option maxHeartbeats 400000 in
theorem imageWords (a : Option Addr) (l : List Int) (n cap : Nat) (w : World) (hl : l.length = n) (hn : n ≤ 9223372036854775807) (hc : IntsAt w a l) :
    Calls Tryz.prog 91 #[.slice a n cap] w fun e w' => e = .returned (.bool (wordsB l)) ∧ Below w.heap.size w w' := by
  have HL := hid hl
  have HC := hid hc
  clear hl hc
  by_cases h8 : n = 8
  · subst h8
    go_enter Tryz.func91, Tryz.ntmps91
    go_wp2_with fail
    refine (containsFuncInts 101 #[] a l 8 cap (fun n => !inR n 0 65535) w (by omega) HL.out enters_words1 HC.out (fun i x _ W hW => (words1_any x W).mono fun e w' ⟨he, hw⟩ => ⟨he, hw ▸ Below.refl _ _⟩)).mono ?_
    rintro e w1 ⟨rfl, hb⟩
    have HW : Hid (wordsB l = !(l.any fun n => !inR n 0 65535)) := by
      show wordsB l = _
      unfold wordsB
      rw [HL.out]
      rfl
    generalize (l.any fun n => !inR n 0 65535) = r at HW ⊢
    go_wp2_with fail
    go_ret
    exact ⟨by rw [HW.out]; rfl, hb⟩
  · have h8' : ((n : Int) == 8) = false := by rw [beq_eq_false_iff_ne]; omega
    have HW : Hid (wordsB l = false) := by
      show wordsB l = false
      unfold wordsB
      rw [HL.out]
      simp [h8]
    go_enter Tryz.func91, Tryz.ntmps91
    go_wp2_with fail
    go_ret
    exact ⟨by rw [HW.out]; rfl, Below.refl _ _⟩

set_option maxHeartbeats 400000 in
theorem refWords (a : Option Addr) (l : List Int) (n cap : Nat) (w : World) (hl : l.length = n) (hn : n ≤ 9223372036854775807) (hc : IntsAt w a l) :
    Calls Tryz.prog 73 #[.slice a n cap] w fun e w' => e = .returned (.bool (wordsB l)) ∧ w = w' := by
  have HL := hid hl
  have HC := hid hc
  clear hl hc
  go_enter Tryz.func73, Tryz.ntmps73
  go_wp2_with fail
  go_loop [3] (fun j => ∃ i : Nat, i ≤ n ∧ j = .int .i64 i ∧ Hid (∀ (j : Nat) y, j < i → l[j]? = some y → inR y 0 65535 = true)) (fun j => n - (intOf j).toNat)
  case atStart => exact ⟨0, by omega, rfl, fun _ _ h => by omega⟩
  case round =>
    obtain ⟨i, hi, rfl, HF⟩ := hrel
    by_cases hlt : i < n
    · obtain ⟨x, hx⟩ : ∃ x, l[i]? = some x := ⟨_, List.getElem?_eq_getElem (by rw [HL.out]; exact hlt)⟩
      have HX := hid hx
      obtain ⟨b, off, rfl, k0⟩ := HC.out i x hx
      clear hx
      cases hin : inR x 0 65535 with
      | true =>
        have HI := hid hin
        clear hin
        go_wp2_with fail
        refine (in_any x 0 65535 _).mono ?_
        rintro e w' ⟨rfl, rfl⟩
        rw [HI.out]
        go_wp2_with fail
        go_round
        case rel =>
          refine ⟨i + 1, by omega, by go_num, fun j y hj hy => ?_⟩
          by_cases hji : j < i
          · exact HF.out j y hji hy
          · obtain rfl : j = i := by omega
            rw [HX.out] at hy
            rw [← Option.some.inj hy]
            exact HI.out
        case measure => simp [intOf]; omega
      | false =>
        have HI := hid hin
        clear hin
        go_wp2_with fail
        refine (in_any x 0 65535 _).mono ?_
        rintro e w' ⟨rfl, rfl⟩
        rw [HI.out]
        go_wp2_with fail
        go_ret
        refine ⟨?_, rfl⟩
        have : wordsB l = false := by
          unfold wordsB
          rw [show (l.any fun n => !inR n 0 65535) = true from List.any_eq_true.2 ⟨x, List.mem_of_getElem? HX.out, by rw [HI.out]; rfl⟩]
          simp
        rw [this]; rfl
    · obtain rfl : i = n := by omega
      have HW : Hid (wordsB l = decide ((i : Int) = 8)) := by
        show wordsB l = _
        have h0 : (l.any fun n => !inR n 0 65535) = false := by
          rw [List.any_eq_false]
          intro y hy
          obtain ⟨j, hj, rfl⟩ := List.getElem_of_mem hy
          rw [HF.out j _ (by rw [← HL.out]; exact hj) (List.getElem?_eq_getElem hj)]
          simp
        unfold wordsB
        rw [h0, HL.out]
        by_cases h : i = 8
        · simp [h]
        · simp [h]; omega
      by_cases h8 : i = 8
      · subst h8
        go_wp2_with fail
        go_ret
        exact ⟨by rw [HW.out]; rfl, rfl⟩
      · have h8' : ((i : Int) == 8) = false := by rw [beq_eq_false_iff_ne]; omega
        have HW' : Hid (wordsB l = false) := by
          show wordsB l = false
          rw [HW.out]
          simp; omega
        clear HW
        go_wp2_with fail
        go_ret
        exact ⟨by rw [HW'.out]; rfl, rfl⟩

def pageF (pl rights : Int) (words : List Int) : Int := if inR pl 0 7 && inR rights 0 7 then (if wordsB words then 0 else 4) else 2
theorem pageF_range {pl r : Int} {l : List Int} (h : (inR pl 0 7 && inR r 0 7) = false) : pageF pl r l = 2 := by simp [pageF, h]
theorem pageF_ok {pl r : Int} {l : List Int} (h : (inR pl 0 7 && inR r 0 7) = true) : pageF pl r l = if wordsB l then 0 else 4 := by simp [pageF, h]

set_option maxHeartbeats 800000 in
theorem imageCheckPage (pl r : Int) (a : Option Addr) (l : List Int) (n cap : Nat) (w : World) (hl : l.length = n) (hn : n ≤ 9223372036854775807) (hc : IntsAt w a l) :
    Calls Tryz.prog 82 #[.agg #[.int .i64 pl, .int .i64 r, .slice a n cap]] w fun e w' => e = .returned (.int .i64 (pageF pl r l)) ∧ Below w.heap.size w w' := by
  have HL := hid hl
  have HC := hid hc
  clear hl hc
  have B0 : ∀ X, Below w.heap.size w (w.alloc X) := fun X => by go_grown
  have H2 : Hid ((inR pl 0 7 && inR r 0 7) = false → pageF pl r l = 2) := fun h => pageF_range h
  by_cases h1 : pl < 0
  · have HF : Hid (pageF pl r l = 2) := H2.out (by simp [inR]; omega)
    clear H2
    go_enter Tryz.func82, Tryz.ntmps82
    go_wp2_with fail
    go_ret
    exact ⟨by rw [HF.out]; rfl, B0 _⟩
  by_cases h2 : 8 ≤ pl
  · have HF : Hid (pageF pl r l = 2) := H2.out (by simp [inR]; omega)
    clear H2
    go_enter Tryz.func82, Tryz.ntmps82
    go_wp2_with fail
    go_ret
    exact ⟨by rw [HF.out]; rfl, B0 _⟩
  by_cases h3 : r < 0
  · have HF : Hid (pageF pl r l = 2) := H2.out (by simp [inR]; omega)
    clear H2
    go_enter Tryz.func82, Tryz.ntmps82
    go_wp2_with fail
    go_ret
    exact ⟨by rw [HF.out]; rfl, B0 _⟩
  by_cases h4 : 7 < r
  · have HF : Hid (pageF pl r l = 2) := H2.out (by simp [inR]; omega)
    clear H2
    go_enter Tryz.func82, Tryz.ntmps82
    go_wp2_with fail
    go_ret
    exact ⟨by rw [HF.out]; rfl, B0 _⟩
  have HF : Hid (pageF pl r l = if wordsB l then 0 else 4) := pageF_ok (by simp [inR]; omega)
  clear H2
  go_enter Tryz.func82, Tryz.ntmps82
  go_wp2_with fail
  refine (imageWords a l n cap _ HL.out hn (HC.out.mono (B0 _))).mono ?_
  rintro e w1 ⟨rfl, hb⟩
  generalize wordsB l = r at HF ⊢
  cases r
  all_goals
    go_wp2_with fail
    go_ret
    exact ⟨by rw [HF.out]; rfl, (B0 _).trans (hb.mono (by go_size))⟩

end Go.Proofs.YtklbbjionoeofaaGreatDoor

namespace Go.Proofs.YtklbbjionoeofaaGreatDoor
open Go.RowKit

def prevGe (prev : Option Int) (x : Int) : Bool := match prev with
  | none => false
  | some y => decide (x ≤ y)
def imgF : Option Int → List PageD → Int
  | _, [] => 0
  | prev, p :: l => if pageF p.pl p.rights p.words ≠ 0 then pageF p.pl p.rights p.words else if prevGe prev p.pl then 12 else imgF (some p.pl) l
def imageF (l : List PageD) : Int := imgF none l
def prevOf (l : List PageD) : Nat → Option Int
  | 0 => none
  | i + 1 => (l[i]?).map (·.pl)
theorem imgF_step {l : List PageD} {i : Nat} {x : PageD} (hx : l[i]? = some x) :
    imgF (prevOf l i) (l.drop i) = if pageF x.pl x.rights x.words ≠ 0 then pageF x.pl x.rights x.words else if prevGe (prevOf l i) x.pl then 12 else imgF (prevOf l (i + 1)) (l.drop (i + 1)) := by
  have hi : i < l.length := (List.getElem?_eq_some_iff.1 hx).1
  have e : l[i] = x := by rw [List.getElem?_eq_getElem hi] at hx; exact Option.some.inj hx
  have hq : prevOf l (i + 1) = some x.pl := by simp [prevOf, hx]
  rw [List.drop_eq_getElem_cons hi, e, imgF, hq]
theorem imgF_end {l : List PageD} {p : Option Int} {n : Nat} (h : l.length = n) : imgF p (l.drop n) = 0 := by
  rw [List.drop_eq_nil_of_le (by omega)]
  rfl

structure PagesFit (l : List PageD) : Prop where
  n : l.length * 40 ≤ 140737488351232
  w : ∀ (i : Nat) (x : PageD), l[i]? = some x → x.words.length * 8 ≤ 140737488351232

end Go.Proofs.YtklbbjionoeofaaGreatDoor

namespace Go.Proofs.YtklbbjionoeofaaGreatDoor
open Go.RowKit

def bytesOf (l : List UInt8) : ByteArray := ⟨l.toArray⟩
theorem bytesOf_inj {l m : List UInt8} (h : bytesOf l = bytesOf m) : l = m := by
  have h2 := ByteArray.mk.inj h
  have h3 := congrArg Array.toList h2
  simpa using h3
theorem bytesOf_append (l m : List UInt8) : bytesOf l ++ bytesOf m = bytesOf (l ++ m) := by
  apply ByteArray.ext
  simp [bytesOf, ByteArray.data_append]
theorem bytesOf_size (l : List UInt8) : (bytesOf l).size = l.length := by simp [bytesOf, ByteArray.size]
theorem bytesOf_data (s : ByteArray) : bytesOf s.data.toList = s := by
  apply ByteArray.ext
  simp [bytesOf]

def dec (n : Int) : List UInt8 := Lib.decDigits n.toNat
/-- 'page ', the place, a blank, the rights, ';'. -/
def addedL (p r : Int) : List UInt8 := [112, 97, 103, 101, 32] ++ dec p ++ [32] ++ dec r ++ [59]
/-- 'words ', the place, each word with a blank ahead, ';'. -/
def heldL (p : Int) (ws : List Int) : List UInt8 := [119, 111, 114, 100, 115, 32] ++ dec p ++ (ws.flatMap fun n => 32 :: dec n) ++ [59]
def openL : List UInt8 := [111, 112, 101, 110, 59]
def expectL (l : List PageD) : List UInt8 := openL ++ l.flatMap fun p => addedL p.pl p.rights ++ heldL p.pl p.words

def addF (p r : Int) : Int := if inR p 0 7 && inR r 0 7 then 0 else 2
/-! Digits. -/
def isDig (c : UInt8) : Bool := decide (48 ≤ c.toNat) && decide (c.toNat ≤ 57)
theorem dig_ofNat (n : Nat) (h : n < 10) : (UInt8.ofNat (48 + n)).toNat = 48 + n := by
  rw [UInt8.toNat_ofNat']
  omega
theorem decDigits_isDig (n : Nat) : ∀ c ∈ Lib.decDigits n, isDig c = true := by
  induction n using Nat.strongRecOn with
  | _ n ih =>
    intro c hc
    rw [Lib.decDigits] at hc
    split at hc
    · rename_i h
      simp only [List.mem_singleton] at hc
      subst hc
      rw [isDig, dig_ofNat n h]
      simp
      omega
    · rename_i h
      rw [List.mem_append] at hc
      rcases hc with hc | hc
      · exact ih (n / 10) (by omega) c hc
      · simp only [List.mem_singleton] at hc
        subst hc
        rw [isDig, dig_ofNat (n % 10) (by omega)]
        simp
        omega
theorem dec_isDig (n : Int) : ∀ c ∈ dec n, isDig c = true := decDigits_isDig n.toNat
def valOf (l : List UInt8) : Nat := l.foldl (fun a c => a * 10 + (c.toNat - 48)) 0
theorem valOf_dec (n : Nat) : valOf (Lib.decDigits n) = n := by
  induction n using Nat.strongRecOn with
  | _ n ih =>
    rw [Lib.decDigits]
    split
    · rename_i h
      rw [valOf, List.foldl_cons, List.foldl_nil, dig_ofNat n h]
      omega
    · rename_i h
      have := ih (n / 10) (by omega)
      rw [valOf] at this ⊢
      rw [List.foldl_append, this, List.foldl_cons, List.foldl_nil, dig_ofNat (n % 10) (by omega)]
      omega
theorem dec_inj {a b : Int} (ha : 0 ≤ a) (hb : 0 ≤ b) (h : dec a = dec b) : a = b := by
  have := congrArg valOf h
  simp only [dec, valOf_dec] at this
  omega
/-- Two numerals, each with something else than a digit behind. -/
theorem span_dig {l m r s : List UInt8} {c d : UInt8} (hl : ∀ x ∈ l, isDig x = true) (hm : ∀ x ∈ m, isDig x = true) (hc : isDig c = false) (hd : isDig d = false) (h : l ++ c :: r = m ++ d :: s) : l = m ∧ c = d ∧ r = s := by
  induction l generalizing m with
  | nil =>
    cases m with
    | nil => simpa using h
    | cons y m =>
      simp only [List.nil_append, List.cons_append, List.cons.injEq] at h
      have := hm y (List.mem_cons_self ..)
      rw [← h.1, hc] at this
      cases this
  | cons x l ih =>
    cases m with
    | nil =>
      simp only [List.nil_append, List.cons_append, List.cons.injEq] at h
      have := hl x (List.mem_cons_self ..)
      rw [h.1, hd] at this
      cases this
    | cons y m =>
      simp only [List.cons_append, List.cons.injEq] at h
      obtain ⟨h1, h2⟩ := h
      obtain ⟨h3, h4⟩ := ih (fun z hz => hl z (List.mem_cons_of_mem _ hz)) (fun z hz => hm z (List.mem_cons_of_mem _ hz)) h2
      exact ⟨by rw [h1, h3], h4⟩
theorem dec_cut {a b : Int} {r s : List UInt8} {c d : UInt8} (ha : 0 ≤ a) (hb : 0 ≤ b) (hc : isDig c = false) (hd : isDig d = false) (h : dec a ++ c :: r = dec b ++ d :: s) : a = b ∧ c = d ∧ r = s := by
  obtain ⟨h1, h2⟩ := span_dig (dec_isDig a) (dec_isDig b) hc hd h
  exact ⟨dec_inj ha hb h1, h2⟩

/-- What is put behind a log: a page added, or its words held. -/
inductive EvD where
  | put (p r : Int)
  | held (p : Int) (ws : List Int)
def evL : EvD → List UInt8
  | .put p r => addedL p r
  | .held p ws => heldL p ws
def EvOk : EvD → Prop
  | .put p r => 0 ≤ p ∧ 0 ≤ r
  | .held p ws => 0 ≤ p ∧ ∀ n ∈ ws, 0 ≤ n
theorem words_cut {l m : List Int} {r s : List UInt8} (hl : ∀ n ∈ l, 0 ≤ n) (hm : ∀ n ∈ m, 0 ≤ n) (h : (l.flatMap fun n => 32 :: dec n) ++ 59 :: r = (m.flatMap fun n => 32 :: dec n) ++ 59 :: s) : l = m ∧ r = s := by
  induction l generalizing m with
  | nil =>
    cases m with
    | nil => simpa using h
    | cons y m => simp at h
  | cons x l ih =>
    cases m with
    | nil => simp at h
    | cons y m =>
      simp only [List.flatMap_cons, List.cons_append, List.append_assoc, List.cons.injEq, true_and] at h
      have hx := hl x (List.mem_cons_self ..)
      have hy := hm y (List.mem_cons_self ..)
      have step : ∀ (k : List Int) (t : List UInt8), ∃ c u, isDig c = false ∧ (k.flatMap fun n => 32 :: dec n) ++ 59 :: t = c :: u := fun k t => by
        cases k with
        | nil => exact ⟨59, t, by decide, rfl⟩
        | cons z k => exact ⟨32, _, by decide, rfl⟩
      obtain ⟨c, u, hc, e1⟩ := step l r
      obtain ⟨d, v, hd, e2⟩ := step m s
      rw [e1, e2] at h
      obtain ⟨h1, h2, h3⟩ := dec_cut hx hy hc hd h
      have : (l.flatMap fun n => 32 :: dec n) ++ 59 :: r = (m.flatMap fun n => 32 :: dec n) ++ 59 :: s := by rw [e1, e2, h2, h3]
      obtain ⟨h4, h5⟩ := ih (fun n hn => hl n (List.mem_cons_of_mem _ hn)) (fun n hn => hm n (List.mem_cons_of_mem _ hn)) this
      exact ⟨by rw [h1, h4], h5⟩
/-- Two logs told from each other, event by event. -/
theorem ev_cut {a b : EvD} {r s : List UInt8} (ha : EvOk a) (hb : EvOk b) (h : evL a ++ r = evL b ++ s) : a = b ∧ r = s := by
  cases a with
  | put p q =>
    cases b with
    | put p' q' =>
      simp only [evL, addedL, List.append_assoc, List.cons_append, List.nil_append, List.cons.injEq, true_and] at h
      obtain ⟨h1, _, h2⟩ := dec_cut ha.1 hb.1 (by decide) (by decide) h
      obtain ⟨h3, _, h4⟩ := dec_cut ha.2 hb.2 (by decide) (by decide) h2
      exact ⟨by rw [h1, h3], h4⟩
    | held p' ws => simp [evL, addedL, heldL] at h
  | held p ws =>
    cases b with
    | put p' q' => simp [evL, addedL, heldL] at h
    | held p' ws' =>
      simp only [evL, heldL, List.append_assoc, List.cons_append, List.nil_append, List.cons.injEq, true_and] at h
      have step : ∀ (k : List Int) (t : List UInt8), ∃ c u, isDig c = false ∧ (k.flatMap fun n => 32 :: dec n) ++ 59 :: t = c :: u := fun k t => by
        cases k with
        | nil => exact ⟨59, t, by decide, rfl⟩
        | cons z k => exact ⟨32, _, by decide, rfl⟩
      obtain ⟨c, u, hc, e1⟩ := step ws r
      obtain ⟨d, v, hd, e2⟩ := step ws' s
      rw [e1, e2] at h
      obtain ⟨h1, h2, h3⟩ := dec_cut ha.1 hb.1 hc hd h
      obtain ⟨h4, h5⟩ := words_cut ha.2 hb.2 (by rw [e1, e2, h2, h3])
      exact ⟨by rw [h1, h4], h5⟩
theorem evs_inj {l m : List EvD} (hl : ∀ x ∈ l, EvOk x) (hm : ∀ x ∈ m, EvOk x) (h : l.flatMap evL = m.flatMap evL) : l = m := by
  have ne : ∀ a : EvD, evL a ≠ [] := fun a => by cases a <;> simp [evL, addedL, heldL]
  induction l generalizing m with
  | nil =>
    cases m with
    | nil => rfl
    | cons y m =>
      have := ne y
      simp at h
      exact absurd h.1 this
  | cons x l ih =>
    cases m with
    | nil =>
      have := ne x
      simp at h
      exact absurd h.1 this
    | cons y m =>
      simp only [List.flatMap_cons] at h
      obtain ⟨h1, h2⟩ := ev_cut (hl x (List.mem_cons_self ..)) (hm y (List.mem_cons_self ..)) h
      rw [h1, ih (fun z hz => hl z (List.mem_cons_of_mem _ hz)) (fun z hz => hm z (List.mem_cons_of_mem _ hz)) h2]
def evsOf (l : List PageD) : List EvD := l.flatMap fun p => [.put p.pl p.rights, .held p.pl p.words]
theorem expectL_evs (l : List PageD) : expectL l = openL ++ (evsOf l).flatMap evL := by
  simp only [expectL, evsOf, List.flatMap_assoc]
  simp [evL]

end Go.Proofs.YtklbbjionoeofaaGreatDoor
