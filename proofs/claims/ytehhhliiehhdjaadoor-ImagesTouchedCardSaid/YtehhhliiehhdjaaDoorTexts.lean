/- What is measured, as bytes: the texts, and that they tell apart what was measured. No program is walked. -/
import Derived.Test.YtehhhliiehhdjaaDoorImage
import Derived.Lib.ItoaNum
namespace Go.Proofs.YtehhhliiehhdjaaDoor
open Go.RowKit

def bytesOf (l : List UInt8) : ByteArray := ⟨l.toArray⟩
theorem bytesOf_inj {l m : List UInt8} (h : bytesOf l = bytesOf m) : l = m := by
  have h2 := ByteArray.mk.inj h
  have h3 := congrArg Array.toList h2
  simpa using h3
theorem bytesOf_append (l m : List UInt8) : bytesOf l ++ bytesOf m = bytesOf (l ++ m) := by
  apply ByteArray.ext
  simp [bytesOf, ByteArray.data_append]
theorem bytesOf_size (l : List UInt8) : (bytesOf l).size = l.length := by simp [bytesOf, ByteArray.size]
theorem bytesOf_data (s : ByteArray) : bytesOf s.data.toList = s := by
  apply ByteArray.ext
  simp [bytesOf]

def dec (n : Int) : List UInt8 := Lib.decDigits n.toNat
/-- 'page ', the place, a blank, the rights, ';'. -/
def addedL (p r : Int) : List UInt8 := [112, 97, 103, 101, 32] ++ dec p ++ [32] ++ dec r ++ [59]
/-- 'words ', the place, each word with a blank ahead, ';'. -/
def heldL (p : Int) (ws : List Int) : List UInt8 := [119, 111, 114, 100, 115, 32] ++ dec p ++ (ws.flatMap fun n => 32 :: dec n) ++ [59]
def openL : List UInt8 := [111, 112, 101, 110, 59]
def expectL (l : List PageD) : List UInt8 := openL ++ l.flatMap fun p => addedL p.pl p.rights ++ heldL p.pl p.words

def addF (p r : Int) : Int := if inR p 0 7 && inR r 0 7 then 0 else 2
/-! Digits. -/
def isDig (c : UInt8) : Bool := decide (48 ≤ c.toNat) && decide (c.toNat ≤ 57)
theorem dig_ofNat (n : Nat) (h : n < 10) : (UInt8.ofNat (48 + n)).toNat = 48 + n := by
  rw [UInt8.toNat_ofNat']
  omega
theorem decDigits_isDig (n : Nat) : ∀ c ∈ Lib.decDigits n, isDig c = true := by
  induction n using Nat.strongRecOn with
  | _ n ih =>
    intro c hc
    rw [Lib.decDigits] at hc
    split at hc
    · rename_i h
      simp only [List.mem_singleton] at hc
      subst hc
      rw [isDig, dig_ofNat n h]
      simp
      omega
    · rename_i h
      rw [List.mem_append] at hc
      rcases hc with hc | hc
      · exact ih (n / 10) (by omega) c hc
      · simp only [List.mem_singleton] at hc
        subst hc
        rw [isDig, dig_ofNat (n % 10) (by omega)]
        simp
        omega
theorem dec_isDig (n : Int) : ∀ c ∈ dec n, isDig c = true := decDigits_isDig n.toNat
def valOf (l : List UInt8) : Nat := l.foldl (fun a c => a * 10 + (c.toNat - 48)) 0
theorem valOf_dec (n : Nat) : valOf (Lib.decDigits n) = n := by
  induction n using Nat.strongRecOn with
  | _ n ih =>
    rw [Lib.decDigits]
    split
    · rename_i h
      rw [valOf, List.foldl_cons, List.foldl_nil, dig_ofNat n h]
      omega
    · rename_i h
      have := ih (n / 10) (by omega)
      rw [valOf] at this ⊢
      rw [List.foldl_append, this, List.foldl_cons, List.foldl_nil, dig_ofNat (n % 10) (by omega)]
      omega
theorem dec_inj {a b : Int} (ha : 0 ≤ a) (hb : 0 ≤ b) (h : dec a = dec b) : a = b := by
  have := congrArg valOf h
  simp only [dec, valOf_dec] at this
  omega
/-- Two numerals, each with something else than a digit behind. -/
theorem span_dig {l m r s : List UInt8} {c d : UInt8} (hl : ∀ x ∈ l, isDig x = true) (hm : ∀ x ∈ m, isDig x = true) (hc : isDig c = false) (hd : isDig d = false) (h : l ++ c :: r = m ++ d :: s) : l = m ∧ c = d ∧ r = s := by
  induction l generalizing m with
  | nil =>
    cases m with
    | nil => simpa using h
    | cons y m =>
      simp only [List.nil_append, List.cons_append, List.cons.injEq] at h
      have := hm y (List.mem_cons_self ..)
      rw [← h.1, hc] at this
      cases this
  | cons x l ih =>
    cases m with
    | nil =>
      simp only [List.nil_append, List.cons_append, List.cons.injEq] at h
      have := hl x (List.mem_cons_self ..)
      rw [h.1, hd] at this
      cases this
    | cons y m =>
      simp only [List.cons_append, List.cons.injEq] at h
      obtain ⟨h1, h2⟩ := h
      obtain ⟨h3, h4⟩ := ih (fun z hz => hl z (List.mem_cons_of_mem _ hz)) (fun z hz => hm z (List.mem_cons_of_mem _ hz)) h2
      exact ⟨by rw [h1, h3], h4⟩
theorem dec_cut {a b : Int} {r s : List UInt8} {c d : UInt8} (ha : 0 ≤ a) (hb : 0 ≤ b) (hc : isDig c = false) (hd : isDig d = false) (h : dec a ++ c :: r = dec b ++ d :: s) : a = b ∧ c = d ∧ r = s := by
  obtain ⟨h1, h2⟩ := span_dig (dec_isDig a) (dec_isDig b) hc hd h
  exact ⟨dec_inj ha hb h1, h2⟩

/-- What is put behind a log: a page added, or its words held. -/
inductive EvD where
  | put (p r : Int)
  | held (p : Int) (ws : List Int)
def evL : EvD → List UInt8
  | .put p r => addedL p r
  | .held p ws => heldL p ws
def EvOk : EvD → Prop
  | .put p r => 0 ≤ p ∧ 0 ≤ r
  | .held p ws => 0 ≤ p ∧ ∀ n ∈ ws, 0 ≤ n
theorem words_cut {l m : List Int} {r s : List UInt8} (hl : ∀ n ∈ l, 0 ≤ n) (hm : ∀ n ∈ m, 0 ≤ n) (h : (l.flatMap fun n => 32 :: dec n) ++ 59 :: r = (m.flatMap fun n => 32 :: dec n) ++ 59 :: s) : l = m ∧ r = s := by
  induction l generalizing m with
  | nil =>
    cases m with
    | nil => simpa using h
    | cons y m => simp at h
  | cons x l ih =>
    cases m with
    | nil => simp at h
    | cons y m =>
      simp only [List.flatMap_cons, List.cons_append, List.append_assoc, List.cons.injEq, true_and] at h
      have hx := hl x (List.mem_cons_self ..)
      have hy := hm y (List.mem_cons_self ..)
      have step : ∀ (k : List Int) (t : List UInt8), ∃ c u, isDig c = false ∧ (k.flatMap fun n => 32 :: dec n) ++ 59 :: t = c :: u := fun k t => by
        cases k with
        | nil => exact ⟨59, t, by decide, rfl⟩
        | cons z k => exact ⟨32, _, by decide, rfl⟩
      obtain ⟨c, u, hc, e1⟩ := step l r
      obtain ⟨d, v, hd, e2⟩ := step m s
      rw [e1, e2] at h
      obtain ⟨h1, h2, h3⟩ := dec_cut hx hy hc hd h
      have : (l.flatMap fun n => 32 :: dec n) ++ 59 :: r = (m.flatMap fun n => 32 :: dec n) ++ 59 :: s := by rw [e1, e2, h2, h3]
      obtain ⟨h4, h5⟩ := ih (fun n hn => hl n (List.mem_cons_of_mem _ hn)) (fun n hn => hm n (List.mem_cons_of_mem _ hn)) this
      exact ⟨by rw [h1, h4], h5⟩
/-- Two logs told from each other, event by event. -/
theorem ev_cut {a b : EvD} {r s : List UInt8} (ha : EvOk a) (hb : EvOk b) (h : evL a ++ r = evL b ++ s) : a = b ∧ r = s := by
  cases a with
  | put p q =>
    cases b with
    | put p' q' =>
      simp only [evL, addedL, List.append_assoc, List.cons_append, List.nil_append, List.cons.injEq, true_and] at h
      obtain ⟨h1, _, h2⟩ := dec_cut ha.1 hb.1 (by decide) (by decide) h
      obtain ⟨h3, _, h4⟩ := dec_cut ha.2 hb.2 (by decide) (by decide) h2
      exact ⟨by rw [h1, h3], h4⟩
    | held p' ws => simp [evL, addedL, heldL] at h
  | held p ws =>
    cases b with
    | put p' q' => simp [evL, addedL, heldL] at h
    | held p' ws' =>
      simp only [evL, heldL, List.append_assoc, List.cons_append, List.nil_append, List.cons.injEq, true_and] at h
      have step : ∀ (k : List Int) (t : List UInt8), ∃ c u, isDig c = false ∧ (k.flatMap fun n => 32 :: dec n) ++ 59 :: t = c :: u := fun k t => by
        cases k with
        | nil => exact ⟨59, t, by decide, rfl⟩
        | cons z k => exact ⟨32, _, by decide, rfl⟩
      obtain ⟨c, u, hc, e1⟩ := step ws r
      obtain ⟨d, v, hd, e2⟩ := step ws' s
      rw [e1, e2] at h
      obtain ⟨h1, h2, h3⟩ := dec_cut ha.1 hb.1 hc hd h
      obtain ⟨h4, h5⟩ := words_cut ha.2 hb.2 (by rw [e1, e2, h2, h3])
      exact ⟨by rw [h1, h4], h5⟩
theorem evs_inj {l m : List EvD} (hl : ∀ x ∈ l, EvOk x) (hm : ∀ x ∈ m, EvOk x) (h : l.flatMap evL = m.flatMap evL) : l = m := by
  have ne : ∀ a : EvD, evL a ≠ [] := fun a => by cases a <;> simp [evL, addedL, heldL]
  induction l generalizing m with
  | nil =>
    cases m with
    | nil => rfl
    | cons y m =>
      have := ne y
      simp at h
      exact absurd h.1 this
  | cons x l ih =>
    cases m with
    | nil =>
      have := ne x
      simp at h
      exact absurd h.1 this
    | cons y m =>
      simp only [List.flatMap_cons] at h
      obtain ⟨h1, h2⟩ := ev_cut (hl x (List.mem_cons_self ..)) (hm y (List.mem_cons_self ..)) h
      rw [h1, ih (fun z hz => hl z (List.mem_cons_of_mem _ hz)) (fun z hz => hm z (List.mem_cons_of_mem _ hz)) h2]
def evsOf (l : List PageD) : List EvD := l.flatMap fun p => [.put p.pl p.rights, .held p.pl p.words]
theorem expectL_evs (l : List PageD) : expectL l = openL ++ (evsOf l).flatMap evL := by
  simp only [expectL, evsOf, List.flatMap_assoc]
  simp [evL]

end Go.Proofs.YtehhhliiehhdjaaDoor
