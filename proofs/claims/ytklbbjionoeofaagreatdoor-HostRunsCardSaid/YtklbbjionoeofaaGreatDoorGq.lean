/- slices.Contains at quotes and texts, walked. Conditions: those that each contract writes.
trust.Look, walked. Conditions: those that each contract writes.
trust.Ask and its reference at any challenger; what Ask and Look hand back fits. Conditions: those that each contract writes. -/
import Derived.Test.YtklbbjionoeofaaGreatDoorGd
import Derived.Test.YtklbbjionoeofaaGreatDoorGa
import Derived.Test.YtklbbjionoeofaaGreatDoorGi
namespace Go.Proofs.YtklbbjionoeofaaGreatDoor
open Go.RowKit

def sameQ (q x : QuoteD) : Bool := q.log.toList == x.log.toList && q.data == x.data
def sameS (s x : ByteArray) : Bool := s.toList == x.toList
theorem find_next {α : Type} {p : α → Bool} {l : List α} {i : Nat} {x : α} (hx : l[i]? = some x) (h : p x = false) (hb : ∀ (j : Nat) y, j < i → l[j]? = some y → p y = false) : ∀ (j : Nat) y, j < i + 1 → l[j]? = some y → p y = false := fun j y hj hy => by
  by_cases hji : j < i
  · exact hb j y hji hy
  · obtain rfl : j = i := by omega
    rw [hx] at hy
    rw [← Option.some.inj hy]
    exact h

set_option maxRecDepth 10000 in
set_option maxHeartbeats 800000 in
theorem indexQuotes (q : QuoteD) (a : Option Addr) (l : List QuoteD) (n cap : Nat) (w : World) (hn : n ≤ 9223372036854775807) (hl : l.length = n) (hc : QuotesAt w a l) :
    Calls Tryz.prog 88 #[.slice a n cap, .agg #[.string q.log, .int .i64 q.data]] w fun e w' => e = .returned (.int .i64 (findI (sameQ q) l)) ∧ Below w.heap.size w w' := by
  have HC := hid hc
  have HL := hid hl
  clear hc hl
  go_enter Tryz.func88, Tryz.ntmps88
  go_wp2_with fail
  refine wp_gen (fun W0 => Below w.heap.size w W0 ∧ w.heap.size < W0.heap.size ∧ W0.cell? ⟨w.heap.size, 0, none⟩ = some (.string q.log) ∧ W0.cell? ⟨w.heap.size, 1, none⟩ = some (.int .i64 q.data)) ⟨by go_grown, by go_size, by go_simp, by go_simp⟩ ?_
  rintro W0 ⟨hb0, hz0, c0, c1⟩
  go_loopw [8] (fun j W => ∃ i : Nat, i ≤ n ∧ j = .int .i64 i ∧ Hid (∀ (j : Nat) y, j < i → l[j]? = some y → sameQ q y = false) ∧ Below W0.heap.size W0 W) (fun j _ => n - (intOf j).toNat)
  case atStart => exact ⟨0, by omega, rfl, fun _ _ h => by omega, Below.refl _ _⟩
  case round =>
    obtain ⟨i, hi, rfl, HI, hb⟩ := hrel
    have d0 := cell_later hb c0
    have d1 := cell_later hb c1
    have hB : Below w.heap.size w wr := hb0.trans (hb.mono hb0.size)
    have hsz := hb.size
    clear c0 c1
    by_cases hlt : i < n
    · obtain ⟨x, hx⟩ : ∃ x, l[i]? = some x := ⟨_, List.getElem?_eq_getElem (by rw [HL.out]; exact hlt)⟩
      obtain ⟨b, off, rfl, k0, k1⟩ := HC.out i x hx
      have l0 := cell_later hB k0
      have l1 := cell_later hB k1
      have HX := hid hx
      clear hx k0 k1
      have hi0 : (0 : Int) ≤ (i : Int) := by omega
      have hi1 : (i : Int) < (n : Int) := by omega
      have heq := fun w => eqlQuote q.log x.log q.data x.data w
      cases hq : sameQ q x with
      | true =>
        have hq' : (q.log.toList == x.log.toList && q.data == x.data) = true := hq
        rw [hq'] at heq
        have HQ := hid hq
        clear hq hq'
        have HR := hid (findI_some HX.out HQ.out HI.out)
        go_wp2_with fail
        go_quiet (fail)
        go_wp2_with fail
        go_ret
        exact ⟨by rw [HR.out]; rfl, below_drewN hB _⟩
      | false =>
        have hq' : (q.log.toList == x.log.toList && q.data == x.data) = false := hq
        rw [hq'] at heq
        have HI' := hid (find_next HX.out hq HI.out)
        clear hq hq' HI
        go_wp2_with fail
        go_quiet (fail)
        go_wp2_with fail
        go_roundw
        case rel => exact ⟨i + 1, by omega, by go_num, HI', below_drewN hb _⟩
        case measure => simp [intOf]; omega
    · obtain rfl : i = n := by omega
      have HR : Hid (findI (sameQ q) l = -1) := findI_none fun j y hy => HI.out j y (by rw [← HL.out]; exact (List.getElem?_eq_some_iff.1 hy).1) hy
      have hi1 : ¬ (i : Int) < (i : Int) := by omega
      go_wp2_with fail
      go_ret
      exact ⟨by rw [HR.out]; rfl, hB⟩

set_option maxRecDepth 10000 in
set_option maxHeartbeats 800000 in
theorem indexStrs (q : ByteArray) (a : Option Addr) (l : List ByteArray) (n cap : Nat) (w : World) (hn : n ≤ 9223372036854775807) (hl : l.length = n) (hc : StrsAt w a l) :
    Calls Tryz.prog 89 #[.slice a n cap, .string q] w fun e w' => e = .returned (.int .i64 (findI (sameS q) l)) ∧ w = w' := by
  have HC := hid hc
  have HL := hid hl
  clear hc hl
  go_enter Tryz.func89, Tryz.ntmps89
  go_wp2_with fail
  go_loop [8] (fun j => ∃ i : Nat, i ≤ n ∧ j = .int .i64 i ∧ Hid (∀ (j : Nat) y, j < i → l[j]? = some y → sameS q y = false)) (fun j => n - (intOf j).toNat)
  case atStart => exact ⟨0, by omega, rfl, fun _ _ h => by omega⟩
  case round =>
    obtain ⟨i, hi, rfl, HI⟩ := hrel
    by_cases hlt : i < n
    · obtain ⟨x, hx⟩ : ∃ x, l[i]? = some x := ⟨_, List.getElem?_eq_getElem (by rw [HL.out]; exact hlt)⟩
      obtain ⟨b, off, rfl, k0⟩ := HC.out i x hx
      have HX := hid hx
      clear hx
      have hi0 : (0 : Int) ≤ (i : Int) := by omega
      have hi1 : (i : Int) < (n : Int) := by omega
      cases hq : sameS q x with
      | true =>
        have hq' : (q.toList == x.toList) = true := hq
        have HQ := hid hq
        clear hq
        have HR := hid (findI_some HX.out HQ.out HI.out)
        go_wp2_with fail
        go_ret
        exact ⟨by rw [HR.out]; rfl, rfl⟩
      | false =>
        have hq' : (q.toList == x.toList) = false := hq
        have HI' := hid (find_next HX.out hq HI.out)
        clear hq HI
        go_wp2_with fail
        go_round
        case rel => exact ⟨i + 1, by omega, by go_num, HI'⟩
        case measure => simp [intOf]; omega
    · obtain rfl : i = n := by omega
      have HR : Hid (findI (sameS q) l = -1) := findI_none fun j y hy => HI.out j y (by rw [← HL.out]; exact (List.getElem?_eq_some_iff.1 hy).1) hy
      have hi1 : ¬ (i : Int) < (i : Int) := by omega
      go_wp2_with fail
      go_ret
      exact ⟨by rw [HR.out]; rfl, rfl⟩

set_option maxHeartbeats 400000 in
theorem containsQuotes (q : QuoteD) (a : Option Addr) (l : List QuoteD) (n cap : Nat) (w : World) (hn : n ≤ 9223372036854775807) (hl : l.length = n) (hc : QuotesAt w a l) :
    Calls Tryz.prog 70 #[.slice a n cap, .agg #[.string q.log, .int .i64 q.data]] w fun e w' => e = .returned (.bool (l.any (sameQ q))) ∧ Below w.heap.size w w' := by
  have HC := hid hc
  have HL := hid hl
  have HA := hid (findI_any (sameQ q) l)
  clear hc hl
  have B0 : ∀ X, Below w.heap.size w (w.alloc X) := fun X => by go_grown
  go_enter Tryz.func70, Tryz.ntmps70
  go_wp2_with fail
  refine (indexQuotes q a l n cap _ hn HL.out (HC.out.mono (B0 _))).mono ?_
  rintro e w' ⟨rfl, hb⟩
  generalize findI (sameQ q) l = r at HA ⊢
  by_cases h0 : 0 ≤ r
  · go_wp2_with fail
    go_ret
    exact ⟨by rw [← HA.out]; simp [h0], (B0 _).trans (hb.mono (by go_size))⟩
  · go_wp2_with fail
    go_ret
    exact ⟨by rw [← HA.out]; simp, (B0 _).trans (hb.mono (by go_size))⟩
set_option maxHeartbeats 400000 in
theorem containsStrs (q : ByteArray) (a : Option Addr) (l : List ByteArray) (n cap : Nat) (w : World) (hn : n ≤ 9223372036854775807) (hl : l.length = n) (hc : StrsAt w a l) :
    Calls Tryz.prog 71 #[.slice a n cap, .string q] w fun e w' => e = .returned (.bool (l.any (sameS q))) ∧ w = w' := by
  have HC := hid hc
  have HL := hid hl
  have HA := hid (findI_any (sameS q) l)
  clear hc hl
  go_enter Tryz.func71, Tryz.ntmps71
  go_wp2_with fail
  refine (indexStrs q a l n cap _ hn HL.out HC.out).mono ?_
  rintro e w' ⟨rfl, rfl⟩
  generalize findI (sameS q) l = r at HA ⊢
  by_cases h0 : 0 ≤ r
  · go_wp2_with fail
    go_ret
    exact ⟨by rw [← HA.out]; simp [h0], rfl⟩
  · go_wp2_with fail
    go_ret
    exact ⟨by rw [← HA.out]; simp, rfl⟩

end Go.Proofs.YtklbbjionoeofaaGreatDoor

namespace Go.Proofs.YtklbbjionoeofaaGreatDoor
open Go.RowKit

def lookD (C : ChalD) (L : List QuoteD) (q : QuoteD) : ChalD × Int :=
  if chalF C ≠ 0 then (chal0, chalF C) else if L.any (sameQ q) = false then (chal0, 4) else if q.data < 1 ∨ (C.nonces.length : Int) < q.data then (chal0, 5) else
  if (C.nonces[(q.data - 1).toNat]?).getD 0 ≠ 0 then (chal0, 6) else if C.trusts.any (sameS q.log) = false then (chal0, 11) else (⟨C.trusts, C.nonces.set (q.data - 1).toNat 1⟩, 0)
/-- A call hands back a challenger and an error. -/
def Chal2 (base : Nat) (r : ChalD × Int) (w : World) (e : Ending) (w' : World) : Prop :=
  ∃ v, e = .returned (.tuple #[v, .int .i64 r.2]) ∧ ChalFrom base w' v r.1 ∧ Below base w w'
theorem Chal2.mk {base : Nat} {r : ChalD × Int} {w w' : World} {v : Value} {D : ChalD} {er : Int} (h : r = (D, er)) (hv : ChalFrom base w' v D) (hb : Below base w w') : Chal2 base r w (.returned (.tuple #[v, .int .i64 er])) w' := by
  subst h
  exact ⟨v, rfl, hv, hb⟩
theorem below_low2 {n : Nat} {w W : World} (h : Below n w W) {b : Nat} (hb : n ≤ b) (u0 u1 : Value) : Below n w ((W.setCell ⟨b, 0, none⟩ u0).setCell ⟨b, 1, none⟩ u1) := below_at (below_at h hb 0 u0) hb 1 u1
theorem ownsRow_low2 {w : World} {base : Nat} {e : TypeId} {size : Nat} {v : Value} {n : Nat} {xs : List Value} (h : w.ownsRow base e size v n xs) {b : Nat} (hb : b < base) (u0 u1 : Value) : ((w.setCell ⟨b, 0, none⟩ u0).setCell ⟨b, 1, none⟩ u1).ownsRow base e size v n xs :=
  ownsRow_setCell_below (ownsRow_setCell_below h (a := ⟨b, 0, none⟩) hb u0) (a := ⟨b, 1, none⟩) hb u1
theorem chalF_nonce {C : ChalD} (h : chalF C = 0) {i : Nat} {n : Int} (hn : C.nonces[i]? = some n) : n = 0 ∨ n = 1 := by
  have h2 : (C.trusts.any longB || C.nonces.any fun n => !inR n 0 1) = false := by
    unfold chalF at h
    by_cases h1 : (decide (4 < C.trusts.length) || decide (20 < C.nonces.length)) = true
    · rw [if_pos h1] at h; omega
    · rw [if_neg h1] at h
      cases hh : (C.trusts.any longB || C.nonces.any fun n => !inR n 0 1) with
      | false => rfl
      | true => rw [hh] at h; simp at h
  simp only [Bool.or_eq_false_iff] at h2
  have h3 := List.any_eq_false.1 h2.2 n (List.mem_of_getElem? hn)
  have : inR n 0 1 = true := by simpa using h3
  have h4 : 0 ≤ n ∧ n ≤ 1 := by simpa [inR] using this
  omega
/-- The ways in which Look ends. -/
theorem lookD_cases (C : ChalD) (L : List QuoteD) (q : QuoteD) (h0 : chalF C = 0) (ha : L.any (sameQ q) = true) :
    (q.data < 1 ∧ lookD C L q = (chal0, 5)) ∨ (1 ≤ q.data ∧ (C.nonces.length : Int) < q.data ∧ lookD C L q = (chal0, 5)) ∨
    ∃ (i : Nat) (n : Int), q.data = (i : Int) + 1 ∧ i < C.nonces.length ∧ C.nonces[i]? = some n ∧ ((n = 1 ∧ lookD C L q = (chal0, 6)) ∨ (n = 0 ∧ lookD C L q = if C.trusts.any (sameS q.log) = false then (chal0, 11) else (⟨C.trusts, C.nonces.set i 1⟩, 0))) := by
  have e : lookD C L q = if q.data < 1 ∨ (C.nonces.length : Int) < q.data then (chal0, 5) else if (C.nonces[(q.data - 1).toNat]?).getD 0 ≠ 0 then (chal0, 6) else if C.trusts.any (sameS q.log) = false then (chal0, 11) else (⟨C.trusts, C.nonces.set (q.data - 1).toNat 1⟩, 0) := by
    rw [lookD, if_neg (by simpa using h0), if_neg (by simp [ha])]
  by_cases h1 : q.data < 1
  · exact .inl ⟨h1, by rw [e, if_pos (.inl h1)]⟩
  by_cases h2 : (C.nonces.length : Int) < q.data
  · exact .inr (.inl ⟨by omega, h2, by rw [e, if_pos (.inr h2)]⟩)
  obtain ⟨i, hi⟩ : ∃ i : Nat, q.data = (i : Int) + 1 := ⟨(q.data - 1).toNat, by omega⟩
  have hil : i < C.nonces.length := by omega
  obtain ⟨n, hn⟩ : ∃ n, C.nonces[i]? = some n := ⟨_, List.getElem?_eq_getElem hil⟩
  rw [if_neg (by omega), show (q.data - 1).toNat = i by omega, hn] at e
  refine .inr (.inr ⟨i, n, hi, hil, hn, ?_⟩)
  rcases chalF_nonce h0 hn with rfl | rfl
  · exact .inr ⟨rfl, e⟩
  · exact .inl ⟨rfl, e⟩

set_option maxRecDepth 10000 in
set_option maxHeartbeats 1600000 in
theorem trustLook (v : Value) (C : ChalD) (a : Option Addr) (L : List QuoteD) (cap : Nat) (q : QuoteD) (w : World) (hv : ChalAt w v C) (hf : C.Fits) (hL : QuotesAt w a L) (hLn : L.length ≤ 9223372036854775807) :
    Calls Tryz.prog 46 #[v, .slice a L.length cap, .agg #[.string q.log, .int .i64 q.data]] w (Chal2 w.heap.size (lookD C L q) w) := by
  have hv' := hv
  obtain ⟨ta, tc, na, nc, rfl, ht, hn⟩ := hv'
  have HV := hid hv
  have HT := hid ht
  have HN := hid hn
  have HQ := hid hL
  clear hv ht hn hL
  have B0 : ∀ X Y Z, Below w.heap.size w (((w.alloc X).alloc Y).alloc Z) := fun X Y Z => by go_grown
  go_enter Tryz.func46, Tryz.ntmps46
  go_wp2_with fail
  refine (trustCheck _ C _ (HV.out.mono (B0 _ _ _)) hf).mono ?_
  rintro x w1 ⟨rfl, hb1⟩
  have p0 : w1.cell? ⟨w.heap.size, 0, none⟩ = some (.slice ta C.trusts.length tc) := by rw [(bcell hb1).1 _ _ (by go_size)]; go_simp
  have p1 : w1.cell? ⟨w.heap.size, 1, none⟩ = some (.slice na C.nonces.length nc) := by rw [(bcell hb1).1 _ _ (by go_size)]; go_simp
  have p3 : ∀ o, w1.frozen? ⟨w.heap.size, o, none⟩ = false := fun o => by rw [(bcell hb1).2 _ _ (by go_size)]; go_simp
  have q0 : w1.cell? ⟨w.heap.size + 1, 0, none⟩ = some (.string q.log) := by rw [(bcell hb1).1 _ _ (by go_size)]; go_simp
  have q1 : w1.cell? ⟨w.heap.size + 1, 1, none⟩ = some (.int .i64 q.data) := by rw [(bcell hb1).1 _ _ (by go_size)]; go_simp
  have r0 : w1.cell? ⟨w.heap.size + 1 + 1, 0, none⟩ = some (.slice none 0 0) := by rw [(bcell hb1).1 _ _ (by go_size)]; go_simp
  have r1 : w1.cell? ⟨w.heap.size + 1 + 1, 1, none⟩ = some (.slice none 0 0) := by rw [(bcell hb1).1 _ _ (by go_size)]; go_simp
  have r3 : ∀ o, w1.frozen? ⟨w.heap.size + 1 + 1, o, none⟩ = false := fun o => by rw [(bcell hb1).2 _ _ (by go_size)]; go_simp
  have z1 : w.heap.size + 1 + 1 < w1.heap.size := by have := hb1.size; simp at this; omega
  have B1 : Below w.heap.size w w1 := (B0 _ _ _).trans (hb1.mono (by go_size))
  clear hb1
  by_cases h0 : chalF C = 0
  · have hle := chalF_le h0
    have H0 := hid h0
    rw [h0]
    clear h0
    go_wp2_with fail
    refine (containsQuotes q a L L.length cap _ hLn rfl (HQ.out.mono B1)).mono ?_
    rintro x w2 ⟨rfl, hb2⟩
    have p0 := cell_later hb2 p0
    have p1 := cell_later hb2 p1
    have p3 : ∀ o, w2.frozen? ⟨w.heap.size, o, none⟩ = false := fun o => by rw [(bcell hb2).2 _ _ (by omega)]; exact p3 o
    have qq0 := cell_later hb2 q0
    have qq1 := cell_later hb2 q1
    clear q0 q1
    have r0 := cell_later hb2 r0
    have r1 := cell_later hb2 r1
    have r3 : ∀ o, w2.frozen? ⟨w.heap.size + 1 + 1, o, none⟩ = false := fun o => by rw [(bcell hb2).2 _ _ (by omega)]; exact r3 o
    have z2 : w.heap.size + 1 + 1 < w2.heap.size := by have := hb2.size; omega
    have B2 : Below w.heap.size w w2 := B1.trans (hb2.mono (by omega))
    clear hb2
    cases ha : L.any (sameQ q) with
    | false =>
      have HD : Hid (lookD C L q = (chal0, 4)) := by show lookD C L q = _; rw [lookD, if_neg (by simpa using H0.out), if_pos ha]
      clear ha
      go_wp2_with fail
      refine bodyPost_ret (v := .tuple #[.agg #[.slice none 0 0, .slice none 0 0], .int .i64 4]) (by simp [results, Tryz.results46, go_sem, r0, r1]) rfl (Chal2.mk HD.out chal0_from ?_)
      exact below_low2 B2 (by omega) _ _
    | true =>
      have HC := hid (lookD_cases C L q H0.out ha)
      clear ha
      obtain ⟨ql, qd⟩ := q
      simp only at HC qq0 qq1 ⊢
      rcases HC.out with ⟨h1, hD⟩ | ⟨h1, h2, hD⟩ | ⟨i, n, hi, hil, hni, hD⟩
      · have HD := hid hD
        clear hD HC
        go_wp2_with fail
        refine bodyPost_ret (v := .tuple #[.agg #[.slice none 0 0, .slice none 0 0], .int .i64 5]) (by simp [results, Tryz.results46, go_sem, r0, r1]) rfl (Chal2.mk HD.out chal0_from ?_)
        exact below_low2 B2 (by omega) _ _
      · have HD := hid hD
        clear hD HC
        go_wp2_with fail
        refine bodyPost_ret (v := .tuple #[.agg #[.slice none 0 0, .slice none 0 0], .int .i64 5]) (by simp [results, Tryz.results46, go_sem, r0, r1]) rfl (Chal2.mk HD.out chal0_from ?_)
        exact below_low2 B2 (by omega) _ _
      subst hi
      obtain ⟨nb, no, rfl, k0⟩ := HN.out i n hni
      have k1 := cell_later B2 k0
      have HNI := hid hni
      clear k0 hni HC
      have hi0 : (0 : Int) ≤ (i : Int) := by omega
      have hi1 : (i : Int) < (C.nonces.length : Int) := by omega
      have hi2 : ¬ (C.nonces.length : Int) < (i : Int) + 1 := by omega
      rcases hD with ⟨rfl, hD⟩ | ⟨rfl, hD⟩
      · have HD := hid hD
        clear hD
        go_wp2_with fail
        refine bodyPost_ret (v := .tuple #[.agg #[.slice none 0 0, .slice none 0 0], .int .i64 6]) (by simp [results, Tryz.results46, go_sem, r0, r1]) rfl (Chal2.mk HD.out chal0_from ?_)
        exact below_low2 B2 (by omega) _ _
      have HD := hid hD
      clear hD
      go_wp2_with fail
      refine (containsStrs ql ta C.trusts C.trusts.length tc _ (by omega) rfl (HT.out.mono B2)).mono ?_
      rintro x w' ⟨rfl, rfl⟩
      cases ha : C.trusts.any (sameS ql) with
      | false =>
        rw [if_pos ha] at HD
        clear ha
        go_wp2_with fail
        refine bodyPost_ret (v := .tuple #[.agg #[.slice none 0 0, .slice none 0 0], .int .i64 11]) (by simp [results, Tryz.results46, go_sem, r0, r1]) rfl (Chal2.mk HD.out chal0_from ?_)
        exact below_low2 B2 (by omega) _ _
      | true =>
        rw [if_neg (by simp [ha])] at HD
        clear ha
        go_wp2_with fail
        refine (trustCopy _ C _ (HV.out.mono B2) hf).mono ?_
        rintro x w3 ⟨v3, rfl, ⟨tv, nv, rfl, hot, hon, hap⟩, hb3⟩
        obtain ⟨g, c2, rfl, hg1, hg2⟩ := own_some hon (by omega)
        obtain ⟨ta2, tc2, rfl⟩ := own_slice hot
        have s0 := (hon.cellAt i (by omega)).trans (show (intCells C.nonces)[i]? = some (.int .i64 0) by simp [intCells, HNI.out])
        have s9 : ∀ o, w3.frozen? ⟨g, o, none⟩ = false := fun o => hon.frozenAt o
        have p0 := cell_later hb3 p0
        have p1 := cell_later hb3 p1
        have p3 : ∀ o, w3.frozen? ⟨w.heap.size, o, none⟩ = false := fun o => by rw [(bcell hb3).2 _ _ (by omega)]; exact p3 o
        have q0 := cell_later hb3 qq0
        have q1 := cell_later hb3 qq1
        have r0 := cell_later hb3 r0
        have r1 := cell_later hb3 r1
        have r3 : ∀ o, w3.frozen? ⟨w.heap.size + 1 + 1, o, none⟩ = false := fun o => by rw [(bcell hb3).2 _ _ (by omega)]; exact r3 o
        have z3 : w.heap.size + 1 + 1 < w3.heap.size := by have := hb3.size; omega
        have B3 : Below w.heap.size w w3 := B2.trans (hb3.mono (by omega))
        have n1 : w.heap.size ≠ g := by omega
        have n2 : w.heap.size + 1 ≠ g := by omega
        have n3 : w.heap.size + 1 + 1 ≠ g := by omega
        have n4 : g ≠ w.heap.size := by omega
        have n5 : g ≠ w.heap.size + 1 := by omega
        have n6 : g ≠ w.heap.size + 1 + 1 := by omega
        have hng : NotAt (.slice ta2 C.trusts.length tc2) g := fun k hk e => hap k hk (by rw [e]; rfl)
        have K1 := hid (ownsRow_low2 (ownsRow_setAt (ownsRow_low2 hot (b := w.heap.size) (by omega) (.slice ta2 C.trusts.length tc2) (.slice (some ⟨g, 0, none⟩) C.nonces.length c2)) hng i (.int .i64 1)) (b := w.heap.size + 1 + 1) (by omega) (.slice ta2 C.trusts.length tc2) (.slice (some ⟨g, 0, none⟩) C.nonces.length c2))
        have K2 := hid (ownsRow_low2 ((ownsRow_low2 hon (b := w.heap.size) (by omega) (.slice ta2 C.trusts.length tc2) (.slice (some ⟨g, 0, none⟩) C.nonces.length c2)).stored i (.int .i64 1)).1 (b := w.heap.size + 1 + 1) (by omega) (.slice ta2 C.trusts.length tc2) (.slice (some ⟨g, 0, none⟩) C.nonces.length c2))
        have KB := hid (below_low2 (below_at (below_low2 B3 (b := w.heap.size) (by omega) (.slice ta2 C.trusts.length tc2) (.slice (some ⟨g, 0, none⟩) C.nonces.length c2)) (b := g) (by omega) i (.int .i64 1)) (b := w.heap.size + 1 + 1) (by omega) (.slice ta2 C.trusts.length tc2) (.slice (some ⟨g, 0, none⟩) C.nonces.length c2))
        clear hot hon hap hb3 hng
        go_wp2_with fail
        refine bodyPost_ret (v := .tuple #[.agg #[.slice ta2 C.trusts.length tc2, .slice (some ⟨g, 0, none⟩) C.nonces.length c2], .int .i64 0]) (by simp only [results, Tryz.results46]; go_simp) rfl (Chal2.mk HD.out ?_ KB.out)
        have k2 := K2.out
        rw [intCells_set] at k2
        exact chalFrom_own (by omega) (by omega) K1.out k2 rfl (by simp)
  · have HD : Hid (lookD C L q = (chal0, chalF C)) := by show lookD C L q = _; rw [lookD, if_pos h0]
    have hE1 : (chalF C != 0) = true := by rw [bne_iff_ne]; exact h0
    generalize chalF C = E at HD hE1 h0 ⊢
    clear h0
    go_wp2_with fail
    refine bodyPost_ret (v := .tuple #[.agg #[.slice none 0 0, .slice none 0 0], .int .i64 E]) (by simp [results, Tryz.results46, go_sem, r0, r1]) rfl (Chal2.mk HD.out chal0_from ?_)
    exact below_low2 B1 (by omega) _ _

end Go.Proofs.YtklbbjionoeofaaGreatDoor

namespace Go.Proofs.YtklbbjionoeofaaGreatDoor
open Go.RowKit

theorem trustAsk (v : Value) (C : ChalD) (w : World) (hv : ChalAt w v C) (hf : C.Fits) : Calls Tryz.prog 45 #[v] w (Chal3 w.heap.size (askD C) w) := by
  by_cases h0 : chalF C = 0
  · by_cases h20 : C.nonces.length = 20
    · exact trustAsk_no v C w hv hf (.inr h20)
    · exact trustAsk_ok v C w hv hf h0 h20
  · exact trustAsk_no v C w hv hf (.inl h0)
theorem refAsked (v : Value) (C : ChalD) (w : World) (hv : ChalAt w v C) (hf : C.Fits) : Calls Tryz.prog 24 #[v] w (Chal3 w.heap.size (askD C) w) := by
  by_cases h0 : chalF C = 0
  · by_cases h20 : C.nonces.length = 20
    · exact refAsked_no v C w hv hf (.inr h20)
    · exact refAsked_ok v C w hv hf h0 h20
  · exact refAsked_no v C w hv hf (.inl h0)
theorem askD_fits {C : ChalD} (hf : C.Fits) : (askD C).1.Fits := by
  unfold askD
  by_cases h0 : chalF C = 0
  · have := chalF_le h0
    by_cases h20 : C.nonces.length = 20
    · rw [if_neg (by simpa using h0), if_pos h20]
      exact ⟨by simp [chal0], by simp [chal0]⟩
    · rw [if_neg (by simpa using h0), if_neg h20]
      exact ⟨hf.t, by simp; omega⟩
  · rw [if_pos h0]
    exact ⟨by simp [chal0], by simp [chal0]⟩
theorem lookD_fits {C : ChalD} (hf : C.Fits) (L : List QuoteD) (q : QuoteD) : (lookD C L q).1.Fits := by
  unfold lookD
  split
  · exact ⟨by simp [chal0], by simp [chal0]⟩
  split
  · exact ⟨by simp [chal0], by simp [chal0]⟩
  split
  · exact ⟨by simp [chal0], by simp [chal0]⟩
  split
  · exact ⟨by simp [chal0], by simp [chal0]⟩
  split
  · exact ⟨by simp [chal0], by simp [chal0]⟩
  · exact ⟨hf.t, by simpa using hf.n⟩

end Go.Proofs.YtklbbjionoeofaaGreatDoor
