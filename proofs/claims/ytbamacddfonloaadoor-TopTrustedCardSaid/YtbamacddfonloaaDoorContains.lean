/- slices.Contains at quotes and texts, walked. Conditions: those that each contract writes. -/
import Derived.Test.YtbamacddfonloaaDoorGd
import Derived.Test.YtbamacddfonloaaDoorGa
namespace Go.Proofs.YtbamacddfonloaaDoor
open Go.RowKit

def sameQ (q x : QuoteD) : Bool := q.log.toList == x.log.toList && q.data == x.data
def sameS (s x : ByteArray) : Bool := s.toList == x.toList
theorem find_next {α : Type} {p : α → Bool} {l : List α} {i : Nat} {x : α} (hx : l[i]? = some x) (h : p x = false) (hb : ∀ (j : Nat) y, j < i → l[j]? = some y → p y = false) : ∀ (j : Nat) y, j < i + 1 → l[j]? = some y → p y = false := fun j y hj hy => by
  by_cases hji : j < i
  · exact hb j y hji hy
  · obtain rfl : j = i := by omega
    rw [hx] at hy
    rw [← Option.some.inj hy]
    exact h

set_option maxRecDepth 10000 in
set_option maxHeartbeats 800000 in
theorem indexQuotes (q : QuoteD) (a : Option Addr) (l : List QuoteD) (n cap : Nat) (w : World) (hn : n ≤ 9223372036854775807) (hl : l.length = n) (hc : QuotesAt w a l) :
    Calls Tryd.prog 57 #[.slice a n cap, .agg #[.string q.log, .int .i64 q.data]] w fun e w' => e = .returned (.int .i64 (findI (sameQ q) l)) ∧ Below w.heap.size w w' := by
  have HC := hid hc
  have HL := hid hl
  clear hc hl
  go_enter Tryd.func57, Tryd.ntmps57
  go_wp2_with fail
  refine wp_gen (fun W0 => Below w.heap.size w W0 ∧ w.heap.size < W0.heap.size ∧ W0.cell? ⟨w.heap.size, 0, none⟩ = some (.string q.log) ∧ W0.cell? ⟨w.heap.size, 1, none⟩ = some (.int .i64 q.data)) ⟨by go_grown, by go_size, by go_simp, by go_simp⟩ ?_
  rintro W0 ⟨hb0, hz0, c0, c1⟩
  go_loopw [8] (fun j W => ∃ i : Nat, i ≤ n ∧ j = .int .i64 i ∧ Hid (∀ (j : Nat) y, j < i → l[j]? = some y → sameQ q y = false) ∧ Below W0.heap.size W0 W) (fun j _ => n - (intOf j).toNat)
  case atStart => exact ⟨0, by omega, rfl, fun _ _ h => by omega, Below.refl _ _⟩
  case round =>
    obtain ⟨i, hi, rfl, HI, hb⟩ := hrel
    have d0 := cell_later hb c0
    have d1 := cell_later hb c1
    have hB : Below w.heap.size w wr := hb0.trans (hb.mono hb0.size)
    have hsz := hb.size
    clear c0 c1
    by_cases hlt : i < n
    · obtain ⟨x, hx⟩ : ∃ x, l[i]? = some x := ⟨_, List.getElem?_eq_getElem (by rw [HL.out]; exact hlt)⟩
      obtain ⟨b, off, rfl, k0, k1⟩ := HC.out i x hx
      have l0 := cell_later hB k0
      have l1 := cell_later hB k1
      have HX := hid hx
      clear hx k0 k1
      have hi0 : (0 : Int) ≤ (i : Int) := by omega
      have hi1 : (i : Int) < (n : Int) := by omega
      have heq := fun w => eqlQuote q.log x.log q.data x.data w
      cases hq : sameQ q x with
      | true =>
        have hq' : (q.log.toList == x.log.toList && q.data == x.data) = true := hq
        rw [hq'] at heq
        have HQ := hid hq
        clear hq hq'
        have HR := hid (findI_some HX.out HQ.out HI.out)
        go_wp2_with fail
        go_quiet (fail)
        go_wp2_with fail
        go_ret
        exact ⟨by rw [HR.out]; rfl, below_drewN hB _⟩
      | false =>
        have hq' : (q.log.toList == x.log.toList && q.data == x.data) = false := hq
        rw [hq'] at heq
        have HI' := hid (find_next HX.out hq HI.out)
        clear hq hq' HI
        go_wp2_with fail
        go_quiet (fail)
        go_wp2_with fail
        go_roundw
        case rel => exact ⟨i + 1, by omega, by go_num, HI', below_drewN hb _⟩
        case measure => simp [intOf]; omega
    · obtain rfl : i = n := by omega
      have HR : Hid (findI (sameQ q) l = -1) := findI_none fun j y hy => HI.out j y (by rw [← HL.out]; exact (List.getElem?_eq_some_iff.1 hy).1) hy
      have hi1 : ¬ (i : Int) < (i : Int) := by omega
      go_wp2_with fail
      go_ret
      exact ⟨by rw [HR.out]; rfl, hB⟩

set_option maxRecDepth 10000 in
set_option maxHeartbeats 800000 in
theorem indexStrs (q : ByteArray) (a : Option Addr) (l : List ByteArray) (n cap : Nat) (w : World) (hn : n ≤ 9223372036854775807) (hl : l.length = n) (hc : StrsAt w a l) :
    Calls Tryd.prog 98 #[.slice a n cap, .string q] w fun e w' => e = .returned (.int .i64 (findI (sameS q) l)) ∧ w = w' := by
  have HC := hid hc
  have HL := hid hl
  clear hc hl
  go_enter Tryd.func98, Tryd.ntmps98
  go_wp2_with fail
  go_loop [8] (fun j => ∃ i : Nat, i ≤ n ∧ j = .int .i64 i ∧ Hid (∀ (j : Nat) y, j < i → l[j]? = some y → sameS q y = false)) (fun j => n - (intOf j).toNat)
  case atStart => exact ⟨0, by omega, rfl, fun _ _ h => by omega⟩
  case round =>
    obtain ⟨i, hi, rfl, HI⟩ := hrel
    by_cases hlt : i < n
    · obtain ⟨x, hx⟩ : ∃ x, l[i]? = some x := ⟨_, List.getElem?_eq_getElem (by rw [HL.out]; exact hlt)⟩
      obtain ⟨b, off, rfl, k0⟩ := HC.out i x hx
      have HX := hid hx
      clear hx
      have hi0 : (0 : Int) ≤ (i : Int) := by omega
      have hi1 : (i : Int) < (n : Int) := by omega
      cases hq : sameS q x with
      | true =>
        have hq' : (q.toList == x.toList) = true := hq
        have HQ := hid hq
        clear hq
        have HR := hid (findI_some HX.out HQ.out HI.out)
        go_wp2_with fail
        go_ret
        exact ⟨by rw [HR.out]; rfl, rfl⟩
      | false =>
        have hq' : (q.toList == x.toList) = false := hq
        have HI' := hid (find_next HX.out hq HI.out)
        clear hq HI
        go_wp2_with fail
        go_round
        case rel => exact ⟨i + 1, by omega, by go_num, HI'⟩
        case measure => simp [intOf]; omega
    · obtain rfl : i = n := by omega
      have HR : Hid (findI (sameS q) l = -1) := findI_none fun j y hy => HI.out j y (by rw [← HL.out]; exact (List.getElem?_eq_some_iff.1 hy).1) hy
      have hi1 : ¬ (i : Int) < (i : Int) := by omega
      go_wp2_with fail
      go_ret
      exact ⟨by rw [HR.out]; rfl, rfl⟩

set_option maxHeartbeats 400000 in
theorem containsQuotes (q : QuoteD) (a : Option Addr) (l : List QuoteD) (n cap : Nat) (w : World) (hn : n ≤ 9223372036854775807) (hl : l.length = n) (hc : QuotesAt w a l) :
    Calls Tryd.prog 29 #[.slice a n cap, .agg #[.string q.log, .int .i64 q.data]] w fun e w' => e = .returned (.bool (l.any (sameQ q))) ∧ Below w.heap.size w w' := by
  have HC := hid hc
  have HL := hid hl
  have HA := hid (findI_any (sameQ q) l)
  clear hc hl
  have B0 : ∀ X, Below w.heap.size w (w.alloc X) := fun X => by go_grown
  go_enter Tryd.func29, Tryd.ntmps29
  go_wp2_with fail
  refine (indexQuotes q a l n cap _ hn HL.out (HC.out.mono (B0 _))).mono ?_
  rintro e w' ⟨rfl, hb⟩
  generalize findI (sameQ q) l = r at HA ⊢
  by_cases h0 : 0 ≤ r
  · go_wp2_with fail
    go_ret
    exact ⟨by rw [← HA.out]; simp [h0], (B0 _).trans (hb.mono (by go_size))⟩
  · go_wp2_with fail
    go_ret
    exact ⟨by rw [← HA.out]; simp, (B0 _).trans (hb.mono (by go_size))⟩
set_option maxHeartbeats 400000 in
theorem containsStrs (q : ByteArray) (a : Option Addr) (l : List ByteArray) (n cap : Nat) (w : World) (hn : n ≤ 9223372036854775807) (hl : l.length = n) (hc : StrsAt w a l) :
    Calls Tryd.prog 89 #[.slice a n cap, .string q] w fun e w' => e = .returned (.bool (l.any (sameS q))) ∧ w = w' := by
  have HC := hid hc
  have HL := hid hl
  have HA := hid (findI_any (sameS q) l)
  clear hc hl
  go_enter Tryd.func89, Tryd.ntmps89
  go_wp2_with fail
  refine (indexStrs q a l n cap _ hn HL.out HC.out).mono ?_
  rintro e w' ⟨rfl, rfl⟩
  generalize findI (sameS q) l = r at HA ⊢
  by_cases h0 : 0 ≤ r
  · go_wp2_with fail
    go_ret
    exact ⟨by rw [← HA.out]; simp [h0], rfl⟩
  · go_wp2_with fail
    go_ret
    exact ⟨by rw [← HA.out]; simp, rfl⟩

end Go.Proofs.YtbamacddfonloaaDoor
