/- slices.IndexFunc, ContainsFunc, Index, Contains at the types of this program, over whatever predicate is handed in with its contract. Condition: fewer than 2^63 elements. -/
import Derived.Test.YtehhhliiehhdjaaDoorBase
import Derived.Deep.QuietTactic
import Derived.BigQuiet
namespace Go.Proofs.YtehhhliiehhdjaaDoor
open Go.RowKit

def findI {α : Type} (p : α → Bool) (l : List α) : Int := match l.findIdx? p with
  | some i => i
  | none => -1
theorem findI_some {α : Type} {p : α → Bool} {l : List α} {i : Nat} {x : α} (hx : l[i]? = some x) (hp : p x = true) (hb : ∀ (j : Nat) y, j < i → l[j]? = some y → p y = false) : findI p l = i := by
  have hi : i < l.length := (List.getElem?_eq_some_iff.1 hx).1
  have e : l[i] = x := by rw [List.getElem?_eq_getElem hi] at hx; exact Option.some.inj hx
  have : l.findIdx? p = some i := by
    rw [List.findIdx?_eq_some_iff_getElem]
    refine ⟨hi, by rw [e]; exact hp, fun j hj => ?_⟩
    simpa using hb j l[j] hj (List.getElem?_eq_getElem (by omega))
  unfold findI
  rw [this]
theorem findI_none {α : Type} {p : α → Bool} {l : List α} (hb : ∀ (j : Nat) y, l[j]? = some y → p y = false) : findI p l = -1 := by
  have : l.findIdx? p = none := by
    rw [List.findIdx?_eq_none_iff]
    intro x hx
    obtain ⟨j, hj, rfl⟩ := List.getElem_of_mem hx
    simpa using hb j _ (List.getElem?_eq_getElem hj)
  unfold findI
  rw [this]
theorem findI_any {α : Type} (p : α → Bool) (l : List α) : decide (0 ≤ findI p l) = l.any p := by
  unfold findI
  cases h : l.findIdx? p with
  | none =>
    rw [List.findIdx?_eq_none_iff] at h
    simp only [show ¬ (0 : Int) ≤ -1 by decide, decide_false]
    symm
    rw [List.any_eq_false]
    intro x hx
    simpa using h x hx
  | some i =>
    rw [List.findIdx?_eq_some_iff_getElem] at h
    obtain ⟨hi, hp, _⟩ := h
    simp only [Int.natCast_nonneg, decide_true]
    symm
    rw [List.any_eq_true]
    exact ⟨l[i], List.getElem_mem _, by simpa using hp⟩
theorem findI_lt {α : Type} {p : α → Bool} {l : List α} : findI p l < l.length := by
  unfold findI
  split
  · rename_i i h
    rw [List.findIdx?_eq_some_iff_getElem] at h
    obtain ⟨hi, _⟩ := h
    omega
  · omega
theorem findI_ge {α : Type} {p : α → Bool} {l : List α} : -1 ≤ findI p l := by
  unfold findI
  split
  · omega
  · omega
theorem findI_get {α : Type} {p : α → Bool} {l : List α} {i : Nat} (h : findI p l = i) : ∃ x, l[i]? = some x ∧ p x = true := by
  unfold findI at h
  split at h
  · rename_i j hj
    obtain rfl : j = i := by omega
    rw [List.findIdx?_eq_some_iff_getElem] at hj
    obtain ⟨hi, hp, _⟩ := hj
    exact ⟨l[j], List.getElem?_eq_getElem hi, by simpa using hp⟩
  · omega

/-- A predicate handed in: what a call of it answers at the value v, in whatever world lies above w. -/
def PredAt (P : Program) (g : FuncId) (cb : Array Value) (w : World) (v : Value) (b : Bool) : Prop :=
  ∀ W, Below w.heap.size w W → Calls P g (#[v] ++ cb) W fun e w' => e = .returned (.bool b) ∧ Below W.heap.size W w'

set_option maxRecDepth 10000 in
set_option maxHeartbeats 800000 in
theorem indexFuncInts (g : FuncId) (cb : Array Value) (a : Option Addr) (l : List Int) (n cap : Nat) (p : Int → Bool) (w : World) (hn : n ≤ 9223372036854775807) (hl : l.length = n)
    (eg : ∀ args w, (callFunc g args).run Tryd.prog w = .ok (.enter g args) w) (hc : IntsAt w a l) (hp : ∀ (i : Nat) x , l[i]? = some x → PredAt Tryd.prog g cb w (.int .i64 x) (p x)) :
    Calls Tryd.prog 55 #[.slice a n cap, .func (.func g) #[] cb] w fun e w' => e = .returned (.int .i64 (findI p l)) ∧ Below w.heap.size w w' := by
  have HC := hid hc
  have HP := hid hp
  have HL := hid hl
  clear hc hp hl
  go_enter Tryd.func55, Tryd.ntmps55
  go_wp2_with fail
  go_loopw [8] (fun j W => ∃ i : Nat, i ≤ n ∧ j = .int .i64 i ∧ Hid (∀ (j : Nat) y, j < i → l[j]? = some y → p y = false) ∧ Below w.heap.size w W) (fun j _ => n - (intOf j).toNat)
  case atStart => exact ⟨0, by omega, rfl, fun _ _ h => by omega, Below.refl _ _⟩
  case round =>
    obtain ⟨i, hi, rfl, HF, hb⟩ := hrel
    by_cases hlt : i < n
    · obtain ⟨x, hx⟩ : ∃ x, l[i]? = some x := ⟨_, List.getElem?_eq_getElem (by rw [HL.out]; exact hlt)⟩
      have HX := hid hx
      clear hx
      obtain ⟨b, off, rfl, k0⟩ := HC.out i x HX.out
      have l0 := cell_later hb k0
      clear k0
      cases hpi : p x with
      | true =>
        have HPI := hid hpi
        clear hpi
        go_wp2_with fail
        refine (HP.out i x HX.out _ hb).mono ?_
        rintro e w' ⟨rfl, hb'⟩
        rw [HPI.out]
        go_wp2_with fail
        go_ret
        refine ⟨?_, hb.trans (hb'.mono hb.size)⟩
        rw [findI_some HX.out HPI.out HF.out]
        rfl
      | false =>
        have HPI := hid hpi
        clear hpi
        go_wp2_with fail
        refine (HP.out i x HX.out _ hb).mono ?_
        rintro e w' ⟨rfl, hb'⟩
        rw [HPI.out]
        go_wp2_with fail
        go_roundw
        case rel =>
          refine ⟨i + 1, by omega, by go_num, fun j y hj hy => ?_, hb.trans (hb'.mono hb.size)⟩
          by_cases hji : j < i
          · exact HF.out j y hji hy
          · obtain rfl : j = i := by omega
            rw [HX.out] at hy
            rw [← Option.some.inj hy]
            exact HPI.out
        case measure => simp [intOf]; omega
    · obtain rfl : i = n := by omega
      go_wp2_with fail
      go_ret
      refine ⟨?_, hb⟩
      rw [findI_none fun j y hy => HF.out j y (by rw [← HL.out]; exact (List.getElem?_eq_some_iff.1 hy).1) hy]
      rfl

set_option maxHeartbeats 400000 in
theorem containsFuncInts (g : FuncId) (cb : Array Value) (a : Option Addr) (l : List Int) (n cap : Nat) (p : Int → Bool) (w : World) (hn : n ≤ 9223372036854775807) (hl : l.length = n)
    (eg : ∀ args w, (callFunc g args).run Tryd.prog w = .ok (.enter g args) w) (hc : IntsAt w a l) (hp : ∀ (i : Nat) x , l[i]? = some x → PredAt Tryd.prog g cb w (.int .i64 x) (p x)) :
    Calls Tryd.prog 46 #[.slice a n cap, .func (.func g) #[] cb] w fun e w' => e = .returned (.bool (l.any p)) ∧ Below w.heap.size w w' := by
  have HC := hid hc
  have HP := hid hp
  have HL := hid hl
  have HA := hid (findI_any p l)
  clear hc hp hl
  go_enter Tryd.func46, Tryd.ntmps46
  go_wp2_with fail
  refine (indexFuncInts g cb a l n cap p w hn HL.out eg HC.out HP.out).mono ?_
  rintro e w' ⟨rfl, hb⟩
  generalize hr : findI p l = r
  have HR := hid hr
  clear hr
  by_cases h0 : 0 ≤ r
  · go_wp2_with fail
    go_ret
    refine ⟨?_, hb⟩
    rw [← HA.out, HR.out]
    simp [h0]
  · go_wp2_with fail
    go_ret
    refine ⟨?_, hb⟩
    rw [← HA.out, HR.out]
    simp
set_option maxRecDepth 10000 in
set_option maxHeartbeats 800000 in
theorem indexFuncQuotes (g : FuncId) (cb : Array Value) (a : Option Addr) (l : List QuoteD) (n cap : Nat) (p : QuoteD → Bool) (w : World) (hn : n ≤ 9223372036854775807) (hl : l.length = n)
    (eg : ∀ args w, (callFunc g args).run Tryd.prog w = .ok (.enter g args) w) (hc : QuotesAt w a l) (hp : ∀ (i : Nat) x , l[i]? = some x → PredAt Tryd.prog g cb w (.agg #[.string x.log, .int .i64 x.data]) (p x)) :
    Calls Tryd.prog 51 #[.slice a n cap, .func (.func g) #[] cb] w fun e w' => e = .returned (.int .i64 (findI p l)) ∧ Below w.heap.size w w' := by
  have HC := hid hc
  have HP := hid hp
  have HL := hid hl
  clear hc hp hl
  go_enter Tryd.func51, Tryd.ntmps51
  go_wp2_with fail
  go_loopw [8] (fun j W => ∃ i : Nat, i ≤ n ∧ j = .int .i64 i ∧ Hid (∀ (j : Nat) y, j < i → l[j]? = some y → p y = false) ∧ Below w.heap.size w W) (fun j _ => n - (intOf j).toNat)
  case atStart => exact ⟨0, by omega, rfl, fun _ _ h => by omega, Below.refl _ _⟩
  case round =>
    obtain ⟨i, hi, rfl, HF, hb⟩ := hrel
    by_cases hlt : i < n
    · obtain ⟨x, hx⟩ : ∃ x, l[i]? = some x := ⟨_, List.getElem?_eq_getElem (by rw [HL.out]; exact hlt)⟩
      have HX := hid hx
      clear hx
      obtain ⟨b, off, rfl, k0, k1⟩ := HC.out i x HX.out
      have l0 := cell_later hb k0; have l1 := cell_later hb k1
      clear k0 k1
      cases hpi : p x with
      | true =>
        have HPI := hid hpi
        clear hpi
        go_wp2_with fail
        refine (HP.out i x HX.out _ hb).mono ?_
        rintro e w' ⟨rfl, hb'⟩
        rw [HPI.out]
        go_wp2_with fail
        go_ret
        refine ⟨?_, hb.trans (hb'.mono hb.size)⟩
        rw [findI_some HX.out HPI.out HF.out]
        rfl
      | false =>
        have HPI := hid hpi
        clear hpi
        go_wp2_with fail
        refine (HP.out i x HX.out _ hb).mono ?_
        rintro e w' ⟨rfl, hb'⟩
        rw [HPI.out]
        go_wp2_with fail
        go_roundw
        case rel =>
          refine ⟨i + 1, by omega, by go_num, fun j y hj hy => ?_, hb.trans (hb'.mono hb.size)⟩
          by_cases hji : j < i
          · exact HF.out j y hji hy
          · obtain rfl : j = i := by omega
            rw [HX.out] at hy
            rw [← Option.some.inj hy]
            exact HPI.out
        case measure => simp [intOf]; omega
    · obtain rfl : i = n := by omega
      go_wp2_with fail
      go_ret
      refine ⟨?_, hb⟩
      rw [findI_none fun j y hy => HF.out j y (by rw [← HL.out]; exact (List.getElem?_eq_some_iff.1 hy).1) hy]
      rfl

set_option maxHeartbeats 400000 in
theorem containsFuncQuotes (g : FuncId) (cb : Array Value) (a : Option Addr) (l : List QuoteD) (n cap : Nat) (p : QuoteD → Bool) (w : World) (hn : n ≤ 9223372036854775807) (hl : l.length = n)
    (eg : ∀ args w, (callFunc g args).run Tryd.prog w = .ok (.enter g args) w) (hc : QuotesAt w a l) (hp : ∀ (i : Nat) x , l[i]? = some x → PredAt Tryd.prog g cb w (.agg #[.string x.log, .int .i64 x.data]) (p x)) :
    Calls Tryd.prog 34 #[.slice a n cap, .func (.func g) #[] cb] w fun e w' => e = .returned (.bool (l.any p)) ∧ Below w.heap.size w w' := by
  have HC := hid hc
  have HP := hid hp
  have HL := hid hl
  have HA := hid (findI_any p l)
  clear hc hp hl
  go_enter Tryd.func34, Tryd.ntmps34
  go_wp2_with fail
  refine (indexFuncQuotes g cb a l n cap p w hn HL.out eg HC.out HP.out).mono ?_
  rintro e w' ⟨rfl, hb⟩
  generalize hr : findI p l = r
  have HR := hid hr
  clear hr
  by_cases h0 : 0 ≤ r
  · go_wp2_with fail
    go_ret
    refine ⟨?_, hb⟩
    rw [← HA.out, HR.out]
    simp [h0]
  · go_wp2_with fail
    go_ret
    refine ⟨?_, hb⟩
    rw [← HA.out, HR.out]
    simp
set_option maxRecDepth 10000 in
set_option maxHeartbeats 800000 in
theorem indexFuncEncls (g : FuncId) (cb : Array Value) (a : Option Addr) (l : List EnclD) (n cap : Nat) (p : EnclD → Bool) (w : World) (hn : n ≤ 9223372036854775807) (hl : l.length = n)
    (eg : ∀ args w, (callFunc g args).run Tryd.prog w = .ok (.enter g args) w) (hc : EnclsAt w a l) (hp : ∀ (i : Nat) x , l[i]? = some x → PredAt Tryd.prog g cb w (.agg #[.int .i64 x.state, .string x.log, .int .i64 x.pc, .int .i64 x.r0, .int .i64 x.r1, .int .i64 x.r2, .int .i64 x.r3]) (p x)) :
    Calls Tryd.prog 22 #[.slice a n cap, .func (.func g) #[] cb] w fun e w' => e = .returned (.int .i64 (findI p l)) ∧ Below w.heap.size w w' := by
  have HC := hid hc
  have HP := hid hp
  have HL := hid hl
  clear hc hp hl
  go_enter Tryd.func22, Tryd.ntmps22
  go_wp2_with fail
  go_loopw [8] (fun j W => ∃ i : Nat, i ≤ n ∧ j = .int .i64 i ∧ Hid (∀ (j : Nat) y, j < i → l[j]? = some y → p y = false) ∧ Below w.heap.size w W) (fun j _ => n - (intOf j).toNat)
  case atStart => exact ⟨0, by omega, rfl, fun _ _ h => by omega, Below.refl _ _⟩
  case round =>
    obtain ⟨i, hi, rfl, HF, hb⟩ := hrel
    by_cases hlt : i < n
    · obtain ⟨x, hx⟩ : ∃ x, l[i]? = some x := ⟨_, List.getElem?_eq_getElem (by rw [HL.out]; exact hlt)⟩
      have HX := hid hx
      clear hx
      obtain ⟨b, off, rfl, k0, k1, k2, k3, k4, k5, k6⟩ := HC.out i x HX.out
      have l0 := cell_later hb k0; have l1 := cell_later hb k1; have l2 := cell_later hb k2; have l3 := cell_later hb k3; have l4 := cell_later hb k4; have l5 := cell_later hb k5; have l6 := cell_later hb k6
      clear k0 k1 k2 k3 k4 k5 k6
      cases hpi : p x with
      | true =>
        have HPI := hid hpi
        clear hpi
        go_wp2_with fail
        refine (HP.out i x HX.out _ hb).mono ?_
        rintro e w' ⟨rfl, hb'⟩
        rw [HPI.out]
        go_wp2_with fail
        go_ret
        refine ⟨?_, hb.trans (hb'.mono hb.size)⟩
        rw [findI_some HX.out HPI.out HF.out]
        rfl
      | false =>
        have HPI := hid hpi
        clear hpi
        go_wp2_with fail
        refine (HP.out i x HX.out _ hb).mono ?_
        rintro e w' ⟨rfl, hb'⟩
        rw [HPI.out]
        go_wp2_with fail
        go_roundw
        case rel =>
          refine ⟨i + 1, by omega, by go_num, fun j y hj hy => ?_, hb.trans (hb'.mono hb.size)⟩
          by_cases hji : j < i
          · exact HF.out j y hji hy
          · obtain rfl : j = i := by omega
            rw [HX.out] at hy
            rw [← Option.some.inj hy]
            exact HPI.out
        case measure => simp [intOf]; omega
    · obtain rfl : i = n := by omega
      go_wp2_with fail
      go_ret
      refine ⟨?_, hb⟩
      rw [findI_none fun j y hy => HF.out j y (by rw [← HL.out]; exact (List.getElem?_eq_some_iff.1 hy).1) hy]
      rfl

set_option maxHeartbeats 400000 in
theorem containsFuncEncls (g : FuncId) (cb : Array Value) (a : Option Addr) (l : List EnclD) (n cap : Nat) (p : EnclD → Bool) (w : World) (hn : n ≤ 9223372036854775807) (hl : l.length = n)
    (eg : ∀ args w, (callFunc g args).run Tryd.prog w = .ok (.enter g args) w) (hc : EnclsAt w a l) (hp : ∀ (i : Nat) x , l[i]? = some x → PredAt Tryd.prog g cb w (.agg #[.int .i64 x.state, .string x.log, .int .i64 x.pc, .int .i64 x.r0, .int .i64 x.r1, .int .i64 x.r2, .int .i64 x.r3]) (p x)) :
    Calls Tryd.prog 30 #[.slice a n cap, .func (.func g) #[] cb] w fun e w' => e = .returned (.bool (l.any p)) ∧ Below w.heap.size w w' := by
  have HC := hid hc
  have HP := hid hp
  have HL := hid hl
  have HA := hid (findI_any p l)
  clear hc hp hl
  go_enter Tryd.func30, Tryd.ntmps30
  go_wp2_with fail
  refine (indexFuncEncls g cb a l n cap p w hn HL.out eg HC.out HP.out).mono ?_
  rintro e w' ⟨rfl, hb⟩
  generalize hr : findI p l = r
  have HR := hid hr
  clear hr
  by_cases h0 : 0 ≤ r
  · go_wp2_with fail
    go_ret
    refine ⟨?_, hb⟩
    rw [← HA.out, HR.out]
    simp [h0]
  · go_wp2_with fail
    go_ret
    refine ⟨?_, hb⟩
    rw [← HA.out, HR.out]
    simp
set_option maxRecDepth 10000 in
set_option maxHeartbeats 800000 in
theorem indexFuncFrames (g : FuncId) (cb : Array Value) (a : Option Addr) (l : List FrameD) (n cap : Nat) (p : FrameD → Bool) (w : World) (hn : n ≤ 9223372036854775807) (hl : l.length = n)
    (eg : ∀ args w, (callFunc g args).run Tryd.prog w = .ok (.enter g args) w) (hc : FramesAt w a l) (hp : ∀ (i : Nat) x (wv : Value), l[i]? = some x → PredAt Tryd.prog g cb w (.agg #[.int .i64 x.owner, .int .i64 x.pl, .int .i64 x.rights, wv]) (p x)) :
    Calls Tryd.prog 28 #[.slice a n cap, .func (.func g) #[] cb] w fun e w' => e = .returned (.int .i64 (findI p l)) ∧ Below w.heap.size w w' := by
  have HC := hid hc
  have HP := hid hp
  have HL := hid hl
  clear hc hp hl
  go_enter Tryd.func28, Tryd.ntmps28
  go_wp2_with fail
  go_loopw [8] (fun j W => ∃ i : Nat, i ≤ n ∧ j = .int .i64 i ∧ Hid (∀ (j : Nat) y, j < i → l[j]? = some y → p y = false) ∧ Below w.heap.size w W) (fun j _ => n - (intOf j).toNat)
  case atStart => exact ⟨0, by omega, rfl, fun _ _ h => by omega, Below.refl _ _⟩
  case round =>
    obtain ⟨i, hi, rfl, HF, hb⟩ := hrel
    by_cases hlt : i < n
    · obtain ⟨x, hx⟩ : ∃ x, l[i]? = some x := ⟨_, List.getElem?_eq_getElem (by rw [HL.out]; exact hlt)⟩
      have HX := hid hx
      clear hx
      obtain ⟨b, off, wa, wc, rfl, k0, k1, k2, k3, _⟩ := HC.out i x HX.out
      have l0 := cell_later hb k0; have l1 := cell_later hb k1; have l2 := cell_later hb k2; have l3 := cell_later hb k3
      clear k0 k1 k2 k3
      cases hpi : p x with
      | true =>
        have HPI := hid hpi
        clear hpi
        go_wp2_with fail
        refine (HP.out i x _ HX.out _ hb).mono ?_
        rintro e w' ⟨rfl, hb'⟩
        rw [HPI.out]
        go_wp2_with fail
        go_ret
        refine ⟨?_, hb.trans (hb'.mono hb.size)⟩
        rw [findI_some HX.out HPI.out HF.out]
        rfl
      | false =>
        have HPI := hid hpi
        clear hpi
        go_wp2_with fail
        refine (HP.out i x _ HX.out _ hb).mono ?_
        rintro e w' ⟨rfl, hb'⟩
        rw [HPI.out]
        go_wp2_with fail
        go_roundw
        case rel =>
          refine ⟨i + 1, by omega, by go_num, fun j y hj hy => ?_, hb.trans (hb'.mono hb.size)⟩
          by_cases hji : j < i
          · exact HF.out j y hji hy
          · obtain rfl : j = i := by omega
            rw [HX.out] at hy
            rw [← Option.some.inj hy]
            exact HPI.out
        case measure => simp [intOf]; omega
    · obtain rfl : i = n := by omega
      go_wp2_with fail
      go_ret
      refine ⟨?_, hb⟩
      rw [findI_none fun j y hy => HF.out j y (by rw [← HL.out]; exact (List.getElem?_eq_some_iff.1 hy).1) hy]
      rfl

set_option maxHeartbeats 400000 in
theorem containsFuncFrames (g : FuncId) (cb : Array Value) (a : Option Addr) (l : List FrameD) (n cap : Nat) (p : FrameD → Bool) (w : World) (hn : n ≤ 9223372036854775807) (hl : l.length = n)
    (eg : ∀ args w, (callFunc g args).run Tryd.prog w = .ok (.enter g args) w) (hc : FramesAt w a l) (hp : ∀ (i : Nat) x (wv : Value), l[i]? = some x → PredAt Tryd.prog g cb w (.agg #[.int .i64 x.owner, .int .i64 x.pl, .int .i64 x.rights, wv]) (p x)) :
    Calls Tryd.prog 49 #[.slice a n cap, .func (.func g) #[] cb] w fun e w' => e = .returned (.bool (l.any p)) ∧ Below w.heap.size w w' := by
  have HC := hid hc
  have HP := hid hp
  have HL := hid hl
  have HA := hid (findI_any p l)
  clear hc hp hl
  go_enter Tryd.func49, Tryd.ntmps49
  go_wp2_with fail
  refine (indexFuncFrames g cb a l n cap p w hn HL.out eg HC.out HP.out).mono ?_
  rintro e w' ⟨rfl, hb⟩
  generalize hr : findI p l = r
  have HR := hid hr
  clear hr
  by_cases h0 : 0 ≤ r
  · go_wp2_with fail
    go_ret
    refine ⟨?_, hb⟩
    rw [← HA.out, HR.out]
    simp [h0]
  · go_wp2_with fail
    go_ret
    refine ⟨?_, hb⟩
    rw [← HA.out, HR.out]
    simp

end Go.Proofs.YtehhhliiehhdjaaDoor
