/- slices.IndexFunc, slices.ContainsFunc at answers; is an act refused? Walked. Conditions: those that each contract writes.
riddletop.started, walked. Conditions: what fits the form's own reach; the library's table reads as it is laid. -/
import Derived.Test.YtbamacddfonloaaDoorHostRunSt
import Derived.Test.YtbamacddfonloaaDoorGt
import Derived.Test.YtbamacddfonloaaDoorGv
import Derived.Test.YtbamacddfonloaaDoorKeepImage
import Derived.Test.YtbamacddfonloaaDoorGi
import Derived.Deep.RegionHeld3
namespace Go.Proofs.YtbamacddfonloaaDoor
open Go.RowKit

set_option maxRecDepth 10000 in
set_option maxHeartbeats 800000 in
theorem indexFuncAns (g : FuncId) (cb : Array Value) (a : Option Addr) (l : List AnsD) (n cap : Nat) (p : AnsD → Bool) (w : World) (hn : n ≤ 9223372036854775807) (hl : l.length = n)
    (eg : ∀ args w, (callFunc g args).run Tryd.prog w = .ok (.enter g args) w) (hc : AnsAt w a l) (hp : ∀ (i : Nat) x , l[i]? = some x → PredAt Tryd.prog g cb w (.agg #[.int .i64 x.code, .int .i64 x.n]) (p x)) :
    Calls Tryd.prog 91 #[.slice a n cap, .func (.func g) #[] cb] w fun e w' => e = .returned (.int .i64 (findI p l)) ∧ Below w.heap.size w w' := by
  have HC := hid hc
  have HP := hid hp
  have HL := hid hl
  clear hc hp hl
  go_enter Tryd.func91, Tryd.ntmps91
  go_wp2_with fail
  go_loopw [8] (fun j W => ∃ i : Nat, i ≤ n ∧ j = .int .i64 i ∧ Hid (∀ (j : Nat) y, j < i → l[j]? = some y → p y = false) ∧ Below w.heap.size w W) (fun j _ => n - (intOf j).toNat)
  case atStart => exact ⟨0, by omega, rfl, fun _ _ h => by omega, Below.refl _ _⟩
  case round =>
    obtain ⟨i, hi, rfl, HF, hb⟩ := hrel
    by_cases hlt : i < n
    · obtain ⟨x, hx⟩ : ∃ x, l[i]? = some x := ⟨_, List.getElem?_eq_getElem (by rw [HL.out]; exact hlt)⟩
      have HX := hid hx
      clear hx
      obtain ⟨b, off, rfl, k0, k1⟩ := HC.out i x HX.out
      have l0 := cell_later hb k0; have l1 := cell_later hb k1
      clear k0 k1
      cases hpi : p x with
      | true =>
        have HPI := hid hpi
        clear hpi
        go_wp2_with fail
        refine (HP.out i x HX.out _ hb).mono ?_
        rintro e w' ⟨rfl, hb'⟩
        rw [HPI.out]
        go_wp2_with fail
        go_ret
        refine ⟨?_, hb.trans (hb'.mono hb.size)⟩
        rw [findI_some HX.out HPI.out HF.out]
        rfl
      | false =>
        have HPI := hid hpi
        clear hpi
        go_wp2_with fail
        refine (HP.out i x HX.out _ hb).mono ?_
        rintro e w' ⟨rfl, hb'⟩
        rw [HPI.out]
        go_wp2_with fail
        go_roundw
        case rel =>
          refine ⟨i + 1, by omega, by go_num, fun j y hj hy => ?_, hb.trans (hb'.mono hb.size)⟩
          by_cases hji : j < i
          · exact HF.out j y hji hy
          · obtain rfl : j = i := by omega
            rw [HX.out] at hy
            rw [← Option.some.inj hy]
            exact HPI.out
        case measure => simp [intOf]; omega
    · obtain rfl : i = n := by omega
      go_wp2_with fail
      go_ret
      refine ⟨?_, hb⟩
      rw [findI_none fun j y hy => HF.out j y (by rw [← HL.out]; exact (List.getElem?_eq_some_iff.1 hy).1) hy]
      rfl

set_option maxHeartbeats 400000 in
theorem containsFuncAns (g : FuncId) (cb : Array Value) (a : Option Addr) (l : List AnsD) (n cap : Nat) (p : AnsD → Bool) (w : World) (hn : n ≤ 9223372036854775807) (hl : l.length = n)
    (eg : ∀ args w, (callFunc g args).run Tryd.prog w = .ok (.enter g args) w) (hc : AnsAt w a l) (hp : ∀ (i : Nat) x , l[i]? = some x → PredAt Tryd.prog g cb w (.agg #[.int .i64 x.code, .int .i64 x.n]) (p x)) :
    Calls Tryd.prog 80 #[.slice a n cap, .func (.func g) #[] cb] w fun e w' => e = .returned (.bool (l.any p)) ∧ Below w.heap.size w w' := by
  have HC := hid hc
  have HP := hid hp
  have HL := hid hl
  have HA := hid (findI_any p l)
  clear hc hp hl
  go_enter Tryd.func80, Tryd.ntmps80
  go_wp2_with fail
  refine (indexFuncAns g cb a l n cap p w hn HL.out eg HC.out HP.out).mono ?_
  rintro e w' ⟨rfl, hb⟩
  generalize hr : findI p l = r
  have HR := hid hr
  clear hr
  by_cases h0 : 0 ≤ r
  · go_wp2_with fail
    go_ret
    refine ⟨?_, hb⟩
    rw [← HA.out, HR.out]
    simp [h0]
  · go_wp2_with fail
    go_ret
    refine ⟨?_, hb⟩
    rw [← HA.out, HR.out]
    simp
theorem refused_any (x : AnsD) (w : World) : Calls Tryd.prog 81 #[.agg #[.int .i64 x.code, .int .i64 x.n]] w fun e w' => e = .returned (.bool (x.code != 0)) ∧ Below w.heap.size w w' := by
  have B0 : ∀ X, Below w.heap.size w (w.alloc X) := fun X => by go_grown
  go_enter Tryd.func81, Tryd.ntmps81
  go_wp2_with fail
  go_ret
  exact ⟨rfl, B0 _⟩
theorem enters_refused : ∀ args w, (callFunc 81 args).run Tryd.prog w = .ok (.enter 81 args) w := enters_of Tryd.func81 (by kernel_rfl) rfl
theorem refused_none {a : Option Addr} {l : List AnsD} {n cap : Nat} {w : World} (hn : n ≤ 9223372036854775807) (hl : l.length = n) (hc : AnsAt w a l) (h0 : ∀ x ∈ l, x.code = 0) :
    Calls Tryd.prog 80 #[.slice a n cap, .func (.func 81) #[] #[]] w fun e w' => e = .returned (.bool false) ∧ Below w.heap.size w w' := by
  refine (containsFuncAns 81 #[] a l n cap (fun x => x.code != 0) w hn hl enters_refused hc (fun i x _ W _ => refused_any x W)).mono ?_
  rintro e w' ⟨rfl, hb⟩
  refine ⟨?_, hb⟩
  have : l.any (fun x => x.code != 0) = false := by
    rw [List.any_eq_false]
    intro x hx
    simp [h0 x hx]
  rw [this]

end Go.Proofs.YtbamacddfonloaaDoor

namespace Go.Proofs.YtbamacddfonloaaDoor
open Go.RowKit

set_option maxHeartbeats 400000 in
theorem picked2_any (n many : Int) (w : World) (hn : Is64 n) (hm : 0 < many) : Calls Tryd.prog 26 #[.int .i64 n, .int .i64 many] w fun x w' => x = .returned (.int .i64 (pickD n many)) ∧ w' = w := by
  go_enter Tryd.func26, Tryd.ntmps26
  go_wp2_with fail
  refine (picked_any n many w hn hm).mono ?_
  rintro x w' ⟨rfl, rfl⟩
  go_wp2_with fail
  go_ret
  exact ⟨rfl, rfl⟩

/-- A machine's three cells written over three slices: pages read so still. -/
theorem PagesAt.box3 {W : World} {a : Option Addr} {l : List PageD} {b : Nat} (h : PagesAt W a l) (h0 : SlAt W b 0) (h1 : SlAt W b 1) (h2 : SlAt W b 2) (x y z : Option Addr) (n m k c d e : Nat) :
    PagesAt (((W.setCell ⟨b, 0, none⟩ (.slice x n c)).setCell ⟨b, 1, none⟩ (.slice y m d)).setCell ⟨b, 2, none⟩ (.slice z k e)) a l := by
  have k0 := h.box (u := .slice x n c) h0 (fun o' e => absurd e (by omega))
  have g0 := h0.set (b' := b) (o' := 0) x n c
  have g1 := h1.set (b' := b) (o' := 0) x n c
  have g2 := h2.set (b' := b) (o' := 0) x n c
  have k1 := k0.box (u := .slice y m d) g1 (fun o' e => by
    obtain rfl : o' = 0 := by omega
    exact g0)
  have f1 := g1.set (b' := b) (o' := 1) y m d
  have f2 := g2.set (b' := b) (o' := 1) y m d
  exact k1.box f2 (fun o' e => by
    obtain rfl : o' = 1 := by omega
    exact f1)
/-- What started hands back. -/
def StartRes (base : Nat) (L : List PageD) (M : MachD) (w : World) (x : Ending) (w' : World) : Prop :=
  ∃ ia ic mv, x = .returned (.tuple #[.slice ia L.length ic, mv, .bool true]) ∧ PagesAt w' ia L ∧ MachFrom base w' mv M ∧ Below base w w'
end Go.Proofs.YtbamacddfonloaaDoor
