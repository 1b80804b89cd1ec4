/- image.Check and its reference, walked. Conditions: those that each contract writes. -/
import Derived.Test.YtlbjdjjdafnemaaImage
namespace Go.Proofs.Ytlbjdjjdafnemaa
open Go.RowKit

def prevGe (prev : Option Int) (x : Int) : Bool := match prev with
  | none => false
  | some y => decide (x ≤ y)
def imgF : Option Int → List PageD → Int
  | _, [] => 0
  | prev, p :: l => if pageF p.pl p.rights p.words ≠ 0 then pageF p.pl p.rights p.words else if prevGe prev p.pl then 12 else imgF (some p.pl) l
def imageF (l : List PageD) : Int := imgF none l
def prevOf (l : List PageD) : Nat → Option Int
  | 0 => none
  | i + 1 => (l[i]?).map (·.pl)
theorem imgF_step {l : List PageD} {i : Nat} {x : PageD} (hx : l[i]? = some x) :
    imgF (prevOf l i) (l.drop i) = if pageF x.pl x.rights x.words ≠ 0 then pageF x.pl x.rights x.words else if prevGe (prevOf l i) x.pl then 12 else imgF (prevOf l (i + 1)) (l.drop (i + 1)) := by
  have hi : i < l.length := (List.getElem?_eq_some_iff.1 hx).1
  have e : l[i] = x := by rw [List.getElem?_eq_getElem hi] at hx; exact Option.some.inj hx
  have hq : prevOf l (i + 1) = some x.pl := by simp [prevOf, hx]
  rw [List.drop_eq_getElem_cons hi, e, imgF, hq]
theorem imgF_end {l : List PageD} {p : Option Int} {n : Nat} (h : l.length = n) : imgF p (l.drop n) = 0 := by
  rw [List.drop_eq_nil_of_le (by omega)]
  rfl

structure PagesFit (l : List PageD) : Prop where
  n : l.length * 40 ≤ 140737488351232
  w : ∀ (i : Nat) (x : PageD), l[i]? = some x → x.words.length * 8 ≤ 140737488351232

end Go.Proofs.Ytlbjdjjdafnemaa
