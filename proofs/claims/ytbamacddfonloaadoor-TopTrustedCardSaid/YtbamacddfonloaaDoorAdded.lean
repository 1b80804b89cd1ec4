/- image.Added and its reference, walked. Condition: the library's table reads as it is laid. -/
import Derived.Test.YtbamacddfonloaaDoorItoa
import Derived.Test.YtbamacddfonloaaDoorGl
import Derived.Test.YtbamacddfonloaaDoorGd
namespace Go.Proofs.YtbamacddfonloaaDoor
open Go.RowKit

/-- What Added answers: the text, the error. -/
def addD (p r : Int) : List UInt8 × Int := if addF p r ≠ 0 then ([], addF p r) else (addedL p r, 0)
def Text2 (base : Nat) (r : List UInt8 × Int) (w : World) (x : Ending) (w' : World) : Prop := x = .returned (.tuple #[.string (bytesOf r.1), .int .i64 r.2]) ∧ Below base w w'
theorem Text2.mk {base : Nat} {r : List UInt8 × Int} {w w' : World} {s : ByteArray} {t : List UInt8} {e : Int} (h : r = (t, e)) (hs : s = bytesOf t) (hb : Below base w w') : Text2 base r w (.returned (.tuple #[.string s, .int .i64 e])) w' := by
  subst h hs
  exact ⟨rfl, hb⟩
theorem addF_bad {p r : Int} (h : (inR p 0 7 && inR r 0 7) = false) : addD p r = ([], 2) := by simp [addD, addF, h]
theorem addF_good {p r : Int} (h : (inR p 0 7 && inR r 0 7) = true) : addD p r = (addedL p r, 0) := by simp [addD, addF, h]
theorem addedL_bytes (p r : Int) : (((({ data := #[112, 97, 103, 101, 32] } : ByteArray) ++ bytesOf (dec p)) ++ { data := #[32] }) ++ bytesOf (dec r)) ++ { data := #[59] } = bytesOf (addedL p r) := by
  have e1 : ({ data := #[112, 97, 103, 101, 32] } : ByteArray) = bytesOf [112, 97, 103, 101, 32] := rfl
  have e2 : ({ data := #[32] } : ByteArray) = bytesOf [32] := rfl
  have e3 : ({ data := #[59] } : ByteArray) = bytesOf [59] := rfl
  rw [e1, e2, e3, bytesOf_append, bytesOf_append, bytesOf_append, bytesOf_append]
  rfl
def zeroW : List Int := [0, 0, 0, 0, 0, 0, 0, 0]
theorem zero8_ok : wordsB zeroW = true := by decide

set_option maxRecDepth 10000 in
set_option maxHeartbeats 800000 in
theorem imageAdded (p r : Int) (w : World) (hT : Tab w) : Calls Tryd.prog 55 #[.int .i64 p, .int .i64 r] w (Text2 w.heap.size (addD p r) w) := by
  have hmk := make8
  have HC : Hid (IntsAt (w.alloc (.cells zero8 3)) (some ⟨w.heap.size, 0, none⟩) zeroW) := by
    have h := World.ownsRow_lit (e := 3) (size := 1) (base := w.heap.size) w zero8 8 (Nat.le_refl _) (by decide) rfl
    obtain ⟨a, c, e, hc⟩ := CellsAt.of_own h
    cases e
    exact CellsAt.ints hc
  go_enter Tryd.func55, Tryd.ntmps55
  go_wp2_with fail
  refine (imageCheckPage p r (some ⟨w.heap.size, 0, none⟩) zeroW 8 8 _ rfl (by decide) HC.out).mono ?_
  rintro x w1 ⟨rfl, hb1⟩
  have B1 : Below w.heap.size w w1 := (below_alloc _ _).trans (hb1.mono (by go_size))
  cases h : (inR p 0 7 && inR r 0 7)
  · have HD := hid (addF_bad h)
    have hF : pageF p r zeroW = 2 := by simp [pageF, h]
    rw [hF]
    dsimp only
    go_wp2_with fail
    go_ret2
    exact Text2.mk HD.out rfl B1
  · have HD := hid (addF_good h)
    have hF : pageF p r zeroW = 0 := by rw [pageF_ok h, zero8_ok]; rfl
    have hp : (0 ≤ p ∧ p ≤ 7) ∧ (0 ≤ r ∧ r ≤ 7) := by simpa [inR] using h
    obtain ⟨⟨p0, p7⟩, ⟨r0, r7⟩⟩ := hp
    have sp := dec_size p0 (by omega)
    have sr := dec_size r0 (by omega)
    rw [hF]
    clear h hF
    dsimp only
    go_wp2_with fail
    refine (itoa_any p _ p0 (by omega) (hT.mono B1)).mono ?_
    rintro x w2 ⟨rfl, hb2⟩
    have B2 := B1.trans (hb2.mono B1.size)
    dsimp only
    go_wp2_with fail
    refine (itoa_any r _ r0 (by omega) (hT.mono B2)).mono ?_
    rintro x w3 ⟨rfl, hb3⟩
    have B3 := B2.trans (hb3.mono B2.size)
    dsimp only
    go_wp2_with fail
    go_ret2
    exact Text2.mk HD.out (addedL_bytes p r) B3

end Go.Proofs.YtbamacddfonloaaDoor
