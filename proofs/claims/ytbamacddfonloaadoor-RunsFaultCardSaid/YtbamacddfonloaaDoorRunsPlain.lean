/- What the little programs do when they are entered: one reckons, the others fault. Plain laws; no program is walked. -/
import Derived.Test.YtbamacddfonloaaDoorGx
import Derived.Test.YtbamacddfonloaaDoorGt
namespace Go.Proofs.YtbamacddfonloaaDoor
open Go.RowKit

/-- Two pages of code, one that may be read and written. -/
def codeW (ws : List Int) : List Int := ws ++ List.replicate 16 0
def codeP (ws : List Int) : List PageD := [⟨0, 4, (codeW ws).take 8⟩, ⟨1, 4, ((codeW ws).drop 8).take 8⟩, ⟨2, 3, List.replicate 8 0⟩]
def WordsOk (ws : List Int) : Prop := ∀ n ∈ ws, 0 ≤ n ∧ n ≤ 65535
theorem codeW_ok {ws : List Int} (h : WordsOk ws) : WordsOk (codeW ws) := fun n hn => by
  rcases List.mem_append.1 hn with hn | hn
  · exact h n hn
  · obtain rfl := (List.mem_replicate.1 hn).2
    omega
theorem codeP_good {ws : List Int} (h : WordsOk ws) : imageF (codeP ws) = 0 := by
  have h0 := codeW_ok h
  have hl : 16 ≤ (codeW ws).length := by rw [codeW, List.length_append, List.length_replicate]; omega
  have k0 : pageF 0 4 ((codeW ws).take 8) = 0 := (pageF_iff _ _ _).2 ⟨by omega, by omega, (wordsB_iff _).2 ⟨by rw [List.length_take]; omega, fun n hn => h0 n (List.mem_of_mem_take hn)⟩⟩
  have k1 : pageF 1 4 (((codeW ws).drop 8).take 8) = 0 := (pageF_iff _ _ _).2 ⟨by omega, by omega, (wordsB_iff _).2 ⟨by rw [List.length_take, List.length_drop]; omega, fun n hn => h0 n (List.mem_of_mem_drop (List.mem_of_mem_take hn))⟩⟩
  have k2 : pageF 2 3 (List.replicate 8 0) = 0 := by decide
  unfold imageF codeP
  rw [imgF, if_neg (by simp [k0]), if_neg (by simp [prevGe]), imgF, if_neg (by simp [k1]), if_neg (by simp [prevGe]), imgF, if_neg (fun h => h k2), if_neg (by simp [prevGe]), imgF]
def codeM (ws : List Int) : MachD := startedM (codeP ws) 0
theorem codeM_good {ws : List Int} (h : WordsOk ws) : Good (codeM ws) := startedM_good (codeP_good h) (by simp [codeP])
theorem codeM_encl (ws : List Int) : (codeM ws).encl[0]? = some (readyE (codeP ws)) := rfl

/-- The program that reckons. -/
def reckW (y : Int) : List Int := [17, y, 258, 0, 33, 16, 518, 0, 565, 0, 56, 0]
theorem reckW_ok {y : Int} (h : 0 ≤ y ∧ y < 65536) : WordsOk (reckW y) := fun n hn => by
  simp only [reckW, List.mem_cons, List.not_mem_nil, or_false] at hn
  omega
theorem reck_run (g : ByteArray) (x y : Int) : runM 1 g 100 (core0 (codeM (reckW y)) 0 [x, 0, 0, 0]) =
    (⟨setWord (codeM (reckW y)).frames (2, 0) ((x + y) % 65536), [], 12, [(x + y) % 65536, y, 16, (x + y) % 65536]⟩, ⟨2, g, 0, 0, 0, 0, 0⟩, 1, (x + y) % 65536) := by
  kernel_rfl
theorem reck_frame (y v : Int) : (setWord (codeM (reckW y)).frames (2, 0) v)[2]? = some ⟨1, 2, 3, [v, 0, 0, 0, 0, 0, 0, 0]⟩ := by kernel_rfl

/-- The programs that fault: what is picked, k of it. -/
def oddW (which : Nat) (k : Int) : List Int :=
  match which with
  | 0 => [17, 0, 261, 0]
  | 1 => [17, 0, 262, 0]
  | 2 => [17, 24 + k, 261, 0]
  | 3 => [17, 256 + k, 262, 0]
  | 4 => [17, 64 + k, 261, 0]
  | 5 => [10 + k, 0]
  | _ => [1, 0, 7, 16 + k]
def oddMany (which : Nat) : Nat :=
  match which with
  | 0 => 1
  | 1 => 1
  | 2 => 40
  | 3 => 1000
  | 4 => 24
  | 5 => 6
  | _ => 100
def faultB (g : ByteArray) (ws : List Int) : Bool := (runM 1 g 100 (core0 (codeM ws) 0 [1, 0, 0, 0])).2.2.1 == 3
theorem odd_0 (g : ByteArray) : faultB g (oddW 0 0) = true := by kernel_rfl
theorem odd_1 (g : ByteArray) : faultB g (oddW 1 0) = true := by kernel_rfl
theorem odd_2 (g : ByteArray) : (List.range 40).all (fun k => faultB g (oddW 2 (k : Nat))) = true := by kernel_rfl
theorem odd_3 (g : ByteArray) : (List.range 1000).all (fun k => faultB g (oddW 3 (k : Nat))) = true := by kernel_rfl
theorem odd_4 (g : ByteArray) : (List.range 24).all (fun k => faultB g (oddW 4 (k : Nat))) = true := by kernel_rfl
theorem odd_5 (g : ByteArray) : (List.range 6).all (fun k => faultB g (oddW 5 (k : Nat))) = true := by kernel_rfl
theorem odd_6 (g : ByteArray) : (List.range 100).all (fun k => faultB g (oddW 6 (k : Nat))) = true := by kernel_rfl
theorem all_range {n : Nat} {p : Nat → Bool} (h : (List.range n).all p = true) {k : Int} (h0 : 0 ≤ k) (h1 : k < n) : p k.toNat = true :=
  List.all_eq_true.1 h k.toNat (List.mem_range.2 (by omega))
theorem odd_all (g : ByteArray) (which : Nat) (h : which < 7) (k : Int) (h0 : 0 ≤ k) (h1 : k < oddMany which) : faultB g (oddW which k) = true := by
  have e : k = ((k.toNat : Nat) : Int) := by omega
  match which, h with
  | 0, _ => exact odd_0 g
  | 1, _ => exact odd_1 g
  | 2, _ => rw [e]; exact all_range (odd_2 g) h0 h1
  | 3, _ => rw [e]; exact all_range (odd_3 g) h0 h1
  | 4, _ => rw [e]; exact all_range (odd_4 g) h0 h1
  | 5, _ => rw [e]; exact all_range (odd_5 g) h0 h1
  | 6, _ => rw [e]; exact all_range (odd_6 g) h0 h1
theorem oddW_ok (which : Nat) (h : which < 7) (k : Int) (h0 : 0 ≤ k) (h1 : k < oddMany which) : WordsOk (oddW which k) := fun n hn => by
  match which, h with
  | 0, _ | 1, _ | 2, _ | 3, _ | 4, _ | 5, _ | 6, _ =>
    simp only [oddW, List.mem_cons, List.not_mem_nil, or_false] at hn
    simp only [oddMany] at h1
    omega

/-- What holds of a machine behind a fault. -/
theorem fault_state {g : ByteArray} {n : Nat} {c : CoreD} (h : (runM 1 g n c).2.2.1 = 3) : (runM 1 g n c).2.1 = ⟨4, g, 0, 0, 0, 0, 0⟩ ∧ (runM 1 g n c).2.2 = (3, 0) := by
  rcases runM_encl (e := 1) (g := g) n c with ⟨_, h2⟩ | h2 | ⟨_, v, h2⟩
  · rw [h2] at h; simp at h
  · exact h2
  · rw [h2] at h; simp at h
theorem broken_ask {M : MachD} (h : Good M) {y : EnclD} (hy : M.encl[0]? = some y) (hs : y.state = 4) {st : Int} (h1 : 0 ≤ st) (h4 : st ≠ 4) : askF M 1 st = 8 := by
  unfold askF
  rw [if_neg (by simpa using h.mf), show (1 : Int) = ((0 : Nat) : Int) + 1 by omega, enclOf_at (by omega) hy]
  simp only
  rw [if_neg (by omega), if_pos ⟨h1, by omega⟩]
theorem broken_enter {M : MachD} (h : Good M) {y : EnclD} (hy : M.encl[0]? = some y) (hs : y.state = 4) (word fuel : Int) : enterD M 1 word fuel = noRun 8 ∧ resumeD M 1 fuel = noRun 8 := by
  have h2 : mayF M 1 2 fuel = 8 := by rw [mayF, if_pos (by rw [broken_ask h hy hs (by omega) (by omega)]; omega), broken_ask h hy hs (by omega) (by omega)]
  have h3 : mayF M 1 3 fuel = 8 := by rw [mayF, if_pos (by rw [broken_ask h hy hs (by omega) (by omega)]; omega), broken_ask h hy hs (by omega) (by omega)]
  exact ⟨by rw [enterD, if_pos (by rw [h2]; omega), h2], by rw [resumeD, if_pos (by rw [h3]; omega), h3]⟩

end Go.Proofs.YtbamacddfonloaaDoor
