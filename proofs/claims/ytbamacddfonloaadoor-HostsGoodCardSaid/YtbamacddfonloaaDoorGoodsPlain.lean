/- A script of a plan, of raw acts and of entries, and one that ends in acts that are refused. Plain laws; no program is walked. -/
import Derived.Test.YtbamacddfonloaaDoorGt
import Derived.Test.YtbamacddfonloaaDoorGv
import Derived.Test.YtbamacddfonloaaDoorActsPlain
namespace Go.Proofs.YtbamacddfonloaaDoor
open Go.RowKit

/-- Entries, i rounds of them. -/
def rounds : Nat → List ActD
  | 0 => []
  | i + 1 => rounds i ++ [⟨8, 1, 0, 0, 0, (i : Nat), 20⟩, ⟨9, 1, 0, 0, 0, 0, 30⟩]
theorem rounds_len (i : Nat) : (rounds i).length = 2 * i := by
  induction i with
  | zero => rfl
  | succ i ih => rw [rounds, List.length_append, ih]; simp; omega
theorem rounds_look (i : Nat) : ∀ a ∈ rounds i, NoLook a := by
  induction i with
  | zero => intro a ha; simp [rounds] at ha
  | succ i ih =>
    intro a ha
    rw [rounds] at ha
    rcases List.mem_append.1 ha with ha | ha
    · exact ih a ha
    · simp only [List.mem_cons, List.not_mem_nil, or_false] at ha
      rcases ha with rfl | rfl
      · intro h; exact absurd (show (8 : Int) = 11 from h) (by omega)
      · intro h; exact absurd (show (9 : Int) = 11 from h) (by omega)
/-- Acts that are refused, the first of a kind that there is none of. -/
def badActs (k : Int) : List ActD := [⟨k, 0, 0, 0, 0, 0, 0⟩, ⟨4, 0, 0, 0, 0, 0, 0⟩, ⟨6, 0, 24, 0, 0, 0, 0⟩, ⟨11, 0, 0, -1, 0, 0, 0⟩, ⟨8, 5, 0, 0, 0, 0, 0⟩]
def badAns : List AnsD := [⟨3, 0⟩, ⟨5, 0⟩, ⟨2, 0⟩, ⟨5, 0⟩, ⟨5, 0⟩]
theorem badActs_look (k : Int) (hk : 12 ≤ k) : ∀ a ∈ badActs k, NoLook a := by
  intro a ha
  simp only [badActs, List.mem_cons, List.not_mem_nil, or_false] at ha
  rcases ha with rfl | rfl | rfl | rfl | rfl <;> intro h <;> simp only at h ⊢ <;> omega
theorem bad_runs {h : HostD} (hh : HostOk h) {k : Int} (hk : 12 ≤ k) : actsD h (badActs k) = (h, badAns) := by
  have e1 : actD h ⟨k, 0, 0, 0, 0, 0, 0⟩ = (h, ⟨3, 0⟩) := by
    unfold actD
    simp only
    rw [if_neg (by omega), if_neg (by omega), if_neg (by omega), if_neg (by omega), if_neg (by omega), if_neg (by omega), if_neg (by omega), if_neg (by omega), if_neg (by omega), if_neg (by omega), if_neg (by omega)]
  have a0 : ∀ (e st : Int), ¬ (1 ≤ e ∧ e ≤ 4) → askF h.m e st = 5 := fun e st he => by
    unfold askF
    rw [if_neg (by simpa using hh.1.mf), enclOf, if_neg he]
  have e2 : actD h ⟨4, 0, 0, 0, 0, 0, 0⟩ = (h, ⟨5, 0⟩) := by
    have : (startD h.m 0).2 = 5 := by rw [startD, if_pos (by rw [a0 0 1 (by omega)]; omega), a0 0 1 (by omega)]
    simp [actD, keepM, this]
  have e3 : actD h ⟨6, 0, 24, 0, 0, 0, 0⟩ = (h, ⟨2, 0⟩) := by
    have hw : wordF h.m 24 0 = 2 := by rw [wordF, if_neg (by simpa using hh.1.mf), if_pos (by omega)]
    have : (peekD h.m 24 0).2 = 2 := by rw [peekD, if_pos (by rw [hw]; omega), hw]
    simp [actD, keepM, this]
  have e4 : actD h ⟨11, 0, 0, -1, 0, 0, 0⟩ = (h, ⟨5, 0⟩) := by simp [actD]
  have e5 : actD h ⟨8, 5, 0, 0, 0, 0, 0⟩ = (h, ⟨5, 0⟩) := by
    have hm : mayF h.m 5 2 0 = 5 := by rw [mayF, if_pos (by rw [a0 5 2 (by omega)]; omega), a0 5 2 (by omega)]
    have : enterD h.m 5 0 0 = noRun 5 := by rw [enterD, if_pos (by rw [hm]; omega), hm]
    simp [actD, keepR, this, noRun]
  simp only [badActs, actsD, e1, e2, e3, e4, e5, badAns]

/-- The script: a plan, raw acts, entries. -/
def goodL (P : List PageD) (A : List ActD) : List ActD := planD P 1 0 ++ A ++ rounds 6
def goodH (P : List PageD) (A : List ActD) : HostD := (actsD ⟨newD, ⟨[], []⟩⟩ (goodL P A)).1
section
variable {P : List PageD} {A : List ActD}
theorem newH_ok : HostOk ⟨newD, ⟨[], []⟩⟩ := ⟨newD_good, show chalF ⟨[], []⟩ = 0 by decide⟩
theorem goodH_ok : HostOk (goodH P A) := actsD_ok _ newH_ok
theorem plan_len (hP : imageF P = 0) (h6 : P.length ≤ 6) (e fr : Int) : (planD P e fr).length ≤ 62 := by
  have h1 := pokesT_le (l := P) (fun x hx => PageOk.len (imgF_all hP x hx)) fr P.length
  have h2 := putsT_le P e fr P.length
  simp only [planD, List.length_append, List.length_cons, List.length_nil]
  omega
theorem goodL_len (hP : imageF P = 0) (h6 : P.length ≤ 6) (hA : A.length ≤ 60) : (goodL P A).length ≤ 134 := by
  have := plan_len hP h6 1 0
  have := rounds_len 6
  simp only [goodL, List.length_append]
  omega
theorem goodL_look (hA : ∀ a ∈ A, NoLook a) : ∀ a ∈ goodL P A, NoLook a := fun a ha => by
  simp only [goodL, List.mem_append] at ha
  rcases ha with (ha | ha) | ha
  · exact fun h => absurd h (planD_look a ha)
  · exact hA a ha
  · exact rounds_look 6 a ha
theorem good_script (hl : (goodL P A).length ≤ 134) : scriptD [] (goodL P A) = ⟨(actsD ⟨newD, ⟨[], []⟩⟩ (goodL P A)).2, (goodH P A).m, (goodH P A).c, 0⟩ := by
  have hs : scriptF [] (goodL P A) = 0 := by rw [scriptF, if_neg (by decide), if_neg (by omega)]
  rw [scriptD, hs, if_neg (by simp)]
  rfl
theorem good_script2 (hl : (goodL P A).length ≤ 134) {k : Int} (hk : 12 ≤ k) : scriptD [] (goodL P A ++ badActs k) = ⟨(actsD ⟨newD, ⟨[], []⟩⟩ (goodL P A)).2 ++ badAns, (goodH P A).m, (goodH P A).c, 0⟩ := by
  have hs : scriptF [] (goodL P A ++ badActs k) = 0 := by rw [scriptF, if_neg (by decide), if_neg (by rw [List.length_append]; simp [badActs]; omega)]
  rw [scriptD, hs, if_neg (by simp), actsD_append]
  have := bad_runs (h := goodH P A) goodH_ok hk
  rw [goodH] at this
  rw [this]
  rfl
theorem long_script (L : List ActD) (h : L.length = 201) : scriptD [] L = ⟨[], mach0, chal0, 1⟩ := by
  have hs : scriptF [] L = 1 := by rw [scriptF, if_neg (by decide), if_pos (by omega)]
  rw [scriptD, hs, if_pos (by simp)]
end

end Go.Proofs.YtbamacddfonloaaDoor
