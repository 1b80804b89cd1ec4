/- A script of a plan, of raw acts and of entries, and one that ends in acts that are refused. Plain laws; no program is walked.
What is measured of an enclave against the pages that it has: whoever owns the machine, a log that is the image's text tells just its pages. Plain laws; no program is walked. -/
import Derived.Test.YtbamacddfonloaaDoorGt
import Derived.Test.YtbamacddfonloaaDoorGv
import Derived.Test.YtbamacddfonloaaDoorActsPlain
import Derived.Test.YtbamacddfonloaaDoorGu
namespace Go.Proofs.YtbamacddfonloaaDoor
open Go.RowKit

/-- Entries, i rounds of them. -/
def rounds : Nat → List ActD
  | 0 => []
  | i + 1 => rounds i ++ [⟨8, 1, 0, 0, 0, (i : Nat), 20⟩, ⟨9, 1, 0, 0, 0, 0, 30⟩]
theorem rounds_len (i : Nat) : (rounds i).length = 2 * i := by
  induction i with
  | zero => rfl
  | succ i ih => rw [rounds, List.length_append, ih]; simp; omega
theorem rounds_look (i : Nat) : ∀ a ∈ rounds i, NoLook a := by
  induction i with
  | zero => intro a ha; simp [rounds] at ha
  | succ i ih =>
    intro a ha
    rw [rounds] at ha
    rcases List.mem_append.1 ha with ha | ha
    · exact ih a ha
    · simp only [List.mem_cons, List.not_mem_nil, or_false] at ha
      rcases ha with rfl | rfl
      · intro h; exact absurd (show (8 : Int) = 11 from h) (by omega)
      · intro h; exact absurd (show (9 : Int) = 11 from h) (by omega)
/-- Acts that are refused, the first of a kind that there is none of. -/
def badActs (k : Int) : List ActD := [⟨k, 0, 0, 0, 0, 0, 0⟩, ⟨4, 0, 0, 0, 0, 0, 0⟩, ⟨6, 0, 24, 0, 0, 0, 0⟩, ⟨11, 0, 0, -1, 0, 0, 0⟩, ⟨8, 5, 0, 0, 0, 0, 0⟩]
def badAns : List AnsD := [⟨3, 0⟩, ⟨5, 0⟩, ⟨2, 0⟩, ⟨5, 0⟩, ⟨5, 0⟩]
theorem badActs_look (k : Int) (hk : 12 ≤ k) : ∀ a ∈ badActs k, NoLook a := by
  intro a ha
  simp only [badActs, List.mem_cons, List.not_mem_nil, or_false] at ha
  rcases ha with rfl | rfl | rfl | rfl | rfl <;> intro h <;> simp only at h ⊢ <;> omega
theorem bad_runs {h : HostD} (hh : HostOk h) {k : Int} (hk : 12 ≤ k) : actsD h (badActs k) = (h, badAns) := by
  have e1 : actD h ⟨k, 0, 0, 0, 0, 0, 0⟩ = (h, ⟨3, 0⟩) := by
    unfold actD
    simp only
    rw [if_neg (by omega), if_neg (by omega), if_neg (by omega), if_neg (by omega), if_neg (by omega), if_neg (by omega), if_neg (by omega), if_neg (by omega), if_neg (by omega), if_neg (by omega), if_neg (by omega)]
  have a0 : ∀ (e st : Int), ¬ (1 ≤ e ∧ e ≤ 4) → askF h.m e st = 5 := fun e st he => by
    unfold askF
    rw [if_neg (by simpa using hh.1.mf), enclOf, if_neg he]
  have e2 : actD h ⟨4, 0, 0, 0, 0, 0, 0⟩ = (h, ⟨5, 0⟩) := by
    have : (startD h.m 0).2 = 5 := by rw [startD, if_pos (by rw [a0 0 1 (by omega)]; omega), a0 0 1 (by omega)]
    simp [actD, keepM, this]
  have e3 : actD h ⟨6, 0, 24, 0, 0, 0, 0⟩ = (h, ⟨2, 0⟩) := by
    have hw : wordF h.m 24 0 = 2 := by rw [wordF, if_neg (by simpa using hh.1.mf), if_pos (by omega)]
    have : (peekD h.m 24 0).2 = 2 := by rw [peekD, if_pos (by rw [hw]; omega), hw]
    simp [actD, keepM, this]
  have e4 : actD h ⟨11, 0, 0, -1, 0, 0, 0⟩ = (h, ⟨5, 0⟩) := by simp [actD]
  have e5 : actD h ⟨8, 5, 0, 0, 0, 0, 0⟩ = (h, ⟨5, 0⟩) := by
    have hm : mayF h.m 5 2 0 = 5 := by rw [mayF, if_pos (by rw [a0 5 2 (by omega)]; omega), a0 5 2 (by omega)]
    have : enterD h.m 5 0 0 = noRun 5 := by rw [enterD, if_pos (by rw [hm]; omega), hm]
    simp [actD, keepR, this, noRun]
  simp only [badActs, actsD, e1, e2, e3, e4, e5, badAns]

/-- The script: a plan, raw acts, entries. -/
def goodL (P : List PageD) (A : List ActD) : List ActD := planD P 1 0 ++ A ++ rounds 6
def goodH (P : List PageD) (A : List ActD) : HostD := (actsD ⟨newD, ⟨[], []⟩⟩ (goodL P A)).1
section
variable {P : List PageD} {A : List ActD}
theorem newH_ok : HostOk ⟨newD, ⟨[], []⟩⟩ := ⟨newD_good, show chalF ⟨[], []⟩ = 0 by decide⟩
theorem goodH_ok : HostOk (goodH P A) := actsD_ok _ newH_ok
theorem plan_len (hP : imageF P = 0) (h6 : P.length ≤ 6) (e fr : Int) : (planD P e fr).length ≤ 62 := by
  have h1 := pokesT_le (l := P) (fun x hx => PageOk.len (imgF_all hP x hx)) fr P.length
  have h2 := putsT_le P e fr P.length
  simp only [planD, List.length_append, List.length_cons, List.length_nil]
  omega
theorem goodL_len (hP : imageF P = 0) (h6 : P.length ≤ 6) (hA : A.length ≤ 60) : (goodL P A).length ≤ 134 := by
  have := plan_len hP h6 1 0
  have := rounds_len 6
  simp only [goodL, List.length_append]
  omega
theorem goodL_look (hA : ∀ a ∈ A, NoLook a) : ∀ a ∈ goodL P A, NoLook a := fun a ha => by
  simp only [goodL, List.mem_append] at ha
  rcases ha with (ha | ha) | ha
  · exact fun h => absurd h (planD_look a ha)
  · exact hA a ha
  · exact rounds_look 6 a ha
theorem good_script (hl : (goodL P A).length ≤ 134) : scriptD [] (goodL P A) = ⟨(actsD ⟨newD, ⟨[], []⟩⟩ (goodL P A)).2, (goodH P A).m, (goodH P A).c, 0⟩ := by
  have hs : scriptF [] (goodL P A) = 0 := by rw [scriptF, if_neg (by decide), if_neg (by omega)]
  rw [scriptD, hs, if_neg (by simp)]
  rfl
theorem good_script2 (hl : (goodL P A).length ≤ 134) {k : Int} (hk : 12 ≤ k) : scriptD [] (goodL P A ++ badActs k) = ⟨(actsD ⟨newD, ⟨[], []⟩⟩ (goodL P A)).2 ++ badAns, (goodH P A).m, (goodH P A).c, 0⟩ := by
  have hs : scriptF [] (goodL P A ++ badActs k) = 0 := by rw [scriptF, if_neg (by decide), if_neg (by rw [List.length_append]; simp [badActs]; omega)]
  rw [scriptD, hs, if_neg (by simp), actsD_append]
  have := bad_runs (h := goodH P A) goodH_ok hk
  rw [goodH] at this
  rw [this]
  rfl
theorem long_script (L : List ActD) (h : L.length = 201) : scriptD [] L = ⟨[], mach0, chal0, 1⟩ := by
  have hs : scriptF [] L = 1 := by rw [scriptF, if_neg (by decide), if_pos (by omega)]
  rw [scriptD, hs, if_pos (by simp)]
end

end Go.Proofs.YtbamacddfonloaaDoor

namespace Go.Proofs.YtbamacddfonloaaDoor
open Go.RowKit

def isPut : EvD → Bool
  | .put _ _ => true
  | .held _ _ => false
/-- A log's events against the frames that the enclave e has. -/
structure EvsI (F : List FrameD) (e : Int) (g : ByteArray) (E : List EvD) : Prop where
  ok : ∀ x ∈ E, EvOk x
  log : g = bytesOf (openL ++ E.flatMap evL)
  many : ownedBy e F = E.countP isPut
  put : ∀ p r, EvD.put p r ∈ E → ∃ (i : Nat) (x : FrameD), F[i]? = some x ∧ x.owner = e ∧ x.pl = p ∧ x.rights = r
  held : ∀ p ws, EvD.held p ws ∈ E → ∃ (i : Nat) (x : FrameD), F[i]? = some x ∧ x.owner = e ∧ x.pl = p ∧ x.words = ws
def LogI (M : MachD) : Prop := ∀ (k : Nat) (y : EnclD), M.encl[k]? = some y → y.state ≠ 0 → ∃ E, EvsI M.frames ((k : Int) + 1) y.log E
/-- Frames of others change. -/
theorem EvsI.keep {F F' : List FrameD} {e : Int} {g : ByteArray} {E : List EvD} (h : EvsI F e g E) (h1 : ∀ (i : Nat) (x : FrameD), F[i]? = some x → x.owner = e → F'[i]? = some x) (h2 : ownedBy e F' = ownedBy e F) : EvsI F' e g E :=
  ⟨h.ok, h.log, h2.trans h.many, fun p r hp => by
    obtain ⟨i, x, hx, ho, h3⟩ := h.put p r hp
    exact ⟨i, x, h1 i x hx ho, ho, h3⟩, fun p ws hp => by
    obtain ⟨i, x, hx, ho, h3⟩ := h.held p ws hp
    exact ⟨i, x, h1 i x hx ho, ho, h3⟩⟩
/-- One frame that nobody has is written. -/
theorem EvsI.set {F : List FrameD} {e : Int} {g : ByteArray} {E : List EvD} (h : EvsI F e g E) {f : Nat} {x y : FrameD} (hx : F[f]? = some x) (h0 : x.owner ≠ e) (h1 : y.owner ≠ e) : EvsI (F.set f y) e g E :=
  h.keep (fun i z hz ho => by
    rw [List.getElem?_set_ne]
    · exact hz
    · rintro rfl
      rw [hx] at hz
      obtain rfl := Option.some.inj hz
      exact h0 ho) (by rw [ownedBy_set hx h0, if_neg h1, Nat.add_zero])
theorem log_more {g : ByteArray} {E : List EvD} (h : g = bytesOf (openL ++ E.flatMap evL)) (x : EvD) : g ++ bytesOf (evL x) = bytesOf (openL ++ (E ++ [x]).flatMap evL) := by
  rw [h, bytesOf_append, List.flatMap_append, List.append_assoc]
  simp
/-- A page is put. -/
theorem EvsI.more {F : List FrameD} {e : Int} {g : ByteArray} {E : List EvD} (h : EvsI F e g E) (he : e ≠ 0) {f : Nat} {x : FrameD} (hx : F[f]? = some x) (h0 : x.owner = 0) {p r : Int} (hp : 0 ≤ p ∧ 0 ≤ r) :
    EvsI (F.set f (ownF e p r x)) e (g ++ bytesOf (addedL p r)) (E ++ [.put p r]) := by
  have hne : x.owner ≠ e := by rw [h0]; exact fun h => he h.symm
  have hfl := (List.getElem?_eq_some_iff.1 hx).1
  have old : ∀ (i : Nat) (z : FrameD), F[i]? = some z → z.owner = e → (F.set f (ownF e p r x))[i]? = some z := fun i z hz ho => by
    rw [List.getElem?_set_ne]
    · exact hz
    · rintro rfl
      rw [hx] at hz
      obtain rfl := Option.some.inj hz
      exact hne ho
  refine ⟨fun z hz => ?_, log_more h.log (.put p r), ?_, fun p' r' hz => ?_, fun p' ws hz => ?_⟩
  · rcases List.mem_append.1 hz with hz | hz
    · exact h.ok z hz
    · obtain rfl := List.mem_singleton.1 hz
      exact hp
  · rw [ownedBy_set hx hne, if_pos (show (ownF e p r x).owner = e from rfl), h.many, List.countP_append]
    rfl
  · rcases List.mem_append.1 hz with hz | hz
    · obtain ⟨i, z, h1, h2, h3⟩ := h.put p' r' hz
      exact ⟨i, z, old i z h1 h2, h2, h3⟩
    · obtain ⟨rfl, rfl⟩ := EvD.put.inj (List.mem_singleton.1 hz)
      exact ⟨f, _, List.getElem?_set_self hfl, rfl, rfl, rfl⟩
  · rcases List.mem_append.1 hz with hz | hz
    · obtain ⟨i, z, h1, h2, h3⟩ := h.held p' ws hz
      exact ⟨i, z, old i z h1 h2, h2, h3⟩
    · cases List.mem_singleton.1 hz
/-- A page's words are measured. -/
theorem EvsI.told {F : List FrameD} {e : Int} {g : ByteArray} {E : List EvD} (h : EvsI F e g E) {f : Nat} {x : FrameD} (hx : F[f]? = some x) (h0 : x.owner = e) (hp : 0 ≤ x.pl ∧ ∀ n ∈ x.words, 0 ≤ n) :
    EvsI F e (g ++ bytesOf (heldL x.pl x.words)) (E ++ [.held x.pl x.words]) := by
  refine ⟨fun z hz => ?_, log_more h.log (.held x.pl x.words), ?_, fun p' r' hz => ?_, fun p' ws hz => ?_⟩
  · rcases List.mem_append.1 hz with hz | hz
    · exact h.ok z hz
    · obtain rfl := List.mem_singleton.1 hz
      exact hp
  · rw [h.many, List.countP_append]
    rfl
  · rcases List.mem_append.1 hz with hz | hz
    · exact h.put p' r' hz
    · cases List.mem_singleton.1 hz
  · rcases List.mem_append.1 hz with hz | hz
    · exact h.held p' ws hz
    · obtain ⟨rfl, rfl⟩ := EvD.held.inj (List.mem_singleton.1 hz)
      exact ⟨f, x, hx, h0, rfl, rfl⟩

theorem createD_log {M : MachD} (h : Good M) (hi : LogI M) (h0 : (createD M).2.2 = 0) : LogI (createD M).1 := by
  unfold createD at h0 ⊢
  have hm := h.mf
  by_cases h1 : firstEmpty M < 0
  · rw [if_neg (by simpa using hm), if_pos h1] at h0; simp at h0
  · rw [if_neg (by simpa using hm), if_neg h1]
    have hge : -1 ≤ firstEmpty M := findI_ge
    obtain ⟨i, hfi⟩ : ∃ i : Nat, firstEmpty M = i := ⟨(firstEmpty M).toNat, by omega⟩
    obtain ⟨y, hy, hs⟩ := findI_get (p := fun x : EnclD => x.state == 0) (l := M.encl) (i := i) hfi
    have hs : y.state = 0 := by simpa using hs
    rw [hfi, Int.toNat_natCast]
    intro k z hz hzs
    rcases get_set hz with ⟨e1, rfl⟩ | ⟨_, hz⟩
    · subst e1
      refine ⟨[], fun x hx => by simp at hx, ?_, ?_, fun p r hp => by simp at hp, fun p r hp => by simp at hp⟩
      · show openLog = _
        rw [openLog_bytes]
        simp
      · show ownedBy _ M.frames = 0
        rw [ownedBy, List.countP_eq_zero]
        intro x hx hb
        have ho : x.owner = (i : Int) + 1 := by simpa using hb
        obtain ⟨j, hj⟩ := List.getElem?_of_mem hx
        have := (h.f j x hj).own (by omega)
        rw [ho, stateAt, show ((i : Int) + 1 - 1).toNat = i by omega, hy] at this
        exact this hs
    · exact hi k z hz hzs
theorem startD_log {M : MachD} {e : Int} (hi : LogI M) (h0 : (startD M e).2 = 0) : LogI (startD M e).1 := by
  unfold startD at h0 ⊢
  by_cases h1 : askF M e 1 = 0
  · rw [if_neg (by simpa using h1)]
    obtain ⟨_, k, y, rfl, hk, hy, hs, hst⟩ := askF_zero h1
    show LogI ⟨M.frames, upd M.encl _ _, M.quotes⟩
    rw [show ((k : Int) + 1 - 1).toNat = k by omega, upd_some hy]
    intro j z hz hzs
    rcases get_set hz with ⟨e1, rfl⟩ | ⟨_, hz⟩
    · subst e1
      exact hi k y hy hs
    · exact hi j z hz hzs
  · rw [if_pos h1] at h0; exact absurd h0 h1
theorem measD_log {M : MachD} {e p : Int} (h : Good M) (hi : LogI M) (h0 : (measD M e p).2 = 0) : LogI (measD M e p).1 := by
  unfold measD at h0 ⊢
  by_cases h1 : measF M e p = 0
  · rw [if_neg (by simpa using h1)]
    unfold measF at h1
    by_cases h2 : askF M e 1 = 0
    · rw [if_neg (by simpa using h2)] at h1
      by_cases h3 : placeF M.frames e p < 0
      · rw [if_pos h3] at h1; omega
      obtain ⟨_, k, y, rfl, hk, hy, hs, hst⟩ := askF_zero h2
      obtain ⟨f, hf⟩ : ∃ f : Nat, placeF M.frames ((k : Int) + 1) p = f := ⟨(placeF M.frames ((k : Int) + 1) p).toNat, by omega⟩
      obtain ⟨x, hx, ho, _, hpl⟩ := placeF_get hf
      have hho : heldOf M ((k : Int) + 1) p = heldL x.pl x.words := by rw [heldOf, hf, frameOf, Int.toNat_natCast, hx, hpl]; rfl
      show LogI ⟨M.frames, upd M.encl _ _, M.quotes⟩
      rw [show ((k : Int) + 1 - 1).toNat = k by omega, upd_some hy, hho]
      intro j z hz hzs
      rcases get_set hz with ⟨e1, rfl⟩ | ⟨_, hz⟩
      · subst e1
        obtain ⟨E, hE⟩ := hi k y hy hs
        have hfx := h.f f x hx
        exact ⟨_, hE.told hx ho ⟨hfx.pl.1, fun n hn => (hfx.w n hn).1⟩⟩
      · exact hi j z hz hzs
    · rw [if_pos h2] at h1; exact absurd h1 h2
  · rw [if_pos h1] at h0; exact absurd h0 h1
theorem putD_log {M : MachD} {e f p r : Int} (h : Good M) (hi : LogI M) (h0 : (putD M e f p r).2 = 0) : LogI (putD M e f p r).1 := by
  unfold putD at h0 ⊢
  by_cases h1 : putF M e f p r = 0
  · rw [if_neg (by simpa using h1)]
    unfold putF at h1
    by_cases h2 : askF M e 1 = 0
    · rw [if_neg (by simpa using h2)] at h1
      by_cases h3 : f < 0 ∨ 24 ≤ f
      · rw [if_pos h3] at h1; omega
      rw [if_neg h3] at h1
      by_cases h4 : addF p r = 0
      · rw [if_neg (by simpa using h4)] at h1
        by_cases h5 : (frameOf M f).owner ≠ 0 ∨ 0 ≤ placeF M.frames e p
        · rw [if_pos h5] at h1; omega
        obtain ⟨_, k, y, rfl, hk, hy, hs, hst⟩ := askF_zero h2
        obtain ⟨i, rfl⟩ : ∃ i : Nat, f = i := ⟨f.toNat, by omega⟩
        obtain ⟨x, hx⟩ : ∃ x, M.frames[i]? = some x := ⟨_, List.getElem?_eq_getElem (by rw [h.fl]; omega)⟩
        have hx0 : x.owner = 0 := by
          have : frameOf M (i : Int) = x := by simp [frameOf, hx]
          rw [this] at h5
          omega
        have hpr : (0 ≤ p ∧ p ≤ 7) ∧ (0 ≤ r ∧ r ≤ 7) := by
          unfold addF at h4
          by_cases hh : (inR p 0 7 && inR r 0 7) = true
          · simpa [inR] using hh
          · rw [if_neg hh] at h4; omega
        show LogI ⟨upd M.frames _ _, upd M.encl _ _, M.quotes⟩
        rw [show ((k : Int) + 1 - 1).toNat = k by omega, upd_some hy, Int.toNat_natCast, upd_some hx]
        intro j z hz hzs
        rcases get_set hz with ⟨e1, rfl⟩ | ⟨hne, hz⟩
        · subst e1
          obtain ⟨E, hE⟩ := hi k y hy hs
          exact ⟨_, hE.more (by omega) hx hx0 ⟨hpr.1.1, hpr.2.1⟩⟩
        · obtain ⟨E, hE⟩ := hi j z hz hzs
          exact ⟨E, hE.set hx (by omega) (by simp only [ownF]; omega)⟩
      · rw [if_pos h4] at h1; omega
    · rw [if_pos h2] at h1; exact absurd h1 h2
  · rw [if_pos h1] at h0; exact absurd h0 h1
theorem pokeD_log {M : MachD} {f p n : Int} (h : Good M) (hi : LogI M) (h0 : (pokeD M f p n).2 = 0) : LogI (pokeD M f p n).1 := by
  unfold pokeD at h0 ⊢
  by_cases h1 : wordF M f p = 0
  · rw [if_neg (by simpa using h1)] at h0 ⊢
    by_cases h2 : n < 0 ∨ 65535 < n
    · rw [if_pos h2] at h0; simp at h0
    rw [if_neg h2]
    by_cases h3 : (frameOf M f).owner = 0
    · rw [if_pos h3]
      unfold wordF at h1
      rw [if_neg (by simpa using h.mf)] at h1
      by_cases h4 : f < 0 ∨ 24 ≤ f ∨ p < 0 ∨ 8 ≤ p
      · rw [if_pos h4] at h1; omega
      obtain ⟨i, rfl⟩ : ∃ i : Nat, f = i := ⟨f.toNat, by omega⟩
      obtain ⟨x, hx⟩ : ∃ x, M.frames[i]? = some x := ⟨_, List.getElem?_eq_getElem (by rw [h.fl]; omega)⟩
      have hx0 : x.owner = 0 := by
        have : frameOf M (i : Int) = x := by simp [frameOf, hx]
        rw [this] at h3
        exact h3
      show LogI ⟨upd M.frames _ _, M.encl, M.quotes⟩
      rw [Int.toNat_natCast, upd_some hx]
      intro j z hz hzs
      obtain ⟨E, hE⟩ := hi j z hz hzs
      exact ⟨E, hE.set hx (by omega) (by simp only; omega)⟩
    · rw [if_neg h3]; exact hi
  · rw [if_pos h1] at h0; exact absurd h0 h1
theorem removeD_log {M : MachD} {e : Int} (hi : LogI M) (h0 : (removeD M e).2 = 0) : LogI (removeD M e).1 := by
  unfold removeD at h0 ⊢
  by_cases h1 : askF M e (-1) = 0
  · rw [if_neg (by simpa using h1)]
    obtain ⟨_, k, y, rfl, hk, hy, hs, _⟩ := askF_zero h1
    rw [show ((k : Int) + 1 - 1).toNat = k by omega]
    intro j z hz hzs
    rcases get_set hz with ⟨_, rfl⟩ | ⟨hne, hz⟩
    · exact absurd rfl hzs
    · obtain ⟨E, hE⟩ := hi j z hz hzs
      refine ⟨E, hE.keep (fun i x hx ho => ?_) ?_⟩
      · simp only [List.getElem?_map, hx, Option.map_some]
        rw [if_neg (by omega)]
      · show ownedBy _ (M.frames.map _) = _
        rw [ownedBy, ownedBy, List.countP_map]
        refine List.countP_congr fun x _ => ?_
        simp only [Function.comp, beq_iff_eq]
        split
        · rename_i hx
          simp only [bare]
          omega
        · rfl
  · rw [if_pos h1] at h0; exact absurd h0 h1
/-- An act of who owns the machine alone. -/
def OwnAct (a : ActD) : Prop := 1 ≤ a.kind ∧ a.kind ≤ 7
theorem keepM_log {h : HostD} {m : MachD} {n c : Int} (hh : LogI h.m) (hm : c = 0 → LogI m) : LogI (keepM h m n c).1.m := by
  unfold keepM
  split
  · exact hh
  · rename_i h0
    exact hm (by simpa using h0)
theorem actD_log {h : HostD} {a : ActD} (hk : OwnAct a) (hg : HostOk h) (hh : LogI h.m) : LogI (actD h a).1.m := by
  unfold OwnAct at hk
  unfold actD
  by_cases h1 : a.kind = 1
  · rw [if_pos h1]; exact keepM_log hh (createD_log hg.1 hh)
  rw [if_neg h1]
  by_cases h2 : a.kind = 2
  · rw [if_pos h2]; exact keepM_log hh (putD_log hg.1 hh)
  rw [if_neg h2]
  by_cases h3 : a.kind = 3
  · rw [if_pos h3]; exact keepM_log hh (measD_log hg.1 hh)
  rw [if_neg h3]
  by_cases h4 : a.kind = 4
  · rw [if_pos h4]; exact keepM_log hh (startD_log hh)
  rw [if_neg h4]
  by_cases h5 : a.kind = 5
  · rw [if_pos h5]; exact keepM_log hh (removeD_log hh)
  rw [if_neg h5]
  by_cases h6 : a.kind = 6
  · rw [if_pos h6]; exact keepM_log hh (fun _ => hh)
  rw [if_neg h6]
  rw [if_pos (by omega)]; exact keepM_log hh (pokeD_log hg.1 hh)
theorem actsD_log (L : List ActD) {h : HostD} (hk : ∀ a ∈ L, OwnAct a) (hg : HostOk h) (hh : LogI h.m) : LogI (actsD h L).1.m := by
  induction L generalizing h with
  | nil => exact hh
  | cons a l ih => exact ih (fun b hb => hk b (List.mem_cons_of_mem _ hb)) (actD_ok a hg) (actD_log (hk a (List.mem_cons_self ..)) hg hh)
theorem newD_log : LogI newD := by
  intro k y hy hs
  simp only [newD] at hy
  rw [List.getElem?_replicate] at hy
  split at hy
  · obtain rfl := Option.some.inj hy
    exact absurd rfl hs
  · cases hy
theorem evsOf_puts (L : List PageD) : (evsOf L).countP isPut = L.length := by
  induction L with
  | nil => rfl
  | cons p L ih =>
    have e : evsOf (p :: L) = .put p.pl p.rights :: .held p.pl p.words :: evsOf L := rfl
    rw [e, List.countP_cons, List.countP_cons, ih]
    rfl
/-- Who is measured as expected has just the pages that are expected. -/
theorem meas_has {M : MachD} (h : Good M) (hi : LogI M) {L : List PageD} (hL : imageF L = 0) {k : Nat} {y : EnclD} (hy : M.encl[k]? = some y) (hs : y.state = 2) (hl : y.log = bytesOf (expectL L)) : HasD M ((k : Int) + 1) L := by
  obtain ⟨E, hE⟩ := hi k y hy (by omega)
  have e1 : E = evsOf L := by
    have h1 := hE.log.symm.trans hl
    rw [expectL_evs] at h1
    exact evs_inj hE.ok (evsOf_ok hL) (List.append_cancel_left (bytesOf_inj h1))
  subst e1
  refine ⟨by rw [hE.many, evsOf_puts], fun i p hp => ?_⟩
  have hmem := List.mem_of_getElem? hp
  obtain ⟨j, x, hx, ho, hpl, hr⟩ := hE.put p.pl p.rights (List.mem_flatMap.2 ⟨p, hmem, by simp⟩)
  obtain ⟨j', x', hx', ho', hpl', hw⟩ := hE.held p.pl p.words (List.mem_flatMap.2 ⟨p, hmem, by simp⟩)
  have hjj : j = j' := by
    by_cases hne : j = j'
    · exact hne
    · exact absurd ⟨by rw [ho, ho'], by rw [hpl, hpl']⟩ (h.u j j' x x' hne hx hx' (by omega))
  subst hjj
  obtain rfl : x = x' := Option.some.inj (hx.symm.trans hx')
  have := place_of h hx (by omega)
  rw [ho, hpl] at this
  exact ⟨j, x, this, hx, hr, hw⟩

/-- The script: a plan cut in two, with acts of who owns the machine between and behind. -/
def measL (P : List ActD) (k : Nat) (A B : List ActD) : List ActD := P.take k ++ A ++ P.drop k ++ B
theorem planD_own {L : List PageD} {e fr : Int} : ∀ a ∈ planD L e fr, OwnAct a := by
  intro a ha
  unfold OwnAct
  simp only [planD, pokesT, putsT, List.mem_append, List.mem_flatten, List.mem_singleton] at ha
  rcases ha with ((⟨K, hK, ha⟩ | rfl) | ⟨K, hK, ha⟩) | rfl
  · obtain ⟨i, _, rfl⟩ := List.mem_mapIdx.1 hK
    simp only [pokesW] at ha
    obtain ⟨j, _, rfl⟩ := List.mem_mapIdx.1 ha
    simp [pokeA]
  · simp [createA]
  · obtain ⟨i, _, rfl⟩ := List.mem_mapIdx.1 hK
    simp only [putsOf, List.mem_cons, List.not_mem_nil, or_false] at ha
    rcases ha with rfl | rfl <;> simp
  · simp [startA]
theorem actsOf_own (l : List RawD) (most : Nat) (ms : Bool) : ∀ a ∈ actsOf l most ms, OwnAct a := by
  intro a ha
  obtain ⟨x, _, rfl⟩ := List.mem_map.1 ha
  exact actT_kind x ms
section
variable {L : List PageD} {A B : List ActD} {fr : Int} {k : Nat}
theorem measL_own (hA : ∀ a ∈ A, OwnAct a) (hB : ∀ a ∈ B, OwnAct a) : ∀ a ∈ measL (planD L 1 fr) k A B, OwnAct a := by
  intro a ha
  simp only [measL, List.mem_append] at ha
  rcases ha with ((ha | ha) | ha) | ha
  · exact planD_own a (List.mem_of_mem_take ha)
  · exact hA a ha
  · exact planD_own a (List.mem_of_mem_drop ha)
  · exact hB a ha
theorem measL_len (hL : imageF L = 0) (h6 : L.length ≤ 6) (hA : A.length ≤ 15) (hB : B.length ≤ 15) : (measL (planD L 1 fr) k A B).length ≤ 92 := by
  have := plan_len hL h6 1 fr
  simp only [measL, List.length_append, List.length_take, List.length_drop]
  omega
theorem meas_script {K : List ActD} (hl : K.length ≤ 200) : scriptD [] K = ⟨(actsD ⟨newD, ⟨[], []⟩⟩ K).2, (actsD ⟨newD, ⟨[], []⟩⟩ K).1.m, (actsD ⟨newD, ⟨[], []⟩⟩ K).1.c, 0⟩ := by
  have hs : scriptF [] K = 0 := by rw [scriptF, if_neg (by decide), if_neg (by omega)]
  rw [scriptD, hs, if_neg (by simp)]
theorem meas_ends {K : List ActD} (hK : ∀ a ∈ K, OwnAct a) : Good (actsD ⟨newD, ⟨[], []⟩⟩ K).1.m ∧ LogI (actsD ⟨newD, ⟨[], []⟩⟩ K).1.m :=
  ⟨(actsD_ok K newH_ok).1, actsD_log K hK newH_ok newD_log⟩
end

end Go.Proofs.YtbamacddfonloaaDoor
