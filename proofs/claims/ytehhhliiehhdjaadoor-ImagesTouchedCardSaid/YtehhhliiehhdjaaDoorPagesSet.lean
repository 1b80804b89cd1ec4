/- A row of pages in memory of its own, one part of it written: what it reads as then. Plain laws; no program is walked. -/
import Derived.Test.YtehhhliiehhdjaaDoorMachSet
import Derived.Test.YtehhhliiehhdjaaDoorImagesPlain
namespace Go.Proofs.YtehhhliiehhdjaaDoor
open Go.RowKit

section
variable {base : Nat} {W : World} {ov : Value} {F : List (PageD × Value)}
/-- A page's rights are written. -/
theorem pages_setR {g m c i : Nat} {x : PageD} {wv : Value} {n : Int} (h : OwnPages base W (.slice (some ⟨g, 0, none⟩) m c) F) (hm : F.length = m) (hx : F[i]? = some (x, wv)) :
    OwnPages base (W.setCell ⟨g, i * 3 + 1, none⟩ (.int .i64 n)) (.slice (some ⟨g, 0, none⟩) m c) (F.set i ({ x with rights := n }, wv)) := by
  subst hm
  have hs := (h.row.stored (i * 3 + 1) (.int .i64 n)).1
  rw [flat_set pcs 3 pcs_len F i 1 (x, wv) ({ x with rights := n }, wv) (.int .i64 n) hx (by decide) rfl] at hs
  have hg : ∀ {v : Value}, Apart v (.slice (some ⟨g, 0, none⟩) F.length c) → NotAt v g := fun ha k hk e => ha k hk (by rw [e]; rfl)
  have hget : ∀ (k : Nat) (p : PageD × Value), (F.set i ({ x with rights := n }, wv))[k]? = some p → ∃ q, F[k]? = some q ∧ p.2 = q.2 ∧ p.1.words = q.1.words := fun k p hp => by
    by_cases hk : i = k
    · subst hk
      rw [List.getElem?_set_self (List.getElem?_eq_some_iff.1 hx).1] at hp
      cases hp
      exact ⟨_, hx, rfl, rfl⟩
    · rw [List.getElem?_set_ne hk] at hp
      exact ⟨p, hp, rfl, rfl⟩
  refine ⟨by rw [List.length_set]; exact hs, fun k p hp => ?_, fun k l p q hkl hp hq => ?_⟩
  · obtain ⟨q, hq, e2, e1⟩ := hget k p hp
    obtain ⟨h1, h2⟩ := h.sub k q hq
    rw [e2, e1]
    exact ⟨ownsRow_setAt h1 (hg h2) _ _, h2⟩
  · obtain ⟨p', hp', e2, _⟩ := hget k p hp
    obtain ⟨q', hq', f2, _⟩ := hget l q hq
    rw [e2, f2]
    exact h.dis k l p' q' hkl hp' hq'
/-- A page's word is written. -/
theorem pages_setW {g m c i k : Nat} {x : PageD} {n : Int} (h : OwnPages base W ov F) (hm : x.words.length = m) (hx : F[i]? = some (x, .slice (some ⟨g, 0, none⟩) m c)) :
    OwnPages base (W.setCell ⟨g, k, none⟩ (.int .i64 n)) ov (F.set i ({ x with words := x.words.set k n }, .slice (some ⟨g, 0, none⟩) m c)) := by
  subst hm
  obtain ⟨ho, ha⟩ := h.sub i _ hx
  have hs := (ho.stored k (.int .i64 n)).1
  rw [intCells_set] at hs
  have hg : ∀ {v : Value}, Apart (.slice (some ⟨g, 0, none⟩) x.words.length c) v → NotAt v g := fun ha k hk e => ha g rfl (by rw [hk, e])
  have hlen : i < F.length := (List.getElem?_eq_some_iff.1 hx).1
  have hget : ∀ (l : Nat) (p : PageD × Value), (F.set i ({ x with words := x.words.set k n }, .slice (some ⟨g, 0, none⟩) x.words.length c))[l]? = some p →
      (i = l ∧ p = ({ x with words := x.words.set k n }, .slice (some ⟨g, 0, none⟩) x.words.length c)) ∨ (i ≠ l ∧ F[l]? = some p) := fun l p hp => by
    by_cases hk : i = l
    · subst hk
      rw [List.getElem?_set_self hlen] at hp
      exact .inl ⟨rfl, (Option.some.inj hp).symm⟩
    · rw [List.getElem?_set_ne hk] at hp
      exact .inr ⟨hk, hp⟩
  have hv : ∀ (l : Nat) (p : PageD × Value), (F.set i ({ x with words := x.words.set k n }, .slice (some ⟨g, 0, none⟩) x.words.length c))[l]? = some p → ∃ q, F[l]? = some q ∧ p.2 = q.2 := fun l p hp => by
    rcases hget l p hp with ⟨rfl, rfl⟩ | ⟨_, hq⟩
    · exact ⟨_, hx, rfl⟩
    · exact ⟨p, hq, rfl⟩
  have hrow : (F.set i ({ x with words := x.words.set k n }, .slice (some ⟨g, 0, none⟩) x.words.length c)).flatMap pcs = F.flatMap pcs := by
    rw [← flat_set pcs 3 pcs_len F i 2 _ ({ x with words := x.words.set k n }, .slice (some ⟨g, 0, none⟩) x.words.length c) (.slice (some ⟨g, 0, none⟩) x.words.length c) hx (by decide) rfl]
    apply List.ext_getElem?
    intro r
    by_cases hr : r = i * 3 + 2
    · subst hr
      have := flat_get pcs 3 pcs_len F i 2 (by decide)
      rw [hx] at this
      rw [this, List.getElem?_set_self (by rw [flat_len pcs 3 pcs_len]; omega)]
      rfl
    · rw [List.getElem?_set_ne (fun e => hr e.symm)]
  refine ⟨?_, fun l p hp => ?_, fun l r p q hlr hp hq => ?_⟩
  · rw [hrow, List.length_set]
    exact ownsRow_setAt h.row (hg ha) _ _
  · rcases hget l p hp with ⟨rfl, rfl⟩ | ⟨hne, hq⟩
    · refine ⟨?_, ha⟩
      simp only [List.length_set]
      exact hs
    · obtain ⟨h1, h2⟩ := h.sub l p hq
      exact ⟨ownsRow_setAt h1 (hg (h.dis i l _ p hne hx hq)) _ _, h2⟩
  · obtain ⟨p', hp', e2⟩ := hv l p hp
    obtain ⟨q', hq', f2⟩ := hv r q hq
    rw [e2, f2]
    exact h.dis l r p' q' hlr hp' hq'
end

/-! XOR of numbers. -/
theorem xor_nat (m k : Nat) (hm : m < 2 ^ 16) (hk : k < 2 ^ 16) : bits .xor .i64 (m : Int) (k : Int) = ((m ^^^ k : Nat) : Int) := by
  have hl : m ^^^ k < 2 ^ 16 := Nat.xor_lt_two_pow hm hk
  have e1 : (BitVec.ofInt 64 (m : Int)).toNat = m := by rw [BitVec.toNat_ofInt]; omega
  have e2 : (BitVec.ofInt 64 (k : Int)).toNat = k := by rw [BitVec.toNat_ofInt]; omega
  show IntKind.i64.wrap ((BitVec.ofInt 64 (m : Int) ^^^ BitVec.ofInt 64 (k : Int)).toNat : Int) = _
  rw [BitVec.toNat_xor, e1, e2, IntKind.wrap_i64]
  omega
theorem xor_other (m k : Nat) (hk : 0 < k) : m ^^^ k ≠ m := fun e => by
  have h : m ^^^ (m ^^^ k) = m ^^^ m := by rw [e]
  rw [← Nat.xor_assoc, Nat.xor_self, Nat.zero_xor] at h
  omega
/-- A number and its XOR with another one that is not 0, below 2^j. -/
theorem xor_small (j : Nat) (hj : j ≤ 16) {a d : Int} (a0 : 0 ≤ a) (a1 : a < 2 ^ j) (d0 : 0 < d) (d1 : d < 2 ^ j) : 0 ≤ bits .xor .i64 a d ∧ bits .xor .i64 a d < 2 ^ j ∧ bits .xor .i64 a d ≠ a := by
  obtain ⟨m, rfl⟩ : ∃ m : Nat, a = m := ⟨a.toNat, by omega⟩
  obtain ⟨k, rfl⟩ : ∃ k : Nat, d = k := ⟨d.toNat, by omega⟩
  have hm : m < 2 ^ j := by exact_mod_cast a1
  have hk : k < 2 ^ j := by exact_mod_cast d1
  have h16 : (2 : Nat) ^ j ≤ 2 ^ 16 := Nat.pow_le_pow_right (by decide) hj
  have hl : m ^^^ k < 2 ^ j := Nat.xor_lt_two_pow hm hk
  have hne := xor_other m k (by omega)
  rw [xor_nat m k (by omega) (by omega)]
  exact ⟨by omega, by exact_mod_cast hl, by omega⟩

/-! Images that were touched. -/
def SeqD (B : List PageD) : Prop := ∀ (i : Nat) (x : PageD), B[i]? = some x → x.pl = ((0 + i : Nat) : Int) ∧ PageOk x
theorem SeqD.good {B : List PageD} (h : SeqD B) : imageF B = 0 := imgF_seq 0 none h (.inl rfl)
theorem SeqD.set {B : List PageD} (h : SeqD B) {i : Nat} {x x' : PageD} (hx : B[i]? = some x) (hp : x'.pl = x.pl) (hk : PageOk x') : SeqD (B.set i x') := fun k y hy => by
  by_cases e : i = k
  · subst e
    rw [List.getElem?_set_self (List.getElem?_eq_some_iff.1 hx).1] at hy
    cases hy
    exact ⟨by rw [hp]; exact (h i x hx).1, hk⟩
  · rw [List.getElem?_set_ne e] at hy
    exact h k y hy
theorem SeqD.take {B : List PageD} (h : SeqD B) (n : Nat) : SeqD (B.take n) := fun k y hy => by
  rw [List.getElem?_take] at hy
  split at hy
  · exact h k y hy
  · cases hy
theorem set_other {B : List PageD} {i : Nat} {x x' : PageD} (hx : B[i]? = some x) (hne : x' ≠ x) : B.set i x' ≠ B := fun e => by
  have h := List.getElem?_set_self (l := B) (a := x') (List.getElem?_eq_some_iff.1 hx).1
  rw [e, hx] at h
  exact hne (Option.some.inj h).symm
theorem take_other {B : List PageD} (h : 0 < B.length) : B.take (B.length - 1) ≠ B := fun e => by
  have := congrArg List.length e
  rw [List.length_take] at this
  omega
theorem page_word {x : PageD} (h : PageOk x) {q : Nat} (hq : q < 8) : ∃ n, x.words[q]? = some n ∧ 0 ≤ n ∧ n ≤ 65535 := by
  obtain ⟨_, _, h3⟩ := pageF_zero h
  have hl := wordsB_len h3
  exact ⟨_, List.getElem?_eq_getElem (by omega), wordsB_in h3 _ (List.getElem_mem _)⟩
theorem page_setW {x : PageD} (h : PageOk x) (q : Nat) {v : Int} (hv : 0 ≤ v ∧ v ≤ 65535) : PageOk { x with words := x.words.set q v } := by
  obtain ⟨h1, h2, h3⟩ := pageF_zero h
  refine page_ok h1 h2 (by show (x.words.set q v).length = 8; rw [List.length_set]; exact wordsB_len h3) (fun n hn => ?_)
  rcases List.mem_or_eq_of_mem_set hn with h | rfl
  · exact wordsB_in h3 n h
  · exact hv
theorem page_setR {x : PageD} (h : PageOk x) {v : Int} (hv : 0 ≤ v ∧ v ≤ 7) : PageOk { x with rights := v } := by
  obtain ⟨h1, h2, h3⟩ := pageF_zero h
  exact page_ok h1 hv (wordsB_len h3) (wordsB_in h3)
theorem pages_take {W : World} {a : Option Addr} {l : List PageD} (h : PagesAt W a l) (n : Nat) : PagesAt W a (l.take n) := fun i x hx => by
  rw [List.getElem?_take] at hx
  split at hx
  · exact h i x hx
  · cases hx

end Go.Proofs.YtehhhliiehhdjaaDoor
