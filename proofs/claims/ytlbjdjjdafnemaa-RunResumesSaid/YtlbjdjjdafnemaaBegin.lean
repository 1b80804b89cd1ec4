/- epc.begin and ref.asked, walked. Conditions: those that each contract writes. -/
import Derived.Test.YtlbjdjjdafnemaaFault
import Derived.Test.YtlbjdjjdafnemaaMachCopy
import Derived.Test.YtlbjdjjdafnemaaMachSet
namespace Go.Proofs.Ytlbjdjjdafnemaa
open Go.RowKit

def mach0 : MachD := ⟨[], [], []⟩
theorem mach0_at (w : World) : MachAt w (.agg #[.slice none 0 0, .slice none 0 0, .slice none 0 0]) mach0 :=
  ⟨none, 0, none, 0, none, 0, rfl, fun _ _ h => by simp [mach0] at h, fun _ _ h => by simp [mach0] at h, fun _ _ h => by simp [mach0] at h, by simp [mach0]⟩
theorem mach0_fits : mach0.Fits := ⟨by simp [mach0], by simp [mach0], by simp [mach0], fun _ _ h => by simp [mach0] at h⟩

def enclOf (M : MachD) (e : Int) : Option EnclD := if 1 ≤ e ∧ e ≤ 4 then M.encl[(e - 1).toNat]? else none
/-- What an act on an enclave refuses; a state below 0: any. -/
def askF (M : MachD) (e st : Int) : Int := if machF M ≠ 0 then machF M else match enclOf M e with
  | none => 5
  | some x => if x.state = 0 then 5 else if 0 ≤ st ∧ x.state ≠ st then 8 else 0
theorem machF_sizes {M : MachD} (h : machF M = 0) : M.frames.length = 24 ∧ M.encl.length = 4 ∧ M.quotes.length ≤ 40 := by
  unfold machF at h
  cases hs : sizeB M with
  | false => rw [hs] at h; simp at h
  | true => simpa [sizeB] using hs
theorem askF_cases (M : MachD) (e st : Int) : (machF M ≠ 0 ∧ askF M e st = machF M) ∨ (machF M = 0 ∧ ((e < 1 ∧ askF M e st = 5) ∨ (1 ≤ e ∧ 4 < e ∧ askF M e st = 5) ∨
    ∃ (k : Nat) (x : EnclD), e = (k : Int) + 1 ∧ k < 4 ∧ M.encl[k]? = some x ∧ ((x.state = 0 ∧ askF M e st = 5) ∨ (x.state ≠ 0 ∧ 0 ≤ st ∧ x.state ≠ st ∧ askF M e st = 8) ∨ (x.state ≠ 0 ∧ 0 ≤ st ∧ x.state = st ∧ askF M e st = 0) ∨ (x.state ≠ 0 ∧ ¬ 0 ≤ st ∧ askF M e st = 0)))) := by
  by_cases h0 : machF M = 0
  · refine .inr ⟨h0, ?_⟩
    obtain ⟨_, h4, _⟩ := machF_sizes h0
    by_cases h1 : e < 1
    · refine .inl ⟨h1, ?_⟩
      have h : ¬ (1 ≤ e ∧ e ≤ 4) := by omega
      simp [askF, h0, enclOf, h]
    by_cases h2 : 4 < e
    · refine .inr (.inl ⟨by omega, h2, ?_⟩)
      have h : ¬ (1 ≤ e ∧ e ≤ 4) := by omega
      simp [askF, h0, enclOf, h]
    obtain ⟨k, rfl⟩ : ∃ k : Nat, e = (k : Int) + 1 := ⟨(e - 1).toNat, by omega⟩
    have hk : k < 4 := by omega
    obtain ⟨x, hx⟩ : ∃ x, M.encl[k]? = some x := ⟨_, List.getElem?_eq_getElem (by omega)⟩
    have he : enclOf M ((k : Int) + 1) = some x := by
      have h : (1 : Int) ≤ (k : Int) + 1 ∧ (k : Int) + 1 ≤ 4 := by omega
      rw [enclOf, if_pos h, show ((k : Int) + 1 - 1).toNat = k by omega, hx]
    refine .inr (.inr ⟨k, x, rfl, hk, hx, ?_⟩)
    have hF : askF M ((k : Int) + 1) st = if x.state = 0 then 5 else if 0 ≤ st ∧ x.state ≠ st then 8 else 0 := by simp [askF, h0, he]
    rw [hF]
    by_cases h3 : x.state = 0
    · exact .inl ⟨h3, if_pos h3⟩
    rw [if_neg h3]
    by_cases h5 : 0 ≤ st
    · by_cases h6 : x.state = st
      · exact .inr (.inr (.inl ⟨h3, h5, h6, if_neg (fun h => h.2 h6)⟩))
      · exact .inr (.inl ⟨h3, h5, h6, if_pos ⟨h5, h6⟩⟩)
    · exact .inr (.inr (.inr ⟨h3, h5, if_neg (fun h => h5 h.1)⟩))
  · exact .inl ⟨h0, by simp [askF, h0]⟩

/-- What begin hands back. -/
def BeginRes (base : Nat) (M : MachD) (e st : Int) (w : World) (x : Ending) (w' : World) : Prop :=
  Below base w w' ∧ ((askF M e st ≠ 0 ∧ x = .returned (.tuple #[.agg #[.slice none 0 0, .slice none 0 0, .slice none 0 0], .pointer none, .int .i64 (askF M e st)])) ∨
  (askF M e st = 0 ∧ machF M = 0 ∧ ∃ (k : Nat) (y : EnclD) (f c1 g c2 : Nat) (qv : Value) (F : List (FrameD × Value)), e = (k : Int) + 1 ∧ k < 4 ∧ M.encl[k]? = some y ∧ y.state ≠ 0 ∧ (0 ≤ st → y.state = st) ∧
    x = .returned (.tuple #[.agg #[.slice (some ⟨f, 0, none⟩) 24 c1, .slice (some ⟨g, 0, none⟩) 4 c2, qv], .pointer (some ⟨g, k * 7, none⟩), .int .i64 0]) ∧ F.map Prod.fst = M.frames ∧ OwnMach base w' (.slice (some ⟨f, 0, none⟩) 24 c1) (.slice (some ⟨g, 0, none⟩) 4 c2) qv F M.encl M.quotes))
theorem BeginRes.no {base : Nat} {M : MachD} {e st : Int} {w w' : World} {r : Int} (h : askF M e st = r) (hr : r ≠ 0) (hb : Below base w w') : BeginRes base M e st w (.returned (.tuple #[.agg #[.slice none 0 0, .slice none 0 0, .slice none 0 0], .pointer none, .int .i64 r])) w' :=
  ⟨hb, .inl ⟨by rw [h]; exact hr, by rw [h]⟩⟩

end Go.Proofs.Ytlbjdjjdafnemaa
