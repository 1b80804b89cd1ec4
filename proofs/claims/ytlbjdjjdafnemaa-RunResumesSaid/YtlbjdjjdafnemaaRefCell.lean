/- ref.cellOf, walked. Conditions: those that the contract writes. -/
import Derived.Test.YtlbjdjjdafnemaaRunOk
namespace Go.Proofs.Ytlbjdjjdafnemaa
open Go.RowKit

/-- A call tells which frame, which word, and whether it may be touched. -/
def CellRes (L : List FrameD) (e n right : Int) (w : World) (x : Ending) (w' : World) : Prop :=
  ∃ (f i : Int) (ok : Bool), x = .returned (.tuple #[.int .i64 f, .int .i64 i, .bool ok]) ∧ (∀ c, cellOf L e n right = some c → ok = true ∧ f = c.1 ∧ i = c.2) ∧ (cellOf L e n right = none → ok = false) ∧ Below w.heap.size w w'
theorem CellRes.no {L : List FrameD} {e n right : Int} {w w' : World} {f i : Int} (h : cellOf L e n right = none) (hb : Below w.heap.size w w') : CellRes L e n right w (.returned (.tuple #[.int .i64 f, .int .i64 i, .bool false])) w' :=
  ⟨f, i, false, rfl, fun c hc => (by rw [h] at hc; cases hc), fun _ => rfl, hb⟩
theorem CellRes.yes {L : List FrameD} {e n right : Int} {w w' : World} {f i : Int} {c : Nat × Nat} (h : cellOf L e n right = some c) (hf : f = c.1) (hi : i = c.2) (hb : Below w.heap.size w w') : CellRes L e n right w (.returned (.tuple #[.int .i64 f, .int .i64 i, .bool true])) w' :=
  ⟨f, i, true, rfl, fun d hd => (by rw [h] at hd; cases hd; exact ⟨rfl, hf, hi⟩), fun hn => (by rw [h] at hn; cases hn), hb⟩

set_option maxRecDepth 10000 in
set_option maxHeartbeats 800000 in
theorem refCell_hi (fa : Option Addr) (L : List FrameD) (fc : Nat) (ev qv : Value) (e n right : Int) (w : World) (hl : L.length = 24) (hc : FramesAt w fa L) (h64 : 64 ≤ n) (hn : n ≤ 1000000) :
    Calls Try.prog 21 #[.agg #[.slice fa 24 fc, ev, qv], .int .i64 e, .int .i64 n, .int .i64 right] w (CellRes L e n right w) := by
  have HC := hid hc
  have HL := hid hl
  clear hc hl
  have B0 : ∀ X, Below w.heap.size w (w.alloc X) := fun X => by go_grown
  have HF : Hid (cellOf L e n right = if right = 4 then none else match L[((n - 64) / 8).toNat]? with
    | some x => if x.owner = 0 then some (((n - 64) / 8).toNat, (n % 8).toNat) else none
    | none => none) := by show cellOf _ _ _ _ = _; rw [cellOf, if_pos h64]; rfl
  by_cases h4 : right = 4
  · subst h4
    have HD : Hid (cellOf L e n 4 = none) := by show _ = _; rw [HF.out, if_pos rfl]
    clear HF
    go_enter Try.func21, Try.ntmps21
    go_wp2_with fail
    go_quiet (fail)
    go_wp2_with fail
    exact bodyPost_ret (v := .tuple #[.int .i64 ((n - 64) / 8), .int .i64 (n % 8), .bool false]) (by simp [results, Try.results21, go_sem]) rfl (CellRes.no HD.out (below_drewN (B0 _) _))
  · have h4b : (right != 4) = true := by rw [bne_iff_ne]; exact h4
    rw [if_neg h4] at HF
    clear h4
    have q0 : 0 ≤ (n - 64) / 8 := by omega
    by_cases hlt : (n - 64) / 8 < 24
    · obtain ⟨x, hx⟩ : ∃ x, L[((n - 64) / 8).toNat]? = some x := ⟨_, List.getElem?_eq_getElem (by rw [HL.out]; omega)⟩
      have HF2 : Hid (cellOf L e n right = if x.owner = 0 then some (((n - 64) / 8).toNat, (n % 8).toNat) else none) := by show _ = _; rw [HF.out, hx]
      obtain ⟨b, off, wa, wc, rfl, k0, _⟩ := HC.out _ x hx
      clear hx HF
      obtain ⟨i, hi⟩ : ∃ i : Nat, (n - 64) / 8 = i := ⟨((n - 64) / 8).toNat, by omega⟩
      have HI := hid hi
      have hm : 0 ≤ n % 8 := by omega
      have hi24 : (i : Int) < 24 := by omega
      rw [hi, Int.toNat_natCast] at k0
      have hkb := World.block_lt_of_cell? _ _ k0
      simp only at hkb
      by_cases ho : x.owner = 0
      · have hob : (x.owner == 0) = true := by simp [ho]
        have HD : Hid (cellOf L e n right = some (((n - 64) / 8).toNat, (n % 8).toNat)) := by show _ = _; rw [HF2.out, if_pos ho]
        clear ho HF2
        go_enter Try.func21, Try.ntmps21
        go_wp2_with fail
        go_quiet (fail)
        go_wp2_with fail
        exact bodyPost_ret (v := .tuple #[.int .i64 ((n - 64) / 8), .int .i64 (n % 8), .bool true]) (by simp [results, Try.results21, go_sem]) rfl (CellRes.yes HD.out (by simp only; omega) (by simp only; omega) (below_drewN (B0 _) _))
      · have hob : (x.owner == 0) = false := by simp [ho]
        have HD : Hid (cellOf L e n right = none) := by show _ = _; rw [HF2.out, if_neg ho]
        clear ho HF2
        go_enter Try.func21, Try.ntmps21
        go_wp2_with fail
        go_quiet (fail)
        go_wp2_with fail
        exact bodyPost_ret (v := .tuple #[.int .i64 ((n - 64) / 8), .int .i64 (n % 8), .bool false]) (by simp [results, Try.results21, go_sem]) rfl (CellRes.no HD.out (below_drewN (B0 _) _))
    · have HD : Hid (cellOf L e n right = none) := by show _ = _; rw [HF.out, List.getElem?_eq_none (by rw [HL.out]; omega)]
      have hlb : decide ((n - 64) / 8 < 24) = false := by rw [decide_eq_false_iff_not]; exact hlt
      clear HF
      go_enter Try.func21, Try.ntmps21
      go_wp2_with fail
      go_quiet (fail)
      go_wp2_with fail
      exact bodyPost_ret (v := .tuple #[.int .i64 ((n - 64) / 8), .int .i64 (n % 8), .bool false]) (by simp [results, Try.results21, go_sem]) rfl (CellRes.no HD.out (below_drewN (B0 _) _))

set_option maxRecDepth 10000 in
set_option maxHeartbeats 800000 in
theorem refCell_lo (fa : Option Addr) (L : List FrameD) (fc : Nat) (ev qv : Value) (e n right : Int) (w : World) (hl : L.length = 24) (hc : FramesAt w fa L) (h64 : n < 64) (hn : 0 ≤ n) (hr : right = 1 ∨ right = 2 ∨ right = 4)
    (hR : ∀ (i : Nat) (x : FrameD), L[i]? = some x → 0 ≤ x.rights ∧ x.rights ≤ 7) :
    Calls Try.prog 21 #[.agg #[.slice fa 24 fc, ev, qv], .int .i64 e, .int .i64 n, .int .i64 right] w (CellRes L e n right w) := by
  have HC := hid hc
  have HL := hid hl
  have HRR := hid hR
  clear hc hl hR
  have B0 : ∀ X, Below w.heap.size w (w.alloc X) := fun X => by go_grown
  have HF : Hid (cellOf L e n right = if placeF L e (n / 8) < 0 then none else match L[(placeF L e (n / 8)).toNat]? with
    | some x => if hasR x.rights right then some ((placeF L e (n / 8)).toNat, (n % 8).toNat) else none
    | none => none) := by show cellOf _ _ _ _ = _; rw [cellOf, if_neg (by omega)]; rfl
  go_enter Try.func21, Try.ntmps21
  go_wp2_with fail
  refine (refPlace fa L 24 fc ev qv e (n / 8) _ HL.out (by omega) (HC.out.mono (B0 _))).mono ?_
  rintro x w1 ⟨rfl, hb1⟩
  have p0 : w1.cell? ⟨w.heap.size, 0, none⟩ = some (.slice fa 24 fc) := by rw [(bcell hb1).1 _ _ (by go_size)]; go_simp
  have B1 : Below w.heap.size w w1 := (B0 _).trans (hb1.mono (by go_size))
  clear hb1 B0
  have hP : placeF L e (n / 8) < 24 := by have := findI_lt (p := fitsB e (n / 8)) (l := L); rw [HL.out] at this; exact this
  generalize placeF L e (n / 8) = P at HF hP ⊢
  have hm : 0 ≤ n % 8 := by omega
  by_cases h0 : P < 0
  · have HD : Hid (cellOf L e n right = none) := by show _ = _; rw [HF.out, if_pos h0]
    clear HF
    go_wp2_with fail
    exact bodyPost_ret (v := .tuple #[.int .i64 0, .int .i64 0, .bool false]) (by simp [results, Try.results21, go_sem]) rfl (CellRes.no HD.out B1)
  · obtain ⟨i, rfl⟩ : ∃ i : Nat, P = i := ⟨P.toNat, by omega⟩
    obtain ⟨x, hx⟩ : ∃ x, L[i]? = some x := ⟨_, List.getElem?_eq_getElem (by rw [HL.out]; omega)⟩
    have HF2 : Hid (cellOf L e n right = if hasR x.rights right then some (i, (n % 8).toNat) else none) := by show _ = _; rw [HF.out, if_neg h0, Int.toNat_natCast, hx]
    obtain ⟨b, off, wa, wc, rfl, _, _, k2, _⟩ := HC.out _ x hx
    obtain ⟨hr0, hr7⟩ := HRR.out i x hx
    have l2 := cell_later B1 k2
    clear hx HF k2
    generalize x.rights = r at HF2 hr0 hr7 l2
    have hi24 : (i : Int) < 24 := by omega
    rcases hr with rfl | rfl | rfl
    · cases hB : (r % 2 == 1)
      all_goals
        have HV : Hid (hasR r 1 = (r % 2 == 1)) := by show hasR r 1 = _; simp [hasR]
        rw [HV.out, hB] at HF2
        go_wp2_with fail
        first
          | exact bodyPost_ret (v := .tuple #[.int .i64 i, .int .i64 (n % 8), .bool false]) (by simp [results, Try.results21, go_sem]) rfl (CellRes.no HF2.out B1)
          | exact bodyPost_ret (v := .tuple #[.int .i64 i, .int .i64 (n % 8), .bool true]) (by simp [results, Try.results21, go_sem]) rfl (CellRes.yes HF2.out rfl (by simp only; omega) B1)
    · cases hB : (r / 2 % 2 == 1)
      all_goals
        have HV : Hid (hasR r 2 = (r / 2 % 2 == 1)) := by show hasR r 2 = _; simp [hasR]
        rw [HV.out, hB] at HF2
        go_wp2_with fail
        first
          | exact bodyPost_ret (v := .tuple #[.int .i64 i, .int .i64 (n % 8), .bool false]) (by simp [results, Try.results21, go_sem]) rfl (CellRes.no HF2.out B1)
          | exact bodyPost_ret (v := .tuple #[.int .i64 i, .int .i64 (n % 8), .bool true]) (by simp [results, Try.results21, go_sem]) rfl (CellRes.yes HF2.out rfl (by simp only; omega) B1)
    · cases hB : (r / 4 == 1)
      all_goals
        have HV : Hid (hasR r 4 = (r / 4 == 1)) := by show hasR r 4 = _; simp only [hasR]; rw [if_neg (by decide), if_neg (by decide), show r / 4 % 2 = r / 4 by omega]
        rw [HV.out, hB] at HF2
        go_wp2_with fail
        first
          | exact bodyPost_ret (v := .tuple #[.int .i64 i, .int .i64 (n % 8), .bool false]) (by simp [results, Try.results21, go_sem]) rfl (CellRes.no HF2.out B1)
          | exact bodyPost_ret (v := .tuple #[.int .i64 i, .int .i64 (n % 8), .bool true]) (by simp [results, Try.results21, go_sem]) rfl (CellRes.yes HF2.out rfl (by simp only; omega) B1)

end Go.Proofs.Ytlbjdjjdafnemaa
