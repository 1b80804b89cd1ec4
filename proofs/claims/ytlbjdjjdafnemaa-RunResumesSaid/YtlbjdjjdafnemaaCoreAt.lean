/- run's core.at, walked: a pointer to the word at an address, or nil. Conditions: those that each contract writes. -/
import Derived.Test.YtlbjdjjdafnemaaRunOk
import Derived.Test.YtlbjdjjdafnemaaMachSet
import Derived.StillTailTactics
namespace Go.Proofs.Ytlbjdjjdafnemaa
open Go.RowKit

def AtRes (F : List (FrameD × Value)) (e n right : Int) (w : World) (x : Ending) (w' : World) : Prop :=
  Below w.heap.size w w' ∧ ((cellOf (F.map Prod.fst) e n right = none ∧ x = .returned (.pointer none)) ∨
    ∃ (i k : Nat) (y : FrameD) (g c : Nat), cellOf (F.map Prod.fst) e n right = some (i, k) ∧ F[i]? = some (y, .slice (some ⟨g, 0, none⟩) 8 c) ∧ k < 8 ∧ x = .returned (.pointer (some ⟨g, k, none⟩)))

set_option maxRecDepth 10000 in
set_option maxHeartbeats 800000 in
theorem coreAt_hi (base cb mb f c1 : Nat) (ev qv : Value) (F : List (FrameD × Value)) (E : List EnclD) (Q : List QuoteD) (e n right : Int) (w : World) (hO : OwnMach base w (.slice (some ⟨f, 0, none⟩) 24 c1) ev qv F E Q) (hl : F.length = 24)
    (h8 : ∀ (i : Nat) (p : FrameD × Value), F[i]? = some p → p.1.words.length = 8) (k0 : w.cell? ⟨cb, 0, none⟩ = some (.pointer (some ⟨mb, 0, none⟩))) (m0 : w.cell? ⟨mb, 0, none⟩ = some (.slice (some ⟨f, 0, none⟩) 24 c1)) (h64 : 64 ≤ n) (hn : n ≤ 1000000) :
    Calls Try.prog 31 #[.pointer (some ⟨cb, 0, none⟩), .int .i64 n, .int .i64 right] w (AtRes F e n right w) := by
  have HO := hid hO
  have HL := hid hl
  have H8 := hid h8
  clear hO hl h8
  have HF : Hid (cellOf (F.map Prod.fst) e n right = if right = 4 then none else match (F.map Prod.fst)[((n - 64) / 8).toNat]? with
    | some x => if x.owner = 0 then some (((n - 64) / 8).toNat, (n % 8).toNat) else none
    | none => none) := by show cellOf _ _ _ _ = _; rw [cellOf, if_pos h64]; rfl
  have q0 : 0 ≤ (n - 64) / 8 := by omega
  have hm : 0 ≤ n % 8 := by omega
  have hm8 : n % 8 < 8 := by omega
  by_cases h4 : right = 4
  · subst h4
    have HD : Hid (cellOf (F.map Prod.fst) e n 4 = none) := by show _ = _; rw [HF.out, if_pos rfl]
    clear HF
    go_enter Try.func31, Try.ntmps31
    go_wp2_with fail
    go_ret
    exact ⟨Below.refl _ _, .inl ⟨HD.out, rfl⟩⟩
  · have h4b : (right == 4) = false := by rw [beq_eq_false_iff_ne]; exact h4
    rw [if_neg h4] at HF
    clear h4
    by_cases hlt : (n - 64) / 8 < 24
    · obtain ⟨i, hi⟩ : ∃ i : Nat, (n - 64) / 8 = i := ⟨((n - 64) / 8).toNat, by omega⟩
      have hi24 : (i : Int) < 24 := by omega
      obtain ⟨⟨y, wv⟩, hy⟩ : ∃ p, F[i]? = some p := ⟨_, List.getElem?_eq_getElem (by rw [HL.out]; omega)⟩
      have hy8 := H8.out i _ hy
      simp only at hy8
      have o3 := (HO.out.f.sub i _ hy).1
      simp only [hy8] at o3
      obtain ⟨g, c, rfl, _, _⟩ := own_some o3 (by decide)
      obtain ⟨s0, _, _, s3, _⟩ := HO.out.frameAt hy
      simp only at s0 s3
      have HF2 : Hid (cellOf (F.map Prod.fst) e n right = if y.owner = 0 then some (i, (n % 8).toNat) else none) := by
        show _ = _
        rw [HF.out, hi, Int.toNat_natCast, List.getElem?_map, hy]
        rfl
      have HY := hid hy
      clear hy HF o3 hy8
      obtain ⟨k, hk⟩ : ∃ k : Nat, n % 8 = k := ⟨(n % 8).toNat, by omega⟩
      rw [hk, Int.toNat_natCast] at HF2
      by_cases ho : y.owner = 0
      · have hob : (y.owner != 0) = false := by simp [ho]
        have HD : Hid (cellOf (F.map Prod.fst) e n right = some (i, k)) := by show _ = _; rw [HF2.out, if_pos ho]
        have hk8 : k < 8 := by omega
        clear ho HF2
        go_enter Try.func31, Try.ntmps31
        go_wp2_with fail
        go_ret
        exact ⟨Below.refl _ _, .inr ⟨i, k, y, g, c, HD.out, HY.out, hk8, rfl⟩⟩
      · have hob : (y.owner != 0) = true := by simp [ho]
        have HD : Hid (cellOf (F.map Prod.fst) e n right = none) := by show _ = _; rw [HF2.out, if_neg ho]
        clear ho HF2
        go_enter Try.func31, Try.ntmps31
        go_wp2_with fail
        go_ret
        exact ⟨Below.refl _ _, .inl ⟨HD.out, rfl⟩⟩
    · have hlb : decide (24 ≤ (n - 64) / 8) = true := by rw [decide_eq_true_iff]; omega
      have HD : Hid (cellOf (F.map Prod.fst) e n right = none) := by show _ = _; rw [HF.out, List.getElem?_eq_none (by rw [List.length_map, HL.out]; omega)]
      clear HF
      go_enter Try.func31, Try.ntmps31
      go_wp2_with fail
      go_ret
      exact ⟨Below.refl _ _, .inl ⟨HD.out, rfl⟩⟩

set_option maxRecDepth 10000 in
set_option maxHeartbeats 800000 in
theorem coreAt_lo (base cb mb f c1 : Nat) (ev qv : Value) (F : List (FrameD × Value)) (E : List EnclD) (Q : List QuoteD) (e n right : Int) (w : World) (hO : OwnMach base w (.slice (some ⟨f, 0, none⟩) 24 c1) ev qv F E Q) (hl : F.length = 24)
    (h8 : ∀ (i : Nat) (p : FrameD × Value), F[i]? = some p → p.1.words.length = 8 ∧ 0 ≤ p.1.rights ∧ p.1.rights ≤ 7) (k0 : w.cell? ⟨cb, 0, none⟩ = some (.pointer (some ⟨mb, 0, none⟩))) (k1 : w.cell? ⟨cb, 1, none⟩ = some (.int .i64 e)) (m0 : w.cell? ⟨mb, 0, none⟩ = some (.slice (some ⟨f, 0, none⟩) 24 c1))
    (m1 : w.cell? ⟨mb, 1, none⟩ = some ev) (m2 : w.cell? ⟨mb, 2, none⟩ = some qv) (h64 : n < 64) (hn : 0 ≤ n) (hr : right = 1 ∨ right = 2 ∨ right = 4) :
    Calls Try.prog 31 #[.pointer (some ⟨cb, 0, none⟩), .int .i64 n, .int .i64 right] w (AtRes F e n right w) := by
  obtain ⟨ea, ec, rfl⟩ := own_slice hO.e
  obtain ⟨qa, qc, rfl⟩ := own_slice hO.q
  have HO := hid hO
  have HL := hid hl
  have H8 := hid h8
  have HR := hid hr
  obtain ⟨fa, fc, hfe, hFr⟩ := hO.f.frames
  obtain ⟨rfl, h24, rfl⟩ := Value.slice.inj hfe
  have HFr := hid hFr
  clear hO hl h8 hr hFr hfe h24
  have HF : Hid (cellOf (F.map Prod.fst) e n right = if placeF (F.map Prod.fst) e (n / 8) < 0 then none else match (F.map Prod.fst)[(placeF (F.map Prod.fst) e (n / 8)).toNat]? with
    | some x => if hasR x.rights right then some ((placeF (F.map Prod.fst) e (n / 8)).toNat, (n % 8).toNat) else none
    | none => none) := by show cellOf _ _ _ _ = _; rw [cellOf, if_neg (by omega)]; rfl
  have hm : 0 ≤ n % 8 := by omega
  have hm8 : n % 8 < 8 := by omega
  go_enter Try.func31, Try.ntmps31
  go_wp2_with fail
  go_still_tail 12, (by kernel_rfl)
  change wpList _ _ _ _ _ w.drew
  go_wp2_with fail
  refine (epcPlace (some ⟨f, 0, none⟩) (F.map Prod.fst) 24 c1 _ _ e (n / 8) _ (by rw [List.length_map, HL.out]) (by omega) (HFr.out.mono (below_drew w))).mono ?_
  rintro x w1 ⟨rfl, hb1⟩
  have B1 : Below w.heap.size w w1 := (below_drew w).trans (hb1.mono (by go_size))
  have k0 := cell_later B1 k0
  have m0 := cell_later B1 m0
  have HO := hid (HO.out.below B1)
  have hP : placeF (F.map Prod.fst) e (n / 8) < 24 := by have := findI_lt (p := fitsB e (n / 8)) (l := F.map Prod.fst); rw [List.length_map, HL.out] at this; exact this
  clear hb1 HFr k1 m1 m2
  generalize placeF (F.map Prod.fst) e (n / 8) = P at HF hP ⊢
  by_cases h0 : P < 0
  · have HD : Hid (cellOf (F.map Prod.fst) e n right = none) := by show _ = _; rw [HF.out, if_pos h0]
    clear HF
    go_wp2_with fail
    go_ret
    exact ⟨B1, .inl ⟨HD.out, rfl⟩⟩
  · obtain ⟨i, rfl⟩ : ∃ i : Nat, P = i := ⟨P.toNat, by omega⟩
    obtain ⟨⟨y, wv⟩, hy⟩ : ∃ p, F[i]? = some p := ⟨_, List.getElem?_eq_getElem (by rw [HL.out]; omega)⟩
    obtain ⟨hy8, hr0, hr7⟩ := H8.out i _ hy
    simp only at hy8 hr0 hr7
    have o3 := (HO.out.f.sub i _ hy).1
    simp only [hy8] at o3
    obtain ⟨g, c, rfl, _, _⟩ := own_some o3 (by decide)
    obtain ⟨_, _, s2, s3, _⟩ := HO.out.frameAt hy
    simp only at s2 s3
    have HF2 : Hid (cellOf (F.map Prod.fst) e n right = if hasR y.rights right then some (i, (n % 8).toNat) else none) := by
      show _ = _
      rw [HF.out, if_neg h0, Int.toNat_natCast, List.getElem?_map, hy]
      rfl
    have HY := hid hy
    have hA := and_right y.rights right hr0 hr7 HR.out
    clear hy HF o3 hy8 hr0 hr7
    obtain ⟨k, hk⟩ : ∃ k : Nat, n % 8 = k := ⟨(n % 8).toNat, by omega⟩
    rw [hk, Int.toNat_natCast] at HF2
    have hi24 : (i : Int) < 24 := by omega
    have h0b : decide ((i : Int) < 0) = false := by rw [decide_eq_false_iff_not]; exact h0
    cases hB : hasR y.rights right
    · have HD : Hid (cellOf (F.map Prod.fst) e n right = none) := by show _ = _; rw [HF2.out, hB]; rfl
      have hA2 : (bits .and .i64 y.rights right == 0) = true := by rw [hA, hB]; rfl
      clear HF2 hA
      go_wp2_with fail
      go_ret
      exact ⟨B1, .inl ⟨HD.out, rfl⟩⟩
    · have HD : Hid (cellOf (F.map Prod.fst) e n right = some (i, k)) := by show _ = _; rw [HF2.out, hB]; rfl
      have hA2 : (bits .and .i64 y.rights right == 0) = false := by rw [hA, hB]; rfl
      have hk8 : k < 8 := by omega
      clear HF2 hA
      go_wp2_with fail
      go_ret
      exact ⟨B1, .inr ⟨i, k, y, g, c, HD.out, HY.out, hk8, rfl⟩⟩

end Go.Proofs.Ytlbjdjjdafnemaa
