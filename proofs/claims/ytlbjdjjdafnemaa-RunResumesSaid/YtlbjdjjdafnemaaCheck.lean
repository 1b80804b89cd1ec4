/- epc.Check, walked. Conditions: those that each contract writes. -/
import Derived.Test.YtlbjdjjdafnemaaFrame
namespace Go.Proofs.Ytlbjdjjdafnemaa
open Go.RowKit

def frAll (E : List EnclD) : List FrameD → List FrameD → Bool
  | _, [] => true
  | pre, f :: l => frB E pre f && frAll E (pre ++ [f]) l
def sizeB (M : MachD) : Bool := decide (M.frames.length = 24) && (decide (M.encl.length = 4) && decide (M.quotes.length ≤ 40))
def machB (M : MachD) : Bool := M.encl.all enclB && (frAll M.encl [] M.frames && M.quotes.all quoteB)
def machF (M : MachD) : Int := if sizeB M then (if machB M then 0 else 8) else 1

theorem frAll_step {E : List EnclD} {l : List FrameD} {i : Nat} {x : FrameD} (hx : l[i]? = some x) : frAll E (l.take i) (l.drop i) = (frB E (l.take i) x && frAll E (l.take (i + 1)) (l.drop (i + 1))) := by
  have hi : i < l.length := (List.getElem?_eq_some_iff.1 hx).1
  have e : l[i] = x := by rw [List.getElem?_eq_getElem hi] at hx; exact Option.some.inj hx
  rw [List.drop_eq_getElem_cons hi, e, frAll, List.take_add_one, hx]
  rfl
theorem all_not_any {α : Type} (p : α → Bool) (l : List α) : l.all p = !(l.any fun x => !p x) := by
  induction l with
  | nil => rfl
  | cons x l ih => simp [ih]

set_option maxRecDepth 10000 in
set_option maxHeartbeats 3200000 in
theorem epcCheck_size (v : Value) (M : MachD) (w : World) (hv : MachAt w v M) (hs : sizeB M = false) : Calls Try.prog 17 #[v] w fun e w' => e = .returned (.int .i64 (machF M)) ∧ Below w.heap.size w w' := by
  obtain ⟨fa, fc, ea, ec, qa, qc, rfl, _, _, _, _⟩ := hv
  have HF : Hid (machF M = 1) := by show machF M = 1; simp [machF, hs]
  have B0 : ∀ X, Below w.heap.size w (w.alloc X) := fun X => by go_grown
  obtain ⟨n, hn⟩ : ∃ n, M.frames.length = n := ⟨_, rfl⟩
  obtain ⟨m, hm⟩ : ∃ m, M.encl.length = m := ⟨_, rfl⟩
  obtain ⟨k, hk⟩ : ∃ k, M.quotes.length = k := ⟨_, rfl⟩
  simp only [sizeB, hn, hm, hk] at hs
  rw [hn, hm, hk]
  clear hn hm hk
  by_cases h1 : n = 24
  · subst h1
    by_cases h2 : m = 4
    · subst h2
      have h3 : (40 : Int) < (k : Int) := by simp at hs; omega
      clear hs
      go_enter Try.func17, Try.ntmps17
      go_wp2_with fail
      go_ret
      exact ⟨by rw [HF.out]; rfl, B0 _⟩
    · have h2b : ((m : Int) != 4) = true := by rw [bne_iff_ne]; omega
      clear hs
      go_enter Try.func17, Try.ntmps17
      go_wp2_with fail
      go_ret
      exact ⟨by rw [HF.out]; rfl, B0 _⟩
  · have h1b : ((n : Int) != 24) = true := by rw [bne_iff_ne]; omega
    clear hs
    go_enter Try.func17, Try.ntmps17
    go_wp2_with fail
    go_ret
    exact ⟨by rw [HF.out]; rfl, B0 _⟩

set_option maxRecDepth 10000 in
set_option maxHeartbeats 3200000 in
theorem epcCheck_ok (v : Value) (M : MachD) (w : World) (hv : MachAt w v M) (hf : M.Fits) (hs : sizeB M = true) : Calls Try.prog 17 #[v] w fun e w' => e = .returned (.int .i64 (machF M)) ∧ Below w.heap.size w w' := by
  have HV := hid hv
  obtain ⟨fa, fc, ea, ec, qa, qc, rfl, hF, hE, hQ, hfc⟩ := hv
  have HM : Hid (machF M = if machB M then 0 else 8) := by show machF M = _; simp [machF, hs]
  have hs' := hs
  simp only [sizeB, Bool.and_eq_true, decide_eq_true_eq] at hs'
  obtain ⟨hn, hm, hk⟩ := hs'
  have HN := hid hn
  have HE4 := hid hm
  have HF := hid hF
  have HE := hid hE
  have HQ := hid hQ
  rw [hn, hm] at HV ⊢
  clear hF hE hQ hn hm hfc hs
  have B0 : ∀ X, Below w.heap.size w (w.alloc X) := fun X => by go_grown
  go_enter Try.func17, Try.ntmps17
  go_wp2_with fail
  refine (containsFuncEncls 23 #[] ea M.encl 4 ec (fun x => !enclB x) _ (by omega) HE4.out enters_check1 (HE.out.mono (B0 _)) (fun i x _ W hW => check1_any x W)).mono ?_
  rintro e w1 ⟨rfl, hb1⟩
  have p0 : w1.cell? ⟨w.heap.size, 0, none⟩ = some (.slice fa 24 fc) := by rw [(bcell hb1).1 _ _ (by go_size)]; go_simp
  have p1 : w1.cell? ⟨w.heap.size, 1, none⟩ = some (.slice ea 4 ec) := by rw [(bcell hb1).1 _ _ (by go_size)]; go_simp
  have p2 : w1.cell? ⟨w.heap.size, 2, none⟩ = some (.slice qa M.quotes.length qc) := by rw [(bcell hb1).1 _ _ (by go_size)]; go_simp
  have B1 : Below w.heap.size w w1 := (B0 _).trans (hb1.mono (by go_size))
  clear hb1
  have hbm : machB M = (!(M.encl.any fun x => !enclB x) && (frAll M.encl [] M.frames && M.quotes.all quoteB)) := by rw [machB, all_not_any enclB]
  rw [hbm] at HM
  clear hbm
  cases hr : (M.encl.any fun x => !enclB x) with
  | true =>
    rw [hr] at HM
    clear hr
    go_wp2_with fail
    go_ret
    exact ⟨by rw [HM.out]; rfl, B1⟩
  | false =>
    rw [hr] at HM
    have HM1 : Hid (machF M = if (frAll M.encl [] M.frames && M.quotes.all quoteB) = true then 0 else 8) := HM
    clear hr HM
    go_wp2_with fail
    go_loopw [26] (fun j W => ∃ i : Nat, i ≤ 24 ∧ j = .int .i64 i ∧ Hid (frAll M.encl [] M.frames = frAll M.encl (M.frames.take i) (M.frames.drop i)) ∧ Below w1.heap.size w1 W) (fun j _ => 24 - (intOf j).toNat)
    case atStart => exact ⟨0, by omega, rfl, rfl, Below.refl _ _⟩
    case round =>
      obtain ⟨i, hi, rfl, HI, hb⟩ := hrel
      have q0 := cell_later hb p0
      have q1 := cell_later hb p1
      have q2 := cell_later hb p2
      have B2 : Below w.heap.size w wr := B1.trans (hb.mono B1.size)
      clear p0 p1 p2
      by_cases hlt : i < 24
      · obtain ⟨x, hx⟩ : ∃ x, M.frames[i]? = some x := ⟨_, List.getElem?_eq_getElem (by rw [HN.out]; exact hlt)⟩
        have HS := hid (HI.out.trans (frAll_step hx))
        have HX := hid hx
        clear hx
        go_wp2_with fail
        refine (epcFrame _ M i x.owner x.pl x.rights x.words _ (HV.out.mono B2) hf HE4.out HX.out).mono ?_
        rintro e w2 ⟨rfl, hb2⟩
        have HS' : Hid (frAll M.encl [] M.frames = (frB M.encl (M.frames.take i) ⟨x.owner, x.pl, x.rights, x.words⟩ && frAll M.encl (M.frames.take (i + 1)) (M.frames.drop (i + 1)))) := HS
        clear HS
        cases hr : frB M.encl (M.frames.take i) ⟨x.owner, x.pl, x.rights, x.words⟩ with
        | true =>
          rw [hr] at HS'
          clear hr
          go_wp2_with fail
          go_roundw
          case rel => exact ⟨i + 1, by omega, by go_num, HS', hb.trans (hb2.mono hb.size)⟩
          case measure => simp [intOf]; omega
        | false =>
          rw [hr] at HS'
          have HR : Hid (machF M = 8) := by
            show machF M = 8
            rw [HM1.out, show frAll M.encl [] M.frames = false from HS'.out]
            rfl
          clear hr HS'
          go_wp2_with fail
          go_ret
          exact ⟨by rw [HR.out]; rfl, B2.trans (hb2.mono B2.size)⟩
      · obtain rfl : i = 24 := by omega
        have hz : frAll M.encl [] M.frames = true := by
          rw [HI.out, List.drop_eq_nil_of_le (by rw [HN.out]; exact Nat.le_refl _)]
          rfl
        have HM2 : Hid (machF M = if (!(M.quotes.any fun q => !quoteB q)) = true then 0 else 8) := by
          show machF M = _
          rw [HM1.out, hz, all_not_any quoteB]
          rfl
        clear HM1 hz HI
        go_wp2_with fail
        refine (containsFuncQuotes 27 #[] qa M.quotes M.quotes.length qc (fun x => !quoteB x) _ (by omega) rfl enters_check2 (HQ.out.mono B2) (fun i x _ W hW => check2_any x W)).mono ?_
        rintro e w2 ⟨rfl, hb2⟩
        generalize (M.quotes.any fun q => !quoteB q) = r at HM2 ⊢
        cases r
        all_goals
          go_wp2_with fail
          go_ret
          exact ⟨by rw [HM2.out]; rfl, B2.trans (hb2.mono B2.size)⟩
theorem epcCheck (v : Value) (M : MachD) (w : World) (hv : MachAt w v M) (hf : M.Fits) : Calls Try.prog 17 #[v] w fun e w' => e = .returned (.int .i64 (machF M)) ∧ Below w.heap.size w w' := by
  cases hs : sizeB M with
  | true => exact epcCheck_ok v M w hv hf hs
  | false => exact epcCheck_size v M w hv hs

end Go.Proofs.Ytlbjdjjdafnemaa
