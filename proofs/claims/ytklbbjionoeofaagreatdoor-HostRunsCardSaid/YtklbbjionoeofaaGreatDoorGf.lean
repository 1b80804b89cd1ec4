/- epc.frame and epc.Check's closures, walked. Conditions: those that each contract writes.
epc.Check, walked. Conditions: those that each contract writes. -/
import Derived.Test.YtklbbjionoeofaaGreatDoorGe
import Derived.Test.YtklbbjionoeofaaGreatDoorGb
namespace Go.Proofs.YtklbbjionoeofaaGreatDoor
open Go.RowKit

theorem check1_any (x : EnclD) (w : World) : Calls Tryz.prog 77 #[.agg #[.int .i64 x.state, .string x.log, .int .i64 x.pc, .int .i64 x.r0, .int .i64 x.r1, .int .i64 x.r2, .int .i64 x.r3]] w fun e w' => e = .returned (.bool (!enclB x)) ∧ Below w.heap.size w w' := by
  have B0 : ∀ X, Below w.heap.size w (w.alloc X) := fun X => by go_grown
  go_enter Tryz.func77, Tryz.ntmps77
  go_wp2_with fail
  refine (epcEnclave x _).mono ?_
  rintro e w1 ⟨rfl, hb1⟩
  obtain ⟨r, hr⟩ : ∃ r, enclB x = r := ⟨_, rfl⟩
  rw [hr]
  have HR := hid hr
  clear hr
  go_wp2_with fail
  go_ret
  exact ⟨by rw [HR.out]; rfl, (B0 _).trans (hb1.mono (by go_size))⟩
theorem enters_check1 : ∀ args w, (callFunc 77 args).run Tryz.prog w = .ok (.enter 77 args) w := enters_of Tryz.func77 (by kernel_rfl) rfl

def quoteB (q : QuoteD) : Bool := !decide (1000 < q.log.size) && inR q.data 0 65535
theorem check2_any (x : QuoteD) (w : World) : Calls Tryz.prog 81 #[.agg #[.string x.log, .int .i64 x.data]] w fun e w' => e = .returned (.bool (!quoteB x)) ∧ Below w.heap.size w w' := by
  have B0 : ∀ X, Below w.heap.size w (w.alloc X) := fun X => by go_grown
  by_cases h1 : 1000 < x.log.size
  · have HF : Hid ((!quoteB x) = true) := by show (!quoteB x) = true; simp [quoteB, h1]
    have h1b : (1000 : Int) < (x.log.size : Int) := by omega
    go_enter Tryz.func81, Tryz.ntmps81
    go_wp2_with fail
    go_ret
    exact ⟨by rw [HF.out]; rfl, B0 _⟩
  have h1b : decide ((1000 : Int) < (x.log.size : Int)) = false := by rw [decide_eq_false_iff_not]; omega
  by_cases h2 : x.data < 0
  · have HF : Hid ((!quoteB x) = true) := by show (!quoteB x) = true; simp [quoteB, h1, inR]; omega
    go_enter Tryz.func81, Tryz.ntmps81
    go_wp2_with fail
    go_ret
    exact ⟨by rw [HF.out]; rfl, B0 _⟩
  by_cases h3 : 65535 < x.data
  · have HF : Hid ((!quoteB x) = true) := by show (!quoteB x) = true; simp [quoteB, h1, inR]; omega
    go_enter Tryz.func81, Tryz.ntmps81
    go_wp2_with fail
    go_ret
    exact ⟨by rw [HF.out]; rfl, B0 _⟩
  have HF : Hid ((!quoteB x) = false) := by show (!quoteB x) = false; simp [quoteB, h1, inR]; omega
  go_enter Tryz.func81, Tryz.ntmps81
  go_wp2_with fail
  go_ret
  exact ⟨by rw [HF.out]; rfl, B0 _⟩
theorem enters_check2 : ∀ args w, (callFunc 81 args).run Tryz.prog w = .ok (.enter 81 args) w := enters_of Tryz.func81 (by kernel_rfl) rfl

def twinB (o p : Int) (g : FrameD) : Bool := g.owner == o && g.pl == p
theorem frame1_any (o p r : Int) (wv : Value) (l : List Int) (o2 p2 : Int) (b off : Nat) (w : World) (h0 : w.cell? ⟨b, off, none⟩ = some (.int .i64 o2)) (h1 : w.cell? ⟨b, off + 1, none⟩ = some (.int .i64 p2)) :
    Calls Tryz.prog 93 #[.agg #[.int .i64 o, .int .i64 p, .int .i64 r, wv], .pointer (some ⟨b, off, none⟩)] w fun e w' => e = .returned (.bool (twinB o2 p2 ⟨o, p, r, l⟩)) ∧ Below w.heap.size w w' := by
  have hlt := World.block_lt_of_cell? _ _ h0
  simp only at hlt
  have B0 : ∀ X, Below w.heap.size w (w.alloc X) := fun X => by go_grown
  by_cases e0 : o = o2
  · subst e0
    by_cases e1 : p = p2
    · subst e1
      have e1b : (p == p) = true := by simp
      go_enter Tryz.func93, Tryz.ntmps93
      go_wp2_with fail
      go_ret
      exact ⟨by simp [twinB], B0 _⟩
    · have e1b : (p == p2) = false := by simp [e1]
      have HF : Hid (twinB o p2 ⟨o, p, r, l⟩ = false) := by show twinB _ _ _ = false; simp [twinB, e1]
      clear e1
      go_enter Tryz.func93, Tryz.ntmps93
      go_wp2_with fail
      go_ret
      exact ⟨by rw [HF.out]; rfl, B0 _⟩
  · have e0b : (o == o2) = false := by simp [e0]
    have HF : Hid (twinB o2 p2 ⟨o, p, r, l⟩ = false) := by show twinB _ _ _ = false; simp [twinB, e0]
    clear e0
    go_enter Tryz.func93, Tryz.ntmps93
    go_wp2_with fail
    go_ret
    exact ⟨by rw [HF.out]; rfl, B0 _⟩
theorem enters_frame1 : ∀ args w, (callFunc 93 args).run Tryz.prog w = .ok (.enter 93 args) w := enters_of Tryz.func93 (by kernel_rfl) rfl
theorem predAt1 {P : Program} {g : FuncId} {a v : Value} {w : World} {r : Bool} (h : ∀ W, Below w.heap.size w W → Calls P g #[v, a] W fun e w' => e = .returned (.bool r) ∧ Below W.heap.size W w') : PredAt P g #[a] w v r := fun W hW => by
  have e : (#[v] ++ #[a] : Array Value) = #[v, a] := rfl
  rw [e]
  exact h W hW

def stateAt (E : List EnclD) (k : Int) : Int := (E[k.toNat]?.map (·.state)).getD 0
def frB (E : List EnclD) (pre : List FrameD) (f : FrameD) : Bool :=
  wordsB f.words && inR f.owner 0 4 && (if f.owner = 0 then f.pl == 0 && f.rights == 0 else !(stateAt E (f.owner - 1) == 0) && (pageF f.pl f.rights f.words == 0 && !(pre.any (twinB f.owner f.pl))))

theorem FramesAt.take {w : World} {a : Option Addr} {l : List FrameD} (h : FramesAt w a l) (i : Nat) : FramesAt w a (l.take i) := fun j x hx => h j x (by
  rw [List.getElem?_take] at hx
  split at hx
  · exact hx
  · cases hx)

set_option maxRecDepth 10000 in
set_option maxHeartbeats 3200000 in
theorem epcFrame (v : Value) (M : MachD) (i : Nat) (o p r : Int) (wl : List Int) (w : World) (hv : MachAt w v M) (hf : M.Fits) (he : M.encl.length = 4) (hx : M.frames[i]? = some ⟨o, p, r, wl⟩) :
    Calls Tryz.prog 79 #[v, .int .i64 i] w fun e w' => e = .returned (.bool (frB M.encl (M.frames.take i) ⟨o, p, r, wl⟩)) ∧ Below w.heap.size w w' := by
  obtain ⟨fa, fc, ea, ec, qa, qc, rfl, hF, hE, _, hfc⟩ := hv
  have hi : i < M.frames.length := (List.getElem?_eq_some_iff.1 hx).1
  have hfl := hf.f
  have hwl := hf.w i _ hx
  simp only at hwl
  obtain ⟨b, off, wa, wc, rfl, k0, k1, k2, k3, k4⟩ := hF i _ hx
  simp only at k0 k1 k2 k3 k4
  have HF := hid hF
  have HE := hid hE
  have HW := hid k4
  have HL := hid he
  clear hF hE k4 hx
  have B0 : ∀ X Y, Below w.heap.size w ((w.alloc X).alloc Y) := fun X Y => by go_grown
  obtain ⟨n, hn⟩ : ∃ n, M.frames.length = n := ⟨_, rfl⟩
  rw [hn] at hi hfl hfc ⊢
  have HN := hid hn
  clear hn
  have kb := World.block_lt_of_cell? _ _ k0
  simp only at kb
  go_enter Tryz.func79, Tryz.ntmps79
  rw [HL.out]
  go_wp2_with fail
  refine (imageWords wa wl wl.length wc _ rfl (by omega) (HW.out.mono (B0 _ _))).mono ?_
  rintro e w1 ⟨rfl, hb1⟩
  have q0 : w1.cell? ⟨w.heap.size, 0, none⟩ = some (.slice (some ⟨b, off, none⟩) n fc) := by rw [(bcell hb1).1 _ _ (by go_size)]; go_simp
  have q1 : w1.cell? ⟨w.heap.size, 1, none⟩ = some (.slice ea 4 ec) := by rw [(bcell hb1).1 _ _ (by go_size)]; go_simp
  have r0 : w1.cell? ⟨w.heap.size + 1, 0, none⟩ = some (.int .i64 o) := by rw [(bcell hb1).1 _ _ (by go_size)]; go_simp
  have r1 : w1.cell? ⟨w.heap.size + 1, 1, none⟩ = some (.int .i64 p) := by rw [(bcell hb1).1 _ _ (by go_size)]; go_simp
  have r2 : w1.cell? ⟨w.heap.size + 1, 2, none⟩ = some (.int .i64 r) := by rw [(bcell hb1).1 _ _ (by go_size)]; go_simp
  have r3 : w1.cell? ⟨w.heap.size + 1, 3, none⟩ = some (.slice wa wl.length wc) := by rw [(bcell hb1).1 _ _ (by go_size)]; go_simp
  have B1 : Below w.heap.size w w1 := (B0 _ _).trans (hb1.mono (by go_size))
  clear hb1 k0 k1 k2 k3
  obtain ⟨R, hR⟩ : ∃ R, frB M.encl (M.frames.take i) ⟨o, p, r, wl⟩ = R := ⟨_, rfl⟩
  have HR := hid hR
  clear hR
  cases hwb : wordsB wl with
  | false =>
    have HA : Hid (frB M.encl (M.frames.take i) ⟨o, p, r, wl⟩ = false) := by show frB _ _ _ = false; simp [frB, hwb]
    clear hwb
    go_wp2_with fail
    go_ret
    exact ⟨by rw [HA.out]; rfl, B1⟩
  | true =>
    have HWB := hid hwb
    clear hwb
    by_cases h1 : o < 0
    · have HA : Hid (frB M.encl (M.frames.take i) ⟨o, p, r, wl⟩ = false) := by
        show frB _ _ _ = false
        have hin : inR o 0 4 = false := by simp [inR]; omega
        simp [frB, hin]
      go_wp2_with fail
      go_ret
      exact ⟨by rw [HA.out]; rfl, B1⟩
    by_cases h2 : 4 < o
    · have HA : Hid (frB M.encl (M.frames.take i) ⟨o, p, r, wl⟩ = false) := by
        show frB _ _ _ = false
        have hin : inR o 0 4 = false := by simp [inR]; omega
        simp [frB, hin]
      go_wp2_with fail
      go_ret
      exact ⟨by rw [HA.out]; rfl, B1⟩
    have hin : inR o 0 4 = true := by simp [inR]; omega
    by_cases h3 : o = 0
    · subst h3
      have HA : Hid (frB M.encl (M.frames.take i) ⟨0, p, r, wl⟩ = (p == 0 && r == 0)) := by show frB _ _ _ = _; simp [frB, HWB.out, hin]
      clear hin
      by_cases h4 : p = 0
      · subst h4
        go_wp2_with fail
        go_ret
        exact ⟨by rw [HA.out]; rfl, B1⟩
      · have h4b : (p == 0) = false := by simp [h4]
        clear h4
        go_wp2_with fail
        go_ret
        exact ⟨by rw [HA.out, h4b]; rfl, B1⟩
    · obtain ⟨k, hk⟩ : ∃ k : Nat, o = k + 1 := ⟨(o - 1).toNat, by omega⟩
      subst hk
      have hk4 : k < 4 := by omega
      have hko : (((k : Int) + 1) == 0) = false := by simp; omega
      obtain ⟨x, hx⟩ : ∃ x, M.encl[k]? = some x := ⟨_, List.getElem?_eq_getElem (by rw [HL.out]; exact hk4)⟩
      obtain ⟨eb, eo, rfl, m0, _⟩ := HE.out k x hx
      have n0 := cell_later B1 m0
      have hs : stateAt M.encl ((k : Int) + 1 - 1) = x.state := by simp [stateAt, hx]
      have HA : Hid (frB M.encl (M.frames.take i) ⟨(k : Int) + 1, p, r, wl⟩ = (!(x.state == 0) && (pageF p r wl == 0 && !((M.frames.take i).any (twinB ((k : Int) + 1) p))))) := by
        show frB _ _ _ = _
        have h3' : ¬ ((k : Int) + 1 = 0) := by omega
        simp only [frB, HWB.out, hin, hs, if_neg h3', Bool.true_and]
      have hk0 : (0 : Int) ≤ (k : Int) := by omega
      have hk1 : (k : Int) < 4 := by omega
      clear h3 hin hs hx m0
      by_cases h5 : x.state = 0
      · have h5b : (x.state != 0) = false := by simp [h5]
        have HA' : Hid (frB M.encl (M.frames.take i) ⟨(k : Int) + 1, p, r, wl⟩ = false) := by show frB _ _ _ = false; rw [HA.out]; simp [h5]
        clear h5 HA
        go_wp2_with fail
        go_ret
        exact ⟨by rw [HA'.out]; rfl, B1⟩
      · have h5b : (x.state != 0) = true := by simp [h5]
        have HA' : Hid (frB M.encl (M.frames.take i) ⟨(k : Int) + 1, p, r, wl⟩ = (pageF p r wl == 0 && !((M.frames.take i).any (twinB ((k : Int) + 1) p)))) := by show frB _ _ _ = _; rw [HA.out]; simp [h5]
        clear h5 HA
        go_wp2_with fail
        refine (imageCheckPage p r wa wl wl.length wc _ rfl (by omega) (HW.out.mono B1)).mono ?_
        rintro e w2 ⟨rfl, hb2⟩
        have s0 := cell_later hb2 q0
        have s1 := cell_later hb2 r0
        have s2 := cell_later hb2 r1
        have B2 : Below w.heap.size w w2 := B1.trans (hb2.mono B1.size)
        have z2 : w.heap.size + 1 < w2.heap.size := World.block_lt_of_cell? _ _ s1
        clear hb2 q0 q1 r0 r1 r2 r3 n0
        by_cases h6 : pageF p r wl = 0
        · rw [h6] at HA' ⊢
          have HA'' : Hid (frB M.encl (M.frames.take i) ⟨(k : Int) + 1, p, r, wl⟩ = !((M.frames.take i).any (twinB ((k : Int) + 1) p))) := HA'
          clear h6 HA'
          have hil : (M.frames.take i).length = i := by rw [List.length_take, HN.out]; omega
          have HIL := hid hil
          clear hil
          go_wp2_with fail
          refine (containsFuncFrames 93 #[.pointer (some ⟨w.heap.size + 1, 0, none⟩)] (some ⟨b, off, none⟩) (M.frames.take i) i fc (twinB ((k : Int) + 1) p) _ (by omega) HIL.out enters_frame1 ((HF.out.take i).mono B2)
            (fun j y wv hy => predAt1 fun W hW => frame1_any y.owner y.pl y.rights wv y.words ((k : Int) + 1) p _ _ W (cell_later hW s1) (cell_later hW s2))).mono ?_
          rintro e w3 ⟨rfl, hb3⟩
          generalize ((M.frames.take i).any (twinB ((k : Int) + 1) p)) = R2 at HA'' ⊢
          go_wp2_with fail
          go_ret
          exact ⟨by rw [HA''.out]; rfl, B2.trans (hb3.mono B2.size)⟩
        · have h6b : (pageF p r wl == 0) = false := by simp [h6]
          have HA'' : Hid (frB M.encl (M.frames.take i) ⟨(k : Int) + 1, p, r, wl⟩ = false) := by show frB _ _ _ = false; rw [HA'.out, h6b]; rfl
          generalize pageF p r wl = E at h6b ⊢
          clear h6 HA'
          go_wp2_with fail
          go_ret
          exact ⟨by rw [HA''.out]; rfl, B2⟩

end Go.Proofs.YtklbbjionoeofaaGreatDoor

namespace Go.Proofs.YtklbbjionoeofaaGreatDoor
open Go.RowKit

def frAll (E : List EnclD) : List FrameD → List FrameD → Bool
  | _, [] => true
  | pre, f :: l => frB E pre f && frAll E (pre ++ [f]) l
def sizeB (M : MachD) : Bool := decide (M.frames.length = 24) && (decide (M.encl.length = 4) && decide (M.quotes.length ≤ 40))
def machB (M : MachD) : Bool := M.encl.all enclB && (frAll M.encl [] M.frames && M.quotes.all quoteB)
def machF (M : MachD) : Int := if sizeB M then (if machB M then 0 else 8) else 1

theorem frAll_step {E : List EnclD} {l : List FrameD} {i : Nat} {x : FrameD} (hx : l[i]? = some x) : frAll E (l.take i) (l.drop i) = (frB E (l.take i) x && frAll E (l.take (i + 1)) (l.drop (i + 1))) := by
  have hi : i < l.length := (List.getElem?_eq_some_iff.1 hx).1
  have e : l[i] = x := by rw [List.getElem?_eq_getElem hi] at hx; exact Option.some.inj hx
  rw [List.drop_eq_getElem_cons hi, e, frAll, List.take_add_one, hx]
  rfl
theorem all_not_any {α : Type} (p : α → Bool) (l : List α) : l.all p = !(l.any fun x => !p x) := by
  induction l with
  | nil => rfl
  | cons x l ih => simp [ih]

set_option maxRecDepth 10000 in
set_option maxHeartbeats 3200000 in
theorem epcCheck_size (v : Value) (M : MachD) (w : World) (hv : MachAt w v M) (hs : sizeB M = false) : Calls Tryz.prog 58 #[v] w fun e w' => e = .returned (.int .i64 (machF M)) ∧ Below w.heap.size w w' := by
  obtain ⟨fa, fc, ea, ec, qa, qc, rfl, _, _, _, _⟩ := hv
  have HF : Hid (machF M = 1) := by show machF M = 1; simp [machF, hs]
  have B0 : ∀ X, Below w.heap.size w (w.alloc X) := fun X => by go_grown
  obtain ⟨n, hn⟩ : ∃ n, M.frames.length = n := ⟨_, rfl⟩
  obtain ⟨m, hm⟩ : ∃ m, M.encl.length = m := ⟨_, rfl⟩
  obtain ⟨k, hk⟩ : ∃ k, M.quotes.length = k := ⟨_, rfl⟩
  simp only [sizeB, hn, hm, hk] at hs
  rw [hn, hm, hk]
  clear hn hm hk
  by_cases h1 : n = 24
  · subst h1
    by_cases h2 : m = 4
    · subst h2
      have h3 : (40 : Int) < (k : Int) := by simp at hs; omega
      clear hs
      go_enter Tryz.func58, Tryz.ntmps58
      go_wp2_with fail
      go_ret
      exact ⟨by rw [HF.out]; rfl, B0 _⟩
    · have h2b : ((m : Int) != 4) = true := by rw [bne_iff_ne]; omega
      clear hs
      go_enter Tryz.func58, Tryz.ntmps58
      go_wp2_with fail
      go_ret
      exact ⟨by rw [HF.out]; rfl, B0 _⟩
  · have h1b : ((n : Int) != 24) = true := by rw [bne_iff_ne]; omega
    clear hs
    go_enter Tryz.func58, Tryz.ntmps58
    go_wp2_with fail
    go_ret
    exact ⟨by rw [HF.out]; rfl, B0 _⟩

set_option maxRecDepth 10000 in
set_option maxHeartbeats 3200000 in
theorem epcCheck_ok (v : Value) (M : MachD) (w : World) (hv : MachAt w v M) (hf : M.Fits) (hs : sizeB M = true) : Calls Tryz.prog 58 #[v] w fun e w' => e = .returned (.int .i64 (machF M)) ∧ Below w.heap.size w w' := by
  have HV := hid hv
  obtain ⟨fa, fc, ea, ec, qa, qc, rfl, hF, hE, hQ, hfc⟩ := hv
  have HM : Hid (machF M = if machB M then 0 else 8) := by show machF M = _; simp [machF, hs]
  have hs' := hs
  simp only [sizeB, Bool.and_eq_true, decide_eq_true_eq] at hs'
  obtain ⟨hn, hm, hk⟩ := hs'
  have HN := hid hn
  have HE4 := hid hm
  have HF := hid hF
  have HE := hid hE
  have HQ := hid hQ
  rw [hn, hm] at HV ⊢
  clear hF hE hQ hn hm hfc hs
  have B0 : ∀ X, Below w.heap.size w (w.alloc X) := fun X => by go_grown
  go_enter Tryz.func58, Tryz.ntmps58
  go_wp2_with fail
  refine (containsFuncEncls 77 #[] ea M.encl 4 ec (fun x => !enclB x) _ (by omega) HE4.out enters_check1 (HE.out.mono (B0 _)) (fun i x _ W hW => check1_any x W)).mono ?_
  rintro e w1 ⟨rfl, hb1⟩
  have p0 : w1.cell? ⟨w.heap.size, 0, none⟩ = some (.slice fa 24 fc) := by rw [(bcell hb1).1 _ _ (by go_size)]; go_simp
  have p1 : w1.cell? ⟨w.heap.size, 1, none⟩ = some (.slice ea 4 ec) := by rw [(bcell hb1).1 _ _ (by go_size)]; go_simp
  have p2 : w1.cell? ⟨w.heap.size, 2, none⟩ = some (.slice qa M.quotes.length qc) := by rw [(bcell hb1).1 _ _ (by go_size)]; go_simp
  have B1 : Below w.heap.size w w1 := (B0 _).trans (hb1.mono (by go_size))
  clear hb1
  have hbm : machB M = (!(M.encl.any fun x => !enclB x) && (frAll M.encl [] M.frames && M.quotes.all quoteB)) := by rw [machB, all_not_any enclB]
  rw [hbm] at HM
  clear hbm
  cases hr : (M.encl.any fun x => !enclB x) with
  | true =>
    rw [hr] at HM
    clear hr
    go_wp2_with fail
    go_ret
    exact ⟨by rw [HM.out]; rfl, B1⟩
  | false =>
    rw [hr] at HM
    have HM1 : Hid (machF M = if (frAll M.encl [] M.frames && M.quotes.all quoteB) = true then 0 else 8) := HM
    clear hr HM
    go_wp2_with fail
    go_loopw [26] (fun j W => ∃ i : Nat, i ≤ 24 ∧ j = .int .i64 i ∧ Hid (frAll M.encl [] M.frames = frAll M.encl (M.frames.take i) (M.frames.drop i)) ∧ Below w1.heap.size w1 W) (fun j _ => 24 - (intOf j).toNat)
    case atStart => exact ⟨0, by omega, rfl, rfl, Below.refl _ _⟩
    case round =>
      obtain ⟨i, hi, rfl, HI, hb⟩ := hrel
      have q0 := cell_later hb p0
      have q1 := cell_later hb p1
      have q2 := cell_later hb p2
      have B2 : Below w.heap.size w wr := B1.trans (hb.mono B1.size)
      clear p0 p1 p2
      by_cases hlt : i < 24
      · obtain ⟨x, hx⟩ : ∃ x, M.frames[i]? = some x := ⟨_, List.getElem?_eq_getElem (by rw [HN.out]; exact hlt)⟩
        have HS := hid (HI.out.trans (frAll_step hx))
        have HX := hid hx
        clear hx
        go_wp2_with fail
        refine (epcFrame _ M i x.owner x.pl x.rights x.words _ (HV.out.mono B2) hf HE4.out HX.out).mono ?_
        rintro e w2 ⟨rfl, hb2⟩
        have HS' : Hid (frAll M.encl [] M.frames = (frB M.encl (M.frames.take i) ⟨x.owner, x.pl, x.rights, x.words⟩ && frAll M.encl (M.frames.take (i + 1)) (M.frames.drop (i + 1)))) := HS
        clear HS
        cases hr : frB M.encl (M.frames.take i) ⟨x.owner, x.pl, x.rights, x.words⟩ with
        | true =>
          rw [hr] at HS'
          clear hr
          go_wp2_with fail
          go_roundw
          case rel => exact ⟨i + 1, by omega, by go_num, HS', hb.trans (hb2.mono hb.size)⟩
          case measure => simp [intOf]; omega
        | false =>
          rw [hr] at HS'
          have HR : Hid (machF M = 8) := by
            show machF M = 8
            rw [HM1.out, show frAll M.encl [] M.frames = false from HS'.out]
            rfl
          clear hr HS'
          go_wp2_with fail
          go_ret
          exact ⟨by rw [HR.out]; rfl, B2.trans (hb2.mono B2.size)⟩
      · obtain rfl : i = 24 := by omega
        have hz : frAll M.encl [] M.frames = true := by
          rw [HI.out, List.drop_eq_nil_of_le (by rw [HN.out]; exact Nat.le_refl _)]
          rfl
        have HM2 : Hid (machF M = if (!(M.quotes.any fun q => !quoteB q)) = true then 0 else 8) := by
          show machF M = _
          rw [HM1.out, hz, all_not_any quoteB]
          rfl
        clear HM1 hz HI
        go_wp2_with fail
        refine (containsFuncQuotes 81 #[] qa M.quotes M.quotes.length qc (fun x => !quoteB x) _ (by omega) rfl enters_check2 (HQ.out.mono B2) (fun i x _ W hW => check2_any x W)).mono ?_
        rintro e w2 ⟨rfl, hb2⟩
        generalize (M.quotes.any fun q => !quoteB q) = r at HM2 ⊢
        cases r
        all_goals
          go_wp2_with fail
          go_ret
          exact ⟨by rw [HM2.out]; rfl, B2.trans (hb2.mono B2.size)⟩
theorem epcCheck (v : Value) (M : MachD) (w : World) (hv : MachAt w v M) (hf : M.Fits) : Calls Tryz.prog 58 #[v] w fun e w' => e = .returned (.int .i64 (machF M)) ∧ Below w.heap.size w w' := by
  cases hs : sizeB M with
  | true => exact epcCheck_ok v M w hv hf hs
  | false => exact epcCheck_size v M w hv hs

end Go.Proofs.YtklbbjionoeofaaGreatDoor
