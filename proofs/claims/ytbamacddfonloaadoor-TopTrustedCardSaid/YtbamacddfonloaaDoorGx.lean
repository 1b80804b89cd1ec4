/- Who is interrupted goes on as if it were not: a run of so much fuel is two runs, one behind the other. Plain laws; no program is walked.
Machines and outcomes in boxes of the call's own; stores into other boxes leave them. Plain laws; no program is walked.
slices.Equal at enclaves and at quotes, walked, where both read as one list. Conditions: those that each contract writes. -/
import Derived.Test.YtbamacddfonloaaDoorGt
import Derived.Test.YtbamacddfonloaaDoorHostSt
import Derived.Test.YtbamacddfonloaaDoorGa
import Derived.Deep.QuietTactic
import Derived.BigQuiet
namespace Go.Proofs.YtbamacddfonloaaDoor
open Go.RowKit

theorem runM_held {e : Int} {g : ByteArray} (a : Nat) : ∀ (b : Nat) (c : CoreD), (runM e g a c).2.2.1 = 2 → runM e g (a + b) c = runM e g b (runM e g a c).1 := by
  induction a with
  | zero => intro b c _; rw [Nat.zero_add]; rfl
  | succ a ih =>
    intro b c h
    rw [show a + 1 + b = (a + b) + 1 by omega]
    rw [runM] at h
    rw [runM, runM]
    cases hs : stepM e g c with
    | none => rw [hs] at h; simp at h
    | some p =>
      obtain ⟨d, o⟩ := p
      rw [hs] at h
      cases o with
      | none => exact ih b d h
      | some v => simp at h
theorem runM_done {e : Int} {g : ByteArray} (a : Nat) : ∀ (b : Nat) (c : CoreD), (runM e g a c).2.2.1 ≠ 2 → runM e g (a + b) c = runM e g a c := by
  induction a with
  | zero => intro b c h; exact absurd rfl h
  | succ a ih =>
    intro b c h
    rw [show a + 1 + b = (a + b) + 1 by omega]
    rw [runM] at h
    rw [runM, runM]
    cases hs : stepM e g c with
    | none => rfl
    | some p =>
      obtain ⟨d, o⟩ := p
      rw [hs] at h
      cases o with
      | none => exact ih b d h
      | some v => rfl
theorem Good.fits {M : MachD} (h : Good M) : M.Fits :=
  ⟨by rw [h.fl]; omega, by rw [h.el]; omega, by have := h.ql; omega, fun i x hx => by rw [(h.f i x hx).len]; omega⟩
/-- An interrupted machine; a machine behind a run. -/
def heldM (M : MachD) (g : ByteArray) (c : CoreD) : MachD := ⟨c.F, M.encl.set 0 ⟨3, g, c.pc, (c.R[0]?).getD 0, (c.R[1]?).getD 0, (c.R[2]?).getD 0, (c.R[3]?).getD 0⟩, c.Q⟩
def endM (M : MachD) (r : CoreD × EnclD × Int × Int) : MachD := ⟨r.1.F, M.encl.set 0 r.2.1, r.1.Q⟩
theorem endM_held {M : MachD} {g : ByteArray} {k : Nat} {c : CoreD} (h : (runM 1 g k c).2.2.1 = 2) : endM M (runM 1 g k c) = heldM M g (runM 1 g k c).1 ∧ (runM 1 g k c).2.2 = (2, 0) := by
  rcases runM_encl (e := 1) (g := g) k c with ⟨h1, h2⟩ | ⟨_, h2⟩ | ⟨_, v, h2⟩
  · exact ⟨by rw [endM, h1]; rfl, h2⟩
  · rw [h2] at h; simp at h
  · rw [h2] at h; simp at h
theorem regs_list {R : List Int} (h : R.length = 4) : [(R[0]?).getD 0, (R[1]?).getD 0, (R[2]?).getD 0, (R[3]?).getD 0] = R := by
  match R, h with
  | [_, _, _, _], _ => rfl
/-- What is known of who is entered: the enclave 1 of M, its log g, its fuel t, its first state c0. -/
structure HeldI (M : MachD) (g : ByteArray) (t : Nat) (c0 : CoreD) (left : Nat) (Y : MachD) (p : Int × Int) : Prop where
  le : left ≤ t
  ex : (p.1 ≠ 2 ∧ Y = endM M (runM 1 g t c0) ∧ p = (runM 1 g t c0).2.2) ∨ (p = (2, 0) ∧ ∃ c, CoreOk c ∧ c.pc ≤ 65535 ∧ runM 1 g left c = runM 1 g t c0 ∧ Y = heldM M g c)
theorem resume_held {M : MachD} {g : ByteArray} {c : CoreD} {k : Nat} (hM : Good M) (hY : Good (heldM M g c)) (hc : CoreOk c) (hk : k ≤ 5000) :
    resumeD (heldM M g c) 1 k = (endM M (runM 1 g k c), (runM 1 g k c).2.2, 0) := by
  have h0 : 0 < M.encl.length := by rw [hM.el]; omega
  have hs : (heldM M g c).encl[0]? = some ⟨3, g, c.pc, (c.R[0]?).getD 0, (c.R[1]?).getD 0, (c.R[2]?).getD 0, (c.R[3]?).getD 0⟩ := List.getElem?_set_self h0
  have ha : askF (heldM M g c) 1 3 = 0 := by
    unfold askF
    rw [if_neg (by simpa using hY.mf)]
    have : enclOf (heldM M g c) 1 = some ⟨3, g, c.pc, (c.R[0]?).getD 0, (c.R[1]?).getD 0, (c.R[2]?).getD 0, (c.R[3]?).getD 0⟩ := by
      rw [enclOf, if_pos (by omega)]; exact hs
    rw [this]
    simp
  have hm : mayF (heldM M g c) 1 3 k = 0 := by rw [mayF, if_neg (by simpa using ha), if_neg (by omega)]
  unfold resumeD
  rw [if_neg (by simpa using hm), show ((1 : Int) - 1).toNat = 0 by rfl, hs]
  simp only [ranD, core0, regs_list hc.regs, Int.toNat_natCast]
  have e1 : ((0 : Nat) : Int) + 1 = 1 := by omega
  have e2 : (⟨(heldM M g c).frames, (heldM M g c).quotes, c.pc, c.R⟩ : CoreD) = c := rfl
  rw [e1, e2]
  simp only [endM, heldM, List.set_set]
theorem held_step {M : MachD} {g : ByteArray} {t left : Nat} {c0 : CoreD} {Y : MachD} {p : Int × Int} (hM : Good M) (h : HeldI M g t c0 left Y p) (hY : Good Y) (ht : t ≤ 5000) (h2 : p.1 = 2) {k : Nat} (hk : k ≤ left) :
    (resumeD Y 1 k).2.2 = 0 ∧ HeldI M g t c0 (left - k) (resumeD Y 1 k).1 (resumeD Y 1 k).2.1 ∧ Good (resumeD Y 1 k).1 := by
  obtain ⟨hle, ⟨h3, _⟩ | ⟨rfl, c, hc, hp, hr, rfl⟩⟩ := h
  · exact absurd h2 h3
  · have e := resume_held (k := k) hM hY hc (by omega)
    have hg2 : Good (resumeD (heldM M g c) 1 k).1 := resumeD_good hY (by rw [e])
    refine ⟨by rw [e], ⟨by omega, ?_⟩, hg2⟩
    rw [e]
    by_cases hh : (runM 1 g k c).2.2.1 = 2
    · obtain ⟨e1, e2⟩ := endM_held (M := M) hh
      refine .inr ⟨e2, (runM 1 g k c).1, runM_ok k hc, runM_pc k hc hp, ?_, e1⟩
      rw [← runM_held k (left - k) c hh, show k + (left - k) = left by omega, hr]
    · have e3 := runM_done k (left - k) c hh
      rw [show k + (left - k) = left by omega, hr] at e3
      exact .inl ⟨hh, by simp only; rw [e3], by simp only; rw [e3]⟩
theorem held_last {M : MachD} {g : ByteArray} {t left : Nat} {c0 : CoreD} {Y : MachD} {p : Int × Int} (hM : Good M) (h : HeldI M g t c0 left Y p) (hY : Good Y) (ht : t ≤ 5000) (h2 : p.1 = 2) :
    resumeD Y 1 left = (endM M (runM 1 g t c0), (runM 1 g t c0).2.2, 0) := by
  obtain ⟨hle, ⟨h3, _⟩ | ⟨rfl, c, hc, hp, hr, rfl⟩⟩ := h
  · exact absurd h2 h3
  · rw [resume_held (k := left) hM hY hc (by omega), hr]
theorem enter_is {M : MachD} (hM : Good M) {y : EnclD} (hy : M.encl[0]? = some y) (hs : y.state = 2) {n : Int} (hn : 0 ≤ n ∧ n ≤ 65535) {t : Nat} (ht : t ≤ 5000) :
    enterD M 1 n t = (endM M (runM 1 y.log t (core0 M 0 [n, 0, 0, 0])), (runM 1 y.log t (core0 M 0 [n, 0, 0, 0])).2.2, 0) := by
  have ha : askF M 1 2 = 0 := by
    unfold askF
    rw [if_neg (by simpa using hM.mf)]
    have : enclOf M 1 = some y := by rw [enclOf, if_pos (by omega)]; exact hy
    rw [this]
    simp [hs]
  have hm : mayF M 1 2 t = 0 := by rw [mayF, if_neg (by simpa using ha), if_neg (by omega)]
  unfold enterD
  rw [if_neg (by simpa using hm), if_neg (by omega), show ((1 : Int) - 1).toNat = 0 by rfl, hy]
  simp only [ranD, Int.toNat_natCast]
  have e1 : ((0 : Nat) : Int) + 1 = 1 := by omega
  rw [e1]
  rfl
theorem enter_core {M : MachD} (hM : Good M) {n : Int} (hn : 0 ≤ n ∧ n ≤ 65535) : CoreOk (core0 M 0 [n, 0, 0, 0]) :=
  core0_ok hM.mf (by omega) rfl (fun k m hk => by
    rcases k with _ | _ | _ | _ | k
    all_goals
      simp at hk
      try subst hk
      try omega)
theorem held_start {M : MachD} (hM : Good M) {y : EnclD} (hy : M.encl[0]? = some y) (hs : y.state = 2) {n : Int} (hn : 0 ≤ n ∧ n ≤ 65535) {t : Nat} :
    (enterD M 1 n 0).2.2 = 0 ∧ HeldI M y.log t (core0 M 0 [n, 0, 0, 0]) t (enterD M 1 n 0).1 (enterD M 1 n 0).2.1 ∧ Good (enterD M 1 n 0).1 := by
  have e := enter_is hM hy hs hn (t := 0) (by omega)
  rw [show ((0 : Nat) : Int) = 0 by rfl] at e
  refine ⟨by rw [e], ⟨Nat.le_refl _, ?_⟩, enterD_good hM (by rw [e])⟩
  rw [e]
  exact .inr ⟨rfl, core0 M 0 [n, 0, 0, 0], enter_core hM hn, by simp [core0], rfl, rfl⟩

end Go.Proofs.YtbamacddfonloaaDoor

namespace Go.Proofs.YtbamacddfonloaaDoor
open Go.RowKit

structure MBox (b : Nat) (fa : Option Addr) (fc : Nat) (ea : Option Addr) (ec : Nat) (qa : Option Addr) (qc : Nat) (M : MachD) (W : World) : Prop where
  c0 : W.cell? ⟨b, 0, none⟩ = some (.slice fa M.frames.length fc)
  c1 : W.cell? ⟨b, 1, none⟩ = some (.slice ea M.encl.length ec)
  c2 : W.cell? ⟨b, 2, none⟩ = some (.slice qa M.quotes.length qc)
  cz : ∀ o, W.frozen? ⟨b, o, none⟩ = false
  bt : BlkT W b 39
  m : MachFrom 0 W (.agg #[.slice fa M.frames.length fc, .slice ea M.encl.length ec, .slice qa M.quotes.length qc]) M
structure OBox (b : Nat) (o v : Int) (W : World) : Prop where
  c0 : W.cell? ⟨b, 0, none⟩ = some (.int .i64 o)
  c1 : W.cell? ⟨b, 1, none⟩ = some (.int .i64 v)
  cz : ∀ o, W.frozen? ⟨b, o, none⟩ = false
  bt : BlkT W b 65
section
variable {b b' : Nat} {fa ea qa fa' ea' qa' : Option Addr} {fc ec qc fc' ec' qc' : Nat} {M M' : MachD} {W W' : World} {o v o' v' : Int}
theorem MachFrom.parts {base : Nat} {x : Value} (h : MachFrom base W x M) : ∃ fa fc ea ec qa qc, x = .agg #[.slice fa M.frames.length fc, .slice ea M.encl.length ec, .slice qa M.quotes.length qc] := by
  obtain ⟨fa, fc, ea, ec, qa, qc, rfl, _⟩ := h.at
  exact ⟨fa, fc, ea, ec, qa, qc, rfl⟩
theorem MBox.lt (h : MBox b fa fc ea ec qa qc M W) : b < W.heap.size := World.block_lt_of_cell? W _ h.c0
theorem OBox.lt (h : OBox b o v W) : b < W.heap.size := World.block_lt_of_cell? W _ h.c0
theorem MBox.at (h : MBox b fa fc ea ec qa qc M W) : MachAt W (.agg #[.slice fa M.frames.length fc, .slice ea M.encl.length ec, .slice qa M.quotes.length qc]) M := h.m.at
theorem MBox.new {base : Nat} (h : MachFrom base W (.agg #[.slice fa M.frames.length fc, .slice ea M.encl.length ec, .slice qa M.quotes.length qc]) M) :
    MBox W.heap.size fa fc ea ec qa qc M (W.alloc (.cells #[.slice fa M.frames.length fc, .slice ea M.encl.length ec, .slice qa M.quotes.length qc] 39)) :=
  ⟨by go_simp, by go_simp, by go_simp, fun o => by go_simp, BlkT.new rfl _ _, (h.mono (Nat.zero_le _)).below (below_alloc _ _)⟩
theorem OBox.new (W : World) (o v : Int) : OBox W.heap.size o v (W.alloc (.cells #[.int .i64 o, .int .i64 v] 65)) :=
  ⟨by go_simp, by go_simp, fun o => by go_simp, BlkT.new rfl _ _⟩
theorem MBox.later (h : MBox b fa fc ea ec qa qc M W) (hb : Below W.heap.size W W') : MBox b fa fc ea ec qa qc M W' :=
  ⟨cell_later hb h.c0, cell_later hb h.c1, cell_later hb h.c2, fun o => by rw [(bcell hb).2 _ _ h.lt]; exact h.cz o, h.bt.below hb, h.m.below hb⟩
theorem OBox.later (h : OBox b o v W) (hb : Below W.heap.size W W') : OBox b o v W' :=
  ⟨cell_later hb h.c0, cell_later hb h.c1, fun o => by rw [(bcell hb).2 _ _ h.lt]; exact h.cz o, h.bt.below hb⟩
theorem far_frozen {a : Addr} {u : Value} {b o : Nat} (h : b ≠ a.block) : (W.setCell a u).frozen? ⟨b, o, none⟩ = W.frozen? ⟨b, o, none⟩ :=
  World.frozen?_of_block (w := W) (Below.heap_setCell W a u b h)
theorem MBox.far {t : TypeId} (h : MBox b fa fc ea ec qa qc M W) (hn : b ≠ b') (hT : BlkT W b' t) (h1 : 52 ≠ t) (h2 : 58 ≠ t) (h3 : 79 ≠ t) (h4 : 3 ≠ t) (k : Nat) (u : Value) : MBox b fa fc ea ec qa qc M (W.setCell ⟨b', k, none⟩ u) :=
  ⟨(far_set hn).trans h.c0, (far_set hn).trans h.c1, (far_set hn).trans h.c2, fun o => (far_frozen hn).trans (h.cz o), h.bt.set _ _, h.m.setT hT h1 h2 h3 h4 k u⟩
theorem OBox.far (h : OBox b o v W) (hn : b ≠ b') (k : Nat) (u : Value) : OBox b o v (W.setCell ⟨b', k, none⟩ u) :=
  ⟨(far_set hn).trans h.c0, (far_set hn).trans h.c1, fun o => (far_frozen hn).trans (h.cz o), h.bt.set _ _⟩
/-- Another machine's box written. -/
theorem MBox.farM (h : MBox b fa fc ea ec qa qc M W) (hn : b ≠ b') (hT : BlkT W b' 39) (u0 u1 u2 : Value) : MBox b fa fc ea ec qa qc M (((W.setCell ⟨b', 0, none⟩ u0).setCell ⟨b', 1, none⟩ u1).setCell ⟨b', 2, none⟩ u2) :=
  ((h.far hn hT (by decide) (by decide) (by decide) (by decide) 0 u0).far hn (hT.set _ _) (by decide) (by decide) (by decide) (by decide) 1 u1).far hn ((hT.set _ _).set _ _) (by decide) (by decide) (by decide) (by decide) 2 u2
theorem MBox.farO (h : MBox b fa fc ea ec qa qc M W) (hn : b ≠ b') (hT : BlkT W b' 65) (u0 u1 : Value) : MBox b fa fc ea ec qa qc M ((W.setCell ⟨b', 0, none⟩ u0).setCell ⟨b', 1, none⟩ u1) :=
  (h.far hn hT (by decide) (by decide) (by decide) (by decide) 0 u0).far hn (hT.set _ _) (by decide) (by decide) (by decide) (by decide) 1 u1
theorem OBox.farM (h : OBox b o v W) (hn : b ≠ b') (u0 u1 u2 : Value) : OBox b o v (((W.setCell ⟨b', 0, none⟩ u0).setCell ⟨b', 1, none⟩ u1).setCell ⟨b', 2, none⟩ u2) := ((h.far hn 0 u0).far hn 1 u1).far hn 2 u2
theorem OBox.farO (h : OBox b o v W) (hn : b ≠ b') (u0 u1 : Value) : OBox b o v ((W.setCell ⟨b', 0, none⟩ u0).setCell ⟨b', 1, none⟩ u1) := (h.far hn 0 u0).far hn 1 u1
/-- The box written itself. -/
theorem MBox.put (h : MBox b fa fc ea ec qa qc M W) (h' : MachFrom 0 W (.agg #[.slice fa' M'.frames.length fc', .slice ea' M'.encl.length ec', .slice qa' M'.quotes.length qc']) M') :
    MBox b fa' fc' ea' ec' qa' qc' M' (((W.setCell ⟨b, 0, none⟩ (.slice fa' M'.frames.length fc')).setCell ⟨b, 1, none⟩ (.slice ea' M'.encl.length ec')).setCell ⟨b, 2, none⟩ (.slice qa' M'.quotes.length qc')) := by
  have c0 := h.c0
  have c1 := h.c1
  have c2 := h.c2
  have cz := h.cz
  have bt := h.bt
  exact ⟨by go_simp, by go_simp, by go_simp, fun o => by go_simp, ((bt.set _ _).set _ _).set _ _, ((h'.setT bt (by decide) (by decide) (by decide) (by decide) 0 _).setT (bt.set _ _) (by decide) (by decide) (by decide) (by decide) 1 _).setT ((bt.set _ _).set _ _) (by decide) (by decide) (by decide) (by decide) 2 _⟩
theorem OBox.put (h : OBox b o v W) (o' v' : Int) : OBox b o' v' ((W.setCell ⟨b, 0, none⟩ (.int .i64 o')).setCell ⟨b, 1, none⟩ (.int .i64 v')) := by
  have c0 := h.c0
  have c1 := h.c1
  have cz := h.cz
  have bt := h.bt
  exact ⟨by go_simp, by go_simp, fun o => by go_simp, (bt.set _ _).set _ _⟩
end

end Go.Proofs.YtbamacddfonloaaDoor

namespace Go.Proofs.YtbamacddfonloaaDoor
open Go.RowKit

theorem neqOut (a x : Int) (w : World) : (binOp .neq 65 (.agg #[.int .i64 a, .int .i64 x]) (.agg #[.int .i64 a, .int .i64 x])).run Tryd.prog w = .ok (.bool false) w := by
  have hS : Tryd.prog.underlying 65 = some (.struct (Tryd.prog.fieldsOf 65)) := by kernel_rfl
  have hp : Tryd.prog.stoodInHeld 65 = false := by kernel_rfl
  have u3 := Tryd.underlying3
  have a3 := Tryd.isAgg3
  have z3 := Tryd.sizeOf3
  rw [run_neq_struct, show (10000 : Nat) = 9999 + 1 from rfl, run_equalIn_agg w 9999 65 _ _ hS hp]
  simp only [Program.fieldsOf, Tryd.underlying65]
  go_simp

set_option maxRecDepth 10000 in
set_option maxHeartbeats 800000 in
theorem equalEncls (a b : Option Addr) (l : List EnclD) (n c d : Nat) (w : World) (hl : l.length = n) (hn : n ≤ 9223372036854775807) (ha : EnclsAt w a l) (hb : EnclsAt w b l) :
    Calls Tryd.prog 18 #[.slice a n c, .slice b n d] w fun e w' => e = .returned (.bool true) ∧ Below w.heap.size w w' := by
  have HA := hid ha
  have HB := hid hb
  have HL := hid hl
  have hneq := neqEncl
  clear ha hb hl
  go_enter Tryd.func18, Tryd.ntmps18
  go_wp2_with fail
  go_loopw [13] (fun j W => ∃ i : Nat, i ≤ n ∧ j = .int .i64 i ∧ Below w.heap.size w W) (fun j _ => n - (intOf j).toNat)
  case atStart => exact ⟨0, by omega, rfl, Below.refl _ _⟩
  case round =>
    obtain ⟨i, hi, rfl, hb⟩ := hrel
    by_cases hlt : i < n
    · obtain ⟨x, hx⟩ : ∃ x, l[i]? = some x := ⟨_, List.getElem?_eq_getElem (by rw [HL.out]; exact hlt)⟩
      obtain ⟨ab, ao, rfl, k0, k1, k2, k3, k4, k5, k6⟩ := HA.out i x hx
      obtain ⟨bb, bo, rfl, m0, m1, m2, m3, m4, m5, m6⟩ := HB.out i x hx
      have l0 := cell_later hb k0; have l1 := cell_later hb k1; have l2 := cell_later hb k2; have l3 := cell_later hb k3; have l4 := cell_later hb k4; have l5 := cell_later hb k5; have l6 := cell_later hb k6; have p0 := cell_later hb m0; have p1 := cell_later hb m1; have p2 := cell_later hb m2; have p3 := cell_later hb m3; have p4 := cell_later hb m4; have p5 := cell_later hb m5; have p6 := cell_later hb m6; clear k0 k1 k2 k3 k4 k5 k6 m0 m1 m2 m3 m4 m5 m6
      have HBB := hid hb
      have hi0 : (0 : Int) ≤ (i : Int) := Int.natCast_nonneg _
      have hi1 : (i : Int) < (n : Int) := by omega
      clear hx hb
      go_wp2_with fail
      go_quiet (fail)
      go_wp2_with fail
      go_roundw
      case rel => exact ⟨i + 1, by omega, by go_num, below_drewN HBB.out _⟩
      case measure => simp [intOf]; omega
    · obtain rfl : i = n := by omega
      go_wp2_with fail
      go_ret
      exact ⟨rfl, hb⟩

end Go.Proofs.YtbamacddfonloaaDoor
