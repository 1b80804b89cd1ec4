/- How a run ends, in memory and as plain data. No program is walked. -/
import Derived.Test.YtlbjdjjdafnemaaStepPlain
namespace Go.Proofs.Ytlbjdjjdafnemaa
open Go.RowKit

/-- A run hands back a machine and an outcome. -/
def RunRes (M : MachD) (ei : Nat) (r : CoreD × EnclD × Int × Int) (w : World) (x : Ending) (w' : World) : Prop :=
  ∃ fv ev qv F, x = .returned (.tuple #[.agg #[fv, ev, qv], .agg #[.int .i64 r.2.2.1, .int .i64 r.2.2.2]]) ∧ F.map Prod.fst = r.1.F ∧ OwnMach w.heap.size w' fv ev qv F (M.encl.set ei r.2.1) r.1.Q ∧ Below w.heap.size w w'
theorem RunRes.drew {M : MachD} {ei : Nat} {r : CoreD × EnclD × Int × Int} {w w' : World} {x : Ending} (h : RunRes M ei r w x w') : RunRes M ei r w x w'.drew := by
  obtain ⟨fv, ev, qv, F, hx, hF, hO, hb⟩ := h
  exact ⟨fv, ev, qv, F, hx, hF, hO.below (below_drew _), hb.trans ((below_drew _).mono hb.size)⟩
def core0 (M : MachD) (pc : Int) (R : List Int) : CoreD := ⟨M.frames, M.quotes, pc, R⟩
theorem words_in {l : List Int} (h : wordsB l = true) : ∀ (k : Nat) (n : Int), l[k]? = some n → 0 ≤ n ∧ n ≤ 65535 := by
  intro k n hk
  simp only [wordsB, Bool.and_eq_true] at h
  have h2 := h.2
  rw [Bool.not_eq_true', List.any_eq_false] at h2
  have := h2 n (List.mem_of_getElem? hk)
  simpa [inR] using this
theorem core0_ok {M : MachD} {pc : Int} {R : List Int} (h : machF M = 0) (hp : 0 ≤ pc ∧ pc ≤ 65535) (hl : R.length = 4) (hR : ∀ (k : Nat) (n : Int), R[k]? = some n → 0 ≤ n ∧ n ≤ 65535) : CoreOk (core0 M pc R) := by
  obtain ⟨h1, _, h3⟩ := machF_sizes h
  refine ⟨h1, fun i x hx => ?_, hl, hR, h3, hp.1, by have := hp.2; simp only [core0]; omega⟩
  have hf := machF_frame h hx
  exact ⟨hf.len, words_in hf.w, hf.rights.1, hf.rights.2, hf.lo⟩

section
variable {w W0 W : World} {lo base mb rb ro : Nat} {C : CoreD} {E : List EnclD} {F : List (FrameD × Value)} {fv ev qv : Value}
/-- The machine and the outcome are written into the results' boxes. -/
theorem St.ret (h : St W0 lo base mb rb ro C E F fv ev qv W) (hB : Below w.heap.size w W0) (hl : w.heap.size ≤ lo) {b c : Nat} (hb0 : w.heap.size ≤ b) (hb : b < base) (hc0 : w.heap.size ≤ c) (hc : c < base) {M : MachD} {ei : Nat} {r : CoreD × EnclD × Int × Int} {y : EnclD} {o n : Int} {D : CoreD} (hr : r = (D, y, o, n)) (hDF : C.F = D.F) (hDQ : C.Q = D.Q) (hE : E = M.encl.set ei y) :
    RunRes M ei r w (.returned (.tuple #[.agg #[fv, ev, qv], .agg #[.int .i64 o, .int .i64 n]])) (((((W.setCell ⟨b, 0, none⟩ fv).setCell ⟨b, 1, none⟩ ev).setCell ⟨b, 2, none⟩ qv).setCell ⟨c, 0, none⟩ (.int .i64 o)).setCell ⟨c, 1, none⟩ (.int .i64 n)) := by
  subst hr hE
  have hO := ((h.own.low3 hb fv ev qv).setLow (a := ⟨c, 0, none⟩) hc (.int .i64 o)).setLow (a := ⟨c, 1, none⟩) hc (.int .i64 n)
  have hBW : Below w.heap.size w W := hB.trans (h.below.mono hl)
  have hF := h.hF
  rw [hDF] at hF
  rw [hDQ] at hO
  exact ⟨fv, ev, qv, F, rfl, hF, hO.mono (by have := h.lb; omega), below_at (below_at (below_low3 hBW hb0 _ _ _) hc0 _ _) hc0 _ _⟩
/-- The same, the outcome ahead of the machine. -/
theorem St.kept (h : St W0 lo base mb rb ro C E F fv ev qv W) {b o : Nat} {v : Value} (hv : W0.cell? ⟨b, o, none⟩ = some v) (hb : b < base) (hm : b ≠ mb) (hr : b ≠ rb) : W.cell? ⟨b, o, none⟩ = some v := (h.keep b o hb hm hr).1.trans hv
theorem St.keptZ (h : St W0 lo base mb rb ro C E F fv ev qv W) {b : Nat} (hv : ∀ o, W0.frozen? ⟨b, o, none⟩ = false) (hb : b < base) (hm : b ≠ mb) (hr : b ≠ rb) : ∀ o, W.frozen? ⟨b, o, none⟩ = false := fun o => (h.keep b o hb hm hr).2.trans (hv o)

/-- How the state begins: a copy of the machine stored into the box mb; the registers in the box rb. -/
theorem St.start (hO : OwnMach base W fv ev qv F E C.Q) (hF : F.map Prod.fst = C.F) (m0 : W.cell? ⟨mb, 0, none⟩ = some fv) (m1 : W.cell? ⟨mb, 1, none⟩ = some ev) (m2 : W.cell? ⟨mb, 2, none⟩ = some qv) (mz : ∀ o, W.frozen? ⟨mb, o, none⟩ = false)
    (kr : ∀ (j : Nat) (n : Int), C.R[j]? = some n → W.cell? ⟨rb, ro + j, none⟩ = some (.int .i64 n)) (rz : ∀ o, W.frozen? ⟨rb, o, none⟩ = false) (om : Off fv ev qv F mb) (od : Off fv ev qv F rb) (ne : mb ≠ rb) (hm : mb < W.heap.size) (hr : rb < W.heap.size) (lm : lo ≤ mb) (lr : lo ≤ rb) (lb : lo ≤ base) (hb : base ≤ W.heap.size) :
    St W lo base mb rb ro C E F fv ev qv W := ⟨hO, hF, m0, m1, m2, mz, kr, rz, om, od, ne, hm, hr, lm, lr, lb, Below.refl _ _, hb, fun _ _ _ _ _ => ⟨rfl, rfl⟩⟩
/-- A block below what is owned, or above it all, is not owned. -/
theorem off_low {Q : List QuoteD} (hO : OwnMach base W fv ev qv F E Q) {b : Nat} (hb : b < base) : Off fv ev qv F b :=
  ⟨fun k hk => by have := (hO.f.row.lt k hk).1; omega, fun k hk => by have := (hO.e.lt k hk).1; omega, fun k hk => by have := (hO.q.lt k hk).1; omega, fun i p hp k hk => by have := ((hO.f.sub i p hp).1.lt k hk).1; omega⟩
theorem off_new {Q : List QuoteD} (hO : OwnMach base W fv ev qv F E Q) {b : Nat} (hb : W.heap.size ≤ b) : Off fv ev qv F b :=
  ⟨fun k hk => by have := (hO.f.row.lt k hk).2; omega, fun k hk => by have := (hO.e.lt k hk).2; omega, fun k hk => by have := (hO.q.lt k hk).2; omega, fun i p hp k hk => by have := ((hO.f.sub i p hp).1.lt k hk).2; omega⟩
end

section
variable {W0 W W' : World} {lo base mb rb ro ob : Nat} {C : CoreD} {E : List EnclD} {F : List (FrameD × Value)} {fv ev qv : Value}
theorem St.pc (h : St W0 lo base mb rb ro C E F fv ev qv W) (p : Int) : St W0 lo base mb rb ro { C with pc := p } E F fv ev qv W :=
  ⟨h.own, h.hF, h.m0, h.m1, h.m2, h.mz, h.kr, h.rz, h.om, h.od, h.ne, h.hm, h.hr, h.lm, h.lr, h.lb, h.below, h.hb, h.keep⟩
/-- The reference's state in a round, and the box of the round's outcome. -/
structure Rx (W0 : World) (lo base mb rb ro ob : Nat) (C : CoreD) (E : List EnclD) (F : List (FrameD × Value)) (fv ev qv : Value) (o n : Int) (W : World) : Prop where
  st : St W0 lo base mb rb ro C E F fv ev qv W
  g0 : W.cell? ⟨ob, 0, none⟩ = some (.int .i64 o)
  g1 : W.cell? ⟨ob, 1, none⟩ = some (.int .i64 n)
  gz : ∀ o, W.frozen? ⟨ob, o, none⟩ = false
  off : Off fv ev qv F ob
  nm : ob ≠ mb
  nr : ob ≠ rb
  hb : base ≤ ob
  z : ob < W.heap.size
theorem Rx.of (h : St W0 lo base mb rb ro C E F fv ev qv W) (t : TypeId) : Rx W0 lo base mb rb ro W.heap.size C E F fv ev qv 0 0 (W.alloc (.cells #[.int .i64 0, .int .i64 0] t)) := by
  have h1 := h.hm
  have h2 := h.hr
  have h3 := h.hb
  have h4 := h.below.size
  exact ⟨h.later (below_alloc _ _), by go_simp, by go_simp, fun o => by go_simp, off_new h.own (Nat.le_refl _), by omega, by omega, by omega, by go_size⟩
variable {o n : Int}
theorem Rx.later (h : Rx W0 lo base mb rb ro ob C E F fv ev qv o n W) (hb : Below W.heap.size W W') : Rx W0 lo base mb rb ro ob C E F fv ev qv o n W' :=
  ⟨h.st.later hb, cell_later hb h.g0, cell_later hb h.g1, fun o => by rw [(bcell hb).2 _ _ h.z]; exact h.gz o, h.off, h.nm, h.nr, h.hb, by have := hb.size; have := h.z; omega⟩
theorem Rx.pc (h : Rx W0 lo base mb rb ro ob C E F fv ev qv o n W) (p : Int) : Rx W0 lo base mb rb ro ob { C with pc := p } E F fv ev qv o n W := ⟨h.st.pc p, h.g0, h.g1, h.gz, h.off, h.nm, h.nr, h.hb, h.z⟩
theorem Rx.setR (h : Rx W0 lo base mb rb ro ob C E F fv ev qv o n W) {i j : Nat} (hj : j = ro + i) (m : Int) : Rx W0 lo base mb rb ro ob { C with R := C.R.set i m } E F fv ev qv o n (W.setCell ⟨rb, j, none⟩ (.int .i64 m)) :=
  ⟨h.st.setR hj m, by rw [set_far h.nr]; exact h.g0, by rw [set_far h.nr]; exact h.g1, fun o => by rw [set_frozen]; exact h.gz o, h.off, h.nm, h.nr, h.hb, by rw [show (W.setCell ⟨rb, j, none⟩ (.int .i64 m)).heap.size = W.heap.size by simp]; exact h.z⟩
theorem Rx.setW (h : Rx W0 lo base mb rb ro ob C E F fv ev qv o n W) {g c i k : Nat} {x : FrameD} {m : Int} (hm : x.words.length = 8) (hx : F[i]? = some (x, .slice (some ⟨g, 0, none⟩) 8 c)) :
    Rx W0 lo base mb rb ro ob { C with F := setWord C.F (i, k) m } E (F.set i ({ x with words := x.words.set k m }, .slice (some ⟨g, 0, none⟩) 8 c)) fv ev qv o n (W.setCell ⟨g, k, none⟩ (.int .i64 m)) := by
  have hn : ob ≠ g := fun e => h.off.w i _ hx g rfl e.symm
  exact ⟨h.st.setW hm hx, by rw [set_far hn]; exact h.g0, by rw [set_far hn]; exact h.g1, fun o => by rw [set_frozen]; exact h.gz o, h.off.set (h.off.w i _ hx), h.nm, h.nr, h.hb, by rw [show (W.setCell ⟨g, k, none⟩ (.int .i64 m)).heap.size = W.heap.size by simp]; exact h.z⟩
theorem Rx.setO (h : Rx W0 lo base mb rb ro ob C E F fv ev qv o n W) (o' n' : Int) : Rx W0 lo base mb rb ro ob C E F fv ev qv o' n' ((W.setCell ⟨ob, 0, none⟩ (.int .i64 o')).setCell ⟨ob, 1, none⟩ (.int .i64 n')) := by
  have g0 := h.g0
  have g1 := h.g1
  refine ⟨(h.st.setFar h.hb h.nm h.nr h.off 0 _).setFar h.hb h.nm h.nr h.off 1 _, by go_simp, by go_simp, fun o => by rw [set_frozen, set_frozen]; exact h.gz o, h.off, h.nm, h.nr, h.hb, ?_⟩
  have := h.z
  simp
  omega
theorem Rx.pushQ (h : Rx W0 lo base mb rb ro ob C E F fv ev qv o n W) (q : QuoteD) {g m cap : Nat} (hrow : W'.ownsRow base 50 2 (.slice (some ⟨g, 0, none⟩) m cap) m (C.Q.flatMap QuoteD.cs ++ q.cs)) (hn : m = C.Q.length + 1) (hg : W.grownBy W' qv.ownBlock) (hat : qv.ownBlock = some g ∨ g = W.heap.size) :
    Rx W0 lo base mb rb ro ob { C with Q := C.Q ++ [q] } E F fv ev (.slice (some ⟨g, 0, none⟩) m cap) o n (W'.setCell ⟨mb, 2, none⟩ (.slice (some ⟨g, 0, none⟩) m cap)) := by
  have hq : some ob ≠ qv.ownBlock := fun e => h.off.q _ e.symm rfl
  have hz := h.z
  have hs := hg.size
  have hgn : NotAt (.slice (some ⟨g, 0, none⟩) m cap) ob := fun k hk => by
    simp only [Value.ownBlock, Option.some.injEq] at hk
    subst hk
    rcases hat with e | e
    · exact h.off.q g e
    · omega
  exact ⟨h.st.pushQ q hrow hn hg hat, by rw [set_far h.nm]; exact hg.cell h.g0 hq, by rw [set_far h.nm]; exact hg.cell h.g1 hq, fun o => by rw [set_frozen, hg.frozen_far ⟨ob, o, none⟩ hz hq]; exact h.gz o, ⟨h.off.f, h.off.e, hgn, h.off.w⟩, h.nm, h.nr, h.hb,
    by rw [show (W'.setCell ⟨mb, 2, none⟩ (.slice (some ⟨g, 0, none⟩) m cap)).heap.size = W'.heap.size by simp]; omega⟩
/-- ref.cellOf in the state of a run. -/
theorem refCell (h : St W0 lo base mb rb ro C E F fv ev qv W) (hc : CoreOk C) (e m right : Int) (h0 : 0 ≤ m) (h1 : m ≤ 1000000) (hr : right = 1 ∨ right = 2 ∨ right = 4) : Calls Try.prog 21 #[.agg #[fv, ev, qv], .int .i64 e, .int .i64 m, .int .i64 right] W (CellRes C.F e m right W) := by
  obtain ⟨fa, fc, rfl, hfr⟩ := h.own.f.frames
  have hl : F.length = 24 := by have := hc.len; rw [← h.hF, List.length_map] at this; exact this
  rw [h.hF] at hfr
  rw [hl]
  by_cases h64 : 64 ≤ m
  · exact refCell_hi fa C.F fc ev qv e m right W hc.len hfr h64 h1
  · exact refCell_lo fa C.F fc ev qv e m right W hc.len hfr (by omega) h0 hr (fun i x hx => ⟨(hc.fr i x hx).2.2.1, (hc.fr i x hx).2.2.2.1⟩)
/-- What an address gives: its frame, its word in memory. -/
theorem St.word {f c1 : Nat} (h : St W0 lo base mb rb ro C E F (.slice (some ⟨f, 0, none⟩) 24 c1) ev qv W) (hc : CoreOk C) {e m right : Int} {i k : Nat} (hcell : cellOf C.F e m right = some (i, k)) (h0 : 0 ≤ m) :
    ∃ (y : FrameD) (g c : Nat) (v : Int), F[i]? = some (y, .slice (some ⟨g, 0, none⟩) 8 c) ∧ y.words.length = 8 ∧ y.words[k]? = some v ∧ wordAt C.F (i, k) = v ∧ 0 ≤ v ∧ v ≤ 65535 ∧ W.cell? ⟨g, k, none⟩ = some (.int .i64 v) ∧ (∀ o, W.frozen? ⟨g, o, none⟩ = false) ∧ (i : Int) < 24 ∧ (k : Int) < 8 ∧ W.cell? ⟨f, i * 4 + 3, none⟩ = some (.slice (some ⟨g, 0, none⟩) 8 c) := by
  obtain ⟨hk, y, hy⟩ := cellOf_get hcell h0
  simp only at hk hy
  have hl : F.length = 24 := by have := hc.len; rw [← h.hF, List.length_map] at this; exact this
  obtain ⟨⟨y', wv⟩, hp⟩ : ∃ p, F[i]? = some p := ⟨_, List.getElem?_eq_getElem (by have := (List.getElem?_eq_some_iff.1 hy).1; have := hc.len; omega)⟩
  have hy2 : C.F[i]? = some y' := by rw [← h.hF, List.getElem?_map, hp]; rfl
  obtain rfl : y' = y := by rw [hy] at hy2; exact (Option.some.inj hy2).symm
  obtain ⟨h8, hw, _⟩ := hc.fr i _ hy
  have o3 := (h.own.f.sub i _ hp).1
  simp only [h8] at o3
  obtain ⟨g, c, rfl, _, _⟩ := own_some o3 (by decide)
  obtain ⟨v, hv⟩ : ∃ v, y'.words[k]? = some v := ⟨_, List.getElem?_eq_getElem (by omega)⟩
  obtain ⟨kc, kz⟩ := h.own.wordAt hp hv
  obtain ⟨v0, v1⟩ := hw k v hv
  have hi := (List.getElem?_eq_some_iff.1 hp).1
  exact ⟨y', g, c, v, hp, h8, hv, by simp [wordAt, hy, hv], v0, v1, kc, kz, by omega, by omega, (h.own.frameAt hp).2.2.2.1⟩
end

theorem runM_none {e : Int} {g : ByteArray} {k : Nat} {D : CoreD} (h : stepM e g D = none) : runM e g (k + 1) D = (D, ⟨4, g, 0, 0, 0, 0, 0⟩, 3, 0) := by
  simp only [runM, h]
theorem runM_exit {e : Int} {g : ByteArray} {k : Nat} {D d : CoreD} {n : Int} (h : stepM e g D = some (d, some n)) : runM e g (k + 1) D = (d, ⟨2, g, 0, 0, 0, 0, 0⟩, 1, n) := by
  simp only [runM, h]
theorem runM_go {e : Int} {g : ByteArray} {k : Nat} {D d : CoreD} (h : stepM e g D = some (d, none)) : runM e g (k + 1) D = runM e g k d := by
  simp only [runM, h]
theorem regs4 {l : List Int} (h : l.length = 4) : ∃ a b c d, l = [a, b, c, d] := by
  match l, h with
  | [a, b, c, d], _ => exact ⟨a, b, c, d, rfl⟩

end Go.Proofs.Ytlbjdjjdafnemaa
