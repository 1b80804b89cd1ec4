/- The state of a run in memory: the machine in a box, the registers in another. Plain laws; no program is walked. -/
import Derived.Test.YtlbjdjjdafnemaaCoreAt
import Derived.Test.YtlbjdjjdafnemaaOpenM
import Derived.Test.YtlbjdjjdafnemaaRefCell
namespace Go.Proofs.Ytlbjdjjdafnemaa
open Go.RowKit

/-- A block that the machine does not own. -/
structure Off (fv ev qv : Value) (F : List (FrameD × Value)) (b : Nat) : Prop where
  f : NotAt fv b
  e : NotAt ev b
  q : NotAt qv b
  w : ∀ (i : Nat) (p : FrameD × Value), F[i]? = some p → NotAt p.2 b

theorem Off.set {fv ev qv : Value} {F : List (FrameD × Value)} {b i : Nat} {x : FrameD} {wv : Value} (h : Off fv ev qv F b) (hw : NotAt wv b) : Off fv ev qv (F.set i (x, wv)) b :=
  ⟨h.f, h.e, h.q, fun k p hp => by
    by_cases hk : i = k
    · subst hk
      have hl : i < (F.set i (x, wv)).length := (List.getElem?_eq_some_iff.1 hp).1
      rw [List.length_set] at hl
      rw [List.getElem?_set_self hl] at hp
      cases hp
      exact hw
    · rw [List.getElem?_set_ne hk] at hp
      exact h.w k p hp⟩

/-- The machine in the box mb, the registers from ro on in the box rb; nothing else below base is touched. -/
structure St (W0 : World) (lo base mb rb ro : Nat) (C : CoreD) (E : List EnclD) (F : List (FrameD × Value)) (fv ev qv : Value) (W : World) : Prop where
  own : OwnMach base W fv ev qv F E C.Q
  hF : F.map Prod.fst = C.F
  m0 : W.cell? ⟨mb, 0, none⟩ = some fv
  m1 : W.cell? ⟨mb, 1, none⟩ = some ev
  m2 : W.cell? ⟨mb, 2, none⟩ = some qv
  mz : ∀ o, W.frozen? ⟨mb, o, none⟩ = false
  kr : ∀ (j : Nat) (n : Int), C.R[j]? = some n → W.cell? ⟨rb, ro + j, none⟩ = some (.int .i64 n)
  rz : ∀ o, W.frozen? ⟨rb, o, none⟩ = false
  om : Off fv ev qv F mb
  od : Off fv ev qv F rb
  ne : mb ≠ rb
  hm : mb < W.heap.size
  hr : rb < W.heap.size
  lm : lo ≤ mb
  lr : lo ≤ rb
  lb : lo ≤ base
  below : Below lo W0 W
  hb : base ≤ W0.heap.size
  keep : ∀ b o, b < base → b ≠ mb → b ≠ rb → W.cell? ⟨b, o, none⟩ = W0.cell? ⟨b, o, none⟩ ∧ W.frozen? ⟨b, o, none⟩ = W0.frozen? ⟨b, o, none⟩

/-- What a write in another block leaves. -/
theorem set_far {W : World} {a : Addr} {u : Value} {b o : Nat} (h : b ≠ a.block) : (W.setCell a u).cell? ⟨b, o, none⟩ = W.cell? ⟨b, o, none⟩ := World.cell?_setCell_other W a ⟨b, o, none⟩ u (fun e => h (by rw [e]))
theorem set_frozen {W : World} {a : Addr} {u : Value} {b o : Nat} : (W.setCell a u).frozen? ⟨b, o, none⟩ = W.frozen? ⟨b, o, none⟩ := by simp [go_sem]

theorem grown_far {W W' : World} {row : Option Nat} (hg : W.grownBy W' row) {b o : Nat} (hb : b < W.heap.size) (hn : some b ≠ row) : W'.cell? ⟨b, o, none⟩ = W.cell? ⟨b, o, none⟩ := World.cell?_of_block (a := ⟨b, o, none⟩) (hg.block b hb hn)
section
variable {W0 W W' : World} {lo base mb rb ro : Nat} {C : CoreD} {E : List EnclD} {F : List (FrameD × Value)} {fv ev qv : Value}
theorem St.later (h : St W0 lo base mb rb ro C E F fv ev qv W) (hb : Below W.heap.size W W') : St W0 lo base mb rb ro C E F fv ev qv W' := by
  have h1 := h.below.size
  have h2 := h.hm
  have h3 := h.hr
  have h4 := h.hb
  have h5 := h.lb
  have h6 := hb.size
  have fz : ∀ b o, b < W.heap.size → W'.frozen? ⟨b, o, none⟩ = W.frozen? ⟨b, o, none⟩ := (bcell hb).2
  exact ⟨h.own.below hb, h.hF, cell_later hb h.m0, cell_later hb h.m1, cell_later hb h.m2, fun o => by rw [fz _ _ h2]; exact h.mz o, fun j n hj => cell_later hb (h.kr j n hj), fun o => by rw [fz _ _ h3]; exact h.rz o, h.om, h.od, h.ne, by omega, by omega, h.lm, h.lr, h.lb,
    h.below.trans (hb.mono (by omega)), h4, fun b o hl h7 h8 => by rw [(bcell hb).1 _ _ (by omega), fz _ _ (by omega)]; exact h.keep b o hl h7 h8⟩

/-- A register is written. -/
theorem St.setR (h : St W0 lo base mb rb ro C E F fv ev qv W) {i : Nat} {o : Nat} (ho : o = ro + i) (n : Int) : St W0 lo base mb rb ro { C with R := C.R.set i n } E F fv ev qv (W.setCell ⟨rb, o, none⟩ (.int .i64 n)) := by
  subst ho
  have hne := h.ne
  have hs : (W.setCell ⟨rb, ro + i, none⟩ (.int .i64 n)).heap.size = W.heap.size := by simp
  refine ⟨h.own.setCell h.od.f h.od.e h.od.q h.od.w _, h.hF, by rw [set_far hne]; exact h.m0, by rw [set_far hne]; exact h.m1, by rw [set_far hne]; exact h.m2, fun o => by rw [set_frozen]; exact h.mz o, fun j m hj => ?_, fun o => by rw [set_frozen]; exact h.rz o, h.om, h.od, h.ne, by rw [hs]; exact h.hm, by rw [hs]; exact h.hr, h.lm, h.lr, h.lb,
    below_at h.below h.lr _ _, h.hb, fun b o hl h7 h8 => by rw [set_far h8, set_frozen]; exact h.keep b o hl h7 h8⟩
  simp only at hj
  by_cases hij : i = j
  · subst hij
    have hl : i < (C.R.set i n).length := (List.getElem?_eq_some_iff.1 hj).1
    rw [List.length_set] at hl
    rw [List.getElem?_set_self hl] at hj
    cases hj
    have k := h.kr i _ (List.getElem?_eq_getElem hl)
    go_simp
  · rw [List.getElem?_set_ne hij] at hj
    have k := h.kr j m hj
    have e2 : ro + i ≠ ro + j := by omega
    rw [← k]
    exact World.cell?_setCell_other W _ _ _ (fun e => e2 (Addr.mk.inj e).2.1)

/-- Another cell of the registers' box is written. -/
theorem St.setAt (h : St W0 lo base mb rb ro C E F fv ev qv W) {o : Nat} (ho : o < ro) (u : Value) (p : Int) : St W0 lo base mb rb ro { C with pc := p } E F fv ev qv (W.setCell ⟨rb, o, none⟩ u) := by
  have hne := h.ne
  have hs : (W.setCell ⟨rb, o, none⟩ u).heap.size = W.heap.size := by simp
  exact ⟨h.own.setCell h.od.f h.od.e h.od.q h.od.w _, h.hF, by rw [set_far hne]; exact h.m0, by rw [set_far hne]; exact h.m1, by rw [set_far hne]; exact h.m2, fun o => by rw [set_frozen]; exact h.mz o,
    fun j m hj => (World.cell?_setCell_other W _ _ _ (fun e => by have := (Addr.mk.inj e).2.1; omega)).trans (h.kr j m hj), fun o => by rw [set_frozen]; exact h.rz o, h.om, h.od, h.ne, by rw [hs]; exact h.hm, by rw [hs]; exact h.hr, h.lm, h.lr, h.lb,
    below_at h.below h.lr _ _, h.hb, fun b o hl h7 h8 => by rw [set_far h8, set_frozen]; exact h.keep b o hl h7 h8⟩

/-- One write into what the machine owns. -/
theorem St.set1 {F' : List (FrameD × Value)} {E' : List EnclD} {C' : CoreD} (h : St W0 lo base mb rb ro C E F fv ev qv W) {g o : Nat} {u : Value} (hg : base ≤ g) (hgm : g ≠ mb) (hgr : g ≠ rb) (hO : OwnMach base (W.setCell ⟨g, o, none⟩ u) fv ev qv F' E' C'.Q) (hF : F'.map Prod.fst = C'.F) (hR : C'.R = C.R)
    (om : Off fv ev qv F' mb) (od : Off fv ev qv F' rb) : St W0 lo base mb rb ro C' E' F' fv ev qv (W.setCell ⟨g, o, none⟩ u) := by
  have n1 : mb ≠ g := fun e => hgm e.symm
  have n2 : rb ≠ g := fun e => hgr e.symm
  have hs : (W.setCell ⟨g, o, none⟩ u).heap.size = W.heap.size := by simp
  have hlb := h.lb
  exact ⟨hO, hF, by rw [set_far n1]; exact h.m0, by rw [set_far n1]; exact h.m1, by rw [set_far n1]; exact h.m2, fun o => by rw [set_frozen]; exact h.mz o, fun j m hj => by rw [set_far n2]; exact h.kr j m (hR ▸ hj), fun o => by rw [set_frozen]; exact h.rz o, om, od, h.ne, by rw [hs]; exact h.hm, by rw [hs]; exact h.hr, h.lm, h.lr, h.lb,
    below_at h.below (by omega) _ _, h.hb, fun b o hl h7 h8 => by rw [set_far (by simp only [ne_eq]; omega), set_frozen]; exact h.keep b o hl h7 h8⟩

/-- A word of a frame is written. -/
theorem St.setW (h : St W0 lo base mb rb ro C E F fv ev qv W) {g c i k : Nat} {x : FrameD} {n : Int} (hm : x.words.length = 8) (hx : F[i]? = some (x, .slice (some ⟨g, 0, none⟩) 8 c)) :
    St W0 lo base mb rb ro { C with F := setWord C.F (i, k) n } E (F.set i ({ x with words := x.words.set k n }, .slice (some ⟨g, 0, none⟩) 8 c)) fv ev qv (W.setCell ⟨g, k, none⟩ (.int .i64 n)) := by
  have hw := (h.own.f.sub i _ hx).1
  have hg := (hw.lt g rfl).1
  refine h.set1 hg (h.om.w i _ hx g rfl) (h.od.w i _ hx g rfl) (h.own.setW hm hx) ?_ rfl (h.om.set (h.om.w i _ hx)) (h.od.set (h.od.w i _ hx))
  have hx2 : C.F[i]? = some x := by rw [← h.hF, List.getElem?_map, hx]; rfl
  rw [map_set_fst, h.hF]
  simp only [setWord]
  rw [upd_some hx2]

/-- One cell of an enclave is written. -/
theorem St.setE {g m c i j : Nat} {x x' : EnclD} {u : Value} (h : St W0 lo base mb rb ro C E F fv (.slice (some ⟨g, 0, none⟩) m c) qv W) (hm : E.length = m) (hx : E[i]? = some x) (hj : j < 7) (hu : x'.cs = x.cs.set j u) :
    St W0 lo base mb rb ro C (E.set i x') F fv (.slice (some ⟨g, 0, none⟩) m c) qv (W.setCell ⟨g, i * 7 + j, none⟩ u) :=
  h.set1 (h.own.e.lt g rfl).1 (h.om.e g rfl) (h.od.e g rfl) (h.own.setE hm hx hj hu) h.hF rfl h.om h.od
theorem St.setEncl {g m c i : Nat} {x : EnclD} (h : St W0 lo base mb rb ro C E F fv (.slice (some ⟨g, 0, none⟩) m c) qv W) (hm : E.length = m) (hx : E[i]? = some x) (y : EnclD) :
    St W0 lo base mb rb ro C (E.set i y) F fv (.slice (some ⟨g, 0, none⟩) m c) qv (((((((W.setCell ⟨g, i * 7, none⟩ (.int .i64 y.state)).setCell ⟨g, i * 7 + 1, none⟩ (.string y.log)).setCell ⟨g, i * 7 + 2, none⟩ (.int .i64 y.pc)).setCell ⟨g, i * 7 + 3, none⟩ (.int .i64 y.r0)).setCell ⟨g, i * 7 + 4, none⟩ (.int .i64 y.r1)).setCell ⟨g, i * 7 + 5, none⟩ (.int .i64 y.r2)).setCell ⟨g, i * 7 + 6, none⟩ (.int .i64 y.r3)) := by
  subst hm
  have hi : i < E.length := (List.getElem?_eq_some_iff.1 hx).1
  have step : ∀ {W : World} {x' : EnclD} (j : Nat) (u : Value) (x'' : EnclD), St W0 lo base mb rb ro C (E.set i x') F fv (.slice (some ⟨g, 0, none⟩) E.length c) qv W → j < 7 → x''.cs = x'.cs.set j u → St W0 lo base mb rb ro C (E.set i x'') F fv (.slice (some ⟨g, 0, none⟩) E.length c) qv (W.setCell ⟨g, i * 7 + j, none⟩ u) := fun {W x'} j u x'' h hj hu => by
    have := h.setE (i := i) (j := j) (x := x') (x' := x'') (u := u) (by simp) (by rw [List.getElem?_set_self hi]) hj hu
    rwa [List.set_set] at this
  have h0 : St W0 lo base mb rb ro C (E.set i x) F fv (.slice (some ⟨g, 0, none⟩) E.length c) qv W := by rw [set_self hx]; exact h
  have h1 := step 0 (.int .i64 y.state) ⟨y.state, x.log, x.pc, x.r0, x.r1, x.r2, x.r3⟩ h0 (by decide) rfl
  have h2 := step 1 (.string y.log) ⟨y.state, y.log, x.pc, x.r0, x.r1, x.r2, x.r3⟩ h1 (by decide) rfl
  have h3 := step 2 (.int .i64 y.pc) ⟨y.state, y.log, y.pc, x.r0, x.r1, x.r2, x.r3⟩ h2 (by decide) rfl
  have h4 := step 3 (.int .i64 y.r0) ⟨y.state, y.log, y.pc, y.r0, x.r1, x.r2, x.r3⟩ h3 (by decide) rfl
  have h5 := step 4 (.int .i64 y.r1) ⟨y.state, y.log, y.pc, y.r0, y.r1, x.r2, x.r3⟩ h4 (by decide) rfl
  have h6 := step 5 (.int .i64 y.r2) ⟨y.state, y.log, y.pc, y.r0, y.r1, y.r2, x.r3⟩ h5 (by decide) rfl
  exact step 6 (.int .i64 y.r3) y h6 (by decide) rfl

/-- A quote is appended, and the box told of it. -/
theorem OwnRows.kept {fc : FrameD × Value → List Value} {ws : FrameD → List Int} {T k : Nat} {ov v : Value} (h : OwnRows fc ws T k base W ov F) (hg : W.grownBy W' v.ownBlock) (ho : Apart ov v) (hw : ∀ (i : Nat) (p : FrameD × Value), F[i]? = some p → Apart p.2 v) : OwnRows fc ws T k base W' ov F := by
  have hk : ∀ {u : Value} {e s m : Nat} {xs : List Value}, W.ownsRow base e s u m xs → Apart u v → W'.ownsRow base e s u m xs := fun {u e s m xs} hu ha => hu.kept hg (by
    cases hvb : u.ownBlock with
    | none => exact .inl rfl
    | some b => exact .inr fun e => ha b hvb e.symm)
  exact ⟨hk h.row ho, fun i p hp => ⟨hk (h.sub i p hp).1 (hw i p hp), (h.sub i p hp).2⟩, h.dis⟩
theorem OwnMach.pushQ {Q : List QuoteD} (h : OwnMach base W fv ev qv F E Q) (q : QuoteD) {g n cap : Nat} (hrow : W'.ownsRow base 50 2 (.slice (some ⟨g, 0, none⟩) n cap) n (Q.flatMap QuoteD.cs ++ q.cs)) (hn : n = Q.length + 1) (hg : W.grownBy W' qv.ownBlock) (hat : qv.ownBlock = some g ∨ g = W.heap.size) :
    OwnMach base W' fv ev (.slice (some ⟨g, 0, none⟩) n cap) F E (Q ++ [q]) := by
  subst hn
  have hne : ∀ {u : Value} {e s m : Nat} {xs : List Value}, W.ownsRow base e s u m xs → Apart u qv → Apart u (.slice (some ⟨g, 0, none⟩) (Q.length + 1) cap) := fun hu ha k hk hk' => by
    simp only [Value.ownBlock, Option.some.injEq] at hk'
    subst hk'
    rcases hat with e | e
    · exact ha g hk e
    · have := (hu.lt g hk).2
      omega
  have hk : W'.ownsRow base 43 7 ev E.length (E.flatMap EnclD.cs) := h.e.kept hg (by
    cases hvb : ev.ownBlock with
    | none => exact .inl rfl
    | some b => exact .inr fun e => h.eq b hvb e.symm)
  refine ⟨h.f.kept hg h.fq h.wq, hk, ?_, h.fe, hne h.f.row h.fq, hne h.e h.eq, h.we, fun i p hp => hne (h.f.sub i p hp).1 (h.wq i p hp)⟩
  rw [List.length_append, List.flatMap_append]
  simpa using hrow
theorem St.pushQ (h : St W0 lo base mb rb ro C E F fv ev qv W) (q : QuoteD) {g n cap : Nat} (hrow : W'.ownsRow base 50 2 (.slice (some ⟨g, 0, none⟩) n cap) n (C.Q.flatMap QuoteD.cs ++ q.cs)) (hn : n = C.Q.length + 1) (hg : W.grownBy W' qv.ownBlock) (hat : qv.ownBlock = some g ∨ g = W.heap.size) :
    St W0 lo base mb rb ro { C with Q := C.Q ++ [q] } E F fv ev (.slice (some ⟨g, 0, none⟩) n cap) (W'.setCell ⟨mb, 2, none⟩ (.slice (some ⟨g, 0, none⟩) n cap)) := by
  have hO := h.own.pushQ q hrow hn hg hat
  have hgs := hg.size
  have h1 := h.hm
  have h2 := h.hr
  have h3 := h.hb
  have h4 := h.below.size
  have h5 := h.lb
  have hgm : ∀ b, NotAt qv b → b < W.heap.size → NotAt (.slice (some ⟨g, 0, none⟩) n cap) b := fun b hq hb k hk => by
    simp only [Value.ownBlock, Option.some.injEq] at hk
    subst hk
    rcases hat with e | e
    · exact hq g e
    · omega
  have om : Off fv ev (.slice (some ⟨g, 0, none⟩) n cap) F mb := ⟨h.om.f, h.om.e, hgm _ h.om.q h1, h.om.w⟩
  have od : Off fv ev (.slice (some ⟨g, 0, none⟩) n cap) F rb := ⟨h.od.f, h.od.e, hgm _ h.od.q h2, h.od.w⟩
  have no : ∀ b, NotAt qv b → some b ≠ qv.ownBlock := fun b hq e => hq b e.symm rfl
  have hqb : ∀ k, qv.ownBlock = some k → base ≤ k := fun k hk => (h.own.q.lt k hk).1
  have s1 : (W'.setCell ⟨mb, 2, none⟩ (.slice (some ⟨g, 0, none⟩) n cap)).heap.size = W'.heap.size := by simp
  have n1 : rb ≠ mb := fun e => h.ne e.symm
  have c0 := hg.cell h.m0 (no _ h.om.q)
  have c1 := hg.cell h.m1 (no _ h.om.q)
  have c2 := hg.cell h.m2 (no _ h.om.q)
  refine ⟨hO.setCell om.f om.e om.q om.w _, h.hF, by go_simp, by go_simp, by go_simp, fun o => ?_, fun j m hj => ?_, fun o => ?_, om, od, h.ne, by rw [s1]; omega, by rw [s1]; omega, h.lm, h.lr, h.lb,
    below_at (h.below.grown hg (by omega) (fun k hk => by have := hqb k hk; omega)) h.lm _ _, h.hb, fun b o hl h7 h8 => ?_⟩
  · rw [set_frozen, hg.frozen_far ⟨mb, o, none⟩ h1 (no _ h.om.q)]; exact h.mz o
  · rw [set_far n1]; exact hg.cell (h.kr j m hj) (no _ h.od.q)
  · rw [set_frozen, hg.frozen_far ⟨rb, o, none⟩ h2 (no _ h.od.q)]; exact h.rz o
  · have nb : some b ≠ qv.ownBlock := fun e => by have := hqb b e.symm; omega
    rw [set_far h7, set_frozen, hg.frozen_far ⟨b, o, none⟩ (by simp only; omega) nb, grown_far hg (by omega) nb]
    exact h.keep b o hl h7 h8
end

/-- run's core in memory. -/
structure Co (W0 : World) (lo base mb cb : Nat) (e : Int) (C : CoreD) (E : List EnclD) (F : List (FrameD × Value)) (fv ev qv : Value) (W : World) : Prop where
  st : St W0 lo base mb cb 3 C E F fv ev qv W
  k0 : W.cell? ⟨cb, 0, none⟩ = some (.pointer (some ⟨mb, 0, none⟩))
  k1 : W.cell? ⟨cb, 1, none⟩ = some (.int .i64 e)
  k2 : W.cell? ⟨cb, 2, none⟩ = some (.int .i64 C.pc)
section
variable {W0 W W' : World} {lo base mb cb : Nat} {e : Int} {C : CoreD} {E : List EnclD} {F : List (FrameD × Value)} {fv ev qv : Value}
theorem cell_off {W : World} {b o o' : Nat} {u v : Value} (h : W.cell? ⟨b, o, none⟩ = some v) (ho : o ≠ o') : (W.setCell ⟨b, o', none⟩ u).cell? ⟨b, o, none⟩ = some v := (World.cell?_setCell_other W _ _ _ (fun e => ho (Addr.mk.inj e).2.1.symm)).trans h
theorem Co.later (h : Co W0 lo base mb cb e C E F fv ev qv W) (hb : Below W.heap.size W W') : Co W0 lo base mb cb e C E F fv ev qv W' :=
  ⟨h.st.later hb, cell_later hb h.k0, cell_later hb h.k1, cell_later hb h.k2⟩
theorem Co.setR (h : Co W0 lo base mb cb e C E F fv ev qv W) {i o : Nat} (ho : o = 3 + i) (n : Int) : Co W0 lo base mb cb e { C with R := C.R.set i n } E F fv ev qv (W.setCell ⟨cb, o, none⟩ (.int .i64 n)) :=
  ⟨h.st.setR ho n, cell_off h.k0 (by omega), cell_off h.k1 (by omega), cell_off h.k2 (by omega)⟩
theorem Co.setPc (h : Co W0 lo base mb cb e C E F fv ev qv W) (n : Int) : Co W0 lo base mb cb e { C with pc := n } E F fv ev qv (W.setCell ⟨cb, 2, none⟩ (.int .i64 n)) :=
  ⟨h.st.setAt (by decide) _ n, cell_off h.k0 (by decide), cell_off h.k1 (by decide), World.cell?_setCell_same W _ _ h.k2⟩
theorem Co.setW (h : Co W0 lo base mb cb e C E F fv ev qv W) {g c i k : Nat} {x : FrameD} {n : Int} (hm : x.words.length = 8) (hx : F[i]? = some (x, .slice (some ⟨g, 0, none⟩) 8 c)) :
    Co W0 lo base mb cb e { C with F := setWord C.F (i, k) n } E (F.set i ({ x with words := x.words.set k n }, .slice (some ⟨g, 0, none⟩) 8 c)) fv ev qv (W.setCell ⟨g, k, none⟩ (.int .i64 n)) := by
  have hn : cb ≠ g := fun e => h.st.od.w i _ hx g rfl e.symm
  exact ⟨h.st.setW hm hx, by rw [set_far hn]; exact h.k0, by rw [set_far hn]; exact h.k1, by rw [set_far hn]; exact h.k2⟩
theorem Co.pushQ (h : Co W0 lo base mb cb e C E F fv ev qv W) (q : QuoteD) {g n cap : Nat} (hrow : W'.ownsRow base 50 2 (.slice (some ⟨g, 0, none⟩) n cap) n (C.Q.flatMap QuoteD.cs ++ q.cs)) (hn : n = C.Q.length + 1) (hg : W.grownBy W' qv.ownBlock) (hat : qv.ownBlock = some g ∨ g = W.heap.size) :
    Co W0 lo base mb cb e { C with Q := C.Q ++ [q] } E F fv ev (.slice (some ⟨g, 0, none⟩) n cap) (W'.setCell ⟨mb, 2, none⟩ (.slice (some ⟨g, 0, none⟩) n cap)) := by
  have hq : some cb ≠ qv.ownBlock := fun e => h.st.od.q cb e.symm rfl
  have hne : cb ≠ mb := fun e => h.st.ne e.symm
  exact ⟨h.st.pushQ q hrow hn hg hat, by rw [set_far hne]; exact hg.cell h.k0 hq, by rw [set_far hne]; exact hg.cell h.k1 hq, by rw [set_far hne]; exact hg.cell h.k2 hq⟩
theorem St.frames (h : St W0 lo base mb cb 3 C E F fv ev qv W) (hl : C.F.length = 24) : F.length = 24 := by rw [← h.hF, List.length_map] at hl; exact hl

/-- core.at: the word at an address, or nil. -/
theorem coreAt (h : Co W0 lo base mb cb e C E F fv ev qv W) (hc : CoreOk C) (n right : Int) (hn : 0 ≤ n) (hh : n ≤ 1000000) (hr : right = 1 ∨ right = 2 ∨ right = 4) : Calls Try.prog 31 #[.pointer (some ⟨cb, 0, none⟩), .int .i64 n, .int .i64 right] W fun x w' => Below W.heap.size W w' ∧
    ((cellOf C.F e n right = none ∧ x = .returned (.pointer none)) ∨ ∃ (i k : Nat) (y : FrameD) (g c : Nat) (v : Int), cellOf C.F e n right = some (i, k) ∧ F[i]? = some (y, .slice (some ⟨g, 0, none⟩) 8 c) ∧ y.words.length = 8 ∧ y.words[k]? = some v ∧ wordAt C.F (i, k) = v ∧ 0 ≤ v ∧ v ≤ 65535 ∧ W.cell? ⟨g, k, none⟩ = some (.int .i64 v) ∧ (∀ o, W.frozen? ⟨g, o, none⟩ = false) ∧ g < W.heap.size ∧ g ≠ cb ∧ x = .returned (.pointer (some ⟨g, k, none⟩))) := by
  have hl := h.st.frames hc.len
  have h8 : ∀ (i : Nat) (p : FrameD × Value), F[i]? = some p → C.F[i]? = some p.1 := fun i p hp => by rw [← h.st.hF, List.getElem?_map, hp]; rfl
  have o1 := h.st.own.f.row
  rw [hl] at o1
  obtain ⟨f, c1, hfv, _, _⟩ := own_some o1 (by decide)
  have hO := h.st.own
  have m0 := h.st.m0
  rw [hfv] at hO m0
  have hR : Calls Try.prog 31 #[.pointer (some ⟨cb, 0, none⟩), .int .i64 n, .int .i64 right] W (AtRes F e n right W) := by
    by_cases h64 : 64 ≤ n
    · exact coreAt_hi base cb mb f c1 ev qv F E C.Q e n right W hO hl (fun i p hp => (hc.fr i _ (h8 i p hp)).1) h.k0 m0 h64 hh
    · exact coreAt_lo base cb mb f c1 ev qv F E C.Q e n right W hO hl (fun i p hp => ⟨(hc.fr i _ (h8 i p hp)).1, (hc.fr i _ (h8 i p hp)).2.2.1, (hc.fr i _ (h8 i p hp)).2.2.2.1⟩) h.k0 h.k1 m0 h.st.m1 h.st.m2 (by omega) hn hr
  refine hR.mono ?_
  rintro x w' ⟨hb, hx⟩
  rw [h.st.hF] at hx
  refine ⟨hb, ?_⟩
  rcases hx with hx | ⟨i, k, y, g, c, hcell, hF, hk, rfl⟩
  · exact .inl hx
  · obtain ⟨hy8, hyw, _⟩ := hc.fr i y (h8 i _ hF)
    obtain ⟨v, hv⟩ : ∃ v, y.words[k]? = some v := ⟨_, List.getElem?_eq_getElem (by omega)⟩
    obtain ⟨kc, kz⟩ := h.st.own.wordAt hF hv
    obtain ⟨hv0, hv1⟩ := hyw k v hv
    refine .inr ⟨i, k, y, g, c, v, hcell, hF, hy8, hv, ?_, hv0, hv1, kc, kz, ((h.st.own.f.sub i _ hF).1.lt g rfl).2, h.st.od.w i _ hF g rfl, rfl⟩
    simp [wordAt, h8 i _ hF, hv]
end

end Go.Proofs.Ytlbjdjjdafnemaa
