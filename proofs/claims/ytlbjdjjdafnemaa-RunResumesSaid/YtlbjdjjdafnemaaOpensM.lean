/- A machine that comes in, opened. No condition beyond the form's own. -/
import Derived.Test.YtlbjdjjdafnemaaOpens
namespace Go.Proofs.Ytlbjdjjdafnemaa
open Go.ChangeShapes Go.WideShapes Go.ChangeAt Go.RowKit

section
variable {H : Type} {enc : TypeId × Value → H} {w : World}
theorem cFrame : Try.prog.cellsOf 39 = 4 := by kernel_rfl
theorem bFrame : Try.prog.bytesOf 39 = 48 := by kernel_rfl
theorem cEncl : Try.prog.cellsOf 43 = 7 := by kernel_rfl
theorem bEncl : Try.prog.bytesOf 43 = 64 := by kernel_rfl
theorem cQuote : Try.prog.cellsOf 50 = 2 := by kernel_rfl
theorem bQuote : Try.prog.bytesOf 50 = 24 := by kernel_rfl
theorem cArr : Try.prog.cellsOf 41 = 4 := by kernel_rfl

set_option maxRecDepth 100000 in
theorem rd_quotes {cs : List Value} (h : Rd enc Try.prog w 24 cs) : ∃ a l cap, cs = [.slice a (List.length l) cap] ∧ l.length * 24 ≤ 140737488351232 ∧ QuotesAt w a l ∧ ∀ q ∈ l, q.log.size ≤ reachBytes := by
  obtain ⟨a, n, cap, rfl, hcap, hz, hi⟩ := h.slice Try.underlying24 (by rw [cQuote]; decide)
  obtain ⟨l, hl, hr⟩ := choose_list (R := fun i (x : QuoteD) => (∃ b off, a = some ⟨b, off, none⟩ ∧ w.cell? ⟨b, off + i * 2, none⟩ = some (.string x.log) ∧ w.cell? ⟨b, off + i * 2 + 1, none⟩ = some (.int .i64 x.data)) ∧ x.log.size ≤ reachBytes) fun i him => by
    obtain ⟨b, off, cs', ha, hcl, hc, hx⟩ := hi i him
    rw [cQuote] at hcl hc
    match cs', hcl with
    | [u0, u1], _ =>
      obtain ⟨x0, e0, z0⟩ := (rd_field1 Try.underlying50 hx 0 rfl cStr u0 rfl).string Try.underlying9
      obtain ⟨x1, e1, _⟩ := (rd_field1 Try.underlying50 hx 1 rfl cInt u1 rfl).int Try.underlying3
      cases e0; cases e1
      exact ⟨⟨x0, x1⟩, ⟨b, off, ha, hc 0 _ rfl, by have := hc 1 _ rfl; rw [← Nat.add_assoc] at this; exact this⟩, z0⟩
  rw [bQuote, reach_eq] at hz
  subst hl
  refine ⟨a, l, cap, rfl, hz, fun i x hx => (hr i x hx).1, fun s hs => ?_⟩
  obtain ⟨j, hj, rfl⟩ := List.getElem_of_mem hs
  exact (hr j _ (List.getElem?_eq_getElem hj)).2

set_option maxRecDepth 100000 in
theorem rd_encls {cs : List Value} (h : Rd enc Try.prog w 23 cs) : ∃ a l cap, cs = [.slice a (List.length l) cap] ∧ l.length * 64 ≤ 140737488351232 ∧ EnclsAt w a l ∧ ∀ x ∈ l, x.log.size ≤ reachBytes := by
  obtain ⟨a, n, cap, rfl, hcap, hz, hi⟩ := h.slice Try.underlying23 (by rw [cEncl]; decide)
  obtain ⟨l, hl, hr⟩ := choose_list (R := fun i (x : EnclD) => (∃ b off, a = some ⟨b, off, none⟩ ∧ w.cell? ⟨b, off + i * 7, none⟩ = some (.int .i64 x.state) ∧ w.cell? ⟨b, off + i * 7 + 1, none⟩ = some (.string x.log) ∧
    w.cell? ⟨b, off + i * 7 + 2, none⟩ = some (.int .i64 x.pc) ∧ w.cell? ⟨b, off + i * 7 + 3, none⟩ = some (.int .i64 x.r0) ∧ w.cell? ⟨b, off + i * 7 + 4, none⟩ = some (.int .i64 x.r1) ∧
    w.cell? ⟨b, off + i * 7 + 5, none⟩ = some (.int .i64 x.r2) ∧ w.cell? ⟨b, off + i * 7 + 6, none⟩ = some (.int .i64 x.r3)) ∧ x.log.size ≤ reachBytes) fun i him => by
    obtain ⟨b, off, cs', ha, hcl, hc, hx⟩ := hi i him
    rw [cEncl] at hcl hc
    match cs', hcl with
    | [u0, u1, u2, u3, u4, u5, u6], _ =>
      obtain ⟨x0, e0, _⟩ := (rd_field1 Try.underlying43 hx 0 rfl cInt u0 rfl).int Try.underlying3
      obtain ⟨x1, e1, z1⟩ := (rd_field1 Try.underlying43 hx 1 rfl cStr u1 rfl).string Try.underlying9
      obtain ⟨x2, e2, _⟩ := (rd_field1 Try.underlying43 hx 2 rfl cInt u2 rfl).int Try.underlying3
      have h3 : Rd enc Try.prog w 41 (([u0, u1, u2, u3, u4, u5, u6].drop 3).take (Try.prog.cellsOf 41)) := (hx.struct Try.underlying43).2 3 _ rfl
      rw [cArr] at h3
      have h4 := (h3.array Try.underlying41).2
      rw [cInt] at h4
      obtain ⟨x3, e3, _⟩ := (h4 0 (by decide)).int Try.underlying3
      obtain ⟨x4, e4, _⟩ := (h4 1 (by decide)).int Try.underlying3
      obtain ⟨x5, e5, _⟩ := (h4 2 (by decide)).int Try.underlying3
      obtain ⟨x6, e6, _⟩ := (h4 3 (by decide)).int Try.underlying3
      cases e0; cases e1; cases e2; cases e3; cases e4; cases e5; cases e6
      have g := fun (j : Nat) (u : Value) (hu : [Value.int .i64 x0, .string x1, .int .i64 x2, .int .i64 x3, .int .i64 x4, .int .i64 x5, .int .i64 x6][j]? = some u) => (show World.cell? w ⟨b, off + i * 7 + j, none⟩ = some u from by have := hc j u hu; rw [← Nat.add_assoc] at this; exact this)
      exact ⟨⟨x0, x1, x2, x3, x4, x5, x6⟩, ⟨b, off, ha, hc 0 _ rfl, g 1 _ rfl, g 2 _ rfl, g 3 _ rfl, g 4 _ rfl, g 5 _ rfl, g 6 _ rfl⟩, z1⟩
  rw [bEncl, reach_eq] at hz
  subst hl
  refine ⟨a, l, cap, rfl, hz, fun i x hx => (hr i x hx).1, fun s hs => ?_⟩
  obtain ⟨j, hj, rfl⟩ := List.getElem_of_mem hs
  exact (hr j _ (List.getElem?_eq_getElem hj)).2

set_option maxRecDepth 100000 in
theorem rd_frames {cs : List Value} (h : Rd enc Try.prog w 22 cs) : ∃ a l cap, cs = [.slice a (List.length l) cap] ∧ l.length ≤ cap ∧ l.length * 48 ≤ 140737488351232 ∧ FramesAt w a l ∧ ∀ (i : Nat) (x : FrameD), l[i]? = some x → x.words.length * 8 ≤ 140737488351232 := by
  obtain ⟨a, n, cap, rfl, hcap, hz, hi⟩ := h.slice Try.underlying22 (by rw [cFrame]; decide)
  obtain ⟨l, hl, hr⟩ := choose_list (R := fun i (x : FrameD) => (∃ b off wa wc, a = some ⟨b, off, none⟩ ∧ w.cell? ⟨b, off + i * 4, none⟩ = some (.int .i64 x.owner) ∧ w.cell? ⟨b, off + i * 4 + 1, none⟩ = some (.int .i64 x.pl) ∧
    w.cell? ⟨b, off + i * 4 + 2, none⟩ = some (.int .i64 x.rights) ∧ w.cell? ⟨b, off + i * 4 + 3, none⟩ = some (.slice wa x.words.length wc) ∧ IntsAt w wa x.words) ∧ x.words.length * 8 ≤ 140737488351232) fun i him => by
    obtain ⟨b, off, cs', ha, hcl, hc, hx⟩ := hi i him
    rw [cFrame] at hcl hc
    match cs', hcl with
    | [u0, u1, u2, u3], _ =>
      obtain ⟨x0, e0, _⟩ := (rd_field1 Try.underlying39 hx 0 rfl cInt u0 rfl).int Try.underlying3
      obtain ⟨x1, e1, _⟩ := (rd_field1 Try.underlying39 hx 1 rfl cInt u1 rfl).int Try.underlying3
      obtain ⟨x2, e2, _⟩ := (rd_field1 Try.underlying39 hx 2 rfl cInt u2 rfl).int Try.underlying3
      obtain ⟨wa, wl, wc, e3, z3, r3⟩ := rd_ints (rd_field1 Try.underlying39 hx 3 rfl cInts u3 rfl)
      cases e0; cases e1; cases e2; cases e3
      have g := fun (j : Nat) (u : Value) (hu : [Value.int .i64 x0, .int .i64 x1, .int .i64 x2, .slice wa wl.length wc][j]? = some u) => (show World.cell? w ⟨b, off + i * 4 + j, none⟩ = some u from by have := hc j u hu; rw [← Nat.add_assoc] at this; exact this)
      exact ⟨⟨x0, x1, x2, wl⟩, ⟨b, off, wa, wc, ha, hc 0 _ rfl, g 1 _ rfl, g 2 _ rfl, g 3 _ rfl, r3⟩, z3⟩
  rw [bFrame, reach_eq] at hz
  subst hl
  exact ⟨a, l, cap, rfl, hcap, hz, fun i x hx => (hr i x hx).1, fun i x hx => (hr i x hx).2⟩

/-- Every text of the machine is within the reach. -/
def MachD.Logs (M : MachD) : Prop := (∀ x ∈ M.encl, x.log.size ≤ reachBytes) ∧ ∀ q ∈ M.quotes, q.log.size ≤ reachBytes
set_option maxRecDepth 100000 in
theorem rd_mach {v : Value} {b0 : Nat} (hv : Value.okWide Try.prog w .any b0 26 v) (h : Rd enc Try.prog w 26 v.cells.toList) : ∃ M : MachD, MachAt w v M ∧ M.Fits ∧ M.Logs := by
  obtain ⟨cs, rfl, hsz⟩ := okWide_struct Try.underlying26 hv
  obtain ⟨l⟩ := cs
  match l, hsz.trans (show Try.prog.cellsOf 26 = 3 by kernel_rfl) with
  | [u0, u1, u2], _ =>
    obtain ⟨a0, l0, c0, e0, y0, z0, r0, s0⟩ := rd_frames (rd_field1 Try.underlying26 h 0 rfl (by kernel_rfl) u0 rfl)
    obtain ⟨a1, l1, c1, e1, z1, r1, s1⟩ := rd_encls (rd_field1 Try.underlying26 h 1 rfl (by kernel_rfl) u1 rfl)
    obtain ⟨a2, l2, c2, e2, z2, r2, s2⟩ := rd_quotes (rd_field1 Try.underlying26 h 2 rfl (by kernel_rfl) u2 rfl)
    cases e0; cases e1; cases e2
    exact ⟨⟨l0, l1, l2⟩, ⟨_, _, _, _, _, _, rfl, r0, r1, r2, y0⟩, ⟨z0, z1, z2, s0⟩, ⟨s1, s2⟩⟩
end

end Go.Proofs.Ytlbjdjjdafnemaa
