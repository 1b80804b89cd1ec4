/- Small laws for the two laws on little programs: rows of ints joined, an instruction's words, a machine's frames. Conditions: those that each contract writes. -/
import Derived.Test.YtbamacddfonloaaDoorKeepBuilt
import Derived.Test.YtbamacddfonloaaDoorGx
namespace Go.Proofs.YtbamacddfonloaaDoor
open Go.RowKit

theorem CellsAt.new {W : World} {n : Nat} (hn : W.heap.size = n) (cs : Array Value) (t : TypeId) : CellsAt (W.alloc (.cells cs t)) (some ⟨n, 0, none⟩) cs.toList := fun j u hj => by
  have := news_new hn cs t j u hj
  rw [add_plain] at this
  exact ⟨n, 0, rfl, this⟩
set_option maxHeartbeats 400000 in
theorem instr_is (op a b c v : Int) (w : World) (ho : 0 ≤ op ∧ op ≤ 15) (ha : 0 ≤ a ∧ a ≤ 3) (hb : 0 ≤ b ∧ b ≤ 3) (hv : op + 16 * a + 256 * b = v) :
    Calls Tryd.prog 20 #[.int .i64 op, .int .i64 a, .int .i64 b, .int .i64 c] w fun e w' => e = .returned (.slice (some ⟨w.heap.size, 0, none⟩) 2 2) ∧ w' = w.alloc (.cells #[.int .i64 v, .int .i64 c] 3) := by
  have e1 : IntKind.i64.wrap (16 * a) = 16 * a := by rw [IntKind.wrap_i64]; omega
  have e2 : IntKind.i64.wrap (op + 16 * a) = op + 16 * a := by rw [IntKind.wrap_i64]; omega
  have e3 : IntKind.i64.wrap (256 * b) = 256 * b := by rw [IntKind.wrap_i64]; omega
  have e4 : IntKind.i64.wrap (op + 16 * a + 256 * b) = op + 16 * a + 256 * b := by rw [IntKind.wrap_i64]; omega
  subst hv
  go_enter Tryd.func20, Tryd.ntmps20
  go_wp2_with fail
  go_ret
  exact ⟨rfl, rfl⟩
theorem mach_frames {W : World} {fa ea qa : Option Addr} {fn fc en ec qn qc : Nat} {M : MachD} (h : MachAt W (.agg #[.slice fa fn fc, .slice ea en ec, .slice qa qn qc]) M) : FramesAt W fa M.frames := by
  obtain ⟨x0, x1, x2, x3, x4, x5, ex, hF, _, _⟩ := h
  simp only [Value.agg.injEq, Array.mk.injEq, List.cons.injEq, Value.slice.injEq, and_true] at ex
  obtain ⟨⟨rfl, _, _⟩, _⟩ := ex
  exact hF

theorem mach_encls {W : World} {fa ea qa : Option Addr} {fn fc en ec qn qc : Nat} {M : MachD} (h : MachAt W (.agg #[.slice fa fn fc, .slice ea en ec, .slice qa qn qc]) M) : EnclsAt W ea M.encl := by
  obtain ⟨x0, x1, x2, x3, x4, x5, ex, _, hE, _⟩ := h
  simp only [Value.agg.injEq, Array.mk.injEq, List.cons.injEq, Value.slice.injEq, and_true] at ex
  obtain ⟨_, ⟨rfl, _, _⟩, _⟩ := ex
  exact hE
theorem concatIs (xa : Option Addr) (K : List RowI) (m mc : Nat) (l : List Int) (n : Nat) (w : World) (hm : K.length = m) (hm2 : m ≤ 1000) (hl : K.flatMap RowI.l = l) (hn0 : l.length = n) (hx : CellsAt w xa (K.map RowI.v)) (hp : ∀ p ∈ K, CellsAt w p.a (intCells p.l)) (hn : n * 8 ≤ 140737488351232) :
    Calls Tryd.prog 19 #[.slice xa m mc] w (OwnRes w.heap.size 3 1 n (intCells l) w) := by
  subst hn0
  subst hl
  exact concatI xa K m mc w hm hm2 hx hp hn

end Go.Proofs.YtbamacddfonloaaDoor
