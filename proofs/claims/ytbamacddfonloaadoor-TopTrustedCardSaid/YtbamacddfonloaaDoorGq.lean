/- Raw things: their data, how memory reads as them, the code and the image made of them. No program is walked.
riddlekeep.Code (of sixteen words), walked. Conditions: the numbers are of int. -/
import Derived.Test.YtbamacddfonloaaDoorGa
import Derived.Test.YtbamacddfonloaaDoorGb
import Derived.Test.YtbamacddfonloaaDoorGc
import Derived.Test.YtbamacddfonloaaDoorGd
import Derived.Deep.Cut
import Derived.Deep.CutRange
import Derived.Deep.CutBlock
import Derived.Deep.RegionHeld3
namespace Go.Proofs.YtbamacddfonloaaDoor
open Go.ChangeShapes Go.WideShapes Go.ChangeAt Go.RowKit

structure RawD where
  kind : Int
  a : Int
  b : Int
  c : Int
def RawD.Ok (x : RawD) : Prop := Is64 x.kind ∧ Is64 x.a ∧ Is64 x.b ∧ Is64 x.c
def RawsAt (w : World) (a : Option Addr) (l : List RawD) : Prop :=
  ∀ i x, l[i]? = some x → ∃ b off, a = some ⟨b, off, none⟩ ∧ w.cell? ⟨b, off + i * 4, none⟩ = some (.int .i64 x.kind) ∧ w.cell? ⟨b, off + i * 4 + 1, none⟩ = some (.int .i64 x.a) ∧
    w.cell? ⟨b, off + i * 4 + 2, none⟩ = some (.int .i64 x.b) ∧ w.cell? ⟨b, off + i * 4 + 3, none⟩ = some (.int .i64 x.c)
theorem RawsAt.mono {w w' : World} {a : Option Addr} {l : List RawD} (h : RawsAt w a l) (hb : Below w.heap.size w w') : RawsAt w' a l := fun i x hx => by
  obtain ⟨b, off, e, h0, h1, h2, h3⟩ := h i x hx
  exact ⟨b, off, e, cell_later hb h0, cell_later hb h1, cell_later hb h2, cell_later hb h3⟩

def opD (x : RawD) : Int := 1 + pickD x.kind 9
def argD (x : RawD) : Int := if opD x = 7 then pickD x.c 8 * 2 else if opD x = 1 ∧ pickD x.b 3 = 0 then 64 + pickD x.c 40 else if opD x = 1 ∧ pickD x.b 3 = 1 then 16 + pickD x.c 16 else pickD x.c 70
def insD (op a b c : Int) : List Int := [op + 16 * a + 256 * b, c]
def rawI (x : RawD) : List Int := insD (opD x) (pickD x.a 4) (pickD x.b 4) (argD x)
/-- How many raw things become code. -/
def usedD (l : List RawD) : Nat := min l.length 7
def codeT (l : List RawD) (k j : Nat) : List Int := (l.take k).flatMap rawI ++ (List.replicate (j - k) [8, 0]).flatten
def codeD (l : List RawD) : List Int := codeT l (usedD l) 8
def wordsT (r : RawD) (k : Nat) : List Int := (List.range k).map fun (i : Nat) => pickD (IntKind.i64.wrap (r.a + (i : Int) * 7)) 100
def moreD (r : RawD) : Nat := 2 + (pickD r.b 3).toNat
def morePage (r : RawD) (i : Nat) : PageD := ⟨(i : Int) + 2, if i = 1 then pickD r.c 8 else 3, wordsT r 8⟩
def imageT (l : List RawD) (r : RawD) (k : Nat) : List PageD := [⟨0, 5, (codeD l).take 8⟩, ⟨1, 5, (codeD l).drop 8⟩] ++ (List.range k).map (morePage r)
def imageD (l : List RawD) (r : RawD) : List PageD := imageT l r (moreD r)

theorem wrap_is64 (n : Int) : Is64 (IntKind.i64.wrap n) := by rw [IntKind.wrap_i64]; constructor <;> omega
theorem Is64.wrap {n : Int} (h : Is64 n) : IntKind.i64.wrap n = n := by obtain ⟨h0, h1⟩ := h; rw [IntKind.wrap_i64]; omega
theorem rawI_len (x : RawD) : (rawI x).length = 2 := rfl
theorem flat_rawI (l : List RawD) : (l.flatMap rawI).length = 2 * l.length := by
  induction l with
  | nil => rfl
  | cons x l ih => rw [List.flatMap_cons, List.length_append, ih, rawI_len, List.length_cons]; omega
theorem codeT_len {l : List RawD} {k j : Nat} (hk : k ≤ l.length) (hj : k ≤ j) : (codeT l k j).length = 2 * j := by
  rw [codeT, List.length_append, flat_rawI, List.length_take, List.length_flatten]
  simp
  omega
theorem codeT_self (l : List RawD) (k : Nat) : codeT l k k = (l.take k).flatMap rawI := by simp [codeT]
theorem codeT_pad (l : List RawD) {k j : Nat} (hj : k ≤ j) : codeT l k (j + 1) = codeT l k j ++ [8, 0] := by
  rw [codeT, codeT, show j + 1 - k = (j - k) + 1 by omega, List.replicate_succ', List.flatten_append]
  simp
theorem codeT_step {l : List RawD} {i : Nat} {x : RawD} (hx : l[i]? = some x) : (l.take (i + 1)).flatMap rawI = (l.take i).flatMap rawI ++ rawI x := by
  rw [List.take_add_one, hx]
  simp
theorem codeD_len (l : List RawD) : (codeD l).length = 16 := codeT_len (Nat.min_le_left _ _) (by rw [usedD]; omega)
theorem wordsT_len (r : RawD) (k : Nat) : (wordsT r k).length = k := by simp [wordsT]
theorem wordsT_step (r : RawD) (k : Nat) : wordsT r (k + 1) = wordsT r k ++ [pickD (IntKind.i64.wrap (r.a + (k : Int) * 7)) 100] := by simp [wordsT, List.range_succ]
theorem imageT_len (l : List RawD) (r : RawD) (k : Nat) : (imageT l r k).length = 2 + k := by simp [imageT]; omega
theorem imageT_step (l : List RawD) (r : RawD) (k : Nat) : imageT l r (k + 1) = imageT l r k ++ [morePage r k] := by simp [imageT, List.range_succ]
theorem moreD_le (r : RawD) : 2 ≤ moreD r ∧ moreD r ≤ 4 := by
  have a := pickD_lo r.b (many := 3) (by decide)
  have b := pickD_hi r.b (many := 3) (by decide)
  rw [moreD]
  omega

section
variable {H : Type} {enc : TypeId × Value → H} {w : World}
theorem cRaw : Tryd.prog.cellsOf 24 = 4 := by kernel_rfl
theorem bRaw : Tryd.prog.bytesOf 24 = 32 := by kernel_rfl
theorem lit64 {n : Int} (h : (Lit.int .i64 n).wf = true) : Is64 n := by
  have h1 : IntKind.i64.min = -9223372036854775808 := rfl
  have h2 : IntKind.i64.max = 9223372036854775807 := rfl
  simp only [Lit.wf, Bool.and_eq_true, decide_eq_true_eq] at h
  exact ⟨by omega, by omega⟩
set_option maxRecDepth 100000 in
theorem rd_raws {cs : List Value} (h : Rd enc Tryd.prog w 22 cs) : ∃ a l cap, cs = [.slice a (List.length l) cap] ∧ l.length * 32 ≤ 140737488351232 ∧ RawsAt w a l ∧ ∀ x ∈ l, x.Ok := by
  obtain ⟨a, n, cap, rfl, hcap, hz, hi⟩ := h.slice Tryd.underlying22 (by rw [cRaw]; decide)
  obtain ⟨l, hl, hr⟩ := choose_list (R := fun i (x : RawD) => (∃ b off, a = some ⟨b, off, none⟩ ∧ w.cell? ⟨b, off + i * 4, none⟩ = some (.int .i64 x.kind) ∧ w.cell? ⟨b, off + i * 4 + 1, none⟩ = some (.int .i64 x.a) ∧
    w.cell? ⟨b, off + i * 4 + 2, none⟩ = some (.int .i64 x.b) ∧ w.cell? ⟨b, off + i * 4 + 3, none⟩ = some (.int .i64 x.c)) ∧ x.Ok) fun i him => by
    obtain ⟨b, off, cs', ha, hcl, hc, hx⟩ := hi i him
    rw [cRaw] at hcl hc
    match cs', hcl with
    | [u0, u1, u2, u3], _ =>
      obtain ⟨x0, e0, k0⟩ := (rd_field1 Tryd.underlying24 hx 0 rfl cInt u0 rfl).int Tryd.underlying3
      obtain ⟨x1, e1, k1⟩ := (rd_field1 Tryd.underlying24 hx 1 rfl cInt u1 rfl).int Tryd.underlying3
      obtain ⟨x2, e2, k2⟩ := (rd_field1 Tryd.underlying24 hx 2 rfl cInt u2 rfl).int Tryd.underlying3
      obtain ⟨x3, e3, k3⟩ := (rd_field1 Tryd.underlying24 hx 3 rfl cInt u3 rfl).int Tryd.underlying3
      cases e0; cases e1; cases e2; cases e3
      exact ⟨⟨x0, x1, x2, x3⟩, ⟨b, off, ha, hc 0 _ rfl, by have := hc 1 _ rfl; rw [← Nat.add_assoc] at this; exact this, by have := hc 2 _ rfl; rw [← Nat.add_assoc] at this; exact this, by have := hc 3 _ rfl; rw [← Nat.add_assoc] at this; exact this⟩, lit64 k0, lit64 k1, lit64 k2, lit64 k3⟩
  rw [bRaw, reach_eq] at hz
  subst hl
  refine ⟨a, l, cap, rfl, hz, fun i x hx => (hr i x hx).1, fun x hx => ?_⟩
  obtain ⟨j, hj, rfl⟩ := List.getElem_of_mem hx
  exact (hr j _ (List.getElem?_eq_getElem hj)).2
set_option maxRecDepth 100000 in
theorem rd_raw {v : Value} {b0 : Nat} (hv : Value.okWide Tryd.prog w .any b0 24 v) (h : Rd enc Tryd.prog w 24 v.cells.toList) :
    ∃ r : RawD, v = .agg #[.int .i64 r.kind, .int .i64 r.a, .int .i64 r.b, .int .i64 r.c] ∧ r.Ok := by
  obtain ⟨cs, rfl, hsz⟩ := okWide_struct Tryd.underlying24 hv
  obtain ⟨l⟩ := cs
  match l, hsz.trans cRaw with
  | [u0, u1, u2, u3], _ =>
    obtain ⟨x0, e0, k0⟩ := (rd_field1 Tryd.underlying24 h 0 rfl cInt u0 rfl).int Tryd.underlying3
    obtain ⟨x1, e1, k1⟩ := (rd_field1 Tryd.underlying24 h 1 rfl cInt u1 rfl).int Tryd.underlying3
    obtain ⟨x2, e2, k2⟩ := (rd_field1 Tryd.underlying24 h 2 rfl cInt u2 rfl).int Tryd.underlying3
    obtain ⟨x3, e3, k3⟩ := (rd_field1 Tryd.underlying24 h 3 rfl cInt u3 rfl).int Tryd.underlying3
    cases e0; cases e1; cases e2; cases e3
    exact ⟨⟨x0, x1, x2, x3⟩, rfl, lit64 k0, lit64 k1, lit64 k2, lit64 k3⟩
end

end Go.Proofs.YtbamacddfonloaaDoor

namespace Go.Proofs.YtbamacddfonloaaDoor
open Go.RowKit

set_option maxHeartbeats 400000 in
theorem instr_any (op a b c : Int) (w : World) (ho : 0 ≤ op ∧ op ≤ 9) (ha : 0 ≤ a ∧ a ≤ 3) (hb : 0 ≤ b ∧ b ≤ 3) :
    Calls Tryd.prog 20 #[.int .i64 op, .int .i64 a, .int .i64 b, .int .i64 c] w fun e w' => e = .returned (.slice (some ⟨w.heap.size, 0, none⟩) 2 2) ∧ w' = w.alloc (.cells #[.int .i64 (op + 16 * a + 256 * b), .int .i64 c] 3) := by
  have e1 : IntKind.i64.wrap (16 * a) = 16 * a := by rw [IntKind.wrap_i64]; omega
  have e2 : IntKind.i64.wrap (op + 16 * a) = op + 16 * a := by rw [IntKind.wrap_i64]; omega
  have e3 : IntKind.i64.wrap (256 * b) = 256 * b := by rw [IntKind.wrap_i64]; omega
  have e4 : IntKind.i64.wrap (op + 16 * a + 256 * b) = op + 16 * a + 256 * b := by rw [IntKind.wrap_i64]; omega
  go_enter Tryd.func20, Tryd.ntmps20
  go_wp2_with fail
  go_ret
  exact ⟨rfl, rfl⟩

theorem act_at {Q : Act → World → Prop} {a : Act} {W : World} (R : World → Prop) (hR : R W) (h : ∀ W0, R W0 → Q a W0) : Q a W := h W hR
def lenOf : Value → Nat
  | .slice _ n _ => n
  | _ => 0
theorem own_sixteen {W : World} {base : Nat} {v : Value} {xs : List Value} (h : W.ownsRow base 3 1 v 16 xs) : ∃ g c, v = .slice (some ⟨g, 0, none⟩) 16 c ∧ base ≤ g ∧ g < W.heap.size := by
  obtain ⟨_, ⟨_, h1⟩ | ⟨g, c, cur, h1, h2, h3, _⟩⟩ := h
  · omega
  · exact ⟨g, c, h1, h2, (Array.getElem?_eq_some_iff.1 h3).1⟩
def CodeRes (base : Nat) (l : List RawD) (w : World) (e : Ending) (w' : World) : Prop :=
  ∃ g c, e = .returned (.slice (some ⟨g, 0, none⟩) 16 c) ∧ w'.ownsRow base 3 1 (.slice (some ⟨g, 0, none⟩) 16 c) 16 (intCells (codeD l)) ∧ Below base w w'
/-- In a round: the row, the box of the raw thing. -/
structure CodeR (w : World) (base bx : Nat) (ov : Value) (n : Nat) (cs : List Int) (x : RawD) (W : World) : Prop where
  row : W.ownsRow base 3 1 ov n (intCells cs)
  k0 : W.cell? ⟨bx, 0, none⟩ = some (.int .i64 x.kind)
  k1 : W.cell? ⟨bx, 1, none⟩ = some (.int .i64 x.a)
  k2 : W.cell? ⟨bx, 2, none⟩ = some (.int .i64 x.b)
  k3 : W.cell? ⟨bx, 3, none⟩ = some (.int .i64 x.c)
  lt : bx < W.heap.size
  no : ov.ownBlock ≠ some bx
  below : Below base w W

set_option linter.unusedSimpArgs false in
set_option maxRecDepth 10000 in
set_option maxHeartbeats 1600000 in
theorem keepCode (a : Option Addr) (l : List RawD) (n cap : Nat) (w : World) (hl : l.length = n) (hn : n * 32 ≤ 140737488351232) (hc : RawsAt w a l) (hk : ∀ x ∈ l, x.Ok) :
    Calls Tryd.prog 31 #[.slice a n cap, .int .i64 16] w (CodeRes w.heap.size l w) := by
  obtain ⟨i0, hi0, hz0, hz1, hz2⟩ := info_parts infoInts
  have HL := hid hl
  have HC := hid hc
  have HK := hid hk
  clear hl hc hk
  go_enter Tryd.func31, Tryd.ntmps31
  go_wp2_with fail
  go_loopw [5, 6] (fun ov j W => ∃ i : Nat, i ≤ n ∧ i ≤ 7 ∧ j = .int .i64 i ∧ Hid (W.ownsRow w.heap.size 3 1 ov (2 * i) (intCells ((l.take i).flatMap rawI))) ∧ Below w.heap.size w W) (fun _ j _ => 7 - (intOf j).toNat)
  case atStart => exact ⟨0, by omega, by omega, rfl, World.ownsRow_nil _ _ _ _, Below.refl _ _⟩
  case round =>
    obtain ⟨i, hin, hi7, rfl, HO, hb⟩ := hrel
    have hsz := hb.size
    obtain ⟨oa, oc, rfl, _⟩ := CellsAt.of_own HO.out
    by_cases hlt : i < n
    by_cases hl7 : i < 7
    · obtain ⟨x, hx⟩ : ∃ x, l[i]? = some x := ⟨_, List.getElem?_eq_getElem (by rw [HL.out]; exact hlt)⟩
      obtain ⟨b, off, rfl, k0, k1, k2, k3⟩ := HC.out i x hx
      replace k0 := cell_later hb k0
      replace k1 := cell_later hb k1
      replace k2 := cell_later hb k2
      replace k3 := cell_later hb k3
      obtain ⟨q0, q1, q2, q3⟩ := HK.out x (List.mem_of_getElem? hx)
      have HQ0 := hid q0
      have HQ1 := hid q1
      have HQ2 := hid q2
      have HQ3 := hid q3
      have HX := hid hx
      have HB := hid hb
      have hw1 : IntKind.i64.wrap (2 * (i : Int) + 4) = 2 * (i : Int) + 4 := by rw [IntKind.wrap_i64]; omega
      have hw2 : IntKind.i64.wrap (((2 * i : Nat) : Int) + 4) = 2 * (i : Int) + 4 := by rw [IntKind.wrap_i64]; omega
      clear hx hb q0 q1 q2 q3
      go_upto_region 6 with fail
      with_reducible refine act_at (CodeR w w.heap.size wr.heap.size (.slice oa (2 * i) oc) (2 * i) ((l.take i).flatMap rawI) x) ?_ ?_
      · exact ⟨ownsRow_below HO.out (by go_grown), by go_simp, by go_simp, by go_simp, by go_simp, by go_size, fun e => by have := (HO.out.lt _ e).2; omega, HB.out.trans (Below.mono (by go_grown) hsz)⟩
      clear k0 k1 k2 k3 HO HB
      rintro W1 ⟨ho, k0, k1, k2, k3, z1, no1, hb1⟩
      have HO := hid ho
      have HB := hid hb1
      clear ho hb1
      have p0 := pickD_lo x.kind (many := 9) (by decide)
      have p1 := pickD_hi x.kind (many := 9) (by decide)
      have r0 := pickD_lo x.c (many := 8) (by decide)
      have r1 := pickD_hi x.c (many := 8) (by decide)
      have hwj : IntKind.i64.wrap (pickD x.c 8 * 2) = pickD x.c 8 * 2 := by rw [IntKind.wrap_i64]; omega
      have s0 := pickD_lo x.c (many := 40) (by decide)
      have s1 := pickD_hi x.c (many := 40) (by decide)
      have hws : IntKind.i64.wrap (64 + pickD x.c 40) = 64 + pickD x.c 40 := by rw [IntKind.wrap_i64]; omega
      have t0 := pickD_lo x.c (many := 16) (by decide)
      have t1 := pickD_hi x.c (many := 16) (by decide)
      have hwt : IntKind.i64.wrap (16 + pickD x.c 16) = 16 + pickD x.c 16 := by rw [IntKind.wrap_i64]; omega
      have HD : Hid (argD x = if opD x = 7 then pickD x.c 8 * 2 else if opD x = 1 ∧ pickD x.b 3 = 0 then 64 + pickD x.c 40 else if opD x = 1 ∧ pickD x.b 3 = 1 then 16 + pickD x.c 16 else pickD x.c 70) := rfl
      have HOP : Hid (opD x = 1 + pickD x.kind 9) := rfl
      go_wp2_with fail
      refine (picked_any _ 9 _ HQ0.out (by decide)).mono ?_
      rintro e w' ⟨rfl, rfl⟩
      obtain ⟨op, hop⟩ : ∃ op, opD x = op := ⟨_, rfl⟩
      have hop2 : 1 + pickD x.kind 9 = op := hop
      have ho0 : 1 ≤ op := by omega
      have ho9 : op ≤ 9 := by omega
      have hwo : IntKind.i64.wrap (1 + pickD x.kind 9) = op := by rw [IntKind.wrap_i64]; omega
      rw [hop] at HD
      have HP := hid hop
      clear hop hop2 HOP p0 p1
      go_wp2_with fail
      refine (picked_any _ 70 _ HQ3.out (by decide)).mono ?_
      rintro e w' ⟨rfl, rfl⟩
      go_upto_block 2 with fail
      go_cut [9] from 34 to 68 (fun c W' => c = .int .i64 (argD x) ∧ W' = w')
      case first =>
        by_cases o7 : op = 7
        · have e7 : (op == 7) = true := by rw [beq_iff_eq]; exact o7
          have O7 := hid o7
          clear o7
          go_wp2_with fail
          refine (picked_any _ 8 _ HQ3.out (by decide)).mono ?_
          rintro e w1 ⟨rfl, rfl⟩
          go_wp2_with fail
          go_meet
          exact ⟨by rw [HD.out, if_pos O7.out], rfl⟩
        have e7 : (op == 7) = false := by rw [beq_eq_false_iff_ne]; exact o7
        by_cases o1 : op = 1
        · have e1 : (op == 1) = true := by rw [beq_iff_eq]; exact o1
          have O1 := hid o1
          clear o1
          by_cases b0 : pickD x.b 3 = 0
          · have f0 : (pickD x.b 3 == 0) = true := by rw [beq_iff_eq]; exact b0
            go_wp2_with fail
            refine (picked_any _ 3 _ HQ2.out (by decide)).mono ?_
            rintro e w1 ⟨rfl, rfl⟩
            go_wp2_with fail
            refine (picked_any _ 40 _ HQ3.out (by decide)).mono ?_
            rintro e w1 ⟨rfl, rfl⟩
            go_wp2_with fail
            go_meet
            exact ⟨by rw [HD.out, if_neg o7, if_pos ⟨O1.out, b0⟩], rfl⟩
          have f0 : (pickD x.b 3 == 0) = false := by rw [beq_eq_false_iff_ne]; exact b0
          by_cases b1 : pickD x.b 3 = 1
          · have f1 : (pickD x.b 3 == 1) = true := by rw [beq_iff_eq]; exact b1
            go_wp2_with fail
            refine (picked_any _ 3 _ HQ2.out (by decide)).mono ?_
            rintro e w1 ⟨rfl, rfl⟩
            go_wp2_with fail
            refine (picked_any _ 3 _ HQ2.out (by decide)).mono ?_
            rintro e w1 ⟨rfl, rfl⟩
            go_wp2_with fail
            refine (picked_any _ 16 _ HQ3.out (by decide)).mono ?_
            rintro e w1 ⟨rfl, rfl⟩
            go_wp2_with fail
            go_meet
            exact ⟨by rw [HD.out, if_neg o7, if_neg (fun h => b0 h.2), if_pos ⟨O1.out, b1⟩], rfl⟩
          have f1 : (pickD x.b 3 == 1) = false := by rw [beq_eq_false_iff_ne]; exact b1
          go_wp2_with fail
          refine (picked_any _ 3 _ HQ2.out (by decide)).mono ?_
          rintro e w1 ⟨rfl, rfl⟩
          go_wp2_with fail
          refine (picked_any _ 3 _ HQ2.out (by decide)).mono ?_
          rintro e w1 ⟨rfl, rfl⟩
          go_wp2_with fail
          go_meet
          exact ⟨by rw [HD.out, if_neg o7, if_neg (fun h => b0 h.2), if_neg (fun h => b1 h.2)], rfl⟩
        have e1 : (op == 1) = false := by rw [beq_eq_false_iff_ne]; exact o1
        go_wp2_with fail
        go_meet
        exact ⟨by rw [HD.out, if_neg o7, if_neg (fun h => o1 h.1), if_neg (fun h => o1 h.1)], rfl⟩
      case rest =>
      obtain ⟨rfl, rfl⟩ := hcut
      have ha0 := pickD_lo x.a (many := 4) (by decide)
      have ha1 := pickD_hi x.a (many := 4) (by decide)
      have hb0 := pickD_lo x.b (many := 4) (by decide)
      have hb1 := pickD_hi x.b (many := 4) (by decide)
      clear hwj hws hwt hwo HD r0 r1 s0 s1 t0 t1
      go_upto_region 14 with fail
      go_region_held3 (fun w' => w'.cell? ⟨wr.heap.size, 1, none⟩ = some (.int .i64 x.a) ∧ w'.cell? ⟨wr.heap.size, 2, none⟩ = some (.int .i64 x.b))
        (first | exact ⟨k1, k2⟩ | (refine ⟨?_, ?_⟩ <;> assumption) | exact ⟨cell_later (by go_grown) k1, cell_later (by go_grown) k2⟩)
        (first
          | (go_at_call 14; refine (picked_any _ _ _ ?hp (by decide)).mono ?_; (case hp => first | exact HQ1.out | exact HQ2.out); rintro e w' ⟨rfl, rfl⟩)
          | (go_at_call 20; refine (instr_any op _ _ _ _ ⟨by omega, ho9⟩ ⟨by omega, by omega⟩ ⟨by omega, by omega⟩).mono ?_; rintro e w' ⟨rfl, rfl⟩)
          | (refine step_append_lies _ rfl _ _ 41 rfl w.heap.size 3 i0 _ 1 8 Tryd.underlying41 hi0 hz0 hz1 hz2 rfl (by decide) _ (2 * i) (intCells ((l.take i).flatMap rawI)) rfl (ownsRow_below HO.out (by go_grown)) ⟨_, 0, none⟩ 2 2 [.int .i64 (op + 16 * pickD x.a 4 + 256 * pickD x.b 4), .int .i64 (argD x)] rfl rfl (news_new (by simp) #[_, _] _) (by simp [Value.oneCell']) (by decide) (by unfold maxLen; omega) (by omega) (by simp; omega) (wc.heap.size + 1) (by simp) ?_
             intro g cap' W' hrow hgrow hat _
             have s1 : W'.cell? ⟨wr.heap.size, 1, none⟩ = some (.int .i64 x.a) := hgrow.cell (cell_later (wx := wc.drew.alloc _) (by go_grown) k1) (fun e => no1 e.symm)
             have s2 : W'.cell? ⟨wr.heap.size, 2, none⟩ = some (.int .i64 x.b) := hgrow.cell (cell_later (wx := wc.drew.alloc _) (by go_grown) k2) (fun e => no1 e.symm)
             have HR := hid hrow
             have HG := hid hgrow
             clear hrow hgrow hat))
      all_goals
        go_wp2_with fail
        go_roundw
        case rel =>
          refine ⟨i + 1, by omega, by omega, by go_num, ?_, ?_⟩
          · show World.ownsRow _ _ _ _ _ (2 * i + 2) _
            rw [codeT_step HX.out, show intCells ((l.take i).flatMap rawI ++ rawI x) = intCells ((l.take i).flatMap rawI) ++ [.int .i64 (op + 16 * pickD x.a 4 + 256 * pickD x.b 4), .int .i64 (argD x)] by simp [intCells, rawI, insD, HP.out]]
            exact HR.out
          · exact (HB.out.trans (Below.mono (by go_grown) HB.out.size)).grown HG.out (by have := HB.out.size; simp; omega) (fun k hk => (HO.out.lt k hk).1)
        case measure => simp [intOf]; omega
    all_goals
      have HU : Hid (i = usedD l) := by show _ = _; have := HL.out; rw [usedD]; omega
      clear HC HK
      go_wp2_with fail
      go_loopw [5] (fun ov W => ∃ j : Nat, i ≤ j ∧ j ≤ 8 ∧ Hid (W.ownsRow w.heap.size 3 1 ov (2 * j) (intCells (codeT l i j))) ∧ Below w.heap.size w W) (fun ov _ => 16 - lenOf ov)
      case atStart => exact ⟨i, Nat.le_refl _, by omega, by rw [codeT_self]; exact HO, hb⟩
      case round =>
        obtain ⟨j, hij, hj8, hO, hB⟩ := hrel
        have hZ := hB.size
        obtain ⟨oa2, oc2, rfl, _⟩ := CellsAt.of_own hO.out
        by_cases hlt8 : j < 8
        · go_wp2_with fail
          refine (instr_any 8 0 0 0 _ (by omega) (by omega) (by omega)).mono ?_
          rintro e w' ⟨rfl, rfl⟩
          rw [show (8 : Int) + 16 * 0 + 256 * 0 = 8 from rfl]
          have HO2 := hid hO.out
          have HB2 := hid hB
          clear hO hB HO
          go_wp2_with (at_builtin; refine wpList_append_lies _ rfl _ _ 41 rfl w.heap.size 3 i0 _ 1 8 Tryd.underlying41 hi0 hz0 hz1 hz2 rfl (by decide) _ (2 * j) (intCells (codeT l i j)) rfl (ownsRow_below HO2.out (by go_grown)) ⟨wr.heap.size, 0, none⟩ 2 2 [.int .i64 8, .int .i64 0] rfl rfl (news_new (by simp) #[_, _] _) (by simp [Value.oneCell']) (by decide) ?c2 ?c3 ?c4 (wr.heap.size + 1) ?c5 ?_)
          case c2 => unfold maxLen; omega
          case c3 => omega
          case c4 => simp; omega
          case c5 => simp
          intro g cap' W' hrow hgrow hat _
          have HR := hid hrow
          have HG := hid hgrow
          clear hrow hgrow hat
          go_wp2_with fail
          go_roundw
          case rel =>
            refine ⟨j + 1, by omega, by omega, ?_, ?_⟩
            · show World.ownsRow _ _ _ _ _ (2 * j + 2) _
              rw [codeT_pad l hij, show intCells (codeT l i j ++ [8, 0]) = intCells (codeT l i j) ++ [.int .i64 8, .int .i64 0] by simp [intCells]]
              exact HR.out
            · exact (HB2.out.trans (Below.mono (by go_grown) HB2.out.size)).grown HG.out (by have := HB2.out.size; simp; omega) (fun k hk => (HO2.out.lt k hk).1)
          case measure => simp [lenOf]; omega
        · obtain rfl : j = 8 := by omega
          obtain ⟨g, c, hg, hg1, hg2⟩ := own_sixteen hO.out
          cases hg
          go_wp2_with fail
          go_ret
          exact ⟨g, oc2, rfl, by rw [codeD, ← HU.out]; exact hO.out, hB⟩

end Go.Proofs.YtbamacddfonloaaDoor
