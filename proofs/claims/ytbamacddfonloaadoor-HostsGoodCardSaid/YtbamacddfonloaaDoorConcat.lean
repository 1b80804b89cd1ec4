/- slices.Grow of nil and slices.Concat at the types of this program: all cells, one part behind the other, in memory of the call's own. Condition: all parts take at most 2^47 - 4096 bytes. -/
import Derived.Test.YtbamacddfonloaaDoorGa
import Derived.Test.YtbamacddfonloaaDoorGd
import Derived.Test.YtbamacddfonloaaDoorGt
import Derived.Lib.AppendZeros
namespace Go.Proofs.YtbamacddfonloaaDoor
open Go.RowKit

section
variable {P : Program} {w : World}
/-- Onto what the call owns, whatever is appended, a nil slice too. -/
theorem run_append_any (base : Nat) (t ty e : TypeId) (i : TypeInfo) (z : Value) (size bytes : Nat) (ht : P.underlying t = some (.slice e)) (hi : P.info? e = some i) (hz : i.zero = some z)
    (hsize : i.size = size) (hby : i.bytes = bytes) (hzs : z.cells.size = size) (hsz : 0 < size) (v : Value) (n : Nat) (xs : List Value) (hown : w.ownsRow base e size v n xs)
    (ao : Option Addr) (m c : Nat) (news : List Value) (hl : news.length = m * size) (hnews : CellsAt w ao news) (h1 : ∀ u ∈ news, u.oneCell' = true)
    (h63 : n + m ≤ maxLen) (hbytes : (n + m) * bytes ≤ 140737488355328) (hbase : base ≤ w.heap.size) :
    ∃ v' w', (Builtin.append_ #[t, t] ty #[v, .slice ao m c]).run P w = .ok v' w' ∧ w'.ownsRow base e size v' (n + m) (xs ++ news) ∧ w.grownBy w' v.ownBlock := by
  cases ao with
  | none =>
    have hn : news = [] := by
      cases news with
      | nil => rfl
      | cons u us => obtain ⟨b, off, e, _⟩ := hnews 0 u rfl; cases e
    subst hn
    have hm : m = 0 := by
      simp only [List.length_nil] at hl
      rcases Nat.mul_eq_zero.1 hl.symm with h | h
      · exact h
      · omega
    subst hm
    refine ⟨v, w, ?_, by simpa using hown, ⟨rfl, rfl, rfl, Nat.le_refl _, fun _ _ _ => rfl⟩⟩
    rcases hown.2 with ⟨rfl, rfl⟩ | ⟨g, cap, cur, rfl, hb, hg, hc, _⟩
    · simp [Builtin.append_, run_underlying ht, sizeOf, typeInfo, hi, Builtin.lenOf, Builtin.firstCells]
    · simp [Builtin.append_, run_underlying ht, sizeOf, typeInfo, hi, Builtin.lenOf, Builtin.firstCells, hc, storeCells]
  | some ad =>
    obtain ⟨v', w', hr, h2, h3, _⟩ := run_append_own (P := P) w base t ty e i z size bytes ht hi hz hsize hby hzs hsz v n xs hown ad m c news hl
      (fun j u hj => by
        obtain ⟨b, off, e, h⟩ := hnews j u hj
        obtain rfl := Option.some.inj e
        rw [add_plain]
        exact h) h1 h63 hbytes hbase
    exact ⟨v', w', hr, h2, h3⟩
theorem wp_append_any {o : Oper} {a : Act} {K : Act → World → Prop} {Q : Exit → Act → World → Prop} (s x : Operand) (t : TypeId)
    (ho : o.op = .call { callee := .builtin .append, args := #[s, x], argTypes := #[t, t] }) (base : Nat) (e : TypeId) (i : TypeInfo) (z : Value) (size bytes : Nat) (ht : P.underlying t = some (.slice e)) (hi : P.info? e = some i) (hz : i.zero = some z)
    (hsize : i.size = size) (hby : i.bytes = bytes) (hzs : z.cells.size = size) (hsz : 0 < size) (v : Value) (n : Nat) (xs : List Value) (hs : a.eval s = v) (hown : w.ownsRow base e size v n xs)
    (ao : Option Addr) (m c : Nat) (news : List Value) (hx : a.eval x = .slice ao m c) (hl : news.length = m * size) (hnews : CellsAt w ao news) (h1 : ∀ u ∈ news, u.oneCell' = true)
    (h63 : n + m ≤ maxLen) (hbytes : (n + m) * bytes ≤ 140737488355328) (hbase : base ≤ w.heap.size)
    (h : ∀ v' w', w'.ownsRow base e size v' (n + m) (xs ++ news) → w.grownBy w' v.ownBlock → K (a.put o.dst v') w') : o.wp P a w K Q := by
  obtain ⟨v', w', hr, h2, h3⟩ := run_append_any (P := P) (w := w) base t o.type e i z size bytes ht hi hz hsize hby hzs hsz v n xs hown ao m c news hl hnews h1 h63 hbytes hbase
  unfold Oper.wp execOp
  simp only [ho, resolve, invoke, builtin, Sem.run_bind, Sem.run_pure, Result.andThen_ok, List.map_toArray, List.map_cons, List.map_nil, hs, hx, hr]
  exact h v' w' h2 h3
theorem wpList_append_any {ops : Array Oper} {rest : List Oper} {o : Oper} {a : Act} {Q : Exit → Act → World → Prop} (hgd : o.guard = none) (s x : Operand) (t : TypeId)
    (ho : o.op = .call { callee := .builtin .append, args := #[s, x], argTypes := #[t, t] }) (base : Nat) (e : TypeId) (i : TypeInfo) (z : Value) (size bytes : Nat) (ht : P.underlying t = some (.slice e)) (hi : P.info? e = some i) (hz : i.zero = some z)
    (hsize : i.size = size) (hby : i.bytes = bytes) (hzs : z.cells.size = size) (hsz : 0 < size) (v : Value) (n : Nat) (xs : List Value) (hs : a.eval s = v) (hown : w.ownsRow base e size v n xs)
    (ao : Option Addr) (m c : Nat) (news : List Value) (hx : a.eval x = .slice ao m c) (hl : news.length = m * size) (hnews : CellsAt w ao news) (h1 : ∀ u ∈ news, u.oneCell' = true)
    (h63 : n + m ≤ maxLen) (hbytes : (n + m) * bytes ≤ 140737488355328) (hbase : base ≤ w.heap.size)
    (h : ∀ v' w', w'.ownsRow base e size v' (n + m) (xs ++ news) → w.grownBy w' v.ownBlock → wpList P ops Q rest (a.put o.dst v') w') : wpList P ops Q (o :: rest) a w :=
  wpList_plain hgd fun _ hK => wp_append_any s x t ho base e i z size bytes ht hi hz hsize hby hzs hsz v n xs hs hown ao m c news hx hl hnews h1 h63 hbytes hbase fun v' w' h2 h3 => hK _ _ (h v' w' h2 h3)
end

/-- A part: where it lies, how many, its cells. -/
structure PartD where
  a : Option Addr
  n : Nat
  c : Nat
  cells : List Value
def PartD.v (p : PartD) : Value := .slice p.a p.n p.c
def lensOf (L : List PartD) : Nat := (L.map PartD.n).sum
def cellsOf (L : List PartD) : List Value := L.flatMap PartD.cells
/-- A part reads as its cells. -/
structure PartD.Ok (size : Nat) (w : World) (p : PartD) : Prop where
  len : p.cells.length = p.n * size
  one : ∀ u ∈ p.cells, u.oneCell' = true
  at' : CellsAt w p.a p.cells
theorem lens_take {L : List PartD} {i : Nat} {p : PartD} (h : L[i]? = some p) : lensOf (L.take (i + 1)) = lensOf (L.take i) + p.n := by
  rw [take_one h, lensOf, lensOf, List.map_append, List.sum_append]
  simp
theorem cells_take {L : List PartD} {i : Nat} {p : PartD} (h : L[i]? = some p) : cellsOf (L.take (i + 1)) = cellsOf (L.take i) ++ p.cells := by
  rw [take_one h, cellsOf, cellsOf, List.flatMap_append]
  simp
theorem lens_le (L : List PartD) (i : Nat) : lensOf (L.take i) ≤ lensOf L := by
  conv => rhs; rw [← List.take_append_drop i L]
  unfold lensOf
  rw [List.map_append, List.sum_append]
  omega

theorem infoCInts : (Tryd.prog.info? 3).map (fun i => (i.zero, i.size, i.bytes)) = some (some (.int .i64 0), 1, 8) := by kernel_rfl
set_option maxRecDepth 10000 in
set_option maxHeartbeats 800000 in
theorem growNilInts (n : Nat) (w : World) (hn : n * 8 ≤ 140737488351232) :
    Calls Tryd.prog 46 #[.slice none 0 0, .int .i64 n] w (OwnRes w.heap.size 3 1 0 [] w) := by
  obtain ⟨i0, hi, hz0, hz1, hz2⟩ := info_parts infoCInts
  have hw : wrap64 (n : Int) = n := by unfold wrap64; omega
  go_enter Tryd.func46, Tryd.ntmps46
  by_cases h0 : n = 0
  · subst h0
    go_wp2_with fail
    go_ret
    exact ⟨_, _, rfl, World.ownsRow_nil _ _ _ _, Below.refl _ _⟩
  · have h1 : (0 : Int) < (n : Int) := by omega
    have hr : ∀ ty, (Builtin.append_ #[41, 3] ty #[.slice none 0 0, .int .i64 n]).run Tryd.prog w = .ok (.slice (some ⟨w.heap.size, 0, none⟩) n (grownCap w n 0 3)) (w.drew.alloc (.cells (Builtin.zeroCells (.int .i64 0 : Value).cells n ++ Builtin.zeroCells (.int .i64 0 : Value).cells (grownCap w n 0 3 - n)) 3)) := fun ty =>
      Lib.run_append_nil_zeros w 41 3 ty 3 i0 _ .i64 .i64 Tryd.underlying41 Tryd.underlying3 hi hz0 n (by omega) (by rw [hz1]; decide) (by omega) (by rw [hz2]; omega)
    have hge := grownCap_ge w n 0 3
    have hcm : grownCap w n 0 3 ≤ maxLen := grownCap_le_maxLen w n 0 3 (by unfold maxLen; omega)
    generalize grownCap w n 0 3 = G at hr hge hcm
    have hG : G ≤ 9223372036854775807 := by unfold maxLen at hcm; omega
    have hsz : (Builtin.zeroCells (.int .i64 0 : Value).cells n ++ Builtin.zeroCells (.int .i64 0 : Value).cells (G - n)).size = G * 1 := by
      rw [Array.size_append, size_zeroCells, size_zeroCells, ← Nat.add_mul, Nat.add_sub_cancel' hge]
      rfl
    have HSZ := hid hsz
    generalize (Builtin.zeroCells (.int .i64 0 : Value).cells n ++ Builtin.zeroCells (.int .i64 0 : Value).cells (G - n)) = cur at hr HSZ
    clear hsz
    go_wp2_with (at_builtin; refine Lib.wpList_append_run _ rfl _ _ _ _ rfl _ _ rfl rfl _ _ (hr _) ?_)
    go_ret
    refine ⟨_, _, rfl, ?_, ?_⟩
    · exact World.ownsRow_made w.drew cur G (Nat.le_refl _) hcm HSZ.out
    · go_grown
set_option maxRecDepth 10000 in
set_option maxHeartbeats 1600000 in
theorem concatInts (xa : Option Addr) (L : List PartD) (m mc : Nat) (w : World) (hm : L.length = m) (hm2 : m ≤ 1000) (hx : CellsAt w xa (L.map PartD.v)) (hp : ∀ p ∈ L, p.Ok 1 w) (hn : lensOf L * 8 ≤ 140737488351232) :
    Calls Tryd.prog 19 #[.slice xa m mc] w (OwnRes w.heap.size 3 1 (lensOf L) (cellsOf L) w) := by
  obtain ⟨i0, hinf, hz0, hz1, hz2⟩ := info_parts infoCInts
  have HM := hid hm
  have HX := hid hx
  have HP := hid hp
  have hle := lens_le L
  have HLE := hid hle
  clear hm hx hp hle
  go_enter Tryd.func19, Tryd.ntmps19
  go_wp2_with fail
  go_loopw [3, 11] (fun sz j W => ∃ i : Nat, i ≤ m ∧ j = .int .i64 i ∧ sz = .int .i64 (lensOf (L.take i) : Nat) ∧ w = W) (fun _ j _ => m - (intOf j).toNat)
  case atStart => exact ⟨0, by omega, rfl, rfl, by first | rfl | trivial⟩
  case round =>
    obtain ⟨i, hi, rfl, rfl, rfl⟩ := hrel
    by_cases hlt : i < m
    · obtain ⟨p, hp⟩ : ∃ p, L[i]? = some p := ⟨_, List.getElem?_eq_getElem (by rw [HM.out]; exact hlt)⟩
      obtain ⟨b, off, rfl, k0⟩ := HX.out i p.v (by rw [List.getElem?_map, hp]; rfl)
      obtain ⟨pa, pn, pc, ps⟩ := p
      simp only [PartD.v] at k0
      have h1 := lens_take hp
      have h2 := HLE.out (i + 1)
      rw [h1] at h2
      simp only at h1 h2
      have HL1 := hid h1
      have hw1 : IntKind.i64.wrap ((lensOf (L.take i) : Int) + (pn : Int)) = (lensOf (L.take i) : Int) + (pn : Int) := by rw [IntKind.wrap_i64]; omega
      have hw2 : ¬ ((lensOf (L.take i) : Int) + (pn : Int) < 0) := by omega
      clear hp h1
      go_wp2_with fail
      go_roundw
      case rel => exact ⟨i + 1, by omega, by go_num, by rw [HL1.out]; go_num, by first | rfl | trivial⟩
      case measure => simp [intOf]; omega
    · obtain rfl : i = m := by omega
      have e0 : L.take i = L := List.take_of_length_le (by rw [HM.out]; omega)
      rw [e0]
      clear e0
      go_wp2_with fail
      refine (growNilInts (lensOf L) _ hn).mono ?_
      rintro e w1 ⟨a1, c1, rfl, hO, hb1⟩
      have HO := hid hO
      have HB1 := hid hb1
      clear hO hb1
      go_wp2_with fail
      go_loopw [6, 27] (fun ov j W => ∃ k : Nat, k ≤ i ∧ j = .int .i64 k ∧ Hid (W.ownsRow w.heap.size 3 1 ov (lensOf (L.take k)) (cellsOf (L.take k))) ∧ Below w.heap.size w W) (fun _ j _ => i - (intOf j).toNat)
      case atStart => exact ⟨0, by omega, rfl, HO, HB1.out⟩
      case round =>
        clear HO HB1
        obtain ⟨k, hk, rfl, HO, hb⟩ := hrel
        by_cases hkl : k < i
        · obtain ⟨p, hp⟩ : ∃ p, L[k]? = some p := ⟨_, List.getElem?_eq_getElem (by rw [HM.out]; exact hkl)⟩
          obtain ⟨b, off, rfl, k0⟩ := HX.out.mono hb k p.v (by rw [List.getElem?_map, hp]; rfl)
          have HPK := hid (HP.out p (List.mem_of_getElem? hp))
          obtain ⟨pa, pn, pc, ps⟩ := p
          simp only [PartD.v] at k0
          have h1 := lens_take hp
          have h2 := HLE.out (k + 1)
          have h3 := cells_take hp
          rw [h1] at h2
          simp only at h1 h2 h3
          have HL1 := hid h1
          have HL3 := hid h3
          have HC := hid (HPK.out.at'.mono hb)
          have hsz := hb.size
          have HB := hid hb
          clear hp h1 h3 hb
          go_wp2_with (at_builtin; refine wpList_append_any rfl _ _ 41 rfl w.heap.size 3 i0 _ 1 8 Tryd.underlying41 hinf hz0 hz1 hz2 rfl (by decide) _ _ _ rfl HO.out _ _ _ ps rfl HPK.out.len HC.out HPK.out.one ?c1 ?c2 (by omega) ?_)
          case c1 => unfold maxLen; omega
          case c2 => omega
          intro v' w2 hown hg
          have HO2 := hid hown
          have HB2 := hid (HB.out.grown hg (by omega) (fun q hq => (HO.out.lt q hq).1))
          clear hown hg
          go_wp2_with fail
          go_roundw
          case rel => exact ⟨k + 1, by omega, by go_num, by rw [HL1.out, HL3.out]; exact HO2, HB2.out⟩
          case measure => simp [intOf]; omega
        · obtain rfl : k = i := by omega
          have e0 : L.take k = L := List.take_of_length_le (by rw [HM.out]; omega)
          rw [e0] at HO
          obtain ⟨a2, c2, rfl, _⟩ := CellsAt.of_own HO.out
          have HB := hid hb
          clear e0 hb
          go_wp2_with fail
          go_ret
          exact ⟨a2, c2, rfl, HO.out, HB.out⟩
theorem infoCActs : (Tryd.prog.info? 33).map (fun i => (i.zero, i.size, i.bytes)) = some (some (.agg #[.int .i64 0, .int .i64 0, .int .i64 0, .int .i64 0, .int .i64 0, .int .i64 0, .int .i64 0]), 7, 56) := by kernel_rfl
set_option maxRecDepth 10000 in
set_option maxHeartbeats 800000 in
theorem growNilActs (n : Nat) (w : World) (hn : n * 56 ≤ 140737488351232) :
    Calls Tryd.prog 53 #[.slice none 0 0, .int .i64 n] w (OwnRes w.heap.size 33 7 0 [] w) := by
  obtain ⟨i0, hi, hz0, hz1, hz2⟩ := info_parts infoCActs
  have hw : wrap64 (n : Int) = n := by unfold wrap64; omega
  go_enter Tryd.func53, Tryd.ntmps53
  by_cases h0 : n = 0
  · subst h0
    go_wp2_with fail
    go_ret
    exact ⟨_, _, rfl, World.ownsRow_nil _ _ _ _, Below.refl _ _⟩
  · have h1 : (0 : Int) < (n : Int) := by omega
    have hr : ∀ ty, (Builtin.append_ #[25, 3] ty #[.slice none 0 0, .int .i64 n]).run Tryd.prog w = .ok (.slice (some ⟨w.heap.size, 0, none⟩) n (grownCap w n 0 33)) (w.drew.alloc (.cells (Builtin.zeroCells (.agg #[.int .i64 0, .int .i64 0, .int .i64 0, .int .i64 0, .int .i64 0, .int .i64 0, .int .i64 0] : Value).cells n ++ Builtin.zeroCells (.agg #[.int .i64 0, .int .i64 0, .int .i64 0, .int .i64 0, .int .i64 0, .int .i64 0, .int .i64 0] : Value).cells (grownCap w n 0 33 - n)) 33)) := fun ty =>
      Lib.run_append_nil_zeros w 25 3 ty 33 i0 _ .i64 .i64 Tryd.underlying25 Tryd.underlying3 hi hz0 n (by omega) (by rw [hz1]; decide) (by omega) (by rw [hz2]; omega)
    have hge := grownCap_ge w n 0 33
    have hcm : grownCap w n 0 33 ≤ maxLen := grownCap_le_maxLen w n 0 33 (by unfold maxLen; omega)
    generalize grownCap w n 0 33 = G at hr hge hcm
    have hG : G ≤ 9223372036854775807 := by unfold maxLen at hcm; omega
    have hsz : (Builtin.zeroCells (.agg #[.int .i64 0, .int .i64 0, .int .i64 0, .int .i64 0, .int .i64 0, .int .i64 0, .int .i64 0] : Value).cells n ++ Builtin.zeroCells (.agg #[.int .i64 0, .int .i64 0, .int .i64 0, .int .i64 0, .int .i64 0, .int .i64 0, .int .i64 0] : Value).cells (G - n)).size = G * 7 := by
      rw [Array.size_append, size_zeroCells, size_zeroCells, ← Nat.add_mul, Nat.add_sub_cancel' hge]
      rfl
    have HSZ := hid hsz
    generalize (Builtin.zeroCells (.agg #[.int .i64 0, .int .i64 0, .int .i64 0, .int .i64 0, .int .i64 0, .int .i64 0, .int .i64 0] : Value).cells n ++ Builtin.zeroCells (.agg #[.int .i64 0, .int .i64 0, .int .i64 0, .int .i64 0, .int .i64 0, .int .i64 0, .int .i64 0] : Value).cells (G - n)) = cur at hr HSZ
    clear hsz
    go_wp2_with (at_builtin; refine Lib.wpList_append_run _ rfl _ _ _ _ rfl _ _ rfl rfl _ _ (hr _) ?_)
    go_ret
    refine ⟨_, _, rfl, ?_, ?_⟩
    · exact World.ownsRow_made w.drew cur G (Nat.le_refl _) hcm HSZ.out
    · go_grown
set_option maxRecDepth 10000 in
set_option maxHeartbeats 1600000 in
theorem concatActs (xa : Option Addr) (L : List PartD) (m mc : Nat) (w : World) (hm : L.length = m) (hm2 : m ≤ 1000) (hx : CellsAt w xa (L.map PartD.v)) (hp : ∀ p ∈ L, p.Ok 7 w) (hn : lensOf L * 56 ≤ 140737488351232) :
    Calls Tryd.prog 25 #[.slice xa m mc] w (OwnRes w.heap.size 33 7 (lensOf L) (cellsOf L) w) := by
  obtain ⟨i0, hinf, hz0, hz1, hz2⟩ := info_parts infoCActs
  have HM := hid hm
  have HX := hid hx
  have HP := hid hp
  have hle := lens_le L
  have HLE := hid hle
  clear hm hx hp hle
  go_enter Tryd.func25, Tryd.ntmps25
  go_wp2_with fail
  go_loopw [3, 11] (fun sz j W => ∃ i : Nat, i ≤ m ∧ j = .int .i64 i ∧ sz = .int .i64 (lensOf (L.take i) : Nat) ∧ w = W) (fun _ j _ => m - (intOf j).toNat)
  case atStart => exact ⟨0, by omega, rfl, rfl, by first | rfl | trivial⟩
  case round =>
    obtain ⟨i, hi, rfl, rfl, rfl⟩ := hrel
    by_cases hlt : i < m
    · obtain ⟨p, hp⟩ : ∃ p, L[i]? = some p := ⟨_, List.getElem?_eq_getElem (by rw [HM.out]; exact hlt)⟩
      obtain ⟨b, off, rfl, k0⟩ := HX.out i p.v (by rw [List.getElem?_map, hp]; rfl)
      obtain ⟨pa, pn, pc, ps⟩ := p
      simp only [PartD.v] at k0
      have h1 := lens_take hp
      have h2 := HLE.out (i + 1)
      rw [h1] at h2
      simp only at h1 h2
      have HL1 := hid h1
      have hw1 : IntKind.i64.wrap ((lensOf (L.take i) : Int) + (pn : Int)) = (lensOf (L.take i) : Int) + (pn : Int) := by rw [IntKind.wrap_i64]; omega
      have hw2 : ¬ ((lensOf (L.take i) : Int) + (pn : Int) < 0) := by omega
      clear hp h1
      go_wp2_with fail
      go_roundw
      case rel => exact ⟨i + 1, by omega, by go_num, by rw [HL1.out]; go_num, by first | rfl | trivial⟩
      case measure => simp [intOf]; omega
    · obtain rfl : i = m := by omega
      have e0 : L.take i = L := List.take_of_length_le (by rw [HM.out]; omega)
      rw [e0]
      clear e0
      go_wp2_with fail
      refine (growNilActs (lensOf L) _ hn).mono ?_
      rintro e w1 ⟨a1, c1, rfl, hO, hb1⟩
      have HO := hid hO
      have HB1 := hid hb1
      clear hO hb1
      go_wp2_with fail
      go_loopw [6, 27] (fun ov j W => ∃ k : Nat, k ≤ i ∧ j = .int .i64 k ∧ Hid (W.ownsRow w.heap.size 33 7 ov (lensOf (L.take k)) (cellsOf (L.take k))) ∧ Below w.heap.size w W) (fun _ j _ => i - (intOf j).toNat)
      case atStart => exact ⟨0, by omega, rfl, HO, HB1.out⟩
      case round =>
        clear HO HB1
        obtain ⟨k, hk, rfl, HO, hb⟩ := hrel
        by_cases hkl : k < i
        · obtain ⟨p, hp⟩ : ∃ p, L[k]? = some p := ⟨_, List.getElem?_eq_getElem (by rw [HM.out]; exact hkl)⟩
          obtain ⟨b, off, rfl, k0⟩ := HX.out.mono hb k p.v (by rw [List.getElem?_map, hp]; rfl)
          have HPK := hid (HP.out p (List.mem_of_getElem? hp))
          obtain ⟨pa, pn, pc, ps⟩ := p
          simp only [PartD.v] at k0
          have h1 := lens_take hp
          have h2 := HLE.out (k + 1)
          have h3 := cells_take hp
          rw [h1] at h2
          simp only at h1 h2 h3
          have HL1 := hid h1
          have HL3 := hid h3
          have HC := hid (HPK.out.at'.mono hb)
          have hsz := hb.size
          have HB := hid hb
          clear hp h1 h3 hb
          go_wp2_with (at_builtin; refine wpList_append_any rfl _ _ 25 rfl w.heap.size 33 i0 _ 7 56 Tryd.underlying25 hinf hz0 hz1 hz2 rfl (by decide) _ _ _ rfl HO.out _ _ _ ps rfl HPK.out.len HC.out HPK.out.one ?c1 ?c2 (by omega) ?_)
          case c1 => unfold maxLen; omega
          case c2 => omega
          intro v' w2 hown hg
          have HO2 := hid hown
          have HB2 := hid (HB.out.grown hg (by omega) (fun q hq => (HO.out.lt q hq).1))
          clear hown hg
          go_wp2_with fail
          go_roundw
          case rel => exact ⟨k + 1, by omega, by go_num, by rw [HL1.out, HL3.out]; exact HO2, HB2.out⟩
          case measure => simp [intOf]; omega
        · obtain rfl : k = i := by omega
          have e0 : L.take k = L := List.take_of_length_le (by rw [HM.out]; omega)
          rw [e0] at HO
          obtain ⟨a2, c2, rfl, _⟩ := CellsAt.of_own HO.out
          have HB := hid hb
          clear e0 hb
          go_wp2_with fail
          go_ret
          exact ⟨a2, c2, rfl, HO.out, HB.out⟩

theorem actCells_one (l : List ActD) : ∀ u ∈ l.flatMap ActD.cs, u.oneCell' = true := fun u hu => by
  obtain ⟨x, _, hx⟩ := List.mem_flatMap.1 hu
  simp only [ActD.cs, List.mem_cons, List.not_mem_nil, or_false] at hx
  rcases hx with rfl | rfl | rfl | rfl | rfl | rfl | rfl <;> rfl
theorem actCells_len (l : List ActD) : (l.flatMap ActD.cs).length = l.length * 7 := by
  induction l with
  | nil => rfl
  | cons x l ih => rw [List.flatMap_cons, List.length_append, ih, ActD.cs_len, List.length_cons]; omega
/-- Rows of acts, where they lie. -/
structure RowA where
  a : Option Addr
  c : Nat
  l : List ActD
def RowA.v (p : RowA) : Value := .slice p.a p.l.length p.c
def RowA.p (p : RowA) : PartD := ⟨p.a, p.l.length, p.c, p.l.flatMap ActD.cs⟩
theorem rowA_lens (K : List RowA) : lensOf (K.map RowA.p) = (K.flatMap RowA.l).length := by
  rw [lensOf, List.map_map, List.length_flatMap]
  rfl
theorem rowA_cells (K : List RowA) : cellsOf (K.map RowA.p) = (K.flatMap RowA.l).flatMap ActD.cs := by
  rw [cellsOf, List.flatMap_map, List.flatMap_assoc]
  rfl
theorem OwnActs.row {base : Nat} {w : World} {v : Value} {l : List ActD} (h : OwnActs base w v l) : ∃ a c, v = .slice a l.length c ∧ CellsAt w a (l.flatMap ActD.cs) := CellsAt.of_own h
def CatRes (base : Nat) (L : List ActD) (w : World) (e : Ending) (w' : World) : Prop := ∃ a c, e = .returned (.slice a L.length c) ∧ OwnActs base w' (.slice a L.length c) L ∧ Below base w w'
theorem concatA (xa : Option Addr) (K : List RowA) (m mc : Nat) (w : World) (hm : K.length = m) (hm2 : m ≤ 1000) (hx : CellsAt w xa (K.map RowA.v)) (hp : ∀ p ∈ K, CellsAt w p.a (p.l.flatMap ActD.cs)) (hn : (K.flatMap RowA.l).length * 56 ≤ 140737488351232) :
    Calls Tryd.prog 25 #[.slice xa m mc] w (CatRes w.heap.size (K.flatMap RowA.l) w) := by
  have e : (K.map RowA.p).map PartD.v = K.map RowA.v := by rw [List.map_map]; rfl
  refine (concatActs xa (K.map RowA.p) m mc w (by rw [List.length_map]; exact hm) hm2 (by rw [e]; exact hx) (fun p hp' => ?_) (by rw [rowA_lens]; exact hn)).mono ?_
  · obtain ⟨q, hq, rfl⟩ := List.mem_map.1 hp'
    exact ⟨actCells_len _, actCells_one _, hp q hq⟩
  · rintro e w' ⟨a, c, rfl, hO, hb⟩
    rw [rowA_lens, rowA_cells] at hO
    rw [rowA_lens]
    exact ⟨a, c, rfl, hO, hb⟩
/-- Rows of ints, where they lie. -/
structure RowI where
  a : Option Addr
  c : Nat
  l : List Int
def RowI.v (p : RowI) : Value := .slice p.a p.l.length p.c
def RowI.p (p : RowI) : PartD := ⟨p.a, p.l.length, p.c, intCells p.l⟩
theorem rowI_lens (K : List RowI) : lensOf (K.map RowI.p) = (K.flatMap RowI.l).length := by
  rw [lensOf, List.map_map, List.length_flatMap]
  rfl
theorem rowI_cells (K : List RowI) : cellsOf (K.map RowI.p) = intCells (K.flatMap RowI.l) := by
  rw [cellsOf, List.flatMap_map, intCells, List.map_flatMap]
  rfl
theorem concatI (xa : Option Addr) (K : List RowI) (m mc : Nat) (w : World) (hm : K.length = m) (hm2 : m ≤ 1000) (hx : CellsAt w xa (K.map RowI.v)) (hp : ∀ p ∈ K, CellsAt w p.a (intCells p.l)) (hn : (K.flatMap RowI.l).length * 8 ≤ 140737488351232) :
    Calls Tryd.prog 19 #[.slice xa m mc] w (OwnRes w.heap.size 3 1 (K.flatMap RowI.l).length (intCells (K.flatMap RowI.l)) w) := by
  have e : (K.map RowI.p).map PartD.v = K.map RowI.v := by rw [List.map_map]; rfl
  have := concatInts xa (K.map RowI.p) m mc w (by rw [List.length_map]; exact hm) hm2 (by rw [e]; exact hx) (fun p hp' => by
    obtain ⟨q, hq, rfl⟩ := List.mem_map.1 hp'
    exact ⟨by simp [RowI.p, intCells], intCells_one _, hp q hq⟩) (by rw [rowI_lens]; exact hn)
  rw [rowI_lens, rowI_cells] at this
  exact this

end Go.Proofs.YtbamacddfonloaaDoor
