/- 'make([]int, 8)'. No condition.
How frames are given back one by one: plain laws for epc.Remove and its reference. No program is walked.
epc.Remove, walked. Condition: what fits the form's own reach. -/
import Derived.Test.YtklbbjionoeofaaGreatDoorGa
import Derived.Test.YtklbbjionoeofaaGreatDoorGi
namespace Go.Proofs.YtklbbjionoeofaaGreatDoor
open Go.RowKit

def zero8 : Array Value := #[.int .i64 0, .int .i64 0, .int .i64 0, .int .i64 0, .int .i64 0, .int .i64 0, .int .i64 0, .int .i64 0]
theorem make8 (w : World) : (Instr.makeSlice 30 (.int .i64 8) (.int .i64 8)).run Tryz.prog w = .ok (.slice (some ⟨w.heap.size, 0, none⟩) 8 8) (w.alloc (.cells zero8 3)) := by
  obtain ⟨i0, hi0, hz0, hz1, hz2⟩ := info_parts infoInts
  have := run_make (P := Tryz.prog) w 30 3 i0 _ Tryz.underlying30 hi0 hz0 .i64 .i64 8 8 (by decide) (by decide) (by rw [hz2]; decide) (by decide)
  rw [hz1] at this
  have e : madeCells (Value.int IntKind.i64 0).cells ((8 : Int).toNat * 1) = zero8 := by kernel_rfl
  rw [e] at this
  exact this

end Go.Proofs.YtklbbjionoeofaaGreatDoor

namespace Go.Proofs.YtklbbjionoeofaaGreatDoor
open Go.RowKit

abbrev bareF : FrameD := bare
def rmF (e : Int) (x : FrameD) : FrameD := if x.owner = e then bare else x
def rmTo (L : List FrameD) (e : Int) (i : Nat) : List FrameD := (L.take i).map (rmF e) ++ L.drop i
theorem rmTo_get {L : List FrameD} {e : Int} {i : Nat} {x : FrameD} (hx : L[i]? = some x) : (rmTo L e i)[i]? = some x := by
  have hi : i < L.length := (List.getElem?_eq_some_iff.1 hx).1
  unfold rmTo
  rw [List.getElem?_append_right (by simp; omega)]
  simp only [List.length_map, List.length_take]
  rw [show i - min i L.length = 0 by omega, List.getElem?_drop]
  simpa using hx
theorem rmTo_step {L : List FrameD} {e : Int} {i : Nat} {x : FrameD} (hx : L[i]? = some x) : rmTo L e (i + 1) = (rmTo L e i).set i (rmF e x) := by
  have hi : i < L.length := (List.getElem?_eq_some_iff.1 hx).1
  have e1 : L.drop i = x :: L.drop (i + 1) := by
    have : L[i] = x := by rw [List.getElem?_eq_getElem hi] at hx; exact Option.some.inj hx
    rw [← this]; exact List.drop_eq_getElem_cons hi
  unfold rmTo
  rw [List.set_append_right _ _ (by simp; omega), List.take_add_one, hx, e1]
  simp only [List.length_map, List.length_take, show i - min i L.length = 0 by omega, List.set_cons_zero]
  simp
theorem rmTo_same {L : List FrameD} {e : Int} {i : Nat} {x : FrameD} (hx : L[i]? = some x) (h : x.owner ≠ e) : rmTo L e (i + 1) = rmTo L e i := by
  rw [rmTo_step hx, show rmF e x = x by simp [rmF, h]]
  exact set_self (rmTo_get hx)
theorem rmTo_zero (L : List FrameD) (e : Int) : rmTo L e 0 = L := by simp [rmTo]
theorem rmTo_all (L : List FrameD) (e : Int) (n : Nat) (h : L.length ≤ n) : rmTo L e n = L.map (rmF e) := by
  unfold rmTo
  rw [List.take_of_length_le h, List.drop_eq_nil_of_le h, List.append_nil]

section
variable {w W W' : World} {b : Nat} {pv fv ev qv : Value} {F F' : List (FrameD × Value)} {E E' : List EnclD} {Q Q' : List QuoteD}
/-- Four writes into one block of the machine's own. -/
theorem OpenM.set4 (h : OpenM w fv ev qv F E Q W) {g o0 o1 o2 o3 : Nat} {u0 u1 u2 u3 : Value} (hg : w.heap.size + 2 ≤ g) (hO : OwnMach (w.heap.size + 2) ((((W.setCell ⟨g, o0, none⟩ u0).setCell ⟨g, o1, none⟩ u1).setCell ⟨g, o2, none⟩ u2).setCell ⟨g, o3, none⟩ u3) fv ev qv F' E' Q') :
    OpenM w fv ev qv F' E' Q' ((((W.setCell ⟨g, o0, none⟩ u0).setCell ⟨g, o1, none⟩ u1).setCell ⟨g, o2, none⟩ u2).setCell ⟨g, o3, none⟩ u3) := by
  have n0 : w.heap.size ≠ g := by omega
  have n1 : w.heap.size + 1 ≠ g := by omega
  have g0 : g ≠ w.heap.size := by omega
  have g1 : g ≠ w.heap.size + 1 := by omega
  have c0 := h.c0
  have c1 := h.c1
  have c2 := h.c2
  have cz := h.cz
  have r0 := h.r0
  have r1 := h.r1
  have r2 := h.r2
  have rz := h.rz
  have z := h.z
  have b := h.below
  clear h
  exact ⟨hO, below_at (below_at (below_at (below_at b (by omega) _ _) (by omega) _ _) (by omega) _ _) (by omega) _ _, by go_simp, by go_simp, by go_simp, fun o => by go_simp, by go_simp, by go_simp, by go_simp, fun o => by go_simp, by go_size⟩
theorem CopyInv.set4 (h : CopyInv w b pv fv ev qv F E Q W) {g o0 o1 o2 o3 : Nat} {u0 u1 u2 u3 : Value} (hg : w.heap.size + 2 ≤ g) (hb : g ≠ b) (hO : OwnMach (w.heap.size + 2) ((((W.setCell ⟨g, o0, none⟩ u0).setCell ⟨g, o1, none⟩ u1).setCell ⟨g, o2, none⟩ u2).setCell ⟨g, o3, none⟩ u3) fv ev qv F' E' Q')
    (hn : ∀ (i : Nat) (p : FrameD × Value), F'[i]? = some p → NotAt p.2 b) :
    CopyInv w b pv fv ev qv F' E' Q' ((((W.setCell ⟨g, o0, none⟩ u0).setCell ⟨g, o1, none⟩ u1).setCell ⟨g, o2, none⟩ u2).setCell ⟨g, o3, none⟩ u3) := by
  have n0 : w.heap.size ≠ g := by omega
  have n1 : w.heap.size + 1 ≠ g := by omega
  have g0 : g ≠ w.heap.size := by omega
  have g1 : g ≠ w.heap.size + 1 := by omega
  have g2 : b ≠ g := fun e => hb e.symm
  have p0 := h.p0
  have c0 := h.c0
  have c1 := h.c1
  have c2 := h.c2
  have cz := h.cz
  have r0 := h.r0
  have r1 := h.r1
  have r2 := h.r2
  have rz := h.rz
  have lo := h.lo
  have hi := h.hi
  have bl := h.below
  have a0 := h.no
  have a1 := h.ne
  have a2 := h.nq
  clear h
  exact ⟨below_at (below_at (below_at (below_at bl (by omega) _ _) (by omega) _ _) (by omega) _ _) (by omega) _ _, by go_simp, by go_simp, by go_simp, by go_simp, fun o => by go_simp, by go_simp, by go_simp, by go_simp, fun o => by go_simp, lo, by go_size, hO, a0, a1, a2, hn⟩
/-- A frame given back: its words a new row of zeros. -/
theorem OpenM.bare {g m c i : Nat} {x : FrameD} {wv : Value} (h : OpenM w (.slice (some ⟨g, 0, none⟩) m c) ev qv F E Q W) (hm : F.length = m) (hx : F[i]? = some (x, wv)) :
    OpenM w (.slice (some ⟨g, 0, none⟩) m c) ev qv (F.set i (bareF, .slice (some ⟨W.heap.size, 0, none⟩) 8 8)) E Q
      (((((W.alloc (.cells zero8 3)).setCell ⟨g, i * 4, none⟩ (.int .i64 0)).setCell ⟨g, i * 4 + 1, none⟩ (.int .i64 0)).setCell ⟨g, i * 4 + 2, none⟩ (.int .i64 0)).setCell ⟨g, i * 4 + 3, none⟩ (.slice (some ⟨W.heap.size, 0, none⟩) 8 8)) := by
  have h1 := h.later (below_alloc W (.cells zero8 3))
  have hw : (W.alloc (.cells zero8 3)).ownsRow (w.heap.size + 2) 3 1 (.slice (some ⟨W.heap.size, 0, none⟩) 8 8) 8 zero8.toList := World.ownsRow_lit W zero8 8 (by have := h.z; omega) (by decide) rfl
  have hA : ∀ {v : Value} {e s n : Nat} {xs : List Value}, W.ownsRow (w.heap.size + 2) e s v n xs → Apart (.slice (some ⟨W.heap.size, 0, none⟩) 8 8) v := fun ho k hk hk' => by
    simp only [Value.ownBlock, Option.some.injEq] at hk
    have := (ho.lt k hk').2
    omega
  exact h1.set4 (h.own.f.row.lt g rfl).1 (h1.own.setNew (x' := bareF) hm hx hw (hA h.own.f.row) (hA h.own.e) (hA h.own.q) (fun k p hp => hA (h.own.f.sub k p hp).1))
theorem CopyInv.bare {g m c i : Nat} {x : FrameD} {wv : Value} (h : CopyInv w b pv (.slice (some ⟨g, 0, none⟩) m c) ev qv F E Q W) (hm : F.length = m) (hx : F[i]? = some (x, wv)) :
    CopyInv w b pv (.slice (some ⟨g, 0, none⟩) m c) ev qv (F.set i (bareF, .slice (some ⟨W.heap.size, 0, none⟩) 8 8)) E Q
      (((((W.alloc (.cells zero8 3)).setCell ⟨g, i * 4, none⟩ (.int .i64 0)).setCell ⟨g, i * 4 + 1, none⟩ (.int .i64 0)).setCell ⟨g, i * 4 + 2, none⟩ (.int .i64 0)).setCell ⟨g, i * 4 + 3, none⟩ (.slice (some ⟨W.heap.size, 0, none⟩) 8 8)) := by
  have h1 := h.later (below_alloc W (.cells zero8 3))
  have hlo := h.lo
  have hhi := h.hi
  have hw : (W.alloc (.cells zero8 3)).ownsRow (w.heap.size + 2) 3 1 (.slice (some ⟨W.heap.size, 0, none⟩) 8 8) 8 zero8.toList := World.ownsRow_lit W zero8 8 (by omega) (by decide) rfl
  have hA : ∀ {v : Value} {e s n : Nat} {xs : List Value}, W.ownsRow (w.heap.size + 2) e s v n xs → Apart (.slice (some ⟨W.heap.size, 0, none⟩) 8 8) v := fun ho k hk hk' => by
    simp only [Value.ownBlock, Option.some.injEq] at hk
    have := (ho.lt k hk').2
    omega
  exact h1.set4 (h.own.f.row.lt g rfl).1 (h.no g rfl) (h1.own.setNew (x' := bareF) hm hx hw (hA h.own.f.row) (hA h.own.e) (hA h.own.q) (fun k p hp => hA (h.own.f.sub k p hp).1)) (set_notAt h.nf (fun k hk => by
    simp only [Value.ownBlock, Option.some.injEq] at hk
    omega))
theorem OpenM.bareA {g m c i : Nat} {x : FrameD} {wv : Value} (h : OpenM w (.slice (some ⟨g, 0, none⟩) m c) ev qv F E Q W) (hm : F.length = m) (hx : F[i]? = some (x, wv)) :
    OpenM w (.slice (some ⟨g, 0, none⟩) m c) ev qv (F.set i (bareF, .slice (some ⟨W.heap.size, 0, none⟩) 8 8)) E Q
      (((((W.setCell ⟨g, i * 4, none⟩ (.int .i64 0)).setCell ⟨g, i * 4 + 1, none⟩ (.int .i64 0)).setCell ⟨g, i * 4 + 2, none⟩ (.int .i64 0)).setCell ⟨g, i * 4 + 3, none⟩ (.slice (some ⟨W.heap.size, 0, none⟩) 8 8)).alloc (.cells zero8 3)) := by
  have hg := (h.own.f.row.lt g rfl).2
  have hh := h.bare hm hx
  rw [World.setCell_alloc_past _ _ _ _ hg, World.setCell_alloc_past _ _ _ _ (by simpa using hg), World.setCell_alloc_past _ _ _ _ (by simpa using hg), World.setCell_alloc_past _ _ _ _ (by simpa using hg)] at hh
  exact hh
theorem CopyInv.bareA {g m c i : Nat} {x : FrameD} {wv : Value} (h : CopyInv w b pv (.slice (some ⟨g, 0, none⟩) m c) ev qv F E Q W) (hm : F.length = m) (hx : F[i]? = some (x, wv)) :
    CopyInv w b pv (.slice (some ⟨g, 0, none⟩) m c) ev qv (F.set i (bareF, .slice (some ⟨W.heap.size, 0, none⟩) 8 8)) E Q
      (((((W.setCell ⟨g, i * 4, none⟩ (.int .i64 0)).setCell ⟨g, i * 4 + 1, none⟩ (.int .i64 0)).setCell ⟨g, i * 4 + 2, none⟩ (.int .i64 0)).setCell ⟨g, i * 4 + 3, none⟩ (.slice (some ⟨W.heap.size, 0, none⟩) 8 8)).alloc (.cells zero8 3)) := by
  have hg := (h.own.f.row.lt g rfl).2
  have hh := h.bare hm hx
  rw [World.setCell_alloc_past _ _ _ _ hg, World.setCell_alloc_past _ _ _ _ (by simpa using hg), World.setCell_alloc_past _ _ _ _ (by simpa using hg), World.setCell_alloc_past _ _ _ _ (by simpa using hg)] at hh
  exact hh
end

end Go.Proofs.YtklbbjionoeofaaGreatDoor

namespace Go.Proofs.YtklbbjionoeofaaGreatDoor
open Go.RowKit

theorem removeD_eq {M : MachD} {k : Nat} {e : Int} (h0 : askF M e (-1) = 0) (he : e = (k : Int) + 1) : removeD M e = (⟨M.frames.map (rmF e), M.encl.set k emptyEncl, M.quotes⟩, 0) := by
  rw [removeD, if_neg (fun h => h h0)]
  subst he
  rw [show ((k : Int) + 1 - 1).toNat = k by omega]
  rfl
theorem frame_val {F : List (FrameD × Value)} {L : List FrameD} {i : Nat} {x : FrameD} (hF : F.map Prod.fst = L) (hx : L[i]? = some x) : ∃ wv, F[i]? = some (x, wv) := by
  subst hF
  simp only [List.getElem?_map, Option.map_eq_some_iff] at hx
  obtain ⟨p, hp, rfl⟩ := hx
  exact ⟨p.2, hp⟩

set_option maxRecDepth 10000 in
set_option maxHeartbeats 1600000 in
theorem epcRemove (v : Value) (M : MachD) (e : Int) (w : World) (hv : MachAt w v M) (hf : M.Fits) : Calls Tryz.prog 40 #[v, .int .i64 e] w (Mach2 w.heap.size (removeD M e) w) := by
  have HV := hid hv
  obtain ⟨fa, fc, ea, ec, qa, qc, rfl, _, _, _, _⟩ := hv
  have B0 : ∀ X Y, Below w.heap.size w ((w.alloc X).alloc Y) := fun X Y => by go_grown
  go_enter Tryz.func40, Tryz.ntmps40
  go_wp2_with fail
  refine (epcBegin _ M e (-1) _ (HV.out.mono (B0 _ _)) hf).mono ?_
  rintro x w1 ⟨hb1, hx⟩
  have p0 : w1.cell? ⟨w.heap.size, 0, none⟩ = some (.slice fa M.frames.length fc) := by rw [(bcell hb1).1 _ _ (by go_size)]; go_simp
  have p1 : w1.cell? ⟨w.heap.size, 1, none⟩ = some (.slice ea M.encl.length ec) := by rw [(bcell hb1).1 _ _ (by go_size)]; go_simp
  have p2 : w1.cell? ⟨w.heap.size, 2, none⟩ = some (.slice qa M.quotes.length qc) := by rw [(bcell hb1).1 _ _ (by go_size)]; go_simp
  have p3 : ∀ o, w1.frozen? ⟨w.heap.size, o, none⟩ = false := fun o => by rw [(bcell hb1).2 _ _ (by go_size)]; go_simp
  have r0 : w1.cell? ⟨w.heap.size + 1, 0, none⟩ = some (.slice none 0 0) := by rw [(bcell hb1).1 _ _ (by go_size)]; go_simp
  have r1 : w1.cell? ⟨w.heap.size + 1, 1, none⟩ = some (.slice none 0 0) := by rw [(bcell hb1).1 _ _ (by go_size)]; go_simp
  have r2 : w1.cell? ⟨w.heap.size + 1, 2, none⟩ = some (.slice none 0 0) := by rw [(bcell hb1).1 _ _ (by go_size)]; go_simp
  have r3 : ∀ o, w1.frozen? ⟨w.heap.size + 1, o, none⟩ = false := fun o => by rw [(bcell hb1).2 _ _ (by go_size)]; go_simp
  have z1 : w.heap.size + 1 < w1.heap.size := by have := hb1.size; simp at this; omega
  have B1 : Below w.heap.size w w1 := (B0 _ _).trans (hb1.mono (by go_size))
  rcases hx with ⟨hne, rfl⟩ | ⟨h0, hm0, k, y, f, c1, g, c2, qv, F, he, hk4, hx, hy, hs, rfl, hF, hO⟩
  · have HD : Hid (removeD M e = (mach0, askF M e (-1))) := by show removeD M e = _; simp [removeD, hne]
    have hE1 : (askF M e (-1) != 0) = true := by rw [bne_iff_ne]; exact hne
    generalize askF M e (-1) = E at HD hE1 ⊢
    clear hne hb1
    go_wp2_with fail
    refine bodyPost_ret (v := .tuple #[.agg #[.slice none 0 0, .slice none 0 0, .slice none 0 0], .int .i64 E]) (by simp [results, Tryz.results40, go_sem, r0, r1, r2]) rfl (Mach2.mk HD.out mach0_from ?_)
    exact below_low3 (below_low3 B1 (by omega) _ _ _) (by omega) _ _ _
  · have HD := hid (removeD_eq h0 he)
    have HE := hid he
    have HS := hid (machF_sizes hm0)
    obtain ⟨qa2, qc2, rfl⟩ := own_slice hO.q
    have HO := hid (OpenM.of (hO.mono (b' := w.heap.size + 2) (by go_size)) (Nat.le_refl _) B1 z1 p0 p1 p2 p3 r0 r1 r2 r3)
    have HF := hid hF
    have HX := hid hx
    clear hO hF hx h0 hm0 hs hb1 hy HV B0 he
    go_upto_region 4 with fail
    refine wp_gen (OpenM w (.slice (some ⟨f, 0, none⟩) 24 c1) (.slice (some ⟨g, 0, none⟩) 4 c2) (.slice qa2 M.quotes.length qc2) F M.encl M.quotes) HO.out ?_
    clear HO p0 p1 p2 p3 r0 r1 r2 r3 B1 z1
    intro W HO
    have HO := hid HO
    obtain ⟨s0, s1, s2, s3, s4, s5, s6, s9⟩ := HO.out.own.enclAt HX.out
    go_upto_region 5 with fail
    refine wp_gen (OpenM w (.slice (some ⟨f, 0, none⟩) 24 c1) (.slice (some ⟨g, 0, none⟩) 4 c2) (.slice qa2 M.quotes.length qc2) F (M.encl.set k emptyEncl) M.quotes) (HO.out.setEncl HS.out.2.1 HX.out emptyEncl) ?_
    clear HO s0 s1 s2 s3 s4 s5 s6 s9
    intro W HO
    have k0 := HO.c0
    have HO := hid HO
    go_wp2_with fail
    go_loopw [27] (fun j W => ∃ (i : Nat) (F : List (FrameD × Value)), i ≤ 24 ∧ j = .int .i64 i ∧ Hid (F.map Prod.fst = rmTo M.frames e i) ∧ Hid (OpenM w (.slice (some ⟨f, 0, none⟩) 24 c1) (.slice (some ⟨g, 0, none⟩) 4 c2) (.slice qa2 M.quotes.length qc2) F (M.encl.set k emptyEncl) M.quotes W)) (fun j _ => 24 - (intOf j).toNat)
    case atStart => exact ⟨0, F, by omega, rfl, by show _ = _; rw [rmTo_zero]; exact HF.out, HO⟩
    case round =>
      obtain ⟨i, F, hi, rfl, HF, HO⟩ := hrel
      clear k0
      have k0 := HO.out.c0
      have HFl : Hid (F.length = 24) := by
        show _ = _
        have := congrArg List.length HF.out
        rw [List.length_map] at this
        rw [this, rmTo]
        simp [HS.out.1]
        omega
      have z := HO.out.z
      by_cases hlt : i < 24
      · obtain ⟨x, hx⟩ : ∃ x, M.frames[i]? = some x := ⟨_, List.getElem?_eq_getElem (by rw [HS.out.1]; exact hlt)⟩
        obtain ⟨wv, hfx⟩ := frame_val HF.out (rmTo_get hx)
        have HFX := hid hfx
        have HX2 := hid hx
        obtain ⟨s0, s1, s2, s3, s9⟩ := HO.out.own.frameAt hfx
        have hfl := HO.out.own.f.row.lt f rfl
        obtain ⟨hf1, hf2⟩ := hfl
        have hi0 : (0 : Int) ≤ (i : Int) := by omega
        have hi1 : (i : Int) < 24 := by omega
        obtain ⟨wa, wn, rfl⟩ : ∃ wa wn, wv = .slice wa x.words.length wn := own_slice (HO.out.own.f.sub i _ hfx).1
        simp only at s0 s1 s2 s3
        clear hfx hx
        by_cases h1 : x.owner = e
        · have h1b : (x.owner == e) = true := by simp [h1]
          have HR := hid (rmTo_step (e := e) HX2.out)
          have hrm : rmF e x = bareF := by simp [rmF, h1]
          rw [hrm] at HR
          have HO2 := hid (HO.out.later (below_alloc wr (.cells #[.int .i64 x.owner, .int .i64 x.pl, .int .i64 x.rights, .slice wa x.words.length wn] 73)))
          clear h1 hrm
          go_upto_region 9 with fail
          refine wp_gen (OpenM w (.slice (some ⟨f, 0, none⟩) 24 c1) (.slice (some ⟨g, 0, none⟩) 4 c2) (.slice qa2 M.quotes.length qc2) F (M.encl.set k emptyEncl) M.quotes) HO2.out ?_
          clear HO2 s0 s1 s2 s3 s9 k0 z HO hf1 hf2
          intro W9 HO
          have k0 := HO.c0
          have z := HO.z
          obtain ⟨hf1, hf2⟩ := HO.own.f.row.lt f rfl
          obtain ⟨s0, s1, s2, s3, s9⟩ := HO.own.frameAt HFX.out
          have HO3 := hid ((HO.bareA HFl.out HFX.out).later (below_drew _))
          have z0 : w.heap.size < W9.heap.size := by omega
          have n1 : f ≠ W9.heap.size := by omega
          have hmk := make8
          have n2 : W9.heap.size ≠ f := by omega
          clear HO
          go_wp2_with fail
          go_region
          all_goals
            go_wp2_with fail
            go_roundw
            case rel => exact ⟨i + 1, _, by omega, by go_num, by show _ = _; rw [HR.out, map_set_fst, HF.out], HO3⟩
            case measure => simp [intOf]; omega
        · have h1b : (x.owner == e) = false := by simp [h1]
          have HR := hid (rmTo_same HX2.out h1)
          have HO2 := hid (HO.out.later (below_alloc wr (.cells #[.int .i64 x.owner, .int .i64 x.pl, .int .i64 x.rights, .slice wa x.words.length wn] 73)))
          clear h1
          go_wp2_with fail
          go_roundw
          case rel => exact ⟨i + 1, F, by omega, by go_num, by show _ = _; rw [HR.out]; exact HF.out, HO2⟩
          case measure => simp [intOf]; omega
      · obtain rfl : i = 24 := by omega
        have k1 := HO.out.c1
        have k2 := HO.out.c2
        have r0 := HO.out.r0
        have r1 := HO.out.r1
        have r2 := HO.out.r2
        have r3 := HO.out.rz
        go_wp2_with fail
        exact bodyPost_ret (v := .tuple #[.agg #[.slice (some ⟨f, 0, none⟩) 24 c1, .slice (some ⟨g, 0, none⟩) 4 c2, .slice qa2 M.quotes.length qc2], .int .i64 0]) (by simp only [results, Tryz.results40]; go_simp) rfl
          (HO.out.done (M := ⟨M.frames.map (rmF e), M.encl.set k emptyEncl, M.quotes⟩) (by rw [HF.out, rmTo_all _ _ _ (by rw [HS.out.1]; exact Nat.le_refl _)]) rfl rfl HD.out)

end Go.Proofs.YtklbbjionoeofaaGreatDoor
