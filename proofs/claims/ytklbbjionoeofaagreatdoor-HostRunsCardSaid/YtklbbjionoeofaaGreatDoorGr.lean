/- image.Added and its reference, walked. Condition: the library's table reads as it is laid.
image.Held and its reference, walked. Conditions: the library's table reads as it is laid; the list fits the form's own reach. -/
import Derived.Test.YtklbbjionoeofaaGreatDoorItoa
import Derived.Test.YtklbbjionoeofaaGreatDoorGl
import Derived.Test.YtklbbjionoeofaaGreatDoorGd
import Derived.Deep.Cut
import Derived.Deep.CutRange
namespace Go.Proofs.YtklbbjionoeofaaGreatDoor
open Go.RowKit

/-- What Added answers: the text, the error. -/
def addD (p r : Int) : List UInt8 × Int := if addF p r ≠ 0 then ([], addF p r) else (addedL p r, 0)
def Text2 (base : Nat) (r : List UInt8 × Int) (w : World) (x : Ending) (w' : World) : Prop := x = .returned (.tuple #[.string (bytesOf r.1), .int .i64 r.2]) ∧ Below base w w'
theorem Text2.mk {base : Nat} {r : List UInt8 × Int} {w w' : World} {s : ByteArray} {t : List UInt8} {e : Int} (h : r = (t, e)) (hs : s = bytesOf t) (hb : Below base w w') : Text2 base r w (.returned (.tuple #[.string s, .int .i64 e])) w' := by
  subst h hs
  exact ⟨rfl, hb⟩
theorem addF_bad {p r : Int} (h : (inR p 0 7 && inR r 0 7) = false) : addD p r = ([], 2) := by simp [addD, addF, h]
theorem addF_good {p r : Int} (h : (inR p 0 7 && inR r 0 7) = true) : addD p r = (addedL p r, 0) := by simp [addD, addF, h]
theorem addedL_bytes (p r : Int) : (((({ data := #[112, 97, 103, 101, 32] } : ByteArray) ++ bytesOf (dec p)) ++ { data := #[32] }) ++ bytesOf (dec r)) ++ { data := #[59] } = bytesOf (addedL p r) := by
  have e1 : ({ data := #[112, 97, 103, 101, 32] } : ByteArray) = bytesOf [112, 97, 103, 101, 32] := rfl
  have e2 : ({ data := #[32] } : ByteArray) = bytesOf [32] := rfl
  have e3 : ({ data := #[59] } : ByteArray) = bytesOf [59] := rfl
  rw [e1, e2, e3, bytesOf_append, bytesOf_append, bytesOf_append, bytesOf_append]
  rfl
def zeroW : List Int := [0, 0, 0, 0, 0, 0, 0, 0]
theorem zero8_ok : wordsB zeroW = true := by decide

set_option maxRecDepth 10000 in
set_option maxHeartbeats 800000 in
theorem imageAdded (p r : Int) (w : World) (hT : Tab w) : Calls Tryz.prog 63 #[.int .i64 p, .int .i64 r] w (Text2 w.heap.size (addD p r) w) := by
  have hmk := make8
  have HC : Hid (IntsAt (w.alloc (.cells zero8 3)) (some ⟨w.heap.size, 0, none⟩) zeroW) := by
    have h := World.ownsRow_lit (e := 3) (size := 1) (base := w.heap.size) w zero8 8 (Nat.le_refl _) (by decide) rfl
    obtain ⟨a, c, e, hc⟩ := CellsAt.of_own h
    cases e
    exact CellsAt.ints hc
  go_enter Tryz.func63, Tryz.ntmps63
  go_wp2_with fail
  refine (imageCheckPage p r (some ⟨w.heap.size, 0, none⟩) zeroW 8 8 _ rfl (by decide) HC.out).mono ?_
  rintro x w1 ⟨rfl, hb1⟩
  have B1 : Below w.heap.size w w1 := (below_alloc _ _).trans (hb1.mono (by go_size))
  cases h : (inR p 0 7 && inR r 0 7)
  · have HD := hid (addF_bad h)
    have hF : pageF p r zeroW = 2 := by simp [pageF, h]
    rw [hF]
    dsimp only
    go_wp2_with fail
    go_ret2
    exact Text2.mk HD.out rfl B1
  · have HD := hid (addF_good h)
    have hF : pageF p r zeroW = 0 := by rw [pageF_ok h, zero8_ok]; rfl
    have hp : (0 ≤ p ∧ p ≤ 7) ∧ (0 ≤ r ∧ r ≤ 7) := by simpa [inR] using h
    obtain ⟨⟨p0, p7⟩, ⟨r0, r7⟩⟩ := hp
    have sp := dec_size p0 (by omega)
    have sr := dec_size r0 (by omega)
    rw [hF]
    clear h hF
    dsimp only
    go_wp2_with fail
    refine (itoa_any p _ p0 (by omega) (hT.mono B1)).mono ?_
    rintro x w2 ⟨rfl, hb2⟩
    have B2 := B1.trans (hb2.mono B1.size)
    dsimp only
    go_wp2_with fail
    refine (itoa_any r _ r0 (by omega) (hT.mono B2)).mono ?_
    rintro x w3 ⟨rfl, hb3⟩
    have B3 := B2.trans (hb3.mono B2.size)
    dsimp only
    go_wp2_with fail
    go_ret2
    exact Text2.mk HD.out (addedL_bytes p r) B3

set_option maxRecDepth 10000 in
set_option maxHeartbeats 800000 in
theorem refPut (p r : Int) (w : World) : Calls Tryz.prog 52 #[.int .i64 p, .int .i64 r] w (Text2 w.heap.size (addD p r) w) := by
  cases h1 : inR p 0 7
  · have HD := hid (addF_bad (p := p) (r := r) (by rw [h1]; rfl))
    go_enter Tryz.func52, Tryz.ntmps52
    go_wp2_with (go_at_call 25; refine (in_any _ _ _ _).mono ?_; rintro e w' ⟨rfl, rfl⟩)
    go_ret2
    exact Text2.mk HD.out rfl (Below.refl _ _)
  cases h2 : inR r 0 7
  · have HD := hid (addF_bad (p := p) (r := r) (by rw [h1, h2]; rfl))
    go_enter Tryz.func52, Tryz.ntmps52
    go_wp2_with (go_at_call 25; refine (in_any _ _ _ _).mono ?_; rintro e w' ⟨rfl, rfl⟩)
    go_ret2
    exact Text2.mk HD.out rfl (Below.refl _ _)
  · have HD := hid (addF_good (p := p) (r := r) (by rw [h1, h2]; rfl))
    have hp : 0 ≤ p ∧ p ≤ 7 := by simpa [inR] using h1
    have hr : 0 ≤ r ∧ r ≤ 7 := by simpa [inR] using h2
    obtain ⟨a, rfl⟩ : ∃ a : Nat, p = a := ⟨p.toNat, by omega⟩
    obtain ⟨b, rfl⟩ : ∃ b : Nat, r = b := ⟨r.toNat, by omega⟩
    have ha : a ≤ 65535 := by omega
    have hb : b ≤ 65535 := by omega
    have sp : (bytesOf (Lib.decDigits a)).size ≤ 65536 := by rw [bytesOf_size]; have := decDigits_len a; omega
    have sr : (bytesOf (Lib.decDigits b)).size ≤ 65536 := by rw [bytesOf_size]; have := decDigits_len b; omega
    clear hp hr
    go_enter Tryz.func52, Tryz.ntmps52
    go_wp2_with (go_at_call 25; refine (in_any _ _ _ _).mono ?_; rintro e w' ⟨rfl, rfl⟩)
    refine (refDec a _ ha).mono ?_
    rintro x w2 ⟨rfl, hb2⟩
    dsimp only
    go_wp2_with fail
    refine (refDec b _ hb).mono ?_
    rintro x w3 ⟨rfl, hb3⟩
    dsimp only
    go_wp2_with fail
    go_ret2
    exact Text2.mk HD.out (addedL_bytes a b) (hb2.trans (hb3.mono hb2.size))

end Go.Proofs.YtklbbjionoeofaaGreatDoor

namespace Go.Proofs.YtklbbjionoeofaaGreatDoor
open Go.RowKit

def heldD (p : Int) (ws : List Int) : List UInt8 × Int := if pageF p 0 ws ≠ 0 then ([], pageF p 0 ws) else (heldL p ws, 0)
theorem heldD_bad {p : Int} {ws : List Int} {e : Int} (h : pageF p 0 ws = e) (he : e ≠ 0) : heldD p ws = ([], e) := by
  subst h
  rw [heldD, if_pos he]
theorem heldD_good {p : Int} {ws : List Int} (h : pageF p 0 ws = 0) : heldD p ws = (heldL p ws, 0) := by rw [heldD, if_neg (by simp [h])]
theorem pageF_zero {p r : Int} {ws : List Int} (h : pageF p r ws = 0) : (0 ≤ p ∧ p ≤ 7) ∧ (0 ≤ r ∧ r ≤ 7) ∧ wordsB ws = true := by
  unfold pageF at h
  by_cases h1 : (inR p 0 7 && inR r 0 7) = true
  · rw [if_pos h1] at h
    have h2 : (0 ≤ p ∧ p ≤ 7) ∧ (0 ≤ r ∧ r ≤ 7) := by simpa [inR] using h1
    refine ⟨h2.1, h2.2, ?_⟩
    cases hw : wordsB ws with
    | true => rfl
    | false => rw [hw] at h; simp at h
  · rw [if_neg h1] at h; omega
theorem wordsB_len {ws : List Int} (h : wordsB ws = true) : ws.length = 8 := by
  simp only [wordsB, Bool.and_eq_true, decide_eq_true_eq] at h
  exact h.1
theorem wordsB_in {ws : List Int} (h : wordsB ws = true) : ∀ n ∈ ws, 0 ≤ n ∧ n ≤ 65535 := by
  simp only [wordsB, Bool.and_eq_true, Bool.not_eq_true', List.any_eq_false] at h
  intro n hn
  have := h.2 n hn
  simpa [inR] using this
theorem dec_len {n : Int} (h0 : 0 ≤ n) (h1 : n ≤ 65535) : (dec n).length ≤ 65536 := by have := decDigits_len n.toNat; simp only [dec]; omega
theorem flat_len_le {ws : List Int} (h : ∀ n ∈ ws, 0 ≤ n ∧ n ≤ 65535) : (ws.flatMap fun n => 32 :: dec n).length ≤ ws.length * 65537 := by
  induction ws with
  | nil => simp
  | cons x ws ih =>
    have h1 := h x (List.mem_cons_self ..)
    have h2 := ih (fun n hn => h n (List.mem_cons_of_mem _ hn))
    have h3 := dec_len h1.1 h1.2
    rw [List.flatMap_cons, List.length_append, List.length_cons, List.length_cons]
    omega
theorem heldL_bytes (p : Int) (ws : List Int) : (({ data := #[119, 111, 114, 100, 115, 32] } : ByteArray) ++ bytesOf (dec p ++ ws.flatMap fun n => 32 :: dec n)) ++ { data := #[59] } = bytesOf (heldL p ws) := by
  have e1 : ({ data := #[119, 111, 114, 100, 115, 32] } : ByteArray) = bytesOf [119, 111, 114, 100, 115, 32] := rfl
  have e3 : ({ data := #[59] } : ByteArray) = bytesOf [59] := rfl
  rw [e1, e3, bytesOf_append, bytesOf_append]
  simp [heldL]
/-- The texts that are joined. -/
def decB (n : Int) : ByteArray := bytesOf (dec n)
theorem joined (p : Int) (ws : List Int) : Lib.join (((p :: ws).map decB).map (·.data.toList)) [32] = dec p ++ ws.flatMap fun n => 32 :: dec n := by
  rw [List.map_map, List.map_cons, Lib.join_cons, Lib.joinTail, List.map_map, List.flatMap]
  simp only [Function.comp_apply, decB, bytesOf]
  congr 1
theorem strings_join (g c n : Nat) (xs : List ByteArray) (w : World) (hn : xs.length = n) (hcells : ∀ (j : Nat) x, xs[j]? = some x → w.cell? ⟨g, 0 + j, none⟩ = some (.string x)) (hbk : g < w.heap.size) (hN : n ≤ 140737488355328) (hcap : n ≤ c) (hlen : (Lib.join (xs.map (·.data.toList)) [32]).length ≤ 140737488355328) :
    Calls Tryz.prog 86 #[.slice (some ⟨g, 0, none⟩) n c, .string { data := #[32] }] w fun e w' => e = .returned (.string (bytesOf (Lib.join (xs.map (·.data.toList)) [32]))) ∧ Below w.heap.size w w' := by
  subst hn
  exact Tryz.strings_Join g 0 c xs { data := #[32] } w hcells hbk hN hcap hlen

set_option maxRecDepth 10000 in
set_option maxHeartbeats 1600000 in
theorem imageHeld (p : Int) (a : Option Addr) (ws : List Int) (n cap : Nat) (w : World) (hl : ws.length = n) (hn : n ≤ 9223372036854775807) (hc : IntsAt w a ws) (hT : Tab w) :
    Calls Tryz.prog 66 #[.int .i64 p, .slice a n cap] w (Text2 w.heap.size (heldD p ws) w) := by
  have HC := hid hc
  have HL := hid hl
  clear hc hl
  obtain ⟨i0, hi0, hz0, hz1, hz2⟩ := info_parts infoInts
  obtain ⟨j0, hj0, hy0, hy1, hy2⟩ := info_parts infoStrs
  go_enter Tryz.func66, Tryz.ntmps66
  go_wp2_with fail
  refine (imageCheckPage p 0 a ws n cap _ HL.out hn HC.out).mono ?_
  rintro x w1 ⟨rfl, hb1⟩
  obtain ⟨e, he⟩ : ∃ e, pageF p 0 ws = e := ⟨_, rfl⟩
  rw [he]
  by_cases h0 : e = 0
  rotate_left
  · have HD := hid (heldD_bad he h0)
    have h0b : (e != 0) = true := by rw [bne_iff_ne]; exact h0
    clear he h0
    dsimp only
    go_wp2_with fail
    go_ret2
    exact Text2.mk HD.out rfl hb1
  subst h0
  have HD := hid (heldD_good he)
  obtain ⟨hp, _, hw⟩ := pageF_zero he
  have h8 := wordsB_len hw
  have HW := hid (wordsB_in hw)
  have HP := hid hp
  obtain rfl : n = 8 := by rw [← HL.out, h8]
  obtain ⟨y0, hy⟩ : ∃ y, ws[0]? = some y := ⟨_, List.getElem?_eq_getElem (by omega)⟩
  obtain ⟨b, off, rfl, _⟩ := HC.out 0 y0 hy
  have hb0 := hb1.size
  have HB1 := hid hb1
  have HR : Hid ((w1.alloc (.cells #[.int .i64 p] 3)).ownsRow w.heap.size 3 1 (.slice (some ⟨w1.heap.size, 0, none⟩) 1 1) 1 [.int .i64 p]) := World.ownsRow_lit (e := 3) (size := 1) (base := w.heap.size) w1 #[.int .i64 p] 1 hb0 (by decide) rfl
  have HC1 : Hid (IntsAt (w1.alloc (.cells #[.int .i64 p] 3)) (some ⟨b, off, none⟩) ws) := HC.out.mono (hb1.trans (by go_grown))
  have hz : w.heap.size ≤ (w1.alloc (.cells #[.int .i64 p] 3)).heap.size := by go_size
  clear he hw hp hy hb1
  dsimp only
  go_wp2_with (at_builtin; refine wpList_append_own _ rfl _ _ 30 rfl w.heap.size 3 i0 _ 1 8 Tryz.underlying30 hi0 hz0 hz1 hz2 rfl (by decide) _ 1 [.int .i64 p] rfl HR.out ⟨b, off, none⟩ 8 cap (intCells ws) rfl (by simp [intCells, h8]) ?c1 (fun u hu => intCells_one _ u hu) (by decide) (by decide) hz ?_)
  case c1 =>
    intro j u hj
    obtain ⟨b2, off2, e2, h2⟩ := HC1.out.cells j u hj
    obtain ⟨rfl, rfl, _⟩ := Addr.mk.inj (Option.some.inj e2)
    rw [add_plain]
    exact h2
  intro v9 w9 hown9 hgrow9 _
  have hgs := hgrow9.size
  have B9 : Below w.heap.size w w9 := (HB1.out.trans (Below.mono (by go_grown) hb0)).grown hgrow9 hz (fun k hk => (HR.out.lt k hk).1)
  obtain ⟨a9, c9, rfl, hc9⟩ := CellsAt.of_own hown9
  have HI : Hid (IntsAt w9 a9 (p :: ws)) := CellsAt.ints (l := p :: ws) hc9
  have HWA : Hid (∀ (i : Nat) (x : Int), (p :: ws)[i]? = some x → 0 ≤ x ∧ x ≤ 65535) := fun i x hx => by
    rcases i with _ | i
    · simp at hx; subst hx; exact ⟨HP.out.1, by have := HP.out.2; omega⟩
    · simp at hx; exact HW.out x (List.mem_of_getElem? hx)
  obtain ⟨LB, hLB⟩ : ∃ LB, (p :: ws).map decB = LB := ⟨_, rfl⟩
  have HLB := hid hLB
  clear hLB
  have HB9 := hid B9
  clear hown9 hgrow9 hc9 B9 hgs hz HC1 HR
  go_wp2_with fail
  go_loopw [7, 22] (fun l j W => ∃ (i : Nat) (lv : Value), lv = l ∧ i ≤ 9 ∧ j = .int .i64 i ∧ Hid (W.ownsRow w9.heap.size 9 1 lv i (strCells (LB.take i))) ∧ Below w9.heap.size w9 W) (fun _ j _ => 9 - (intOf j).toNat)
  case atStart => exact ⟨0, _, rfl, by omega, rfl, World.ownsRow_nil _ _ _ _, Below.refl _ _⟩
  case round =>
    obtain ⟨i, lv, rfl, hi, rfl, HO, hbr⟩ := hrel
    have hbz := hbr.size
    by_cases hlt : i < 9
    · obtain ⟨x, hx⟩ : ∃ x, (p :: ws)[i]? = some x := ⟨_, List.getElem?_eq_getElem (by simp [h8]; omega)⟩
      obtain ⟨x0, x1⟩ := HWA.out i x hx
      obtain ⟨bx, ox, rfl, kx⟩ := HI.out i x hx
      replace kx := cell_later hbr kx
      have HX := hid hx
      have HBR := hid hbr
      have hwi : IntKind.i64.wrap ((i : Int) + 1) = (i : Int) + 1 := by rw [IntKind.wrap_i64]; omega
      clear hx hbr
      go_wp2_with fail
      refine (itoa_any x _ x0 x1 (hT.mono (HB9.out.trans (HBR.out.mono HB9.out.size)))).mono ?_
      rintro y w2 ⟨rfl, hb2⟩
      have B2 : Below w9.heap.size w9 w2 := HBR.out.trans (hb2.mono hbz)
      have HO2 : Hid (∀ X, World.ownsRow (w2.alloc X) w9.heap.size 9 1 lv i (strCells (LB.take i))) := fun X => ownsRow_below (ownsRow_below HO.out hb2) (by go_grown)
      have hz2 := B2.size
      have HB2 := hid B2
      clear hb2 B2 kx
      dsimp only
      go_wp2_with (at_builtin; refine wpList_append_lies _ rfl _ _ 22 rfl w9.heap.size 9 j0 _ 1 16 Tryz.underlying22 hj0 hy0 hy1 hy2 rfl (by decide) _ i (strCells (LB.take i)) rfl (HO2.out _) ⟨w2.heap.size, 0, none⟩ 1 1 [.string (decB x)] rfl rfl (news_new (by simp) #[_] _) (by simp [Value.oneCell']) (by decide) ?c2 ?c3 ?c4 (w2.heap.size + 1) ?c5 ?_)
      case c2 => unfold maxLen; omega
      case c3 => omega
      case c4 => simp; omega
      case c5 => simp
      intro g cap' W' hrow hgrow hat _
      have HRR := hid hrow
      have HBB : Hid (Below w9.heap.size w9 W') := (HB2.out.trans (Below.mono (by go_grown) hz2)).grown hgrow (by go_size) (fun k hk => ((HO2.out (.cells #[] 0)).lt k hk).1)
      clear hrow hgrow hat HO2
      go_wp2_with fail
      go_roundw
      case rel =>
        refine ⟨i + 1, _, rfl, by omega, by go_num, ?_, HBB.out⟩
        have e : strCells (LB.take (i + 1)) = strCells (LB.take i) ++ [.string (decB x)] := by
          have hx2 : LB[i]? = some (decB x) := by rw [← HLB.out, List.getElem?_map, HX.out]; rfl
          rw [List.take_add_one, hx2]
          simp [strCells]
        rw [e]
        exact HRR.out
      case measure => simp [intOf]; omega
    · obtain rfl : i = 9 := by omega
      have hl9 : LB.length = 9 := by rw [← HLB.out]; simp [h8]
      have h9 : LB.take 9 = LB := List.take_of_length_le (by omega)
      rw [h9] at HO
      obtain ⟨g, c, hg, hg1, hg2⟩ : ∃ g c, lv = .slice (some ⟨g, 0, none⟩) 9 c ∧ w9.heap.size ≤ g ∧ g < wr.heap.size := by
        obtain ⟨_, ⟨_, e1⟩ | ⟨g, cap, cur, rfl, hb, hg, _⟩⟩ := HO.out
        · cases e1
        · exact ⟨g, cap, rfl, hb, (Array.getElem?_eq_some_iff.1 hg).1⟩
      subst hg
      have hcap : 9 ≤ c := by
        obtain ⟨hl, ⟨h1, h2⟩ | ⟨g', cap', cur, h1, hg', hh, hn', hcap', hsz, ht⟩⟩ := HO.out
        · cases h2
        · cases h1; omega
      obtain ⟨a3, c3, e3, hc3⟩ := CellsAt.of_own HO.out
      obtain ⟨rfl, _, rfl⟩ := Value.slice.inj e3
      have HS := hid hc3.strs
      have HBR := hid hbr
      have hj := joined p ws
      rw [HLB.out] at hj
      have hjl : (dec p ++ ws.flatMap fun n => 32 :: dec n).length ≤ 1000000 := by
        have l1 := flat_len_le HW.out
        have l2 := dec_len HP.out.1 (by have := HP.out.2; omega)
        rw [List.length_append]
        omega
      have hjs : (bytesOf (dec p ++ ws.flatMap fun n => 32 :: dec n)).size ≤ 1000000 := by rw [bytesOf_size]; exact hjl
      have hjb : (Lib.join (LB.map (·.data.toList)) [32]).length ≤ 140737488355328 := by rw [hj]; omega
      have HJ := hid hj
      have HBT := hid (heldL_bytes p ws)
      clear hc3 e3 hbr hj hjl HO h9
      go_wp2_with fail
      refine (strings_join g c 9 LB _ hl9 (fun j x hx => ?_) (by omega) (by decide) hcap hjb).mono ?_
      · obtain ⟨b', o', e', h'⟩ := HS.out j x hx
        obtain ⟨rfl, rfl, _⟩ := Addr.mk.inj (Option.some.inj e')
        exact h'
      rintro y w3 ⟨rfl, hb3⟩
      rw [HJ.out]
      dsimp only
      go_wp2_with fail
      go_ret2
      exact Text2.mk HD.out HBT.out (HB9.out.trans ((HBR.out.trans (hb3.mono hbz)).mono HB9.out.size))

def heldT (p : Int) (ws : List Int) (i : Nat) : List UInt8 := [119, 111, 114, 100, 115, 32] ++ dec p ++ (ws.take i).flatMap fun n => 32 :: dec n
theorem heldT_zero (p : Int) (ws : List Int) : ({ data := #[119, 111, 114, 100, 115, 32] } : ByteArray) ++ bytesOf (dec p) = bytesOf (heldT p ws 0) := by
  have e1 : ({ data := #[119, 111, 114, 100, 115, 32] } : ByteArray) = bytesOf [119, 111, 114, 100, 115, 32] := rfl
  rw [e1, bytesOf_append]
  simp [heldT]
theorem heldT_step {p : Int} {ws : List Int} {i : Nat} {x : Int} (hx : ws[i]? = some x) : (bytesOf (heldT p ws i) ++ { data := #[32] }) ++ bytesOf (dec x) = bytesOf (heldT p ws (i + 1)) := by
  have e1 : ({ data := #[32] } : ByteArray) = bytesOf [32] := rfl
  rw [e1, bytesOf_append, bytesOf_append, heldT, heldT, List.take_add_one, hx]
  simp
theorem heldT_last {p : Int} {ws : List Int} (h : ws.length = 8) : bytesOf (heldT p ws 8) ++ { data := #[59] } = bytesOf (heldL p ws) := by
  have e1 : ({ data := #[59] } : ByteArray) = bytesOf [59] := rfl
  rw [e1, bytesOf_append, heldT, List.take_of_length_le (by omega), heldL]
theorem heldT_size {p : Int} {ws : List Int} (hp : 0 ≤ p ∧ p ≤ 7) (hw : ∀ n ∈ ws, 0 ≤ n ∧ n ≤ 65535) (h8 : ws.length = 8) (i : Nat) : (bytesOf (heldT p ws i)).size ≤ 1000000 := by
  have l1 := flat_len_le (ws := ws.take i) (fun n hn => hw n (List.mem_of_mem_take hn))
  have l2 := dec_len hp.1 (by omega)
  have l3 : (ws.take i).length ≤ 8 := by rw [List.length_take]; omega
  have l4 : (ws.take i).length * 65537 ≤ 8 * 65537 := Nat.mul_le_mul_right _ l3
  rw [bytesOf_size, heldT, List.length_append, List.length_append]
  simp only [List.length_cons, List.length_nil]
  omega

set_option maxRecDepth 10000 in
set_option maxHeartbeats 1600000 in
theorem refHeld (p : Int) (a : Option Addr) (ws : List Int) (n cap : Nat) (w : World) (hl : ws.length = n) (hn : n ≤ 9223372036854775807) (hc : IntsAt w a ws) :
    Calls Tryz.prog 54 #[.int .i64 p, .slice a n cap] w (Text2 w.heap.size (heldD p ws) w) := by
  have HC := hid hc
  have HL := hid hl
  clear hc hl
  cases h1 : inR p 0 7
  · have HD := hid (heldD_bad (p := p) (ws := ws) (e := 2) (by simp [pageF, h1]) (by decide))
    go_enter Tryz.func54, Tryz.ntmps54
    go_wp2_with (go_at_call 25; refine (in_any _ _ _ _).mono ?_; rintro e w' ⟨rfl, rfl⟩)
    go_ret2
    exact Text2.mk HD.out rfl (Below.refl _ _)
  have h0 : inR 0 0 7 = true := by decide
  cases h2 : wordsB ws
  · have HD := hid (heldD_bad (p := p) (ws := ws) (e := 4) (by rw [pageF_ok (by rw [h1, h0]; rfl), h2]; rfl) (by decide))
    go_enter Tryz.func54, Tryz.ntmps54
    go_wp2_with (go_at_call 25; refine (in_any _ _ _ _).mono ?_; rintro e w' ⟨rfl, rfl⟩)
    refine (refWords a ws n cap _ HL.out hn HC.out).mono ?_
    rintro x w1 ⟨rfl, rfl⟩
    rw [h2]
    dsimp only
    go_wp2_with fail
    go_ret2
    exact Text2.mk HD.out rfl (Below.refl _ _)
  have hP : pageF p 0 ws = 0 := by rw [pageF_ok (by rw [h1, h0]; rfl), h2]; rfl
  have HD := hid (heldD_good hP)
  obtain ⟨hp, _, hw⟩ := pageF_zero hP
  have h8 := wordsB_len hw
  have HW := hid (wordsB_in hw)
  have HT := hid (fun i => heldT_size (p := p) hp (wordsB_in hw) h8 i)
  obtain rfl : n = 8 := by rw [← HL.out, h8]
  obtain ⟨q, hq⟩ : ∃ q : Nat, p = q := ⟨p.toNat, by omega⟩
  have hsp := dec_size hp.1 (by omega : p ≤ 65535)
  have H2 := hid h2
  have hq2 : q ≤ 65535 := by omega
  have HZ := hid (heldT_zero p ws)
  have HQ : Hid (bytesOf (Lib.decDigits q) = bytesOf (dec p)) := by show _ = _; rw [hq]; rfl
  have HQQ := hid hq
  clear hP hp hw h2 h0 hq
  go_enter Tryz.func54, Tryz.ntmps54
  go_wp2_with (go_at_call 25; refine (in_any _ _ _ _).mono ?_; rintro e w' ⟨rfl, rfl⟩)
  refine (refWords a ws 8 cap _ HL.out hn HC.out).mono ?_
  rintro x w1 ⟨rfl, rfl⟩
  rw [H2.out]
  dsimp only
  go_wp2_with fail
  rw [HQQ.out]
  refine (refDec q _ hq2).mono ?_
  rintro x w2 ⟨rfl, hb2⟩
  rw [HQ.out]
  dsimp only
  have HB2 := hid hb2
  clear hb2
  go_wp2_with fail
  rw [HZ.out]
  go_loopw [6, 7] (fun s j W => ∃ i : Nat, s = .string (bytesOf (heldT p ws i)) ∧ i ≤ 8 ∧ j = .int .i64 i ∧ Below w2.heap.size w2 W) (fun _ j _ => 8 - (intOf j).toNat)
  case atStart => exact ⟨0, rfl, by omega, rfl, Below.refl _ _⟩
  case round =>
    obtain ⟨i, rfl, hi, rfl, hbr⟩ := hrel
    have hsz := HT.out i
    by_cases hlt : i < 8
    · obtain ⟨x, hx⟩ : ∃ x, ws[i]? = some x := ⟨_, List.getElem?_eq_getElem (by omega)⟩
      obtain ⟨x0, x1⟩ := HW.out x (List.mem_of_getElem? hx)
      obtain ⟨m, rfl⟩ : ∃ m : Nat, x = m := ⟨x.toNat, by omega⟩
      obtain ⟨bx, ox, rfl, kx⟩ := HC.out i _ hx
      replace kx := cell_later (HB2.out.trans (hbr.mono HB2.out.size)) kx
      have HS := hid (heldT_step (p := p) hx)
      have HBR := hid hbr
      have hm : m ≤ 65535 := by omega
      have hsm : (bytesOf (Lib.decDigits m)).size ≤ 65536 := dec_size (n := (m : Int)) x0 x1
      have hwi : IntKind.i64.wrap ((i : Int) + 1) = (i : Int) + 1 := by rw [IntKind.wrap_i64]; omega
      clear hx hbr
      go_wp2_with fail
      refine (refDec m _ hm).mono ?_
      rintro y w3 ⟨rfl, hb3⟩
      have HB3 := hid (HBR.out.trans (hb3.mono HBR.out.size))
      clear hb3 kx
      dsimp only
      go_wp2_with fail
      go_roundw
      case rel => exact ⟨i + 1, congrArg Value.string HS.out, by omega, by go_num, HB3.out⟩
      case measure => simp [intOf]; omega
    · obtain rfl : i = 8 := by omega
      have HS := hid (heldT_last (p := p) h8)
      go_wp2_with fail
      go_ret2
      exact Text2.mk HD.out HS.out (HB2.out.trans (hbr.mono HB2.out.size))

end Go.Proofs.YtklbbjionoeofaaGreatDoor
