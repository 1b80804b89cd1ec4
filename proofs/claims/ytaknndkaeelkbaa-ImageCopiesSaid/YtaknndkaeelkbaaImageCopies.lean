/- image.Copy answers the same image, for every image: the law returns true, its argument reads as it did. No condition beyond the form's reach. -/
import Derived.Test.YtaknndkaeelkbaaOpens
import Derived.Test.YtaknndkaeelkbaaImageCopy
namespace Go.Proofs.Ytaknndkaeelkbaa
open Go.ChangeShapes Go.WideShapes Go.ChangeAt Go.RowKit

set_option maxRecDepth 10000 in
set_option maxHeartbeats 1600000 in
theorem samePages (a b : Option Addr) (l : List PageD) (n c d : Nat) (w : World) (hl : l.length = n) (hf : PagesFit l) (ha : PagesAt w a l) (hb : PagesAt w b l) :
    Calls Try.prog 34 #[.slice a n c, .slice b n d] w fun e w' => e = .returned (.bool true) ∧ Hid (∃ q, w' = w.drewN q) := by
  have HA := hid ha
  have HB := hid hb
  have HL := hid hl
  have HW := hid hf.w
  have hn : n * 40 ≤ 140737488351232 := by rw [← hl]; exact hf.n
  clear ha hb hl hf
  go_enter Try.func34, Try.ntmps34
  go_wp2_with fail
  go_loopw [5] (fun j W => ∃ i : Nat, i ≤ n ∧ j = .int .i64 i ∧ Hid (∃ q, W = w.drewN q)) (fun j _ => n - (intOf j).toNat)
  case atStart => exact ⟨0, by omega, rfl, ⟨0, rfl⟩⟩
  case round =>
    obtain ⟨i, hi, rfl, HQ⟩ := hrel
    have hb : Below w.heap.size w wr := by
      obtain ⟨q, rfl⟩ := HQ.out
      exact below_drewN (Below.refl _ _) _
    by_cases hlt : i < n
    · obtain ⟨x, hx⟩ : ∃ x, l[i]? = some x := ⟨_, List.getElem?_eq_getElem (by rw [HL.out]; exact hlt)⟩
      have hxw := HW.out i x hx
      obtain ⟨ab, ao, aw, ac, rfl, k0, k1, k2, k3⟩ := HA.out i x hx
      obtain ⟨bb, bo, bw, bc, rfl, m0, m1, m2, m3⟩ := HB.out i x hx
      have K3 := hid (k3.mono hb)
      have M3 := hid (m3.mono hb)
      have l0 := cell_later hb k0
      have l1 := cell_later hb k1
      have l2 := cell_later hb k2
      have p0 := cell_later hb m0
      have p1 := cell_later hb m1
      have p2 := cell_later hb m2
      clear hx k3 m3 k0 k1 k2 m0 m1 m2
      have hi0 : (0 : Int) ≤ (i : Int) := Int.natCast_nonneg _
      have hi1 : (i : Int) < (n : Int) := by omega
      go_wp2_with fail
      go_quiet ((go_at_call 68; exact Calls.quiet_of ((sameInts aw bw x.words x.words.length ac bc _ rfl (by omega) (K3.out.mono (below_drewN (Below.refl _ _) _)) (M3.out.mono (below_drewN (Below.refl _ _) _))).mono (fun _ _ h => h))))
      go_wp2_with fail
      go_roundw
      case rel => exact ⟨i + 1, by omega, by go_num, by obtain ⟨q, hq⟩ := HQ.out; exact ⟨_, by rw [hq, World.drewN_drewN]⟩⟩
      case measure => simp [intOf]; omega
    · obtain rfl : i = n := by omega
      go_wp2_with fail
      go_ret
      exact ⟨rfl, HQ.out⟩

set_option maxRecDepth 100000 in
theorem imageCopies_calls (a : Option Addr) (l : List PageD) (cap : Nat) (w : World) (hf : PagesFit l) (hc : PagesAt w a l) :
    Calls Try.prog 7 #[.slice a l.length cap] w fun e w' => e = .returned (.bool true) ∧ Below w.heap.size w w' := by
  have HC := hid hc
  clear hc
  go_enter Try.func7, Try.ntmps7
  go_wp2_with fail
  refine (imageCopy a l l.length cap _ rfl hf HC.out).mono ?_
  rintro e w1 ⟨a1, c1, F, rfl, hF, hO, hb1⟩
  obtain ⟨a2, c2, e2, hP⟩ := hO.pages
  rw [hF] at hP
  rw [← (Value.slice.inj e2).1] at hP
  have HP := hid hP
  clear hP hO hF e2
  go_wp2_with fail
  refine (samePages a1 a l l.length c1 cap _ rfl hf HP.out (HC.out.mono hb1)).mono ?_
  rintro e w2 ⟨rfl, q, rfl⟩
  go_wp2_with fail
  go_ret
  exact ⟨rfl, below_drewN hb1 _⟩
set_option maxRecDepth 100000 in
theorem imageCopies_args {H : Type} {enc : TypeId × Value → H} (W : World) (b0 : Nat) (args : Array Value) (hs : args.size = (Try.f7).params.size)
    (ha : ∀ (j : Nat) t v, (Try.f7).params[j]? = some t → args[j]? = some v → Value.okWide Try.prog W .any b0 t v ∧ Rd enc Try.prog W t v.cells.toList) :
    Calls Try.prog 7 args W fun e w' => e = .returned (.bool true) ∧ Below W.heap.size W w' := by
  obtain ⟨l⟩ := args
  match l, hs with
  | [v], _ =>
    obtain ⟨h1, h2⟩ := ha 0 _ v rfl rfl
    obtain ⟨a, l, c, e, hf, hi⟩ := rd_pages h2
    obtain rfl : v = .slice a l.length c := by
      have := rd_slice_v Try.underlying40 h1
      rw [this] at e
      exact (List.cons.inj e).1
    exact imageCopies_calls a l c W hf hi

set_option maxRecDepth 100000 in
theorem imageCopies_lifted (os : Os) (started : os.Started) (H : Type) (enc : TypeId × Value → H) :
    ReturnsInHanded {} Try.checked os 7 .any (Rows.imageCopiesSpec.pre6 enc Try.prog Try.f7 Rows.imageCopiesRow.domain false) (Rows.imageCopiesSpec.post enc Try.prog Try.f7 false true false false) :=
  returnsInHanded_of_change_sized (C := Try.checked) own started (by kernel_rfl) Try.func7
    (ChangeSpec.witness6 (enc := enc) (C := Try.checked) false ⟨#[], #[.slice none 0 0], []⟩ 8 (by kernel_rfl) (by kernel_rfl) (by kernel_rfl) (by kernel_rfl))
    fun W base args ds gs before hval hW _ hsz _ => law_contract laidOut (by kernel_rfl) rfl Try.underlying4 rfl (fun ds h => by
      match ds, h with
      | [_], _ => exact ⟨rfl, rfl, rfl⟩) hval hW hsz fun hs ha => imageCopies_args W base args hs ha

theorem imageCopies_holds : Rows.ImageCopiesSaid :=
  OpenClaim.holds_of_wide 7 Try.f7 rfl rfl rfl rfl rfl rfl rfl ⟨rfl, rfl, rfl, rfl, rfl⟩ rfl rfl rfl rfl rfl (by kernel_rfl) Try.func7 (by kernel_rfl)
    (of_decide_eq_true (by kernel_rfl)) (by unfold Func.isWrapper; first | (rw [if_pos (by decide +kernel)]; kernel_rfl) | (rw [if_neg (by decide +kernel)]; exact ⟨rfl, rfl⟩))
    (fun os started H enc _ => imageCopies_lifted os started H enc)


end Go.Proofs.Ytaknndkaeelkbaa
