/- image.Check answers as the reference does, for every image: the law returns true, its argument reads as it did. No condition beyond the form's reach. -/
import Derived.Test.YtaknndkaeelkbaaOpens
import Derived.Test.YtaknndkaeelkbaaImageCopy
namespace Go.Proofs.Ytaknndkaeelkbaa
open Go.ChangeShapes Go.WideShapes Go.ChangeAt Go.RowKit

set_option maxHeartbeats 400000 in
theorem imageChecks_calls (a : Option Addr) (l : List PageD) (cap : Nat) (w : World) (hf : PagesFit l) (hc : PagesAt w a l) :
    Calls Try.prog 11 #[.slice a l.length cap] w fun e w' => e = .returned (.bool true) ∧ Below w.heap.size w w' := by
  obtain ⟨n, hl⟩ : ∃ n, l.length = n := ⟨_, rfl⟩
  rw [hl]
  have HL := hid hl
  have HC := hid hc
  clear hl hc
  go_enter Try.func11, Try.ntmps11
  go_wp2_with fail
  refine (imageCheck a l n cap _ HL.out hf HC.out).mono ?_
  rintro e w1 ⟨rfl, hb1⟩
  go_wp2_with fail
  refine (refImageFault a l n cap _ HL.out hf (HC.out.mono hb1)).mono ?_
  rintro e w2 ⟨rfl, hb2⟩
  generalize imageF l = r
  go_wp2_with fail
  go_ret
  exact ⟨by simp, hb1.trans (hb2.mono hb1.size)⟩
set_option maxRecDepth 100000 in
theorem imageChecks_args {H : Type} {enc : TypeId × Value → H} (W : World) (b0 : Nat) (args : Array Value) (hs : args.size = (Try.f11).params.size)
    (ha : ∀ (j : Nat) t v, (Try.f11).params[j]? = some t → args[j]? = some v → Value.okWide Try.prog W .any b0 t v ∧ Rd enc Try.prog W t v.cells.toList) :
    Calls Try.prog 11 args W fun e w' => e = .returned (.bool true) ∧ Below W.heap.size W w' := by
  obtain ⟨l⟩ := args
  match l, hs with
  | [v], _ =>
    obtain ⟨h1, h2⟩ := ha 0 _ v rfl rfl
    obtain ⟨a, l, c, e, hf, hi⟩ := rd_pages h2
    obtain rfl : v = .slice a l.length c := by
      have := rd_slice_v Try.underlying40 h1
      rw [this] at e
      exact (List.cons.inj e).1
    exact imageChecks_calls a l c W hf hi

set_option maxRecDepth 100000 in
theorem imageChecks_lifted (os : Os) (started : os.Started) (H : Type) (enc : TypeId × Value → H) :
    ReturnsInHanded {} Try.checked os 11 .any (Rows.imageChecksSpec.pre6 enc Try.prog Try.f11 Rows.imageChecksRow.domain false) (Rows.imageChecksSpec.post enc Try.prog Try.f11 false true false false) :=
  returnsInHanded_of_change_sized (C := Try.checked) own started (by kernel_rfl) Try.func11
    (ChangeSpec.witness6 (enc := enc) (C := Try.checked) false ⟨#[], #[.slice none 0 0], []⟩ 8 (by kernel_rfl) (by kernel_rfl) (by kernel_rfl) (by kernel_rfl))
    fun W base args ds gs before hval hW _ hsz _ => law_contract laidOut (by kernel_rfl) rfl Try.underlying4 rfl (fun ds h => by
      match ds, h with
      | [_], _ => exact ⟨rfl, rfl, rfl⟩) hval hW hsz fun hs ha => imageChecks_args W base args hs ha

theorem imageChecks_holds : Rows.ImageChecksSaid :=
  OpenClaim.holds_of_wide 11 Try.f11 rfl rfl rfl rfl rfl rfl rfl ⟨rfl, rfl, rfl, rfl, rfl⟩ rfl rfl rfl rfl rfl (by kernel_rfl) Try.func11 (by kernel_rfl)
    (of_decide_eq_true (by kernel_rfl)) (by unfold Func.isWrapper; first | (rw [if_pos (by decide +kernel)]; kernel_rfl) | (rw [if_neg (by decide +kernel)]; exact ⟨rfl, rfl⟩))
    (fun os started H enc _ => imageChecks_lifted os started H enc)


end Go.Proofs.Ytaknndkaeelkbaa
