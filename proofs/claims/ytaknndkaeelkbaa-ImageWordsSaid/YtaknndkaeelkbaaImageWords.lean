/- image.Words answers as the reference does, for every list of words: the law returns true, its argument reads as it did. No condition beyond the form's reach. -/
import Derived.Test.YtaknndkaeelkbaaOpens
import Derived.Test.YtaknndkaeelkbaaImageCopy
namespace Go.Proofs.Ytaknndkaeelkbaa
open Go.ChangeShapes Go.WideShapes Go.ChangeAt Go.RowKit

set_option maxHeartbeats 400000 in
theorem imageWords_calls (a : Option Addr) (l : List Int) (cap : Nat) (w : World) (hn : l.length * 8 ≤ 140737488351232) (hc : IntsAt w a l) :
    Calls Try.prog 6 #[.slice a l.length cap] w fun e w' => e = .returned (.bool true) ∧ Below w.heap.size w w' := by
  obtain ⟨n, hl⟩ : ∃ n, l.length = n := ⟨_, rfl⟩
  rw [hl] at hn ⊢
  have HL := hid hl
  have HC := hid hc
  clear hl hc
  go_enter Try.func6, Try.ntmps6
  go_wp2_with fail
  refine (imageWords a l n cap _ HL.out (by omega) HC.out).mono ?_
  rintro e w1 ⟨rfl, hb1⟩
  go_wp2_with fail
  refine (refWords a l n cap _ HL.out (by omega) (HC.out.mono hb1)).mono ?_
  rintro e w2 ⟨rfl, rfl⟩
  generalize wordsB l = r
  cases r
  all_goals
    go_wp2_with fail
    go_ret
    exact ⟨rfl, hb1⟩
set_option maxRecDepth 100000 in
theorem imageWords_args {H : Type} {enc : TypeId × Value → H} (W : World) (b0 : Nat) (args : Array Value) (hs : args.size = (Try.f6).params.size)
    (ha : ∀ (j : Nat) t v, (Try.f6).params[j]? = some t → args[j]? = some v → Value.okWide Try.prog W .any b0 t v ∧ Rd enc Try.prog W t v.cells.toList) :
    Calls Try.prog 6 args W fun e w' => e = .returned (.bool true) ∧ Below W.heap.size W w' := by
  obtain ⟨l⟩ := args
  match l, hs with
  | [v], _ =>
    obtain ⟨h1, h2⟩ := ha 0 _ v rfl rfl
    obtain ⟨a, l, c, e, hz, hi⟩ := rd_ints h2
    obtain rfl : v = .slice a l.length c := by
      have := rd_slice_v Try.underlying33 h1
      rw [this] at e
      exact (List.cons.inj e).1
    exact imageWords_calls a l c W hz hi

set_option maxRecDepth 100000 in
theorem imageWords_lifted (os : Os) (started : os.Started) (H : Type) (enc : TypeId × Value → H) :
    ReturnsInHanded {} Try.checked os 6 .any (Rows.imageWordsSpec.pre6 enc Try.prog Try.f6 Rows.imageWordsRow.domain false) (Rows.imageWordsSpec.post enc Try.prog Try.f6 false true false false) :=
  returnsInHanded_of_change_sized (C := Try.checked) own started (by kernel_rfl) Try.func6
    (ChangeSpec.witness6 (enc := enc) (C := Try.checked) false ⟨#[], #[.slice none 0 0], []⟩ 8 (by kernel_rfl) (by kernel_rfl) (by kernel_rfl) (by kernel_rfl))
    fun W base args ds gs before hval hW _ hsz _ => law_contract laidOut (by kernel_rfl) rfl Try.underlying4 rfl (fun ds h => by
      match ds, h with
      | [_], _ => exact ⟨rfl, rfl, rfl⟩) hval hW hsz fun hs ha => imageWords_args W base args hs ha

theorem imageWords_holds : Rows.ImageWordsSaid :=
  OpenClaim.holds_of_wide 6 Try.f6 rfl rfl rfl rfl rfl rfl rfl ⟨rfl, rfl, rfl, rfl, rfl⟩ rfl rfl rfl rfl rfl (by kernel_rfl) Try.func6 (by kernel_rfl)
    (of_decide_eq_true (by kernel_rfl)) (by unfold Func.isWrapper; first | (rw [if_pos (by decide +kernel)]; kernel_rfl) | (rw [if_neg (by decide +kernel)]; exact ⟨rfl, rfl⟩))
    (fun os started H enc _ => imageWords_lifted os started H enc)



end Go.Proofs.Ytaknndkaeelkbaa
