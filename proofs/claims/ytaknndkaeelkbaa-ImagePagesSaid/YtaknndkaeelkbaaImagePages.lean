/- image.CheckPage answers as the reference does, for every page: the law returns true, its argument reads as it did. No condition beyond the form's reach. -/
import Derived.Test.YtaknndkaeelkbaaOpens
import Derived.Test.YtaknndkaeelkbaaImageCopy
namespace Go.Proofs.Ytaknndkaeelkbaa
open Go.ChangeShapes Go.WideShapes Go.ChangeAt Go.RowKit

set_option maxHeartbeats 400000 in
theorem imagePages_calls (pl r : Int) (a : Option Addr) (l : List Int) (cap : Nat) (w : World) (hn : l.length * 8 ≤ 140737488351232) (hc : IntsAt w a l) :
    Calls Try.prog 10 #[.agg #[.int .i64 pl, .int .i64 r, .slice a l.length cap]] w fun e w' => e = .returned (.bool true) ∧ Below w.heap.size w w' := by
  obtain ⟨n, hl⟩ : ∃ n, l.length = n := ⟨_, rfl⟩
  rw [hl] at hn ⊢
  have HL := hid hl
  have HC := hid hc
  clear hl hc
  have B0 : ∀ X, Below w.heap.size w (w.alloc X) := fun X => by go_grown
  go_enter Try.func10, Try.ntmps10
  go_wp2_with fail
  refine (imageCheckPage pl r a l n cap _ HL.out (by omega) (HC.out.mono (B0 _))).mono ?_
  rintro e w1 ⟨rfl, hb1⟩
  have p0 : w1.cell? ⟨w.heap.size, 0, none⟩ = some (.int .i64 pl) := by rw [(bcell hb1).1 _ _ (by go_size)]; simp [go_sem]
  have p1 : w1.cell? ⟨w.heap.size, 1, none⟩ = some (.int .i64 r) := by rw [(bcell hb1).1 _ _ (by go_size)]; simp [go_sem]
  have p2 : w1.cell? ⟨w.heap.size, 2, none⟩ = some (.slice a n cap) := by rw [(bcell hb1).1 _ _ (by go_size)]; simp [go_sem]
  have B1 : Below w.heap.size w w1 := (B0 _).trans (hb1.mono (by go_size))
  clear hb1
  go_wp2_with fail
  refine (refPageFault pl r a l n cap _ HL.out (by omega) (HC.out.mono B1)).mono ?_
  rintro e w2 ⟨rfl, hb2⟩
  generalize pageF pl r l = r
  go_wp2_with fail
  go_ret
  exact ⟨by simp, B1.trans (hb2.mono B1.size)⟩
set_option maxRecDepth 100000 in
theorem imagePages_args {H : Type} {enc : TypeId × Value → H} (W : World) (b0 : Nat) (args : Array Value) (hs : args.size = (Try.f10).params.size)
    (ha : ∀ (j : Nat) t v, (Try.f10).params[j]? = some t → args[j]? = some v → Value.okWide Try.prog W .any b0 t v ∧ Rd enc Try.prog W t v.cells.toList) :
    Calls Try.prog 10 args W fun e w' => e = .returned (.bool true) ∧ Below W.heap.size W w' := by
  obtain ⟨l⟩ := args
  match l, hs with
  | [v], _ =>
    obtain ⟨h1, h2⟩ := ha 0 _ v rfl rfl
    obtain ⟨pl, r, wa, wl, wc, rfl, hz, hi⟩ := rd_page h1 h2
    exact imagePages_calls pl r wa wl wc W hz hi

set_option maxRecDepth 100000 in
theorem imagePages_lifted (os : Os) (started : os.Started) (H : Type) (enc : TypeId × Value → H) :
    ReturnsInHanded {} Try.checked os 10 .any (Rows.imagePagesSpec.pre6 enc Try.prog Try.f10 Rows.imagePagesRow.domain false) (Rows.imagePagesSpec.post enc Try.prog Try.f10 false true false false) :=
  returnsInHanded_of_change_sized (C := Try.checked) own started (by kernel_rfl) Try.func10
    (ChangeSpec.witness6 (enc := enc) (C := Try.checked) false ⟨#[], #[.agg #[.int .i64 0, .int .i64 0, .slice none 0 0]], []⟩ 8 (by kernel_rfl) (by kernel_rfl) (by kernel_rfl) (by kernel_rfl))
    fun W base args ds gs before hval hW _ hsz _ => law_contract laidOut (by kernel_rfl) rfl Try.underlying4 rfl (fun ds h => by
      match ds, h with
      | [_], _ => exact ⟨rfl, rfl, rfl⟩) hval hW hsz fun hs ha => imagePages_args W base args hs ha

theorem imagePages_holds : Rows.ImagePagesSaid :=
  OpenClaim.holds_of_wide 10 Try.f10 rfl rfl rfl rfl rfl rfl rfl ⟨rfl, rfl, rfl, rfl, rfl⟩ rfl rfl rfl rfl rfl (by kernel_rfl) Try.func10 (by kernel_rfl)
    (of_decide_eq_true (by kernel_rfl)) (by unfold Func.isWrapper; first | (rw [if_pos (by decide +kernel)]; kernel_rfl) | (rw [if_neg (by decide +kernel)]; exact ⟨rfl, rfl⟩))
    (fun os started H enc _ => imagePages_lifted os started H enc)



end Go.Proofs.Ytaknndkaeelkbaa
