/-
  DERIVED. GIVEN WITH THE SEED: THE CARDS: each row of YtehhhliiehhdjaaDoorRows.lean that lists a variable, with what it lists TIED to the program's text (the seventh form; the later family's looks); each row that meets fmt, with fmt's text TOLD by the authors' own Lean function (tested against real Go, not proved from fmt's source: count such statements apart). THE CARD IS WHAT COUNTS. Prove the row's statement (the work); the ties are given (YtehhhliiehhdjaaDoorTie.lean); close each card by the builder's one call (the guide's Derived/Test/ToyasCard.lean, 'card_holds'). Laid BY PROGRAM, IN A SANDBOX (cutbox-door.mjs). By AI agents, Wed Nov 11 2026. No macro, syntax, notation, axiom, sorry.
-/
import Derived.Test.YtehhhliiehhdjaaDoorRows
import GoSem.ClaimSeven
namespace Go.Proofs.YtehhhliiehhdjaaDoor
namespace Rows

/-- THE TIED CARD OF 'riddlekeep.PagesApart'. -/
def pagesApartCard : Claim7 := { stood := { row := pagesApartRow, standIns := [], harness := (true, "6a52945e1d846b511e06f5fa5a4fccd238f90cf4aaee1341e03822999d36b561"), looks := false }, kinds := [], alts := [], laidByText := true, laidKinds := [.data, .data, .data], laidTests := true, laidLooks := .later }
def PagesApartCardSaid : Prop := Claim7.holds Tryd.pinned (.plain (OpenSpec.ofChange pagesApartSpec)) pagesApartCard

/-- THE TIED CARD OF 'riddlekeep.ImagesTouched'. -/
def imagesTouchedCard : Claim7 := { stood := { row := imagesTouchedRow, standIns := [], harness := (true, "6a52945e1d846b511e06f5fa5a4fccd238f90cf4aaee1341e03822999d36b561"), looks := false }, kinds := [], alts := [], laidByText := true, laidKinds := [.data, .data, .data], laidTests := true, laidLooks := .later }
def ImagesTouchedCardSaid : Prop := Claim7.holds Tryd.pinned (.plain (OpenSpec.ofChange imagesTouchedSpec)) imagesTouchedCard

/-- THE TIED CARD OF 'riddlekeep.ImagesApart'. -/
def imagesApartCard : Claim7 := { stood := { row := imagesApartRow, standIns := [], harness := (true, "6a52945e1d846b511e06f5fa5a4fccd238f90cf4aaee1341e03822999d36b561"), looks := false }, kinds := [], alts := [], laidByText := true, laidKinds := [.data, .data, .data], laidTests := true, laidLooks := .later }
def ImagesApartCardSaid : Prop := Claim7.holds Tryd.pinned (.plain (OpenSpec.ofChange imagesApartSpec)) imagesApartCard

/-- THE SECOND FORM's CARD OF 'riddlekeep.PagesApart'. -/
def pagesApartUptoCard : Claim7 := { stood := { row := pagesApartUptoRow, standIns := [], harness := (true, "6a52945e1d846b511e06f5fa5a4fccd238f90cf4aaee1341e03822999d36b561"), looks := false }, kinds := [], alts := [], laidByText := true, laidKinds := [.data, .data, .data], laidTests := true, laidLooks := .later }
def PagesApartUptoCardSaid : Prop := Claim7.holds Tryd.pinned (.plain (OpenSpec.upto pagesApartSpec)) pagesApartUptoCard

/-- THE SECOND FORM's CARD OF 'riddlekeep.ImagesTouched'. -/
def imagesTouchedUptoCard : Claim7 := { stood := { row := imagesTouchedUptoRow, standIns := [], harness := (true, "6a52945e1d846b511e06f5fa5a4fccd238f90cf4aaee1341e03822999d36b561"), looks := false }, kinds := [], alts := [], laidByText := true, laidKinds := [.data, .data, .data], laidTests := true, laidLooks := .later }
def ImagesTouchedUptoCardSaid : Prop := Claim7.holds Tryd.pinned (.plain (OpenSpec.upto imagesTouchedSpec)) imagesTouchedUptoCard

/-- THE SECOND FORM's CARD OF 'riddlekeep.ImagesApart'. -/
def imagesApartUptoCard : Claim7 := { stood := { row := imagesApartUptoRow, standIns := [], harness := (true, "6a52945e1d846b511e06f5fa5a4fccd238f90cf4aaee1341e03822999d36b561"), looks := false }, kinds := [], alts := [], laidByText := true, laidKinds := [.data, .data, .data], laidTests := true, laidLooks := .later }
def ImagesApartUptoCardSaid : Prop := Claim7.holds Tryd.pinned (.plain (OpenSpec.upto imagesApartSpec)) imagesApartUptoCard
end Rows
end Go.Proofs.YtehhhliiehhdjaaDoor
