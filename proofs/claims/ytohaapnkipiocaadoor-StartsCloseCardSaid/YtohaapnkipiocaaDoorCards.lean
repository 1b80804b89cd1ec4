/-
  DERIVED. GIVEN WITH THE SEED: THE CARDS: each row of YtohaapnkipiocaaDoorRows.lean that lists a variable, with what it lists TIED to the program's text (the seventh form; the later family's looks); each row that meets fmt, with fmt's text TOLD by the authors' own Lean function (tested against real Go, not proved from fmt's source: count such statements apart). THE CARD IS WHAT COUNTS. Prove the row's statement (the work); the ties are given (YtohaapnkipiocaaDoorTie.lean); close each card by the builder's one call (the guide's Derived/Test/ToyasCard.lean, 'card_holds'). Laid BY PROGRAM, IN A SANDBOX (cutbox-door.mjs). By AI agents, Wed Nov 11 2026. No macro, syntax, notation, axiom, sorry.
-/
import Derived.Test.YtohaapnkipiocaaDoorRows
import GoSem.ClaimSeven
namespace Go.Proofs.YtohaapnkipiocaaDoor
namespace Rows

/-- THE TIED CARD OF 'riddlelaw.ImageAdds'. -/
def imageAddsCard : Claim7 := { stood := { row := imageAddsRow, standIns := [], harness := (true, "9c038f8ac01fa53c8dc0b3351b9b39d372026201a143102bb0bdbcd4e2c96247"), looks := false }, kinds := [], alts := [], laidByText := true, laidKinds := [.data, .data, .data], laidTests := true, laidLooks := .later }
def ImageAddsCardSaid : Prop := Claim7.holds Tryd.pinned (.plain (OpenSpec.ofChange imageAddsSpec)) imageAddsCard

/-- THE TIED CARD OF 'riddlelaw.ImageHolds'. -/
def imageHoldsCard : Claim7 := { stood := { row := imageHoldsRow, standIns := [], harness := (true, "9c038f8ac01fa53c8dc0b3351b9b39d372026201a143102bb0bdbcd4e2c96247"), looks := false }, kinds := [], alts := [], laidByText := true, laidKinds := [.data, .data, .data], laidTests := true, laidLooks := .later }
def ImageHoldsCardSaid : Prop := Claim7.holds Tryd.pinned (.plain (OpenSpec.ofChange imageHoldsSpec)) imageHoldsCard

/-- THE TIED CARD OF 'riddlelaw.ImageExpects'. -/
def imageExpectsCard : Claim7 := { stood := { row := imageExpectsRow, standIns := [], harness := (true, "9c038f8ac01fa53c8dc0b3351b9b39d372026201a143102bb0bdbcd4e2c96247"), looks := false }, kinds := [], alts := [], laidByText := true, laidKinds := [.data, .data, .data], laidTests := true, laidLooks := .later }
def ImageExpectsCardSaid : Prop := Claim7.holds Tryd.pinned (.plain (OpenSpec.ofChange imageExpectsSpec)) imageExpectsCard

/-- THE TIED CARD OF 'riddlelaw.EpcPuts'. -/
def epcPutsCard : Claim7 := { stood := { row := epcPutsRow, standIns := [], harness := (true, "9c038f8ac01fa53c8dc0b3351b9b39d372026201a143102bb0bdbcd4e2c96247"), looks := false }, kinds := [], alts := [], laidByText := true, laidKinds := [.data, .data, .data], laidTests := true, laidLooks := .later }
def EpcPutsCardSaid : Prop := Claim7.holds Tryd.pinned (.plain (OpenSpec.ofChange epcPutsSpec)) epcPutsCard

/-- THE TIED CARD OF 'riddlekeep.ImagesTouched'. -/
def imagesTouchedCard : Claim7 := { stood := { row := imagesTouchedRow, standIns := [], harness := (true, "9c038f8ac01fa53c8dc0b3351b9b39d372026201a143102bb0bdbcd4e2c96247"), looks := false }, kinds := [], alts := [], laidByText := true, laidKinds := [.data, .data, .data], laidTests := true, laidLooks := .later }
def ImagesTouchedCardSaid : Prop := Claim7.holds Tryd.pinned (.plain (OpenSpec.ofChange imagesTouchedSpec)) imagesTouchedCard

/-- THE TIED CARD OF 'riddlekeep.ImagesApart'. -/
def imagesApartCard : Claim7 := { stood := { row := imagesApartRow, standIns := [], harness := (true, "9c038f8ac01fa53c8dc0b3351b9b39d372026201a143102bb0bdbcd4e2c96247"), looks := false }, kinds := [], alts := [], laidByText := true, laidKinds := [.data, .data, .data], laidTests := true, laidLooks := .later }
def ImagesApartCardSaid : Prop := Claim7.holds Tryd.pinned (.plain (OpenSpec.ofChange imagesApartSpec)) imagesApartCard

/-- THE TIED CARD OF 'riddlelaw.EpcMeasures'. -/
def epcMeasuresCard : Claim7 := { stood := { row := epcMeasuresRow, standIns := [], harness := (true, "9c038f8ac01fa53c8dc0b3351b9b39d372026201a143102bb0bdbcd4e2c96247"), looks := false }, kinds := [], alts := [], laidByText := true, laidKinds := [.data, .data, .data], laidTests := true, laidLooks := .later }
def EpcMeasuresCardSaid : Prop := Claim7.holds Tryd.pinned (.plain (OpenSpec.ofChange epcMeasuresSpec)) epcMeasuresCard

/-- THE TIED CARD OF 'riddlekeep.PagesApart'. -/
def pagesApartCard : Claim7 := { stood := { row := pagesApartRow, standIns := [], harness := (true, "9c038f8ac01fa53c8dc0b3351b9b39d372026201a143102bb0bdbcd4e2c96247"), looks := false }, kinds := [], alts := [], laidByText := true, laidKinds := [.data, .data, .data], laidTests := true, laidLooks := .later }
def PagesApartCardSaid : Prop := Claim7.holds Tryd.pinned (.plain (OpenSpec.ofChange pagesApartSpec)) pagesApartCard

/-- THE TIED CARD OF 'riddlekeep.StartsClose'. -/
def startsCloseCard : Claim7 := { stood := { row := startsCloseRow, standIns := [], harness := (true, "9c038f8ac01fa53c8dc0b3351b9b39d372026201a143102bb0bdbcd4e2c96247"), looks := false }, kinds := [], alts := [], laidByText := true, laidKinds := [.data, .data, .data], laidTests := true, laidLooks := .later }
def StartsCloseCardSaid : Prop := Claim7.holds Tryd.pinned (.plain (OpenSpec.ofChange startsCloseSpec)) startsCloseCard

/-- THE TIED CARD OF 'riddlekeep.HostsGood'. -/
def hostsGoodCard : Claim7 := { stood := { row := hostsGoodRow, standIns := [], harness := (true, "9c038f8ac01fa53c8dc0b3351b9b39d372026201a143102bb0bdbcd4e2c96247"), looks := false }, kinds := [], alts := [], laidByText := true, laidKinds := [.data, .data, .data], laidTests := true, laidLooks := .later }
def HostsGoodCardSaid : Prop := Claim7.holds Tryd.pinned (.plain (OpenSpec.ofChange hostsGoodSpec)) hostsGoodCard

/-- THE TIED CARD OF 'riddlekeep.RunsReckon'. -/
def runsReckonCard : Claim7 := { stood := { row := runsReckonRow, standIns := [], harness := (true, "9c038f8ac01fa53c8dc0b3351b9b39d372026201a143102bb0bdbcd4e2c96247"), looks := false }, kinds := [], alts := [], laidByText := true, laidKinds := [.data, .data, .data], laidTests := true, laidLooks := .later }
def RunsReckonCardSaid : Prop := Claim7.holds Tryd.pinned (.plain (OpenSpec.ofChange runsReckonSpec)) runsReckonCard

/-- THE TIED CARD OF 'riddlekeep.RunsFault'. -/
def runsFaultCard : Claim7 := { stood := { row := runsFaultRow, standIns := [], harness := (true, "9c038f8ac01fa53c8dc0b3351b9b39d372026201a143102bb0bdbcd4e2c96247"), looks := false }, kinds := [], alts := [], laidByText := true, laidKinds := [.data, .data, .data], laidTests := true, laidLooks := .later }
def RunsFaultCardSaid : Prop := Claim7.holds Tryd.pinned (.plain (OpenSpec.ofChange runsFaultSpec)) runsFaultCard

/-- THE TIED CARD OF 'riddletop.TopWalls'. -/
def topWallsCard : Claim7 := { stood := { row := topWallsRow, standIns := [], harness := (true, "9c038f8ac01fa53c8dc0b3351b9b39d372026201a143102bb0bdbcd4e2c96247"), looks := false }, kinds := [], alts := [], laidByText := true, laidKinds := [.data, .data, .data], laidTests := true, laidLooks := .later }
def TopWallsCardSaid : Prop := Claim7.holds Tryd.pinned (.plain (OpenSpec.ofChange topWallsSpec)) topWallsCard

/-- THE TIED CARD OF 'riddletop.TopTrusted'. -/
def topTrustedCard : Claim7 := { stood := { row := topTrustedRow, standIns := [], harness := (true, "9c038f8ac01fa53c8dc0b3351b9b39d372026201a143102bb0bdbcd4e2c96247"), looks := false }, kinds := [], alts := [], laidByText := true, laidKinds := [.data, .data, .data], laidTests := true, laidLooks := .later }
def TopTrustedCardSaid : Prop := Claim7.holds Tryd.pinned (.plain (OpenSpec.ofChange topTrustedSpec)) topTrustedCard

/-- THE TIED CARD OF 'riddletop.TopMeasured'. -/
def topMeasuredCard : Claim7 := { stood := { row := topMeasuredRow, standIns := [], harness := (true, "9c038f8ac01fa53c8dc0b3351b9b39d372026201a143102bb0bdbcd4e2c96247"), looks := false }, kinds := [], alts := [], laidByText := true, laidKinds := [.data, .data, .data], laidTests := true, laidLooks := .later }
def TopMeasuredCardSaid : Prop := Claim7.holds Tryd.pinned (.plain (OpenSpec.ofChange topMeasuredSpec)) topMeasuredCard

/-- THE SECOND FORM's CARD OF 'riddlelaw.ImageAdds'. -/
def imageAddsUptoCard : Claim7 := { stood := { row := imageAddsUptoRow, standIns := [], harness := (true, "9c038f8ac01fa53c8dc0b3351b9b39d372026201a143102bb0bdbcd4e2c96247"), looks := false }, kinds := [], alts := [], laidByText := true, laidKinds := [.data, .data, .data], laidTests := true, laidLooks := .later }
def ImageAddsUptoCardSaid : Prop := Claim7.holds Tryd.pinned (.plain (OpenSpec.upto imageAddsSpec)) imageAddsUptoCard

/-- THE SECOND FORM's CARD OF 'riddlelaw.ImageHolds'. -/
def imageHoldsUptoCard : Claim7 := { stood := { row := imageHoldsUptoRow, standIns := [], harness := (true, "9c038f8ac01fa53c8dc0b3351b9b39d372026201a143102bb0bdbcd4e2c96247"), looks := false }, kinds := [], alts := [], laidByText := true, laidKinds := [.data, .data, .data], laidTests := true, laidLooks := .later }
def ImageHoldsUptoCardSaid : Prop := Claim7.holds Tryd.pinned (.plain (OpenSpec.upto imageHoldsSpec)) imageHoldsUptoCard

/-- THE SECOND FORM's CARD OF 'riddlelaw.ImageExpects'. -/
def imageExpectsUptoCard : Claim7 := { stood := { row := imageExpectsUptoRow, standIns := [], harness := (true, "9c038f8ac01fa53c8dc0b3351b9b39d372026201a143102bb0bdbcd4e2c96247"), looks := false }, kinds := [], alts := [], laidByText := true, laidKinds := [.data, .data, .data], laidTests := true, laidLooks := .later }
def ImageExpectsUptoCardSaid : Prop := Claim7.holds Tryd.pinned (.plain (OpenSpec.upto imageExpectsSpec)) imageExpectsUptoCard

/-- THE SECOND FORM's CARD OF 'riddlelaw.EpcPuts'. -/
def epcPutsUptoCard : Claim7 := { stood := { row := epcPutsUptoRow, standIns := [], harness := (true, "9c038f8ac01fa53c8dc0b3351b9b39d372026201a143102bb0bdbcd4e2c96247"), looks := false }, kinds := [], alts := [], laidByText := true, laidKinds := [.data, .data, .data], laidTests := true, laidLooks := .later }
def EpcPutsUptoCardSaid : Prop := Claim7.holds Tryd.pinned (.plain (OpenSpec.upto epcPutsSpec)) epcPutsUptoCard

/-- THE SECOND FORM's CARD OF 'riddlekeep.ImagesTouched'. -/
def imagesTouchedUptoCard : Claim7 := { stood := { row := imagesTouchedUptoRow, standIns := [], harness := (true, "9c038f8ac01fa53c8dc0b3351b9b39d372026201a143102bb0bdbcd4e2c96247"), looks := false }, kinds := [], alts := [], laidByText := true, laidKinds := [.data, .data, .data], laidTests := true, laidLooks := .later }
def ImagesTouchedUptoCardSaid : Prop := Claim7.holds Tryd.pinned (.plain (OpenSpec.upto imagesTouchedSpec)) imagesTouchedUptoCard

/-- THE SECOND FORM's CARD OF 'riddlekeep.ImagesApart'. -/
def imagesApartUptoCard : Claim7 := { stood := { row := imagesApartUptoRow, standIns := [], harness := (true, "9c038f8ac01fa53c8dc0b3351b9b39d372026201a143102bb0bdbcd4e2c96247"), looks := false }, kinds := [], alts := [], laidByText := true, laidKinds := [.data, .data, .data], laidTests := true, laidLooks := .later }
def ImagesApartUptoCardSaid : Prop := Claim7.holds Tryd.pinned (.plain (OpenSpec.upto imagesApartSpec)) imagesApartUptoCard

/-- THE SECOND FORM's CARD OF 'riddlelaw.EpcMeasures'. -/
def epcMeasuresUptoCard : Claim7 := { stood := { row := epcMeasuresUptoRow, standIns := [], harness := (true, "9c038f8ac01fa53c8dc0b3351b9b39d372026201a143102bb0bdbcd4e2c96247"), looks := false }, kinds := [], alts := [], laidByText := true, laidKinds := [.data, .data, .data], laidTests := true, laidLooks := .later }
def EpcMeasuresUptoCardSaid : Prop := Claim7.holds Tryd.pinned (.plain (OpenSpec.upto epcMeasuresSpec)) epcMeasuresUptoCard

/-- THE SECOND FORM's CARD OF 'riddlekeep.PagesApart'. -/
def pagesApartUptoCard : Claim7 := { stood := { row := pagesApartUptoRow, standIns := [], harness := (true, "9c038f8ac01fa53c8dc0b3351b9b39d372026201a143102bb0bdbcd4e2c96247"), looks := false }, kinds := [], alts := [], laidByText := true, laidKinds := [.data, .data, .data], laidTests := true, laidLooks := .later }
def PagesApartUptoCardSaid : Prop := Claim7.holds Tryd.pinned (.plain (OpenSpec.upto pagesApartSpec)) pagesApartUptoCard

/-- THE SECOND FORM's CARD OF 'riddlekeep.StartsClose'. -/
def startsCloseUptoCard : Claim7 := { stood := { row := startsCloseUptoRow, standIns := [], harness := (true, "9c038f8ac01fa53c8dc0b3351b9b39d372026201a143102bb0bdbcd4e2c96247"), looks := false }, kinds := [], alts := [], laidByText := true, laidKinds := [.data, .data, .data], laidTests := true, laidLooks := .later }
def StartsCloseUptoCardSaid : Prop := Claim7.holds Tryd.pinned (.plain (OpenSpec.upto startsCloseSpec)) startsCloseUptoCard

/-- THE SECOND FORM's CARD OF 'riddlekeep.HostsGood'. -/
def hostsGoodUptoCard : Claim7 := { stood := { row := hostsGoodUptoRow, standIns := [], harness := (true, "9c038f8ac01fa53c8dc0b3351b9b39d372026201a143102bb0bdbcd4e2c96247"), looks := false }, kinds := [], alts := [], laidByText := true, laidKinds := [.data, .data, .data], laidTests := true, laidLooks := .later }
def HostsGoodUptoCardSaid : Prop := Claim7.holds Tryd.pinned (.plain (OpenSpec.upto hostsGoodSpec)) hostsGoodUptoCard

/-- THE SECOND FORM's CARD OF 'riddlekeep.RunsReckon'. -/
def runsReckonUptoCard : Claim7 := { stood := { row := runsReckonUptoRow, standIns := [], harness := (true, "9c038f8ac01fa53c8dc0b3351b9b39d372026201a143102bb0bdbcd4e2c96247"), looks := false }, kinds := [], alts := [], laidByText := true, laidKinds := [.data, .data, .data], laidTests := true, laidLooks := .later }
def RunsReckonUptoCardSaid : Prop := Claim7.holds Tryd.pinned (.plain (OpenSpec.upto runsReckonSpec)) runsReckonUptoCard

/-- THE SECOND FORM's CARD OF 'riddlekeep.RunsFault'. -/
def runsFaultUptoCard : Claim7 := { stood := { row := runsFaultUptoRow, standIns := [], harness := (true, "9c038f8ac01fa53c8dc0b3351b9b39d372026201a143102bb0bdbcd4e2c96247"), looks := false }, kinds := [], alts := [], laidByText := true, laidKinds := [.data, .data, .data], laidTests := true, laidLooks := .later }
def RunsFaultUptoCardSaid : Prop := Claim7.holds Tryd.pinned (.plain (OpenSpec.upto runsFaultSpec)) runsFaultUptoCard

/-- THE SECOND FORM's CARD OF 'riddletop.TopWalls'. -/
def topWallsUptoCard : Claim7 := { stood := { row := topWallsUptoRow, standIns := [], harness := (true, "9c038f8ac01fa53c8dc0b3351b9b39d372026201a143102bb0bdbcd4e2c96247"), looks := false }, kinds := [], alts := [], laidByText := true, laidKinds := [.data, .data, .data], laidTests := true, laidLooks := .later }
def TopWallsUptoCardSaid : Prop := Claim7.holds Tryd.pinned (.plain (OpenSpec.upto topWallsSpec)) topWallsUptoCard

/-- THE SECOND FORM's CARD OF 'riddletop.TopTrusted'. -/
def topTrustedUptoCard : Claim7 := { stood := { row := topTrustedUptoRow, standIns := [], harness := (true, "9c038f8ac01fa53c8dc0b3351b9b39d372026201a143102bb0bdbcd4e2c96247"), looks := false }, kinds := [], alts := [], laidByText := true, laidKinds := [.data, .data, .data], laidTests := true, laidLooks := .later }
def TopTrustedUptoCardSaid : Prop := Claim7.holds Tryd.pinned (.plain (OpenSpec.upto topTrustedSpec)) topTrustedUptoCard

/-- THE SECOND FORM's CARD OF 'riddletop.TopMeasured'. -/
def topMeasuredUptoCard : Claim7 := { stood := { row := topMeasuredUptoRow, standIns := [], harness := (true, "9c038f8ac01fa53c8dc0b3351b9b39d372026201a143102bb0bdbcd4e2c96247"), looks := false }, kinds := [], alts := [], laidByText := true, laidKinds := [.data, .data, .data], laidTests := true, laidLooks := .later }
def TopMeasuredUptoCardSaid : Prop := Claim7.holds Tryd.pinned (.plain (OpenSpec.upto topMeasuredSpec)) topMeasuredUptoCard
end Rows
end Go.Proofs.YtohaapnkipiocaaDoor
