/-
  DERIVED. GIVEN WITH THE SEED: THE CARDS: each row of YtbamacddfonloaaDoorRows.lean that lists a variable, with what it lists TIED to the program's text (the seventh form; the later family's looks); each row that meets fmt, with fmt's text TOLD by the authors' own Lean function (tested against real Go, not proved from fmt's source: count such statements apart). THE CARD IS WHAT COUNTS. Prove the row's statement (the work); the ties are given (YtbamacddfonloaaDoorTie.lean); close each card by the builder's one call (the guide's Derived/Test/ToyasCard.lean, 'card_holds'). Laid BY PROGRAM, IN A SANDBOX (cutbox-door.mjs). By AI agents, Wed Nov 11 2026. No macro, syntax, notation, axiom, sorry.
-/
import Derived.Test.YtbamacddfonloaaDoorRows
import GoSem.ClaimSeven
namespace Go.Proofs.YtbamacddfonloaaDoor
namespace Rows

/-- THE TIED CARD OF 'riddlekeep.HostsGood'. -/
def hostsGoodCard : Claim7 := { stood := { row := hostsGoodRow, standIns := [], harness := (true, "d47ec9bf35b259368fb34733777d63d98ee1e54b56e4d94a4cf62425362f761b"), looks := false }, kinds := [], alts := [], laidByText := true, laidKinds := [.data, .data, .data], laidTests := true, laidLooks := .later }
def HostsGoodCardSaid : Prop := Claim7.holds Tryd.pinned (.plain (OpenSpec.ofChange hostsGoodSpec)) hostsGoodCard

/-- THE TIED CARD OF 'riddlekeep.RunsReckon'. -/
def runsReckonCard : Claim7 := { stood := { row := runsReckonRow, standIns := [], harness := (true, "d47ec9bf35b259368fb34733777d63d98ee1e54b56e4d94a4cf62425362f761b"), looks := false }, kinds := [], alts := [], laidByText := true, laidKinds := [.data, .data, .data], laidTests := true, laidLooks := .later }
def RunsReckonCardSaid : Prop := Claim7.holds Tryd.pinned (.plain (OpenSpec.ofChange runsReckonSpec)) runsReckonCard

/-- THE TIED CARD OF 'riddlekeep.RunsFault'. -/
def runsFaultCard : Claim7 := { stood := { row := runsFaultRow, standIns := [], harness := (true, "d47ec9bf35b259368fb34733777d63d98ee1e54b56e4d94a4cf62425362f761b"), looks := false }, kinds := [], alts := [], laidByText := true, laidKinds := [.data, .data, .data], laidTests := true, laidLooks := .later }
def RunsFaultCardSaid : Prop := Claim7.holds Tryd.pinned (.plain (OpenSpec.ofChange runsFaultSpec)) runsFaultCard

/-- THE TIED CARD OF 'riddletop.TopWalls'. -/
def topWallsCard : Claim7 := { stood := { row := topWallsRow, standIns := [], harness := (true, "d47ec9bf35b259368fb34733777d63d98ee1e54b56e4d94a4cf62425362f761b"), looks := false }, kinds := [], alts := [], laidByText := true, laidKinds := [.data, .data, .data], laidTests := true, laidLooks := .later }
def TopWallsCardSaid : Prop := Claim7.holds Tryd.pinned (.plain (OpenSpec.ofChange topWallsSpec)) topWallsCard

/-- THE TIED CARD OF 'riddletop.TopTrusted'. -/
def topTrustedCard : Claim7 := { stood := { row := topTrustedRow, standIns := [], harness := (true, "d47ec9bf35b259368fb34733777d63d98ee1e54b56e4d94a4cf62425362f761b"), looks := false }, kinds := [], alts := [], laidByText := true, laidKinds := [.data, .data, .data], laidTests := true, laidLooks := .later }
def TopTrustedCardSaid : Prop := Claim7.holds Tryd.pinned (.plain (OpenSpec.ofChange topTrustedSpec)) topTrustedCard

/-- THE TIED CARD OF 'riddletop.TopMeasured'. -/
def topMeasuredCard : Claim7 := { stood := { row := topMeasuredRow, standIns := [], harness := (true, "d47ec9bf35b259368fb34733777d63d98ee1e54b56e4d94a4cf62425362f761b"), looks := false }, kinds := [], alts := [], laidByText := true, laidKinds := [.data, .data, .data], laidTests := true, laidLooks := .later }
def TopMeasuredCardSaid : Prop := Claim7.holds Tryd.pinned (.plain (OpenSpec.ofChange topMeasuredSpec)) topMeasuredCard

/-- THE SECOND FORM's CARD OF 'riddlekeep.HostsGood'. -/
def hostsGoodUptoCard : Claim7 := { stood := { row := hostsGoodUptoRow, standIns := [], harness := (true, "d47ec9bf35b259368fb34733777d63d98ee1e54b56e4d94a4cf62425362f761b"), looks := false }, kinds := [], alts := [], laidByText := true, laidKinds := [.data, .data, .data], laidTests := true, laidLooks := .later }
def HostsGoodUptoCardSaid : Prop := Claim7.holds Tryd.pinned (.plain (OpenSpec.upto hostsGoodSpec)) hostsGoodUptoCard

/-- THE SECOND FORM's CARD OF 'riddlekeep.RunsReckon'. -/
def runsReckonUptoCard : Claim7 := { stood := { row := runsReckonUptoRow, standIns := [], harness := (true, "d47ec9bf35b259368fb34733777d63d98ee1e54b56e4d94a4cf62425362f761b"), looks := false }, kinds := [], alts := [], laidByText := true, laidKinds := [.data, .data, .data], laidTests := true, laidLooks := .later }
def RunsReckonUptoCardSaid : Prop := Claim7.holds Tryd.pinned (.plain (OpenSpec.upto runsReckonSpec)) runsReckonUptoCard

/-- THE SECOND FORM's CARD OF 'riddlekeep.RunsFault'. -/
def runsFaultUptoCard : Claim7 := { stood := { row := runsFaultUptoRow, standIns := [], harness := (true, "d47ec9bf35b259368fb34733777d63d98ee1e54b56e4d94a4cf62425362f761b"), looks := false }, kinds := [], alts := [], laidByText := true, laidKinds := [.data, .data, .data], laidTests := true, laidLooks := .later }
def RunsFaultUptoCardSaid : Prop := Claim7.holds Tryd.pinned (.plain (OpenSpec.upto runsFaultSpec)) runsFaultUptoCard

/-- THE SECOND FORM's CARD OF 'riddletop.TopWalls'. -/
def topWallsUptoCard : Claim7 := { stood := { row := topWallsUptoRow, standIns := [], harness := (true, "d47ec9bf35b259368fb34733777d63d98ee1e54b56e4d94a4cf62425362f761b"), looks := false }, kinds := [], alts := [], laidByText := true, laidKinds := [.data, .data, .data], laidTests := true, laidLooks := .later }
def TopWallsUptoCardSaid : Prop := Claim7.holds Tryd.pinned (.plain (OpenSpec.upto topWallsSpec)) topWallsUptoCard

/-- THE SECOND FORM's CARD OF 'riddletop.TopTrusted'. -/
def topTrustedUptoCard : Claim7 := { stood := { row := topTrustedUptoRow, standIns := [], harness := (true, "d47ec9bf35b259368fb34733777d63d98ee1e54b56e4d94a4cf62425362f761b"), looks := false }, kinds := [], alts := [], laidByText := true, laidKinds := [.data, .data, .data], laidTests := true, laidLooks := .later }
def TopTrustedUptoCardSaid : Prop := Claim7.holds Tryd.pinned (.plain (OpenSpec.upto topTrustedSpec)) topTrustedUptoCard

/-- THE SECOND FORM's CARD OF 'riddletop.TopMeasured'. -/
def topMeasuredUptoCard : Claim7 := { stood := { row := topMeasuredUptoRow, standIns := [], harness := (true, "d47ec9bf35b259368fb34733777d63d98ee1e54b56e4d94a4cf62425362f761b"), looks := false }, kinds := [], alts := [], laidByText := true, laidKinds := [.data, .data, .data], laidTests := true, laidLooks := .later }
def TopMeasuredUptoCardSaid : Prop := Claim7.holds Tryd.pinned (.plain (OpenSpec.upto topMeasuredSpec)) topMeasuredUptoCard
end Rows
end Go.Proofs.YtbamacddfonloaaDoor
