/-
  DERIVED. GIVEN WITH THE SEED: THE CARDS: each row of YtbamacddfonloaaGreatDoorRows.lean that lists a variable, with what it lists TIED to the program's text (the seventh form; the later family's looks); each row that meets fmt, with fmt's text TOLD by the authors' own Lean function (tested against real Go, not proved from fmt's source: count such statements apart). THE CARD IS WHAT COUNTS. Prove the row's statement (the work); the ties are given (YtbamacddfonloaaGreatDoorTie.lean); close each card by the builder's one call (the guide's Derived/Test/ToyasCard.lean, 'card_holds'). Laid BY PROGRAM, IN A SANDBOX (cutbox-door.mjs). By AI agents, Wed Nov 11 2026. No macro, syntax, notation, axiom, sorry.
-/
import Derived.Test.YtbamacddfonloaaGreatDoorRows
import GoSem.ClaimSeven
namespace Go.Proofs.YtbamacddfonloaaGreatDoor
namespace Rows

/-- THE TIED CARD OF 'riddletop.TopBlind'. -/
def topBlindCard : Claim7 := { stood := { row := topBlindRow, standIns := [], harness := (true, "2726c09953a6fed11c7c8cceb42bc6f913c032b7cbec0facff9ee11a1cc7c210"), looks := false }, kinds := [], alts := [], laidByText := true, laidKinds := [.data, .data, .data], laidTests := true, laidLooks := .later }
def TopBlindCardSaid : Prop := Claim7.holds Tryz.pinned (.plain (OpenSpec.ofChange topBlindSpec)) topBlindCard

/-- THE TIED CARD OF 'riddletop.TopHeld'. -/
def topHeldCard : Claim7 := { stood := { row := topHeldRow, standIns := [], harness := (true, "2726c09953a6fed11c7c8cceb42bc6f913c032b7cbec0facff9ee11a1cc7c210"), looks := false }, kinds := [], alts := [], laidByText := true, laidKinds := [.data, .data, .data], laidTests := true, laidLooks := .later }
def TopHeldCardSaid : Prop := Claim7.holds Tryz.pinned (.plain (OpenSpec.ofChange topHeldSpec)) topHeldCard

/-- THE TIED CARD OF 'riddletop.TopBuilt'. -/
def topBuiltCard : Claim7 := { stood := { row := topBuiltRow, standIns := [], harness := (true, "2726c09953a6fed11c7c8cceb42bc6f913c032b7cbec0facff9ee11a1cc7c210"), looks := false }, kinds := [], alts := [], laidByText := true, laidKinds := [.data, .data, .data], laidTests := true, laidLooks := .later }
def TopBuiltCardSaid : Prop := Claim7.holds Tryz.pinned (.plain (OpenSpec.ofChange topBuiltSpec)) topBuiltCard

/-- THE TIED CARD OF 'riddlelaw.HostRuns'. -/
def hostRunsCard : Claim7 := { stood := { row := hostRunsRow, standIns := [], harness := (true, "2726c09953a6fed11c7c8cceb42bc6f913c032b7cbec0facff9ee11a1cc7c210"), looks := false }, kinds := [], alts := [], laidByText := true, laidKinds := [.data, .data, .data], laidTests := true, laidLooks := .later }
def HostRunsCardSaid : Prop := Claim7.holds Tryz.pinned (.plain (OpenSpec.ofChange hostRunsSpec)) hostRunsCard

/-- THE SECOND FORM's CARD OF 'riddletop.TopBlind'. -/
def topBlindUptoCard : Claim7 := { stood := { row := topBlindUptoRow, standIns := [], harness := (true, "2726c09953a6fed11c7c8cceb42bc6f913c032b7cbec0facff9ee11a1cc7c210"), looks := false }, kinds := [], alts := [], laidByText := true, laidKinds := [.data, .data, .data], laidTests := true, laidLooks := .later }
def TopBlindUptoCardSaid : Prop := Claim7.holds Tryz.pinned (.plain (OpenSpec.upto topBlindSpec)) topBlindUptoCard

/-- THE SECOND FORM's CARD OF 'riddletop.TopHeld'. -/
def topHeldUptoCard : Claim7 := { stood := { row := topHeldUptoRow, standIns := [], harness := (true, "2726c09953a6fed11c7c8cceb42bc6f913c032b7cbec0facff9ee11a1cc7c210"), looks := false }, kinds := [], alts := [], laidByText := true, laidKinds := [.data, .data, .data], laidTests := true, laidLooks := .later }
def TopHeldUptoCardSaid : Prop := Claim7.holds Tryz.pinned (.plain (OpenSpec.upto topHeldSpec)) topHeldUptoCard

/-- THE SECOND FORM's CARD OF 'riddletop.TopBuilt'. -/
def topBuiltUptoCard : Claim7 := { stood := { row := topBuiltUptoRow, standIns := [], harness := (true, "2726c09953a6fed11c7c8cceb42bc6f913c032b7cbec0facff9ee11a1cc7c210"), looks := false }, kinds := [], alts := [], laidByText := true, laidKinds := [.data, .data, .data], laidTests := true, laidLooks := .later }
def TopBuiltUptoCardSaid : Prop := Claim7.holds Tryz.pinned (.plain (OpenSpec.upto topBuiltSpec)) topBuiltUptoCard

/-- THE SECOND FORM's CARD OF 'riddlelaw.HostRuns'. -/
def hostRunsUptoCard : Claim7 := { stood := { row := hostRunsUptoRow, standIns := [], harness := (true, "2726c09953a6fed11c7c8cceb42bc6f913c032b7cbec0facff9ee11a1cc7c210"), looks := false }, kinds := [], alts := [], laidByText := true, laidKinds := [.data, .data, .data], laidTests := true, laidLooks := .later }
def HostRunsUptoCardSaid : Prop := Claim7.holds Tryz.pinned (.plain (OpenSpec.upto hostRunsSpec)) hostRunsUptoCard
end Rows
end Go.Proofs.YtbamacddfonloaaGreatDoor
