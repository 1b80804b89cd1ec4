/-
  DERIVED. GIVEN WITH THE SEED: THE CARDS: each row of YtklbbjionoeofaaGreatDoorRows.lean that lists a variable, with what it lists TIED to the program's text (the seventh form; the later family's looks); each row that meets fmt, with fmt's text TOLD by the authors' own Lean function (tested against real Go, not proved from fmt's source: count such statements apart). THE CARD IS WHAT COUNTS. Prove the row's statement (the work); the ties are given (YtklbbjionoeofaaGreatDoorTie.lean); close each card by the builder's one call (the guide's Derived/Test/ToyasCard.lean, 'card_holds'). Laid BY PROGRAM, IN A SANDBOX (cutbox-door.mjs). By AI agents, Wed Nov 11 2026. No macro, syntax, notation, axiom, sorry.
-/
import Derived.Test.YtklbbjionoeofaaGreatDoorRows
import GoSem.ClaimSeven
namespace Go.Proofs.YtklbbjionoeofaaGreatDoor
namespace Rows

/-- THE TIED CARD OF 'riddlelaw.HostRuns'. -/
def hostRunsCard : Claim7 := { stood := { row := hostRunsRow, standIns := [], harness := (true, "cc665f8b0bc2aae68a19c29030ea885eaf8183260cbd15a89dce855cad0a3632"), looks := false }, kinds := [], alts := [], laidByText := true, laidKinds := [.data, .data, .data], laidTests := true, laidLooks := .later }
def HostRunsCardSaid : Prop := Claim7.holds Tryz.pinned (.plain (OpenSpec.ofChange hostRunsSpec)) hostRunsCard

/-- THE SECOND FORM's CARD OF 'riddlelaw.HostRuns'. -/
def hostRunsUptoCard : Claim7 := { stood := { row := hostRunsUptoRow, standIns := [], harness := (true, "cc665f8b0bc2aae68a19c29030ea885eaf8183260cbd15a89dce855cad0a3632"), looks := false }, kinds := [], alts := [], laidByText := true, laidKinds := [.data, .data, .data], laidTests := true, laidLooks := .later }
def HostRunsUptoCardSaid : Prop := Claim7.holds Tryz.pinned (.plain (OpenSpec.upto hostRunsSpec)) hostRunsUptoCard
end Rows
end Go.Proofs.YtklbbjionoeofaaGreatDoor
