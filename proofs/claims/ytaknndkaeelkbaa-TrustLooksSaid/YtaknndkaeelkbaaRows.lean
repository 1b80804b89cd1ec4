/-
  No cell of these rows narrows 'for every input' (looked for: loops, veiled, ifaces, maps, wideKeys, modest, calm, conditions, laid).
  DERIVED. THE GIVEN ROWS OF THIS SEAT. 21 by the template 'for every input the law returns true; each argument reads behind the call as it read before'; 0 by the template 'total and deterministic' (their statements: YtaknndkaeelkbaaTotals.lean).
  GIVEN WITH THE SEED: the statements are not yours to turn. If you find one false, say at which input.
  Laid BY PROGRAM, IN A SANDBOX (cutbox-rows.mjs): the forced cells as the released guide's own fill.sh prints them over the translation 141d2fc5172cc819… (all of the seat's roots in one cut). By AI agents, Wed Nov 11 2026. No macro, syntax, notation, axiom, sorry.
-/
import Derived.Test.YtaknndkaeelkbaaChecked
import GoSem.Claim
import GoSem.ClaimJoined
import GoSem.ClaimMapViews
import Derived.JoinedTies
import Derived.KernelRfl
namespace Go.Proofs.Ytaknndkaeelkbaa
/- THE CELL 'sum', in the pinned program and in every row, IS THE sha256 OF THE DUMP (.gsa) THAT YtaknndkaeelkbaaProg.lean LOADS. Nothing in Lean hashes anything: it is a label: what it is worth is what the hold of that sum in a sandbox is worth. -/
noncomputable def Try.pinned : Pinned := { name := "ytaknndkaeelkbaa", sum := "141d2fc5172cc819fee30691fb67dd55fdf783fd9e19041f9d0c12b5a4372ff7", checked := Try.checked }
namespace Rows
def none {H : Type} : Left H := { results := [], args := [] }

/-- 'riddlelaw.EpcNew': WHATEVER THE INPUT: true; the input reads as it did. -/
def epcNewSpec : ChangeSpec := { name := "epcNew", fn := fun _ => fun
  | [] => { results := [.lit (.bool true)], args := [] }
  | _ => none }
def epcNewRow : OpenClaim := { program := "ytaknndkaeelkbaa", sum := "141d2fc5172cc819fee30691fb67dd55fdf783fd9e19041f9d0c12b5a4372ff7", func := "riddle/riddlelaw.EpcNew", spec := "epcNew", apart := false }
def EpcNewSaid : Prop := epcNewRow.holds Try.pinned (OpenSpec.ofChange epcNewSpec)

/-- ITS FALSE NEIGHBOUR: 'it returns false'. Refute it at one input. -/
def epcNewWrong : ChangeSpec := { name := "epcNew", fn := fun _ => fun
  | [] => { results := [.lit (.bool false)], args := [] }
  | _ => none }
def EpcNewWrongFalsely : Prop := epcNewRow.holds Try.pinned (OpenSpec.ofChange epcNewWrong)

/-- 'riddlelaw.EpcPlaces': WHATEVER THE INPUT: true; the input reads as it did. -/
def epcPlacesSpec : ChangeSpec := { name := "epcPlaces", fn := fun _ => fun
  | [d1, d2, d3] => { results := [.lit (.bool true)], args := [d1, d2, d3] }
  | _ => none }
def epcPlacesRow : OpenClaim := { program := "ytaknndkaeelkbaa", sum := "141d2fc5172cc819fee30691fb67dd55fdf783fd9e19041f9d0c12b5a4372ff7", func := "riddle/riddlelaw.EpcPlaces", spec := "epcPlaces", unfollowed := true, recurses := true, apart := false }
def EpcPlacesSaid : Prop := epcPlacesRow.holds Try.pinned (OpenSpec.ofChange epcPlacesSpec)

/-- ITS FALSE NEIGHBOUR: 'it returns false'. Refute it at one input. -/
def epcPlacesWrong : ChangeSpec := { name := "epcPlaces", fn := fun _ => fun
  | [d1, d2, d3] => { results := [.lit (.bool false)], args := [d1, d2, d3] }
  | _ => none }
def EpcPlacesWrongFalsely : Prop := epcPlacesRow.holds Try.pinned (OpenSpec.ofChange epcPlacesWrong)

/-- 'riddlelaw.TrustCopies': WHATEVER THE INPUT: true; the input reads as it did. -/
def trustCopiesSpec : ChangeSpec := { name := "trustCopies", fn := fun _ => fun
  | [d] => { results := [.lit (.bool true)], args := [d] }
  | _ => none }
def trustCopiesRow : OpenClaim := { program := "ytaknndkaeelkbaa", sum := "141d2fc5172cc819fee30691fb67dd55fdf783fd9e19041f9d0c12b5a4372ff7", func := "riddle/riddlelaw.TrustCopies", spec := "trustCopies", apart := false }
def TrustCopiesSaid : Prop := trustCopiesRow.holds Try.pinned (OpenSpec.ofChange trustCopiesSpec)

/-- ITS FALSE NEIGHBOUR: 'it returns false'. Refute it at one input. -/
def trustCopiesWrong : ChangeSpec := { name := "trustCopies", fn := fun _ => fun
  | [d] => { results := [.lit (.bool false)], args := [d] }
  | _ => none }
def TrustCopiesWrongFalsely : Prop := trustCopiesRow.holds Try.pinned (OpenSpec.ofChange trustCopiesWrong)

/-- 'riddlelaw.ImageWords': WHATEVER THE INPUT: true; the input reads as it did. -/
def imageWordsSpec : ChangeSpec := { name := "imageWords", fn := fun _ => fun
  | [d] => { results := [.lit (.bool true)], args := [d] }
  | _ => none }
def imageWordsRow : OpenClaim := { program := "ytaknndkaeelkbaa", sum := "141d2fc5172cc819fee30691fb67dd55fdf783fd9e19041f9d0c12b5a4372ff7", func := "riddle/riddlelaw.ImageWords", spec := "imageWords", unfollowed := true, recurses := true, apart := false }
def ImageWordsSaid : Prop := imageWordsRow.holds Try.pinned (OpenSpec.ofChange imageWordsSpec)

/-- ITS FALSE NEIGHBOUR: 'it returns false'. Refute it at one input. -/
def imageWordsWrong : ChangeSpec := { name := "imageWords", fn := fun _ => fun
  | [d] => { results := [.lit (.bool false)], args := [d] }
  | _ => none }
def ImageWordsWrongFalsely : Prop := imageWordsRow.holds Try.pinned (OpenSpec.ofChange imageWordsWrong)

/-- 'riddlelaw.ImageCopies': WHATEVER THE INPUT: true; the input reads as it did. -/
def imageCopiesSpec : ChangeSpec := { name := "imageCopies", fn := fun _ => fun
  | [d] => { results := [.lit (.bool true)], args := [d] }
  | _ => none }
def imageCopiesRow : OpenClaim := { program := "ytaknndkaeelkbaa", sum := "141d2fc5172cc819fee30691fb67dd55fdf783fd9e19041f9d0c12b5a4372ff7", func := "riddle/riddlelaw.ImageCopies", spec := "imageCopies", apart := false }
def ImageCopiesSaid : Prop := imageCopiesRow.holds Try.pinned (OpenSpec.ofChange imageCopiesSpec)

/-- ITS FALSE NEIGHBOUR: 'it returns false'. Refute it at one input. -/
def imageCopiesWrong : ChangeSpec := { name := "imageCopies", fn := fun _ => fun
  | [d] => { results := [.lit (.bool false)], args := [d] }
  | _ => none }
def ImageCopiesWrongFalsely : Prop := imageCopiesRow.holds Try.pinned (OpenSpec.ofChange imageCopiesWrong)

/-- 'riddlelaw.EpcCopies': WHATEVER THE INPUT: true; the input reads as it did. -/
def epcCopiesSpec : ChangeSpec := { name := "epcCopies", fn := fun _ => fun
  | [d] => { results := [.lit (.bool true)], args := [d] }
  | _ => none }
def epcCopiesRow : OpenClaim := { program := "ytaknndkaeelkbaa", sum := "141d2fc5172cc819fee30691fb67dd55fdf783fd9e19041f9d0c12b5a4372ff7", func := "riddle/riddlelaw.EpcCopies", spec := "epcCopies", apart := false }
def EpcCopiesSaid : Prop := epcCopiesRow.holds Try.pinned (OpenSpec.ofChange epcCopiesSpec)

/-- ITS FALSE NEIGHBOUR: 'it returns false'. Refute it at one input. -/
def epcCopiesWrong : ChangeSpec := { name := "epcCopies", fn := fun _ => fun
  | [d] => { results := [.lit (.bool false)], args := [d] }
  | _ => none }
def EpcCopiesWrongFalsely : Prop := epcCopiesRow.holds Try.pinned (OpenSpec.ofChange epcCopiesWrong)

/-- 'riddlelaw.TrustChecks': WHATEVER THE INPUT: true; the input reads as it did. -/
def trustChecksSpec : ChangeSpec := { name := "trustChecks", fn := fun _ => fun
  | [d] => { results := [.lit (.bool true)], args := [d] }
  | _ => none }
def trustChecksRow : OpenClaim := { program := "ytaknndkaeelkbaa", sum := "141d2fc5172cc819fee30691fb67dd55fdf783fd9e19041f9d0c12b5a4372ff7", func := "riddle/riddlelaw.TrustChecks", spec := "trustChecks", unfollowed := true, recurses := true, apart := false }
def TrustChecksSaid : Prop := trustChecksRow.holds Try.pinned (OpenSpec.ofChange trustChecksSpec)

/-- ITS FALSE NEIGHBOUR: 'it returns false'. Refute it at one input. -/
def trustChecksWrong : ChangeSpec := { name := "trustChecks", fn := fun _ => fun
  | [d] => { results := [.lit (.bool false)], args := [d] }
  | _ => none }
def TrustChecksWrongFalsely : Prop := trustChecksRow.holds Try.pinned (OpenSpec.ofChange trustChecksWrong)

/-- 'riddlelaw.ImagePages': WHATEVER THE INPUT: true; the input reads as it did. -/
def imagePagesSpec : ChangeSpec := { name := "imagePages", fn := fun _ => fun
  | [d] => { results := [.lit (.bool true)], args := [d] }
  | _ => none }
def imagePagesRow : OpenClaim := { program := "ytaknndkaeelkbaa", sum := "141d2fc5172cc819fee30691fb67dd55fdf783fd9e19041f9d0c12b5a4372ff7", func := "riddle/riddlelaw.ImagePages", spec := "imagePages", unfollowed := true, recurses := true, apart := false }
def ImagePagesSaid : Prop := imagePagesRow.holds Try.pinned (OpenSpec.ofChange imagePagesSpec)

/-- ITS FALSE NEIGHBOUR: 'it returns false'. Refute it at one input. -/
def imagePagesWrong : ChangeSpec := { name := "imagePages", fn := fun _ => fun
  | [d] => { results := [.lit (.bool false)], args := [d] }
  | _ => none }
def ImagePagesWrongFalsely : Prop := imagePagesRow.holds Try.pinned (OpenSpec.ofChange imagePagesWrong)

/-- 'riddlelaw.ImageChecks': WHATEVER THE INPUT: true; the input reads as it did. -/
def imageChecksSpec : ChangeSpec := { name := "imageChecks", fn := fun _ => fun
  | [d] => { results := [.lit (.bool true)], args := [d] }
  | _ => none }
def imageChecksRow : OpenClaim := { program := "ytaknndkaeelkbaa", sum := "141d2fc5172cc819fee30691fb67dd55fdf783fd9e19041f9d0c12b5a4372ff7", func := "riddle/riddlelaw.ImageChecks", spec := "imageChecks", unfollowed := true, recurses := true, apart := false }
def ImageChecksSaid : Prop := imageChecksRow.holds Try.pinned (OpenSpec.ofChange imageChecksSpec)

/-- ITS FALSE NEIGHBOUR: 'it returns false'. Refute it at one input. -/
def imageChecksWrong : ChangeSpec := { name := "imageChecks", fn := fun _ => fun
  | [d] => { results := [.lit (.bool false)], args := [d] }
  | _ => none }
def ImageChecksWrongFalsely : Prop := imageChecksRow.holds Try.pinned (OpenSpec.ofChange imageChecksWrong)

/-- 'riddlelaw.TrustAsks': WHATEVER THE INPUT: true; the input reads as it did. -/
def trustAsksSpec : ChangeSpec := { name := "trustAsks", fn := fun _ => fun
  | [d] => { results := [.lit (.bool true)], args := [d] }
  | _ => none }
def trustAsksRow : OpenClaim := { program := "ytaknndkaeelkbaa", sum := "141d2fc5172cc819fee30691fb67dd55fdf783fd9e19041f9d0c12b5a4372ff7", func := "riddle/riddlelaw.TrustAsks", spec := "trustAsks", unfollowed := true, recurses := true, apart := false }
def TrustAsksSaid : Prop := trustAsksRow.holds Try.pinned (OpenSpec.ofChange trustAsksSpec)

/-- ITS FALSE NEIGHBOUR: 'it returns false'. Refute it at one input. -/
def trustAsksWrong : ChangeSpec := { name := "trustAsks", fn := fun _ => fun
  | [d] => { results := [.lit (.bool false)], args := [d] }
  | _ => none }
def TrustAsksWrongFalsely : Prop := trustAsksRow.holds Try.pinned (OpenSpec.ofChange trustAsksWrong)

/-- 'riddlelaw.ImagePlans': WHATEVER THE INPUT: true; the input reads as it did. -/
def imagePlansSpec : ChangeSpec := { name := "imagePlans", fn := fun _ => fun
  | [d1, d2, d3] => { results := [.lit (.bool true)], args := [d1, d2, d3] }
  | _ => none }
def imagePlansRow : OpenClaim := { program := "ytaknndkaeelkbaa", sum := "141d2fc5172cc819fee30691fb67dd55fdf783fd9e19041f9d0c12b5a4372ff7", func := "riddle/riddlelaw.ImagePlans", spec := "imagePlans", unfollowed := true, recurses := true, apart := false }
def ImagePlansSaid : Prop := imagePlansRow.holds Try.pinned (OpenSpec.ofChange imagePlansSpec)

/-- ITS FALSE NEIGHBOUR: 'it returns false'. Refute it at one input. -/
def imagePlansWrong : ChangeSpec := { name := "imagePlans", fn := fun _ => fun
  | [d1, d2, d3] => { results := [.lit (.bool false)], args := [d1, d2, d3] }
  | _ => none }
def ImagePlansWrongFalsely : Prop := imagePlansRow.holds Try.pinned (OpenSpec.ofChange imagePlansWrong)

/-- 'riddlelaw.EpcChecks': WHATEVER THE INPUT: true; the input reads as it did. -/
def epcChecksSpec : ChangeSpec := { name := "epcChecks", fn := fun _ => fun
  | [d] => { results := [.lit (.bool true)], args := [d] }
  | _ => none }
def epcChecksRow : OpenClaim := { program := "ytaknndkaeelkbaa", sum := "141d2fc5172cc819fee30691fb67dd55fdf783fd9e19041f9d0c12b5a4372ff7", func := "riddle/riddlelaw.EpcChecks", spec := "epcChecks", unfollowed := true, recurses := true, apart := false }
def EpcChecksSaid : Prop := epcChecksRow.holds Try.pinned (OpenSpec.ofChange epcChecksSpec)

/-- ITS FALSE NEIGHBOUR: 'it returns false'. Refute it at one input. -/
def epcChecksWrong : ChangeSpec := { name := "epcChecks", fn := fun _ => fun
  | [d] => { results := [.lit (.bool false)], args := [d] }
  | _ => none }
def EpcChecksWrongFalsely : Prop := epcChecksRow.holds Try.pinned (OpenSpec.ofChange epcChecksWrong)

/-- 'riddlelaw.TrustLooks': WHATEVER THE INPUT: true; the input reads as it did. -/
def trustLooksSpec : ChangeSpec := { name := "trustLooks", fn := fun _ => fun
  | [d1, d2, d3] => { results := [.lit (.bool true)], args := [d1, d2, d3] }
  | _ => none }
def trustLooksRow : OpenClaim := { program := "ytaknndkaeelkbaa", sum := "141d2fc5172cc819fee30691fb67dd55fdf783fd9e19041f9d0c12b5a4372ff7", func := "riddle/riddlelaw.TrustLooks", spec := "trustLooks", unfollowed := true, recurses := true, apart := false }
def TrustLooksSaid : Prop := trustLooksRow.holds Try.pinned (OpenSpec.ofChange trustLooksSpec)

/-- ITS FALSE NEIGHBOUR: 'it returns false'. Refute it at one input. -/
def trustLooksWrong : ChangeSpec := { name := "trustLooks", fn := fun _ => fun
  | [d1, d2, d3] => { results := [.lit (.bool false)], args := [d1, d2, d3] }
  | _ => none }
def TrustLooksWrongFalsely : Prop := trustLooksRow.holds Try.pinned (OpenSpec.ofChange trustLooksWrong)

/-- 'riddlekeep.NoncesOnce': WHATEVER THE INPUT: true; the input reads as it did. -/
def noncesOnceSpec : ChangeSpec := { name := "noncesOnce", fn := fun _ => fun
  | [d1, d2] => { results := [.lit (.bool true)], args := [d1, d2] }
  | _ => none }
def noncesOnceRow : OpenClaim := { program := "ytaknndkaeelkbaa", sum := "141d2fc5172cc819fee30691fb67dd55fdf783fd9e19041f9d0c12b5a4372ff7", func := "riddle/riddlekeep.NoncesOnce", spec := "noncesOnce", unfollowed := true, recurses := true, apart := false }
def NoncesOnceSaid : Prop := noncesOnceRow.holds Try.pinned (OpenSpec.ofChange noncesOnceSpec)

/-- ITS FALSE NEIGHBOUR: 'it returns false'. Refute it at one input. -/
def noncesOnceWrong : ChangeSpec := { name := "noncesOnce", fn := fun _ => fun
  | [d1, d2] => { results := [.lit (.bool false)], args := [d1, d2] }
  | _ => none }
def NoncesOnceWrongFalsely : Prop := noncesOnceRow.holds Try.pinned (OpenSpec.ofChange noncesOnceWrong)

/-- 'riddlelaw.EpcPeeks': WHATEVER THE INPUT: true; the input reads as it did. -/
def epcPeeksSpec : ChangeSpec := { name := "epcPeeks", fn := fun _ => fun
  | [d1, d2, d3] => { results := [.lit (.bool true)], args := [d1, d2, d3] }
  | _ => none }
def epcPeeksRow : OpenClaim := { program := "ytaknndkaeelkbaa", sum := "141d2fc5172cc819fee30691fb67dd55fdf783fd9e19041f9d0c12b5a4372ff7", func := "riddle/riddlelaw.EpcPeeks", spec := "epcPeeks", unfollowed := true, recurses := true, apart := false }
def EpcPeeksSaid : Prop := epcPeeksRow.holds Try.pinned (OpenSpec.ofChange epcPeeksSpec)

/-- ITS FALSE NEIGHBOUR: 'it returns false'. Refute it at one input. -/
def epcPeeksWrong : ChangeSpec := { name := "epcPeeks", fn := fun _ => fun
  | [d1, d2, d3] => { results := [.lit (.bool false)], args := [d1, d2, d3] }
  | _ => none }
def EpcPeeksWrongFalsely : Prop := epcPeeksRow.holds Try.pinned (OpenSpec.ofChange epcPeeksWrong)

/-- 'riddlelaw.EpcCreates': WHATEVER THE INPUT: true; the input reads as it did. -/
def epcCreatesSpec : ChangeSpec := { name := "epcCreates", fn := fun _ => fun
  | [d] => { results := [.lit (.bool true)], args := [d] }
  | _ => none }
def epcCreatesRow : OpenClaim := { program := "ytaknndkaeelkbaa", sum := "141d2fc5172cc819fee30691fb67dd55fdf783fd9e19041f9d0c12b5a4372ff7", func := "riddle/riddlelaw.EpcCreates", spec := "epcCreates", unfollowed := true, recurses := true, apart := false }
def EpcCreatesSaid : Prop := epcCreatesRow.holds Try.pinned (OpenSpec.ofChange epcCreatesSpec)

/-- ITS FALSE NEIGHBOUR: 'it returns false'. Refute it at one input. -/
def epcCreatesWrong : ChangeSpec := { name := "epcCreates", fn := fun _ => fun
  | [d] => { results := [.lit (.bool false)], args := [d] }
  | _ => none }
def EpcCreatesWrongFalsely : Prop := epcCreatesRow.holds Try.pinned (OpenSpec.ofChange epcCreatesWrong)

/-- 'riddlelaw.EpcStarts': WHATEVER THE INPUT: true; the input reads as it did. -/
def epcStartsSpec : ChangeSpec := { name := "epcStarts", fn := fun _ => fun
  | [d1, d2] => { results := [.lit (.bool true)], args := [d1, d2] }
  | _ => none }
def epcStartsRow : OpenClaim := { program := "ytaknndkaeelkbaa", sum := "141d2fc5172cc819fee30691fb67dd55fdf783fd9e19041f9d0c12b5a4372ff7", func := "riddle/riddlelaw.EpcStarts", spec := "epcStarts", unfollowed := true, recurses := true, apart := false }
def EpcStartsSaid : Prop := epcStartsRow.holds Try.pinned (OpenSpec.ofChange epcStartsSpec)

/-- ITS FALSE NEIGHBOUR: 'it returns false'. Refute it at one input. -/
def epcStartsWrong : ChangeSpec := { name := "epcStarts", fn := fun _ => fun
  | [d1, d2] => { results := [.lit (.bool false)], args := [d1, d2] }
  | _ => none }
def EpcStartsWrongFalsely : Prop := epcStartsRow.holds Try.pinned (OpenSpec.ofChange epcStartsWrong)

/-- 'riddlelaw.EpcPokes': WHATEVER THE INPUT: true; the input reads as it did. -/
def epcPokesSpec : ChangeSpec := { name := "epcPokes", fn := fun _ => fun
  | [d1, d2, d3, d4] => { results := [.lit (.bool true)], args := [d1, d2, d3, d4] }
  | _ => none }
def epcPokesRow : OpenClaim := { program := "ytaknndkaeelkbaa", sum := "141d2fc5172cc819fee30691fb67dd55fdf783fd9e19041f9d0c12b5a4372ff7", func := "riddle/riddlelaw.EpcPokes", spec := "epcPokes", unfollowed := true, recurses := true, apart := false }
def EpcPokesSaid : Prop := epcPokesRow.holds Try.pinned (OpenSpec.ofChange epcPokesSpec)

/-- ITS FALSE NEIGHBOUR: 'it returns false'. Refute it at one input. -/
def epcPokesWrong : ChangeSpec := { name := "epcPokes", fn := fun _ => fun
  | [d1, d2, d3, d4] => { results := [.lit (.bool false)], args := [d1, d2, d3, d4] }
  | _ => none }
def EpcPokesWrongFalsely : Prop := epcPokesRow.holds Try.pinned (OpenSpec.ofChange epcPokesWrong)

/-- 'riddlelaw.EpcRemoves': WHATEVER THE INPUT: true; the input reads as it did. -/
def epcRemovesSpec : ChangeSpec := { name := "epcRemoves", fn := fun _ => fun
  | [d1, d2] => { results := [.lit (.bool true)], args := [d1, d2] }
  | _ => none }
def epcRemovesRow : OpenClaim := { program := "ytaknndkaeelkbaa", sum := "141d2fc5172cc819fee30691fb67dd55fdf783fd9e19041f9d0c12b5a4372ff7", func := "riddle/riddlelaw.EpcRemoves", spec := "epcRemoves", unfollowed := true, recurses := true, apart := false }
def EpcRemovesSaid : Prop := epcRemovesRow.holds Try.pinned (OpenSpec.ofChange epcRemovesSpec)

/-- ITS FALSE NEIGHBOUR: 'it returns false'. Refute it at one input. -/
def epcRemovesWrong : ChangeSpec := { name := "epcRemoves", fn := fun _ => fun
  | [d1, d2] => { results := [.lit (.bool false)], args := [d1, d2] }
  | _ => none }
def EpcRemovesWrongFalsely : Prop := epcRemovesRow.holds Try.pinned (OpenSpec.ofChange epcRemovesWrong)

/-- 'riddlelaw.RunResumes': WHATEVER THE INPUT: true; the input reads as it did. -/
def runResumesSpec : ChangeSpec := { name := "runResumes", fn := fun _ => fun
  | [d1, d2, d3] => { results := [.lit (.bool true)], args := [d1, d2, d3] }
  | _ => none }
def runResumesRow : OpenClaim := { program := "ytaknndkaeelkbaa", sum := "141d2fc5172cc819fee30691fb67dd55fdf783fd9e19041f9d0c12b5a4372ff7", func := "riddle/riddlelaw.RunResumes", spec := "runResumes", unfollowed := true, recurses := true, apart := false }
def RunResumesSaid : Prop := runResumesRow.holds Try.pinned (OpenSpec.ofChange runResumesSpec)

/-- ITS FALSE NEIGHBOUR: 'it returns false'. Refute it at one input. -/
def runResumesWrong : ChangeSpec := { name := "runResumes", fn := fun _ => fun
  | [d1, d2, d3] => { results := [.lit (.bool false)], args := [d1, d2, d3] }
  | _ => none }
def RunResumesWrongFalsely : Prop := runResumesRow.holds Try.pinned (OpenSpec.ofChange runResumesWrong)

/-- 'riddlelaw.RunEnters': WHATEVER THE INPUT: true; the input reads as it did. -/
def runEntersSpec : ChangeSpec := { name := "runEnters", fn := fun _ => fun
  | [d1, d2, d3, d4] => { results := [.lit (.bool true)], args := [d1, d2, d3, d4] }
  | _ => none }
def runEntersRow : OpenClaim := { program := "ytaknndkaeelkbaa", sum := "141d2fc5172cc819fee30691fb67dd55fdf783fd9e19041f9d0c12b5a4372ff7", func := "riddle/riddlelaw.RunEnters", spec := "runEnters", unfollowed := true, recurses := true, apart := false }
def RunEntersSaid : Prop := runEntersRow.holds Try.pinned (OpenSpec.ofChange runEntersSpec)

/-- ITS FALSE NEIGHBOUR: 'it returns false'. Refute it at one input. -/
def runEntersWrong : ChangeSpec := { name := "runEnters", fn := fun _ => fun
  | [d1, d2, d3, d4] => { results := [.lit (.bool false)], args := [d1, d2, d3, d4] }
  | _ => none }
def RunEntersWrongFalsely : Prop := runEntersRow.holds Try.pinned (OpenSpec.ofChange runEntersWrong)

/- THE SECOND FORM. 'bulk': how many values and letters a reading holds, each counted each time it is reached (what is shared counts as often as it is met; a slice's spare places count too). A statement '..UptoSaid' is the law's where the arguments, and the package variables that the reading takes, are together of bulk at most 1048576: NARROWER than '..Said'. Prove '..Said' where nothing that the law and all that it calls make is longer than what came in: it says more and counts as full. Else prove '..UptoSaid'. A law counts once. -/
mutual
def uptoBulk {H : Type} : DataW H → Nat
  | .lit (.string bytes) => bytes.length + 1
  | .lit _ => 1
  | .nil => 1
  | .ptr d => uptoBulk d + 1
  | .slice elems spare => uptoBulkAll elems + uptoBulkAll spare + 1
  | .agg parts => uptoBulkAll parts + 1
  | .iface _ d => uptoBulk d + 1
  | .map entries => uptoBulkEntries entries + 1
  | .held _ => 1
def uptoBulkAll {H : Type} : List (DataW H) → Nat
  | [] => 0
  | d :: r => uptoBulk d + uptoBulkAll r
def uptoBulkEntries {H : Type} : List (Lit × DataW H) → Nat
  | [] => 0
  | x :: r => uptoBulkEntry x + uptoBulkEntries r
def uptoBulkEntry {H : Type} : Lit × DataW H → Nat
  | (.string bytes, d) => bytes.length + uptoBulk d + 1
  | (_, d) => uptoBulk d + 1
 end
def uptoSmall : (H : Type) → List (DataW H) → Bool := fun _ ds => decide (uptoBulkAll ds ≤ 1048576)
def OpenSpec.upto (s : _root_.Go.ChangeSpec) : _root_.Go.OpenSpec := { _root_.Go.OpenSpec.ofChange s with cond := some uptoSmall }

/-- 'riddlelaw.EpcNew', WHERE WHAT IT READS IS OF BULK AT MOST 1048576: true; the input reads as it did. -/
def epcNewUptoRow : OpenClaim := { program := "ytaknndkaeelkbaa", sum := "141d2fc5172cc819fee30691fb67dd55fdf783fd9e19041f9d0c12b5a4372ff7", func := "riddle/riddlelaw.EpcNew", spec := "epcNew", apart := false, narrowed := true }
def EpcNewUptoSaid : Prop := epcNewUptoRow.holds Try.pinned (OpenSpec.upto epcNewSpec)

/-- 'riddlelaw.EpcPlaces', WHERE WHAT IT READS IS OF BULK AT MOST 1048576: true; the input reads as it did. -/
def epcPlacesUptoRow : OpenClaim := { program := "ytaknndkaeelkbaa", sum := "141d2fc5172cc819fee30691fb67dd55fdf783fd9e19041f9d0c12b5a4372ff7", func := "riddle/riddlelaw.EpcPlaces", spec := "epcPlaces", unfollowed := true, recurses := true, apart := false, narrowed := true }
def EpcPlacesUptoSaid : Prop := epcPlacesUptoRow.holds Try.pinned (OpenSpec.upto epcPlacesSpec)

/-- 'riddlelaw.TrustCopies', WHERE WHAT IT READS IS OF BULK AT MOST 1048576: true; the input reads as it did. -/
def trustCopiesUptoRow : OpenClaim := { program := "ytaknndkaeelkbaa", sum := "141d2fc5172cc819fee30691fb67dd55fdf783fd9e19041f9d0c12b5a4372ff7", func := "riddle/riddlelaw.TrustCopies", spec := "trustCopies", apart := false, narrowed := true }
def TrustCopiesUptoSaid : Prop := trustCopiesUptoRow.holds Try.pinned (OpenSpec.upto trustCopiesSpec)

/-- 'riddlelaw.ImageWords', WHERE WHAT IT READS IS OF BULK AT MOST 1048576: true; the input reads as it did. -/
def imageWordsUptoRow : OpenClaim := { program := "ytaknndkaeelkbaa", sum := "141d2fc5172cc819fee30691fb67dd55fdf783fd9e19041f9d0c12b5a4372ff7", func := "riddle/riddlelaw.ImageWords", spec := "imageWords", unfollowed := true, recurses := true, apart := false, narrowed := true }
def ImageWordsUptoSaid : Prop := imageWordsUptoRow.holds Try.pinned (OpenSpec.upto imageWordsSpec)

/-- 'riddlelaw.ImageCopies', WHERE WHAT IT READS IS OF BULK AT MOST 1048576: true; the input reads as it did. -/
def imageCopiesUptoRow : OpenClaim := { program := "ytaknndkaeelkbaa", sum := "141d2fc5172cc819fee30691fb67dd55fdf783fd9e19041f9d0c12b5a4372ff7", func := "riddle/riddlelaw.ImageCopies", spec := "imageCopies", apart := false, narrowed := true }
def ImageCopiesUptoSaid : Prop := imageCopiesUptoRow.holds Try.pinned (OpenSpec.upto imageCopiesSpec)

/-- 'riddlelaw.EpcCopies', WHERE WHAT IT READS IS OF BULK AT MOST 1048576: true; the input reads as it did. -/
def epcCopiesUptoRow : OpenClaim := { program := "ytaknndkaeelkbaa", sum := "141d2fc5172cc819fee30691fb67dd55fdf783fd9e19041f9d0c12b5a4372ff7", func := "riddle/riddlelaw.EpcCopies", spec := "epcCopies", apart := false, narrowed := true }
def EpcCopiesUptoSaid : Prop := epcCopiesUptoRow.holds Try.pinned (OpenSpec.upto epcCopiesSpec)

/-- 'riddlelaw.TrustChecks', WHERE WHAT IT READS IS OF BULK AT MOST 1048576: true; the input reads as it did. -/
def trustChecksUptoRow : OpenClaim := { program := "ytaknndkaeelkbaa", sum := "141d2fc5172cc819fee30691fb67dd55fdf783fd9e19041f9d0c12b5a4372ff7", func := "riddle/riddlelaw.TrustChecks", spec := "trustChecks", unfollowed := true, recurses := true, apart := false, narrowed := true }
def TrustChecksUptoSaid : Prop := trustChecksUptoRow.holds Try.pinned (OpenSpec.upto trustChecksSpec)

/-- 'riddlelaw.ImagePages', WHERE WHAT IT READS IS OF BULK AT MOST 1048576: true; the input reads as it did. -/
def imagePagesUptoRow : OpenClaim := { program := "ytaknndkaeelkbaa", sum := "141d2fc5172cc819fee30691fb67dd55fdf783fd9e19041f9d0c12b5a4372ff7", func := "riddle/riddlelaw.ImagePages", spec := "imagePages", unfollowed := true, recurses := true, apart := false, narrowed := true }
def ImagePagesUptoSaid : Prop := imagePagesUptoRow.holds Try.pinned (OpenSpec.upto imagePagesSpec)

/-- 'riddlelaw.ImageChecks', WHERE WHAT IT READS IS OF BULK AT MOST 1048576: true; the input reads as it did. -/
def imageChecksUptoRow : OpenClaim := { program := "ytaknndkaeelkbaa", sum := "141d2fc5172cc819fee30691fb67dd55fdf783fd9e19041f9d0c12b5a4372ff7", func := "riddle/riddlelaw.ImageChecks", spec := "imageChecks", unfollowed := true, recurses := true, apart := false, narrowed := true }
def ImageChecksUptoSaid : Prop := imageChecksUptoRow.holds Try.pinned (OpenSpec.upto imageChecksSpec)

/-- 'riddlelaw.TrustAsks', WHERE WHAT IT READS IS OF BULK AT MOST 1048576: true; the input reads as it did. -/
def trustAsksUptoRow : OpenClaim := { program := "ytaknndkaeelkbaa", sum := "141d2fc5172cc819fee30691fb67dd55fdf783fd9e19041f9d0c12b5a4372ff7", func := "riddle/riddlelaw.TrustAsks", spec := "trustAsks", unfollowed := true, recurses := true, apart := false, narrowed := true }
def TrustAsksUptoSaid : Prop := trustAsksUptoRow.holds Try.pinned (OpenSpec.upto trustAsksSpec)

/-- 'riddlelaw.ImagePlans', WHERE WHAT IT READS IS OF BULK AT MOST 1048576: true; the input reads as it did. -/
def imagePlansUptoRow : OpenClaim := { program := "ytaknndkaeelkbaa", sum := "141d2fc5172cc819fee30691fb67dd55fdf783fd9e19041f9d0c12b5a4372ff7", func := "riddle/riddlelaw.ImagePlans", spec := "imagePlans", unfollowed := true, recurses := true, apart := false, narrowed := true }
def ImagePlansUptoSaid : Prop := imagePlansUptoRow.holds Try.pinned (OpenSpec.upto imagePlansSpec)

/-- 'riddlelaw.EpcChecks', WHERE WHAT IT READS IS OF BULK AT MOST 1048576: true; the input reads as it did. -/
def epcChecksUptoRow : OpenClaim := { program := "ytaknndkaeelkbaa", sum := "141d2fc5172cc819fee30691fb67dd55fdf783fd9e19041f9d0c12b5a4372ff7", func := "riddle/riddlelaw.EpcChecks", spec := "epcChecks", unfollowed := true, recurses := true, apart := false, narrowed := true }
def EpcChecksUptoSaid : Prop := epcChecksUptoRow.holds Try.pinned (OpenSpec.upto epcChecksSpec)

/-- 'riddlelaw.TrustLooks', WHERE WHAT IT READS IS OF BULK AT MOST 1048576: true; the input reads as it did. -/
def trustLooksUptoRow : OpenClaim := { program := "ytaknndkaeelkbaa", sum := "141d2fc5172cc819fee30691fb67dd55fdf783fd9e19041f9d0c12b5a4372ff7", func := "riddle/riddlelaw.TrustLooks", spec := "trustLooks", unfollowed := true, recurses := true, apart := false, narrowed := true }
def TrustLooksUptoSaid : Prop := trustLooksUptoRow.holds Try.pinned (OpenSpec.upto trustLooksSpec)

/-- 'riddlekeep.NoncesOnce', WHERE WHAT IT READS IS OF BULK AT MOST 1048576: true; the input reads as it did. -/
def noncesOnceUptoRow : OpenClaim := { program := "ytaknndkaeelkbaa", sum := "141d2fc5172cc819fee30691fb67dd55fdf783fd9e19041f9d0c12b5a4372ff7", func := "riddle/riddlekeep.NoncesOnce", spec := "noncesOnce", unfollowed := true, recurses := true, apart := false, narrowed := true }
def NoncesOnceUptoSaid : Prop := noncesOnceUptoRow.holds Try.pinned (OpenSpec.upto noncesOnceSpec)

/-- 'riddlelaw.EpcPeeks', WHERE WHAT IT READS IS OF BULK AT MOST 1048576: true; the input reads as it did. -/
def epcPeeksUptoRow : OpenClaim := { program := "ytaknndkaeelkbaa", sum := "141d2fc5172cc819fee30691fb67dd55fdf783fd9e19041f9d0c12b5a4372ff7", func := "riddle/riddlelaw.EpcPeeks", spec := "epcPeeks", unfollowed := true, recurses := true, apart := false, narrowed := true }
def EpcPeeksUptoSaid : Prop := epcPeeksUptoRow.holds Try.pinned (OpenSpec.upto epcPeeksSpec)

/-- 'riddlelaw.EpcCreates', WHERE WHAT IT READS IS OF BULK AT MOST 1048576: true; the input reads as it did. -/
def epcCreatesUptoRow : OpenClaim := { program := "ytaknndkaeelkbaa", sum := "141d2fc5172cc819fee30691fb67dd55fdf783fd9e19041f9d0c12b5a4372ff7", func := "riddle/riddlelaw.EpcCreates", spec := "epcCreates", unfollowed := true, recurses := true, apart := false, narrowed := true }
def EpcCreatesUptoSaid : Prop := epcCreatesUptoRow.holds Try.pinned (OpenSpec.upto epcCreatesSpec)

/-- 'riddlelaw.EpcStarts', WHERE WHAT IT READS IS OF BULK AT MOST 1048576: true; the input reads as it did. -/
def epcStartsUptoRow : OpenClaim := { program := "ytaknndkaeelkbaa", sum := "141d2fc5172cc819fee30691fb67dd55fdf783fd9e19041f9d0c12b5a4372ff7", func := "riddle/riddlelaw.EpcStarts", spec := "epcStarts", unfollowed := true, recurses := true, apart := false, narrowed := true }
def EpcStartsUptoSaid : Prop := epcStartsUptoRow.holds Try.pinned (OpenSpec.upto epcStartsSpec)

/-- 'riddlelaw.EpcPokes', WHERE WHAT IT READS IS OF BULK AT MOST 1048576: true; the input reads as it did. -/
def epcPokesUptoRow : OpenClaim := { program := "ytaknndkaeelkbaa", sum := "141d2fc5172cc819fee30691fb67dd55fdf783fd9e19041f9d0c12b5a4372ff7", func := "riddle/riddlelaw.EpcPokes", spec := "epcPokes", unfollowed := true, recurses := true, apart := false, narrowed := true }
def EpcPokesUptoSaid : Prop := epcPokesUptoRow.holds Try.pinned (OpenSpec.upto epcPokesSpec)

/-- 'riddlelaw.EpcRemoves', WHERE WHAT IT READS IS OF BULK AT MOST 1048576: true; the input reads as it did. -/
def epcRemovesUptoRow : OpenClaim := { program := "ytaknndkaeelkbaa", sum := "141d2fc5172cc819fee30691fb67dd55fdf783fd9e19041f9d0c12b5a4372ff7", func := "riddle/riddlelaw.EpcRemoves", spec := "epcRemoves", unfollowed := true, recurses := true, apart := false, narrowed := true }
def EpcRemovesUptoSaid : Prop := epcRemovesUptoRow.holds Try.pinned (OpenSpec.upto epcRemovesSpec)

/-- 'riddlelaw.RunResumes', WHERE WHAT IT READS IS OF BULK AT MOST 1048576: true; the input reads as it did. -/
def runResumesUptoRow : OpenClaim := { program := "ytaknndkaeelkbaa", sum := "141d2fc5172cc819fee30691fb67dd55fdf783fd9e19041f9d0c12b5a4372ff7", func := "riddle/riddlelaw.RunResumes", spec := "runResumes", unfollowed := true, recurses := true, apart := false, narrowed := true }
def RunResumesUptoSaid : Prop := runResumesUptoRow.holds Try.pinned (OpenSpec.upto runResumesSpec)

/-- 'riddlelaw.RunEnters', WHERE WHAT IT READS IS OF BULK AT MOST 1048576: true; the input reads as it did. -/
def runEntersUptoRow : OpenClaim := { program := "ytaknndkaeelkbaa", sum := "141d2fc5172cc819fee30691fb67dd55fdf783fd9e19041f9d0c12b5a4372ff7", func := "riddle/riddlelaw.RunEnters", spec := "runEnters", unfollowed := true, recurses := true, apart := false, narrowed := true }
def RunEntersUptoSaid : Prop := runEntersUptoRow.holds Try.pinned (OpenSpec.upto runEntersSpec)

end Rows
end Go.Proofs.Ytaknndkaeelkbaa
