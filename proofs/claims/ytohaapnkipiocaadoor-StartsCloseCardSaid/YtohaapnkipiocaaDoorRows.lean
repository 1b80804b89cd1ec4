/-
  NARROWER THAN 'FOR EVERY INPUT', by the rows' own cells (each row's printed sentence says how): ImageAdds: laid · ImageHolds: laid · ImageExpects: laid · EpcPuts: laid · ImagesTouched: laid · ImagesApart: laid · EpcMeasures: laid · PagesApart: laid · StartsClose: laid · HostsGood: laid · RunsReckon: laid · RunsFault: laid · TopWalls: laid · TopTrusted: laid · TopMeasured: laid.
  DERIVED. THE GIVEN ROWS OF THIS SEAT. 15 by the template 'for every input the law returns true; each argument reads behind the call as it read before'; 0 by the template 'total and deterministic' (their statements: YtohaapnkipiocaaDoorTotals.lean).
  GIVEN WITH THE SEED: the statements are not yours to turn. If you find one false, say at which input.
  Laid BY PROGRAM, IN A SANDBOX (cutbox-rows.mjs): the forced cells as the released guide's own fill.sh prints them over the translation a384475509d0a8b3… (all of the seat's roots in one cut). By AI agents, Wed Nov 11 2026. No macro, syntax, notation, axiom, sorry.
-/
import Derived.Test.YtohaapnkipiocaaDoorChecked
import GoSem.Claim
import GoSem.ClaimJoined
import GoSem.ClaimMapViews
import Derived.JoinedTies
import Derived.KernelRfl
namespace Go.Proofs.YtohaapnkipiocaaDoor
/- THE CELL 'sum', in the pinned program and in every row, IS THE sha256 OF THE DUMP (.gsa) THAT YtohaapnkipiocaaDoorProg.lean LOADS. Nothing in Lean hashes anything: it is a label: what it is worth is what the hold of that sum in a sandbox is worth. -/
noncomputable def Tryd.pinned : Pinned := { name := "ytohaapnkipiocaadoor", sum := "a384475509d0a8b3d84d4570b92d76b056723b9f12191158e2cdb302a5ebc4fd", checked := Tryd.checked }
namespace Rows
def none {H : Type} : Left H := { results := [], args := [] }

/- WHAT THE LISTED PACKAGE-LEVEL VARIABLES READ AS WHEN THE CALL BEGINS. Each datum BY PROGRAM (the guide's laid-datum.mjs) off the statement by which the dump's own 'gosem.cut.vars' lays the variable. In a bare row this is a premise. The card (YtohaapnkipiocaaDoorCards.lean) ties it to the program's text. -/
def laid_math_bits_deBruijn32tab {H : Type} : DataW H := .agg [.lit (.int .u8 0), .lit (.int .u8 1), .lit (.int .u8 28), .lit (.int .u8 2), .lit (.int .u8 29), .lit (.int .u8 14), .lit (.int .u8 24), .lit (.int .u8 3), .lit (.int .u8 30), .lit (.int .u8 22), .lit (.int .u8 20), .lit (.int .u8 15), .lit (.int .u8 25), .lit (.int .u8 17), .lit (.int .u8 4), .lit (.int .u8 8), .lit (.int .u8 31), .lit (.int .u8 27), .lit (.int .u8 13), .lit (.int .u8 23), .lit (.int .u8 21), .lit (.int .u8 19), .lit (.int .u8 16), .lit (.int .u8 7), .lit (.int .u8 26), .lit (.int .u8 12), .lit (.int .u8 18), .lit (.int .u8 6), .lit (.int .u8 11), .lit (.int .u8 5), .lit (.int .u8 10), .lit (.int .u8 9)]
def laid_math_bits_deBruijn64tab {H : Type} : DataW H := .agg [.lit (.int .u8 0), .lit (.int .u8 1), .lit (.int .u8 56), .lit (.int .u8 2), .lit (.int .u8 57), .lit (.int .u8 49), .lit (.int .u8 28), .lit (.int .u8 3), .lit (.int .u8 61), .lit (.int .u8 58), .lit (.int .u8 42), .lit (.int .u8 50), .lit (.int .u8 38), .lit (.int .u8 29), .lit (.int .u8 17), .lit (.int .u8 4), .lit (.int .u8 62), .lit (.int .u8 47), .lit (.int .u8 59), .lit (.int .u8 36), .lit (.int .u8 45), .lit (.int .u8 43), .lit (.int .u8 51), .lit (.int .u8 22), .lit (.int .u8 53), .lit (.int .u8 39), .lit (.int .u8 33), .lit (.int .u8 30), .lit (.int .u8 24), .lit (.int .u8 18), .lit (.int .u8 12), .lit (.int .u8 5), .lit (.int .u8 63), .lit (.int .u8 55), .lit (.int .u8 48), .lit (.int .u8 27), .lit (.int .u8 60), .lit (.int .u8 41), .lit (.int .u8 37), .lit (.int .u8 16), .lit (.int .u8 46), .lit (.int .u8 35), .lit (.int .u8 44), .lit (.int .u8 21), .lit (.int .u8 52), .lit (.int .u8 32), .lit (.int .u8 23), .lit (.int .u8 11), .lit (.int .u8 54), .lit (.int .u8 26), .lit (.int .u8 40), .lit (.int .u8 15), .lit (.int .u8 34), .lit (.int .u8 20), .lit (.int .u8 31), .lit (.int .u8 10), .lit (.int .u8 25), .lit (.int .u8 14), .lit (.int .u8 19), .lit (.int .u8 9), .lit (.int .u8 13), .lit (.int .u8 8), .lit (.int .u8 7), .lit (.int .u8 6)]
def laid_internal_strconv_uint64pow10 {H : Type} : DataW H := .agg [.lit (.int .u64 1), .lit (.int .u64 10), .lit (.int .u64 100), .lit (.int .u64 1000), .lit (.int .u64 10000), .lit (.int .u64 100000), .lit (.int .u64 1000000), .lit (.int .u64 10000000), .lit (.int .u64 100000000), .lit (.int .u64 1000000000), .lit (.int .u64 10000000000), .lit (.int .u64 100000000000), .lit (.int .u64 1000000000000), .lit (.int .u64 10000000000000), .lit (.int .u64 100000000000000), .lit (.int .u64 1000000000000000), .lit (.int .u64 10000000000000000), .lit (.int .u64 100000000000000000), .lit (.int .u64 1000000000000000000), .lit (.int .u64 10000000000000000000)]

/-- 'riddlelaw.ImageAdds': WHATEVER THE INPUT: true; the input reads as it did. -/
def imageAddsSpec : ChangeSpec := { name := "imageAdds", fn := fun _ => fun
  | [d1, d2] => { results := [.lit (.bool true)], args := [d1, d2] }
  | _ => none }
def imageAddsRow : OpenClaim := { program := "ytohaapnkipiocaadoor", sum := "a384475509d0a8b3d84d4570b92d76b056723b9f12191158e2cdb302a5ebc4fd", func := "riddle/riddlelaw.ImageAdds", spec := "imageAdds", unfollowed := true, recurses := true, named := ["internal/strconv.uint64pow10", "math/bits.deBruijn32tab", "math/bits.deBruijn64tab"], apart := false, laid := [("math/bits.deBruijn32tab", laid_math_bits_deBruijn32tab), ("math/bits.deBruijn64tab", laid_math_bits_deBruijn64tab), ("internal/strconv.uint64pow10", laid_internal_strconv_uint64pow10)] }
def ImageAddsSaid : Prop := imageAddsRow.holds Tryd.pinned (OpenSpec.ofChange imageAddsSpec)

/-- ITS FALSE NEIGHBOUR: 'it returns false'. Refute it at one input. -/
def imageAddsWrong : ChangeSpec := { name := "imageAdds", fn := fun _ => fun
  | [d1, d2] => { results := [.lit (.bool false)], args := [d1, d2] }
  | _ => none }
def ImageAddsWrongFalsely : Prop := imageAddsRow.holds Tryd.pinned (OpenSpec.ofChange imageAddsWrong)

/-- 'riddlelaw.ImageHolds': WHATEVER THE INPUT: true; the input reads as it did. -/
def imageHoldsSpec : ChangeSpec := { name := "imageHolds", fn := fun _ => fun
  | [d1, d2] => { results := [.lit (.bool true)], args := [d1, d2] }
  | _ => none }
def imageHoldsRow : OpenClaim := { program := "ytohaapnkipiocaadoor", sum := "a384475509d0a8b3d84d4570b92d76b056723b9f12191158e2cdb302a5ebc4fd", func := "riddle/riddlelaw.ImageHolds", spec := "imageHolds", inPlace := ["internal/abi.NoEscape", "internal/bytealg.MakeNoZero"], unfollowed := true, recurses := true, named := ["internal/strconv.uint64pow10", "math/bits.deBruijn32tab", "math/bits.deBruijn64tab"], apart := false, laid := [("math/bits.deBruijn32tab", laid_math_bits_deBruijn32tab), ("math/bits.deBruijn64tab", laid_math_bits_deBruijn64tab), ("internal/strconv.uint64pow10", laid_internal_strconv_uint64pow10)] }
def ImageHoldsSaid : Prop := imageHoldsRow.holds Tryd.pinned (OpenSpec.ofChange imageHoldsSpec)

/-- ITS FALSE NEIGHBOUR: 'it returns false'. Refute it at one input. -/
def imageHoldsWrong : ChangeSpec := { name := "imageHolds", fn := fun _ => fun
  | [d1, d2] => { results := [.lit (.bool false)], args := [d1, d2] }
  | _ => none }
def ImageHoldsWrongFalsely : Prop := imageHoldsRow.holds Tryd.pinned (OpenSpec.ofChange imageHoldsWrong)

/-- 'riddlelaw.ImageExpects': WHATEVER THE INPUT: true; the input reads as it did. -/
def imageExpectsSpec : ChangeSpec := { name := "imageExpects", fn := fun _ => fun
  | [d] => { results := [.lit (.bool true)], args := [d] }
  | _ => none }
def imageExpectsRow : OpenClaim := { program := "ytohaapnkipiocaadoor", sum := "a384475509d0a8b3d84d4570b92d76b056723b9f12191158e2cdb302a5ebc4fd", func := "riddle/riddlelaw.ImageExpects", spec := "imageExpects", inPlace := ["internal/abi.NoEscape", "internal/bytealg.MakeNoZero"], unfollowed := true, recurses := true, named := ["internal/strconv.uint64pow10", "math/bits.deBruijn32tab", "math/bits.deBruijn64tab"], apart := false, laid := [("math/bits.deBruijn32tab", laid_math_bits_deBruijn32tab), ("math/bits.deBruijn64tab", laid_math_bits_deBruijn64tab), ("internal/strconv.uint64pow10", laid_internal_strconv_uint64pow10)] }
def ImageExpectsSaid : Prop := imageExpectsRow.holds Tryd.pinned (OpenSpec.ofChange imageExpectsSpec)

/-- ITS FALSE NEIGHBOUR: 'it returns false'. Refute it at one input. -/
def imageExpectsWrong : ChangeSpec := { name := "imageExpects", fn := fun _ => fun
  | [d] => { results := [.lit (.bool false)], args := [d] }
  | _ => none }
def ImageExpectsWrongFalsely : Prop := imageExpectsRow.holds Tryd.pinned (OpenSpec.ofChange imageExpectsWrong)

/-- 'riddlelaw.EpcPuts': WHATEVER THE INPUT: true; the input reads as it did. -/
def epcPutsSpec : ChangeSpec := { name := "epcPuts", fn := fun _ => fun
  | [d1, d2, d3, d4, d5] => { results := [.lit (.bool true)], args := [d1, d2, d3, d4, d5] }
  | _ => none }
def epcPutsRow : OpenClaim := { program := "ytohaapnkipiocaadoor", sum := "a384475509d0a8b3d84d4570b92d76b056723b9f12191158e2cdb302a5ebc4fd", func := "riddle/riddlelaw.EpcPuts", spec := "epcPuts", unfollowed := true, recurses := true, named := ["internal/strconv.uint64pow10", "math/bits.deBruijn32tab", "math/bits.deBruijn64tab"], apart := false, laid := [("math/bits.deBruijn32tab", laid_math_bits_deBruijn32tab), ("math/bits.deBruijn64tab", laid_math_bits_deBruijn64tab), ("internal/strconv.uint64pow10", laid_internal_strconv_uint64pow10)] }
def EpcPutsSaid : Prop := epcPutsRow.holds Tryd.pinned (OpenSpec.ofChange epcPutsSpec)

/-- ITS FALSE NEIGHBOUR: 'it returns false'. Refute it at one input. -/
def epcPutsWrong : ChangeSpec := { name := "epcPuts", fn := fun _ => fun
  | [d1, d2, d3, d4, d5] => { results := [.lit (.bool false)], args := [d1, d2, d3, d4, d5] }
  | _ => none }
def EpcPutsWrongFalsely : Prop := epcPutsRow.holds Tryd.pinned (OpenSpec.ofChange epcPutsWrong)

/-- 'riddlekeep.ImagesTouched': WHATEVER THE INPUT: true; the input reads as it did. -/
def imagesTouchedSpec : ChangeSpec := { name := "imagesTouched", fn := fun _ => fun
  | [d1, d2, d3, d4] => { results := [.lit (.bool true)], args := [d1, d2, d3, d4] }
  | _ => none }
def imagesTouchedRow : OpenClaim := { program := "ytohaapnkipiocaadoor", sum := "a384475509d0a8b3d84d4570b92d76b056723b9f12191158e2cdb302a5ebc4fd", func := "riddle/riddlekeep.ImagesTouched", spec := "imagesTouched", inPlace := ["internal/abi.NoEscape", "internal/bytealg.MakeNoZero"], unfollowed := true, recurses := true, named := ["internal/strconv.uint64pow10", "math/bits.deBruijn32tab", "math/bits.deBruijn64tab"], apart := false, laid := [("math/bits.deBruijn32tab", laid_math_bits_deBruijn32tab), ("math/bits.deBruijn64tab", laid_math_bits_deBruijn64tab), ("internal/strconv.uint64pow10", laid_internal_strconv_uint64pow10)] }
def ImagesTouchedSaid : Prop := imagesTouchedRow.holds Tryd.pinned (OpenSpec.ofChange imagesTouchedSpec)

/-- ITS FALSE NEIGHBOUR: 'it returns false'. Refute it at one input. -/
def imagesTouchedWrong : ChangeSpec := { name := "imagesTouched", fn := fun _ => fun
  | [d1, d2, d3, d4] => { results := [.lit (.bool false)], args := [d1, d2, d3, d4] }
  | _ => none }
def ImagesTouchedWrongFalsely : Prop := imagesTouchedRow.holds Tryd.pinned (OpenSpec.ofChange imagesTouchedWrong)

/-- 'riddlekeep.ImagesApart': WHATEVER THE INPUT: true; the input reads as it did. -/
def imagesApartSpec : ChangeSpec := { name := "imagesApart", fn := fun _ => fun
  | [d1, d2, d3, d4] => { results := [.lit (.bool true)], args := [d1, d2, d3, d4] }
  | _ => none }
def imagesApartRow : OpenClaim := { program := "ytohaapnkipiocaadoor", sum := "a384475509d0a8b3d84d4570b92d76b056723b9f12191158e2cdb302a5ebc4fd", func := "riddle/riddlekeep.ImagesApart", spec := "imagesApart", inPlace := ["internal/abi.NoEscape", "internal/bytealg.MakeNoZero"], unfollowed := true, recurses := true, named := ["internal/strconv.uint64pow10", "math/bits.deBruijn32tab", "math/bits.deBruijn64tab"], apart := false, laid := [("math/bits.deBruijn32tab", laid_math_bits_deBruijn32tab), ("math/bits.deBruijn64tab", laid_math_bits_deBruijn64tab), ("internal/strconv.uint64pow10", laid_internal_strconv_uint64pow10)] }
def ImagesApartSaid : Prop := imagesApartRow.holds Tryd.pinned (OpenSpec.ofChange imagesApartSpec)

/-- ITS FALSE NEIGHBOUR: 'it returns false'. Refute it at one input. -/
def imagesApartWrong : ChangeSpec := { name := "imagesApart", fn := fun _ => fun
  | [d1, d2, d3, d4] => { results := [.lit (.bool false)], args := [d1, d2, d3, d4] }
  | _ => none }
def ImagesApartWrongFalsely : Prop := imagesApartRow.holds Tryd.pinned (OpenSpec.ofChange imagesApartWrong)

/-- 'riddlelaw.EpcMeasures': WHATEVER THE INPUT: true; the input reads as it did. -/
def epcMeasuresSpec : ChangeSpec := { name := "epcMeasures", fn := fun _ => fun
  | [d1, d2, d3] => { results := [.lit (.bool true)], args := [d1, d2, d3] }
  | _ => none }
def epcMeasuresRow : OpenClaim := { program := "ytohaapnkipiocaadoor", sum := "a384475509d0a8b3d84d4570b92d76b056723b9f12191158e2cdb302a5ebc4fd", func := "riddle/riddlelaw.EpcMeasures", spec := "epcMeasures", inPlace := ["internal/abi.NoEscape", "internal/bytealg.MakeNoZero"], unfollowed := true, recurses := true, named := ["internal/strconv.uint64pow10", "math/bits.deBruijn32tab", "math/bits.deBruijn64tab"], apart := false, laid := [("math/bits.deBruijn32tab", laid_math_bits_deBruijn32tab), ("math/bits.deBruijn64tab", laid_math_bits_deBruijn64tab), ("internal/strconv.uint64pow10", laid_internal_strconv_uint64pow10)] }
def EpcMeasuresSaid : Prop := epcMeasuresRow.holds Tryd.pinned (OpenSpec.ofChange epcMeasuresSpec)

/-- ITS FALSE NEIGHBOUR: 'it returns false'. Refute it at one input. -/
def epcMeasuresWrong : ChangeSpec := { name := "epcMeasures", fn := fun _ => fun
  | [d1, d2, d3] => { results := [.lit (.bool false)], args := [d1, d2, d3] }
  | _ => none }
def EpcMeasuresWrongFalsely : Prop := epcMeasuresRow.holds Tryd.pinned (OpenSpec.ofChange epcMeasuresWrong)

/-- 'riddlekeep.PagesApart': WHATEVER THE INPUT: true; the input reads as it did. -/
def pagesApartSpec : ChangeSpec := { name := "pagesApart", fn := fun _ => fun
  | [d1, d2, d3] => { results := [.lit (.bool true)], args := [d1, d2, d3] }
  | _ => none }
def pagesApartRow : OpenClaim := { program := "ytohaapnkipiocaadoor", sum := "a384475509d0a8b3d84d4570b92d76b056723b9f12191158e2cdb302a5ebc4fd", func := "riddle/riddlekeep.PagesApart", spec := "pagesApart", unfollowed := true, recurses := true, named := ["internal/strconv.uint64pow10", "math/bits.deBruijn32tab", "math/bits.deBruijn64tab"], apart := false, laid := [("math/bits.deBruijn32tab", laid_math_bits_deBruijn32tab), ("math/bits.deBruijn64tab", laid_math_bits_deBruijn64tab), ("internal/strconv.uint64pow10", laid_internal_strconv_uint64pow10)] }
def PagesApartSaid : Prop := pagesApartRow.holds Tryd.pinned (OpenSpec.ofChange pagesApartSpec)

/-- ITS FALSE NEIGHBOUR: 'it returns false'. Refute it at one input. -/
def pagesApartWrong : ChangeSpec := { name := "pagesApart", fn := fun _ => fun
  | [d1, d2, d3] => { results := [.lit (.bool false)], args := [d1, d2, d3] }
  | _ => none }
def PagesApartWrongFalsely : Prop := pagesApartRow.holds Tryd.pinned (OpenSpec.ofChange pagesApartWrong)

/-- 'riddlekeep.StartsClose': WHATEVER THE INPUT: true; the input reads as it did. -/
def startsCloseSpec : ChangeSpec := { name := "startsClose", fn := fun _ => fun
  | [d] => { results := [.lit (.bool true)], args := [d] }
  | _ => none }
def startsCloseRow : OpenClaim := { program := "ytohaapnkipiocaadoor", sum := "a384475509d0a8b3d84d4570b92d76b056723b9f12191158e2cdb302a5ebc4fd", func := "riddle/riddlekeep.StartsClose", spec := "startsClose", inPlace := ["internal/abi.NoEscape", "internal/bytealg.MakeNoZero"], unfollowed := true, recurses := true, named := ["internal/strconv.uint64pow10", "math/bits.deBruijn32tab", "math/bits.deBruijn64tab"], apart := false, laid := [("math/bits.deBruijn32tab", laid_math_bits_deBruijn32tab), ("math/bits.deBruijn64tab", laid_math_bits_deBruijn64tab), ("internal/strconv.uint64pow10", laid_internal_strconv_uint64pow10)] }
def StartsCloseSaid : Prop := startsCloseRow.holds Tryd.pinned (OpenSpec.ofChange startsCloseSpec)

/-- ITS FALSE NEIGHBOUR: 'it returns false'. Refute it at one input. -/
def startsCloseWrong : ChangeSpec := { name := "startsClose", fn := fun _ => fun
  | [d] => { results := [.lit (.bool false)], args := [d] }
  | _ => none }
def StartsCloseWrongFalsely : Prop := startsCloseRow.holds Tryd.pinned (OpenSpec.ofChange startsCloseWrong)

/-- 'riddlekeep.HostsGood': WHATEVER THE INPUT: true; the input reads as it did. -/
def hostsGoodSpec : ChangeSpec := { name := "hostsGood", fn := fun _ => fun
  | [d1, d2, d3, d4] => { results := [.lit (.bool true)], args := [d1, d2, d3, d4] }
  | _ => none }
def hostsGoodRow : OpenClaim := { program := "ytohaapnkipiocaadoor", sum := "a384475509d0a8b3d84d4570b92d76b056723b9f12191158e2cdb302a5ebc4fd", func := "riddle/riddlekeep.HostsGood", spec := "hostsGood", inPlace := ["internal/abi.NoEscape", "internal/bytealg.MakeNoZero"], unfollowed := true, recurses := true, named := ["internal/strconv.uint64pow10", "math/bits.deBruijn32tab", "math/bits.deBruijn64tab"], apart := false, laid := [("math/bits.deBruijn32tab", laid_math_bits_deBruijn32tab), ("math/bits.deBruijn64tab", laid_math_bits_deBruijn64tab), ("internal/strconv.uint64pow10", laid_internal_strconv_uint64pow10)] }
def HostsGoodSaid : Prop := hostsGoodRow.holds Tryd.pinned (OpenSpec.ofChange hostsGoodSpec)

/-- ITS FALSE NEIGHBOUR: 'it returns false'. Refute it at one input. -/
def hostsGoodWrong : ChangeSpec := { name := "hostsGood", fn := fun _ => fun
  | [d1, d2, d3, d4] => { results := [.lit (.bool false)], args := [d1, d2, d3, d4] }
  | _ => none }
def HostsGoodWrongFalsely : Prop := hostsGoodRow.holds Tryd.pinned (OpenSpec.ofChange hostsGoodWrong)

/-- 'riddlekeep.RunsReckon': WHATEVER THE INPUT: true; the input reads as it did. -/
def runsReckonSpec : ChangeSpec := { name := "runsReckon", fn := fun _ => fun
  | [d1, d2] => { results := [.lit (.bool true)], args := [d1, d2] }
  | _ => none }
def runsReckonRow : OpenClaim := { program := "ytohaapnkipiocaadoor", sum := "a384475509d0a8b3d84d4570b92d76b056723b9f12191158e2cdb302a5ebc4fd", func := "riddle/riddlekeep.RunsReckon", spec := "runsReckon", inPlace := ["internal/abi.NoEscape", "internal/bytealg.MakeNoZero"], unfollowed := true, recurses := true, named := ["internal/strconv.uint64pow10", "math/bits.deBruijn32tab", "math/bits.deBruijn64tab"], apart := false, laid := [("math/bits.deBruijn32tab", laid_math_bits_deBruijn32tab), ("math/bits.deBruijn64tab", laid_math_bits_deBruijn64tab), ("internal/strconv.uint64pow10", laid_internal_strconv_uint64pow10)] }
def RunsReckonSaid : Prop := runsReckonRow.holds Tryd.pinned (OpenSpec.ofChange runsReckonSpec)

/-- ITS FALSE NEIGHBOUR: 'it returns false'. Refute it at one input. -/
def runsReckonWrong : ChangeSpec := { name := "runsReckon", fn := fun _ => fun
  | [d1, d2] => { results := [.lit (.bool false)], args := [d1, d2] }
  | _ => none }
def RunsReckonWrongFalsely : Prop := runsReckonRow.holds Tryd.pinned (OpenSpec.ofChange runsReckonWrong)

/-- 'riddlekeep.RunsFault': WHATEVER THE INPUT: true; the input reads as it did. -/
def runsFaultSpec : ChangeSpec := { name := "runsFault", fn := fun _ => fun
  | [d1, d2] => { results := [.lit (.bool true)], args := [d1, d2] }
  | _ => none }
def runsFaultRow : OpenClaim := { program := "ytohaapnkipiocaadoor", sum := "a384475509d0a8b3d84d4570b92d76b056723b9f12191158e2cdb302a5ebc4fd", func := "riddle/riddlekeep.RunsFault", spec := "runsFault", inPlace := ["internal/abi.NoEscape", "internal/bytealg.MakeNoZero"], unfollowed := true, recurses := true, named := ["internal/strconv.uint64pow10", "math/bits.deBruijn32tab", "math/bits.deBruijn64tab"], apart := false, laid := [("math/bits.deBruijn32tab", laid_math_bits_deBruijn32tab), ("math/bits.deBruijn64tab", laid_math_bits_deBruijn64tab), ("internal/strconv.uint64pow10", laid_internal_strconv_uint64pow10)] }
def RunsFaultSaid : Prop := runsFaultRow.holds Tryd.pinned (OpenSpec.ofChange runsFaultSpec)

/-- ITS FALSE NEIGHBOUR: 'it returns false'. Refute it at one input. -/
def runsFaultWrong : ChangeSpec := { name := "runsFault", fn := fun _ => fun
  | [d1, d2] => { results := [.lit (.bool false)], args := [d1, d2] }
  | _ => none }
def RunsFaultWrongFalsely : Prop := runsFaultRow.holds Tryd.pinned (OpenSpec.ofChange runsFaultWrong)

/-- 'riddletop.TopWalls': WHATEVER THE INPUT: true; the input reads as it did. -/
def topWallsSpec : ChangeSpec := { name := "topWalls", fn := fun _ => fun
  | [d1, d2, d3, d4, d5, d6] => { results := [.lit (.bool true)], args := [d1, d2, d3, d4, d5, d6] }
  | _ => none }
def topWallsRow : OpenClaim := { program := "ytohaapnkipiocaadoor", sum := "a384475509d0a8b3d84d4570b92d76b056723b9f12191158e2cdb302a5ebc4fd", func := "riddle/riddletop.TopWalls", spec := "topWalls", inPlace := ["internal/abi.NoEscape", "internal/bytealg.MakeNoZero"], unfollowed := true, recurses := true, named := ["internal/strconv.uint64pow10", "math/bits.deBruijn32tab", "math/bits.deBruijn64tab"], apart := false, laid := [("math/bits.deBruijn32tab", laid_math_bits_deBruijn32tab), ("math/bits.deBruijn64tab", laid_math_bits_deBruijn64tab), ("internal/strconv.uint64pow10", laid_internal_strconv_uint64pow10)] }
def TopWallsSaid : Prop := topWallsRow.holds Tryd.pinned (OpenSpec.ofChange topWallsSpec)

/-- ITS FALSE NEIGHBOUR: 'it returns false'. Refute it at one input. -/
def topWallsWrong : ChangeSpec := { name := "topWalls", fn := fun _ => fun
  | [d1, d2, d3, d4, d5, d6] => { results := [.lit (.bool false)], args := [d1, d2, d3, d4, d5, d6] }
  | _ => none }
def TopWallsWrongFalsely : Prop := topWallsRow.holds Tryd.pinned (OpenSpec.ofChange topWallsWrong)

/-- 'riddletop.TopTrusted': WHATEVER THE INPUT: true; the input reads as it did. -/
def topTrustedSpec : ChangeSpec := { name := "topTrusted", fn := fun _ => fun
  | [d1, d2, d3, d4, d5] => { results := [.lit (.bool true)], args := [d1, d2, d3, d4, d5] }
  | _ => none }
def topTrustedRow : OpenClaim := { program := "ytohaapnkipiocaadoor", sum := "a384475509d0a8b3d84d4570b92d76b056723b9f12191158e2cdb302a5ebc4fd", func := "riddle/riddletop.TopTrusted", spec := "topTrusted", inPlace := ["internal/abi.NoEscape", "internal/bytealg.MakeNoZero"], unfollowed := true, recurses := true, named := ["internal/strconv.uint64pow10", "math/bits.deBruijn32tab", "math/bits.deBruijn64tab"], apart := false, laid := [("math/bits.deBruijn32tab", laid_math_bits_deBruijn32tab), ("math/bits.deBruijn64tab", laid_math_bits_deBruijn64tab), ("internal/strconv.uint64pow10", laid_internal_strconv_uint64pow10)] }
def TopTrustedSaid : Prop := topTrustedRow.holds Tryd.pinned (OpenSpec.ofChange topTrustedSpec)

/-- ITS FALSE NEIGHBOUR: 'it returns false'. Refute it at one input. -/
def topTrustedWrong : ChangeSpec := { name := "topTrusted", fn := fun _ => fun
  | [d1, d2, d3, d4, d5] => { results := [.lit (.bool false)], args := [d1, d2, d3, d4, d5] }
  | _ => none }
def TopTrustedWrongFalsely : Prop := topTrustedRow.holds Tryd.pinned (OpenSpec.ofChange topTrustedWrong)

/-- 'riddletop.TopMeasured': WHATEVER THE INPUT: true; the input reads as it did. -/
def topMeasuredSpec : ChangeSpec := { name := "topMeasured", fn := fun _ => fun
  | [d1, d2, d3, d4, d5, d6] => { results := [.lit (.bool true)], args := [d1, d2, d3, d4, d5, d6] }
  | _ => none }
def topMeasuredRow : OpenClaim := { program := "ytohaapnkipiocaadoor", sum := "a384475509d0a8b3d84d4570b92d76b056723b9f12191158e2cdb302a5ebc4fd", func := "riddle/riddletop.TopMeasured", spec := "topMeasured", inPlace := ["internal/abi.NoEscape", "internal/bytealg.MakeNoZero"], unfollowed := true, recurses := true, named := ["internal/strconv.uint64pow10", "math/bits.deBruijn32tab", "math/bits.deBruijn64tab"], apart := false, laid := [("math/bits.deBruijn32tab", laid_math_bits_deBruijn32tab), ("math/bits.deBruijn64tab", laid_math_bits_deBruijn64tab), ("internal/strconv.uint64pow10", laid_internal_strconv_uint64pow10)] }
def TopMeasuredSaid : Prop := topMeasuredRow.holds Tryd.pinned (OpenSpec.ofChange topMeasuredSpec)

/-- ITS FALSE NEIGHBOUR: 'it returns false'. Refute it at one input. -/
def topMeasuredWrong : ChangeSpec := { name := "topMeasured", fn := fun _ => fun
  | [d1, d2, d3, d4, d5, d6] => { results := [.lit (.bool false)], args := [d1, d2, d3, d4, d5, d6] }
  | _ => none }
def TopMeasuredWrongFalsely : Prop := topMeasuredRow.holds Tryd.pinned (OpenSpec.ofChange topMeasuredWrong)

/- THE SECOND FORM. 'bulk': how many values and letters a reading holds, each counted each time it is reached (what is shared counts as often as it is met; a slice's spare places count too). A statement '..UptoSaid' is the law's where the arguments, and the package variables that the reading takes, are together of bulk at most 1048576: NARROWER than '..Said'. Prove '..Said' where nothing that the law and all that it calls make is longer than what came in: it says more and counts as full. Else prove '..UptoSaid'. A law counts once. -/
mutual
def uptoBulk {H : Type} : DataW H → Nat
  | .lit (.string bytes) => bytes.length + 1
  | .lit _ => 1
  | .nil => 1
  | .ptr d => uptoBulk d + 1
  | .slice elems spare => uptoBulkAll elems + uptoBulkAll spare + 1
  | .agg parts => uptoBulkAll parts + 1
  | .iface _ d => uptoBulk d + 1
  | .map entries => uptoBulkEntries entries + 1
  | .held _ => 1
def uptoBulkAll {H : Type} : List (DataW H) → Nat
  | [] => 0
  | d :: r => uptoBulk d + uptoBulkAll r
def uptoBulkEntries {H : Type} : List (Lit × DataW H) → Nat
  | [] => 0
  | x :: r => uptoBulkEntry x + uptoBulkEntries r
def uptoBulkEntry {H : Type} : Lit × DataW H → Nat
  | (.string bytes, d) => bytes.length + uptoBulk d + 1
  | (_, d) => uptoBulk d + 1
 end
def uptoSmall : (H : Type) → List (DataW H) → Bool := fun _ ds => decide (uptoBulkAll ds ≤ 1048576)
def OpenSpec.upto (s : _root_.Go.ChangeSpec) : _root_.Go.OpenSpec := { _root_.Go.OpenSpec.ofChange s with cond := some uptoSmall }

/-- 'riddlelaw.ImageAdds', WHERE WHAT IT READS IS OF BULK AT MOST 1048576: true; the input reads as it did. -/
def imageAddsUptoRow : OpenClaim := { program := "ytohaapnkipiocaadoor", sum := "a384475509d0a8b3d84d4570b92d76b056723b9f12191158e2cdb302a5ebc4fd", func := "riddle/riddlelaw.ImageAdds", spec := "imageAdds", unfollowed := true, recurses := true, named := ["internal/strconv.uint64pow10", "math/bits.deBruijn32tab", "math/bits.deBruijn64tab"], apart := false, laid := [("math/bits.deBruijn32tab", laid_math_bits_deBruijn32tab), ("math/bits.deBruijn64tab", laid_math_bits_deBruijn64tab), ("internal/strconv.uint64pow10", laid_internal_strconv_uint64pow10)], narrowed := true }
def ImageAddsUptoSaid : Prop := imageAddsUptoRow.holds Tryd.pinned (OpenSpec.upto imageAddsSpec)

/-- 'riddlelaw.ImageHolds', WHERE WHAT IT READS IS OF BULK AT MOST 1048576: true; the input reads as it did. -/
def imageHoldsUptoRow : OpenClaim := { program := "ytohaapnkipiocaadoor", sum := "a384475509d0a8b3d84d4570b92d76b056723b9f12191158e2cdb302a5ebc4fd", func := "riddle/riddlelaw.ImageHolds", spec := "imageHolds", inPlace := ["internal/abi.NoEscape", "internal/bytealg.MakeNoZero"], unfollowed := true, recurses := true, named := ["internal/strconv.uint64pow10", "math/bits.deBruijn32tab", "math/bits.deBruijn64tab"], apart := false, laid := [("math/bits.deBruijn32tab", laid_math_bits_deBruijn32tab), ("math/bits.deBruijn64tab", laid_math_bits_deBruijn64tab), ("internal/strconv.uint64pow10", laid_internal_strconv_uint64pow10)], narrowed := true }
def ImageHoldsUptoSaid : Prop := imageHoldsUptoRow.holds Tryd.pinned (OpenSpec.upto imageHoldsSpec)

/-- 'riddlelaw.ImageExpects', WHERE WHAT IT READS IS OF BULK AT MOST 1048576: true; the input reads as it did. -/
def imageExpectsUptoRow : OpenClaim := { program := "ytohaapnkipiocaadoor", sum := "a384475509d0a8b3d84d4570b92d76b056723b9f12191158e2cdb302a5ebc4fd", func := "riddle/riddlelaw.ImageExpects", spec := "imageExpects", inPlace := ["internal/abi.NoEscape", "internal/bytealg.MakeNoZero"], unfollowed := true, recurses := true, named := ["internal/strconv.uint64pow10", "math/bits.deBruijn32tab", "math/bits.deBruijn64tab"], apart := false, laid := [("math/bits.deBruijn32tab", laid_math_bits_deBruijn32tab), ("math/bits.deBruijn64tab", laid_math_bits_deBruijn64tab), ("internal/strconv.uint64pow10", laid_internal_strconv_uint64pow10)], narrowed := true }
def ImageExpectsUptoSaid : Prop := imageExpectsUptoRow.holds Tryd.pinned (OpenSpec.upto imageExpectsSpec)

/-- 'riddlelaw.EpcPuts', WHERE WHAT IT READS IS OF BULK AT MOST 1048576: true; the input reads as it did. -/
def epcPutsUptoRow : OpenClaim := { program := "ytohaapnkipiocaadoor", sum := "a384475509d0a8b3d84d4570b92d76b056723b9f12191158e2cdb302a5ebc4fd", func := "riddle/riddlelaw.EpcPuts", spec := "epcPuts", unfollowed := true, recurses := true, named := ["internal/strconv.uint64pow10", "math/bits.deBruijn32tab", "math/bits.deBruijn64tab"], apart := false, laid := [("math/bits.deBruijn32tab", laid_math_bits_deBruijn32tab), ("math/bits.deBruijn64tab", laid_math_bits_deBruijn64tab), ("internal/strconv.uint64pow10", laid_internal_strconv_uint64pow10)], narrowed := true }
def EpcPutsUptoSaid : Prop := epcPutsUptoRow.holds Tryd.pinned (OpenSpec.upto epcPutsSpec)

/-- 'riddlekeep.ImagesTouched', WHERE WHAT IT READS IS OF BULK AT MOST 1048576: true; the input reads as it did. -/
def imagesTouchedUptoRow : OpenClaim := { program := "ytohaapnkipiocaadoor", sum := "a384475509d0a8b3d84d4570b92d76b056723b9f12191158e2cdb302a5ebc4fd", func := "riddle/riddlekeep.ImagesTouched", spec := "imagesTouched", inPlace := ["internal/abi.NoEscape", "internal/bytealg.MakeNoZero"], unfollowed := true, recurses := true, named := ["internal/strconv.uint64pow10", "math/bits.deBruijn32tab", "math/bits.deBruijn64tab"], apart := false, laid := [("math/bits.deBruijn32tab", laid_math_bits_deBruijn32tab), ("math/bits.deBruijn64tab", laid_math_bits_deBruijn64tab), ("internal/strconv.uint64pow10", laid_internal_strconv_uint64pow10)], narrowed := true }
def ImagesTouchedUptoSaid : Prop := imagesTouchedUptoRow.holds Tryd.pinned (OpenSpec.upto imagesTouchedSpec)

/-- 'riddlekeep.ImagesApart', WHERE WHAT IT READS IS OF BULK AT MOST 1048576: true; the input reads as it did. -/
def imagesApartUptoRow : OpenClaim := { program := "ytohaapnkipiocaadoor", sum := "a384475509d0a8b3d84d4570b92d76b056723b9f12191158e2cdb302a5ebc4fd", func := "riddle/riddlekeep.ImagesApart", spec := "imagesApart", inPlace := ["internal/abi.NoEscape", "internal/bytealg.MakeNoZero"], unfollowed := true, recurses := true, named := ["internal/strconv.uint64pow10", "math/bits.deBruijn32tab", "math/bits.deBruijn64tab"], apart := false, laid := [("math/bits.deBruijn32tab", laid_math_bits_deBruijn32tab), ("math/bits.deBruijn64tab", laid_math_bits_deBruijn64tab), ("internal/strconv.uint64pow10", laid_internal_strconv_uint64pow10)], narrowed := true }
def ImagesApartUptoSaid : Prop := imagesApartUptoRow.holds Tryd.pinned (OpenSpec.upto imagesApartSpec)

/-- 'riddlelaw.EpcMeasures', WHERE WHAT IT READS IS OF BULK AT MOST 1048576: true; the input reads as it did. -/
def epcMeasuresUptoRow : OpenClaim := { program := "ytohaapnkipiocaadoor", sum := "a384475509d0a8b3d84d4570b92d76b056723b9f12191158e2cdb302a5ebc4fd", func := "riddle/riddlelaw.EpcMeasures", spec := "epcMeasures", inPlace := ["internal/abi.NoEscape", "internal/bytealg.MakeNoZero"], unfollowed := true, recurses := true, named := ["internal/strconv.uint64pow10", "math/bits.deBruijn32tab", "math/bits.deBruijn64tab"], apart := false, laid := [("math/bits.deBruijn32tab", laid_math_bits_deBruijn32tab), ("math/bits.deBruijn64tab", laid_math_bits_deBruijn64tab), ("internal/strconv.uint64pow10", laid_internal_strconv_uint64pow10)], narrowed := true }
def EpcMeasuresUptoSaid : Prop := epcMeasuresUptoRow.holds Tryd.pinned (OpenSpec.upto epcMeasuresSpec)

/-- 'riddlekeep.PagesApart', WHERE WHAT IT READS IS OF BULK AT MOST 1048576: true; the input reads as it did. -/
def pagesApartUptoRow : OpenClaim := { program := "ytohaapnkipiocaadoor", sum := "a384475509d0a8b3d84d4570b92d76b056723b9f12191158e2cdb302a5ebc4fd", func := "riddle/riddlekeep.PagesApart", spec := "pagesApart", unfollowed := true, recurses := true, named := ["internal/strconv.uint64pow10", "math/bits.deBruijn32tab", "math/bits.deBruijn64tab"], apart := false, laid := [("math/bits.deBruijn32tab", laid_math_bits_deBruijn32tab), ("math/bits.deBruijn64tab", laid_math_bits_deBruijn64tab), ("internal/strconv.uint64pow10", laid_internal_strconv_uint64pow10)], narrowed := true }
def PagesApartUptoSaid : Prop := pagesApartUptoRow.holds Tryd.pinned (OpenSpec.upto pagesApartSpec)

/-- 'riddlekeep.StartsClose', WHERE WHAT IT READS IS OF BULK AT MOST 1048576: true; the input reads as it did. -/
def startsCloseUptoRow : OpenClaim := { program := "ytohaapnkipiocaadoor", sum := "a384475509d0a8b3d84d4570b92d76b056723b9f12191158e2cdb302a5ebc4fd", func := "riddle/riddlekeep.StartsClose", spec := "startsClose", inPlace := ["internal/abi.NoEscape", "internal/bytealg.MakeNoZero"], unfollowed := true, recurses := true, named := ["internal/strconv.uint64pow10", "math/bits.deBruijn32tab", "math/bits.deBruijn64tab"], apart := false, laid := [("math/bits.deBruijn32tab", laid_math_bits_deBruijn32tab), ("math/bits.deBruijn64tab", laid_math_bits_deBruijn64tab), ("internal/strconv.uint64pow10", laid_internal_strconv_uint64pow10)], narrowed := true }
def StartsCloseUptoSaid : Prop := startsCloseUptoRow.holds Tryd.pinned (OpenSpec.upto startsCloseSpec)

/-- 'riddlekeep.HostsGood', WHERE WHAT IT READS IS OF BULK AT MOST 1048576: true; the input reads as it did. -/
def hostsGoodUptoRow : OpenClaim := { program := "ytohaapnkipiocaadoor", sum := "a384475509d0a8b3d84d4570b92d76b056723b9f12191158e2cdb302a5ebc4fd", func := "riddle/riddlekeep.HostsGood", spec := "hostsGood", inPlace := ["internal/abi.NoEscape", "internal/bytealg.MakeNoZero"], unfollowed := true, recurses := true, named := ["internal/strconv.uint64pow10", "math/bits.deBruijn32tab", "math/bits.deBruijn64tab"], apart := false, laid := [("math/bits.deBruijn32tab", laid_math_bits_deBruijn32tab), ("math/bits.deBruijn64tab", laid_math_bits_deBruijn64tab), ("internal/strconv.uint64pow10", laid_internal_strconv_uint64pow10)], narrowed := true }
def HostsGoodUptoSaid : Prop := hostsGoodUptoRow.holds Tryd.pinned (OpenSpec.upto hostsGoodSpec)

/-- 'riddlekeep.RunsReckon', WHERE WHAT IT READS IS OF BULK AT MOST 1048576: true; the input reads as it did. -/
def runsReckonUptoRow : OpenClaim := { program := "ytohaapnkipiocaadoor", sum := "a384475509d0a8b3d84d4570b92d76b056723b9f12191158e2cdb302a5ebc4fd", func := "riddle/riddlekeep.RunsReckon", spec := "runsReckon", inPlace := ["internal/abi.NoEscape", "internal/bytealg.MakeNoZero"], unfollowed := true, recurses := true, named := ["internal/strconv.uint64pow10", "math/bits.deBruijn32tab", "math/bits.deBruijn64tab"], apart := false, laid := [("math/bits.deBruijn32tab", laid_math_bits_deBruijn32tab), ("math/bits.deBruijn64tab", laid_math_bits_deBruijn64tab), ("internal/strconv.uint64pow10", laid_internal_strconv_uint64pow10)], narrowed := true }
def RunsReckonUptoSaid : Prop := runsReckonUptoRow.holds Tryd.pinned (OpenSpec.upto runsReckonSpec)

/-- 'riddlekeep.RunsFault', WHERE WHAT IT READS IS OF BULK AT MOST 1048576: true; the input reads as it did. -/
def runsFaultUptoRow : OpenClaim := { program := "ytohaapnkipiocaadoor", sum := "a384475509d0a8b3d84d4570b92d76b056723b9f12191158e2cdb302a5ebc4fd", func := "riddle/riddlekeep.RunsFault", spec := "runsFault", inPlace := ["internal/abi.NoEscape", "internal/bytealg.MakeNoZero"], unfollowed := true, recurses := true, named := ["internal/strconv.uint64pow10", "math/bits.deBruijn32tab", "math/bits.deBruijn64tab"], apart := false, laid := [("math/bits.deBruijn32tab", laid_math_bits_deBruijn32tab), ("math/bits.deBruijn64tab", laid_math_bits_deBruijn64tab), ("internal/strconv.uint64pow10", laid_internal_strconv_uint64pow10)], narrowed := true }
def RunsFaultUptoSaid : Prop := runsFaultUptoRow.holds Tryd.pinned (OpenSpec.upto runsFaultSpec)

/-- 'riddletop.TopWalls', WHERE WHAT IT READS IS OF BULK AT MOST 1048576: true; the input reads as it did. -/
def topWallsUptoRow : OpenClaim := { program := "ytohaapnkipiocaadoor", sum := "a384475509d0a8b3d84d4570b92d76b056723b9f12191158e2cdb302a5ebc4fd", func := "riddle/riddletop.TopWalls", spec := "topWalls", inPlace := ["internal/abi.NoEscape", "internal/bytealg.MakeNoZero"], unfollowed := true, recurses := true, named := ["internal/strconv.uint64pow10", "math/bits.deBruijn32tab", "math/bits.deBruijn64tab"], apart := false, laid := [("math/bits.deBruijn32tab", laid_math_bits_deBruijn32tab), ("math/bits.deBruijn64tab", laid_math_bits_deBruijn64tab), ("internal/strconv.uint64pow10", laid_internal_strconv_uint64pow10)], narrowed := true }
def TopWallsUptoSaid : Prop := topWallsUptoRow.holds Tryd.pinned (OpenSpec.upto topWallsSpec)

/-- 'riddletop.TopTrusted', WHERE WHAT IT READS IS OF BULK AT MOST 1048576: true; the input reads as it did. -/
def topTrustedUptoRow : OpenClaim := { program := "ytohaapnkipiocaadoor", sum := "a384475509d0a8b3d84d4570b92d76b056723b9f12191158e2cdb302a5ebc4fd", func := "riddle/riddletop.TopTrusted", spec := "topTrusted", inPlace := ["internal/abi.NoEscape", "internal/bytealg.MakeNoZero"], unfollowed := true, recurses := true, named := ["internal/strconv.uint64pow10", "math/bits.deBruijn32tab", "math/bits.deBruijn64tab"], apart := false, laid := [("math/bits.deBruijn32tab", laid_math_bits_deBruijn32tab), ("math/bits.deBruijn64tab", laid_math_bits_deBruijn64tab), ("internal/strconv.uint64pow10", laid_internal_strconv_uint64pow10)], narrowed := true }
def TopTrustedUptoSaid : Prop := topTrustedUptoRow.holds Tryd.pinned (OpenSpec.upto topTrustedSpec)

/-- 'riddletop.TopMeasured', WHERE WHAT IT READS IS OF BULK AT MOST 1048576: true; the input reads as it did. -/
def topMeasuredUptoRow : OpenClaim := { program := "ytohaapnkipiocaadoor", sum := "a384475509d0a8b3d84d4570b92d76b056723b9f12191158e2cdb302a5ebc4fd", func := "riddle/riddletop.TopMeasured", spec := "topMeasured", inPlace := ["internal/abi.NoEscape", "internal/bytealg.MakeNoZero"], unfollowed := true, recurses := true, named := ["internal/strconv.uint64pow10", "math/bits.deBruijn32tab", "math/bits.deBruijn64tab"], apart := false, laid := [("math/bits.deBruijn32tab", laid_math_bits_deBruijn32tab), ("math/bits.deBruijn64tab", laid_math_bits_deBruijn64tab), ("internal/strconv.uint64pow10", laid_internal_strconv_uint64pow10)], narrowed := true }
def TopMeasuredUptoSaid : Prop := topMeasuredUptoRow.holds Tryd.pinned (OpenSpec.upto topMeasuredSpec)

end Rows
end Go.Proofs.YtohaapnkipiocaaDoor
