/-
  No cell of these rows narrows 'for every input' (looked for: loops, veiled, ifaces, maps, wideKeys, modest, calm, conditions, laid).
  DERIVED. THE GIVEN ROWS OF THIS SEAT. 23 by the template 'for every input the law returns true; each argument reads behind the call as it read before'; 0 by the template 'total and deterministic' (their statements: YtbafacdknaopjaaTotals.lean).
  GIVEN WITH THE SEED: the statements are not yours to turn. If you find one false, say at which input.
  Laid BY PROGRAM, IN A SANDBOX (cutbox-rows.mjs): the forced cells as the released guide's own fill.sh prints them over the translation 60b7b6b299c2f989… (all of the seat's roots in one cut). By AI agents, Wed Nov 11 2026. No macro, syntax, notation, axiom, sorry.
-/
import Derived.Test.YtbafacdknaopjaaChecked
import GoSem.Claim
import GoSem.ClaimJoined
import GoSem.ClaimMapViews
import Derived.JoinedTies
import Derived.KernelRfl
namespace Go.Proofs.Ytbafacdknaopjaa
/- THE CELL 'sum', in the pinned program and in every row, IS THE sha256 OF THE DUMP (.gsa) THAT YtbafacdknaopjaaProg.lean LOADS. Nothing in Lean hashes anything: it is a label: what it is worth is what the hold of that sum in a sandbox is worth. -/
noncomputable def Try.pinned : Pinned := { name := "ytbafacdknaopjaa", sum := "60b7b6b299c2f989d902fd85bf2adc304fe65c728a6079b3365e331b9a04819e", checked := Try.checked }
namespace Rows
def none {H : Type} : Left H := { results := [], args := [] }

/-- 'seepagelaw10.TallyUnites': WHATEVER THE INPUT: true; the input reads as it did. -/
def tallyUnitesSpec : ChangeSpec := { name := "tallyUnites", fn := fun _ => fun
  | [d1, d2, d3, d4] => { results := [.lit (.bool true)], args := [d1, d2, d3, d4] }
  | _ => none }
def tallyUnitesRow : OpenClaim := { program := "ytbafacdknaopjaa", sum := "60b7b6b299c2f989d902fd85bf2adc304fe65c728a6079b3365e331b9a04819e", func := "seepage/seepagelaw10.TallyUnites", spec := "tallyUnites", inPlace := ["math/bits.Add64"], unfollowed := true, recurses := true, apart := false }
def TallyUnitesSaid : Prop := tallyUnitesRow.holds Try.pinned (OpenSpec.ofChange tallyUnitesSpec)

/-- ITS FALSE NEIGHBOUR: 'it returns false'. Refute it at one input. -/
def tallyUnitesWrong : ChangeSpec := { name := "tallyUnites", fn := fun _ => fun
  | [d1, d2, d3, d4] => { results := [.lit (.bool false)], args := [d1, d2, d3, d4] }
  | _ => none }
def TallyUnitesWrongFalsely : Prop := tallyUnitesRow.holds Try.pinned (OpenSpec.ofChange tallyUnitesWrong)

/-- 'seepagelaw10.TallyAll': WHATEVER THE INPUT: true; the input reads as it did. -/
def tallyAllSpec : ChangeSpec := { name := "tallyAll", fn := fun _ => fun
  | [d] => { results := [.lit (.bool true)], args := [d] }
  | _ => none }
def tallyAllRow : OpenClaim := { program := "ytbafacdknaopjaa", sum := "60b7b6b299c2f989d902fd85bf2adc304fe65c728a6079b3365e331b9a04819e", func := "seepage/seepagelaw10.TallyAll", spec := "tallyAll", inPlace := ["math/bits.Add64"], unfollowed := true, recurses := true, apart := false }
def TallyAllSaid : Prop := tallyAllRow.holds Try.pinned (OpenSpec.ofChange tallyAllSpec)

/-- ITS FALSE NEIGHBOUR: 'it returns false'. Refute it at one input. -/
def tallyAllWrong : ChangeSpec := { name := "tallyAll", fn := fun _ => fun
  | [d] => { results := [.lit (.bool false)], args := [d] }
  | _ => none }
def TallyAllWrongFalsely : Prop := tallyAllRow.holds Try.pinned (OpenSpec.ofChange tallyAllWrong)

/-- 'seepagelaw10.TallyNews': WHATEVER THE INPUT: true; the input reads as it did. -/
def tallyNewsSpec : ChangeSpec := { name := "tallyNews", fn := fun _ => fun
  | [d1, d2] => { results := [.lit (.bool true)], args := [d1, d2] }
  | _ => none }
def tallyNewsRow : OpenClaim := { program := "ytbafacdknaopjaa", sum := "60b7b6b299c2f989d902fd85bf2adc304fe65c728a6079b3365e331b9a04819e", func := "seepage/seepagelaw10.TallyNews", spec := "tallyNews", inPlace := ["math/bits.Add64"], unfollowed := true, recurses := true, apart := false }
def TallyNewsSaid : Prop := tallyNewsRow.holds Try.pinned (OpenSpec.ofChange tallyNewsSpec)

/-- ITS FALSE NEIGHBOUR: 'it returns false'. Refute it at one input. -/
def tallyNewsWrong : ChangeSpec := { name := "tallyNews", fn := fun _ => fun
  | [d1, d2] => { results := [.lit (.bool false)], args := [d1, d2] }
  | _ => none }
def TallyNewsWrongFalsely : Prop := tallyNewsRow.holds Try.pinned (OpenSpec.ofChange tallyNewsWrong)

/-- 'seepagelaw10.TallyTotals': WHATEVER THE INPUT: true; the input reads as it did. -/
def tallyTotalsSpec : ChangeSpec := { name := "tallyTotals", fn := fun _ => fun
  | [d1, d2] => { results := [.lit (.bool true)], args := [d1, d2] }
  | _ => none }
def tallyTotalsRow : OpenClaim := { program := "ytbafacdknaopjaa", sum := "60b7b6b299c2f989d902fd85bf2adc304fe65c728a6079b3365e331b9a04819e", func := "seepage/seepagelaw10.TallyTotals", spec := "tallyTotals", inPlace := ["math/bits.Add64"], unfollowed := true, recurses := true, apart := false }
def TallyTotalsSaid : Prop := tallyTotalsRow.holds Try.pinned (OpenSpec.ofChange tallyTotalsSpec)

/-- ITS FALSE NEIGHBOUR: 'it returns false'. Refute it at one input. -/
def tallyTotalsWrong : ChangeSpec := { name := "tallyTotals", fn := fun _ => fun
  | [d1, d2] => { results := [.lit (.bool false)], args := [d1, d2] }
  | _ => none }
def TallyTotalsWrongFalsely : Prop := tallyTotalsRow.holds Try.pinned (OpenSpec.ofChange tallyTotalsWrong)

/-- 'seepagelaw10.TallyOrder': WHATEVER THE INPUT: true; the input reads as it did. -/
def tallyOrderSpec : ChangeSpec := { name := "tallyOrder", fn := fun _ => fun
  | [d1, d2, d3] => { results := [.lit (.bool true)], args := [d1, d2, d3] }
  | _ => none }
def tallyOrderRow : OpenClaim := { program := "ytbafacdknaopjaa", sum := "60b7b6b299c2f989d902fd85bf2adc304fe65c728a6079b3365e331b9a04819e", func := "seepage/seepagelaw10.TallyOrder", spec := "tallyOrder", inPlace := ["math/bits.Add64"], unfollowed := true, recurses := true, apart := false }
def TallyOrderSaid : Prop := tallyOrderRow.holds Try.pinned (OpenSpec.ofChange tallyOrderSpec)

/-- ITS FALSE NEIGHBOUR: 'it returns false'. Refute it at one input. -/
def tallyOrderWrong : ChangeSpec := { name := "tallyOrder", fn := fun _ => fun
  | [d1, d2, d3] => { results := [.lit (.bool false)], args := [d1, d2, d3] }
  | _ => none }
def TallyOrderWrongFalsely : Prop := tallyOrderRow.holds Try.pinned (OpenSpec.ofChange tallyOrderWrong)

/-- 'seepagelaw10.TallyEvens': WHATEVER THE INPUT: true; the input reads as it did. -/
def tallyEvensSpec : ChangeSpec := { name := "tallyEvens", fn := fun _ => fun
  | [d1, d2] => { results := [.lit (.bool true)], args := [d1, d2] }
  | _ => none }
def tallyEvensRow : OpenClaim := { program := "ytbafacdknaopjaa", sum := "60b7b6b299c2f989d902fd85bf2adc304fe65c728a6079b3365e331b9a04819e", func := "seepage/seepagelaw10.TallyEvens", spec := "tallyEvens", inPlace := ["math/bits.Add64"], unfollowed := true, recurses := true, apart := false }
def TallyEvensSaid : Prop := tallyEvensRow.holds Try.pinned (OpenSpec.ofChange tallyEvensSpec)

/-- ITS FALSE NEIGHBOUR: 'it returns false'. Refute it at one input. -/
def tallyEvensWrong : ChangeSpec := { name := "tallyEvens", fn := fun _ => fun
  | [d1, d2] => { results := [.lit (.bool false)], args := [d1, d2] }
  | _ => none }
def TallyEvensWrongFalsely : Prop := tallyEvensRow.holds Try.pinned (OpenSpec.ofChange tallyEvensWrong)

/-- 'seepagelaw10.TallyEven': WHATEVER THE INPUT: true; the input reads as it did. -/
def tallyEvenSpec : ChangeSpec := { name := "tallyEven", fn := fun _ => fun
  | [d1, d2, d3] => { results := [.lit (.bool true)], args := [d1, d2, d3] }
  | _ => none }
def tallyEvenRow : OpenClaim := { program := "ytbafacdknaopjaa", sum := "60b7b6b299c2f989d902fd85bf2adc304fe65c728a6079b3365e331b9a04819e", func := "seepage/seepagelaw10.TallyEven", spec := "tallyEven", inPlace := ["math/bits.Add64"], unfollowed := true, recurses := true, apart := false }
def TallyEvenSaid : Prop := tallyEvenRow.holds Try.pinned (OpenSpec.ofChange tallyEvenSpec)

/-- ITS FALSE NEIGHBOUR: 'it returns false'. Refute it at one input. -/
def tallyEvenWrong : ChangeSpec := { name := "tallyEven", fn := fun _ => fun
  | [d1, d2, d3] => { results := [.lit (.bool false)], args := [d1, d2, d3] }
  | _ => none }
def TallyEvenWrongFalsely : Prop := tallyEvenRow.holds Try.pinned (OpenSpec.ofChange tallyEvenWrong)

/-- 'seepagelaw10.TallyPlays': WHATEVER THE INPUT: true; the input reads as it did. -/
def tallyPlaysSpec : ChangeSpec := { name := "tallyPlays", fn := fun _ => fun
  | [d1, d2, d3] => { results := [.lit (.bool true)], args := [d1, d2, d3] }
  | _ => none }
def tallyPlaysRow : OpenClaim := { program := "ytbafacdknaopjaa", sum := "60b7b6b299c2f989d902fd85bf2adc304fe65c728a6079b3365e331b9a04819e", func := "seepage/seepagelaw10.TallyPlays", spec := "tallyPlays", inPlace := ["math/bits.Add64"], unfollowed := true, recurses := true, apart := false }
def TallyPlaysSaid : Prop := tallyPlaysRow.holds Try.pinned (OpenSpec.ofChange tallyPlaysSpec)

/-- ITS FALSE NEIGHBOUR: 'it returns false'. Refute it at one input. -/
def tallyPlaysWrong : ChangeSpec := { name := "tallyPlays", fn := fun _ => fun
  | [d1, d2, d3] => { results := [.lit (.bool false)], args := [d1, d2, d3] }
  | _ => none }
def TallyPlaysWrongFalsely : Prop := tallyPlaysRow.holds Try.pinned (OpenSpec.ofChange tallyPlaysWrong)

/-- 'seepagelaw10.TallyNil': WHATEVER THE INPUT: true; the input reads as it did. -/
def tallyNilSpec : ChangeSpec := { name := "tallyNil", fn := fun _ => fun
  | [d1, d2] => { results := [.lit (.bool true)], args := [d1, d2] }
  | _ => none }
def tallyNilRow : OpenClaim := { program := "ytbafacdknaopjaa", sum := "60b7b6b299c2f989d902fd85bf2adc304fe65c728a6079b3365e331b9a04819e", func := "seepage/seepagelaw10.TallyNil", spec := "tallyNil", inPlace := ["math/bits.Add64"], unfollowed := true, recurses := true, apart := false }
def TallyNilSaid : Prop := tallyNilRow.holds Try.pinned (OpenSpec.ofChange tallyNilSpec)

/-- ITS FALSE NEIGHBOUR: 'it returns false'. Refute it at one input. -/
def tallyNilWrong : ChangeSpec := { name := "tallyNil", fn := fun _ => fun
  | [d1, d2] => { results := [.lit (.bool false)], args := [d1, d2] }
  | _ => none }
def TallyNilWrongFalsely : Prop := tallyNilRow.holds Try.pinned (OpenSpec.ofChange tallyNilWrong)

/-- 'seepagelaw10.TallyCopies': WHATEVER THE INPUT: true; the input reads as it did. -/
def tallyCopiesSpec : ChangeSpec := { name := "tallyCopies", fn := fun _ => fun
  | [d1, d2, d3, d4] => { results := [.lit (.bool true)], args := [d1, d2, d3, d4] }
  | _ => none }
def tallyCopiesRow : OpenClaim := { program := "ytbafacdknaopjaa", sum := "60b7b6b299c2f989d902fd85bf2adc304fe65c728a6079b3365e331b9a04819e", func := "seepage/seepagelaw10.TallyCopies", spec := "tallyCopies", inPlace := ["math/bits.Add64"], unfollowed := true, recurses := true, apart := false }
def TallyCopiesSaid : Prop := tallyCopiesRow.holds Try.pinned (OpenSpec.ofChange tallyCopiesSpec)

/-- ITS FALSE NEIGHBOUR: 'it returns false'. Refute it at one input. -/
def tallyCopiesWrong : ChangeSpec := { name := "tallyCopies", fn := fun _ => fun
  | [d1, d2, d3, d4] => { results := [.lit (.bool false)], args := [d1, d2, d3, d4] }
  | _ => none }
def TallyCopiesWrongFalsely : Prop := tallyCopiesRow.holds Try.pinned (OpenSpec.ofChange tallyCopiesWrong)

/-- 'seepagelaw31.CanonRows': WHATEVER THE INPUT: true; the input reads as it did. -/
def canonRowsSpec : ChangeSpec := { name := "canonRows", fn := fun _ => fun
  | [d1, d2, d3] => { results := [.lit (.bool true)], args := [d1, d2, d3] }
  | _ => none }
def canonRowsRow : OpenClaim := { program := "ytbafacdknaopjaa", sum := "60b7b6b299c2f989d902fd85bf2adc304fe65c728a6079b3365e331b9a04819e", func := "seepage/seepagelaw31.CanonRows", spec := "canonRows", inPlace := ["math/bits.Add64", "math.Float64bits", "math.Float64frombits", "math.archFloor", "math.archTrunc"], unfollowed := true, recurses := true, apart := false }
def CanonRowsSaid : Prop := canonRowsRow.holds Try.pinned (OpenSpec.ofChange canonRowsSpec)

/-- ITS FALSE NEIGHBOUR: 'it returns false'. Refute it at one input. -/
def canonRowsWrong : ChangeSpec := { name := "canonRows", fn := fun _ => fun
  | [d1, d2, d3] => { results := [.lit (.bool false)], args := [d1, d2, d3] }
  | _ => none }
def CanonRowsWrongFalsely : Prop := canonRowsRow.holds Try.pinned (OpenSpec.ofChange canonRowsWrong)

/-- 'seepagelaw27.SweepRows': WHATEVER THE INPUT: true; the input reads as it did. -/
def sweepRowsSpec : ChangeSpec := { name := "sweepRows", fn := fun _ => fun
  | [d1, d2, d3] => { results := [.lit (.bool true)], args := [d1, d2, d3] }
  | _ => none }
def sweepRowsRow : OpenClaim := { program := "ytbafacdknaopjaa", sum := "60b7b6b299c2f989d902fd85bf2adc304fe65c728a6079b3365e331b9a04819e", func := "seepage/seepagelaw27.SweepRows", spec := "sweepRows", inPlace := ["math/bits.Add64"], unfollowed := true, recurses := true, apart := false }
def SweepRowsSaid : Prop := sweepRowsRow.holds Try.pinned (OpenSpec.ofChange sweepRowsSpec)

/-- ITS FALSE NEIGHBOUR: 'it returns false'. Refute it at one input. -/
def sweepRowsWrong : ChangeSpec := { name := "sweepRows", fn := fun _ => fun
  | [d1, d2, d3] => { results := [.lit (.bool false)], args := [d1, d2, d3] }
  | _ => none }
def SweepRowsWrongFalsely : Prop := sweepRowsRow.holds Try.pinned (OpenSpec.ofChange sweepRowsWrong)

/-- 'seepagelaw27.SweepLevels': WHATEVER THE INPUT: true; the input reads as it did. -/
def sweepLevelsSpec : ChangeSpec := { name := "sweepLevels", fn := fun _ => fun
  | [d1, d2] => { results := [.lit (.bool true)], args := [d1, d2] }
  | _ => none }
def sweepLevelsRow : OpenClaim := { program := "ytbafacdknaopjaa", sum := "60b7b6b299c2f989d902fd85bf2adc304fe65c728a6079b3365e331b9a04819e", func := "seepage/seepagelaw27.SweepLevels", spec := "sweepLevels", inPlace := ["math/bits.Add64"], unfollowed := true, recurses := true, apart := false }
def SweepLevelsSaid : Prop := sweepLevelsRow.holds Try.pinned (OpenSpec.ofChange sweepLevelsSpec)

/-- ITS FALSE NEIGHBOUR: 'it returns false'. Refute it at one input. -/
def sweepLevelsWrong : ChangeSpec := { name := "sweepLevels", fn := fun _ => fun
  | [d1, d2] => { results := [.lit (.bool false)], args := [d1, d2] }
  | _ => none }
def SweepLevelsWrongFalsely : Prop := sweepLevelsRow.holds Try.pinned (OpenSpec.ofChange sweepLevelsWrong)

/-- 'seepagelaw27.SweepRandom': WHATEVER THE INPUT: true; the input reads as it did. -/
def sweepRandomSpec : ChangeSpec := { name := "sweepRandom", fn := fun _ => fun
  | [d1, d2, d3] => { results := [.lit (.bool true)], args := [d1, d2, d3] }
  | _ => none }
def sweepRandomRow : OpenClaim := { program := "ytbafacdknaopjaa", sum := "60b7b6b299c2f989d902fd85bf2adc304fe65c728a6079b3365e331b9a04819e", func := "seepage/seepagelaw27.SweepRandom", spec := "sweepRandom", inPlace := ["math/bits.Add64"], unfollowed := true, recurses := true, apart := false }
def SweepRandomSaid : Prop := sweepRandomRow.holds Try.pinned (OpenSpec.ofChange sweepRandomSpec)

/-- ITS FALSE NEIGHBOUR: 'it returns false'. Refute it at one input. -/
def sweepRandomWrong : ChangeSpec := { name := "sweepRandom", fn := fun _ => fun
  | [d1, d2, d3] => { results := [.lit (.bool false)], args := [d1, d2, d3] }
  | _ => none }
def SweepRandomWrongFalsely : Prop := sweepRandomRow.holds Try.pinned (OpenSpec.ofChange sweepRandomWrong)

/-- 'seepagelaw27.SweepGrows': WHATEVER THE INPUT: true; the input reads as it did. -/
def sweepGrowsSpec : ChangeSpec := { name := "sweepGrows", fn := fun _ => fun
  | [d1, d2, d3] => { results := [.lit (.bool true)], args := [d1, d2, d3] }
  | _ => none }
def sweepGrowsRow : OpenClaim := { program := "ytbafacdknaopjaa", sum := "60b7b6b299c2f989d902fd85bf2adc304fe65c728a6079b3365e331b9a04819e", func := "seepage/seepagelaw27.SweepGrows", spec := "sweepGrows", inPlace := ["math/bits.Add64"], unfollowed := true, recurses := true, apart := false }
def SweepGrowsSaid : Prop := sweepGrowsRow.holds Try.pinned (OpenSpec.ofChange sweepGrowsSpec)

/-- ITS FALSE NEIGHBOUR: 'it returns false'. Refute it at one input. -/
def sweepGrowsWrong : ChangeSpec := { name := "sweepGrows", fn := fun _ => fun
  | [d1, d2, d3] => { results := [.lit (.bool false)], args := [d1, d2, d3] }
  | _ => none }
def SweepGrowsWrongFalsely : Prop := sweepGrowsRow.holds Try.pinned (OpenSpec.ofChange sweepGrowsWrong)

/-- 'seepagelaw27.SweepShuffles': WHATEVER THE INPUT: true; the input reads as it did. -/
def sweepShufflesSpec : ChangeSpec := { name := "sweepShuffles", fn := fun _ => fun
  | [d1, d2, d3] => { results := [.lit (.bool true)], args := [d1, d2, d3] }
  | _ => none }
def sweepShufflesRow : OpenClaim := { program := "ytbafacdknaopjaa", sum := "60b7b6b299c2f989d902fd85bf2adc304fe65c728a6079b3365e331b9a04819e", func := "seepage/seepagelaw27.SweepShuffles", spec := "sweepShuffles", inPlace := ["math/bits.Add64"], unfollowed := true, recurses := true, apart := false }
def SweepShufflesSaid : Prop := sweepShufflesRow.holds Try.pinned (OpenSpec.ofChange sweepShufflesSpec)

/-- ITS FALSE NEIGHBOUR: 'it returns false'. Refute it at one input. -/
def sweepShufflesWrong : ChangeSpec := { name := "sweepShuffles", fn := fun _ => fun
  | [d1, d2, d3] => { results := [.lit (.bool false)], args := [d1, d2, d3] }
  | _ => none }
def SweepShufflesWrongFalsely : Prop := sweepShufflesRow.holds Try.pinned (OpenSpec.ofChange sweepShufflesWrong)

/-- 'seepagelaw27.SweepReads': WHATEVER THE INPUT: true; the input reads as it did. -/
def sweepReadsSpec : ChangeSpec := { name := "sweepReads", fn := fun _ => fun
  | [d1, d2] => { results := [.lit (.bool true)], args := [d1, d2] }
  | _ => none }
def sweepReadsRow : OpenClaim := { program := "ytbafacdknaopjaa", sum := "60b7b6b299c2f989d902fd85bf2adc304fe65c728a6079b3365e331b9a04819e", func := "seepage/seepagelaw27.SweepReads", spec := "sweepReads", inPlace := ["math/bits.Add64"], unfollowed := true, recurses := true, apart := false }
def SweepReadsSaid : Prop := sweepReadsRow.holds Try.pinned (OpenSpec.ofChange sweepReadsSpec)

/-- ITS FALSE NEIGHBOUR: 'it returns false'. Refute it at one input. -/
def sweepReadsWrong : ChangeSpec := { name := "sweepReads", fn := fun _ => fun
  | [d1, d2] => { results := [.lit (.bool false)], args := [d1, d2] }
  | _ => none }
def SweepReadsWrongFalsely : Prop := sweepReadsRow.holds Try.pinned (OpenSpec.ofChange sweepReadsWrong)

/-- 'seepagelaw27.SweepGiants': WHATEVER THE INPUT: true; the input reads as it did. -/
def sweepGiantsSpec : ChangeSpec := { name := "sweepGiants", fn := fun _ => fun
  | [d1, d2, d3, d4] => { results := [.lit (.bool true)], args := [d1, d2, d3, d4] }
  | _ => none }
def sweepGiantsRow : OpenClaim := { program := "ytbafacdknaopjaa", sum := "60b7b6b299c2f989d902fd85bf2adc304fe65c728a6079b3365e331b9a04819e", func := "seepage/seepagelaw27.SweepGiants", spec := "sweepGiants", inPlace := ["math/bits.Add64"], unfollowed := true, recurses := true, apart := false }
def SweepGiantsSaid : Prop := sweepGiantsRow.holds Try.pinned (OpenSpec.ofChange sweepGiantsSpec)

/-- ITS FALSE NEIGHBOUR: 'it returns false'. Refute it at one input. -/
def sweepGiantsWrong : ChangeSpec := { name := "sweepGiants", fn := fun _ => fun
  | [d1, d2, d3, d4] => { results := [.lit (.bool false)], args := [d1, d2, d3, d4] }
  | _ => none }
def SweepGiantsWrongFalsely : Prop := sweepGiantsRow.holds Try.pinned (OpenSpec.ofChange sweepGiantsWrong)

/-- 'seepagelaw27.SweepWeighted': WHATEVER THE INPUT: true; the input reads as it did. -/
def sweepWeightedSpec : ChangeSpec := { name := "sweepWeighted", fn := fun _ => fun
  | [d1, d2, d3] => { results := [.lit (.bool true)], args := [d1, d2, d3] }
  | _ => none }
def sweepWeightedRow : OpenClaim := { program := "ytbafacdknaopjaa", sum := "60b7b6b299c2f989d902fd85bf2adc304fe65c728a6079b3365e331b9a04819e", func := "seepage/seepagelaw27.SweepWeighted", spec := "sweepWeighted", inPlace := ["math/bits.Add64"], unfollowed := true, recurses := true, apart := false }
def SweepWeightedSaid : Prop := sweepWeightedRow.holds Try.pinned (OpenSpec.ofChange sweepWeightedSpec)

/-- ITS FALSE NEIGHBOUR: 'it returns false'. Refute it at one input. -/
def sweepWeightedWrong : ChangeSpec := { name := "sweepWeighted", fn := fun _ => fun
  | [d1, d2, d3] => { results := [.lit (.bool false)], args := [d1, d2, d3] }
  | _ => none }
def SweepWeightedWrongFalsely : Prop := sweepWeightedRow.holds Try.pinned (OpenSpec.ofChange sweepWeightedWrong)

/-- 'seepagelaw27.SweepEven': WHATEVER THE INPUT: true; the input reads as it did. -/
def sweepEvenSpec : ChangeSpec := { name := "sweepEven", fn := fun _ => fun
  | [d1, d2, d3, d4, d5] => { results := [.lit (.bool true)], args := [d1, d2, d3, d4, d5] }
  | _ => none }
def sweepEvenRow : OpenClaim := { program := "ytbafacdknaopjaa", sum := "60b7b6b299c2f989d902fd85bf2adc304fe65c728a6079b3365e331b9a04819e", func := "seepage/seepagelaw27.SweepEven", spec := "sweepEven", inPlace := ["math/bits.Add64"], unfollowed := true, recurses := true, apart := false }
def SweepEvenSaid : Prop := sweepEvenRow.holds Try.pinned (OpenSpec.ofChange sweepEvenSpec)

/-- ITS FALSE NEIGHBOUR: 'it returns false'. Refute it at one input. -/
def sweepEvenWrong : ChangeSpec := { name := "sweepEven", fn := fun _ => fun
  | [d1, d2, d3, d4, d5] => { results := [.lit (.bool false)], args := [d1, d2, d3, d4, d5] }
  | _ => none }
def SweepEvenWrongFalsely : Prop := sweepEvenRow.holds Try.pinned (OpenSpec.ofChange sweepEvenWrong)

/-- 'seepagelaw27.SweepSums': WHATEVER THE INPUT: true; the input reads as it did. -/
def sweepSumsSpec : ChangeSpec := { name := "sweepSums", fn := fun _ => fun
  | [d1, d2, d3, d4] => { results := [.lit (.bool true)], args := [d1, d2, d3, d4] }
  | _ => none }
def sweepSumsRow : OpenClaim := { program := "ytbafacdknaopjaa", sum := "60b7b6b299c2f989d902fd85bf2adc304fe65c728a6079b3365e331b9a04819e", func := "seepage/seepagelaw27.SweepSums", spec := "sweepSums", inPlace := ["math/bits.Add64"], unfollowed := true, recurses := true, apart := false }
def SweepSumsSaid : Prop := sweepSumsRow.holds Try.pinned (OpenSpec.ofChange sweepSumsSpec)

/-- ITS FALSE NEIGHBOUR: 'it returns false'. Refute it at one input. -/
def sweepSumsWrong : ChangeSpec := { name := "sweepSums", fn := fun _ => fun
  | [d1, d2, d3, d4] => { results := [.lit (.bool false)], args := [d1, d2, d3, d4] }
  | _ => none }
def SweepSumsWrongFalsely : Prop := sweepSumsRow.holds Try.pinned (OpenSpec.ofChange sweepSumsWrong)

/-- 'seepagelaw27.SweepEnds': WHATEVER THE INPUT: true; the input reads as it did. -/
def sweepEndsSpec : ChangeSpec := { name := "sweepEnds", fn := fun _ => fun
  | [d1, d2, d3, d4] => { results := [.lit (.bool true)], args := [d1, d2, d3, d4] }
  | _ => none }
def sweepEndsRow : OpenClaim := { program := "ytbafacdknaopjaa", sum := "60b7b6b299c2f989d902fd85bf2adc304fe65c728a6079b3365e331b9a04819e", func := "seepage/seepagelaw27.SweepEnds", spec := "sweepEnds", inPlace := ["math/bits.Add64"], unfollowed := true, recurses := true, apart := false }
def SweepEndsSaid : Prop := sweepEndsRow.holds Try.pinned (OpenSpec.ofChange sweepEndsSpec)

/-- ITS FALSE NEIGHBOUR: 'it returns false'. Refute it at one input. -/
def sweepEndsWrong : ChangeSpec := { name := "sweepEnds", fn := fun _ => fun
  | [d1, d2, d3, d4] => { results := [.lit (.bool false)], args := [d1, d2, d3, d4] }
  | _ => none }
def SweepEndsWrongFalsely : Prop := sweepEndsRow.holds Try.pinned (OpenSpec.ofChange sweepEndsWrong)

/-- 'seepagelaw27.SweepThetas': WHATEVER THE INPUT: true; the input reads as it did. -/
def sweepThetasSpec : ChangeSpec := { name := "sweepThetas", fn := fun _ => fun
  | [d1, d2] => { results := [.lit (.bool true)], args := [d1, d2] }
  | _ => none }
def sweepThetasRow : OpenClaim := { program := "ytbafacdknaopjaa", sum := "60b7b6b299c2f989d902fd85bf2adc304fe65c728a6079b3365e331b9a04819e", func := "seepage/seepagelaw27.SweepThetas", spec := "sweepThetas", inPlace := ["math/bits.Add64"], unfollowed := true, recurses := true, apart := false }
def SweepThetasSaid : Prop := sweepThetasRow.holds Try.pinned (OpenSpec.ofChange sweepThetasSpec)

/-- ITS FALSE NEIGHBOUR: 'it returns false'. Refute it at one input. -/
def sweepThetasWrong : ChangeSpec := { name := "sweepThetas", fn := fun _ => fun
  | [d1, d2] => { results := [.lit (.bool false)], args := [d1, d2] }
  | _ => none }
def SweepThetasWrongFalsely : Prop := sweepThetasRow.holds Try.pinned (OpenSpec.ofChange sweepThetasWrong)

/- THE SECOND FORM. 'bulk': how many values and letters a reading holds, each counted each time it is reached (what is shared counts as often as it is met; a slice's spare places count too). A statement '..UptoSaid' is the law's where the arguments, and the package variables that the reading takes, are together of bulk at most 1048576: NARROWER than '..Said'. Prove '..Said' where nothing that the law and all that it calls make is longer than what came in: it says more and counts as full. Else prove '..UptoSaid'. A law counts once. -/
mutual
def uptoBulk {H : Type} : DataW H → Nat
  | .lit (.string bytes) => bytes.length + 1
  | .lit _ => 1
  | .nil => 1
  | .ptr d => uptoBulk d + 1
  | .slice elems spare => uptoBulkAll elems + uptoBulkAll spare + 1
  | .agg parts => uptoBulkAll parts + 1
  | .iface _ d => uptoBulk d + 1
  | .map entries => uptoBulkEntries entries + 1
  | .held _ => 1
def uptoBulkAll {H : Type} : List (DataW H) → Nat
  | [] => 0
  | d :: r => uptoBulk d + uptoBulkAll r
def uptoBulkEntries {H : Type} : List (Lit × DataW H) → Nat
  | [] => 0
  | x :: r => uptoBulkEntry x + uptoBulkEntries r
def uptoBulkEntry {H : Type} : Lit × DataW H → Nat
  | (.string bytes, d) => bytes.length + uptoBulk d + 1
  | (_, d) => uptoBulk d + 1
 end
def uptoSmall : (H : Type) → List (DataW H) → Bool := fun _ ds => decide (uptoBulkAll ds ≤ 1048576)
def OpenSpec.upto (s : _root_.Go.ChangeSpec) : _root_.Go.OpenSpec := { _root_.Go.OpenSpec.ofChange s with cond := some uptoSmall }

/-- 'seepagelaw10.TallyUnites', WHERE WHAT IT READS IS OF BULK AT MOST 1048576: true; the input reads as it did. -/
def tallyUnitesUptoRow : OpenClaim := { program := "ytbafacdknaopjaa", sum := "60b7b6b299c2f989d902fd85bf2adc304fe65c728a6079b3365e331b9a04819e", func := "seepage/seepagelaw10.TallyUnites", spec := "tallyUnites", inPlace := ["math/bits.Add64"], unfollowed := true, recurses := true, apart := false, narrowed := true }
def TallyUnitesUptoSaid : Prop := tallyUnitesUptoRow.holds Try.pinned (OpenSpec.upto tallyUnitesSpec)

/-- 'seepagelaw10.TallyAll', WHERE WHAT IT READS IS OF BULK AT MOST 1048576: true; the input reads as it did. -/
def tallyAllUptoRow : OpenClaim := { program := "ytbafacdknaopjaa", sum := "60b7b6b299c2f989d902fd85bf2adc304fe65c728a6079b3365e331b9a04819e", func := "seepage/seepagelaw10.TallyAll", spec := "tallyAll", inPlace := ["math/bits.Add64"], unfollowed := true, recurses := true, apart := false, narrowed := true }
def TallyAllUptoSaid : Prop := tallyAllUptoRow.holds Try.pinned (OpenSpec.upto tallyAllSpec)

/-- 'seepagelaw10.TallyNews', WHERE WHAT IT READS IS OF BULK AT MOST 1048576: true; the input reads as it did. -/
def tallyNewsUptoRow : OpenClaim := { program := "ytbafacdknaopjaa", sum := "60b7b6b299c2f989d902fd85bf2adc304fe65c728a6079b3365e331b9a04819e", func := "seepage/seepagelaw10.TallyNews", spec := "tallyNews", inPlace := ["math/bits.Add64"], unfollowed := true, recurses := true, apart := false, narrowed := true }
def TallyNewsUptoSaid : Prop := tallyNewsUptoRow.holds Try.pinned (OpenSpec.upto tallyNewsSpec)

/-- 'seepagelaw10.TallyTotals', WHERE WHAT IT READS IS OF BULK AT MOST 1048576: true; the input reads as it did. -/
def tallyTotalsUptoRow : OpenClaim := { program := "ytbafacdknaopjaa", sum := "60b7b6b299c2f989d902fd85bf2adc304fe65c728a6079b3365e331b9a04819e", func := "seepage/seepagelaw10.TallyTotals", spec := "tallyTotals", inPlace := ["math/bits.Add64"], unfollowed := true, recurses := true, apart := false, narrowed := true }
def TallyTotalsUptoSaid : Prop := tallyTotalsUptoRow.holds Try.pinned (OpenSpec.upto tallyTotalsSpec)

/-- 'seepagelaw10.TallyOrder', WHERE WHAT IT READS IS OF BULK AT MOST 1048576: true; the input reads as it did. -/
def tallyOrderUptoRow : OpenClaim := { program := "ytbafacdknaopjaa", sum := "60b7b6b299c2f989d902fd85bf2adc304fe65c728a6079b3365e331b9a04819e", func := "seepage/seepagelaw10.TallyOrder", spec := "tallyOrder", inPlace := ["math/bits.Add64"], unfollowed := true, recurses := true, apart := false, narrowed := true }
def TallyOrderUptoSaid : Prop := tallyOrderUptoRow.holds Try.pinned (OpenSpec.upto tallyOrderSpec)

/-- 'seepagelaw10.TallyEvens', WHERE WHAT IT READS IS OF BULK AT MOST 1048576: true; the input reads as it did. -/
def tallyEvensUptoRow : OpenClaim := { program := "ytbafacdknaopjaa", sum := "60b7b6b299c2f989d902fd85bf2adc304fe65c728a6079b3365e331b9a04819e", func := "seepage/seepagelaw10.TallyEvens", spec := "tallyEvens", inPlace := ["math/bits.Add64"], unfollowed := true, recurses := true, apart := false, narrowed := true }
def TallyEvensUptoSaid : Prop := tallyEvensUptoRow.holds Try.pinned (OpenSpec.upto tallyEvensSpec)

/-- 'seepagelaw10.TallyEven', WHERE WHAT IT READS IS OF BULK AT MOST 1048576: true; the input reads as it did. -/
def tallyEvenUptoRow : OpenClaim := { program := "ytbafacdknaopjaa", sum := "60b7b6b299c2f989d902fd85bf2adc304fe65c728a6079b3365e331b9a04819e", func := "seepage/seepagelaw10.TallyEven", spec := "tallyEven", inPlace := ["math/bits.Add64"], unfollowed := true, recurses := true, apart := false, narrowed := true }
def TallyEvenUptoSaid : Prop := tallyEvenUptoRow.holds Try.pinned (OpenSpec.upto tallyEvenSpec)

/-- 'seepagelaw10.TallyPlays', WHERE WHAT IT READS IS OF BULK AT MOST 1048576: true; the input reads as it did. -/
def tallyPlaysUptoRow : OpenClaim := { program := "ytbafacdknaopjaa", sum := "60b7b6b299c2f989d902fd85bf2adc304fe65c728a6079b3365e331b9a04819e", func := "seepage/seepagelaw10.TallyPlays", spec := "tallyPlays", inPlace := ["math/bits.Add64"], unfollowed := true, recurses := true, apart := false, narrowed := true }
def TallyPlaysUptoSaid : Prop := tallyPlaysUptoRow.holds Try.pinned (OpenSpec.upto tallyPlaysSpec)

/-- 'seepagelaw10.TallyNil', WHERE WHAT IT READS IS OF BULK AT MOST 1048576: true; the input reads as it did. -/
def tallyNilUptoRow : OpenClaim := { program := "ytbafacdknaopjaa", sum := "60b7b6b299c2f989d902fd85bf2adc304fe65c728a6079b3365e331b9a04819e", func := "seepage/seepagelaw10.TallyNil", spec := "tallyNil", inPlace := ["math/bits.Add64"], unfollowed := true, recurses := true, apart := false, narrowed := true }
def TallyNilUptoSaid : Prop := tallyNilUptoRow.holds Try.pinned (OpenSpec.upto tallyNilSpec)

/-- 'seepagelaw10.TallyCopies', WHERE WHAT IT READS IS OF BULK AT MOST 1048576: true; the input reads as it did. -/
def tallyCopiesUptoRow : OpenClaim := { program := "ytbafacdknaopjaa", sum := "60b7b6b299c2f989d902fd85bf2adc304fe65c728a6079b3365e331b9a04819e", func := "seepage/seepagelaw10.TallyCopies", spec := "tallyCopies", inPlace := ["math/bits.Add64"], unfollowed := true, recurses := true, apart := false, narrowed := true }
def TallyCopiesUptoSaid : Prop := tallyCopiesUptoRow.holds Try.pinned (OpenSpec.upto tallyCopiesSpec)

/-- 'seepagelaw31.CanonRows', WHERE WHAT IT READS IS OF BULK AT MOST 1048576: true; the input reads as it did. -/
def canonRowsUptoRow : OpenClaim := { program := "ytbafacdknaopjaa", sum := "60b7b6b299c2f989d902fd85bf2adc304fe65c728a6079b3365e331b9a04819e", func := "seepage/seepagelaw31.CanonRows", spec := "canonRows", inPlace := ["math/bits.Add64", "math.Float64bits", "math.Float64frombits", "math.archFloor", "math.archTrunc"], unfollowed := true, recurses := true, apart := false, narrowed := true }
def CanonRowsUptoSaid : Prop := canonRowsUptoRow.holds Try.pinned (OpenSpec.upto canonRowsSpec)

/-- 'seepagelaw27.SweepRows', WHERE WHAT IT READS IS OF BULK AT MOST 1048576: true; the input reads as it did. -/
def sweepRowsUptoRow : OpenClaim := { program := "ytbafacdknaopjaa", sum := "60b7b6b299c2f989d902fd85bf2adc304fe65c728a6079b3365e331b9a04819e", func := "seepage/seepagelaw27.SweepRows", spec := "sweepRows", inPlace := ["math/bits.Add64"], unfollowed := true, recurses := true, apart := false, narrowed := true }
def SweepRowsUptoSaid : Prop := sweepRowsUptoRow.holds Try.pinned (OpenSpec.upto sweepRowsSpec)

/-- 'seepagelaw27.SweepLevels', WHERE WHAT IT READS IS OF BULK AT MOST 1048576: true; the input reads as it did. -/
def sweepLevelsUptoRow : OpenClaim := { program := "ytbafacdknaopjaa", sum := "60b7b6b299c2f989d902fd85bf2adc304fe65c728a6079b3365e331b9a04819e", func := "seepage/seepagelaw27.SweepLevels", spec := "sweepLevels", inPlace := ["math/bits.Add64"], unfollowed := true, recurses := true, apart := false, narrowed := true }
def SweepLevelsUptoSaid : Prop := sweepLevelsUptoRow.holds Try.pinned (OpenSpec.upto sweepLevelsSpec)

/-- 'seepagelaw27.SweepRandom', WHERE WHAT IT READS IS OF BULK AT MOST 1048576: true; the input reads as it did. -/
def sweepRandomUptoRow : OpenClaim := { program := "ytbafacdknaopjaa", sum := "60b7b6b299c2f989d902fd85bf2adc304fe65c728a6079b3365e331b9a04819e", func := "seepage/seepagelaw27.SweepRandom", spec := "sweepRandom", inPlace := ["math/bits.Add64"], unfollowed := true, recurses := true, apart := false, narrowed := true }
def SweepRandomUptoSaid : Prop := sweepRandomUptoRow.holds Try.pinned (OpenSpec.upto sweepRandomSpec)

/-- 'seepagelaw27.SweepGrows', WHERE WHAT IT READS IS OF BULK AT MOST 1048576: true; the input reads as it did. -/
def sweepGrowsUptoRow : OpenClaim := { program := "ytbafacdknaopjaa", sum := "60b7b6b299c2f989d902fd85bf2adc304fe65c728a6079b3365e331b9a04819e", func := "seepage/seepagelaw27.SweepGrows", spec := "sweepGrows", inPlace := ["math/bits.Add64"], unfollowed := true, recurses := true, apart := false, narrowed := true }
def SweepGrowsUptoSaid : Prop := sweepGrowsUptoRow.holds Try.pinned (OpenSpec.upto sweepGrowsSpec)

/-- 'seepagelaw27.SweepShuffles', WHERE WHAT IT READS IS OF BULK AT MOST 1048576: true; the input reads as it did. -/
def sweepShufflesUptoRow : OpenClaim := { program := "ytbafacdknaopjaa", sum := "60b7b6b299c2f989d902fd85bf2adc304fe65c728a6079b3365e331b9a04819e", func := "seepage/seepagelaw27.SweepShuffles", spec := "sweepShuffles", inPlace := ["math/bits.Add64"], unfollowed := true, recurses := true, apart := false, narrowed := true }
def SweepShufflesUptoSaid : Prop := sweepShufflesUptoRow.holds Try.pinned (OpenSpec.upto sweepShufflesSpec)

/-- 'seepagelaw27.SweepReads', WHERE WHAT IT READS IS OF BULK AT MOST 1048576: true; the input reads as it did. -/
def sweepReadsUptoRow : OpenClaim := { program := "ytbafacdknaopjaa", sum := "60b7b6b299c2f989d902fd85bf2adc304fe65c728a6079b3365e331b9a04819e", func := "seepage/seepagelaw27.SweepReads", spec := "sweepReads", inPlace := ["math/bits.Add64"], unfollowed := true, recurses := true, apart := false, narrowed := true }
def SweepReadsUptoSaid : Prop := sweepReadsUptoRow.holds Try.pinned (OpenSpec.upto sweepReadsSpec)

/-- 'seepagelaw27.SweepGiants', WHERE WHAT IT READS IS OF BULK AT MOST 1048576: true; the input reads as it did. -/
def sweepGiantsUptoRow : OpenClaim := { program := "ytbafacdknaopjaa", sum := "60b7b6b299c2f989d902fd85bf2adc304fe65c728a6079b3365e331b9a04819e", func := "seepage/seepagelaw27.SweepGiants", spec := "sweepGiants", inPlace := ["math/bits.Add64"], unfollowed := true, recurses := true, apart := false, narrowed := true }
def SweepGiantsUptoSaid : Prop := sweepGiantsUptoRow.holds Try.pinned (OpenSpec.upto sweepGiantsSpec)

/-- 'seepagelaw27.SweepWeighted', WHERE WHAT IT READS IS OF BULK AT MOST 1048576: true; the input reads as it did. -/
def sweepWeightedUptoRow : OpenClaim := { program := "ytbafacdknaopjaa", sum := "60b7b6b299c2f989d902fd85bf2adc304fe65c728a6079b3365e331b9a04819e", func := "seepage/seepagelaw27.SweepWeighted", spec := "sweepWeighted", inPlace := ["math/bits.Add64"], unfollowed := true, recurses := true, apart := false, narrowed := true }
def SweepWeightedUptoSaid : Prop := sweepWeightedUptoRow.holds Try.pinned (OpenSpec.upto sweepWeightedSpec)

/-- 'seepagelaw27.SweepEven', WHERE WHAT IT READS IS OF BULK AT MOST 1048576: true; the input reads as it did. -/
def sweepEvenUptoRow : OpenClaim := { program := "ytbafacdknaopjaa", sum := "60b7b6b299c2f989d902fd85bf2adc304fe65c728a6079b3365e331b9a04819e", func := "seepage/seepagelaw27.SweepEven", spec := "sweepEven", inPlace := ["math/bits.Add64"], unfollowed := true, recurses := true, apart := false, narrowed := true }
def SweepEvenUptoSaid : Prop := sweepEvenUptoRow.holds Try.pinned (OpenSpec.upto sweepEvenSpec)

/-- 'seepagelaw27.SweepSums', WHERE WHAT IT READS IS OF BULK AT MOST 1048576: true; the input reads as it did. -/
def sweepSumsUptoRow : OpenClaim := { program := "ytbafacdknaopjaa", sum := "60b7b6b299c2f989d902fd85bf2adc304fe65c728a6079b3365e331b9a04819e", func := "seepage/seepagelaw27.SweepSums", spec := "sweepSums", inPlace := ["math/bits.Add64"], unfollowed := true, recurses := true, apart := false, narrowed := true }
def SweepSumsUptoSaid : Prop := sweepSumsUptoRow.holds Try.pinned (OpenSpec.upto sweepSumsSpec)

/-- 'seepagelaw27.SweepEnds', WHERE WHAT IT READS IS OF BULK AT MOST 1048576: true; the input reads as it did. -/
def sweepEndsUptoRow : OpenClaim := { program := "ytbafacdknaopjaa", sum := "60b7b6b299c2f989d902fd85bf2adc304fe65c728a6079b3365e331b9a04819e", func := "seepage/seepagelaw27.SweepEnds", spec := "sweepEnds", inPlace := ["math/bits.Add64"], unfollowed := true, recurses := true, apart := false, narrowed := true }
def SweepEndsUptoSaid : Prop := sweepEndsUptoRow.holds Try.pinned (OpenSpec.upto sweepEndsSpec)

/-- 'seepagelaw27.SweepThetas', WHERE WHAT IT READS IS OF BULK AT MOST 1048576: true; the input reads as it did. -/
def sweepThetasUptoRow : OpenClaim := { program := "ytbafacdknaopjaa", sum := "60b7b6b299c2f989d902fd85bf2adc304fe65c728a6079b3365e331b9a04819e", func := "seepage/seepagelaw27.SweepThetas", spec := "sweepThetas", inPlace := ["math/bits.Add64"], unfollowed := true, recurses := true, apart := false, narrowed := true }
def SweepThetasUptoSaid : Prop := sweepThetasUptoRow.holds Try.pinned (OpenSpec.upto sweepThetasSpec)

end Rows
end Go.Proofs.Ytbafacdknaopjaa
