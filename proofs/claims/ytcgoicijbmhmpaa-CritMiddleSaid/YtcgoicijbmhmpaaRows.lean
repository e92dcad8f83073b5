/-
  No cell of these rows narrows 'for every input' (looked for: loops, veiled, ifaces, maps, wideKeys, modest, calm, conditions, laid).
  DERIVED. THE GIVEN ROWS OF THIS SEAT. 24 by the template 'for every input the law returns true; each argument reads behind the call as it read before'; 0 by the template 'total and deterministic' (their statements: YtcgoicijbmhmpaaTotals.lean).
  GIVEN WITH THE SEED: the statements are not yours to turn. If you find one false, say at which input.
  Laid BY PROGRAM, IN A SANDBOX (cutbox-rows.mjs): the forced cells as the released guide's own fill.sh prints them over the translation 77654433a3a23d24… (all of the seat's roots in one cut). By AI agents, Wed Nov 11 2026. No macro, syntax, notation, axiom, sorry.
-/
import Derived.Test.YtcgoicijbmhmpaaChecked
import GoSem.Claim
import GoSem.ClaimJoined
import GoSem.ClaimMapViews
import Derived.JoinedTies
import Derived.KernelRfl
namespace Go.Proofs.Ytcgoicijbmhmpaa
/- THE CELL 'sum', in the pinned program and in every row, IS THE sha256 OF THE DUMP (.gsa) THAT YtcgoicijbmhmpaaProg.lean LOADS. Nothing in Lean hashes anything: it is a label: what it is worth is what the hold of that sum in a sandbox is worth. -/
noncomputable def Try.pinned : Pinned := { name := "ytcgoicijbmhmpaa", sum := "77654433a3a23d24a0ec978d8e690494f4dbbed0c8adbf5b7881e7817bae88f5", checked := Try.checked }
namespace Rows
def none {H : Type} : Left H := { results := [], args := [] }

/-- 'seepagelaw31.CanonWeights': WHATEVER THE INPUT: true; the input reads as it did. -/
def canonWeightsSpec : ChangeSpec := { name := "canonWeights", fn := fun _ => fun
  | [d1, d2] => { results := [.lit (.bool true)], args := [d1, d2] }
  | _ => none }
def canonWeightsRow : OpenClaim := { program := "ytcgoicijbmhmpaa", sum := "77654433a3a23d24a0ec978d8e690494f4dbbed0c8adbf5b7881e7817bae88f5", func := "seepage/seepagelaw31.CanonWeights", spec := "canonWeights", inPlace := ["math.archFloor", "math.Float64bits", "math.Float64frombits", "math.archTrunc"], unfollowed := true, recurses := true, apart := false }
def CanonWeightsSaid : Prop := canonWeightsRow.holds Try.pinned (OpenSpec.ofChange canonWeightsSpec)

/-- ITS FALSE NEIGHBOUR: 'it returns false'. Refute it at one input. -/
def canonWeightsWrong : ChangeSpec := { name := "canonWeights", fn := fun _ => fun
  | [d1, d2] => { results := [.lit (.bool false)], args := [d1, d2] }
  | _ => none }
def CanonWeightsWrongFalsely : Prop := canonWeightsRow.holds Try.pinned (OpenSpec.ofChange canonWeightsWrong)

/-- 'seepagelaw31.CanonGreat': WHATEVER THE INPUT: true; the input reads as it did. -/
def canonGreatSpec : ChangeSpec := { name := "canonGreat", fn := fun _ => fun
  | [d1, d2] => { results := [.lit (.bool true)], args := [d1, d2] }
  | _ => none }
def canonGreatRow : OpenClaim := { program := "ytcgoicijbmhmpaa", sum := "77654433a3a23d24a0ec978d8e690494f4dbbed0c8adbf5b7881e7817bae88f5", func := "seepage/seepagelaw31.CanonGreat", spec := "canonGreat", inPlace := ["math.archFloor", "math.Float64bits", "math.Float64frombits", "math.archTrunc"], unfollowed := true, recurses := true, apart := false }
def CanonGreatSaid : Prop := canonGreatRow.holds Try.pinned (OpenSpec.ofChange canonGreatSpec)

/-- ITS FALSE NEIGHBOUR: 'it returns false'. Refute it at one input. -/
def canonGreatWrong : ChangeSpec := { name := "canonGreat", fn := fun _ => fun
  | [d1, d2] => { results := [.lit (.bool false)], args := [d1, d2] }
  | _ => none }
def CanonGreatWrongFalsely : Prop := canonGreatRow.holds Try.pinned (OpenSpec.ofChange canonGreatWrong)

/-- 'seepagelaw31.CanonAverages': WHATEVER THE INPUT: true; the input reads as it did. -/
def canonAveragesSpec : ChangeSpec := { name := "canonAverages", fn := fun _ => fun
  | [d1, d2] => { results := [.lit (.bool true)], args := [d1, d2] }
  | _ => none }
def canonAveragesRow : OpenClaim := { program := "ytcgoicijbmhmpaa", sum := "77654433a3a23d24a0ec978d8e690494f4dbbed0c8adbf5b7881e7817bae88f5", func := "seepage/seepagelaw31.CanonAverages", spec := "canonAverages", inPlace := ["math.archFloor", "math.Float64bits", "math.Float64frombits", "math.archTrunc"], unfollowed := true, recurses := true, apart := false }
def CanonAveragesSaid : Prop := canonAveragesRow.holds Try.pinned (OpenSpec.ofChange canonAveragesSpec)

/-- ITS FALSE NEIGHBOUR: 'it returns false'. Refute it at one input. -/
def canonAveragesWrong : ChangeSpec := { name := "canonAverages", fn := fun _ => fun
  | [d1, d2] => { results := [.lit (.bool false)], args := [d1, d2] }
  | _ => none }
def CanonAveragesWrongFalsely : Prop := canonAveragesRow.holds Try.pinned (OpenSpec.ofChange canonAveragesWrong)

/-- 'seepagelaw31.CanonCurves': WHATEVER THE INPUT: true; the input reads as it did. -/
def canonCurvesSpec : ChangeSpec := { name := "canonCurves", fn := fun _ => fun
  | [d1, d2] => { results := [.lit (.bool true)], args := [d1, d2] }
  | _ => none }
def canonCurvesRow : OpenClaim := { program := "ytcgoicijbmhmpaa", sum := "77654433a3a23d24a0ec978d8e690494f4dbbed0c8adbf5b7881e7817bae88f5", func := "seepage/seepagelaw31.CanonCurves", spec := "canonCurves", inPlace := ["math.archFloor", "math.Float64bits", "math.Float64frombits", "math.archTrunc"], unfollowed := true, recurses := true, apart := false }
def CanonCurvesSaid : Prop := canonCurvesRow.holds Try.pinned (OpenSpec.ofChange canonCurvesSpec)

/-- ITS FALSE NEIGHBOUR: 'it returns false'. Refute it at one input. -/
def canonCurvesWrong : ChangeSpec := { name := "canonCurves", fn := fun _ => fun
  | [d1, d2] => { results := [.lit (.bool false)], args := [d1, d2] }
  | _ => none }
def CanonCurvesWrongFalsely : Prop := canonCurvesRow.holds Try.pinned (OpenSpec.ofChange canonCurvesWrong)

/-- 'seepagelaw31.CanonSums': WHATEVER THE INPUT: true; the input reads as it did. -/
def canonSumsSpec : ChangeSpec := { name := "canonSums", fn := fun _ => fun
  | [d1, d2] => { results := [.lit (.bool true)], args := [d1, d2] }
  | _ => none }
def canonSumsRow : OpenClaim := { program := "ytcgoicijbmhmpaa", sum := "77654433a3a23d24a0ec978d8e690494f4dbbed0c8adbf5b7881e7817bae88f5", func := "seepage/seepagelaw31.CanonSums", spec := "canonSums", inPlace := ["math.archFloor", "math.Float64bits", "math.Float64frombits", "math.archTrunc"], unfollowed := true, recurses := true, apart := false }
def CanonSumsSaid : Prop := canonSumsRow.holds Try.pinned (OpenSpec.ofChange canonSumsSpec)

/-- ITS FALSE NEIGHBOUR: 'it returns false'. Refute it at one input. -/
def canonSumsWrong : ChangeSpec := { name := "canonSums", fn := fun _ => fun
  | [d1, d2] => { results := [.lit (.bool false)], args := [d1, d2] }
  | _ => none }
def CanonSumsWrongFalsely : Prop := canonSumsRow.holds Try.pinned (OpenSpec.ofChange canonSumsWrong)

/-- 'seepagelaw31.CanonRecurs': WHATEVER THE INPUT: true; the input reads as it did. -/
def canonRecursSpec : ChangeSpec := { name := "canonRecurs", fn := fun _ => fun
  | [d1, d2] => { results := [.lit (.bool true)], args := [d1, d2] }
  | _ => none }
def canonRecursRow : OpenClaim := { program := "ytcgoicijbmhmpaa", sum := "77654433a3a23d24a0ec978d8e690494f4dbbed0c8adbf5b7881e7817bae88f5", func := "seepage/seepagelaw31.CanonRecurs", spec := "canonRecurs", inPlace := ["math.archFloor", "math.Float64bits", "math.Float64frombits", "math.archTrunc"], unfollowed := true, recurses := true, apart := false }
def CanonRecursSaid : Prop := canonRecursRow.holds Try.pinned (OpenSpec.ofChange canonRecursSpec)

/-- ITS FALSE NEIGHBOUR: 'it returns false'. Refute it at one input. -/
def canonRecursWrong : ChangeSpec := { name := "canonRecurs", fn := fun _ => fun
  | [d1, d2] => { results := [.lit (.bool false)], args := [d1, d2] }
  | _ => none }
def CanonRecursWrongFalsely : Prop := canonRecursRow.holds Try.pinned (OpenSpec.ofChange canonRecursWrong)

/-- 'seepagelaw31.CanonEnds': WHATEVER THE INPUT: true; the input reads as it did. -/
def canonEndsSpec : ChangeSpec := { name := "canonEnds", fn := fun _ => fun
  | [d1, d2, d3] => { results := [.lit (.bool true)], args := [d1, d2, d3] }
  | _ => none }
def canonEndsRow : OpenClaim := { program := "ytcgoicijbmhmpaa", sum := "77654433a3a23d24a0ec978d8e690494f4dbbed0c8adbf5b7881e7817bae88f5", func := "seepage/seepagelaw31.CanonEnds", spec := "canonEnds", inPlace := ["math.Float64bits", "math.Float64frombits", "math.archFloor", "math.archTrunc"], unfollowed := true, recurses := true, apart := false }
def CanonEndsSaid : Prop := canonEndsRow.holds Try.pinned (OpenSpec.ofChange canonEndsSpec)

/-- ITS FALSE NEIGHBOUR: 'it returns false'. Refute it at one input. -/
def canonEndsWrong : ChangeSpec := { name := "canonEnds", fn := fun _ => fun
  | [d1, d2, d3] => { results := [.lit (.bool false)], args := [d1, d2, d3] }
  | _ => none }
def CanonEndsWrongFalsely : Prop := canonEndsRow.holds Try.pinned (OpenSpec.ofChange canonEndsWrong)

/-- 'seepagelaw31.CanonBetween': WHATEVER THE INPUT: true; the input reads as it did. -/
def canonBetweenSpec : ChangeSpec := { name := "canonBetween", fn := fun _ => fun
  | [d1, d2, d3] => { results := [.lit (.bool true)], args := [d1, d2, d3] }
  | _ => none }
def canonBetweenRow : OpenClaim := { program := "ytcgoicijbmhmpaa", sum := "77654433a3a23d24a0ec978d8e690494f4dbbed0c8adbf5b7881e7817bae88f5", func := "seepage/seepagelaw31.CanonBetween", spec := "canonBetween", inPlace := ["math.Float64bits", "math.Float64frombits", "math.archFloor", "math.archTrunc"], unfollowed := true, recurses := true, apart := false }
def CanonBetweenSaid : Prop := canonBetweenRow.holds Try.pinned (OpenSpec.ofChange canonBetweenSpec)

/-- ITS FALSE NEIGHBOUR: 'it returns false'. Refute it at one input. -/
def canonBetweenWrong : ChangeSpec := { name := "canonBetween", fn := fun _ => fun
  | [d1, d2, d3] => { results := [.lit (.bool false)], args := [d1, d2, d3] }
  | _ => none }
def CanonBetweenWrongFalsely : Prop := canonBetweenRow.holds Try.pinned (OpenSpec.ofChange canonBetweenWrong)

/-- 'seepagelaw31.CanonLines': WHATEVER THE INPUT: true; the input reads as it did. -/
def canonLinesSpec : ChangeSpec := { name := "canonLines", fn := fun _ => fun
  | [d1, d2, d3] => { results := [.lit (.bool true)], args := [d1, d2, d3] }
  | _ => none }
def canonLinesRow : OpenClaim := { program := "ytcgoicijbmhmpaa", sum := "77654433a3a23d24a0ec978d8e690494f4dbbed0c8adbf5b7881e7817bae88f5", func := "seepage/seepagelaw31.CanonLines", spec := "canonLines", inPlace := ["math.Float64bits", "math.Float64frombits", "math.archFloor", "math.archTrunc"], unfollowed := true, recurses := true, apart := false }
def CanonLinesSaid : Prop := canonLinesRow.holds Try.pinned (OpenSpec.ofChange canonLinesSpec)

/-- ITS FALSE NEIGHBOUR: 'it returns false'. Refute it at one input. -/
def canonLinesWrong : ChangeSpec := { name := "canonLines", fn := fun _ => fun
  | [d1, d2, d3] => { results := [.lit (.bool false)], args := [d1, d2, d3] }
  | _ => none }
def CanonLinesWrongFalsely : Prop := canonLinesRow.holds Try.pinned (OpenSpec.ofChange canonLinesWrong)

/-- 'seepagelaw31.CanonRises': WHATEVER THE INPUT: true; the input reads as it did. -/
def canonRisesSpec : ChangeSpec := { name := "canonRises", fn := fun _ => fun
  | [d1, d2] => { results := [.lit (.bool true)], args := [d1, d2] }
  | _ => none }
def canonRisesRow : OpenClaim := { program := "ytcgoicijbmhmpaa", sum := "77654433a3a23d24a0ec978d8e690494f4dbbed0c8adbf5b7881e7817bae88f5", func := "seepage/seepagelaw31.CanonRises", spec := "canonRises", inPlace := ["math.Float64bits", "math.Float64frombits", "math.archFloor", "math.archTrunc"], unfollowed := true, recurses := true, apart := false }
def CanonRisesSaid : Prop := canonRisesRow.holds Try.pinned (OpenSpec.ofChange canonRisesSpec)

/-- ITS FALSE NEIGHBOUR: 'it returns false'. Refute it at one input. -/
def canonRisesWrong : ChangeSpec := { name := "canonRises", fn := fun _ => fun
  | [d1, d2] => { results := [.lit (.bool false)], args := [d1, d2] }
  | _ => none }
def CanonRisesWrongFalsely : Prop := canonRisesRow.holds Try.pinned (OpenSpec.ofChange canonRisesWrong)

/-- 'seepagelaw31.CanonCurve': WHATEVER THE INPUT: true; the input reads as it did. -/
def canonCurveSpec : ChangeSpec := { name := "canonCurve", fn := fun _ => fun
  | [d1, d2] => { results := [.lit (.bool true)], args := [d1, d2] }
  | _ => none }
def canonCurveRow : OpenClaim := { program := "ytcgoicijbmhmpaa", sum := "77654433a3a23d24a0ec978d8e690494f4dbbed0c8adbf5b7881e7817bae88f5", func := "seepage/seepagelaw31.CanonCurve", spec := "canonCurve", inPlace := ["math.Float64bits", "math.Float64frombits", "math.archFloor", "math.archTrunc"], unfollowed := true, recurses := true, apart := false }
def CanonCurveSaid : Prop := canonCurveRow.holds Try.pinned (OpenSpec.ofChange canonCurveSpec)

/-- ITS FALSE NEIGHBOUR: 'it returns false'. Refute it at one input. -/
def canonCurveWrong : ChangeSpec := { name := "canonCurve", fn := fun _ => fun
  | [d1, d2] => { results := [.lit (.bool false)], args := [d1, d2] }
  | _ => none }
def CanonCurveWrongFalsely : Prop := canonCurveRow.holds Try.pinned (OpenSpec.ofChange canonCurveWrong)

/-- 'seepagelaw31.CanonValues': WHATEVER THE INPUT: true; the input reads as it did. -/
def canonValuesSpec : ChangeSpec := { name := "canonValues", fn := fun _ => fun
  | [d1, d2, d3] => { results := [.lit (.bool true)], args := [d1, d2, d3] }
  | _ => none }
def canonValuesRow : OpenClaim := { program := "ytcgoicijbmhmpaa", sum := "77654433a3a23d24a0ec978d8e690494f4dbbed0c8adbf5b7881e7817bae88f5", func := "seepage/seepagelaw31.CanonValues", spec := "canonValues", inPlace := ["math.archFloor", "math.Float64bits", "math.Float64frombits", "math.archTrunc"], unfollowed := true, recurses := true, apart := false }
def CanonValuesSaid : Prop := canonValuesRow.holds Try.pinned (OpenSpec.ofChange canonValuesSpec)

/-- ITS FALSE NEIGHBOUR: 'it returns false'. Refute it at one input. -/
def canonValuesWrong : ChangeSpec := { name := "canonValues", fn := fun _ => fun
  | [d1, d2, d3] => { results := [.lit (.bool false)], args := [d1, d2, d3] }
  | _ => none }
def CanonValuesWrongFalsely : Prop := canonValuesRow.holds Try.pinned (OpenSpec.ofChange canonValuesWrong)

/-- 'seepagelaw32.CritPeaks': WHATEVER THE INPUT: true; the input reads as it did. -/
def critPeaksSpec : ChangeSpec := { name := "critPeaks", fn := fun _ => fun
  | [d1, d2] => { results := [.lit (.bool true)], args := [d1, d2] }
  | _ => none }
def critPeaksRow : OpenClaim := { program := "ytcgoicijbmhmpaa", sum := "77654433a3a23d24a0ec978d8e690494f4dbbed0c8adbf5b7881e7817bae88f5", func := "seepage/seepagelaw32.CritPeaks", spec := "critPeaks", inPlace := ["math.Float64bits", "math.Float64frombits", "math.archFloor", "math.archTrunc"], unfollowed := true, recurses := true, apart := false }
def CritPeaksSaid : Prop := critPeaksRow.holds Try.pinned (OpenSpec.ofChange critPeaksSpec)

/-- ITS FALSE NEIGHBOUR: 'it returns false'. Refute it at one input. -/
def critPeaksWrong : ChangeSpec := { name := "critPeaks", fn := fun _ => fun
  | [d1, d2] => { results := [.lit (.bool false)], args := [d1, d2] }
  | _ => none }
def CritPeaksWrongFalsely : Prop := critPeaksRow.holds Try.pinned (OpenSpec.ofChange critPeaksWrong)

/-- 'seepagelaw32.CritCrosses': WHATEVER THE INPUT: true; the input reads as it did. -/
def critCrossesSpec : ChangeSpec := { name := "critCrosses", fn := fun _ => fun
  | [d1, d2, d3] => { results := [.lit (.bool true)], args := [d1, d2, d3] }
  | _ => none }
def critCrossesRow : OpenClaim := { program := "ytcgoicijbmhmpaa", sum := "77654433a3a23d24a0ec978d8e690494f4dbbed0c8adbf5b7881e7817bae88f5", func := "seepage/seepagelaw32.CritCrosses", spec := "critCrosses", inPlace := ["math.Float64bits", "math.Float64frombits", "math.archFloor", "math.archTrunc"], unfollowed := true, recurses := true, apart := false }
def CritCrossesSaid : Prop := critCrossesRow.holds Try.pinned (OpenSpec.ofChange critCrossesSpec)

/-- ITS FALSE NEIGHBOUR: 'it returns false'. Refute it at one input. -/
def critCrossesWrong : ChangeSpec := { name := "critCrosses", fn := fun _ => fun
  | [d1, d2, d3] => { results := [.lit (.bool false)], args := [d1, d2, d3] }
  | _ => none }
def CritCrossesWrongFalsely : Prop := critCrossesRow.holds Try.pinned (OpenSpec.ofChange critCrossesWrong)

/-- 'seepagelaw32.CritMeans': WHATEVER THE INPUT: true; the input reads as it did. -/
def critMeansSpec : ChangeSpec := { name := "critMeans", fn := fun _ => fun
  | [d] => { results := [.lit (.bool true)], args := [d] }
  | _ => none }
def critMeansRow : OpenClaim := { program := "ytcgoicijbmhmpaa", sum := "77654433a3a23d24a0ec978d8e690494f4dbbed0c8adbf5b7881e7817bae88f5", func := "seepage/seepagelaw32.CritMeans", spec := "critMeans", inPlace := ["math.Float64bits", "math.Float64frombits", "math.archFloor", "math.archTrunc"], unfollowed := true, recurses := true, apart := false }
def CritMeansSaid : Prop := critMeansRow.holds Try.pinned (OpenSpec.ofChange critMeansSpec)

/-- ITS FALSE NEIGHBOUR: 'it returns false'. Refute it at one input. -/
def critMeansWrong : ChangeSpec := { name := "critMeans", fn := fun _ => fun
  | [d] => { results := [.lit (.bool false)], args := [d] }
  | _ => none }
def CritMeansWrongFalsely : Prop := critMeansRow.holds Try.pinned (OpenSpec.ofChange critMeansWrong)

/-- 'seepagelaw32.CritMiddle': WHATEVER THE INPUT: true; the input reads as it did. -/
def critMiddleSpec : ChangeSpec := { name := "critMiddle", fn := fun _ => fun
  | [d] => { results := [.lit (.bool true)], args := [d] }
  | _ => none }
def critMiddleRow : OpenClaim := { program := "ytcgoicijbmhmpaa", sum := "77654433a3a23d24a0ec978d8e690494f4dbbed0c8adbf5b7881e7817bae88f5", func := "seepage/seepagelaw32.CritMiddle", spec := "critMiddle", inPlace := ["math.Float64bits", "math.Float64frombits", "math.archFloor", "math.archTrunc"], unfollowed := true, recurses := true, apart := false }
def CritMiddleSaid : Prop := critMiddleRow.holds Try.pinned (OpenSpec.ofChange critMiddleSpec)

/-- ITS FALSE NEIGHBOUR: 'it returns false'. Refute it at one input. -/
def critMiddleWrong : ChangeSpec := { name := "critMiddle", fn := fun _ => fun
  | [d] => { results := [.lit (.bool false)], args := [d] }
  | _ => none }
def CritMiddleWrongFalsely : Prop := critMiddleRow.holds Try.pinned (OpenSpec.ofChange critMiddleWrong)

/-- 'seepagelaw31.CanonWrong': WHATEVER THE INPUT: true; the input reads as it did. -/
def canonWrongSpec : ChangeSpec := { name := "canonWrong", fn := fun _ => fun
  | [d1, d2, d3, d4] => { results := [.lit (.bool true)], args := [d1, d2, d3, d4] }
  | _ => none }
def canonWrongRow : OpenClaim := { program := "ytcgoicijbmhmpaa", sum := "77654433a3a23d24a0ec978d8e690494f4dbbed0c8adbf5b7881e7817bae88f5", func := "seepage/seepagelaw31.CanonWrong", spec := "canonWrong", inPlace := ["math.Float64bits", "math.Float64frombits", "math.archFloor", "math.archTrunc"], unfollowed := true, recurses := true, apart := false }
def CanonWrongSaid : Prop := canonWrongRow.holds Try.pinned (OpenSpec.ofChange canonWrongSpec)

/-- ITS FALSE NEIGHBOUR: 'it returns false'. Refute it at one input. -/
def canonWrongWrong : ChangeSpec := { name := "canonWrong", fn := fun _ => fun
  | [d1, d2, d3, d4] => { results := [.lit (.bool false)], args := [d1, d2, d3, d4] }
  | _ => none }
def CanonWrongWrongFalsely : Prop := canonWrongRow.holds Try.pinned (OpenSpec.ofChange canonWrongWrong)

/-- 'seepagelaw32.CritGrids': WHATEVER THE INPUT: true; the input reads as it did. -/
def critGridsSpec : ChangeSpec := { name := "critGrids", fn := fun _ => fun
  | [d] => { results := [.lit (.bool true)], args := [d] }
  | _ => none }
def critGridsRow : OpenClaim := { program := "ytcgoicijbmhmpaa", sum := "77654433a3a23d24a0ec978d8e690494f4dbbed0c8adbf5b7881e7817bae88f5", func := "seepage/seepagelaw32.CritGrids", spec := "critGrids", inPlace := ["math.Float64bits", "math.Float64frombits", "math.archFloor", "math.archTrunc"], unfollowed := true, recurses := true, apart := false }
def CritGridsSaid : Prop := critGridsRow.holds Try.pinned (OpenSpec.ofChange critGridsSpec)

/-- ITS FALSE NEIGHBOUR: 'it returns false'. Refute it at one input. -/
def critGridsWrong : ChangeSpec := { name := "critGrids", fn := fun _ => fun
  | [d] => { results := [.lit (.bool false)], args := [d] }
  | _ => none }
def CritGridsWrongFalsely : Prop := critGridsRow.holds Try.pinned (OpenSpec.ofChange critGridsWrong)

/-- 'seepagelaw32.CritRises': WHATEVER THE INPUT: true; the input reads as it did. -/
def critRisesSpec : ChangeSpec := { name := "critRises", fn := fun _ => fun
  | [d] => { results := [.lit (.bool true)], args := [d] }
  | _ => none }
def critRisesRow : OpenClaim := { program := "ytcgoicijbmhmpaa", sum := "77654433a3a23d24a0ec978d8e690494f4dbbed0c8adbf5b7881e7817bae88f5", func := "seepage/seepagelaw32.CritRises", spec := "critRises", inPlace := ["math.Float64bits", "math.Float64frombits", "math.archFloor", "math.archTrunc"], unfollowed := true, recurses := true, apart := false }
def CritRisesSaid : Prop := critRisesRow.holds Try.pinned (OpenSpec.ofChange critRisesSpec)

/-- ITS FALSE NEIGHBOUR: 'it returns false'. Refute it at one input. -/
def critRisesWrong : ChangeSpec := { name := "critRises", fn := fun _ => fun
  | [d] => { results := [.lit (.bool false)], args := [d] }
  | _ => none }
def CritRisesWrongFalsely : Prop := critRisesRow.holds Try.pinned (OpenSpec.ofChange critRisesWrong)

/-- 'seepagelaw32.CritBest': WHATEVER THE INPUT: true; the input reads as it did. -/
def critBestSpec : ChangeSpec := { name := "critBest", fn := fun _ => fun
  | [d1, d2] => { results := [.lit (.bool true)], args := [d1, d2] }
  | _ => none }
def critBestRow : OpenClaim := { program := "ytcgoicijbmhmpaa", sum := "77654433a3a23d24a0ec978d8e690494f4dbbed0c8adbf5b7881e7817bae88f5", func := "seepage/seepagelaw32.CritBest", spec := "critBest", inPlace := ["math.Float64bits", "math.Float64frombits", "math.archFloor", "math.archTrunc"], unfollowed := true, recurses := true, apart := false }
def CritBestSaid : Prop := critBestRow.holds Try.pinned (OpenSpec.ofChange critBestSpec)

/-- ITS FALSE NEIGHBOUR: 'it returns false'. Refute it at one input. -/
def critBestWrong : ChangeSpec := { name := "critBest", fn := fun _ => fun
  | [d1, d2] => { results := [.lit (.bool false)], args := [d1, d2] }
  | _ => none }
def CritBestWrongFalsely : Prop := critBestRow.holds Try.pinned (OpenSpec.ofChange critBestWrong)

/-- 'seepagelaw32.CritFirst': WHATEVER THE INPUT: true; the input reads as it did. -/
def critFirstSpec : ChangeSpec := { name := "critFirst", fn := fun _ => fun
  | [d1, d2, d3] => { results := [.lit (.bool true)], args := [d1, d2, d3] }
  | _ => none }
def critFirstRow : OpenClaim := { program := "ytcgoicijbmhmpaa", sum := "77654433a3a23d24a0ec978d8e690494f4dbbed0c8adbf5b7881e7817bae88f5", func := "seepage/seepagelaw32.CritFirst", spec := "critFirst", inPlace := ["math.Float64bits", "math.Float64frombits", "math.archFloor", "math.archTrunc"], unfollowed := true, recurses := true, apart := false }
def CritFirstSaid : Prop := critFirstRow.holds Try.pinned (OpenSpec.ofChange critFirstSpec)

/-- ITS FALSE NEIGHBOUR: 'it returns false'. Refute it at one input. -/
def critFirstWrong : ChangeSpec := { name := "critFirst", fn := fun _ => fun
  | [d1, d2, d3] => { results := [.lit (.bool false)], args := [d1, d2, d3] }
  | _ => none }
def CritFirstWrongFalsely : Prop := critFirstRow.holds Try.pinned (OpenSpec.ofChange critFirstWrong)

/-- 'seepagelaw32.CritSolves': WHATEVER THE INPUT: true; the input reads as it did. -/
def critSolvesSpec : ChangeSpec := { name := "critSolves", fn := fun _ => fun
  | [d1, d2] => { results := [.lit (.bool true)], args := [d1, d2] }
  | _ => none }
def critSolvesRow : OpenClaim := { program := "ytcgoicijbmhmpaa", sum := "77654433a3a23d24a0ec978d8e690494f4dbbed0c8adbf5b7881e7817bae88f5", func := "seepage/seepagelaw32.CritSolves", spec := "critSolves", inPlace := ["math.Float64bits", "math.Float64frombits", "math.archFloor", "math.archTrunc"], unfollowed := true, recurses := true, apart := false }
def CritSolvesSaid : Prop := critSolvesRow.holds Try.pinned (OpenSpec.ofChange critSolvesSpec)

/-- ITS FALSE NEIGHBOUR: 'it returns false'. Refute it at one input. -/
def critSolvesWrong : ChangeSpec := { name := "critSolves", fn := fun _ => fun
  | [d1, d2] => { results := [.lit (.bool false)], args := [d1, d2] }
  | _ => none }
def CritSolvesWrongFalsely : Prop := critSolvesRow.holds Try.pinned (OpenSpec.ofChange critSolvesWrong)

/-- 'seepagelaw32.CritReached': WHATEVER THE INPUT: true; the input reads as it did. -/
def critReachedSpec : ChangeSpec := { name := "critReached", fn := fun _ => fun
  | [d1, d2] => { results := [.lit (.bool true)], args := [d1, d2] }
  | _ => none }
def critReachedRow : OpenClaim := { program := "ytcgoicijbmhmpaa", sum := "77654433a3a23d24a0ec978d8e690494f4dbbed0c8adbf5b7881e7817bae88f5", func := "seepage/seepagelaw32.CritReached", spec := "critReached", inPlace := ["math.Float64bits", "math.Float64frombits", "math.archFloor", "math.archTrunc"], unfollowed := true, recurses := true, apart := false }
def CritReachedSaid : Prop := critReachedRow.holds Try.pinned (OpenSpec.ofChange critReachedSpec)

/-- ITS FALSE NEIGHBOUR: 'it returns false'. Refute it at one input. -/
def critReachedWrong : ChangeSpec := { name := "critReached", fn := fun _ => fun
  | [d1, d2] => { results := [.lit (.bool false)], args := [d1, d2] }
  | _ => none }
def CritReachedWrongFalsely : Prop := critReachedRow.holds Try.pinned (OpenSpec.ofChange critReachedWrong)

/-- 'seepagelaw32.CritMonotone': WHATEVER THE INPUT: true; the input reads as it did. -/
def critMonotoneSpec : ChangeSpec := { name := "critMonotone", fn := fun _ => fun
  | [d1, d2, d3] => { results := [.lit (.bool true)], args := [d1, d2, d3] }
  | _ => none }
def critMonotoneRow : OpenClaim := { program := "ytcgoicijbmhmpaa", sum := "77654433a3a23d24a0ec978d8e690494f4dbbed0c8adbf5b7881e7817bae88f5", func := "seepage/seepagelaw32.CritMonotone", spec := "critMonotone", inPlace := ["math.Float64bits", "math.Float64frombits", "math.archFloor", "math.archTrunc"], unfollowed := true, recurses := true, apart := false }
def CritMonotoneSaid : Prop := critMonotoneRow.holds Try.pinned (OpenSpec.ofChange critMonotoneSpec)

/-- ITS FALSE NEIGHBOUR: 'it returns false'. Refute it at one input. -/
def critMonotoneWrong : ChangeSpec := { name := "critMonotone", fn := fun _ => fun
  | [d1, d2, d3] => { results := [.lit (.bool false)], args := [d1, d2, d3] }
  | _ => none }
def CritMonotoneWrongFalsely : Prop := critMonotoneRow.holds Try.pinned (OpenSpec.ofChange critMonotoneWrong)

/- THE SECOND FORM. 'bulk': how many values and letters a reading holds, each counted each time it is reached (what is shared counts as often as it is met; a slice's spare places count too). A statement '..UptoSaid' is the law's where the arguments, and the package variables that the reading takes, are together of bulk at most 1048576: NARROWER than '..Said'. Prove '..Said' where nothing that the law and all that it calls make is longer than what came in: it says more and counts as full. Else prove '..UptoSaid'. A law counts once. -/
mutual
def uptoBulk {H : Type} : DataW H → Nat
  | .lit (.string bytes) => bytes.length + 1
  | .lit _ => 1
  | .nil => 1
  | .ptr d => uptoBulk d + 1
  | .slice elems spare => uptoBulkAll elems + uptoBulkAll spare + 1
  | .agg parts => uptoBulkAll parts + 1
  | .iface _ d => uptoBulk d + 1
  | .map entries => uptoBulkEntries entries + 1
  | .held _ => 1
def uptoBulkAll {H : Type} : List (DataW H) → Nat
  | [] => 0
  | d :: r => uptoBulk d + uptoBulkAll r
def uptoBulkEntries {H : Type} : List (Lit × DataW H) → Nat
  | [] => 0
  | x :: r => uptoBulkEntry x + uptoBulkEntries r
def uptoBulkEntry {H : Type} : Lit × DataW H → Nat
  | (.string bytes, d) => bytes.length + uptoBulk d + 1
  | (_, d) => uptoBulk d + 1
 end
def uptoSmall : (H : Type) → List (DataW H) → Bool := fun _ ds => decide (uptoBulkAll ds ≤ 1048576)
def OpenSpec.upto (s : _root_.Go.ChangeSpec) : _root_.Go.OpenSpec := { _root_.Go.OpenSpec.ofChange s with cond := some uptoSmall }

/-- 'seepagelaw31.CanonWeights', WHERE WHAT IT READS IS OF BULK AT MOST 1048576: true; the input reads as it did. -/
def canonWeightsUptoRow : OpenClaim := { program := "ytcgoicijbmhmpaa", sum := "77654433a3a23d24a0ec978d8e690494f4dbbed0c8adbf5b7881e7817bae88f5", func := "seepage/seepagelaw31.CanonWeights", spec := "canonWeights", inPlace := ["math.archFloor", "math.Float64bits", "math.Float64frombits", "math.archTrunc"], unfollowed := true, recurses := true, apart := false, narrowed := true }
def CanonWeightsUptoSaid : Prop := canonWeightsUptoRow.holds Try.pinned (OpenSpec.upto canonWeightsSpec)

/-- 'seepagelaw31.CanonGreat', WHERE WHAT IT READS IS OF BULK AT MOST 1048576: true; the input reads as it did. -/
def canonGreatUptoRow : OpenClaim := { program := "ytcgoicijbmhmpaa", sum := "77654433a3a23d24a0ec978d8e690494f4dbbed0c8adbf5b7881e7817bae88f5", func := "seepage/seepagelaw31.CanonGreat", spec := "canonGreat", inPlace := ["math.archFloor", "math.Float64bits", "math.Float64frombits", "math.archTrunc"], unfollowed := true, recurses := true, apart := false, narrowed := true }
def CanonGreatUptoSaid : Prop := canonGreatUptoRow.holds Try.pinned (OpenSpec.upto canonGreatSpec)

/-- 'seepagelaw31.CanonAverages', WHERE WHAT IT READS IS OF BULK AT MOST 1048576: true; the input reads as it did. -/
def canonAveragesUptoRow : OpenClaim := { program := "ytcgoicijbmhmpaa", sum := "77654433a3a23d24a0ec978d8e690494f4dbbed0c8adbf5b7881e7817bae88f5", func := "seepage/seepagelaw31.CanonAverages", spec := "canonAverages", inPlace := ["math.archFloor", "math.Float64bits", "math.Float64frombits", "math.archTrunc"], unfollowed := true, recurses := true, apart := false, narrowed := true }
def CanonAveragesUptoSaid : Prop := canonAveragesUptoRow.holds Try.pinned (OpenSpec.upto canonAveragesSpec)

/-- 'seepagelaw31.CanonCurves', WHERE WHAT IT READS IS OF BULK AT MOST 1048576: true; the input reads as it did. -/
def canonCurvesUptoRow : OpenClaim := { program := "ytcgoicijbmhmpaa", sum := "77654433a3a23d24a0ec978d8e690494f4dbbed0c8adbf5b7881e7817bae88f5", func := "seepage/seepagelaw31.CanonCurves", spec := "canonCurves", inPlace := ["math.archFloor", "math.Float64bits", "math.Float64frombits", "math.archTrunc"], unfollowed := true, recurses := true, apart := false, narrowed := true }
def CanonCurvesUptoSaid : Prop := canonCurvesUptoRow.holds Try.pinned (OpenSpec.upto canonCurvesSpec)

/-- 'seepagelaw31.CanonSums', WHERE WHAT IT READS IS OF BULK AT MOST 1048576: true; the input reads as it did. -/
def canonSumsUptoRow : OpenClaim := { program := "ytcgoicijbmhmpaa", sum := "77654433a3a23d24a0ec978d8e690494f4dbbed0c8adbf5b7881e7817bae88f5", func := "seepage/seepagelaw31.CanonSums", spec := "canonSums", inPlace := ["math.archFloor", "math.Float64bits", "math.Float64frombits", "math.archTrunc"], unfollowed := true, recurses := true, apart := false, narrowed := true }
def CanonSumsUptoSaid : Prop := canonSumsUptoRow.holds Try.pinned (OpenSpec.upto canonSumsSpec)

/-- 'seepagelaw31.CanonRecurs', WHERE WHAT IT READS IS OF BULK AT MOST 1048576: true; the input reads as it did. -/
def canonRecursUptoRow : OpenClaim := { program := "ytcgoicijbmhmpaa", sum := "77654433a3a23d24a0ec978d8e690494f4dbbed0c8adbf5b7881e7817bae88f5", func := "seepage/seepagelaw31.CanonRecurs", spec := "canonRecurs", inPlace := ["math.archFloor", "math.Float64bits", "math.Float64frombits", "math.archTrunc"], unfollowed := true, recurses := true, apart := false, narrowed := true }
def CanonRecursUptoSaid : Prop := canonRecursUptoRow.holds Try.pinned (OpenSpec.upto canonRecursSpec)

/-- 'seepagelaw31.CanonEnds', WHERE WHAT IT READS IS OF BULK AT MOST 1048576: true; the input reads as it did. -/
def canonEndsUptoRow : OpenClaim := { program := "ytcgoicijbmhmpaa", sum := "77654433a3a23d24a0ec978d8e690494f4dbbed0c8adbf5b7881e7817bae88f5", func := "seepage/seepagelaw31.CanonEnds", spec := "canonEnds", inPlace := ["math.Float64bits", "math.Float64frombits", "math.archFloor", "math.archTrunc"], unfollowed := true, recurses := true, apart := false, narrowed := true }
def CanonEndsUptoSaid : Prop := canonEndsUptoRow.holds Try.pinned (OpenSpec.upto canonEndsSpec)

/-- 'seepagelaw31.CanonBetween', WHERE WHAT IT READS IS OF BULK AT MOST 1048576: true; the input reads as it did. -/
def canonBetweenUptoRow : OpenClaim := { program := "ytcgoicijbmhmpaa", sum := "77654433a3a23d24a0ec978d8e690494f4dbbed0c8adbf5b7881e7817bae88f5", func := "seepage/seepagelaw31.CanonBetween", spec := "canonBetween", inPlace := ["math.Float64bits", "math.Float64frombits", "math.archFloor", "math.archTrunc"], unfollowed := true, recurses := true, apart := false, narrowed := true }
def CanonBetweenUptoSaid : Prop := canonBetweenUptoRow.holds Try.pinned (OpenSpec.upto canonBetweenSpec)

/-- 'seepagelaw31.CanonLines', WHERE WHAT IT READS IS OF BULK AT MOST 1048576: true; the input reads as it did. -/
def canonLinesUptoRow : OpenClaim := { program := "ytcgoicijbmhmpaa", sum := "77654433a3a23d24a0ec978d8e690494f4dbbed0c8adbf5b7881e7817bae88f5", func := "seepage/seepagelaw31.CanonLines", spec := "canonLines", inPlace := ["math.Float64bits", "math.Float64frombits", "math.archFloor", "math.archTrunc"], unfollowed := true, recurses := true, apart := false, narrowed := true }
def CanonLinesUptoSaid : Prop := canonLinesUptoRow.holds Try.pinned (OpenSpec.upto canonLinesSpec)

/-- 'seepagelaw31.CanonRises', WHERE WHAT IT READS IS OF BULK AT MOST 1048576: true; the input reads as it did. -/
def canonRisesUptoRow : OpenClaim := { program := "ytcgoicijbmhmpaa", sum := "77654433a3a23d24a0ec978d8e690494f4dbbed0c8adbf5b7881e7817bae88f5", func := "seepage/seepagelaw31.CanonRises", spec := "canonRises", inPlace := ["math.Float64bits", "math.Float64frombits", "math.archFloor", "math.archTrunc"], unfollowed := true, recurses := true, apart := false, narrowed := true }
def CanonRisesUptoSaid : Prop := canonRisesUptoRow.holds Try.pinned (OpenSpec.upto canonRisesSpec)

/-- 'seepagelaw31.CanonCurve', WHERE WHAT IT READS IS OF BULK AT MOST 1048576: true; the input reads as it did. -/
def canonCurveUptoRow : OpenClaim := { program := "ytcgoicijbmhmpaa", sum := "77654433a3a23d24a0ec978d8e690494f4dbbed0c8adbf5b7881e7817bae88f5", func := "seepage/seepagelaw31.CanonCurve", spec := "canonCurve", inPlace := ["math.Float64bits", "math.Float64frombits", "math.archFloor", "math.archTrunc"], unfollowed := true, recurses := true, apart := false, narrowed := true }
def CanonCurveUptoSaid : Prop := canonCurveUptoRow.holds Try.pinned (OpenSpec.upto canonCurveSpec)

/-- 'seepagelaw31.CanonValues', WHERE WHAT IT READS IS OF BULK AT MOST 1048576: true; the input reads as it did. -/
def canonValuesUptoRow : OpenClaim := { program := "ytcgoicijbmhmpaa", sum := "77654433a3a23d24a0ec978d8e690494f4dbbed0c8adbf5b7881e7817bae88f5", func := "seepage/seepagelaw31.CanonValues", spec := "canonValues", inPlace := ["math.archFloor", "math.Float64bits", "math.Float64frombits", "math.archTrunc"], unfollowed := true, recurses := true, apart := false, narrowed := true }
def CanonValuesUptoSaid : Prop := canonValuesUptoRow.holds Try.pinned (OpenSpec.upto canonValuesSpec)

/-- 'seepagelaw32.CritPeaks', WHERE WHAT IT READS IS OF BULK AT MOST 1048576: true; the input reads as it did. -/
def critPeaksUptoRow : OpenClaim := { program := "ytcgoicijbmhmpaa", sum := "77654433a3a23d24a0ec978d8e690494f4dbbed0c8adbf5b7881e7817bae88f5", func := "seepage/seepagelaw32.CritPeaks", spec := "critPeaks", inPlace := ["math.Float64bits", "math.Float64frombits", "math.archFloor", "math.archTrunc"], unfollowed := true, recurses := true, apart := false, narrowed := true }
def CritPeaksUptoSaid : Prop := critPeaksUptoRow.holds Try.pinned (OpenSpec.upto critPeaksSpec)

/-- 'seepagelaw32.CritCrosses', WHERE WHAT IT READS IS OF BULK AT MOST 1048576: true; the input reads as it did. -/
def critCrossesUptoRow : OpenClaim := { program := "ytcgoicijbmhmpaa", sum := "77654433a3a23d24a0ec978d8e690494f4dbbed0c8adbf5b7881e7817bae88f5", func := "seepage/seepagelaw32.CritCrosses", spec := "critCrosses", inPlace := ["math.Float64bits", "math.Float64frombits", "math.archFloor", "math.archTrunc"], unfollowed := true, recurses := true, apart := false, narrowed := true }
def CritCrossesUptoSaid : Prop := critCrossesUptoRow.holds Try.pinned (OpenSpec.upto critCrossesSpec)

/-- 'seepagelaw32.CritMeans', WHERE WHAT IT READS IS OF BULK AT MOST 1048576: true; the input reads as it did. -/
def critMeansUptoRow : OpenClaim := { program := "ytcgoicijbmhmpaa", sum := "77654433a3a23d24a0ec978d8e690494f4dbbed0c8adbf5b7881e7817bae88f5", func := "seepage/seepagelaw32.CritMeans", spec := "critMeans", inPlace := ["math.Float64bits", "math.Float64frombits", "math.archFloor", "math.archTrunc"], unfollowed := true, recurses := true, apart := false, narrowed := true }
def CritMeansUptoSaid : Prop := critMeansUptoRow.holds Try.pinned (OpenSpec.upto critMeansSpec)

/-- 'seepagelaw32.CritMiddle', WHERE WHAT IT READS IS OF BULK AT MOST 1048576: true; the input reads as it did. -/
def critMiddleUptoRow : OpenClaim := { program := "ytcgoicijbmhmpaa", sum := "77654433a3a23d24a0ec978d8e690494f4dbbed0c8adbf5b7881e7817bae88f5", func := "seepage/seepagelaw32.CritMiddle", spec := "critMiddle", inPlace := ["math.Float64bits", "math.Float64frombits", "math.archFloor", "math.archTrunc"], unfollowed := true, recurses := true, apart := false, narrowed := true }
def CritMiddleUptoSaid : Prop := critMiddleUptoRow.holds Try.pinned (OpenSpec.upto critMiddleSpec)

/-- 'seepagelaw31.CanonWrong', WHERE WHAT IT READS IS OF BULK AT MOST 1048576: true; the input reads as it did. -/
def canonWrongUptoRow : OpenClaim := { program := "ytcgoicijbmhmpaa", sum := "77654433a3a23d24a0ec978d8e690494f4dbbed0c8adbf5b7881e7817bae88f5", func := "seepage/seepagelaw31.CanonWrong", spec := "canonWrong", inPlace := ["math.Float64bits", "math.Float64frombits", "math.archFloor", "math.archTrunc"], unfollowed := true, recurses := true, apart := false, narrowed := true }
def CanonWrongUptoSaid : Prop := canonWrongUptoRow.holds Try.pinned (OpenSpec.upto canonWrongSpec)

/-- 'seepagelaw32.CritGrids', WHERE WHAT IT READS IS OF BULK AT MOST 1048576: true; the input reads as it did. -/
def critGridsUptoRow : OpenClaim := { program := "ytcgoicijbmhmpaa", sum := "77654433a3a23d24a0ec978d8e690494f4dbbed0c8adbf5b7881e7817bae88f5", func := "seepage/seepagelaw32.CritGrids", spec := "critGrids", inPlace := ["math.Float64bits", "math.Float64frombits", "math.archFloor", "math.archTrunc"], unfollowed := true, recurses := true, apart := false, narrowed := true }
def CritGridsUptoSaid : Prop := critGridsUptoRow.holds Try.pinned (OpenSpec.upto critGridsSpec)

/-- 'seepagelaw32.CritRises', WHERE WHAT IT READS IS OF BULK AT MOST 1048576: true; the input reads as it did. -/
def critRisesUptoRow : OpenClaim := { program := "ytcgoicijbmhmpaa", sum := "77654433a3a23d24a0ec978d8e690494f4dbbed0c8adbf5b7881e7817bae88f5", func := "seepage/seepagelaw32.CritRises", spec := "critRises", inPlace := ["math.Float64bits", "math.Float64frombits", "math.archFloor", "math.archTrunc"], unfollowed := true, recurses := true, apart := false, narrowed := true }
def CritRisesUptoSaid : Prop := critRisesUptoRow.holds Try.pinned (OpenSpec.upto critRisesSpec)

/-- 'seepagelaw32.CritBest', WHERE WHAT IT READS IS OF BULK AT MOST 1048576: true; the input reads as it did. -/
def critBestUptoRow : OpenClaim := { program := "ytcgoicijbmhmpaa", sum := "77654433a3a23d24a0ec978d8e690494f4dbbed0c8adbf5b7881e7817bae88f5", func := "seepage/seepagelaw32.CritBest", spec := "critBest", inPlace := ["math.Float64bits", "math.Float64frombits", "math.archFloor", "math.archTrunc"], unfollowed := true, recurses := true, apart := false, narrowed := true }
def CritBestUptoSaid : Prop := critBestUptoRow.holds Try.pinned (OpenSpec.upto critBestSpec)

/-- 'seepagelaw32.CritFirst', WHERE WHAT IT READS IS OF BULK AT MOST 1048576: true; the input reads as it did. -/
def critFirstUptoRow : OpenClaim := { program := "ytcgoicijbmhmpaa", sum := "77654433a3a23d24a0ec978d8e690494f4dbbed0c8adbf5b7881e7817bae88f5", func := "seepage/seepagelaw32.CritFirst", spec := "critFirst", inPlace := ["math.Float64bits", "math.Float64frombits", "math.archFloor", "math.archTrunc"], unfollowed := true, recurses := true, apart := false, narrowed := true }
def CritFirstUptoSaid : Prop := critFirstUptoRow.holds Try.pinned (OpenSpec.upto critFirstSpec)

/-- 'seepagelaw32.CritSolves', WHERE WHAT IT READS IS OF BULK AT MOST 1048576: true; the input reads as it did. -/
def critSolvesUptoRow : OpenClaim := { program := "ytcgoicijbmhmpaa", sum := "77654433a3a23d24a0ec978d8e690494f4dbbed0c8adbf5b7881e7817bae88f5", func := "seepage/seepagelaw32.CritSolves", spec := "critSolves", inPlace := ["math.Float64bits", "math.Float64frombits", "math.archFloor", "math.archTrunc"], unfollowed := true, recurses := true, apart := false, narrowed := true }
def CritSolvesUptoSaid : Prop := critSolvesUptoRow.holds Try.pinned (OpenSpec.upto critSolvesSpec)

/-- 'seepagelaw32.CritReached', WHERE WHAT IT READS IS OF BULK AT MOST 1048576: true; the input reads as it did. -/
def critReachedUptoRow : OpenClaim := { program := "ytcgoicijbmhmpaa", sum := "77654433a3a23d24a0ec978d8e690494f4dbbed0c8adbf5b7881e7817bae88f5", func := "seepage/seepagelaw32.CritReached", spec := "critReached", inPlace := ["math.Float64bits", "math.Float64frombits", "math.archFloor", "math.archTrunc"], unfollowed := true, recurses := true, apart := false, narrowed := true }
def CritReachedUptoSaid : Prop := critReachedUptoRow.holds Try.pinned (OpenSpec.upto critReachedSpec)

/-- 'seepagelaw32.CritMonotone', WHERE WHAT IT READS IS OF BULK AT MOST 1048576: true; the input reads as it did. -/
def critMonotoneUptoRow : OpenClaim := { program := "ytcgoicijbmhmpaa", sum := "77654433a3a23d24a0ec978d8e690494f4dbbed0c8adbf5b7881e7817bae88f5", func := "seepage/seepagelaw32.CritMonotone", spec := "critMonotone", inPlace := ["math.Float64bits", "math.Float64frombits", "math.archFloor", "math.archTrunc"], unfollowed := true, recurses := true, apart := false, narrowed := true }
def CritMonotoneUptoSaid : Prop := critMonotoneUptoRow.holds Try.pinned (OpenSpec.upto critMonotoneSpec)

end Rows
end Go.Proofs.Ytcgoicijbmhmpaa
