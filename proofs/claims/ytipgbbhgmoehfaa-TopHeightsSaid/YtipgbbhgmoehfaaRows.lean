/-
  No cell of these rows narrows 'for every input' (looked for: loops, veiled, ifaces, maps, wideKeys, modest, calm, conditions, laid).
  DERIVED. THE GIVEN ROWS OF THIS SEAT. 3 by the template 'for every input the law returns true; each argument reads behind the call as it read before'; 0 by the template 'total and deterministic' (their statements: YtipgbbhgmoehfaaTotals.lean).
  GIVEN WITH THE SEED: the statements are not yours to turn. If you find one false, say at which input.
  Laid BY PROGRAM, IN A SANDBOX (cutbox-rows.mjs): the forced cells as the released guide's own fill.sh prints them over the translation bab306b0c26885dd… (all of the seat's roots in one cut). By AI agents, Wed Nov 11 2026. No macro, syntax, notation, axiom, sorry.
-/
import Derived.Test.YtipgbbhgmoehfaaChecked
import GoSem.Claim
import GoSem.ClaimJoined
import GoSem.ClaimMapViews
import Derived.JoinedTies
import Derived.KernelRfl
namespace Go.Proofs.Ytipgbbhgmoehfaa
/- THE CELL 'sum', in the pinned program and in every row, IS THE sha256 OF THE DUMP (.gsa) THAT YtipgbbhgmoehfaaProg.lean LOADS. Nothing in Lean hashes anything: it is a label: what it is worth is what the hold of that sum in a sandbox is worth. -/
noncomputable def Try.pinned : Pinned := { name := "ytipgbbhgmoehfaa", sum := "bab306b0c26885dde6662760b10f75c5462ff4b0d9fd2ed0b200141d175a8f58", checked := Try.checked }
namespace Rows
def none {H : Type} : Left H := { results := [], args := [] }

/-- 'seepagelaw27.SweepThetas': WHATEVER THE INPUT: true; the input reads as it did. -/
def sweepThetasSpec : ChangeSpec := { name := "sweepThetas", fn := fun _ => fun
  | [d1, d2] => { results := [.lit (.bool true)], args := [d1, d2] }
  | _ => none }
def sweepThetasRow : OpenClaim := { program := "ytipgbbhgmoehfaa", sum := "bab306b0c26885dde6662760b10f75c5462ff4b0d9fd2ed0b200141d175a8f58", func := "seepage/seepagelaw27.SweepThetas", spec := "sweepThetas", inPlace := ["math/bits.Add64"], unfollowed := true, recurses := true, plainKeys := false, apart := false }
def SweepThetasSaid : Prop := sweepThetasRow.holds Try.pinned (OpenSpec.ofChange sweepThetasSpec)

/-- ITS FALSE NEIGHBOUR: 'it returns false'. Refute it at one input. -/
def sweepThetasWrong : ChangeSpec := { name := "sweepThetas", fn := fun _ => fun
  | [d1, d2] => { results := [.lit (.bool false)], args := [d1, d2] }
  | _ => none }
def SweepThetasWrongFalsely : Prop := sweepThetasRow.holds Try.pinned (OpenSpec.ofChange sweepThetasWrong)

/-- 'seepagetop.TopHeights': WHATEVER THE INPUT: true; the input reads as it did. -/
def topHeightsSpec : ChangeSpec := { name := "topHeights", fn := fun _ => fun
  | [d1, d2, d3] => { results := [.lit (.bool true)], args := [d1, d2, d3] }
  | _ => none }
def topHeightsRow : OpenClaim := { program := "ytipgbbhgmoehfaa", sum := "bab306b0c26885dde6662760b10f75c5462ff4b0d9fd2ed0b200141d175a8f58", func := "seepage/seepagetop.TopHeights", spec := "topHeights", unfollowed := true, recurses := true, plainKeys := false, apart := false }
def TopHeightsSaid : Prop := topHeightsRow.holds Try.pinned (OpenSpec.ofChange topHeightsSpec)

/-- ITS FALSE NEIGHBOUR: 'it returns false'. Refute it at one input. -/
def topHeightsWrong : ChangeSpec := { name := "topHeights", fn := fun _ => fun
  | [d1, d2, d3] => { results := [.lit (.bool false)], args := [d1, d2, d3] }
  | _ => none }
def TopHeightsWrongFalsely : Prop := topHeightsRow.holds Try.pinned (OpenSpec.ofChange topHeightsWrong)

/-- 'seepagetop.TopNested': WHATEVER THE INPUT: true; the input reads as it did. -/
def topNestedSpec : ChangeSpec := { name := "topNested", fn := fun _ => fun
  | [d1, d2, d3, d4] => { results := [.lit (.bool true)], args := [d1, d2, d3, d4] }
  | _ => none }
def topNestedRow : OpenClaim := { program := "ytipgbbhgmoehfaa", sum := "bab306b0c26885dde6662760b10f75c5462ff4b0d9fd2ed0b200141d175a8f58", func := "seepage/seepagetop.TopNested", spec := "topNested", unfollowed := true, recurses := true, plainKeys := false, apart := false }
def TopNestedSaid : Prop := topNestedRow.holds Try.pinned (OpenSpec.ofChange topNestedSpec)

/-- ITS FALSE NEIGHBOUR: 'it returns false'. Refute it at one input. -/
def topNestedWrong : ChangeSpec := { name := "topNested", fn := fun _ => fun
  | [d1, d2, d3, d4] => { results := [.lit (.bool false)], args := [d1, d2, d3, d4] }
  | _ => none }
def TopNestedWrongFalsely : Prop := topNestedRow.holds Try.pinned (OpenSpec.ofChange topNestedWrong)

/- THE SECOND FORM. 'bulk': how many values and letters a reading holds, each counted each time it is reached (what is shared counts as often as it is met; a slice's spare places count too). A statement '..UptoSaid' is the law's where the arguments, and the package variables that the reading takes, are together of bulk at most 1048576: NARROWER than '..Said'. Prove '..Said' where nothing that the law and all that it calls make is longer than what came in: it says more and counts as full. Else prove '..UptoSaid'. A law counts once. -/
mutual
def uptoBulk {H : Type} : DataW H → Nat
  | .lit (.string bytes) => bytes.length + 1
  | .lit _ => 1
  | .nil => 1
  | .ptr d => uptoBulk d + 1
  | .slice elems spare => uptoBulkAll elems + uptoBulkAll spare + 1
  | .agg parts => uptoBulkAll parts + 1
  | .iface _ d => uptoBulk d + 1
  | .map entries => uptoBulkEntries entries + 1
  | .held _ => 1
def uptoBulkAll {H : Type} : List (DataW H) → Nat
  | [] => 0
  | d :: r => uptoBulk d + uptoBulkAll r
def uptoBulkEntries {H : Type} : List (Lit × DataW H) → Nat
  | [] => 0
  | x :: r => uptoBulkEntry x + uptoBulkEntries r
def uptoBulkEntry {H : Type} : Lit × DataW H → Nat
  | (.string bytes, d) => bytes.length + uptoBulk d + 1
  | (_, d) => uptoBulk d + 1
 end
def uptoSmall : (H : Type) → List (DataW H) → Bool := fun _ ds => decide (uptoBulkAll ds ≤ 1048576)
def OpenSpec.upto (s : _root_.Go.ChangeSpec) : _root_.Go.OpenSpec := { _root_.Go.OpenSpec.ofChange s with cond := some uptoSmall }

/-- 'seepagelaw27.SweepThetas', WHERE WHAT IT READS IS OF BULK AT MOST 1048576: true; the input reads as it did. -/
def sweepThetasUptoRow : OpenClaim := { program := "ytipgbbhgmoehfaa", sum := "bab306b0c26885dde6662760b10f75c5462ff4b0d9fd2ed0b200141d175a8f58", func := "seepage/seepagelaw27.SweepThetas", spec := "sweepThetas", inPlace := ["math/bits.Add64"], unfollowed := true, recurses := true, plainKeys := false, apart := false, narrowed := true }
def SweepThetasUptoSaid : Prop := sweepThetasUptoRow.holds Try.pinned (OpenSpec.upto sweepThetasSpec)

/-- 'seepagetop.TopHeights', WHERE WHAT IT READS IS OF BULK AT MOST 1048576: true; the input reads as it did. -/
def topHeightsUptoRow : OpenClaim := { program := "ytipgbbhgmoehfaa", sum := "bab306b0c26885dde6662760b10f75c5462ff4b0d9fd2ed0b200141d175a8f58", func := "seepage/seepagetop.TopHeights", spec := "topHeights", unfollowed := true, recurses := true, plainKeys := false, apart := false, narrowed := true }
def TopHeightsUptoSaid : Prop := topHeightsUptoRow.holds Try.pinned (OpenSpec.upto topHeightsSpec)

/-- 'seepagetop.TopNested', WHERE WHAT IT READS IS OF BULK AT MOST 1048576: true; the input reads as it did. -/
def topNestedUptoRow : OpenClaim := { program := "ytipgbbhgmoehfaa", sum := "bab306b0c26885dde6662760b10f75c5462ff4b0d9fd2ed0b200141d175a8f58", func := "seepage/seepagetop.TopNested", spec := "topNested", unfollowed := true, recurses := true, plainKeys := false, apart := false, narrowed := true }
def TopNestedUptoSaid : Prop := topNestedUptoRow.holds Try.pinned (OpenSpec.upto topNestedSpec)

end Rows
end Go.Proofs.Ytipgbbhgmoehfaa
