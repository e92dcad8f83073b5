/-
  No cell of these rows narrows 'for every input' (looked for: loops, veiled, ifaces, maps, wideKeys, modest, calm, conditions, laid).
  DERIVED. THE GIVEN ROWS OF THIS SEAT. 7 by the template 'for every input the law returns true; each argument reads behind the call as it read before'; 0 by the template 'total and deterministic' (their statements: YtldodcojkdanjaaTotals.lean).
  GIVEN WITH THE SEED: the statements are not yours to turn. If you find one false, say at which input.
  Laid BY PROGRAM, IN A SANDBOX (cutbox-rows.mjs): the forced cells as the released guide's own fill.sh prints them over the translation 60bf6aab1bcfe530… (all of the seat's roots in one cut). By AI agents, Wed Nov 11 2026. No macro, syntax, notation, axiom, sorry.
-/
import Derived.Test.YtldodcojkdanjaaChecked
import GoSem.Claim
import GoSem.ClaimJoined
import GoSem.ClaimMapViews
import Derived.JoinedTies
import Derived.KernelRfl
namespace Go.Proofs.Ytldodcojkdanjaa
/- THE CELL 'sum', in the pinned program and in every row, IS THE sha256 OF THE DUMP (.gsa) THAT YtldodcojkdanjaaProg.lean LOADS. Nothing in Lean hashes anything: it is a label: what it is worth is what the hold of that sum in a sandbox is worth. -/
noncomputable def Try.pinned : Pinned := { name := "ytldodcojkdanjaa", sum := "60bf6aab1bcfe5301931b7237e1b13c589fbe6726452d68aaa3cf7ce7cc12f37", checked := Try.checked }
namespace Rows
def none {H : Type} : Left H := { results := [], args := [] }

/-- 'seepagelaw06.BagRanks': WHATEVER THE INPUT: true; the input reads as it did. -/
def bagRanksSpec : ChangeSpec := { name := "bagRanks", fn := fun _ => fun
  | [d1, d2, d3] => { results := [.lit (.bool true)], args := [d1, d2, d3] }
  | _ => none }
def bagRanksRow : OpenClaim := { program := "ytldodcojkdanjaa", sum := "60bf6aab1bcfe5301931b7237e1b13c589fbe6726452d68aaa3cf7ce7cc12f37", func := "seepage/seepagelaw06.BagRanks", spec := "bagRanks", inPlace := ["math/bits.Add64"], unfollowed := true, recurses := true, apart := false }
def BagRanksSaid : Prop := bagRanksRow.holds Try.pinned (OpenSpec.ofChange bagRanksSpec)

/-- ITS FALSE NEIGHBOUR: 'it returns false'. Refute it at one input. -/
def bagRanksWrong : ChangeSpec := { name := "bagRanks", fn := fun _ => fun
  | [d1, d2, d3] => { results := [.lit (.bool false)], args := [d1, d2, d3] }
  | _ => none }
def BagRanksWrongFalsely : Prop := bagRanksRow.holds Try.pinned (OpenSpec.ofChange bagRanksWrong)

/-- 'seepagelaw06.BagSmall': WHATEVER THE INPUT: true; the input reads as it did. -/
def bagSmallSpec : ChangeSpec := { name := "bagSmall", fn := fun _ => fun
  | [d] => { results := [.lit (.bool true)], args := [d] }
  | _ => none }
def bagSmallRow : OpenClaim := { program := "ytldodcojkdanjaa", sum := "60bf6aab1bcfe5301931b7237e1b13c589fbe6726452d68aaa3cf7ce7cc12f37", func := "seepage/seepagelaw06.BagSmall", spec := "bagSmall", inPlace := ["math/bits.Add64"], unfollowed := true, recurses := true, apart := false }
def BagSmallSaid : Prop := bagSmallRow.holds Try.pinned (OpenSpec.ofChange bagSmallSpec)

/-- ITS FALSE NEIGHBOUR: 'it returns false'. Refute it at one input. -/
def bagSmallWrong : ChangeSpec := { name := "bagSmall", fn := fun _ => fun
  | [d] => { results := [.lit (.bool false)], args := [d] }
  | _ => none }
def BagSmallWrongFalsely : Prop := bagSmallRow.holds Try.pinned (OpenSpec.ofChange bagSmallWrong)

/-- 'seepagelaw06.BagSorts': WHATEVER THE INPUT: true; the input reads as it did. -/
def bagSortsSpec : ChangeSpec := { name := "bagSorts", fn := fun _ => fun
  | [d] => { results := [.lit (.bool true)], args := [d] }
  | _ => none }
def bagSortsRow : OpenClaim := { program := "ytldodcojkdanjaa", sum := "60bf6aab1bcfe5301931b7237e1b13c589fbe6726452d68aaa3cf7ce7cc12f37", func := "seepage/seepagelaw06.BagSorts", spec := "bagSorts", inPlace := ["math/bits.Add64"], unfollowed := true, recurses := true, apart := false }
def BagSortsSaid : Prop := bagSortsRow.holds Try.pinned (OpenSpec.ofChange bagSortsSpec)

/-- ITS FALSE NEIGHBOUR: 'it returns false'. Refute it at one input. -/
def bagSortsWrong : ChangeSpec := { name := "bagSorts", fn := fun _ => fun
  | [d] => { results := [.lit (.bool false)], args := [d] }
  | _ => none }
def BagSortsWrongFalsely : Prop := bagSortsRow.holds Try.pinned (OpenSpec.ofChange bagSortsWrong)

/-- 'seepagelaw06.BagOrder': WHATEVER THE INPUT: true; the input reads as it did. -/
def bagOrderSpec : ChangeSpec := { name := "bagOrder", fn := fun _ => fun
  | [d1, d2] => { results := [.lit (.bool true)], args := [d1, d2] }
  | _ => none }
def bagOrderRow : OpenClaim := { program := "ytldodcojkdanjaa", sum := "60bf6aab1bcfe5301931b7237e1b13c589fbe6726452d68aaa3cf7ce7cc12f37", func := "seepage/seepagelaw06.BagOrder", spec := "bagOrder", inPlace := ["math/bits.Add64"], unfollowed := true, recurses := true, apart := false }
def BagOrderSaid : Prop := bagOrderRow.holds Try.pinned (OpenSpec.ofChange bagOrderSpec)

/-- ITS FALSE NEIGHBOUR: 'it returns false'. Refute it at one input. -/
def bagOrderWrong : ChangeSpec := { name := "bagOrder", fn := fun _ => fun
  | [d1, d2] => { results := [.lit (.bool false)], args := [d1, d2] }
  | _ => none }
def BagOrderWrongFalsely : Prop := bagOrderRow.holds Try.pinned (OpenSpec.ofChange bagOrderWrong)

/-- 'seepagelaw06.BagUndo': WHATEVER THE INPUT: true; the input reads as it did. -/
def bagUndoSpec : ChangeSpec := { name := "bagUndo", fn := fun _ => fun
  | [d1, d2, d3] => { results := [.lit (.bool true)], args := [d1, d2, d3] }
  | _ => none }
def bagUndoRow : OpenClaim := { program := "ytldodcojkdanjaa", sum := "60bf6aab1bcfe5301931b7237e1b13c589fbe6726452d68aaa3cf7ce7cc12f37", func := "seepage/seepagelaw06.BagUndo", spec := "bagUndo", inPlace := ["math/bits.Add64"], unfollowed := true, recurses := true, apart := false }
def BagUndoSaid : Prop := bagUndoRow.holds Try.pinned (OpenSpec.ofChange bagUndoSpec)

/-- ITS FALSE NEIGHBOUR: 'it returns false'. Refute it at one input. -/
def bagUndoWrong : ChangeSpec := { name := "bagUndo", fn := fun _ => fun
  | [d1, d2, d3] => { results := [.lit (.bool false)], args := [d1, d2, d3] }
  | _ => none }
def BagUndoWrongFalsely : Prop := bagUndoRow.holds Try.pinned (OpenSpec.ofChange bagUndoWrong)

/-- 'seepagelaw06.BagCopies': WHATEVER THE INPUT: true; the input reads as it did. -/
def bagCopiesSpec : ChangeSpec := { name := "bagCopies", fn := fun _ => fun
  | [d1, d2] => { results := [.lit (.bool true)], args := [d1, d2] }
  | _ => none }
def bagCopiesRow : OpenClaim := { program := "ytldodcojkdanjaa", sum := "60bf6aab1bcfe5301931b7237e1b13c589fbe6726452d68aaa3cf7ce7cc12f37", func := "seepage/seepagelaw06.BagCopies", spec := "bagCopies", inPlace := ["math/bits.Add64"], unfollowed := true, recurses := true, apart := false }
def BagCopiesSaid : Prop := bagCopiesRow.holds Try.pinned (OpenSpec.ofChange bagCopiesSpec)

/-- ITS FALSE NEIGHBOUR: 'it returns false'. Refute it at one input. -/
def bagCopiesWrong : ChangeSpec := { name := "bagCopies", fn := fun _ => fun
  | [d1, d2] => { results := [.lit (.bool false)], args := [d1, d2] }
  | _ => none }
def BagCopiesWrongFalsely : Prop := bagCopiesRow.holds Try.pinned (OpenSpec.ofChange bagCopiesWrong)

/-- 'seepagelaw06.BagNil': WHATEVER THE INPUT: true; the input reads as it did. -/
def bagNilSpec : ChangeSpec := { name := "bagNil", fn := fun _ => fun
  | [d1, d2] => { results := [.lit (.bool true)], args := [d1, d2] }
  | _ => none }
def bagNilRow : OpenClaim := { program := "ytldodcojkdanjaa", sum := "60bf6aab1bcfe5301931b7237e1b13c589fbe6726452d68aaa3cf7ce7cc12f37", func := "seepage/seepagelaw06.BagNil", spec := "bagNil", inPlace := ["math/bits.Add64"], unfollowed := true, recurses := true, apart := false }
def BagNilSaid : Prop := bagNilRow.holds Try.pinned (OpenSpec.ofChange bagNilSpec)

/-- ITS FALSE NEIGHBOUR: 'it returns false'. Refute it at one input. -/
def bagNilWrong : ChangeSpec := { name := "bagNil", fn := fun _ => fun
  | [d1, d2] => { results := [.lit (.bool false)], args := [d1, d2] }
  | _ => none }
def BagNilWrongFalsely : Prop := bagNilRow.holds Try.pinned (OpenSpec.ofChange bagNilWrong)

/- THE SECOND FORM. 'bulk': how many values and letters a reading holds, each counted each time it is reached (what is shared counts as often as it is met; a slice's spare places count too). A statement '..UptoSaid' is the law's where the arguments, and the package variables that the reading takes, are together of bulk at most 1048576: NARROWER than '..Said'. Prove '..Said' where nothing that the law and all that it calls make is longer than what came in: it says more and counts as full. Else prove '..UptoSaid'. A law counts once. -/
mutual
def uptoBulk {H : Type} : DataW H → Nat
  | .lit (.string bytes) => bytes.length + 1
  | .lit _ => 1
  | .nil => 1
  | .ptr d => uptoBulk d + 1
  | .slice elems spare => uptoBulkAll elems + uptoBulkAll spare + 1
  | .agg parts => uptoBulkAll parts + 1
  | .iface _ d => uptoBulk d + 1
  | .map entries => uptoBulkEntries entries + 1
  | .held _ => 1
def uptoBulkAll {H : Type} : List (DataW H) → Nat
  | [] => 0
  | d :: r => uptoBulk d + uptoBulkAll r
def uptoBulkEntries {H : Type} : List (Lit × DataW H) → Nat
  | [] => 0
  | x :: r => uptoBulkEntry x + uptoBulkEntries r
def uptoBulkEntry {H : Type} : Lit × DataW H → Nat
  | (.string bytes, d) => bytes.length + uptoBulk d + 1
  | (_, d) => uptoBulk d + 1
 end
def uptoSmall : (H : Type) → List (DataW H) → Bool := fun _ ds => decide (uptoBulkAll ds ≤ 1048576)
def OpenSpec.upto (s : _root_.Go.ChangeSpec) : _root_.Go.OpenSpec := { _root_.Go.OpenSpec.ofChange s with cond := some uptoSmall }

/-- 'seepagelaw06.BagRanks', WHERE WHAT IT READS IS OF BULK AT MOST 1048576: true; the input reads as it did. -/
def bagRanksUptoRow : OpenClaim := { program := "ytldodcojkdanjaa", sum := "60bf6aab1bcfe5301931b7237e1b13c589fbe6726452d68aaa3cf7ce7cc12f37", func := "seepage/seepagelaw06.BagRanks", spec := "bagRanks", inPlace := ["math/bits.Add64"], unfollowed := true, recurses := true, apart := false, narrowed := true }
def BagRanksUptoSaid : Prop := bagRanksUptoRow.holds Try.pinned (OpenSpec.upto bagRanksSpec)

/-- 'seepagelaw06.BagSmall', WHERE WHAT IT READS IS OF BULK AT MOST 1048576: true; the input reads as it did. -/
def bagSmallUptoRow : OpenClaim := { program := "ytldodcojkdanjaa", sum := "60bf6aab1bcfe5301931b7237e1b13c589fbe6726452d68aaa3cf7ce7cc12f37", func := "seepage/seepagelaw06.BagSmall", spec := "bagSmall", inPlace := ["math/bits.Add64"], unfollowed := true, recurses := true, apart := false, narrowed := true }
def BagSmallUptoSaid : Prop := bagSmallUptoRow.holds Try.pinned (OpenSpec.upto bagSmallSpec)

/-- 'seepagelaw06.BagSorts', WHERE WHAT IT READS IS OF BULK AT MOST 1048576: true; the input reads as it did. -/
def bagSortsUptoRow : OpenClaim := { program := "ytldodcojkdanjaa", sum := "60bf6aab1bcfe5301931b7237e1b13c589fbe6726452d68aaa3cf7ce7cc12f37", func := "seepage/seepagelaw06.BagSorts", spec := "bagSorts", inPlace := ["math/bits.Add64"], unfollowed := true, recurses := true, apart := false, narrowed := true }
def BagSortsUptoSaid : Prop := bagSortsUptoRow.holds Try.pinned (OpenSpec.upto bagSortsSpec)

/-- 'seepagelaw06.BagOrder', WHERE WHAT IT READS IS OF BULK AT MOST 1048576: true; the input reads as it did. -/
def bagOrderUptoRow : OpenClaim := { program := "ytldodcojkdanjaa", sum := "60bf6aab1bcfe5301931b7237e1b13c589fbe6726452d68aaa3cf7ce7cc12f37", func := "seepage/seepagelaw06.BagOrder", spec := "bagOrder", inPlace := ["math/bits.Add64"], unfollowed := true, recurses := true, apart := false, narrowed := true }
def BagOrderUptoSaid : Prop := bagOrderUptoRow.holds Try.pinned (OpenSpec.upto bagOrderSpec)

/-- 'seepagelaw06.BagUndo', WHERE WHAT IT READS IS OF BULK AT MOST 1048576: true; the input reads as it did. -/
def bagUndoUptoRow : OpenClaim := { program := "ytldodcojkdanjaa", sum := "60bf6aab1bcfe5301931b7237e1b13c589fbe6726452d68aaa3cf7ce7cc12f37", func := "seepage/seepagelaw06.BagUndo", spec := "bagUndo", inPlace := ["math/bits.Add64"], unfollowed := true, recurses := true, apart := false, narrowed := true }
def BagUndoUptoSaid : Prop := bagUndoUptoRow.holds Try.pinned (OpenSpec.upto bagUndoSpec)

/-- 'seepagelaw06.BagCopies', WHERE WHAT IT READS IS OF BULK AT MOST 1048576: true; the input reads as it did. -/
def bagCopiesUptoRow : OpenClaim := { program := "ytldodcojkdanjaa", sum := "60bf6aab1bcfe5301931b7237e1b13c589fbe6726452d68aaa3cf7ce7cc12f37", func := "seepage/seepagelaw06.BagCopies", spec := "bagCopies", inPlace := ["math/bits.Add64"], unfollowed := true, recurses := true, apart := false, narrowed := true }
def BagCopiesUptoSaid : Prop := bagCopiesUptoRow.holds Try.pinned (OpenSpec.upto bagCopiesSpec)

/-- 'seepagelaw06.BagNil', WHERE WHAT IT READS IS OF BULK AT MOST 1048576: true; the input reads as it did. -/
def bagNilUptoRow : OpenClaim := { program := "ytldodcojkdanjaa", sum := "60bf6aab1bcfe5301931b7237e1b13c589fbe6726452d68aaa3cf7ce7cc12f37", func := "seepage/seepagelaw06.BagNil", spec := "bagNil", inPlace := ["math/bits.Add64"], unfollowed := true, recurses := true, apart := false, narrowed := true }
def BagNilUptoSaid : Prop := bagNilUptoRow.holds Try.pinned (OpenSpec.upto bagNilSpec)

end Rows
end Go.Proofs.Ytldodcojkdanjaa
