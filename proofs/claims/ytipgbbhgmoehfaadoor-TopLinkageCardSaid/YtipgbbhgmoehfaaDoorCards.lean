/-
  DERIVED. GIVEN WITH THE SEED: THE CARDS: each row of YtipgbbhgmoehfaaDoorRows.lean that lists a variable, with what it lists TIED to the program's text (the seventh form; the later family's looks); each row that meets fmt, with fmt's text TOLD by the authors' own Lean function (tested against real Go, not proved from fmt's source: count such statements apart). THE CARD IS WHAT COUNTS. Prove the row's statement (the work); the ties are given (YtipgbbhgmoehfaaDoorTie.lean); close each card by the builder's one call (the guide's Derived/Test/ToyasCard.lean, 'card_holds'). Laid BY PROGRAM, IN A SANDBOX (cutbox-door.mjs). By AI agents, Wed Nov 11 2026. No macro, syntax, notation, axiom, sorry.
-/
import Derived.Test.YtipgbbhgmoehfaaDoorRows
import GoSem.ClaimSeven
namespace Go.Proofs.YtipgbbhgmoehfaaDoor
namespace Rows

/-- THE TIED CARD OF 'seepagetop.TopLinkage'. -/
def topLinkageCard : Claim7 := { stood := { row := topLinkageRow, standIns := [], harness := (true, "00b8d79e323b968ce38e7a5fd04fd6251f2629ac4486a0596b359e74c1c88472"), looks := false }, kinds := [], alts := [], laidByText := true, laidKinds := [.data, .data], laidTests := true, laidLooks := .later }
def TopLinkageCardSaid : Prop := Claim7.holds Tryd.pinned (.plain (OpenSpec.ofChange topLinkageSpec)) topLinkageCard

/-- THE SECOND FORM's CARD OF 'seepagetop.TopLinkage'. -/
def topLinkageUptoCard : Claim7 := { stood := { row := topLinkageUptoRow, standIns := [], harness := (true, "00b8d79e323b968ce38e7a5fd04fd6251f2629ac4486a0596b359e74c1c88472"), looks := false }, kinds := [], alts := [], laidByText := true, laidKinds := [.data, .data], laidTests := true, laidLooks := .later }
def TopLinkageUptoCardSaid : Prop := Claim7.holds Tryd.pinned (.plain (OpenSpec.upto topLinkageSpec)) topLinkageUptoCard
end Rows
end Go.Proofs.YtipgbbhgmoehfaaDoor
