/-
  DERIVED. GIVEN WITH THE SEED: THE CARDS: each row of YtgcliogognkdkaaDoorRows.lean that lists a variable, with what it lists TIED to the program's text (the seventh form; the later family's looks); each row that meets fmt, with fmt's text TOLD by the authors' own Lean function (tested against real Go, not proved from fmt's source: count such statements apart). THE CARD IS WHAT COUNTS. Prove the row's statement (the work); the ties are given (YtgcliogognkdkaaDoorTie.lean); close each card by the builder's one call (the guide's Derived/Test/ToyasCard.lean, 'card_holds'). Laid BY PROGRAM, IN A SANDBOX (cutbox-door.mjs). By AI agents, Wed Nov 11 2026. No macro, syntax, notation, axiom, sorry.
-/
import Derived.Test.YtgcliogognkdkaaDoorRows
import GoSem.ClaimSeven
namespace Go.Proofs.YtgcliogognkdkaaDoor
namespace Rows

/-- THE TIED CARD OF 'whensteadlaw4.MergeSays'. -/
def mergeSaysCard : Claim7 := { stood := { row := mergeSaysRow, standIns := [], harness := (true, "b1372a89e297f1ae5795c6c9b62dd6e11216a99599e5d6fa0c19fb12633c0cc9"), looks := true }, kinds := [], alts := [], laidByText := true, laidKinds := [.handle], laidTests := true, laidLooks := .later }
def MergeSaysCardSaid : Prop := Claim7.holds Tryd.pinned (.plain (OpenSpec.ofChange mergeSaysSpec)) mergeSaysCard

/-- THE TIED CARD OF 'whensteadlaw5.GossipPlays'. -/
def gossipPlaysCard : Claim7 := { stood := { row := gossipPlaysRow, standIns := [], harness := (true, "b1372a89e297f1ae5795c6c9b62dd6e11216a99599e5d6fa0c19fb12633c0cc9"), looks := true }, kinds := [], alts := [], laidByText := true, laidKinds := [.handle], laidTests := true, laidLooks := .later }
def GossipPlaysCardSaid : Prop := Claim7.holds Tryd.pinned (.plain (OpenSpec.ofChange gossipPlaysSpec)) gossipPlaysCard

/-- THE SECOND FORM's CARD OF 'whensteadlaw4.MergeSays'. -/
def mergeSaysUptoCard : Claim7 := { stood := { row := mergeSaysUptoRow, standIns := [], harness := (true, "b1372a89e297f1ae5795c6c9b62dd6e11216a99599e5d6fa0c19fb12633c0cc9"), looks := true }, kinds := [], alts := [], laidByText := true, laidKinds := [.handle], laidTests := true, laidLooks := .later }
def MergeSaysUptoCardSaid : Prop := Claim7.holds Tryd.pinned (.plain (OpenSpec.upto mergeSaysSpec)) mergeSaysUptoCard

/-- THE SECOND FORM's CARD OF 'whensteadlaw5.GossipPlays'. -/
def gossipPlaysUptoCard : Claim7 := { stood := { row := gossipPlaysUptoRow, standIns := [], harness := (true, "b1372a89e297f1ae5795c6c9b62dd6e11216a99599e5d6fa0c19fb12633c0cc9"), looks := true }, kinds := [], alts := [], laidByText := true, laidKinds := [.handle], laidTests := true, laidLooks := .later }
def GossipPlaysUptoCardSaid : Prop := Claim7.holds Tryd.pinned (.plain (OpenSpec.upto gossipPlaysSpec)) gossipPlaysUptoCard
end Rows
end Go.Proofs.YtgcliogognkdkaaDoor
