/-
  DERIVED. GIVEN WITH THE SEED: THE CARDS: each row of YtgbpjjinhjikeaaDoorRows.lean that lists a variable, with what it lists TIED to the program's text (the seventh form; the later family's looks); each row that meets fmt, with fmt's text TOLD by the authors' own Lean function (tested against real Go, not proved from fmt's source: count such statements apart). THE CARD IS WHAT COUNTS. Prove the row's statement (the work); the ties are given (YtgbpjjinhjikeaaDoorTie.lean); close each card by the builder's one call (the guide's Derived/Test/ToyasCard.lean, 'card_holds'). Laid BY PROGRAM, IN A SANDBOX (cutbox-door.mjs). By AI agents, Wed Nov 11 2026. No macro, syntax, notation, axiom, sorry.
-/
import Derived.Test.YtgbpjjinhjikeaaDoorRows
import GoSem.ClaimSeven
namespace Go.Proofs.YtgbpjjinhjikeaaDoor
namespace Rows

/-- THE TIED CARD OF 'whensteadlaw2.TraceSays'. -/
def traceSaysCard : Claim7 := { stood := { row := traceSaysRow, standIns := [], harness := (true, "679ca69067b1380052ae287a33d45fb26576ce874e2a11b2f333c3d659862fed"), looks := true }, kinds := [], alts := [], laidByText := true, laidKinds := [.handle], laidTests := true, laidLooks := .later }
def TraceSaysCardSaid : Prop := Claim7.holds Tryd.pinned (.plain (OpenSpec.ofChange traceSaysSpec)) traceSaysCard

/-- THE TIED CARD OF 'whensteadlaw2.HybridSays'. -/
def hybridSaysCard : Claim7 := { stood := { row := hybridSaysRow, standIns := [], harness := (true, "679ca69067b1380052ae287a33d45fb26576ce874e2a11b2f333c3d659862fed"), looks := true }, kinds := [], alts := [], laidByText := true, laidKinds := [.handle], laidTests := true, laidLooks := .later }
def HybridSaysCardSaid : Prop := Claim7.holds Tryd.pinned (.plain (OpenSpec.ofChange hybridSaysSpec)) hybridSaysCard

/-- THE TIED CARD OF 'whensteadlaw2.CutWhole'. -/
def cutWholeCard : Claim7 := { stood := { row := cutWholeRow, standIns := [], harness := (true, "679ca69067b1380052ae287a33d45fb26576ce874e2a11b2f333c3d659862fed"), looks := true }, kinds := [], alts := [], laidByText := true, laidKinds := [.data, .data], laidTests := true, laidLooks := .later }
def CutWholeCardSaid : Prop := Claim7.holds Tryd.pinned (.plain (OpenSpec.ofChange cutWholeSpec)) cutWholeCard

/-- THE TIED CARD OF 'whensteadlaw2.CutLattice'. -/
def cutLatticeCard : Claim7 := { stood := { row := cutLatticeRow, standIns := [], harness := (true, "679ca69067b1380052ae287a33d45fb26576ce874e2a11b2f333c3d659862fed"), looks := true }, kinds := [], alts := [], laidByText := true, laidKinds := [.data, .data], laidTests := true, laidLooks := .later }
def CutLatticeCardSaid : Prop := Claim7.holds Tryd.pinned (.plain (OpenSpec.ofChange cutLatticeSpec)) cutLatticeCard

/-- THE TIED CARD OF 'whensteadlaw2.CutLine'. -/
def cutLineCard : Claim7 := { stood := { row := cutLineRow, standIns := [], harness := (true, "679ca69067b1380052ae287a33d45fb26576ce874e2a11b2f333c3d659862fed"), looks := true }, kinds := [], alts := [], laidByText := true, laidKinds := [.data, .data], laidTests := true, laidLooks := .later }
def CutLineCardSaid : Prop := Claim7.holds Tryd.pinned (.plain (OpenSpec.ofChange cutLineSpec)) cutLineCard

/-- THE SECOND FORM's CARD OF 'whensteadlaw2.TraceSays'. -/
def traceSaysUptoCard : Claim7 := { stood := { row := traceSaysUptoRow, standIns := [], harness := (true, "679ca69067b1380052ae287a33d45fb26576ce874e2a11b2f333c3d659862fed"), looks := true }, kinds := [], alts := [], laidByText := true, laidKinds := [.handle], laidTests := true, laidLooks := .later }
def TraceSaysUptoCardSaid : Prop := Claim7.holds Tryd.pinned (.plain (OpenSpec.upto traceSaysSpec)) traceSaysUptoCard

/-- THE SECOND FORM's CARD OF 'whensteadlaw2.HybridSays'. -/
def hybridSaysUptoCard : Claim7 := { stood := { row := hybridSaysUptoRow, standIns := [], harness := (true, "679ca69067b1380052ae287a33d45fb26576ce874e2a11b2f333c3d659862fed"), looks := true }, kinds := [], alts := [], laidByText := true, laidKinds := [.handle], laidTests := true, laidLooks := .later }
def HybridSaysUptoCardSaid : Prop := Claim7.holds Tryd.pinned (.plain (OpenSpec.upto hybridSaysSpec)) hybridSaysUptoCard

/-- THE SECOND FORM's CARD OF 'whensteadlaw2.CutWhole'. -/
def cutWholeUptoCard : Claim7 := { stood := { row := cutWholeUptoRow, standIns := [], harness := (true, "679ca69067b1380052ae287a33d45fb26576ce874e2a11b2f333c3d659862fed"), looks := true }, kinds := [], alts := [], laidByText := true, laidKinds := [.data, .data], laidTests := true, laidLooks := .later }
def CutWholeUptoCardSaid : Prop := Claim7.holds Tryd.pinned (.plain (OpenSpec.upto cutWholeSpec)) cutWholeUptoCard

/-- THE SECOND FORM's CARD OF 'whensteadlaw2.CutLattice'. -/
def cutLatticeUptoCard : Claim7 := { stood := { row := cutLatticeUptoRow, standIns := [], harness := (true, "679ca69067b1380052ae287a33d45fb26576ce874e2a11b2f333c3d659862fed"), looks := true }, kinds := [], alts := [], laidByText := true, laidKinds := [.data, .data], laidTests := true, laidLooks := .later }
def CutLatticeUptoCardSaid : Prop := Claim7.holds Tryd.pinned (.plain (OpenSpec.upto cutLatticeSpec)) cutLatticeUptoCard

/-- THE SECOND FORM's CARD OF 'whensteadlaw2.CutLine'. -/
def cutLineUptoCard : Claim7 := { stood := { row := cutLineUptoRow, standIns := [], harness := (true, "679ca69067b1380052ae287a33d45fb26576ce874e2a11b2f333c3d659862fed"), looks := true }, kinds := [], alts := [], laidByText := true, laidKinds := [.data, .data], laidTests := true, laidLooks := .later }
def CutLineUptoCardSaid : Prop := Claim7.holds Tryd.pinned (.plain (OpenSpec.upto cutLineSpec)) cutLineUptoCard
end Rows
end Go.Proofs.YtgbpjjinhjikeaaDoor
