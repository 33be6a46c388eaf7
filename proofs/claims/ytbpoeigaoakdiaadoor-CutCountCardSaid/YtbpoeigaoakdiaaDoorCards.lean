/-
  DERIVED. GIVEN WITH THE SEED: THE CARDS: each row of YtbpoeigaoakdiaaDoorRows.lean that lists a variable, with what it lists TIED to the program's text (the seventh form; the later family's looks); each row that meets fmt, with fmt's text TOLD by the authors' own Lean function (tested against real Go, not proved from fmt's source: count such statements apart). THE CARD IS WHAT COUNTS. Prove the row's statement (the work); the ties are given (YtbpoeigaoakdiaaDoorTie.lean); close each card by the builder's one call (the guide's Derived/Test/ToyasCard.lean, 'card_holds'). Laid BY PROGRAM, IN A SANDBOX (cutbox-door.mjs). By AI agents, Wed Nov 11 2026. No macro, syntax, notation, axiom, sorry.
-/
import Derived.Test.YtbpoeigaoakdiaaDoorRows
import GoSem.ClaimSeven
namespace Go.Proofs.YtbpoeigaoakdiaaDoor
namespace Rows

/-- THE TIED CARD OF 'whensteadlaw2.TraceSays'. -/
def traceSaysCard : Claim7 := { stood := { row := traceSaysRow, standIns := [], harness := (true, "6c40a0606f5781a6e7430b23d2a4b722f206db4438294901ac4f445c5e8649bc"), looks := true }, kinds := [], alts := [], laidByText := true, laidKinds := [.handle], laidTests := true, laidLooks := .later }
def TraceSaysCardSaid : Prop := Claim7.holds Tryd.pinned (.plain (OpenSpec.ofChange traceSaysSpec)) traceSaysCard

/-- THE TIED CARD OF 'whensteadlaw2.HybridSays'. -/
def hybridSaysCard : Claim7 := { stood := { row := hybridSaysRow, standIns := [], harness := (true, "6c40a0606f5781a6e7430b23d2a4b722f206db4438294901ac4f445c5e8649bc"), looks := true }, kinds := [], alts := [], laidByText := true, laidKinds := [.handle], laidTests := true, laidLooks := .later }
def HybridSaysCardSaid : Prop := Claim7.holds Tryd.pinned (.plain (OpenSpec.ofChange hybridSaysSpec)) hybridSaysCard

/-- THE TIED CARD OF 'whensteadlaw2.CutCount'. -/
def cutCountCard : Claim7 := { stood := { row := cutCountRow, standIns := [], harness := (true, "6c40a0606f5781a6e7430b23d2a4b722f206db4438294901ac4f445c5e8649bc"), looks := true }, kinds := [], alts := [], laidByText := true, laidKinds := [.data, .data], laidTests := true, laidLooks := .later }
def CutCountCardSaid : Prop := Claim7.holds Tryd.pinned (.plain (OpenSpec.ofChange cutCountSpec)) cutCountCard

/-- THE TIED CARD OF 'whensteadlaw2.CutSays'. -/
def cutSaysCard : Claim7 := { stood := { row := cutSaysRow, standIns := [], harness := (true, "6c40a0606f5781a6e7430b23d2a4b722f206db4438294901ac4f445c5e8649bc"), looks := true }, kinds := [], alts := [], laidByText := true, laidKinds := [.data, .data, .handle], laidTests := true, laidLooks := .later }
def CutSaysCardSaid : Prop := Claim7.holds Tryd.pinned (.plain (OpenSpec.ofChange cutSaysSpec)) cutSaysCard

/-- THE TIED CARD OF 'whensteadlaw2.StampSays'. -/
def stampSaysCard : Claim7 := { stood := { row := stampSaysRow, standIns := [], harness := (true, "6c40a0606f5781a6e7430b23d2a4b722f206db4438294901ac4f445c5e8649bc"), looks := true }, kinds := [], alts := [], laidByText := true, laidKinds := [.handle], laidTests := true, laidLooks := .later }
def StampSaysCardSaid : Prop := Claim7.holds Tryd.pinned (.plain (OpenSpec.ofChange stampSaysSpec)) stampSaysCard

/-- THE SECOND FORM's CARD OF 'whensteadlaw2.TraceSays'. -/
def traceSaysUptoCard : Claim7 := { stood := { row := traceSaysUptoRow, standIns := [], harness := (true, "6c40a0606f5781a6e7430b23d2a4b722f206db4438294901ac4f445c5e8649bc"), looks := true }, kinds := [], alts := [], laidByText := true, laidKinds := [.handle], laidTests := true, laidLooks := .later }
def TraceSaysUptoCardSaid : Prop := Claim7.holds Tryd.pinned (.plain (OpenSpec.upto traceSaysSpec)) traceSaysUptoCard

/-- THE SECOND FORM's CARD OF 'whensteadlaw2.HybridSays'. -/
def hybridSaysUptoCard : Claim7 := { stood := { row := hybridSaysUptoRow, standIns := [], harness := (true, "6c40a0606f5781a6e7430b23d2a4b722f206db4438294901ac4f445c5e8649bc"), looks := true }, kinds := [], alts := [], laidByText := true, laidKinds := [.handle], laidTests := true, laidLooks := .later }
def HybridSaysUptoCardSaid : Prop := Claim7.holds Tryd.pinned (.plain (OpenSpec.upto hybridSaysSpec)) hybridSaysUptoCard

/-- THE SECOND FORM's CARD OF 'whensteadlaw2.CutCount'. -/
def cutCountUptoCard : Claim7 := { stood := { row := cutCountUptoRow, standIns := [], harness := (true, "6c40a0606f5781a6e7430b23d2a4b722f206db4438294901ac4f445c5e8649bc"), looks := true }, kinds := [], alts := [], laidByText := true, laidKinds := [.data, .data], laidTests := true, laidLooks := .later }
def CutCountUptoCardSaid : Prop := Claim7.holds Tryd.pinned (.plain (OpenSpec.upto cutCountSpec)) cutCountUptoCard

/-- THE SECOND FORM's CARD OF 'whensteadlaw2.CutSays'. -/
def cutSaysUptoCard : Claim7 := { stood := { row := cutSaysUptoRow, standIns := [], harness := (true, "6c40a0606f5781a6e7430b23d2a4b722f206db4438294901ac4f445c5e8649bc"), looks := true }, kinds := [], alts := [], laidByText := true, laidKinds := [.data, .data, .handle], laidTests := true, laidLooks := .later }
def CutSaysUptoCardSaid : Prop := Claim7.holds Tryd.pinned (.plain (OpenSpec.upto cutSaysSpec)) cutSaysUptoCard

/-- THE SECOND FORM's CARD OF 'whensteadlaw2.StampSays'. -/
def stampSaysUptoCard : Claim7 := { stood := { row := stampSaysUptoRow, standIns := [], harness := (true, "6c40a0606f5781a6e7430b23d2a4b722f206db4438294901ac4f445c5e8649bc"), looks := true }, kinds := [], alts := [], laidByText := true, laidKinds := [.handle], laidTests := true, laidLooks := .later }
def StampSaysUptoCardSaid : Prop := Claim7.holds Tryd.pinned (.plain (OpenSpec.upto stampSaysSpec)) stampSaysUptoCard
end Rows
end Go.Proofs.YtbpoeigaoakdiaaDoor
