/-
  DERIVED. GIVEN WITH THE SEED: THE CARDS: each row of YtpidkjpjjidghaaDoorRows.lean that lists a variable, with what it lists TIED to the program's text (the seventh form; the later family's looks); each row that meets fmt, with fmt's text TOLD by the authors' own Lean function (tested against real Go, not proved from fmt's source: count such statements apart). THE CARD IS WHAT COUNTS. Prove the row's statement (the work); the ties are given (YtpidkjpjjidghaaDoorTie.lean); close each card by the builder's one call (the guide's Derived/Test/ToyasCard.lean, 'card_holds'). Laid BY PROGRAM, IN A SANDBOX (cutbox-door.mjs). By AI agents, Wed Nov 11 2026. No macro, syntax, notation, axiom, sorry.
-/
import Derived.Test.YtpidkjpjjidghaaDoorRows
import GoSem.ClaimSeven
namespace Go.Proofs.YtpidkjpjjidghaaDoor
namespace Rows

/-- THE TIED CARD OF 'whensteadlaw5.EditOne'. -/
def editOneCard : Claim7 := { stood := { row := editOneRow, standIns := [], harness := (true, "dd45833ef400c275aee0efbbe1bf9f2e2b0a628ae21812b1ec2db15389c15f72"), looks := true }, kinds := [], alts := [], laidByText := true, laidKinds := [.handle], laidTests := true, laidLooks := .later }
def EditOneCardSaid : Prop := Claim7.holds Tryd.pinned (.plain (OpenSpec.ofChange editOneSpec)) editOneCard

/-- THE TIED CARD OF 'whensteadlaw5.EditSays'. -/
def editSaysCard : Claim7 := { stood := { row := editSaysRow, standIns := [], harness := (true, "dd45833ef400c275aee0efbbe1bf9f2e2b0a628ae21812b1ec2db15389c15f72"), looks := true }, kinds := [], alts := [], laidByText := true, laidKinds := [.handle], laidTests := true, laidLooks := .later }
def EditSaysCardSaid : Prop := Claim7.holds Tryd.pinned (.plain (OpenSpec.ofChange editSaysSpec)) editSaysCard

/-- THE TIED CARD OF 'whensteadlaw5.EditMeet'. -/
def editMeetCard : Claim7 := { stood := { row := editMeetRow, standIns := [], harness := (true, "dd45833ef400c275aee0efbbe1bf9f2e2b0a628ae21812b1ec2db15389c15f72"), looks := true }, kinds := [], alts := [], laidByText := true, laidKinds := [.handle], laidTests := true, laidLooks := .later }
def EditMeetCardSaid : Prop := Claim7.holds Tryd.pinned (.plain (OpenSpec.ofChange editMeetSpec)) editMeetCard

/-- THE SECOND FORM's CARD OF 'whensteadlaw5.EditOne'. -/
def editOneUptoCard : Claim7 := { stood := { row := editOneUptoRow, standIns := [], harness := (true, "dd45833ef400c275aee0efbbe1bf9f2e2b0a628ae21812b1ec2db15389c15f72"), looks := true }, kinds := [], alts := [], laidByText := true, laidKinds := [.handle], laidTests := true, laidLooks := .later }
def EditOneUptoCardSaid : Prop := Claim7.holds Tryd.pinned (.plain (OpenSpec.upto editOneSpec)) editOneUptoCard

/-- THE SECOND FORM's CARD OF 'whensteadlaw5.EditSays'. -/
def editSaysUptoCard : Claim7 := { stood := { row := editSaysUptoRow, standIns := [], harness := (true, "dd45833ef400c275aee0efbbe1bf9f2e2b0a628ae21812b1ec2db15389c15f72"), looks := true }, kinds := [], alts := [], laidByText := true, laidKinds := [.handle], laidTests := true, laidLooks := .later }
def EditSaysUptoCardSaid : Prop := Claim7.holds Tryd.pinned (.plain (OpenSpec.upto editSaysSpec)) editSaysUptoCard

/-- THE SECOND FORM's CARD OF 'whensteadlaw5.EditMeet'. -/
def editMeetUptoCard : Claim7 := { stood := { row := editMeetUptoRow, standIns := [], harness := (true, "dd45833ef400c275aee0efbbe1bf9f2e2b0a628ae21812b1ec2db15389c15f72"), looks := true }, kinds := [], alts := [], laidByText := true, laidKinds := [.handle], laidTests := true, laidLooks := .later }
def EditMeetUptoCardSaid : Prop := Claim7.holds Tryd.pinned (.plain (OpenSpec.upto editMeetSpec)) editMeetUptoCard
end Rows
end Go.Proofs.YtpidkjpjjidghaaDoor
