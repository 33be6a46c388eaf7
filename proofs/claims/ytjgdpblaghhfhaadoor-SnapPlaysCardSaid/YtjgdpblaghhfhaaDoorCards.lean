/-
  DERIVED. GIVEN WITH THE SEED: THE CARDS: each row of YtjgdpblaghhfhaaDoorRows.lean that lists a variable, with what it lists TIED to the program's text (the seventh form; the later family's looks); each row that meets fmt, with fmt's text TOLD by the authors' own Lean function (tested against real Go, not proved from fmt's source: count such statements apart). THE CARD IS WHAT COUNTS. Prove the row's statement (the work); the ties are given (YtjgdpblaghhfhaaDoorTie.lean); close each card by the builder's one call (the guide's Derived/Test/ToyasCard.lean, 'card_holds'). Laid BY PROGRAM, IN A SANDBOX (cutbox-door.mjs). By AI agents, Wed Nov 11 2026. No macro, syntax, notation, axiom, sorry.
-/
import Derived.Test.YtjgdpblaghhfhaaDoorRows
import GoSem.ClaimSeven
namespace Go.Proofs.YtjgdpblaghhfhaaDoor
namespace Rows

/-- THE TIED CARD OF 'whensteadlaw4.VotePlays'. -/
def votePlaysCard : Claim7 := { stood := { row := votePlaysRow, standIns := [], harness := (true, "4b495ef3123012e0048c51bf1eb87f444bbe988bd052773df989129eb79feb81"), looks := true }, kinds := [], alts := [], laidByText := true, laidKinds := [.handle], laidTests := true, laidLooks := .later }
def VotePlaysCardSaid : Prop := Claim7.holds Tryd.pinned (.plain (OpenSpec.ofChange votePlaysSpec)) votePlaysCard

/-- THE TIED CARD OF 'whensteadlaw2.TablePlays'. -/
def tablePlaysCard : Claim7 := { stood := { row := tablePlaysRow, standIns := [], harness := (true, "4b495ef3123012e0048c51bf1eb87f444bbe988bd052773df989129eb79feb81"), looks := true }, kinds := [], alts := [], laidByText := true, laidKinds := [.handle], laidTests := true, laidLooks := .later }
def TablePlaysCardSaid : Prop := Claim7.holds Tryd.pinned (.plain (OpenSpec.ofChange tablePlaysSpec)) tablePlaysCard

/-- THE TIED CARD OF 'whensteadlaw2.SnapPlays'. -/
def snapPlaysCard : Claim7 := { stood := { row := snapPlaysRow, standIns := [], harness := (true, "4b495ef3123012e0048c51bf1eb87f444bbe988bd052773df989129eb79feb81"), looks := true }, kinds := [], alts := [], laidByText := true, laidKinds := [.handle], laidTests := true, laidLooks := .later }
def SnapPlaysCardSaid : Prop := Claim7.holds Tryd.pinned (.plain (OpenSpec.ofChange snapPlaysSpec)) snapPlaysCard

/-- THE SECOND FORM's CARD OF 'whensteadlaw4.VotePlays'. -/
def votePlaysUptoCard : Claim7 := { stood := { row := votePlaysUptoRow, standIns := [], harness := (true, "4b495ef3123012e0048c51bf1eb87f444bbe988bd052773df989129eb79feb81"), looks := true }, kinds := [], alts := [], laidByText := true, laidKinds := [.handle], laidTests := true, laidLooks := .later }
def VotePlaysUptoCardSaid : Prop := Claim7.holds Tryd.pinned (.plain (OpenSpec.upto votePlaysSpec)) votePlaysUptoCard

/-- THE SECOND FORM's CARD OF 'whensteadlaw2.TablePlays'. -/
def tablePlaysUptoCard : Claim7 := { stood := { row := tablePlaysUptoRow, standIns := [], harness := (true, "4b495ef3123012e0048c51bf1eb87f444bbe988bd052773df989129eb79feb81"), looks := true }, kinds := [], alts := [], laidByText := true, laidKinds := [.handle], laidTests := true, laidLooks := .later }
def TablePlaysUptoCardSaid : Prop := Claim7.holds Tryd.pinned (.plain (OpenSpec.upto tablePlaysSpec)) tablePlaysUptoCard

/-- THE SECOND FORM's CARD OF 'whensteadlaw2.SnapPlays'. -/
def snapPlaysUptoCard : Claim7 := { stood := { row := snapPlaysUptoRow, standIns := [], harness := (true, "4b495ef3123012e0048c51bf1eb87f444bbe988bd052773df989129eb79feb81"), looks := true }, kinds := [], alts := [], laidByText := true, laidKinds := [.handle], laidTests := true, laidLooks := .later }
def SnapPlaysUptoCardSaid : Prop := Claim7.holds Tryd.pinned (.plain (OpenSpec.upto snapPlaysSpec)) snapPlaysUptoCard
end Rows
end Go.Proofs.YtjgdpblaghhfhaaDoor
