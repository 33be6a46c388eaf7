/-
  DERIVED. GIVEN WITH THE SEED: THE CARDS: each row of YtdpnakebhpecfaaDoorRows.lean that lists a variable, with what it lists TIED to the program's text (the seventh form; the later family's looks); each row that meets fmt, with fmt's text TOLD by the authors' own Lean function (tested against real Go, not proved from fmt's source: count such statements apart). THE CARD IS WHAT COUNTS. Prove the row's statement (the work); the ties are given (YtdpnakebhpecfaaDoorTie.lean); close each card by the builder's one call (the guide's Derived/Test/ToyasCard.lean, 'card_holds'). Laid BY PROGRAM, IN A SANDBOX (cutbox-door.mjs). By AI agents, Wed Nov 11 2026. No macro, syntax, notation, axiom, sorry.
-/
import Derived.Test.YtdpnakebhpecfaaDoorRows
import GoSem.ClaimSeven
namespace Go.Proofs.YtdpnakebhpecfaaDoor
namespace Rows

/-- THE TIED CARD OF 'whensteadlaw4.SynodOne'. -/
def synodOneCard : Claim7 := { stood := { row := synodOneRow, standIns := [], harness := (true, "a85d14438032841d98244a5db96fb6494d939fcd6738d0aa566fc2b99ab368b5"), looks := true }, kinds := [], alts := [], laidByText := true, laidKinds := [.data, .data], laidTests := true, laidLooks := .later }
def SynodOneCardSaid : Prop := Claim7.holds Tryd.pinned (.plain (OpenSpec.ofChange synodOneSpec)) synodOneCard

/-- THE TIED CARD OF 'whensteadlaw4.SynodGoes'. -/
def synodGoesCard : Claim7 := { stood := { row := synodGoesRow, standIns := [], harness := (true, "a85d14438032841d98244a5db96fb6494d939fcd6738d0aa566fc2b99ab368b5"), looks := true }, kinds := [], alts := [], laidByText := true, laidKinds := [.data, .data], laidTests := true, laidLooks := .later }
def SynodGoesCardSaid : Prop := Claim7.holds Tryd.pinned (.plain (OpenSpec.ofChange synodGoesSpec)) synodGoesCard

/-- THE TIED CARD OF 'whensteadlaw4.SynodAsked'. -/
def synodAskedCard : Claim7 := { stood := { row := synodAskedRow, standIns := [], harness := (true, "a85d14438032841d98244a5db96fb6494d939fcd6738d0aa566fc2b99ab368b5"), looks := true }, kinds := [], alts := [], laidByText := true, laidKinds := [.data, .data], laidTests := true, laidLooks := .later }
def SynodAskedCardSaid : Prop := Claim7.holds Tryd.pinned (.plain (OpenSpec.ofChange synodAskedSpec)) synodAskedCard

/-- THE TIED CARD OF 'whensteadlaw4.SynodPlays'. -/
def synodPlaysCard : Claim7 := { stood := { row := synodPlaysRow, standIns := [], harness := (true, "a85d14438032841d98244a5db96fb6494d939fcd6738d0aa566fc2b99ab368b5"), looks := true }, kinds := [], alts := [], laidByText := true, laidKinds := [.data, .data, .handle], laidTests := true, laidLooks := .later }
def SynodPlaysCardSaid : Prop := Claim7.holds Tryd.pinned (.plain (OpenSpec.ofChange synodPlaysSpec)) synodPlaysCard

/-- THE TIED CARD OF 'whensteadtop.TopQuorum'. -/
def topQuorumCard : Claim7 := { stood := { row := topQuorumRow, standIns := [], harness := (true, "a85d14438032841d98244a5db96fb6494d939fcd6738d0aa566fc2b99ab368b5"), looks := true }, kinds := [], alts := [], laidByText := true, laidKinds := [.data, .data], laidTests := true, laidLooks := .later }
def TopQuorumCardSaid : Prop := Claim7.holds Tryd.pinned (.plain (OpenSpec.ofChange topQuorumSpec)) topQuorumCard

/-- THE SECOND FORM's CARD OF 'whensteadlaw4.SynodOne'. -/
def synodOneUptoCard : Claim7 := { stood := { row := synodOneUptoRow, standIns := [], harness := (true, "a85d14438032841d98244a5db96fb6494d939fcd6738d0aa566fc2b99ab368b5"), looks := true }, kinds := [], alts := [], laidByText := true, laidKinds := [.data, .data], laidTests := true, laidLooks := .later }
def SynodOneUptoCardSaid : Prop := Claim7.holds Tryd.pinned (.plain (OpenSpec.upto synodOneSpec)) synodOneUptoCard

/-- THE SECOND FORM's CARD OF 'whensteadlaw4.SynodGoes'. -/
def synodGoesUptoCard : Claim7 := { stood := { row := synodGoesUptoRow, standIns := [], harness := (true, "a85d14438032841d98244a5db96fb6494d939fcd6738d0aa566fc2b99ab368b5"), looks := true }, kinds := [], alts := [], laidByText := true, laidKinds := [.data, .data], laidTests := true, laidLooks := .later }
def SynodGoesUptoCardSaid : Prop := Claim7.holds Tryd.pinned (.plain (OpenSpec.upto synodGoesSpec)) synodGoesUptoCard

/-- THE SECOND FORM's CARD OF 'whensteadlaw4.SynodAsked'. -/
def synodAskedUptoCard : Claim7 := { stood := { row := synodAskedUptoRow, standIns := [], harness := (true, "a85d14438032841d98244a5db96fb6494d939fcd6738d0aa566fc2b99ab368b5"), looks := true }, kinds := [], alts := [], laidByText := true, laidKinds := [.data, .data], laidTests := true, laidLooks := .later }
def SynodAskedUptoCardSaid : Prop := Claim7.holds Tryd.pinned (.plain (OpenSpec.upto synodAskedSpec)) synodAskedUptoCard

/-- THE SECOND FORM's CARD OF 'whensteadlaw4.SynodPlays'. -/
def synodPlaysUptoCard : Claim7 := { stood := { row := synodPlaysUptoRow, standIns := [], harness := (true, "a85d14438032841d98244a5db96fb6494d939fcd6738d0aa566fc2b99ab368b5"), looks := true }, kinds := [], alts := [], laidByText := true, laidKinds := [.data, .data, .handle], laidTests := true, laidLooks := .later }
def SynodPlaysUptoCardSaid : Prop := Claim7.holds Tryd.pinned (.plain (OpenSpec.upto synodPlaysSpec)) synodPlaysUptoCard

/-- THE SECOND FORM's CARD OF 'whensteadtop.TopQuorum'. -/
def topQuorumUptoCard : Claim7 := { stood := { row := topQuorumUptoRow, standIns := [], harness := (true, "a85d14438032841d98244a5db96fb6494d939fcd6738d0aa566fc2b99ab368b5"), looks := true }, kinds := [], alts := [], laidByText := true, laidKinds := [.data, .data], laidTests := true, laidLooks := .later }
def TopQuorumUptoCardSaid : Prop := Claim7.holds Tryd.pinned (.plain (OpenSpec.upto topQuorumSpec)) topQuorumUptoCard
end Rows
end Go.Proofs.YtdpnakebhpecfaaDoor
