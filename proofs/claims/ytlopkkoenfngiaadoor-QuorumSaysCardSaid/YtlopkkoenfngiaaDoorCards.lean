/-
  DERIVED. GIVEN WITH THE SEED: THE CARDS: each row of YtlopkkoenfngiaaDoorRows.lean that lists a variable, with what it lists TIED to the program's text (the seventh form; the later family's looks); each row that meets fmt, with fmt's text TOLD by the authors' own Lean function (tested against real Go, not proved from fmt's source: count such statements apart). THE CARD IS WHAT COUNTS. Prove the row's statement (the work); the ties are given (YtlopkkoenfngiaaDoorTie.lean); close each card by the builder's one call (the guide's Derived/Test/ToyasCard.lean, 'card_holds'). Laid BY PROGRAM, IN A SANDBOX (cutbox-door.mjs). By AI agents, Wed Nov 11 2026. No macro, syntax, notation, axiom, sorry.
-/
import Derived.Test.YtlopkkoenfngiaaDoorRows
import GoSem.ClaimSeven
namespace Go.Proofs.YtlopkkoenfngiaaDoor
namespace Rows

/-- THE TIED CARD OF 'whensteadlaw4.QuorumVotes'. -/
def quorumVotesCard : Claim7 := { stood := { row := quorumVotesRow, standIns := [], harness := (true, "6e53e5e2e7f0318059a329c0892496c04869feaafea329c5ae51f6ca793f3c34"), looks := true }, kinds := [], alts := [], laidByText := true, laidKinds := [.data, .data], laidTests := true, laidLooks := .later }
def QuorumVotesCardSaid : Prop := Claim7.holds Tryd.pinned (.plain (OpenSpec.ofChange quorumVotesSpec)) quorumVotesCard

/-- THE TIED CARD OF 'whensteadlaw4.QuorumFull'. -/
def quorumFullCard : Claim7 := { stood := { row := quorumFullRow, standIns := [], harness := (true, "6e53e5e2e7f0318059a329c0892496c04869feaafea329c5ae51f6ca793f3c34"), looks := true }, kinds := [], alts := [], laidByText := true, laidKinds := [.data, .data], laidTests := true, laidLooks := .later }
def QuorumFullCardSaid : Prop := Claim7.holds Tryd.pinned (.plain (OpenSpec.ofChange quorumFullSpec)) quorumFullCard

/-- THE TIED CARD OF 'whensteadlaw4.QuorumLeast'. -/
def quorumLeastCard : Claim7 := { stood := { row := quorumLeastRow, standIns := [], harness := (true, "6e53e5e2e7f0318059a329c0892496c04869feaafea329c5ae51f6ca793f3c34"), looks := true }, kinds := [], alts := [], laidByText := true, laidKinds := [.data, .data], laidTests := true, laidLooks := .later }
def QuorumLeastCardSaid : Prop := Claim7.holds Tryd.pinned (.plain (OpenSpec.ofChange quorumLeastSpec)) quorumLeastCard

/-- THE TIED CARD OF 'whensteadlaw4.QuorumMasks'. -/
def quorumMasksCard : Claim7 := { stood := { row := quorumMasksRow, standIns := [], harness := (true, "6e53e5e2e7f0318059a329c0892496c04869feaafea329c5ae51f6ca793f3c34"), looks := true }, kinds := [], alts := [], laidByText := true, laidKinds := [.data, .data], laidTests := true, laidLooks := .later }
def QuorumMasksCardSaid : Prop := Claim7.holds Tryd.pinned (.plain (OpenSpec.ofChange quorumMasksSpec)) quorumMasksCard

/-- THE TIED CARD OF 'whensteadlaw4.QuorumSays'. -/
def quorumSaysCard : Claim7 := { stood := { row := quorumSaysRow, standIns := [], harness := (true, "6e53e5e2e7f0318059a329c0892496c04869feaafea329c5ae51f6ca793f3c34"), looks := true }, kinds := [], alts := [], laidByText := true, laidKinds := [.data, .data, .handle], laidTests := true, laidLooks := .later }
def QuorumSaysCardSaid : Prop := Claim7.holds Tryd.pinned (.plain (OpenSpec.ofChange quorumSaysSpec)) quorumSaysCard

/-- THE TIED CARD OF 'whensteadlaw4.GeneralAgree'. -/
def generalAgreeCard : Claim7 := { stood := { row := generalAgreeRow, standIns := [], harness := (true, "6e53e5e2e7f0318059a329c0892496c04869feaafea329c5ae51f6ca793f3c34"), looks := true }, kinds := [], alts := [], laidByText := true, laidKinds := [.data, .data], laidTests := true, laidLooks := .later }
def GeneralAgreeCardSaid : Prop := Claim7.holds Tryd.pinned (.plain (OpenSpec.ofChange generalAgreeSpec)) generalAgreeCard

/-- THE TIED CARD OF 'whensteadlaw4.GeneralObey'. -/
def generalObeyCard : Claim7 := { stood := { row := generalObeyRow, standIns := [], harness := (true, "6e53e5e2e7f0318059a329c0892496c04869feaafea329c5ae51f6ca793f3c34"), looks := true }, kinds := [], alts := [], laidByText := true, laidKinds := [.data, .data], laidTests := true, laidLooks := .later }
def GeneralObeyCardSaid : Prop := Claim7.holds Tryd.pinned (.plain (OpenSpec.ofChange generalObeySpec)) generalObeyCard

/-- THE TIED CARD OF 'whensteadlaw4.GeneralHonest'. -/
def generalHonestCard : Claim7 := { stood := { row := generalHonestRow, standIns := [], harness := (true, "6e53e5e2e7f0318059a329c0892496c04869feaafea329c5ae51f6ca793f3c34"), looks := true }, kinds := [], alts := [], laidByText := true, laidKinds := [.data, .data], laidTests := true, laidLooks := .later }
def GeneralHonestCardSaid : Prop := Claim7.holds Tryd.pinned (.plain (OpenSpec.ofChange generalHonestSpec)) generalHonestCard

/-- THE TIED CARD OF 'whensteadlaw4.GeneralSays'. -/
def generalSaysCard : Claim7 := { stood := { row := generalSaysRow, standIns := [], harness := (true, "6e53e5e2e7f0318059a329c0892496c04869feaafea329c5ae51f6ca793f3c34"), looks := true }, kinds := [], alts := [], laidByText := true, laidKinds := [.data, .data, .handle], laidTests := true, laidLooks := .later }
def GeneralSaysCardSaid : Prop := Claim7.holds Tryd.pinned (.plain (OpenSpec.ofChange generalSaysSpec)) generalSaysCard

/-- THE SECOND FORM's CARD OF 'whensteadlaw4.QuorumVotes'. -/
def quorumVotesUptoCard : Claim7 := { stood := { row := quorumVotesUptoRow, standIns := [], harness := (true, "6e53e5e2e7f0318059a329c0892496c04869feaafea329c5ae51f6ca793f3c34"), looks := true }, kinds := [], alts := [], laidByText := true, laidKinds := [.data, .data], laidTests := true, laidLooks := .later }
def QuorumVotesUptoCardSaid : Prop := Claim7.holds Tryd.pinned (.plain (OpenSpec.upto quorumVotesSpec)) quorumVotesUptoCard

/-- THE SECOND FORM's CARD OF 'whensteadlaw4.QuorumFull'. -/
def quorumFullUptoCard : Claim7 := { stood := { row := quorumFullUptoRow, standIns := [], harness := (true, "6e53e5e2e7f0318059a329c0892496c04869feaafea329c5ae51f6ca793f3c34"), looks := true }, kinds := [], alts := [], laidByText := true, laidKinds := [.data, .data], laidTests := true, laidLooks := .later }
def QuorumFullUptoCardSaid : Prop := Claim7.holds Tryd.pinned (.plain (OpenSpec.upto quorumFullSpec)) quorumFullUptoCard

/-- THE SECOND FORM's CARD OF 'whensteadlaw4.QuorumLeast'. -/
def quorumLeastUptoCard : Claim7 := { stood := { row := quorumLeastUptoRow, standIns := [], harness := (true, "6e53e5e2e7f0318059a329c0892496c04869feaafea329c5ae51f6ca793f3c34"), looks := true }, kinds := [], alts := [], laidByText := true, laidKinds := [.data, .data], laidTests := true, laidLooks := .later }
def QuorumLeastUptoCardSaid : Prop := Claim7.holds Tryd.pinned (.plain (OpenSpec.upto quorumLeastSpec)) quorumLeastUptoCard

/-- THE SECOND FORM's CARD OF 'whensteadlaw4.QuorumMasks'. -/
def quorumMasksUptoCard : Claim7 := { stood := { row := quorumMasksUptoRow, standIns := [], harness := (true, "6e53e5e2e7f0318059a329c0892496c04869feaafea329c5ae51f6ca793f3c34"), looks := true }, kinds := [], alts := [], laidByText := true, laidKinds := [.data, .data], laidTests := true, laidLooks := .later }
def QuorumMasksUptoCardSaid : Prop := Claim7.holds Tryd.pinned (.plain (OpenSpec.upto quorumMasksSpec)) quorumMasksUptoCard

/-- THE SECOND FORM's CARD OF 'whensteadlaw4.QuorumSays'. -/
def quorumSaysUptoCard : Claim7 := { stood := { row := quorumSaysUptoRow, standIns := [], harness := (true, "6e53e5e2e7f0318059a329c0892496c04869feaafea329c5ae51f6ca793f3c34"), looks := true }, kinds := [], alts := [], laidByText := true, laidKinds := [.data, .data, .handle], laidTests := true, laidLooks := .later }
def QuorumSaysUptoCardSaid : Prop := Claim7.holds Tryd.pinned (.plain (OpenSpec.upto quorumSaysSpec)) quorumSaysUptoCard

/-- THE SECOND FORM's CARD OF 'whensteadlaw4.GeneralAgree'. -/
def generalAgreeUptoCard : Claim7 := { stood := { row := generalAgreeUptoRow, standIns := [], harness := (true, "6e53e5e2e7f0318059a329c0892496c04869feaafea329c5ae51f6ca793f3c34"), looks := true }, kinds := [], alts := [], laidByText := true, laidKinds := [.data, .data], laidTests := true, laidLooks := .later }
def GeneralAgreeUptoCardSaid : Prop := Claim7.holds Tryd.pinned (.plain (OpenSpec.upto generalAgreeSpec)) generalAgreeUptoCard

/-- THE SECOND FORM's CARD OF 'whensteadlaw4.GeneralObey'. -/
def generalObeyUptoCard : Claim7 := { stood := { row := generalObeyUptoRow, standIns := [], harness := (true, "6e53e5e2e7f0318059a329c0892496c04869feaafea329c5ae51f6ca793f3c34"), looks := true }, kinds := [], alts := [], laidByText := true, laidKinds := [.data, .data], laidTests := true, laidLooks := .later }
def GeneralObeyUptoCardSaid : Prop := Claim7.holds Tryd.pinned (.plain (OpenSpec.upto generalObeySpec)) generalObeyUptoCard

/-- THE SECOND FORM's CARD OF 'whensteadlaw4.GeneralHonest'. -/
def generalHonestUptoCard : Claim7 := { stood := { row := generalHonestUptoRow, standIns := [], harness := (true, "6e53e5e2e7f0318059a329c0892496c04869feaafea329c5ae51f6ca793f3c34"), looks := true }, kinds := [], alts := [], laidByText := true, laidKinds := [.data, .data], laidTests := true, laidLooks := .later }
def GeneralHonestUptoCardSaid : Prop := Claim7.holds Tryd.pinned (.plain (OpenSpec.upto generalHonestSpec)) generalHonestUptoCard

/-- THE SECOND FORM's CARD OF 'whensteadlaw4.GeneralSays'. -/
def generalSaysUptoCard : Claim7 := { stood := { row := generalSaysUptoRow, standIns := [], harness := (true, "6e53e5e2e7f0318059a329c0892496c04869feaafea329c5ae51f6ca793f3c34"), looks := true }, kinds := [], alts := [], laidByText := true, laidKinds := [.data, .data, .handle], laidTests := true, laidLooks := .later }
def GeneralSaysUptoCardSaid : Prop := Claim7.holds Tryd.pinned (.plain (OpenSpec.upto generalSaysSpec)) generalSaysUptoCard
end Rows
end Go.Proofs.YtlopkkoenfngiaaDoor
