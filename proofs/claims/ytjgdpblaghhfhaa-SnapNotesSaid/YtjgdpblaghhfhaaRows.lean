/-
  No cell of these rows narrows 'for every input' (looked for: loops, veiled, ifaces, maps, wideKeys, modest, calm, conditions, laid).
  DERIVED. THE GIVEN ROWS OF THIS SEAT. 7 by the template 'for every input the law returns true; each argument reads behind the call as it read before'; 0 by the template 'total and deterministic' (their statements: YtjgdpblaghhfhaaTotals.lean).
  GIVEN WITH THE SEED: the statements are not yours to turn. If you find one false, say at which input.
  Laid BY PROGRAM, IN A SANDBOX (cutbox-rows.mjs): the forced cells as the released guide's own fill.sh prints them over the translation 7179d9a1b516aeb6… (all of the seat's roots in one cut). By AI agents, Wed Nov 11 2026. No macro, syntax, notation, axiom, sorry.
-/
import Derived.Test.YtjgdpblaghhfhaaChecked
import GoSem.Claim
import GoSem.ClaimJoined
import GoSem.ClaimMapViews
import Derived.JoinedTies
import Derived.KernelRfl
namespace Go.Proofs.Ytjgdpblaghhfhaa
/- THE CELL 'sum', in the pinned program and in every row, IS THE sha256 OF THE DUMP (.gsa) THAT YtjgdpblaghhfhaaProg.lean LOADS. Nothing in Lean hashes anything: it is a label: what it is worth is what the hold of that sum in a sandbox is worth. -/
noncomputable def Try.pinned : Pinned := { name := "ytjgdpblaghhfhaa", sum := "7179d9a1b516aeb6c22db011f9ab80fd86286ddb13f678061d67be889c98ccf6", checked := Try.checked }
namespace Rows
def none {H : Type} : Left H := { results := [], args := [] }

/-- 'whensteadlaw4.VoteAll': WHATEVER THE INPUT: true; the input reads as it did. -/
def voteAllSpec : ChangeSpec := { name := "voteAll", fn := fun _ => fun
  | [d1, d2] => { results := [.lit (.bool true)], args := [d1, d2] }
  | _ => none }
def voteAllRow : OpenClaim := { program := "ytjgdpblaghhfhaa", sum := "7179d9a1b516aeb6c22db011f9ab80fd86286ddb13f678061d67be889c98ccf6", func := "whenstead/whensteadlaw4.VoteAll", spec := "voteAll", apart := false }
def VoteAllSaid : Prop := voteAllRow.holds Try.pinned (OpenSpec.ofChange voteAllSpec)

/-- ITS FALSE NEIGHBOUR: 'it returns false'. Refute it at one input. -/
def voteAllWrong : ChangeSpec := { name := "voteAll", fn := fun _ => fun
  | [d1, d2] => { results := [.lit (.bool false)], args := [d1, d2] }
  | _ => none }
def VoteAllWrongFalsely : Prop := voteAllRow.holds Try.pinned (OpenSpec.ofChange voteAllWrong)

/-- 'whensteadlaw4.VoteStays': WHATEVER THE INPUT: true; the input reads as it did. -/
def voteStaysSpec : ChangeSpec := { name := "voteStays", fn := fun _ => fun
  | [d1, d2] => { results := [.lit (.bool true)], args := [d1, d2] }
  | _ => none }
def voteStaysRow : OpenClaim := { program := "ytjgdpblaghhfhaa", sum := "7179d9a1b516aeb6c22db011f9ab80fd86286ddb13f678061d67be889c98ccf6", func := "whenstead/whensteadlaw4.VoteStays", spec := "voteStays", apart := false }
def VoteStaysSaid : Prop := voteStaysRow.holds Try.pinned (OpenSpec.ofChange voteStaysSpec)

/-- ITS FALSE NEIGHBOUR: 'it returns false'. Refute it at one input. -/
def voteStaysWrong : ChangeSpec := { name := "voteStays", fn := fun _ => fun
  | [d1, d2] => { results := [.lit (.bool false)], args := [d1, d2] }
  | _ => none }
def VoteStaysWrongFalsely : Prop := voteStaysRow.holds Try.pinned (OpenSpec.ofChange voteStaysWrong)

/-- 'whensteadlaw2.TableSound': WHATEVER THE INPUT: true; the input reads as it did. -/
def tableSoundSpec : ChangeSpec := { name := "tableSound", fn := fun _ => fun
  | [d1, d2] => { results := [.lit (.bool true)], args := [d1, d2] }
  | _ => none }
def tableSoundRow : OpenClaim := { program := "ytjgdpblaghhfhaa", sum := "7179d9a1b516aeb6c22db011f9ab80fd86286ddb13f678061d67be889c98ccf6", func := "whenstead/whensteadlaw2.TableSound", spec := "tableSound", apart := false }
def TableSoundSaid : Prop := tableSoundRow.holds Try.pinned (OpenSpec.ofChange tableSoundSpec)

/-- ITS FALSE NEIGHBOUR: 'it returns false'. Refute it at one input. -/
def tableSoundWrong : ChangeSpec := { name := "tableSound", fn := fun _ => fun
  | [d1, d2] => { results := [.lit (.bool false)], args := [d1, d2] }
  | _ => none }
def TableSoundWrongFalsely : Prop := tableSoundRow.holds Try.pinned (OpenSpec.ofChange tableSoundWrong)

/-- 'whensteadlaw2.TableAll': WHATEVER THE INPUT: true; the input reads as it did. -/
def tableAllSpec : ChangeSpec := { name := "tableAll", fn := fun _ => fun
  | [d1, d2] => { results := [.lit (.bool true)], args := [d1, d2] }
  | _ => none }
def tableAllRow : OpenClaim := { program := "ytjgdpblaghhfhaa", sum := "7179d9a1b516aeb6c22db011f9ab80fd86286ddb13f678061d67be889c98ccf6", func := "whenstead/whensteadlaw2.TableAll", spec := "tableAll", apart := false }
def TableAllSaid : Prop := tableAllRow.holds Try.pinned (OpenSpec.ofChange tableAllSpec)

/-- ITS FALSE NEIGHBOUR: 'it returns false'. Refute it at one input. -/
def tableAllWrong : ChangeSpec := { name := "tableAll", fn := fun _ => fun
  | [d1, d2] => { results := [.lit (.bool false)], args := [d1, d2] }
  | _ => none }
def TableAllWrongFalsely : Prop := tableAllRow.holds Try.pinned (OpenSpec.ofChange tableAllWrong)

/-- 'whensteadlaw2.SnapKeeps': WHATEVER THE INPUT: true; the input reads as it did. -/
def snapKeepsSpec : ChangeSpec := { name := "snapKeeps", fn := fun _ => fun
  | [d1, d2] => { results := [.lit (.bool true)], args := [d1, d2] }
  | _ => none }
def snapKeepsRow : OpenClaim := { program := "ytjgdpblaghhfhaa", sum := "7179d9a1b516aeb6c22db011f9ab80fd86286ddb13f678061d67be889c98ccf6", func := "whenstead/whensteadlaw2.SnapKeeps", spec := "snapKeeps", apart := false }
def SnapKeepsSaid : Prop := snapKeepsRow.holds Try.pinned (OpenSpec.ofChange snapKeepsSpec)

/-- ITS FALSE NEIGHBOUR: 'it returns false'. Refute it at one input. -/
def snapKeepsWrong : ChangeSpec := { name := "snapKeeps", fn := fun _ => fun
  | [d1, d2] => { results := [.lit (.bool false)], args := [d1, d2] }
  | _ => none }
def SnapKeepsWrongFalsely : Prop := snapKeepsRow.holds Try.pinned (OpenSpec.ofChange snapKeepsWrong)

/-- 'whensteadlaw2.SnapNotes': WHATEVER THE INPUT: true; the input reads as it did. -/
def snapNotesSpec : ChangeSpec := { name := "snapNotes", fn := fun _ => fun
  | [d1, d2] => { results := [.lit (.bool true)], args := [d1, d2] }
  | _ => none }
def snapNotesRow : OpenClaim := { program := "ytjgdpblaghhfhaa", sum := "7179d9a1b516aeb6c22db011f9ab80fd86286ddb13f678061d67be889c98ccf6", func := "whenstead/whensteadlaw2.SnapNotes", spec := "snapNotes", apart := false }
def SnapNotesSaid : Prop := snapNotesRow.holds Try.pinned (OpenSpec.ofChange snapNotesSpec)

/-- ITS FALSE NEIGHBOUR: 'it returns false'. Refute it at one input. -/
def snapNotesWrong : ChangeSpec := { name := "snapNotes", fn := fun _ => fun
  | [d1, d2] => { results := [.lit (.bool false)], args := [d1, d2] }
  | _ => none }
def SnapNotesWrongFalsely : Prop := snapNotesRow.holds Try.pinned (OpenSpec.ofChange snapNotesWrong)

/-- 'whensteadlaw2.SnapEnds': WHATEVER THE INPUT: true; the input reads as it did. -/
def snapEndsSpec : ChangeSpec := { name := "snapEnds", fn := fun _ => fun
  | [d1, d2] => { results := [.lit (.bool true)], args := [d1, d2] }
  | _ => none }
def snapEndsRow : OpenClaim := { program := "ytjgdpblaghhfhaa", sum := "7179d9a1b516aeb6c22db011f9ab80fd86286ddb13f678061d67be889c98ccf6", func := "whenstead/whensteadlaw2.SnapEnds", spec := "snapEnds", apart := false }
def SnapEndsSaid : Prop := snapEndsRow.holds Try.pinned (OpenSpec.ofChange snapEndsSpec)

/-- ITS FALSE NEIGHBOUR: 'it returns false'. Refute it at one input. -/
def snapEndsWrong : ChangeSpec := { name := "snapEnds", fn := fun _ => fun
  | [d1, d2] => { results := [.lit (.bool false)], args := [d1, d2] }
  | _ => none }
def SnapEndsWrongFalsely : Prop := snapEndsRow.holds Try.pinned (OpenSpec.ofChange snapEndsWrong)

/- THE SECOND FORM. 'bulk': how many values and letters a reading holds, each counted each time it is reached (what is shared counts as often as it is met; a slice's spare places count too). A statement '..UptoSaid' is the law's where the arguments, and the package variables that the reading takes, are together of bulk at most 1048576: NARROWER than '..Said'. Prove '..Said' where nothing that the law and all that it calls make is longer than what came in: it says more and counts as full. Else prove '..UptoSaid'. A law counts once. -/
mutual
def uptoBulk {H : Type} : DataW H → Nat
  | .lit (.string bytes) => bytes.length + 1
  | .lit _ => 1
  | .nil => 1
  | .ptr d => uptoBulk d + 1
  | .slice elems spare => uptoBulkAll elems + uptoBulkAll spare + 1
  | .agg parts => uptoBulkAll parts + 1
  | .iface _ d => uptoBulk d + 1
  | .map entries => uptoBulkEntries entries + 1
  | .held _ => 1
def uptoBulkAll {H : Type} : List (DataW H) → Nat
  | [] => 0
  | d :: r => uptoBulk d + uptoBulkAll r
def uptoBulkEntries {H : Type} : List (Lit × DataW H) → Nat
  | [] => 0
  | x :: r => uptoBulkEntry x + uptoBulkEntries r
def uptoBulkEntry {H : Type} : Lit × DataW H → Nat
  | (.string bytes, d) => bytes.length + uptoBulk d + 1
  | (_, d) => uptoBulk d + 1
 end
def uptoSmall : (H : Type) → List (DataW H) → Bool := fun _ ds => decide (uptoBulkAll ds ≤ 1048576)
def OpenSpec.upto (s : _root_.Go.ChangeSpec) : _root_.Go.OpenSpec := { _root_.Go.OpenSpec.ofChange s with cond := some uptoSmall }

/-- 'whensteadlaw4.VoteAll', WHERE WHAT IT READS IS OF BULK AT MOST 1048576: true; the input reads as it did. -/
def voteAllUptoRow : OpenClaim := { program := "ytjgdpblaghhfhaa", sum := "7179d9a1b516aeb6c22db011f9ab80fd86286ddb13f678061d67be889c98ccf6", func := "whenstead/whensteadlaw4.VoteAll", spec := "voteAll", apart := false, narrowed := true }
def VoteAllUptoSaid : Prop := voteAllUptoRow.holds Try.pinned (OpenSpec.upto voteAllSpec)

/-- 'whensteadlaw4.VoteStays', WHERE WHAT IT READS IS OF BULK AT MOST 1048576: true; the input reads as it did. -/
def voteStaysUptoRow : OpenClaim := { program := "ytjgdpblaghhfhaa", sum := "7179d9a1b516aeb6c22db011f9ab80fd86286ddb13f678061d67be889c98ccf6", func := "whenstead/whensteadlaw4.VoteStays", spec := "voteStays", apart := false, narrowed := true }
def VoteStaysUptoSaid : Prop := voteStaysUptoRow.holds Try.pinned (OpenSpec.upto voteStaysSpec)

/-- 'whensteadlaw2.TableSound', WHERE WHAT IT READS IS OF BULK AT MOST 1048576: true; the input reads as it did. -/
def tableSoundUptoRow : OpenClaim := { program := "ytjgdpblaghhfhaa", sum := "7179d9a1b516aeb6c22db011f9ab80fd86286ddb13f678061d67be889c98ccf6", func := "whenstead/whensteadlaw2.TableSound", spec := "tableSound", apart := false, narrowed := true }
def TableSoundUptoSaid : Prop := tableSoundUptoRow.holds Try.pinned (OpenSpec.upto tableSoundSpec)

/-- 'whensteadlaw2.TableAll', WHERE WHAT IT READS IS OF BULK AT MOST 1048576: true; the input reads as it did. -/
def tableAllUptoRow : OpenClaim := { program := "ytjgdpblaghhfhaa", sum := "7179d9a1b516aeb6c22db011f9ab80fd86286ddb13f678061d67be889c98ccf6", func := "whenstead/whensteadlaw2.TableAll", spec := "tableAll", apart := false, narrowed := true }
def TableAllUptoSaid : Prop := tableAllUptoRow.holds Try.pinned (OpenSpec.upto tableAllSpec)

/-- 'whensteadlaw2.SnapKeeps', WHERE WHAT IT READS IS OF BULK AT MOST 1048576: true; the input reads as it did. -/
def snapKeepsUptoRow : OpenClaim := { program := "ytjgdpblaghhfhaa", sum := "7179d9a1b516aeb6c22db011f9ab80fd86286ddb13f678061d67be889c98ccf6", func := "whenstead/whensteadlaw2.SnapKeeps", spec := "snapKeeps", apart := false, narrowed := true }
def SnapKeepsUptoSaid : Prop := snapKeepsUptoRow.holds Try.pinned (OpenSpec.upto snapKeepsSpec)

/-- 'whensteadlaw2.SnapNotes', WHERE WHAT IT READS IS OF BULK AT MOST 1048576: true; the input reads as it did. -/
def snapNotesUptoRow : OpenClaim := { program := "ytjgdpblaghhfhaa", sum := "7179d9a1b516aeb6c22db011f9ab80fd86286ddb13f678061d67be889c98ccf6", func := "whenstead/whensteadlaw2.SnapNotes", spec := "snapNotes", apart := false, narrowed := true }
def SnapNotesUptoSaid : Prop := snapNotesUptoRow.holds Try.pinned (OpenSpec.upto snapNotesSpec)

/-- 'whensteadlaw2.SnapEnds', WHERE WHAT IT READS IS OF BULK AT MOST 1048576: true; the input reads as it did. -/
def snapEndsUptoRow : OpenClaim := { program := "ytjgdpblaghhfhaa", sum := "7179d9a1b516aeb6c22db011f9ab80fd86286ddb13f678061d67be889c98ccf6", func := "whenstead/whensteadlaw2.SnapEnds", spec := "snapEnds", apart := false, narrowed := true }
def SnapEndsUptoSaid : Prop := snapEndsUptoRow.holds Try.pinned (OpenSpec.upto snapEndsSpec)

end Rows
end Go.Proofs.Ytjgdpblaghhfhaa
