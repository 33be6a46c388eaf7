/-
  NARROWER THAN 'FOR EVERY INPUT', by the rows' own cells (each row's printed sentence says how): QuorumVotes: laid · QuorumFull: laid · QuorumLeast: laid · QuorumMasks: laid · QuorumSays: laid · GeneralAgree: laid · GeneralObey: laid · GeneralHonest: laid · GeneralSays: laid.
  DERIVED. THE GIVEN ROWS OF THIS SEAT. 9 by the template 'for every input the law returns true; each argument reads behind the call as it read before'; 0 by the template 'total and deterministic' (their statements: YtlopkkoenfngiaaDoorTotals.lean).
  GIVEN WITH THE SEED: the statements are not yours to turn. If you find one false, say at which input.
  Laid BY PROGRAM, IN A SANDBOX (cutbox-rows.mjs): the forced cells as the released guide's own fill.sh prints them over the translation 5fb1e7e5f8650b74… (all of the seat's roots in one cut). By AI agents, Wed Nov 11 2026. No macro, syntax, notation, axiom, sorry.
-/
import Derived.Test.YtlopkkoenfngiaaDoorChecked
import GoSem.Claim
import GoSem.ClaimJoined
import GoSem.ClaimMapViews
import Derived.JoinedTies
import Derived.KernelRfl
namespace Go.Proofs.YtlopkkoenfngiaaDoor
/- THE CELL 'sum', in the pinned program and in every row, IS THE sha256 OF THE DUMP (.gsa) THAT YtlopkkoenfngiaaDoorProg.lean LOADS. Nothing in Lean hashes anything: it is a label: what it is worth is what the hold of that sum in a sandbox is worth. -/
noncomputable def Tryd.pinned : Pinned := { name := "ytlopkkoenfngiaadoor", sum := "5fb1e7e5f8650b74bee0620aecca6e6380059a8a2aef4f2513842c389b965eda", checked := Tryd.checked }
namespace Rows
def none {H : Type} : Left H := { results := [], args := [] }

/- WHAT THE LISTED PACKAGE-LEVEL VARIABLES READ AS WHEN THE CALL BEGINS. Each datum BY PROGRAM (the guide's laid-datum.mjs) off the statement by which the dump's own 'gosem.cut.vars' lays the variable. In a bare row this is a premise. The card (YtlopkkoenfngiaaDoorCards.lean) ties it to the program's text. -/
def laid_math_bits_deBruijn32tab {H : Type} : DataW H := .agg [.lit (.int .u8 0), .lit (.int .u8 1), .lit (.int .u8 28), .lit (.int .u8 2), .lit (.int .u8 29), .lit (.int .u8 14), .lit (.int .u8 24), .lit (.int .u8 3), .lit (.int .u8 30), .lit (.int .u8 22), .lit (.int .u8 20), .lit (.int .u8 15), .lit (.int .u8 25), .lit (.int .u8 17), .lit (.int .u8 4), .lit (.int .u8 8), .lit (.int .u8 31), .lit (.int .u8 27), .lit (.int .u8 13), .lit (.int .u8 23), .lit (.int .u8 21), .lit (.int .u8 19), .lit (.int .u8 16), .lit (.int .u8 7), .lit (.int .u8 26), .lit (.int .u8 12), .lit (.int .u8 18), .lit (.int .u8 6), .lit (.int .u8 11), .lit (.int .u8 5), .lit (.int .u8 10), .lit (.int .u8 9)]
def laid_math_bits_deBruijn64tab {H : Type} : DataW H := .agg [.lit (.int .u8 0), .lit (.int .u8 1), .lit (.int .u8 56), .lit (.int .u8 2), .lit (.int .u8 57), .lit (.int .u8 49), .lit (.int .u8 28), .lit (.int .u8 3), .lit (.int .u8 61), .lit (.int .u8 58), .lit (.int .u8 42), .lit (.int .u8 50), .lit (.int .u8 38), .lit (.int .u8 29), .lit (.int .u8 17), .lit (.int .u8 4), .lit (.int .u8 62), .lit (.int .u8 47), .lit (.int .u8 59), .lit (.int .u8 36), .lit (.int .u8 45), .lit (.int .u8 43), .lit (.int .u8 51), .lit (.int .u8 22), .lit (.int .u8 53), .lit (.int .u8 39), .lit (.int .u8 33), .lit (.int .u8 30), .lit (.int .u8 24), .lit (.int .u8 18), .lit (.int .u8 12), .lit (.int .u8 5), .lit (.int .u8 63), .lit (.int .u8 55), .lit (.int .u8 48), .lit (.int .u8 27), .lit (.int .u8 60), .lit (.int .u8 41), .lit (.int .u8 37), .lit (.int .u8 16), .lit (.int .u8 46), .lit (.int .u8 35), .lit (.int .u8 44), .lit (.int .u8 21), .lit (.int .u8 52), .lit (.int .u8 32), .lit (.int .u8 23), .lit (.int .u8 11), .lit (.int .u8 54), .lit (.int .u8 26), .lit (.int .u8 40), .lit (.int .u8 15), .lit (.int .u8 34), .lit (.int .u8 20), .lit (.int .u8 31), .lit (.int .u8 10), .lit (.int .u8 25), .lit (.int .u8 14), .lit (.int .u8 19), .lit (.int .u8 9), .lit (.int .u8 13), .lit (.int .u8 8), .lit (.int .u8 7), .lit (.int .u8 6)]
def laid_errors_errorType {H : Type} : DataW H := .iface "internal/reflectlite.rtype" (.agg [.ptr (.lit (.string [101, 114, 114, 111, 114]))])

/-- 'whensteadlaw4.QuorumVotes': WHATEVER THE INPUT: true; the input reads as it did. -/
def quorumVotesSpec : ChangeSpec := { name := "quorumVotes", fn := fun _ => fun
  | [d1, d2] => { results := [.lit (.bool true)], args := [d1, d2] }
  | _ => none }
def quorumVotesRow : OpenClaim := { program := "ytlopkkoenfngiaadoor", sum := "5fb1e7e5f8650b74bee0620aecca6e6380059a8a2aef4f2513842c389b965eda", func := "whenstead/whensteadlaw4.QuorumVotes", spec := "quorumVotes", unfollowed := true, recurses := true, named := ["math/bits.deBruijn32tab", "math/bits.deBruijn64tab"], apart := false, laid := [("math/bits.deBruijn32tab", laid_math_bits_deBruijn32tab), ("math/bits.deBruijn64tab", laid_math_bits_deBruijn64tab)] }
def QuorumVotesSaid : Prop := quorumVotesRow.holds Tryd.pinned (OpenSpec.ofChange quorumVotesSpec)

/-- ITS FALSE NEIGHBOUR: 'it returns false'. Refute it at one input. -/
def quorumVotesWrong : ChangeSpec := { name := "quorumVotes", fn := fun _ => fun
  | [d1, d2] => { results := [.lit (.bool false)], args := [d1, d2] }
  | _ => none }
def QuorumVotesWrongFalsely : Prop := quorumVotesRow.holds Tryd.pinned (OpenSpec.ofChange quorumVotesWrong)

/-- 'whensteadlaw4.QuorumFull': WHATEVER THE INPUT: true; the input reads as it did. -/
def quorumFullSpec : ChangeSpec := { name := "quorumFull", fn := fun _ => fun
  | [d1, d2, d3] => { results := [.lit (.bool true)], args := [d1, d2, d3] }
  | _ => none }
def quorumFullRow : OpenClaim := { program := "ytlopkkoenfngiaadoor", sum := "5fb1e7e5f8650b74bee0620aecca6e6380059a8a2aef4f2513842c389b965eda", func := "whenstead/whensteadlaw4.QuorumFull", spec := "quorumFull", unfollowed := true, recurses := true, named := ["math/bits.deBruijn32tab", "math/bits.deBruijn64tab"], apart := false, laid := [("math/bits.deBruijn32tab", laid_math_bits_deBruijn32tab), ("math/bits.deBruijn64tab", laid_math_bits_deBruijn64tab)] }
def QuorumFullSaid : Prop := quorumFullRow.holds Tryd.pinned (OpenSpec.ofChange quorumFullSpec)

/-- ITS FALSE NEIGHBOUR: 'it returns false'. Refute it at one input. -/
def quorumFullWrong : ChangeSpec := { name := "quorumFull", fn := fun _ => fun
  | [d1, d2, d3] => { results := [.lit (.bool false)], args := [d1, d2, d3] }
  | _ => none }
def QuorumFullWrongFalsely : Prop := quorumFullRow.holds Tryd.pinned (OpenSpec.ofChange quorumFullWrong)

/-- 'whensteadlaw4.QuorumLeast': WHATEVER THE INPUT: true; the input reads as it did. -/
def quorumLeastSpec : ChangeSpec := { name := "quorumLeast", fn := fun _ => fun
  | [d1, d2, d3] => { results := [.lit (.bool true)], args := [d1, d2, d3] }
  | _ => none }
def quorumLeastRow : OpenClaim := { program := "ytlopkkoenfngiaadoor", sum := "5fb1e7e5f8650b74bee0620aecca6e6380059a8a2aef4f2513842c389b965eda", func := "whenstead/whensteadlaw4.QuorumLeast", spec := "quorumLeast", unfollowed := true, recurses := true, named := ["math/bits.deBruijn32tab", "math/bits.deBruijn64tab"], apart := false, laid := [("math/bits.deBruijn32tab", laid_math_bits_deBruijn32tab), ("math/bits.deBruijn64tab", laid_math_bits_deBruijn64tab)] }
def QuorumLeastSaid : Prop := quorumLeastRow.holds Tryd.pinned (OpenSpec.ofChange quorumLeastSpec)

/-- ITS FALSE NEIGHBOUR: 'it returns false'. Refute it at one input. -/
def quorumLeastWrong : ChangeSpec := { name := "quorumLeast", fn := fun _ => fun
  | [d1, d2, d3] => { results := [.lit (.bool false)], args := [d1, d2, d3] }
  | _ => none }
def QuorumLeastWrongFalsely : Prop := quorumLeastRow.holds Tryd.pinned (OpenSpec.ofChange quorumLeastWrong)

/-- 'whensteadlaw4.QuorumMasks': WHATEVER THE INPUT: true; the input reads as it did. -/
def quorumMasksSpec : ChangeSpec := { name := "quorumMasks", fn := fun _ => fun
  | [d1, d2, d3] => { results := [.lit (.bool true)], args := [d1, d2, d3] }
  | _ => none }
def quorumMasksRow : OpenClaim := { program := "ytlopkkoenfngiaadoor", sum := "5fb1e7e5f8650b74bee0620aecca6e6380059a8a2aef4f2513842c389b965eda", func := "whenstead/whensteadlaw4.QuorumMasks", spec := "quorumMasks", unfollowed := true, recurses := true, named := ["math/bits.deBruijn32tab", "math/bits.deBruijn64tab"], apart := false, laid := [("math/bits.deBruijn32tab", laid_math_bits_deBruijn32tab), ("math/bits.deBruijn64tab", laid_math_bits_deBruijn64tab)] }
def QuorumMasksSaid : Prop := quorumMasksRow.holds Tryd.pinned (OpenSpec.ofChange quorumMasksSpec)

/-- ITS FALSE NEIGHBOUR: 'it returns false'. Refute it at one input. -/
def quorumMasksWrong : ChangeSpec := { name := "quorumMasks", fn := fun _ => fun
  | [d1, d2, d3] => { results := [.lit (.bool false)], args := [d1, d2, d3] }
  | _ => none }
def QuorumMasksWrongFalsely : Prop := quorumMasksRow.holds Tryd.pinned (OpenSpec.ofChange quorumMasksWrong)

/-- 'whensteadlaw4.QuorumSays': WHATEVER THE INPUT: true; the input reads as it did. -/
def quorumSaysSpec : ChangeSpec := { name := "quorumSays", fn := fun _ => fun
  | [d1, d2, d3, d4, d5] => { results := [.lit (.bool true)], args := [d1, d2, d3, d4, d5] }
  | _ => none }
def quorumSaysRow : OpenClaim := { program := "ytlopkkoenfngiaadoor", sum := "5fb1e7e5f8650b74bee0620aecca6e6380059a8a2aef4f2513842c389b965eda", func := "whenstead/whensteadlaw4.QuorumSays", spec := "quorumSays", inPlace := ["internal/reflectlite.ValueOf", "(internal/reflectlite.Value).Type", "(internal/reflectlite.Value).IsNil", "internal/reflectlite.TypeOf", "(internal/reflectlite.Value).Elem", "(internal/reflectlite.Value).Set"], unfollowed := true, recurses := true, named := ["errors.errorType", "math/bits.deBruijn32tab", "math/bits.deBruijn64tab"], apart := false, laid := [("math/bits.deBruijn32tab", laid_math_bits_deBruijn32tab), ("math/bits.deBruijn64tab", laid_math_bits_deBruijn64tab), ("errors.errorType", laid_errors_errorType)] }
def QuorumSaysSaid : Prop := quorumSaysRow.holds Tryd.pinned (OpenSpec.ofChange quorumSaysSpec)

/-- ITS FALSE NEIGHBOUR: 'it returns false'. Refute it at one input. -/
def quorumSaysWrong : ChangeSpec := { name := "quorumSays", fn := fun _ => fun
  | [d1, d2, d3, d4, d5] => { results := [.lit (.bool false)], args := [d1, d2, d3, d4, d5] }
  | _ => none }
def QuorumSaysWrongFalsely : Prop := quorumSaysRow.holds Tryd.pinned (OpenSpec.ofChange quorumSaysWrong)

/-- 'whensteadlaw4.GeneralAgree': WHATEVER THE INPUT: true; the input reads as it did. -/
def generalAgreeSpec : ChangeSpec := { name := "generalAgree", fn := fun _ => fun
  | [d1, d2, d3, d4, d5] => { results := [.lit (.bool true)], args := [d1, d2, d3, d4, d5] }
  | _ => none }
def generalAgreeRow : OpenClaim := { program := "ytlopkkoenfngiaadoor", sum := "5fb1e7e5f8650b74bee0620aecca6e6380059a8a2aef4f2513842c389b965eda", func := "whenstead/whensteadlaw4.GeneralAgree", spec := "generalAgree", unfollowed := true, recurses := true, named := ["math/bits.deBruijn32tab", "math/bits.deBruijn64tab"], apart := false, laid := [("math/bits.deBruijn32tab", laid_math_bits_deBruijn32tab), ("math/bits.deBruijn64tab", laid_math_bits_deBruijn64tab)] }
def GeneralAgreeSaid : Prop := generalAgreeRow.holds Tryd.pinned (OpenSpec.ofChange generalAgreeSpec)

/-- ITS FALSE NEIGHBOUR: 'it returns false'. Refute it at one input. -/
def generalAgreeWrong : ChangeSpec := { name := "generalAgree", fn := fun _ => fun
  | [d1, d2, d3, d4, d5] => { results := [.lit (.bool false)], args := [d1, d2, d3, d4, d5] }
  | _ => none }
def GeneralAgreeWrongFalsely : Prop := generalAgreeRow.holds Tryd.pinned (OpenSpec.ofChange generalAgreeWrong)

/-- 'whensteadlaw4.GeneralObey': WHATEVER THE INPUT: true; the input reads as it did. -/
def generalObeySpec : ChangeSpec := { name := "generalObey", fn := fun _ => fun
  | [d1, d2, d3, d4, d5] => { results := [.lit (.bool true)], args := [d1, d2, d3, d4, d5] }
  | _ => none }
def generalObeyRow : OpenClaim := { program := "ytlopkkoenfngiaadoor", sum := "5fb1e7e5f8650b74bee0620aecca6e6380059a8a2aef4f2513842c389b965eda", func := "whenstead/whensteadlaw4.GeneralObey", spec := "generalObey", unfollowed := true, recurses := true, named := ["math/bits.deBruijn32tab", "math/bits.deBruijn64tab"], apart := false, laid := [("math/bits.deBruijn32tab", laid_math_bits_deBruijn32tab), ("math/bits.deBruijn64tab", laid_math_bits_deBruijn64tab)] }
def GeneralObeySaid : Prop := generalObeyRow.holds Tryd.pinned (OpenSpec.ofChange generalObeySpec)

/-- ITS FALSE NEIGHBOUR: 'it returns false'. Refute it at one input. -/
def generalObeyWrong : ChangeSpec := { name := "generalObey", fn := fun _ => fun
  | [d1, d2, d3, d4, d5] => { results := [.lit (.bool false)], args := [d1, d2, d3, d4, d5] }
  | _ => none }
def GeneralObeyWrongFalsely : Prop := generalObeyRow.holds Tryd.pinned (OpenSpec.ofChange generalObeyWrong)

/-- 'whensteadlaw4.GeneralHonest': WHATEVER THE INPUT: true; the input reads as it did. -/
def generalHonestSpec : ChangeSpec := { name := "generalHonest", fn := fun _ => fun
  | [d1, d2, d3, d4] => { results := [.lit (.bool true)], args := [d1, d2, d3, d4] }
  | _ => none }
def generalHonestRow : OpenClaim := { program := "ytlopkkoenfngiaadoor", sum := "5fb1e7e5f8650b74bee0620aecca6e6380059a8a2aef4f2513842c389b965eda", func := "whenstead/whensteadlaw4.GeneralHonest", spec := "generalHonest", unfollowed := true, recurses := true, named := ["math/bits.deBruijn32tab", "math/bits.deBruijn64tab"], apart := false, laid := [("math/bits.deBruijn32tab", laid_math_bits_deBruijn32tab), ("math/bits.deBruijn64tab", laid_math_bits_deBruijn64tab)] }
def GeneralHonestSaid : Prop := generalHonestRow.holds Tryd.pinned (OpenSpec.ofChange generalHonestSpec)

/-- ITS FALSE NEIGHBOUR: 'it returns false'. Refute it at one input. -/
def generalHonestWrong : ChangeSpec := { name := "generalHonest", fn := fun _ => fun
  | [d1, d2, d3, d4] => { results := [.lit (.bool false)], args := [d1, d2, d3, d4] }
  | _ => none }
def GeneralHonestWrongFalsely : Prop := generalHonestRow.holds Tryd.pinned (OpenSpec.ofChange generalHonestWrong)

/-- 'whensteadlaw4.GeneralSays': WHATEVER THE INPUT: true; the input reads as it did. -/
def generalSaysSpec : ChangeSpec := { name := "generalSays", fn := fun _ => fun
  | [d1, d2, d3, d4, d5] => { results := [.lit (.bool true)], args := [d1, d2, d3, d4, d5] }
  | _ => none }
def generalSaysRow : OpenClaim := { program := "ytlopkkoenfngiaadoor", sum := "5fb1e7e5f8650b74bee0620aecca6e6380059a8a2aef4f2513842c389b965eda", func := "whenstead/whensteadlaw4.GeneralSays", spec := "generalSays", inPlace := ["internal/reflectlite.ValueOf", "(internal/reflectlite.Value).Type", "(internal/reflectlite.Value).IsNil", "internal/reflectlite.TypeOf", "(internal/reflectlite.Value).Elem", "(internal/reflectlite.Value).Set"], unfollowed := true, recurses := true, named := ["errors.errorType", "math/bits.deBruijn32tab", "math/bits.deBruijn64tab"], apart := false, laid := [("math/bits.deBruijn32tab", laid_math_bits_deBruijn32tab), ("math/bits.deBruijn64tab", laid_math_bits_deBruijn64tab), ("errors.errorType", laid_errors_errorType)] }
def GeneralSaysSaid : Prop := generalSaysRow.holds Tryd.pinned (OpenSpec.ofChange generalSaysSpec)

/-- ITS FALSE NEIGHBOUR: 'it returns false'. Refute it at one input. -/
def generalSaysWrong : ChangeSpec := { name := "generalSays", fn := fun _ => fun
  | [d1, d2, d3, d4, d5] => { results := [.lit (.bool false)], args := [d1, d2, d3, d4, d5] }
  | _ => none }
def GeneralSaysWrongFalsely : Prop := generalSaysRow.holds Tryd.pinned (OpenSpec.ofChange generalSaysWrong)

/- THE SECOND FORM. 'bulk': how many values and letters a reading holds, each counted each time it is reached (what is shared counts as often as it is met; a slice's spare places count too). A statement '..UptoSaid' is the law's where the arguments, and the package variables that the reading takes, are together of bulk at most 1048576: NARROWER than '..Said'. Prove '..Said' where nothing that the law and all that it calls make is longer than what came in: it says more and counts as full. Else prove '..UptoSaid'. A law counts once. -/
mutual
def uptoBulk {H : Type} : DataW H → Nat
  | .lit (.string bytes) => bytes.length + 1
  | .lit _ => 1
  | .nil => 1
  | .ptr d => uptoBulk d + 1
  | .slice elems spare => uptoBulkAll elems + uptoBulkAll spare + 1
  | .agg parts => uptoBulkAll parts + 1
  | .iface _ d => uptoBulk d + 1
  | .map entries => uptoBulkEntries entries + 1
  | .held _ => 1
def uptoBulkAll {H : Type} : List (DataW H) → Nat
  | [] => 0
  | d :: r => uptoBulk d + uptoBulkAll r
def uptoBulkEntries {H : Type} : List (Lit × DataW H) → Nat
  | [] => 0
  | x :: r => uptoBulkEntry x + uptoBulkEntries r
def uptoBulkEntry {H : Type} : Lit × DataW H → Nat
  | (.string bytes, d) => bytes.length + uptoBulk d + 1
  | (_, d) => uptoBulk d + 1
 end
def uptoSmall : (H : Type) → List (DataW H) → Bool := fun _ ds => decide (uptoBulkAll ds ≤ 1048576)
def OpenSpec.upto (s : _root_.Go.ChangeSpec) : _root_.Go.OpenSpec := { _root_.Go.OpenSpec.ofChange s with cond := some uptoSmall }

/-- 'whensteadlaw4.QuorumVotes', WHERE WHAT IT READS IS OF BULK AT MOST 1048576: true; the input reads as it did. -/
def quorumVotesUptoRow : OpenClaim := { program := "ytlopkkoenfngiaadoor", sum := "5fb1e7e5f8650b74bee0620aecca6e6380059a8a2aef4f2513842c389b965eda", func := "whenstead/whensteadlaw4.QuorumVotes", spec := "quorumVotes", unfollowed := true, recurses := true, named := ["math/bits.deBruijn32tab", "math/bits.deBruijn64tab"], apart := false, laid := [("math/bits.deBruijn32tab", laid_math_bits_deBruijn32tab), ("math/bits.deBruijn64tab", laid_math_bits_deBruijn64tab)], narrowed := true }
def QuorumVotesUptoSaid : Prop := quorumVotesUptoRow.holds Tryd.pinned (OpenSpec.upto quorumVotesSpec)

/-- 'whensteadlaw4.QuorumFull', WHERE WHAT IT READS IS OF BULK AT MOST 1048576: true; the input reads as it did. -/
def quorumFullUptoRow : OpenClaim := { program := "ytlopkkoenfngiaadoor", sum := "5fb1e7e5f8650b74bee0620aecca6e6380059a8a2aef4f2513842c389b965eda", func := "whenstead/whensteadlaw4.QuorumFull", spec := "quorumFull", unfollowed := true, recurses := true, named := ["math/bits.deBruijn32tab", "math/bits.deBruijn64tab"], apart := false, laid := [("math/bits.deBruijn32tab", laid_math_bits_deBruijn32tab), ("math/bits.deBruijn64tab", laid_math_bits_deBruijn64tab)], narrowed := true }
def QuorumFullUptoSaid : Prop := quorumFullUptoRow.holds Tryd.pinned (OpenSpec.upto quorumFullSpec)

/-- 'whensteadlaw4.QuorumLeast', WHERE WHAT IT READS IS OF BULK AT MOST 1048576: true; the input reads as it did. -/
def quorumLeastUptoRow : OpenClaim := { program := "ytlopkkoenfngiaadoor", sum := "5fb1e7e5f8650b74bee0620aecca6e6380059a8a2aef4f2513842c389b965eda", func := "whenstead/whensteadlaw4.QuorumLeast", spec := "quorumLeast", unfollowed := true, recurses := true, named := ["math/bits.deBruijn32tab", "math/bits.deBruijn64tab"], apart := false, laid := [("math/bits.deBruijn32tab", laid_math_bits_deBruijn32tab), ("math/bits.deBruijn64tab", laid_math_bits_deBruijn64tab)], narrowed := true }
def QuorumLeastUptoSaid : Prop := quorumLeastUptoRow.holds Tryd.pinned (OpenSpec.upto quorumLeastSpec)

/-- 'whensteadlaw4.QuorumMasks', WHERE WHAT IT READS IS OF BULK AT MOST 1048576: true; the input reads as it did. -/
def quorumMasksUptoRow : OpenClaim := { program := "ytlopkkoenfngiaadoor", sum := "5fb1e7e5f8650b74bee0620aecca6e6380059a8a2aef4f2513842c389b965eda", func := "whenstead/whensteadlaw4.QuorumMasks", spec := "quorumMasks", unfollowed := true, recurses := true, named := ["math/bits.deBruijn32tab", "math/bits.deBruijn64tab"], apart := false, laid := [("math/bits.deBruijn32tab", laid_math_bits_deBruijn32tab), ("math/bits.deBruijn64tab", laid_math_bits_deBruijn64tab)], narrowed := true }
def QuorumMasksUptoSaid : Prop := quorumMasksUptoRow.holds Tryd.pinned (OpenSpec.upto quorumMasksSpec)

/-- 'whensteadlaw4.QuorumSays', WHERE WHAT IT READS IS OF BULK AT MOST 1048576: true; the input reads as it did. -/
def quorumSaysUptoRow : OpenClaim := { program := "ytlopkkoenfngiaadoor", sum := "5fb1e7e5f8650b74bee0620aecca6e6380059a8a2aef4f2513842c389b965eda", func := "whenstead/whensteadlaw4.QuorumSays", spec := "quorumSays", inPlace := ["internal/reflectlite.ValueOf", "(internal/reflectlite.Value).Type", "(internal/reflectlite.Value).IsNil", "internal/reflectlite.TypeOf", "(internal/reflectlite.Value).Elem", "(internal/reflectlite.Value).Set"], unfollowed := true, recurses := true, named := ["errors.errorType", "math/bits.deBruijn32tab", "math/bits.deBruijn64tab"], apart := false, laid := [("math/bits.deBruijn32tab", laid_math_bits_deBruijn32tab), ("math/bits.deBruijn64tab", laid_math_bits_deBruijn64tab), ("errors.errorType", laid_errors_errorType)], narrowed := true }
def QuorumSaysUptoSaid : Prop := quorumSaysUptoRow.holds Tryd.pinned (OpenSpec.upto quorumSaysSpec)

/-- 'whensteadlaw4.GeneralAgree', WHERE WHAT IT READS IS OF BULK AT MOST 1048576: true; the input reads as it did. -/
def generalAgreeUptoRow : OpenClaim := { program := "ytlopkkoenfngiaadoor", sum := "5fb1e7e5f8650b74bee0620aecca6e6380059a8a2aef4f2513842c389b965eda", func := "whenstead/whensteadlaw4.GeneralAgree", spec := "generalAgree", unfollowed := true, recurses := true, named := ["math/bits.deBruijn32tab", "math/bits.deBruijn64tab"], apart := false, laid := [("math/bits.deBruijn32tab", laid_math_bits_deBruijn32tab), ("math/bits.deBruijn64tab", laid_math_bits_deBruijn64tab)], narrowed := true }
def GeneralAgreeUptoSaid : Prop := generalAgreeUptoRow.holds Tryd.pinned (OpenSpec.upto generalAgreeSpec)

/-- 'whensteadlaw4.GeneralObey', WHERE WHAT IT READS IS OF BULK AT MOST 1048576: true; the input reads as it did. -/
def generalObeyUptoRow : OpenClaim := { program := "ytlopkkoenfngiaadoor", sum := "5fb1e7e5f8650b74bee0620aecca6e6380059a8a2aef4f2513842c389b965eda", func := "whenstead/whensteadlaw4.GeneralObey", spec := "generalObey", unfollowed := true, recurses := true, named := ["math/bits.deBruijn32tab", "math/bits.deBruijn64tab"], apart := false, laid := [("math/bits.deBruijn32tab", laid_math_bits_deBruijn32tab), ("math/bits.deBruijn64tab", laid_math_bits_deBruijn64tab)], narrowed := true }
def GeneralObeyUptoSaid : Prop := generalObeyUptoRow.holds Tryd.pinned (OpenSpec.upto generalObeySpec)

/-- 'whensteadlaw4.GeneralHonest', WHERE WHAT IT READS IS OF BULK AT MOST 1048576: true; the input reads as it did. -/
def generalHonestUptoRow : OpenClaim := { program := "ytlopkkoenfngiaadoor", sum := "5fb1e7e5f8650b74bee0620aecca6e6380059a8a2aef4f2513842c389b965eda", func := "whenstead/whensteadlaw4.GeneralHonest", spec := "generalHonest", unfollowed := true, recurses := true, named := ["math/bits.deBruijn32tab", "math/bits.deBruijn64tab"], apart := false, laid := [("math/bits.deBruijn32tab", laid_math_bits_deBruijn32tab), ("math/bits.deBruijn64tab", laid_math_bits_deBruijn64tab)], narrowed := true }
def GeneralHonestUptoSaid : Prop := generalHonestUptoRow.holds Tryd.pinned (OpenSpec.upto generalHonestSpec)

/-- 'whensteadlaw4.GeneralSays', WHERE WHAT IT READS IS OF BULK AT MOST 1048576: true; the input reads as it did. -/
def generalSaysUptoRow : OpenClaim := { program := "ytlopkkoenfngiaadoor", sum := "5fb1e7e5f8650b74bee0620aecca6e6380059a8a2aef4f2513842c389b965eda", func := "whenstead/whensteadlaw4.GeneralSays", spec := "generalSays", inPlace := ["internal/reflectlite.ValueOf", "(internal/reflectlite.Value).Type", "(internal/reflectlite.Value).IsNil", "internal/reflectlite.TypeOf", "(internal/reflectlite.Value).Elem", "(internal/reflectlite.Value).Set"], unfollowed := true, recurses := true, named := ["errors.errorType", "math/bits.deBruijn32tab", "math/bits.deBruijn64tab"], apart := false, laid := [("math/bits.deBruijn32tab", laid_math_bits_deBruijn32tab), ("math/bits.deBruijn64tab", laid_math_bits_deBruijn64tab), ("errors.errorType", laid_errors_errorType)], narrowed := true }
def GeneralSaysUptoSaid : Prop := generalSaysUptoRow.holds Tryd.pinned (OpenSpec.upto generalSaysSpec)

end Rows
end Go.Proofs.YtlopkkoenfngiaaDoor
