/-
  NARROWER THAN 'FOR EVERY INPUT', by the rows' own cells (each row's printed sentence says how): TraceSays: laid · HybridSays: laid · CutCount: laid · CutSays: laid · StampSays: laid.
  DERIVED. THE GIVEN ROWS OF THIS SEAT. 5 by the template 'for every input the law returns true; each argument reads behind the call as it read before'; 0 by the template 'total and deterministic' (their statements: YtbpoeigaoakdiaaDoorTotals.lean).
  GIVEN WITH THE SEED: the statements are not yours to turn. If you find one false, say at which input.
  Laid BY PROGRAM, IN A SANDBOX (cutbox-rows.mjs): the forced cells as the released guide's own fill.sh prints them over the translation df7f541293d52c15… (all of the seat's roots in one cut). By AI agents, Wed Nov 11 2026. No macro, syntax, notation, axiom, sorry.
-/
import Derived.Test.YtbpoeigaoakdiaaDoorChecked
import GoSem.Claim
import GoSem.ClaimJoined
import GoSem.ClaimMapViews
import Derived.JoinedTies
import Derived.KernelRfl
namespace Go.Proofs.YtbpoeigaoakdiaaDoor
/- THE CELL 'sum', in the pinned program and in every row, IS THE sha256 OF THE DUMP (.gsa) THAT YtbpoeigaoakdiaaDoorProg.lean LOADS. Nothing in Lean hashes anything: it is a label: what it is worth is what the hold of that sum in a sandbox is worth. -/
noncomputable def Tryd.pinned : Pinned := { name := "ytbpoeigaoakdiaadoor", sum := "df7f541293d52c158aed8624c463550598e5fb84fe4dc478049e79ac946c5415", checked := Tryd.checked }
namespace Rows
def none {H : Type} : Left H := { results := [], args := [] }

/- WHAT THE LISTED PACKAGE-LEVEL VARIABLES READ AS WHEN THE CALL BEGINS. Each datum BY PROGRAM (the guide's laid-datum.mjs) off the statement by which the dump's own 'gosem.cut.vars' lays the variable. In a bare row this is a premise. The card (YtbpoeigaoakdiaaDoorCards.lean) ties it to the program's text. -/
def laid_errors_errorType {H : Type} : DataW H := .iface "internal/reflectlite.rtype" (.agg [.ptr (.lit (.string [101, 114, 114, 111, 114]))])
def laid_math_bits_deBruijn32tab {H : Type} : DataW H := .agg [.lit (.int .u8 0), .lit (.int .u8 1), .lit (.int .u8 28), .lit (.int .u8 2), .lit (.int .u8 29), .lit (.int .u8 14), .lit (.int .u8 24), .lit (.int .u8 3), .lit (.int .u8 30), .lit (.int .u8 22), .lit (.int .u8 20), .lit (.int .u8 15), .lit (.int .u8 25), .lit (.int .u8 17), .lit (.int .u8 4), .lit (.int .u8 8), .lit (.int .u8 31), .lit (.int .u8 27), .lit (.int .u8 13), .lit (.int .u8 23), .lit (.int .u8 21), .lit (.int .u8 19), .lit (.int .u8 16), .lit (.int .u8 7), .lit (.int .u8 26), .lit (.int .u8 12), .lit (.int .u8 18), .lit (.int .u8 6), .lit (.int .u8 11), .lit (.int .u8 5), .lit (.int .u8 10), .lit (.int .u8 9)]
def laid_math_bits_deBruijn64tab {H : Type} : DataW H := .agg [.lit (.int .u8 0), .lit (.int .u8 1), .lit (.int .u8 56), .lit (.int .u8 2), .lit (.int .u8 57), .lit (.int .u8 49), .lit (.int .u8 28), .lit (.int .u8 3), .lit (.int .u8 61), .lit (.int .u8 58), .lit (.int .u8 42), .lit (.int .u8 50), .lit (.int .u8 38), .lit (.int .u8 29), .lit (.int .u8 17), .lit (.int .u8 4), .lit (.int .u8 62), .lit (.int .u8 47), .lit (.int .u8 59), .lit (.int .u8 36), .lit (.int .u8 45), .lit (.int .u8 43), .lit (.int .u8 51), .lit (.int .u8 22), .lit (.int .u8 53), .lit (.int .u8 39), .lit (.int .u8 33), .lit (.int .u8 30), .lit (.int .u8 24), .lit (.int .u8 18), .lit (.int .u8 12), .lit (.int .u8 5), .lit (.int .u8 63), .lit (.int .u8 55), .lit (.int .u8 48), .lit (.int .u8 27), .lit (.int .u8 60), .lit (.int .u8 41), .lit (.int .u8 37), .lit (.int .u8 16), .lit (.int .u8 46), .lit (.int .u8 35), .lit (.int .u8 44), .lit (.int .u8 21), .lit (.int .u8 52), .lit (.int .u8 32), .lit (.int .u8 23), .lit (.int .u8 11), .lit (.int .u8 54), .lit (.int .u8 26), .lit (.int .u8 40), .lit (.int .u8 15), .lit (.int .u8 34), .lit (.int .u8 20), .lit (.int .u8 31), .lit (.int .u8 10), .lit (.int .u8 25), .lit (.int .u8 14), .lit (.int .u8 19), .lit (.int .u8 9), .lit (.int .u8 13), .lit (.int .u8 8), .lit (.int .u8 7), .lit (.int .u8 6)]

/-- 'whensteadlaw2.TraceSays': WHATEVER THE INPUT: true; the input reads as it did. -/
def traceSaysSpec : ChangeSpec := { name := "traceSays", fn := fun _ => fun
  | [d1, d2, d3] => { results := [.lit (.bool true)], args := [d1, d2, d3] }
  | _ => none }
def traceSaysRow : OpenClaim := { program := "ytbpoeigaoakdiaadoor", sum := "df7f541293d52c158aed8624c463550598e5fb84fe4dc478049e79ac946c5415", func := "whenstead/whensteadlaw2.TraceSays", spec := "traceSays", inPlace := ["internal/reflectlite.ValueOf", "(internal/reflectlite.Value).Type", "(internal/reflectlite.Value).IsNil", "internal/reflectlite.TypeOf", "(internal/reflectlite.Value).Elem", "(internal/reflectlite.Value).Set"], unfollowed := true, recurses := true, named := ["errors.errorType"], plainKeys := false, apart := false, laid := [("errors.errorType", laid_errors_errorType)] }
def TraceSaysSaid : Prop := traceSaysRow.holds Tryd.pinned (OpenSpec.ofChange traceSaysSpec)

/-- ITS FALSE NEIGHBOUR: 'it returns false'. Refute it at one input. -/
def traceSaysWrong : ChangeSpec := { name := "traceSays", fn := fun _ => fun
  | [d1, d2, d3] => { results := [.lit (.bool false)], args := [d1, d2, d3] }
  | _ => none }
def TraceSaysWrongFalsely : Prop := traceSaysRow.holds Tryd.pinned (OpenSpec.ofChange traceSaysWrong)

/-- 'whensteadlaw2.HybridSays': WHATEVER THE INPUT: true; the input reads as it did. -/
def hybridSaysSpec : ChangeSpec := { name := "hybridSays", fn := fun _ => fun
  | [d1, d2, d3, d4] => { results := [.lit (.bool true)], args := [d1, d2, d3, d4] }
  | _ => none }
def hybridSaysRow : OpenClaim := { program := "ytbpoeigaoakdiaadoor", sum := "df7f541293d52c158aed8624c463550598e5fb84fe4dc478049e79ac946c5415", func := "whenstead/whensteadlaw2.HybridSays", spec := "hybridSays", inPlace := ["internal/reflectlite.ValueOf", "(internal/reflectlite.Value).Type", "(internal/reflectlite.Value).IsNil", "internal/reflectlite.TypeOf", "(internal/reflectlite.Value).Elem", "(internal/reflectlite.Value).Set"], unfollowed := true, recurses := true, named := ["errors.errorType"], plainKeys := false, apart := false, laid := [("errors.errorType", laid_errors_errorType)] }
def HybridSaysSaid : Prop := hybridSaysRow.holds Tryd.pinned (OpenSpec.ofChange hybridSaysSpec)

/-- ITS FALSE NEIGHBOUR: 'it returns false'. Refute it at one input. -/
def hybridSaysWrong : ChangeSpec := { name := "hybridSays", fn := fun _ => fun
  | [d1, d2, d3, d4] => { results := [.lit (.bool false)], args := [d1, d2, d3, d4] }
  | _ => none }
def HybridSaysWrongFalsely : Prop := hybridSaysRow.holds Tryd.pinned (OpenSpec.ofChange hybridSaysWrong)

/-- 'whensteadlaw2.CutCount': WHATEVER THE INPUT: true; the input reads as it did. -/
def cutCountSpec : ChangeSpec := { name := "cutCount", fn := fun _ => fun
  | [d] => { results := [.lit (.bool true)], args := [d] }
  | _ => none }
def cutCountRow : OpenClaim := { program := "ytbpoeigaoakdiaadoor", sum := "df7f541293d52c158aed8624c463550598e5fb84fe4dc478049e79ac946c5415", func := "whenstead/whensteadlaw2.CutCount", spec := "cutCount", unfollowed := true, recurses := true, named := ["math/bits.deBruijn32tab", "math/bits.deBruijn64tab"], plainKeys := false, apart := false, laid := [("math/bits.deBruijn32tab", laid_math_bits_deBruijn32tab), ("math/bits.deBruijn64tab", laid_math_bits_deBruijn64tab)] }
def CutCountSaid : Prop := cutCountRow.holds Tryd.pinned (OpenSpec.ofChange cutCountSpec)

/-- ITS FALSE NEIGHBOUR: 'it returns false'. Refute it at one input. -/
def cutCountWrong : ChangeSpec := { name := "cutCount", fn := fun _ => fun
  | [d] => { results := [.lit (.bool false)], args := [d] }
  | _ => none }
def CutCountWrongFalsely : Prop := cutCountRow.holds Tryd.pinned (OpenSpec.ofChange cutCountWrong)

/-- 'whensteadlaw2.CutSays': WHATEVER THE INPUT: true; the input reads as it did. -/
def cutSaysSpec : ChangeSpec := { name := "cutSays", fn := fun _ => fun
  | [d1, d2] => { results := [.lit (.bool true)], args := [d1, d2] }
  | _ => none }
def cutSaysRow : OpenClaim := { program := "ytbpoeigaoakdiaadoor", sum := "df7f541293d52c158aed8624c463550598e5fb84fe4dc478049e79ac946c5415", func := "whenstead/whensteadlaw2.CutSays", spec := "cutSays", inPlace := ["internal/reflectlite.ValueOf", "(internal/reflectlite.Value).Type", "(internal/reflectlite.Value).IsNil", "internal/reflectlite.TypeOf", "(internal/reflectlite.Value).Elem", "(internal/reflectlite.Value).Set"], unfollowed := true, recurses := true, named := ["math/bits.deBruijn32tab", "math/bits.deBruijn64tab", "errors.errorType"], plainKeys := false, apart := false, laid := [("math/bits.deBruijn32tab", laid_math_bits_deBruijn32tab), ("math/bits.deBruijn64tab", laid_math_bits_deBruijn64tab), ("errors.errorType", laid_errors_errorType)] }
def CutSaysSaid : Prop := cutSaysRow.holds Tryd.pinned (OpenSpec.ofChange cutSaysSpec)

/-- ITS FALSE NEIGHBOUR: 'it returns false'. Refute it at one input. -/
def cutSaysWrong : ChangeSpec := { name := "cutSays", fn := fun _ => fun
  | [d1, d2] => { results := [.lit (.bool false)], args := [d1, d2] }
  | _ => none }
def CutSaysWrongFalsely : Prop := cutSaysRow.holds Tryd.pinned (OpenSpec.ofChange cutSaysWrong)

/-- 'whensteadlaw2.StampSays': WHATEVER THE INPUT: true; the input reads as it did. -/
def stampSaysSpec : ChangeSpec := { name := "stampSays", fn := fun _ => fun
  | [d1, d2, d3] => { results := [.lit (.bool true)], args := [d1, d2, d3] }
  | _ => none }
def stampSaysRow : OpenClaim := { program := "ytbpoeigaoakdiaadoor", sum := "df7f541293d52c158aed8624c463550598e5fb84fe4dc478049e79ac946c5415", func := "whenstead/whensteadlaw2.StampSays", spec := "stampSays", inPlace := ["internal/reflectlite.ValueOf", "(internal/reflectlite.Value).Type", "(internal/reflectlite.Value).IsNil", "internal/reflectlite.TypeOf", "(internal/reflectlite.Value).Elem", "(internal/reflectlite.Value).Set"], unfollowed := true, recurses := true, named := ["errors.errorType"], plainKeys := false, apart := false, laid := [("errors.errorType", laid_errors_errorType)] }
def StampSaysSaid : Prop := stampSaysRow.holds Tryd.pinned (OpenSpec.ofChange stampSaysSpec)

/-- ITS FALSE NEIGHBOUR: 'it returns false'. Refute it at one input. -/
def stampSaysWrong : ChangeSpec := { name := "stampSays", fn := fun _ => fun
  | [d1, d2, d3] => { results := [.lit (.bool false)], args := [d1, d2, d3] }
  | _ => none }
def StampSaysWrongFalsely : Prop := stampSaysRow.holds Tryd.pinned (OpenSpec.ofChange stampSaysWrong)

/- THE SECOND FORM. 'bulk': how many values and letters a reading holds, each counted each time it is reached (what is shared counts as often as it is met; a slice's spare places count too). A statement '..UptoSaid' is the law's where the arguments, and the package variables that the reading takes, are together of bulk at most 1048576: NARROWER than '..Said'. Prove '..Said' where nothing that the law and all that it calls make is longer than what came in: it says more and counts as full. Else prove '..UptoSaid'. A law counts once. -/
mutual
def uptoBulk {H : Type} : DataW H → Nat
  | .lit (.string bytes) => bytes.length + 1
  | .lit _ => 1
  | .nil => 1
  | .ptr d => uptoBulk d + 1
  | .slice elems spare => uptoBulkAll elems + uptoBulkAll spare + 1
  | .agg parts => uptoBulkAll parts + 1
  | .iface _ d => uptoBulk d + 1
  | .map entries => uptoBulkEntries entries + 1
  | .held _ => 1
def uptoBulkAll {H : Type} : List (DataW H) → Nat
  | [] => 0
  | d :: r => uptoBulk d + uptoBulkAll r
def uptoBulkEntries {H : Type} : List (Lit × DataW H) → Nat
  | [] => 0
  | x :: r => uptoBulkEntry x + uptoBulkEntries r
def uptoBulkEntry {H : Type} : Lit × DataW H → Nat
  | (.string bytes, d) => bytes.length + uptoBulk d + 1
  | (_, d) => uptoBulk d + 1
 end
def uptoSmall : (H : Type) → List (DataW H) → Bool := fun _ ds => decide (uptoBulkAll ds ≤ 1048576)
def OpenSpec.upto (s : _root_.Go.ChangeSpec) : _root_.Go.OpenSpec := { _root_.Go.OpenSpec.ofChange s with cond := some uptoSmall }

/-- 'whensteadlaw2.TraceSays', WHERE WHAT IT READS IS OF BULK AT MOST 1048576: true; the input reads as it did. -/
def traceSaysUptoRow : OpenClaim := { program := "ytbpoeigaoakdiaadoor", sum := "df7f541293d52c158aed8624c463550598e5fb84fe4dc478049e79ac946c5415", func := "whenstead/whensteadlaw2.TraceSays", spec := "traceSays", inPlace := ["internal/reflectlite.ValueOf", "(internal/reflectlite.Value).Type", "(internal/reflectlite.Value).IsNil", "internal/reflectlite.TypeOf", "(internal/reflectlite.Value).Elem", "(internal/reflectlite.Value).Set"], unfollowed := true, recurses := true, named := ["errors.errorType"], plainKeys := false, apart := false, laid := [("errors.errorType", laid_errors_errorType)], narrowed := true }
def TraceSaysUptoSaid : Prop := traceSaysUptoRow.holds Tryd.pinned (OpenSpec.upto traceSaysSpec)

/-- 'whensteadlaw2.HybridSays', WHERE WHAT IT READS IS OF BULK AT MOST 1048576: true; the input reads as it did. -/
def hybridSaysUptoRow : OpenClaim := { program := "ytbpoeigaoakdiaadoor", sum := "df7f541293d52c158aed8624c463550598e5fb84fe4dc478049e79ac946c5415", func := "whenstead/whensteadlaw2.HybridSays", spec := "hybridSays", inPlace := ["internal/reflectlite.ValueOf", "(internal/reflectlite.Value).Type", "(internal/reflectlite.Value).IsNil", "internal/reflectlite.TypeOf", "(internal/reflectlite.Value).Elem", "(internal/reflectlite.Value).Set"], unfollowed := true, recurses := true, named := ["errors.errorType"], plainKeys := false, apart := false, laid := [("errors.errorType", laid_errors_errorType)], narrowed := true }
def HybridSaysUptoSaid : Prop := hybridSaysUptoRow.holds Tryd.pinned (OpenSpec.upto hybridSaysSpec)

/-- 'whensteadlaw2.CutCount', WHERE WHAT IT READS IS OF BULK AT MOST 1048576: true; the input reads as it did. -/
def cutCountUptoRow : OpenClaim := { program := "ytbpoeigaoakdiaadoor", sum := "df7f541293d52c158aed8624c463550598e5fb84fe4dc478049e79ac946c5415", func := "whenstead/whensteadlaw2.CutCount", spec := "cutCount", unfollowed := true, recurses := true, named := ["math/bits.deBruijn32tab", "math/bits.deBruijn64tab"], plainKeys := false, apart := false, laid := [("math/bits.deBruijn32tab", laid_math_bits_deBruijn32tab), ("math/bits.deBruijn64tab", laid_math_bits_deBruijn64tab)], narrowed := true }
def CutCountUptoSaid : Prop := cutCountUptoRow.holds Tryd.pinned (OpenSpec.upto cutCountSpec)

/-- 'whensteadlaw2.CutSays', WHERE WHAT IT READS IS OF BULK AT MOST 1048576: true; the input reads as it did. -/
def cutSaysUptoRow : OpenClaim := { program := "ytbpoeigaoakdiaadoor", sum := "df7f541293d52c158aed8624c463550598e5fb84fe4dc478049e79ac946c5415", func := "whenstead/whensteadlaw2.CutSays", spec := "cutSays", inPlace := ["internal/reflectlite.ValueOf", "(internal/reflectlite.Value).Type", "(internal/reflectlite.Value).IsNil", "internal/reflectlite.TypeOf", "(internal/reflectlite.Value).Elem", "(internal/reflectlite.Value).Set"], unfollowed := true, recurses := true, named := ["math/bits.deBruijn32tab", "math/bits.deBruijn64tab", "errors.errorType"], plainKeys := false, apart := false, laid := [("math/bits.deBruijn32tab", laid_math_bits_deBruijn32tab), ("math/bits.deBruijn64tab", laid_math_bits_deBruijn64tab), ("errors.errorType", laid_errors_errorType)], narrowed := true }
def CutSaysUptoSaid : Prop := cutSaysUptoRow.holds Tryd.pinned (OpenSpec.upto cutSaysSpec)

/-- 'whensteadlaw2.StampSays', WHERE WHAT IT READS IS OF BULK AT MOST 1048576: true; the input reads as it did. -/
def stampSaysUptoRow : OpenClaim := { program := "ytbpoeigaoakdiaadoor", sum := "df7f541293d52c158aed8624c463550598e5fb84fe4dc478049e79ac946c5415", func := "whenstead/whensteadlaw2.StampSays", spec := "stampSays", inPlace := ["internal/reflectlite.ValueOf", "(internal/reflectlite.Value).Type", "(internal/reflectlite.Value).IsNil", "internal/reflectlite.TypeOf", "(internal/reflectlite.Value).Elem", "(internal/reflectlite.Value).Set"], unfollowed := true, recurses := true, named := ["errors.errorType"], plainKeys := false, apart := false, laid := [("errors.errorType", laid_errors_errorType)], narrowed := true }
def StampSaysUptoSaid : Prop := stampSaysUptoRow.holds Tryd.pinned (OpenSpec.upto stampSaysSpec)

end Rows
end Go.Proofs.YtbpoeigaoakdiaaDoor
