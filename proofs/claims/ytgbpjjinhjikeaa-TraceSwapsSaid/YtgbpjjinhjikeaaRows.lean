/-
  No cell of these rows narrows 'for every input' (looked for: loops, veiled, ifaces, maps, wideKeys, modest, calm, conditions, laid).
  DERIVED. THE GIVEN ROWS OF THIS SEAT. 7 by the template 'for every input the law returns true; each argument reads behind the call as it read before'; 0 by the template 'total and deterministic' (their statements: YtgbpjjinhjikeaaTotals.lean).
  GIVEN WITH THE SEED: the statements are not yours to turn. If you find one false, say at which input.
  Laid BY PROGRAM, IN A SANDBOX (cutbox-rows.mjs): the forced cells as the released guide's own fill.sh prints them over the translation 61887d0e0cca927b… (all of the seat's roots in one cut). By AI agents, Wed Nov 11 2026. No macro, syntax, notation, axiom, sorry.
-/
import Derived.Test.YtgbpjjinhjikeaaChecked
import GoSem.Claim
import GoSem.ClaimJoined
import GoSem.ClaimMapViews
import Derived.JoinedTies
import Derived.KernelRfl
namespace Go.Proofs.Ytgbpjjinhjikeaa
/- THE CELL 'sum', in the pinned program and in every row, IS THE sha256 OF THE DUMP (.gsa) THAT YtgbpjjinhjikeaaProg.lean LOADS. Nothing in Lean hashes anything: it is a label: what it is worth is what the hold of that sum in a sandbox is worth. -/
noncomputable def Try.pinned : Pinned := { name := "ytgbpjjinhjikeaa", sum := "61887d0e0cca927ba2af07226a302454458865e64252554c843d457d37f42ff3", checked := Try.checked }
namespace Rows
def none {H : Type} : Left H := { results := [], args := [] }

/-- 'whensteadlaw2.TraceBefore': WHATEVER THE INPUT: true; the input reads as it did. -/
def traceBeforeSpec : ChangeSpec := { name := "traceBefore", fn := fun _ => fun
  | [d1, d2] => { results := [.lit (.bool true)], args := [d1, d2] }
  | _ => none }
def traceBeforeRow : OpenClaim := { program := "ytgbpjjinhjikeaa", sum := "61887d0e0cca927ba2af07226a302454458865e64252554c843d457d37f42ff3", func := "whenstead/whensteadlaw2.TraceBefore", spec := "traceBefore", plainKeys := false, apart := false }
def TraceBeforeSaid : Prop := traceBeforeRow.holds Try.pinned (OpenSpec.ofChange traceBeforeSpec)

/-- ITS FALSE NEIGHBOUR: 'it returns false'. Refute it at one input. -/
def traceBeforeWrong : ChangeSpec := { name := "traceBefore", fn := fun _ => fun
  | [d1, d2] => { results := [.lit (.bool false)], args := [d1, d2] }
  | _ => none }
def TraceBeforeWrongFalsely : Prop := traceBeforeRow.holds Try.pinned (OpenSpec.ofChange traceBeforeWrong)

/-- 'whensteadlaw2.TraceSwaps': WHATEVER THE INPUT: true; the input reads as it did. -/
def traceSwapsSpec : ChangeSpec := { name := "traceSwaps", fn := fun _ => fun
  | [d1, d2] => { results := [.lit (.bool true)], args := [d1, d2] }
  | _ => none }
def traceSwapsRow : OpenClaim := { program := "ytgbpjjinhjikeaa", sum := "61887d0e0cca927ba2af07226a302454458865e64252554c843d457d37f42ff3", func := "whenstead/whensteadlaw2.TraceSwaps", spec := "traceSwaps", plainKeys := false, apart := false }
def TraceSwapsSaid : Prop := traceSwapsRow.holds Try.pinned (OpenSpec.ofChange traceSwapsSpec)

/-- ITS FALSE NEIGHBOUR: 'it returns false'. Refute it at one input. -/
def traceSwapsWrong : ChangeSpec := { name := "traceSwaps", fn := fun _ => fun
  | [d1, d2] => { results := [.lit (.bool false)], args := [d1, d2] }
  | _ => none }
def TraceSwapsWrongFalsely : Prop := traceSwapsRow.holds Try.pinned (OpenSpec.ofChange traceSwapsWrong)

/-- 'whensteadlaw2.HybridLate': WHATEVER THE INPUT: true; the input reads as it did. -/
def hybridLateSpec : ChangeSpec := { name := "hybridLate", fn := fun _ => fun
  | [d1, d2, d3] => { results := [.lit (.bool true)], args := [d1, d2, d3] }
  | _ => none }
def hybridLateRow : OpenClaim := { program := "ytgbpjjinhjikeaa", sum := "61887d0e0cca927ba2af07226a302454458865e64252554c843d457d37f42ff3", func := "whenstead/whensteadlaw2.HybridLate", spec := "hybridLate", plainKeys := false, apart := false }
def HybridLateSaid : Prop := hybridLateRow.holds Try.pinned (OpenSpec.ofChange hybridLateSpec)

/-- ITS FALSE NEIGHBOUR: 'it returns false'. Refute it at one input. -/
def hybridLateWrong : ChangeSpec := { name := "hybridLate", fn := fun _ => fun
  | [d1, d2, d3] => { results := [.lit (.bool false)], args := [d1, d2, d3] }
  | _ => none }
def HybridLateWrongFalsely : Prop := hybridLateRow.holds Try.pinned (OpenSpec.ofChange hybridLateWrong)

/-- 'whensteadlaw2.HybridTrue': WHATEVER THE INPUT: true; the input reads as it did. -/
def hybridTrueSpec : ChangeSpec := { name := "hybridTrue", fn := fun _ => fun
  | [d1, d2] => { results := [.lit (.bool true)], args := [d1, d2] }
  | _ => none }
def hybridTrueRow : OpenClaim := { program := "ytgbpjjinhjikeaa", sum := "61887d0e0cca927ba2af07226a302454458865e64252554c843d457d37f42ff3", func := "whenstead/whensteadlaw2.HybridTrue", spec := "hybridTrue", plainKeys := false, apart := false }
def HybridTrueSaid : Prop := hybridTrueRow.holds Try.pinned (OpenSpec.ofChange hybridTrueSpec)

/-- ITS FALSE NEIGHBOUR: 'it returns false'. Refute it at one input. -/
def hybridTrueWrong : ChangeSpec := { name := "hybridTrue", fn := fun _ => fun
  | [d1, d2] => { results := [.lit (.bool false)], args := [d1, d2] }
  | _ => none }
def HybridTrueWrongFalsely : Prop := hybridTrueRow.holds Try.pinned (OpenSpec.ofChange hybridTrueWrong)

/-- 'whensteadlaw2.HybridBefore': WHATEVER THE INPUT: true; the input reads as it did. -/
def hybridBeforeSpec : ChangeSpec := { name := "hybridBefore", fn := fun _ => fun
  | [d1, d2, d3, d4] => { results := [.lit (.bool true)], args := [d1, d2, d3, d4] }
  | _ => none }
def hybridBeforeRow : OpenClaim := { program := "ytgbpjjinhjikeaa", sum := "61887d0e0cca927ba2af07226a302454458865e64252554c843d457d37f42ff3", func := "whenstead/whensteadlaw2.HybridBefore", spec := "hybridBefore", plainKeys := false, apart := false }
def HybridBeforeSaid : Prop := hybridBeforeRow.holds Try.pinned (OpenSpec.ofChange hybridBeforeSpec)

/-- ITS FALSE NEIGHBOUR: 'it returns false'. Refute it at one input. -/
def hybridBeforeWrong : ChangeSpec := { name := "hybridBefore", fn := fun _ => fun
  | [d1, d2, d3, d4] => { results := [.lit (.bool false)], args := [d1, d2, d3, d4] }
  | _ => none }
def HybridBeforeWrongFalsely : Prop := hybridBeforeRow.holds Try.pinned (OpenSpec.ofChange hybridBeforeWrong)

/-- 'whensteadlaw2.StampPlain': WHATEVER THE INPUT: true; the input reads as it did. -/
def stampPlainSpec : ChangeSpec := { name := "stampPlain", fn := fun _ => fun
  | [d1, d2, d3] => { results := [.lit (.bool true)], args := [d1, d2, d3] }
  | _ => none }
def stampPlainRow : OpenClaim := { program := "ytgbpjjinhjikeaa", sum := "61887d0e0cca927ba2af07226a302454458865e64252554c843d457d37f42ff3", func := "whenstead/whensteadlaw2.StampPlain", spec := "stampPlain", plainKeys := false, apart := false }
def StampPlainSaid : Prop := stampPlainRow.holds Try.pinned (OpenSpec.ofChange stampPlainSpec)

/-- ITS FALSE NEIGHBOUR: 'it returns false'. Refute it at one input. -/
def stampPlainWrong : ChangeSpec := { name := "stampPlain", fn := fun _ => fun
  | [d1, d2, d3] => { results := [.lit (.bool false)], args := [d1, d2, d3] }
  | _ => none }
def StampPlainWrongFalsely : Prop := stampPlainRow.holds Try.pinned (OpenSpec.ofChange stampPlainWrong)

/-- 'whensteadlaw2.StampVectors': WHATEVER THE INPUT: true; the input reads as it did. -/
def stampVectorsSpec : ChangeSpec := { name := "stampVectors", fn := fun _ => fun
  | [d1, d2, d3] => { results := [.lit (.bool true)], args := [d1, d2, d3] }
  | _ => none }
def stampVectorsRow : OpenClaim := { program := "ytgbpjjinhjikeaa", sum := "61887d0e0cca927ba2af07226a302454458865e64252554c843d457d37f42ff3", func := "whenstead/whensteadlaw2.StampVectors", spec := "stampVectors", plainKeys := false, apart := false }
def StampVectorsSaid : Prop := stampVectorsRow.holds Try.pinned (OpenSpec.ofChange stampVectorsSpec)

/-- ITS FALSE NEIGHBOUR: 'it returns false'. Refute it at one input. -/
def stampVectorsWrong : ChangeSpec := { name := "stampVectors", fn := fun _ => fun
  | [d1, d2, d3] => { results := [.lit (.bool false)], args := [d1, d2, d3] }
  | _ => none }
def StampVectorsWrongFalsely : Prop := stampVectorsRow.holds Try.pinned (OpenSpec.ofChange stampVectorsWrong)

/- THE SECOND FORM. 'bulk': how many values and letters a reading holds, each counted each time it is reached (what is shared counts as often as it is met; a slice's spare places count too). A statement '..UptoSaid' is the law's where the arguments, and the package variables that the reading takes, are together of bulk at most 1048576: NARROWER than '..Said'. Prove '..Said' where nothing that the law and all that it calls make is longer than what came in: it says more and counts as full. Else prove '..UptoSaid'. A law counts once. -/
mutual
def uptoBulk {H : Type} : DataW H → Nat
  | .lit (.string bytes) => bytes.length + 1
  | .lit _ => 1
  | .nil => 1
  | .ptr d => uptoBulk d + 1
  | .slice elems spare => uptoBulkAll elems + uptoBulkAll spare + 1
  | .agg parts => uptoBulkAll parts + 1
  | .iface _ d => uptoBulk d + 1
  | .map entries => uptoBulkEntries entries + 1
  | .held _ => 1
def uptoBulkAll {H : Type} : List (DataW H) → Nat
  | [] => 0
  | d :: r => uptoBulk d + uptoBulkAll r
def uptoBulkEntries {H : Type} : List (Lit × DataW H) → Nat
  | [] => 0
  | x :: r => uptoBulkEntry x + uptoBulkEntries r
def uptoBulkEntry {H : Type} : Lit × DataW H → Nat
  | (.string bytes, d) => bytes.length + uptoBulk d + 1
  | (_, d) => uptoBulk d + 1
 end
def uptoSmall : (H : Type) → List (DataW H) → Bool := fun _ ds => decide (uptoBulkAll ds ≤ 1048576)
def OpenSpec.upto (s : _root_.Go.ChangeSpec) : _root_.Go.OpenSpec := { _root_.Go.OpenSpec.ofChange s with cond := some uptoSmall }

/-- 'whensteadlaw2.TraceBefore', WHERE WHAT IT READS IS OF BULK AT MOST 1048576: true; the input reads as it did. -/
def traceBeforeUptoRow : OpenClaim := { program := "ytgbpjjinhjikeaa", sum := "61887d0e0cca927ba2af07226a302454458865e64252554c843d457d37f42ff3", func := "whenstead/whensteadlaw2.TraceBefore", spec := "traceBefore", plainKeys := false, apart := false, narrowed := true }
def TraceBeforeUptoSaid : Prop := traceBeforeUptoRow.holds Try.pinned (OpenSpec.upto traceBeforeSpec)

/-- 'whensteadlaw2.TraceSwaps', WHERE WHAT IT READS IS OF BULK AT MOST 1048576: true; the input reads as it did. -/
def traceSwapsUptoRow : OpenClaim := { program := "ytgbpjjinhjikeaa", sum := "61887d0e0cca927ba2af07226a302454458865e64252554c843d457d37f42ff3", func := "whenstead/whensteadlaw2.TraceSwaps", spec := "traceSwaps", plainKeys := false, apart := false, narrowed := true }
def TraceSwapsUptoSaid : Prop := traceSwapsUptoRow.holds Try.pinned (OpenSpec.upto traceSwapsSpec)

/-- 'whensteadlaw2.HybridLate', WHERE WHAT IT READS IS OF BULK AT MOST 1048576: true; the input reads as it did. -/
def hybridLateUptoRow : OpenClaim := { program := "ytgbpjjinhjikeaa", sum := "61887d0e0cca927ba2af07226a302454458865e64252554c843d457d37f42ff3", func := "whenstead/whensteadlaw2.HybridLate", spec := "hybridLate", plainKeys := false, apart := false, narrowed := true }
def HybridLateUptoSaid : Prop := hybridLateUptoRow.holds Try.pinned (OpenSpec.upto hybridLateSpec)

/-- 'whensteadlaw2.HybridTrue', WHERE WHAT IT READS IS OF BULK AT MOST 1048576: true; the input reads as it did. -/
def hybridTrueUptoRow : OpenClaim := { program := "ytgbpjjinhjikeaa", sum := "61887d0e0cca927ba2af07226a302454458865e64252554c843d457d37f42ff3", func := "whenstead/whensteadlaw2.HybridTrue", spec := "hybridTrue", plainKeys := false, apart := false, narrowed := true }
def HybridTrueUptoSaid : Prop := hybridTrueUptoRow.holds Try.pinned (OpenSpec.upto hybridTrueSpec)

/-- 'whensteadlaw2.HybridBefore', WHERE WHAT IT READS IS OF BULK AT MOST 1048576: true; the input reads as it did. -/
def hybridBeforeUptoRow : OpenClaim := { program := "ytgbpjjinhjikeaa", sum := "61887d0e0cca927ba2af07226a302454458865e64252554c843d457d37f42ff3", func := "whenstead/whensteadlaw2.HybridBefore", spec := "hybridBefore", plainKeys := false, apart := false, narrowed := true }
def HybridBeforeUptoSaid : Prop := hybridBeforeUptoRow.holds Try.pinned (OpenSpec.upto hybridBeforeSpec)

/-- 'whensteadlaw2.StampPlain', WHERE WHAT IT READS IS OF BULK AT MOST 1048576: true; the input reads as it did. -/
def stampPlainUptoRow : OpenClaim := { program := "ytgbpjjinhjikeaa", sum := "61887d0e0cca927ba2af07226a302454458865e64252554c843d457d37f42ff3", func := "whenstead/whensteadlaw2.StampPlain", spec := "stampPlain", plainKeys := false, apart := false, narrowed := true }
def StampPlainUptoSaid : Prop := stampPlainUptoRow.holds Try.pinned (OpenSpec.upto stampPlainSpec)

/-- 'whensteadlaw2.StampVectors', WHERE WHAT IT READS IS OF BULK AT MOST 1048576: true; the input reads as it did. -/
def stampVectorsUptoRow : OpenClaim := { program := "ytgbpjjinhjikeaa", sum := "61887d0e0cca927ba2af07226a302454458865e64252554c843d457d37f42ff3", func := "whenstead/whensteadlaw2.StampVectors", spec := "stampVectors", plainKeys := false, apart := false, narrowed := true }
def StampVectorsUptoSaid : Prop := stampVectorsUptoRow.holds Try.pinned (OpenSpec.upto stampVectorsSpec)

end Rows
end Go.Proofs.Ytgbpjjinhjikeaa
