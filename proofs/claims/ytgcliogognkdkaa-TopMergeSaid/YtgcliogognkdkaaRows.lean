/-
  No cell of these rows narrows 'for every input' (looked for: loops, veiled, ifaces, maps, wideKeys, modest, calm, conditions, laid).
  DERIVED. THE GIVEN ROWS OF THIS SEAT. 7 by the template 'for every input the law returns true; each argument reads behind the call as it read before'; 0 by the template 'total and deterministic' (their statements: YtgcliogognkdkaaTotals.lean).
  GIVEN WITH THE SEED: the statements are not yours to turn. If you find one false, say at which input.
  Laid BY PROGRAM, IN A SANDBOX (cutbox-rows.mjs): the forced cells as the released guide's own fill.sh prints them over the translation deb81821c83d0b30… (all of the seat's roots in one cut). By AI agents, Wed Nov 11 2026. No macro, syntax, notation, axiom, sorry.
-/
import Derived.Test.YtgcliogognkdkaaChecked
import GoSem.Claim
import GoSem.ClaimJoined
import GoSem.ClaimMapViews
import Derived.JoinedTies
import Derived.KernelRfl
namespace Go.Proofs.Ytgcliogognkdkaa
/- THE CELL 'sum', in the pinned program and in every row, IS THE sha256 OF THE DUMP (.gsa) THAT YtgcliogognkdkaaProg.lean LOADS. Nothing in Lean hashes anything: it is a label: what it is worth is what the hold of that sum in a sandbox is worth. -/
noncomputable def Try.pinned : Pinned := { name := "ytgcliogognkdkaa", sum := "deb81821c83d0b3051856aab20af72285da0d01c9f8813693f1667b4ab7131c0", checked := Try.checked }
namespace Rows
def none {H : Type} : Left H := { results := [], args := [] }

/-- 'whensteadlaw4.MergeJoins': WHATEVER THE INPUT: true; the input reads as it did. -/
def mergeJoinsSpec : ChangeSpec := { name := "mergeJoins", fn := fun _ => fun
  | [d1, d2, d3] => { results := [.lit (.bool true)], args := [d1, d2, d3] }
  | _ => none }
def mergeJoinsRow : OpenClaim := { program := "ytgcliogognkdkaa", sum := "deb81821c83d0b3051856aab20af72285da0d01c9f8813693f1667b4ab7131c0", func := "whenstead/whensteadlaw4.MergeJoins", spec := "mergeJoins", unfollowed := true, recurses := true, apart := false }
def MergeJoinsSaid : Prop := mergeJoinsRow.holds Try.pinned (OpenSpec.ofChange mergeJoinsSpec)

/-- ITS FALSE NEIGHBOUR: 'it returns false'. Refute it at one input. -/
def mergeJoinsWrong : ChangeSpec := { name := "mergeJoins", fn := fun _ => fun
  | [d1, d2, d3] => { results := [.lit (.bool false)], args := [d1, d2, d3] }
  | _ => none }
def MergeJoinsWrongFalsely : Prop := mergeJoinsRow.holds Try.pinned (OpenSpec.ofChange mergeJoinsWrong)

/-- 'whensteadlaw4.MergeAdds': WHATEVER THE INPUT: true; the input reads as it did. -/
def mergeAddsSpec : ChangeSpec := { name := "mergeAdds", fn := fun _ => fun
  | [d1, d2, d3, d4] => { results := [.lit (.bool true)], args := [d1, d2, d3, d4] }
  | _ => none }
def mergeAddsRow : OpenClaim := { program := "ytgcliogognkdkaa", sum := "deb81821c83d0b3051856aab20af72285da0d01c9f8813693f1667b4ab7131c0", func := "whenstead/whensteadlaw4.MergeAdds", spec := "mergeAdds", unfollowed := true, recurses := true, apart := false }
def MergeAddsSaid : Prop := mergeAddsRow.holds Try.pinned (OpenSpec.ofChange mergeAddsSpec)

/-- ITS FALSE NEIGHBOUR: 'it returns false'. Refute it at one input. -/
def mergeAddsWrong : ChangeSpec := { name := "mergeAdds", fn := fun _ => fun
  | [d1, d2, d3, d4] => { results := [.lit (.bool false)], args := [d1, d2, d3, d4] }
  | _ => none }
def MergeAddsWrongFalsely : Prop := mergeAddsRow.holds Try.pinned (OpenSpec.ofChange mergeAddsWrong)

/-- 'whensteadlaw4.MergeCounts': WHATEVER THE INPUT: true; the input reads as it did. -/
def mergeCountsSpec : ChangeSpec := { name := "mergeCounts", fn := fun _ => fun
  | [d1, d2, d3] => { results := [.lit (.bool true)], args := [d1, d2, d3] }
  | _ => none }
def mergeCountsRow : OpenClaim := { program := "ytgcliogognkdkaa", sum := "deb81821c83d0b3051856aab20af72285da0d01c9f8813693f1667b4ab7131c0", func := "whenstead/whensteadlaw4.MergeCounts", spec := "mergeCounts", unfollowed := true, recurses := true, apart := false }
def MergeCountsSaid : Prop := mergeCountsRow.holds Try.pinned (OpenSpec.ofChange mergeCountsSpec)

/-- ITS FALSE NEIGHBOUR: 'it returns false'. Refute it at one input. -/
def mergeCountsWrong : ChangeSpec := { name := "mergeCounts", fn := fun _ => fun
  | [d1, d2, d3] => { results := [.lit (.bool false)], args := [d1, d2, d3] }
  | _ => none }
def MergeCountsWrongFalsely : Prop := mergeCountsRow.holds Try.pinned (OpenSpec.ofChange mergeCountsWrong)

/-- 'whensteadlaw5.GossipApart': WHATEVER THE INPUT: true; the input reads as it did. -/
def gossipApartSpec : ChangeSpec := { name := "gossipApart", fn := fun _ => fun
  | [d1, d2, d3, d4] => { results := [.lit (.bool true)], args := [d1, d2, d3, d4] }
  | _ => none }
def gossipApartRow : OpenClaim := { program := "ytgcliogognkdkaa", sum := "deb81821c83d0b3051856aab20af72285da0d01c9f8813693f1667b4ab7131c0", func := "whenstead/whensteadlaw5.GossipApart", spec := "gossipApart", unfollowed := true, recurses := true, apart := false }
def GossipApartSaid : Prop := gossipApartRow.holds Try.pinned (OpenSpec.ofChange gossipApartSpec)

/-- ITS FALSE NEIGHBOUR: 'it returns false'. Refute it at one input. -/
def gossipApartWrong : ChangeSpec := { name := "gossipApart", fn := fun _ => fun
  | [d1, d2, d3, d4] => { results := [.lit (.bool false)], args := [d1, d2, d3, d4] }
  | _ => none }
def GossipApartWrongFalsely : Prop := gossipApartRow.holds Try.pinned (OpenSpec.ofChange gossipApartWrong)

/-- 'whensteadlaw5.GossipSame': WHATEVER THE INPUT: true; the input reads as it did. -/
def gossipSameSpec : ChangeSpec := { name := "gossipSame", fn := fun _ => fun
  | [d1, d2, d3] => { results := [.lit (.bool true)], args := [d1, d2, d3] }
  | _ => none }
def gossipSameRow : OpenClaim := { program := "ytgcliogognkdkaa", sum := "deb81821c83d0b3051856aab20af72285da0d01c9f8813693f1667b4ab7131c0", func := "whenstead/whensteadlaw5.GossipSame", spec := "gossipSame", unfollowed := true, recurses := true, apart := false }
def GossipSameSaid : Prop := gossipSameRow.holds Try.pinned (OpenSpec.ofChange gossipSameSpec)

/-- ITS FALSE NEIGHBOUR: 'it returns false'. Refute it at one input. -/
def gossipSameWrong : ChangeSpec := { name := "gossipSame", fn := fun _ => fun
  | [d1, d2, d3] => { results := [.lit (.bool false)], args := [d1, d2, d3] }
  | _ => none }
def GossipSameWrongFalsely : Prop := gossipSameRow.holds Try.pinned (OpenSpec.ofChange gossipSameWrong)

/-- 'whensteadlaw5.GossipOver': WHATEVER THE INPUT: true; the input reads as it did. -/
def gossipOverSpec : ChangeSpec := { name := "gossipOver", fn := fun _ => fun
  | [d1, d2, d3, d4, d5] => { results := [.lit (.bool true)], args := [d1, d2, d3, d4, d5] }
  | _ => none }
def gossipOverRow : OpenClaim := { program := "ytgcliogognkdkaa", sum := "deb81821c83d0b3051856aab20af72285da0d01c9f8813693f1667b4ab7131c0", func := "whenstead/whensteadlaw5.GossipOver", spec := "gossipOver", unfollowed := true, recurses := true, apart := false }
def GossipOverSaid : Prop := gossipOverRow.holds Try.pinned (OpenSpec.ofChange gossipOverSpec)

/-- ITS FALSE NEIGHBOUR: 'it returns false'. Refute it at one input. -/
def gossipOverWrong : ChangeSpec := { name := "gossipOver", fn := fun _ => fun
  | [d1, d2, d3, d4, d5] => { results := [.lit (.bool false)], args := [d1, d2, d3, d4, d5] }
  | _ => none }
def GossipOverWrongFalsely : Prop := gossipOverRow.holds Try.pinned (OpenSpec.ofChange gossipOverWrong)

/-- 'whensteadtop.TopMerge': WHATEVER THE INPUT: true; the input reads as it did. -/
def topMergeSpec : ChangeSpec := { name := "topMerge", fn := fun _ => fun
  | [d1, d2, d3, d4, d5] => { results := [.lit (.bool true)], args := [d1, d2, d3, d4, d5] }
  | _ => none }
def topMergeRow : OpenClaim := { program := "ytgcliogognkdkaa", sum := "deb81821c83d0b3051856aab20af72285da0d01c9f8813693f1667b4ab7131c0", func := "whenstead/whensteadtop.TopMerge", spec := "topMerge", unfollowed := true, recurses := true, apart := false }
def TopMergeSaid : Prop := topMergeRow.holds Try.pinned (OpenSpec.ofChange topMergeSpec)

/-- ITS FALSE NEIGHBOUR: 'it returns false'. Refute it at one input. -/
def topMergeWrong : ChangeSpec := { name := "topMerge", fn := fun _ => fun
  | [d1, d2, d3, d4, d5] => { results := [.lit (.bool false)], args := [d1, d2, d3, d4, d5] }
  | _ => none }
def TopMergeWrongFalsely : Prop := topMergeRow.holds Try.pinned (OpenSpec.ofChange topMergeWrong)

/- THE SECOND FORM. 'bulk': how many values and letters a reading holds, each counted each time it is reached (what is shared counts as often as it is met; a slice's spare places count too). A statement '..UptoSaid' is the law's where the arguments, and the package variables that the reading takes, are together of bulk at most 1048576: NARROWER than '..Said'. Prove '..Said' where nothing that the law and all that it calls make is longer than what came in: it says more and counts as full. Else prove '..UptoSaid'. A law counts once. -/
mutual
def uptoBulk {H : Type} : DataW H → Nat
  | .lit (.string bytes) => bytes.length + 1
  | .lit _ => 1
  | .nil => 1
  | .ptr d => uptoBulk d + 1
  | .slice elems spare => uptoBulkAll elems + uptoBulkAll spare + 1
  | .agg parts => uptoBulkAll parts + 1
  | .iface _ d => uptoBulk d + 1
  | .map entries => uptoBulkEntries entries + 1
  | .held _ => 1
def uptoBulkAll {H : Type} : List (DataW H) → Nat
  | [] => 0
  | d :: r => uptoBulk d + uptoBulkAll r
def uptoBulkEntries {H : Type} : List (Lit × DataW H) → Nat
  | [] => 0
  | x :: r => uptoBulkEntry x + uptoBulkEntries r
def uptoBulkEntry {H : Type} : Lit × DataW H → Nat
  | (.string bytes, d) => bytes.length + uptoBulk d + 1
  | (_, d) => uptoBulk d + 1
 end
def uptoSmall : (H : Type) → List (DataW H) → Bool := fun _ ds => decide (uptoBulkAll ds ≤ 1048576)
def OpenSpec.upto (s : _root_.Go.ChangeSpec) : _root_.Go.OpenSpec := { _root_.Go.OpenSpec.ofChange s with cond := some uptoSmall }

/-- 'whensteadlaw4.MergeJoins', WHERE WHAT IT READS IS OF BULK AT MOST 1048576: true; the input reads as it did. -/
def mergeJoinsUptoRow : OpenClaim := { program := "ytgcliogognkdkaa", sum := "deb81821c83d0b3051856aab20af72285da0d01c9f8813693f1667b4ab7131c0", func := "whenstead/whensteadlaw4.MergeJoins", spec := "mergeJoins", unfollowed := true, recurses := true, apart := false, narrowed := true }
def MergeJoinsUptoSaid : Prop := mergeJoinsUptoRow.holds Try.pinned (OpenSpec.upto mergeJoinsSpec)

/-- 'whensteadlaw4.MergeAdds', WHERE WHAT IT READS IS OF BULK AT MOST 1048576: true; the input reads as it did. -/
def mergeAddsUptoRow : OpenClaim := { program := "ytgcliogognkdkaa", sum := "deb81821c83d0b3051856aab20af72285da0d01c9f8813693f1667b4ab7131c0", func := "whenstead/whensteadlaw4.MergeAdds", spec := "mergeAdds", unfollowed := true, recurses := true, apart := false, narrowed := true }
def MergeAddsUptoSaid : Prop := mergeAddsUptoRow.holds Try.pinned (OpenSpec.upto mergeAddsSpec)

/-- 'whensteadlaw4.MergeCounts', WHERE WHAT IT READS IS OF BULK AT MOST 1048576: true; the input reads as it did. -/
def mergeCountsUptoRow : OpenClaim := { program := "ytgcliogognkdkaa", sum := "deb81821c83d0b3051856aab20af72285da0d01c9f8813693f1667b4ab7131c0", func := "whenstead/whensteadlaw4.MergeCounts", spec := "mergeCounts", unfollowed := true, recurses := true, apart := false, narrowed := true }
def MergeCountsUptoSaid : Prop := mergeCountsUptoRow.holds Try.pinned (OpenSpec.upto mergeCountsSpec)

/-- 'whensteadlaw5.GossipApart', WHERE WHAT IT READS IS OF BULK AT MOST 1048576: true; the input reads as it did. -/
def gossipApartUptoRow : OpenClaim := { program := "ytgcliogognkdkaa", sum := "deb81821c83d0b3051856aab20af72285da0d01c9f8813693f1667b4ab7131c0", func := "whenstead/whensteadlaw5.GossipApart", spec := "gossipApart", unfollowed := true, recurses := true, apart := false, narrowed := true }
def GossipApartUptoSaid : Prop := gossipApartUptoRow.holds Try.pinned (OpenSpec.upto gossipApartSpec)

/-- 'whensteadlaw5.GossipSame', WHERE WHAT IT READS IS OF BULK AT MOST 1048576: true; the input reads as it did. -/
def gossipSameUptoRow : OpenClaim := { program := "ytgcliogognkdkaa", sum := "deb81821c83d0b3051856aab20af72285da0d01c9f8813693f1667b4ab7131c0", func := "whenstead/whensteadlaw5.GossipSame", spec := "gossipSame", unfollowed := true, recurses := true, apart := false, narrowed := true }
def GossipSameUptoSaid : Prop := gossipSameUptoRow.holds Try.pinned (OpenSpec.upto gossipSameSpec)

/-- 'whensteadlaw5.GossipOver', WHERE WHAT IT READS IS OF BULK AT MOST 1048576: true; the input reads as it did. -/
def gossipOverUptoRow : OpenClaim := { program := "ytgcliogognkdkaa", sum := "deb81821c83d0b3051856aab20af72285da0d01c9f8813693f1667b4ab7131c0", func := "whenstead/whensteadlaw5.GossipOver", spec := "gossipOver", unfollowed := true, recurses := true, apart := false, narrowed := true }
def GossipOverUptoSaid : Prop := gossipOverUptoRow.holds Try.pinned (OpenSpec.upto gossipOverSpec)

/-- 'whensteadtop.TopMerge', WHERE WHAT IT READS IS OF BULK AT MOST 1048576: true; the input reads as it did. -/
def topMergeUptoRow : OpenClaim := { program := "ytgcliogognkdkaa", sum := "deb81821c83d0b3051856aab20af72285da0d01c9f8813693f1667b4ab7131c0", func := "whenstead/whensteadtop.TopMerge", spec := "topMerge", unfollowed := true, recurses := true, apart := false, narrowed := true }
def TopMergeUptoSaid : Prop := topMergeUptoRow.holds Try.pinned (OpenSpec.upto topMergeSpec)

end Rows
end Go.Proofs.Ytgcliogognkdkaa
