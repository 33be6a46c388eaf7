/- Own texts, merged: BDef, BDef2, RDef, SDef, As, Er, SV, BV, BOk, BM, BV2, BSort, BOk2. -/
import Derived.Test.YtgcliogognkdkaaDoorRows
import Derived.Test.YtgcliogognkdkaaDoorVcQ
import Derived.Test.YtgcliogognkdkaaDoorVcNB
import Derived.Test.YtgcliogognkdkaaDoorChecked
import Derived.WalkKit
import Derived.LaidEql
import Derived.Stop.Asserts
import Derived.RowKitTokens
import Derived.Test.YtgcliogognkdkaaDoorVcPA
import Derived.Test.YtgcliogognkdkaaDoorVcSO
/- Bags and counters: what the program's functions answer. -/
namespace Go.Proofs.YtgcliogognkdkaaDoor
open Go.Vc
abbrev I : Ty := .int .i64
abbrev tErr : Ty := .err 69
abbrev tT : Ty := .pr I (.pr I (.pr I .un))
abbrev tB : Ty := .pr (.sl tT) (.pr (.sl tT) .un)
abbrev Tag := Int × Int × Int × Unit
abbrev Bag := List Tag × List Tag × Unit
def Eb : Env := { tys := [(3, I), (4, .bool), (9, .str), (23, .sl tT), (25, tB), (29, tErr), (22, .sl I), (46, tT), (97, .fn 56 .un), (101, .sl (.sl tT))], errT := 69, eqs := [46], els := [(23, 46), (22, 3), (101, 23)] }
theorem Eb_ok : EnvOk Tryd.prog Eb := EnvOk.of_list (by kernel_rfl) (by kernel_rfl) (by kernel_rfl)
def tag0 : Tag := (0, 0, 0, ())
def inB (n lo hi : Int) : Bool := decide (lo ≤ n) && decide (n ≤ hi)
def cWithin : Ctr := cdet [I, I, I] (fun _ _ _ => True) (fun a b c => [⟨.bool, inB a b c⟩])
def cNaN : Ctr := cdet [I] (fun _ => True) (fun _ => [⟨.bool, false⟩])
def cmpI (a b : Int) : Int := if a < b then -1 else if b < a then 1 else 0
def cCmp : Ctr := cdet [I, I] (fun _ _ => True) (fun a b => [⟨I, cmpI a b⟩])
def orI : List Int → Int
  | [] => 0
  | x :: r => if x = 0 then orI r else x
def cOr : Ctr := cdet [.sl I] (fun _ => True) (fun l => [⟨I, orI l⟩])
def anOr (l : List Int) : Ann := [loopAt 3 Nat [] (fun st i => St.at (St.only st [3, 6, 7]) [(8, .d I (i : Int))]) (fun _ i => i ≤ l.length ∧ orI l = orI (l.drop i)) (fun i => l.length - i)]
/-- by element, node, count -/
def cmpT (a b : Tag) : Int := orI [cmpI a.1 b.1, cmpI a.2.1 b.2.1, cmpI a.2.2.1 b.2.2.1]
def cByTag : Ctr := cdet [tT, tT] (fun _ _ => True) (fun a b => [⟨I, cmpT a b⟩])
/-- what is wrong with a tag at its place -/
def tagIn (a : Tag) : Bool := inB a.1 0 9 && (inB a.2.1 0 4 && inB a.2.2.1 1 1000000)
def tagE (l : List Tag) (i : Nat) : Int := if tagIn (l.getD i tag0) = false then 1 else if 0 < i ∧ 0 ≤ cmpT (l.getD (i - 1) tag0) (l.getD i tag0) then 3 else 0
def tagsF (l : List Tag) : Nat → Nat → Int
  | 0, _ => 0
  | f + 1, i => if tagE l i = 0 then tagsF l f (i + 1) else tagE l i
def tagsE (l : List Tag) : Int := if 24 < l.length then 4 else tagsF l l.length 0
def cTags : Ctr := cdet [.sl tT] (fun _ => True) (fun l => [⟨tErr, tagsE l⟩])
def anTags (l : List Tag) : Ann := [joinAll, loopAt 4 Nat [] (fun st i => St.at (St.only st [0, 9, 10]) [(11, .d I (i : Int))]) (fun _ i => tagsE l = tagsF l (l.length - i) i ∧ i ≤ l.length) (fun i => l.length - i)]
/-- the first place of a thing, or -1 -/
def idxF (l : List Tag) (t : Tag) : Nat → Nat → Int
  | 0, _ => -1
  | f + 1, i => if l.getD i tag0 = t then (i : Int) else idxF l t f (i + 1)
def idxI (l : List Tag) (t : Tag) : Int := idxF l t l.length 0
def cIdx : Ctr := cdet [.sl tT, tT] (fun _ _ => True) (fun l t => [⟨I, idxI l t⟩])
def anIdx (l : List Tag) (t : Tag) : Ann := [loopAt 2 Nat [] (fun st i => St.at (St.only st [0, 3, 6, 7]) [(8, .d I (i : Int))]) (fun _ i => idxI l t = idxF l t (l.length - i) i ∧ i ≤ l.length) (fun i => l.length - i)]
def hasT (l : List Tag) (t : Tag) : Bool := decide (0 ≤ idxI l t)
def cHasT : Ctr := cdet [.sl tT, tT] (fun _ _ => True) (fun l t => [⟨.bool, hasT l t⟩])
def idnF (l : List Int) (t : Int) : Nat → Nat → Int
  | 0, _ => -1
  | f + 1, i => if l.getD i 0 = t then (i : Int) else idnF l t f (i + 1)
def idnI (l : List Int) (t : Int) : Int := idnF l t l.length 0
def cIdn : Ctr := cdet [.sl I, I] (fun _ _ => True) (fun l t => [⟨I, idnI l t⟩])
def anIdn (l : List Int) (t : Int) : Ann := [loopAt 2 Nat [] (fun st i => St.at (St.only st [0, 1, 6, 7]) [(8, .d I (i : Int))]) (fun _ i => idnI l t = idnF l t (l.length - i) i ∧ i ≤ l.length) (fun i => l.length - i)]
def hasI (l : List Int) (t : Int) : Bool := decide (0 ≤ idnI l t)
def cHasI : Ctr := cdet [.sl I, I] (fun _ _ => True) (fun l t => [⟨.bool, hasI l t⟩])
def goneF (b : Bag) : Nat → Nat → Int
  | 0, _ => 0
  | f + 1, i => if hasT b.1 (b.2.1.getD i tag0) = true then goneF b f (i + 1) else 6
def chkB (b : Bag) : Int := if tagsE b.1 = 0 then (if tagsE b.2.1 = 0 then goneF b b.2.1.length 0 else tagsE b.2.1) else tagsE b.1
def cCheck : Ctr := cdet [tB] (fun _ => True) (fun b => [⟨tErr, chkB b⟩])
def anCheck (b : Bag) : Ann := [joinAll, loopAt 8 Nat [] (fun st i => { St.at (St.only st [1, 20, 21]) [(22, .d I (i : Int))] with ob := [.var 25 tB b] }) (fun _ i => chkB b = goneF b (b.2.1.length - i) i ∧ i ≤ b.2.1.length) (fun i => b.2.1.length - i)]
/-- counters -/
def cntF (l : List Int) : Nat → Nat → Int
  | 0, _ => 0
  | f + 1, i => if inB (l.getD i 0) 0 1000000 = true then cntF l f (i + 1) else 1
def cntE (l : List Int) : Int := if l.length = 0 then 5 else if 5 < l.length then 4 else cntF l l.length 0
def cCounts : Ctr := cdet [.sl I] (fun _ => True) (fun l => [⟨tErr, cntE l⟩])
def anCounts (l : List Int) : Ann := [joinAll, loopAt 6 Nat [] (fun st i => St.at (St.only st [13, 14]) [(15, .d I (i : Int))]) (fun _ i => cntE l = cntF l (l.length - i) i ∧ i ≤ l.length) (fun i => l.length - i)]
/-- the same? -/
def cInts : Ctr := cdet [.sl I, .sl I] (fun _ _ => True) (fun a b => [⟨.bool, decide (a = b)⟩])
def anInts (a b : List Int) : Ann := [joinAll, loopAt 4 Nat [] (fun st i => St.at (St.only st [0, 1]) [(5, .d I (i : Int))]) (fun _ i => i ≤ a.length ∧ a.length = b.length ∧ a.take i = b.take i) (fun i => a.length - i)]
def cSameT : Ctr := cdet [.sl tT, .sl tT] (fun _ _ => True) (fun a b => [⟨.bool, decide (a = b)⟩])
def anSameT (a b : List Tag) : Ann := [joinAll, loopAt 4 Nat [] (fun st i => St.at (St.only st [0, 1]) [(5, .d I (i : Int))]) (fun _ i => i ≤ a.length ∧ a.length = b.length ∧ a.take i = b.take i) (fun i => a.length - i)]
def cSameB : Ctr := cdet [tB, tB] (fun _ _ => True) (fun a b => [⟨.bool, decide (a.1 = b.1) && decide (a.2.1 = b.2.1)⟩])
/-- copies, joined rows: the caller's own -/
def oClone : OCtr := fun args ob k => match args, ob with
  | [.d (.sl (.pr (.int .i64) (.pr (.int .i64) (.pr (.int .i64) .un)))) l], [] => (l : List Tag).length ≤ 1000000000 ∧ k (.os 0) [.row 46 (.pr (.int .i64) (.pr (.int .i64) (.pr (.int .i64) .un))) (l : List Tag)]
  | _, _ => False
def oCloneI : OCtr := fun args ob k => match args, ob with
  | [.d (.sl (.int .i64)) l], [] => (l : List Int).length ≤ 1000000000 ∧ k (.os 0) [.row 3 (.int .i64) (l : List Int)]
  | _, _ => False
def oGrow : OCtr := fun args ob k => match args, ob with
  | [.nils, .d (.int .i64) n], [] => (0 ≤ (n : Int) ∧ (n : Int) ≤ 1000000000) ∧ k (.os 0) [.row 46 (.pr (.int .i64) (.pr (.int .i64) (.pr (.int .i64) .un))) ([] : List Tag)]
  | _, _ => False
def sumL (ls : List (List Tag)) (n : Nat) : Nat := ((ls.take n).map List.length).sum
def oConcat : OCtr := fun args ob k => match args, ob with
  | [.d (.sl (.sl (.pr (.int .i64) (.pr (.int .i64) (.pr (.int .i64) .un))))) ls], [] => sumL (ls : List (List Tag)) (ls : List (List Tag)).length ≤ 1000000000 ∧ k (.os 0) [.row 46 (.pr (.int .i64) (.pr (.int .i64) (.pr (.int .i64) .un))) ((ls : List (List Tag)).flatten : List Tag)]
  | _, _ => False
def anConcat (ls : List (List Tag)) : Ann := [joinAll,
  loopAt 3 Nat [] (fun st i => St.at (St.only st [0, 9, 10]) [(3, .d I (sumL ls i : Int)), (11, .d I (i : Int))]) (fun _ i => i ≤ ls.length ∧ True) (fun i => ls.length - i),
  loopAt 11 Nat [] (fun st i => { St.at (St.only st [6, 25, 26]) [(27, .d I (i : Int))] with ob := [.row 46 tT ((ls.take i).flatten : List Tag)] }) (fun _ i => i ≤ ls.length ∧ True) (fun i => ls.length - i)]
/-- doubles that stand side by side -/
def cpt : List Tag → List Tag
  | x :: y :: l => if x = y then cpt (y :: l) else x :: cpt (y :: l)
  | l => l
def oCompact : OCtr := fun args ob k => match args, ob with
  | [.os 0], [.row 46 (.pr (.int .i64) (.pr (.int .i64) (.pr (.int .i64) .un))) xs] => (xs : List Tag).length ≤ 1000000000 ∧ k (.os 1) [.dead, .row 46 (.pr (.int .i64) (.pr (.int .i64) (.pr (.int .i64) .un))) (cpt (xs : List Tag))]
  | _, _ => False
def anCompact (xs : List Tag) : Ann := [joinAll,
  loopAt 4 Nat [] (fun st i => St.at (St.only st [0]) [(3, .d I (i : Int))]) (fun _ i => 1 ≤ i ∧ i ≤ xs.length ∧ 2 ≤ xs.length ∧ cpt (xs.take i) = xs.take i) (fun i => xs.length - i),
  loopAt 9 (Nat × Nat × Nat × List Tag) [] (fun st g => { St.at (St.only st [0]) [(3, .d I (g.2.2.1 : Int)), (4, .oc tT 0 g.1), (5, .d I (g.2.1 : Int))] with ob := [.row 46 tT g.2.2.2] })
    (fun _ g => 1 ≤ g.1 ∧ 1 ≤ g.2.1 ∧ g.1 + g.2.1 ≤ xs.length ∧ g.2.2.1 < g.1 + g.2.1 ∧ g.2.2.2.length = xs.length ∧ g.2.2.2.take g.2.2.1 = cpt (xs.take (g.1 + g.2.1)) ∧ ∀ j, g.1 + g.2.1 - 1 ≤ j → g.2.2.2.getD j tag0 = xs.getD j tag0) (fun g => xs.length - g.2.1)]
end Go.Proofs.YtgcliogognkdkaaDoor

/- Bags: what is added, dropped, joined; counters: what is counted. -/
namespace Go.Proofs.YtgcliogognkdkaaDoor
open Go.Vc
def srtP (xs ys : List Tag) : Prop := ys.Perm xs ∧ ys.Pairwise fun a b => 0 ≤ cmpT b a
def oSortT : OCtr := fun args ob k => match args, ob with
  | [.os 0, .d (.fn 56 .un) (some _)], [.row 46 (.pr (.int .i64) (.pr (.int .i64) (.pr (.int .i64) .un))) xs] => (xs : List Tag).length ≤ 1000000000 ∧ ∀ ys : List Tag, srtP xs ys → k (.tp []) [.row 46 (.pr (.int .i64) (.pr (.int .i64) (.pr (.int .i64) .un))) ys]
  | _, _ => False
/-- a tag in its place, once -/
def insT (t : Tag) : List Tag → List Tag
  | [] => [t]
  | x :: l => if cmpT t x < 0 then t :: x :: l else if cmpT x t < 0 then x :: insT t l else x :: l
def srt (xs : List Tag) : List Tag := xs.foldr insT []
def oSorted : OCtr := fun args ob k => match args, ob with
  | [.os 0], [.row 46 (.pr (.int .i64) (.pr (.int .i64) (.pr (.int .i64) .un))) xs] => (xs : List Tag).length ≤ 1000000000 ∧ k (.os 1) [.dead, .row 46 (.pr (.int .i64) (.pr (.int .i64) (.pr (.int .i64) .un))) (srt (xs : List Tag))]
  | _, _ => False
/-- the greatest count of a node so far -/
def maxC (l : List Tag) (node : Int) : Nat → Int
  | 0 => 0
  | i + 1 => if (l.getD i tag0).2.1 = node then max (maxC l node i) (l.getD i tag0).2.2.1 else maxC l node i
def addE (b : Bag) (elem node : Int) : Int :=
  if chkB b = 0 then (if (inB elem 0 9 && inB node 0 4) = true then (if b.1.length = 24 ∨ maxC b.1 node b.1.length = 1000000 then 4 else 0) else 1) else chkB b
def bag0 : Bag := ([], [], ())
def addB (b : Bag) (elem node : Int) : Bag := if addE b elem node = 0 then (srt (b.1 ++ [(elem, node, maxC b.1 node b.1.length + 1, ())]), b.2.1, ()) else bag0
def cAdd : Ctr := cdet [tB, I, I] (fun _ _ _ => True) (fun b e n => [⟨tB, addB b e n⟩, ⟨tErr, addE b e n⟩])
def Ebw (l : List Nat) : Env := { Eb with pz := l, pb := [25] }
theorem Ebw_ok (l : List Nat) : EnvOk Tryd.prog (Ebw l) := ⟨Eb_ok.ty, Eb_ok.err, Eb_ok.el, Eb_ok.mp⟩
def anAdd (b : Bag) (node : Int) : Ann := [joinAll, loopAt 8 Nat [] (fun st i => St.at (St.only st [1, 2, 3, 6, 29, 30]) [(9, .d I (maxC b.1 node i)), (31, .d I (i : Int))]) (fun _ i => i ≤ b.1.length ∧ chkB b = 0) (fun i => b.1.length - i)]
def dropE (b : Bag) (elem : Int) : Int := if chkB b = 0 then (if inB elem 0 9 = true then 0 else 1) else chkB b
def ofE (l : List Tag) (elem : Int) : List Tag := l.filter fun t => decide (t.1 = elem)
def dropB (b : Bag) (elem : Int) : Bag := if dropE b elem = 0 then (b.1, srt (b.2.1 ++ ofE b.1 elem), ()) else bag0
def cDrop : Ctr := cdet [tB, I] (fun _ _ => True) (fun b e => [⟨tB, dropB b e⟩, ⟨tErr, dropE b e⟩])
def anDrop (b : Bag) (elem : Int) : Ann := [joinAll,
  meetAt 7 Unit [] (fun st _ => { St.at (St.only st []) [(1, .d I elem), (2, .pv tB 0 []), (4, .ps 1), (7, .ps 4)] with ob := [.var 25 tB b, .st 25 [.nils, .nils], .row 46 tT b.1, .row 46 tT b.2.1, .st 25 [.os 2, .os 3]] }) (fun _ _ => dropE b elem = 0 ∧ True),
  loopAt 8 Nat [] (fun st i => { St.at (St.only st [1, 2, 4, 7, 29, 30]) [(31, .d I (i : Int))] with ob := [.var 25 tB b, .st 25 [.nils, .nils], .row 46 tT b.1, .row 46 tT (b.2.1 ++ ofE (b.1.take i) elem), .st 25 [.os 2, .os 3]] }) (fun _ i => i ≤ b.1.length ∧ dropE b elem = 0) (fun i => b.1.length - i)]
def joinE (a b : Bag) : Int := if chkB a = 0 then (if chkB b = 0 then (if 24 < (srt (a.1 ++ b.1)).length then 4 else 0) else chkB b) else chkB a
def joinB (a b : Bag) : Bag := if joinE a b = 0 then (srt (a.1 ++ b.1), srt (a.2.1 ++ b.2.1), ()) else bag0
def cJoin : Ctr := cdet [tB, tB] (fun _ _ => True) (fun a b => [⟨tB, joinB a b⟩, ⟨tErr, joinE a b⟩])
def anJoin (a b : Bag) : Ann := [joinAll,
  meetAt 8 Unit [] (fun st _ => { St.at (St.only st []) [(4, .ps 0), (8, .ps 3)] with ob := [.st 25 [.nils, .nils], .row 46 tT (srt (a.1 ++ b.1)), .row 46 tT (srt (a.2.1 ++ b.2.1)), .st 25 [.os 1, .os 2]] }) (fun _ _ => chkB a = 0 ∧ chkB b = 0)]
def elemsU (b : Bag) : Nat → List Int
  | 0 => []
  | i + 1 => if (!hasT b.2.1 (b.1.getD i tag0) && !hasI (elemsU b i) (b.1.getD i tag0).1) = true then elemsU b i ++ [(b.1.getD i tag0).1] else elemsU b i
def elems (b : Bag) : List Int := if chkB b = 0 then elemsU b b.1.length else []
def cElems : Ctr := cdet [tB] (fun _ => True) (fun b => [⟨.sl I, elems b⟩, ⟨tErr, chkB b⟩])
def anElems (b : Bag) : Ann := [joinAll, loopAt 6 Nat [(5, 3, I)] (fun st i => { St.at (St.only st [1, 5, 14, 15]) [(16, .d I (i : Int))] with ob := [.var 25 tB b, .row 3 I (elemsU b i)] }) (fun _ i => i ≤ b.1.length ∧ chkB b = 0) (fun i => b.1.length - i)]
def upE (v : List Int) (node : Int) : Int := if cntE v = 0 then (if inB node 0 ((v.length : Int) - 1) = true then (if v.getD node.toNat 0 = 1000000 then 4 else 0) else 1) else cntE v
def upR (v : List Int) (node : Int) : List Int := if upE v node = 0 then v.set node.toNat (v.getD node.toNat 0 + 1) else []
def cUp : Ctr := cdet [.sl I, I] (fun _ _ => True) (fun v n => [⟨.sl I, upR v n⟩, ⟨tErr, upE v n⟩])
def mostE (v w : List Int) : Int := if cntE v = 0 then (if cntE w = 0 then (if v.length = w.length then 0 else 3) else cntE w) else cntE v
def mostU (v w : List Int) : Nat → List Int
  | 0 => v
  | i + 1 => (mostU v w i).set i (max ((mostU v w i).getD i 0) (w.getD i 0))
def mostR (v w : List Int) : List Int := if mostE v w = 0 then mostU v w w.length else []
def cMost : Ctr := cdet [.sl I, .sl I] (fun _ _ => True) (fun v w => [⟨.sl I, mostR v w⟩, ⟨tErr, mostE v w⟩])
def anMost (v w : List Int) : Ann := [joinAll, loopAt 11 Nat [] (fun st i => { St.at (St.only st [8, 29, 30]) [(31, .d I (i : Int))] with ob := [.row 3 I (mostU v w i)] }) (fun _ i => i ≤ w.length ∧ mostE v w = 0) (fun i => w.length - i)]
end Go.Proofs.YtgcliogognkdkaaDoor

/- Bags and counters: the document's answers. -/
namespace Go.Proofs.YtgcliogognkdkaaDoor
open Go.Vc
def cBelow : Ctr := cdet [tT, tT] (fun _ _ => True) (fun a b => [⟨.bool, decide (cmpT a b < 0)⟩])
def cRCounts : Ctr := cdet [.sl I] (fun _ => True) (fun l => [⟨I, cntE l⟩])
def anRCounts (l : List Int) : Ann := [joinAll, loopAt 6 Nat [] (fun st i => St.at (St.only st [0]) [(3, .d I (i : Int))]) (fun _ i => cntE l = cntF l (l.length - i) i ∧ i ≤ l.length) (fun i => l.length - i)]
def cRTags : Ctr := cdet [.sl tT] (fun _ => True) (fun l => [⟨I, tagsE l⟩])
def anRTags (l : List Tag) : Ann := [joinAll, loopAt 4 Nat [] (fun st i => St.at (St.only st [0]) [(3, .d I (i : Int))]) (fun _ i => tagsE l = tagsF l (l.length - i) i ∧ i ≤ l.length) (fun i => l.length - i)]
def anRHas (l : List Tag) (t : Tag) : Ann := [joinAll, loopAt 2 Nat [] (fun st i => St.at (St.only st [0, 3]) [(5, .d I (i : Int))]) (fun _ i => idxI l t = idxF l t (l.length - i) i ∧ i ≤ l.length) (fun i => l.length - i)]
def cRBag : Ctr := cdet [tB] (fun _ => True) (fun b => [⟨I, chkB b⟩])
def anRBag (b : Bag) : Ann := [joinAll,
  meetAt 4 Unit [] (fun st _ => St.at (St.only st [1]) [(3, .d I (if tagsE b.1 = 0 then tagsE b.2.1 else tagsE b.1))]) (fun _ _ => True ∧ True),
  loopAt 5 (Nat × Int) [] (fun st g => St.at (St.only st [1]) [(3, .d I g.2), (4, .d I (g.1 : Int))]) (fun _ g => g.1 ≤ b.2.1.length ∧ (g.2 = 0 → chkB b = goneF b (b.2.1.length - g.1) g.1) ∧ (g.2 ≠ 0 → chkB b = g.2)) (fun g => b.2.1.length - g.1)]
/-- a tag put into a row -/
def putL (l : List Tag) (t : Tag) : List Tag := if hasT l t = true then l else l.filter (fun u => decide (cmpT u t < 0)) ++ [t] ++ l.filter (fun u => decide (cmpT t u < 0))
def cRPut : Ctr := cdet [.sl tT, tT] (fun (l : List Tag) _ => l.length ≤ 100000 ∧ True) (fun l t => [⟨.sl tT, putL l t⟩])
def anRPut (l : List Tag) (t : Tag) : Ann := [joinAll,
  loopAt 5 Nat [(5, 46, tT)] (fun st i => { St.at (St.only st [0, 3, 5]) [(6, .d I (i : Int))] with ob := [.var 46 tT t, .row 46 tT ((l.take i).filter fun u => decide (cmpT u t < 0))] }) (fun _ i => i ≤ l.length ∧ hasT l t = false) (fun i => l.length - i),
  loopAt 11 Nat [] (fun st i => { St.at (St.only st [0, 3]) [(5, .os 1), (7, .d I (i : Int))] with ob := [.var 46 tT t, .row 46 tT (l.filter (fun u => decide (cmpT u t < 0)) ++ [t] ++ (l.take i).filter fun u => decide (cmpT t u < 0))] }) (fun _ i => i ≤ l.length ∧ hasT l t = false) (fun i => l.length - i)]
def allU (a b : List Tag) : Nat → List Tag
  | 0 => a
  | i + 1 => putL (allU a b i) (b.getD i tag0)
def cRAll : Ctr := cdet [.sl tT, .sl tT] (fun (a b : List Tag) => a.length + b.length ≤ 10000 ∧ True) (fun a b => [⟨.sl tT, allU a b b.length⟩])
def anRAll (a b : List Tag) : Ann := [joinAll, loopAt 2 Nat [] (fun st i => St.at (St.only st [1]) [(0, .d (.sl tT) (allU a b i)), (5, .d I (i : Int))]) (fun _ i => i ≤ b.length ∧ True) (fun i => b.length - i)]
def cRNext : Ctr := cdet [tB, I] (fun b _ => tagsE b.1 = 0 ∧ True) (fun b n => [⟨I, maxC b.1 n b.1.length + 1⟩])
def anRNext (b : Bag) (n : Int) : Ann := [joinAll, loopAt 3 Nat [] (fun st i => St.at (St.only st [1, 2]) [(5, .d I (maxC b.1 n i)), (6, .d I (i : Int))]) (fun _ i => i ≤ b.1.length ∧ True) (fun i => b.1.length - i)]
def goneU (b : Bag) (e : Int) : Nat → List Tag
  | 0 => b.2.1
  | i + 1 => if (b.1.getD i tag0).1 = e then putL (goneU b e i) (b.1.getD i tag0) else goneU b e i
def cRDropped : Ctr := cdet [tB, I] (fun b _ => b.1.length + b.2.1.length ≤ 10000 ∧ True) (fun b e => [⟨tB, ((b.1, goneU b e b.1.length, ()) : Bag)⟩])
def anRDropped (b : Bag) (e : Int) : Ann := [joinAll, loopAt 2 Nat [] (fun st i => { St.at (St.only st [1, 2, 4]) [(5, .d I (i : Int))] with ob := [.var 25 tB ((b.1, goneU b e i, ()) : Bag), .var 25 tB bag0] }) (fun _ i => i ≤ b.1.length ∧ True) (fun i => b.1.length - i)]
def hereU (b : Bag) (e : Int) : Nat → Bool
  | 0 => false
  | i + 1 => hereU b e i || (decide ((b.1.getD i tag0).1 = e) && !hasT b.2.1 (b.1.getD i tag0))
def elsR (b : Bag) (n : Nat) : List Int := ((List.range n).filter fun (e : Nat) => hereU b (e : Int) b.1.length).map fun (e : Nat) => (e : Int)
def cRElems : Ctr := cdet [tB] (fun _ => True) (fun b => [⟨.sl I, elsR b 10⟩])
def anRElems (b : Bag) : Ann := [joinAll,
  loopAt 3 Nat [(3, 3, I)] (fun st i => { St.at (St.only st [1, 3]) [(4, .d I (i : Int))] with ob := [.var 25 tB b, .row 3 I (elsR b i)] }) (fun _ i => i ≤ 10 ∧ True) (fun i => 10 - i),
  loopAt 7 Nat [] (fun st i => St.at (St.only st [1, 3, 4]) [(5, .d .bool (hereU b (st.i 4) i)), (6, .d I (i : Int))]) (fun _ i => i ≤ b.1.length ∧ True) (fun i => b.1.length - i)]
end Go.Proofs.YtgcliogognkdkaaDoor

/- Bags and counters: the document's answers, all: the law. -/
namespace Go.Proofs.YtgcliogognkdkaaDoor
open Go.Vc
def cLawS : Ctr := cdet [.sl I, .sl I, tB, tB, I, I] (fun _ _ _ _ _ _ => True) (fun _ _ _ _ _ _ => [⟨.bool, true⟩])
def upF (v : List Int) (n : Int) : Int := if cntE v = 0 ∧ (n < 0 ∨ (v.length : Int) ≤ n) then 1 else cntE v
def mostF (v w : List Int) : Int := if cntE v = 0 then cntE w else cntE v
def mostP (v w : List Int) : Nat → List Int
  | 0 => []
  | i + 1 => mostP v w i ++ [max (v.getD i 0) (w.getD i 0)]
def addF (a : Bag) (e n : Int) : Int := if dropE a e = 0 ∧ (n < 0 ∨ 4 < n) then 1 else dropE a e
def joinF (a b : Bag) : Int := if chkB a = 0 then chkB b else chkB a
/-- the two bags; these and a third and a fourth -/
def ob2 (a b : Bag) : List Ob := [.var 25 tB a, .var 25 tB b]
def tr (l : List Nat) : List (Nat × SV) := l.map fun j => (j, .d .bool true)
def anLawS (v w : List Int) (a b : Bag) (e n : Int) : Ann := [joinAll,
  meetAt 7 Unit [] (fun st _ => St.at (St.only st [0, 1, 4, 5, 8, 9, 15, 16]) ([(13, .d I (cntE v)), (17, .d I (upF v n))] ++ tr [14])) (fun _ _ => True ∧ True),
  meetAt 9 Unit [] (fun st _ => St.at (St.only st [0, 1, 4, 5, 8, 9, 15, 16]) ([(13, .d I (cntE v)), (17, .d I (upE v n))] ++ tr [14])) (fun _ _ => True ∧ True),
  meetAt 12 Unit [(15, 3, I)] (fun st _ => { St.at (St.only st [0, 1, 4, 5, 8, 9, 16]) ([(13, .d I (cntE v)), (15, .os 2), (17, .d I (upE v n))] ++ tr [14]) with ob := ob2 a b ++ [.row 3 I (upR v n)] }) (fun _ _ => True ∧ True),
  meetAt 14 Unit [] (fun st _ => { St.at (St.only st [0, 1, 4, 5, 8, 9, 16]) ([(13, .d I (cntE v))] ++ tr [14, 20]) with ob := ob2 a b }) (fun _ _ => True ∧ True),
  meetAt 16 Unit [] (fun st _ => St.at (St.only st [0, 1, 4, 5, 8, 9, 16]) ([(13, .d I (mostF v w))] ++ tr [14, 20])) (fun _ _ => True ∧ True),
  meetAt 18 Unit [] (fun st _ => St.at (St.only st [0, 1, 4, 5, 8, 9, 16]) ([(13, .d I (mostE v w))] ++ tr [14, 20])) (fun _ _ => True ∧ True),
  loopAt 19 Nat [(16, 3, I)] (fun st i => { St.at (St.only st [0, 1, 4, 5, 8, 9]) ([(13, .d I (mostE v w)), (16, .os 2), (21, .d I (i : Int))] ++ tr [14, 20]) with ob := ob2 a b ++ [.row 3 I (mostP v w i)] }) (fun _ i => i ≤ v.length ∧ (mostE v w = 0 ∨ i = 0)) (fun i => v.length - i),
  meetAt 25 Unit [] (fun st _ => { St.at (St.only st [0, 1, 4, 5, 8, 9]) ([(13, .d I (mostE v w)), (16, .os 2)] ++ tr [14, 20]) with ob := ob2 a b ++ [.row 3 I (mostR v w)] }) (fun _ _ => True ∧ True),
  meetAt 27 Unit [] (fun st _ => { St.at (St.only st [4, 5, 8, 9]) (tr [14, 20, 23]) with ob := ob2 a b }) (fun _ _ => True ∧ True),
  meetAt 29 Unit [] (fun st _ => St.at (St.only st [4, 5, 8, 9]) ([(13, .d I (chkB a))] ++ tr [14, 20, 23, 24])) (fun _ _ => True ∧ True),
  meetAt 32 Unit [] (fun st _ => St.at (St.only st [4, 5, 8, 9]) ([(13, .d I (chkB a)), (25, .d (.sl I) (elems a))] ++ tr [14, 20, 23, 24])) (fun _ _ => True ∧ True),
  meetAt 34 Unit [] (fun st _ => St.at (St.only st [4, 5, 8, 9]) ([(13, .d I (chkB a))] ++ tr [14, 20, 23, 24, 26])) (fun _ _ => True ∧ True),
  meetAt 37 Unit [] (fun st _ => St.at (St.only st [4, 5, 8, 9]) ([(13, .d I (chkB a)), (17, .d I (dropE a e))] ++ tr [14, 20, 23, 24, 26])) (fun _ _ => True ∧ True),
  meetAt 40 Unit [] (fun st _ => { St.at (St.only st [4, 5, 8, 9]) ([(13, .d I (chkB a)), (17, .d I (dropE a e)), (27, .pv tB 2 [])] ++ tr [14, 20, 23, 24, 26]) with ob := ob2 a b ++ [.var 25 tB (dropB a e)] }) (fun _ _ => True ∧ True),
  meetAt 42 Unit [] (fun st _ => { St.at (St.only st [4, 5, 8, 9]) ([(13, .d I (chkB a)), (17, .d I (dropE a e)), (27, .pv tB 2 []), (28, .pv tB 3 [])] ++ tr [14, 20, 23, 24, 26, 29]) with ob := ob2 a b ++ [.var 25 tB (dropB a e), .var 25 tB (dropB a e)] }) (fun _ _ => True ∧ True),
  meetAt 44 Unit [] (fun st _ => St.at (St.only st [4, 5, 8, 9, 27, 28]) ([(13, .d I (chkB a)), (17, .d I (addF a e n))] ++ tr [14, 20, 23, 24, 26, 29])) (fun _ _ => True ∧ True),
  meetAt 46 Unit [] (fun st _ => St.at (St.only st [4, 5, 8, 9, 27, 28]) ([(13, .d I (chkB a)), (17, .d I (addE a e n))] ++ tr [14, 20, 23, 24, 26, 29])) (fun _ _ => True ∧ True),
  meetAt 50 Unit [] (fun st _ => { St.at (St.only st [4, 5, 8, 9, 27, 28]) ([(13, .d I (chkB a)), (17, .d I (addE a e n))] ++ tr [14, 20, 23, 24, 26, 29]) with ob := ob2 a b ++ [.var 25 tB (addB a e n), .var 25 tB (dropB a e)] }) (fun _ _ => True ∧ True),
  meetAt 52 Unit [] (fun st _ => { St.at (St.only st [8, 9, 27, 28]) ([(13, .d I (chkB a))] ++ tr [14, 20, 23, 24, 26, 29, 30]) with ob := ob2 a b ++ [.var 25 tB (addB a e n), .var 25 tB (addB a e n)] }) (fun _ _ => True ∧ True),
  meetAt 54 Unit [] (fun st _ => St.at (St.only st [8, 9, 27, 28]) ([(13, .d I (joinF a b))] ++ tr [14, 20, 23, 24, 26, 29, 30])) (fun _ _ => True ∧ True),
  meetAt 61 Unit [] (fun st _ => { St.at (St.only st [8, 9, 27, 28]) ([(13, .d I (joinE a b))] ++ tr [14, 20, 23, 24, 26, 29, 30]) with ob := ob2 a b ++ [.var 25 tB (joinB a b), .var 25 tB (addB a e n)] }) (fun _ _ => True ∧ True)]
end Go.Proofs.YtgcliogognkdkaaDoor

namespace Go.Proofs.YtgcliogognkdkaaDoor
open Go.RowKit Go.Extern.Stop Go.Stop Go.Extern

/-- errors.As(nil, target). -/
theorem as_nil (t : Value) (w : World) :
    Calls Tryd.prog 55 #[.nilIface, t] w fun e w' => e = .returned (.bool false) ∧ w' = w := by
  go_enter Tryd.func55, Tryd.ntmps55
  go_wp2
  go_ret
  exact ⟨rfl, rfl⟩

/-! ### CLOSED FACTS ON THE MODEL's ENTRIES FOR internal/reflectlite, at this program's types: 25: *p.E · 27: **p.E · 23: error · 45: reflectlite's rtype · 1: how many package-level variables the dump has -/
theorem Tas.valueOf27 (t : Addr) (w : World) : (ReflectliteValue.unpack (.iface 96 (.pointer (some t)))).run Tryd.prog w
    = .ok (.agg #[.pointer (some ⟨1, 96, none⟩), .pointer (some ⟨w.heap.size, 0, none⟩), .int .u64 150]) (w.alloc (.cells #[.pointer (some t)] 96)) := by kernel_rfl
theorem Tas.type27 (a : Addr) (w : World) : (ReflectliteValue.methodAny (ReflectliteValue.valueError "reflectlite.Value.Type" 0) (fun t _ _ _ => ReflectliteType.toType t) #[.agg #[.pointer (some ⟨1, 96, none⟩), .pointer (some a), .int .u64 150]]).run Tryd.prog w
    = .ok (.iface 136 (.agg #[.pointer (some ⟨1, 96, none⟩)])) w := by kernel_rfl
theorem Tas.methodKind (h : Value) (w : World) : (Go.method 295 136 (.agg #[h]) "Kind").run Tryd.prog w = .ok (119, h) w := by kernel_rfl
theorem Tas.kind27 (w : World) : ((ReflectliteType.abiMethod fun t => (fun a : Nat => Value.int IntKind.u8 (a : Int)) <$> Rtype.kind t) #[.pointer (some ⟨1, 96, none⟩)]).run Tryd.prog w = .ok (.int .u8 22) w := by kernel_rfl
theorem Tas.kind25 (w : World) : ((ReflectliteType.abiMethod fun t => (fun a : Nat => Value.int IntKind.u8 (a : Int)) <$> Rtype.kind t) #[.pointer (some ⟨1, 69, none⟩)]).run Tryd.prog w = .ok (.int .u8 2) w := by kernel_rfl

/-! ### THE ENTRIES THAT READ OR WRITE MEMORY: laws with a premise on the cell (after Derived/Lib/ReflectliteSlice.lean's manner: each unfolding a lemma of its own, by rfl) -/
theorem rlm (z : Sem Value) (f : TypeId → Addr → Nat → Nat → Sem Value) (v : Value) :
    ReflectliteValue.method z f #[v] = (do match ← ReflectliteValue.parts v with | none => z | some (t, a, fl) => f t a fl (fl % 32)) := rfl
theorem Tas.parts27 (a : Addr) (w : World) : (ReflectliteValue.parts (.agg #[.pointer (some ⟨1, 96, none⟩), .pointer (some a), .int .u64 150])).run Tryd.prog w = .ok (some (96, a, 150)) w := by kernel_rfl
/-- (Value).IsNil at the Value of a **p.E that is not nil. -/
theorem Tas.isNil27 (a p : Addr) (W : World) (ha : W.cell? a = some (.pointer (some p))) :
    (ReflectliteValue.method (ReflectliteValue.valueError "reflectlite.Value.IsNil" 0) ReflectliteValue.isNil #[.agg #[.pointer (some ⟨1, 96, none⟩), .pointer (some a), .int .u64 150]]).run Tryd.prog W = .ok (.bool false) W := by
  rw [rlm]
  simp only [Sem.run_bind, Tas.parts27, Result.andThen]
  simp [ReflectliteValue.isNil, loadVar, isAgg, underlying, Tryd.underlying96, ha, Result.andThen]

theorem Tas.methodElem (h : Value) (w : World) : (Go.method 295 136 (.agg #[h]) "Elem").run Tryd.prog w = .ok (129, .agg #[h]) w := by kernel_rfl
theorem Tas.methodImplements (h : Value) (w : World) : (Go.method 295 136 (.agg #[h]) "Implements").run Tryd.prog w = .ok (130, .agg #[h]) w := by kernel_rfl
theorem Tas.methodAssignableTo (h : Value) (w : World) : (Go.method 295 136 (.agg #[h]) "AssignableTo").run Tryd.prog w = .ok (127, .agg #[h]) w := by kernel_rfl
theorem Tas.elem27 (w : World) : (ReflectliteType.method ReflectliteType.elem #[.agg #[.pointer (some ⟨1, 96, none⟩)]]).run Tryd.prog w = .ok (.iface 136 (.agg #[.pointer (some ⟨1, 69, none⟩)])) w := by kernel_rfl
theorem Tas.implements25 (w : World) : (ReflectliteType.relation "Implements" ReflectliteType.implements_ #[.agg #[.pointer (some ⟨1, 69, none⟩)], .iface 136 (.agg #[.pointer (some ⟨1, 29, none⟩)])]).run Tryd.prog w = .ok (.bool true) w := by kernel_rfl
theorem Tas.typeOf25 (v : Value) (w : World) : (ReflectliteType.typeOf #[.iface 69 v]).run Tryd.prog w = .ok (.iface 136 (.agg #[.pointer (some ⟨1, 69, none⟩)])) w := by kernel_rfl
theorem Tas.assignable25 (w : World) : (ReflectliteType.relation "AssignableTo" ReflectliteType.assignableTo #[.agg #[.pointer (some ⟨1, 69, none⟩)], .iface 136 (.agg #[.pointer (some ⟨1, 69, none⟩)])]).run Tryd.prog w = .ok (.bool true) w := by kernel_rfl
theorem Tas.valueOf25 (e : Int) (w : World) : (ReflectliteValue.unpack (.iface 69 (.int .i64 e))).run Tryd.prog w
    = .ok (.agg #[.pointer (some ⟨1, 69, none⟩), .pointer (some ⟨w.heap.size, 0, none⟩), .int .u64 130]) (w.alloc (.cells #[.int .i64 e] 69)) := by kernel_rfl

theorem Tas.elemOf27 (w : World) : (Rtype.elem? 96).run Tryd.prog w = .ok (some 69) w := by kernel_rfl
theorem Tas.mk25 (p : Addr) (w : World) : (ReflectliteValue.mk 69 p ReflectliteValue.flagAddr).run Tryd.prog w = .ok (.agg #[.pointer (some ⟨1, 69, none⟩), .pointer (some p), .int .u64 386]) w := by kernel_rfl
/-- (Value).Elem at the Value of a **p.E that is not nil: the Value of the *p.E variable that it points to, addressable. -/
theorem Tas.elemV27 (a p : Addr) (W : World) (ha : W.cell? a = some (.pointer (some p))) :
    (ReflectliteValue.method (ReflectliteValue.valueError "reflectlite.Value.Elem" 0) ReflectliteValue.elem #[.agg #[.pointer (some ⟨1, 96, none⟩), .pointer (some a), .int .u64 150]]).run Tryd.prog W
      = .ok (.agg #[.pointer (some ⟨1, 69, none⟩), .pointer (some p), .int .u64 386]) W := by
  rw [rlm]
  simp only [Sem.run_bind, Tas.parts27, Result.andThen]
  simp [ReflectliteValue.elem, loadVar, isAgg, underlying, Tryd.underlying96, ha, Result.andThen, Tas.elemOf27, Tas.mk25]
theorem rls (v x : Value) : ReflectliteValue.set #[v, x] = (do
    let (some (dst, a, fl), some (src, b, _)) := (← ReflectliteValue.parts v, ← ReflectliteValue.parts x)
      | unsupported (.noEntry "extern/(internal/reflectlite.Value).Set.zeroValue")
    if fl / ReflectliteValue.flagAddr % 2 == 0 then unsupported (.noEntry "extern/(internal/reflectlite.Value).Set.unaddressable")
    let val ← loadVar src b
    if ← Rtype.directlyAssignable dst src then storeVar dst a val
    else if ← Rtype.implements dst src then
      if (← Rtype.kind src) == 20 then
        match val with
        | .nilIface => unsupported (.noEntry "extern/reflectlite: a nil value of one interface type handed on as a value of another")
        | _ => storeVar dst a val
      else storeVar dst a (.iface src val)
    else panicString ("reflectlite.Set: value of type " ++ (← Rtype.spelt src) ++ " is not assignable to type " ++ (← Rtype.spelt dst))
    pure (.tuple #[])) := rfl
theorem Tas.parts25a (a : Addr) (w : World) : (ReflectliteValue.parts (.agg #[.pointer (some ⟨1, 69, none⟩), .pointer (some a), .int .u64 386])).run Tryd.prog w = .ok (some (69, a, 386)) w := by kernel_rfl
theorem Tas.parts25 (a : Addr) (w : World) : (ReflectliteValue.parts (.agg #[.pointer (some ⟨1, 69, none⟩), .pointer (some a), .int .u64 130])).run Tryd.prog w = .ok (some (69, a, 130)) w := by kernel_rfl
theorem Tas.direct25 (w : World) : (Rtype.directlyAssignable 69 69).run Tryd.prog w = .ok true w := by kernel_rfl
theorem Tas.size25 (w : World) : (sizeOf 69).run Tryd.prog w = .ok 1 w := by kernel_rfl
/-- (Value).Set: the *p.E variable at 'ta' gets what the Value's own variable 'b' holds. -/
theorem Tas.set25 (ta b : Addr) (e : Int) (old : Value) (W : World) (hb : W.cell? b = some (.int .i64 e)) (ht : W.cell? ta = some old) (hf : W.frozen? ta = false) :
    (ReflectliteValue.set #[.agg #[.pointer (some ⟨1, 69, none⟩), .pointer (some ta), .int .u64 386], .agg #[.pointer (some ⟨1, 69, none⟩), .pointer (some b), .int .u64 130]]).run Tryd.prog W
      = .ok (.tuple #[]) (W.setCell ta (.int .i64 e)) := by
  rw [rls]
  simp only [Sem.run_bind, Tas.parts25a, Tas.parts25, Result.andThen]
  simp [ReflectliteValue.flagAddr, loadVar, isAgg, underlying, Tryd.underlying69, hb, Result.andThen, Tas.direct25, storeVar, Value.cells, storeCells, Addr.add]
  rw [run_store Tryd.prog W ta _ _ (by rfl)]
  simp [ht, hf]

set_option maxRecDepth 100000 in
set_option maxHeartbeats 4000000 in
theorem as_hit (e : Int) (t : Addr) (old : Value) (w : World) (hg : w.cell? ⟨0, 0, none⟩ = some (.iface 136 (.agg #[.pointer (some ⟨1, 29, none⟩)]))) (ht0 : w.cell? t = some old) (hf0 : w.frozen? t = false) :
    Calls Tryd.prog 55 #[.iface 69 (.int .i64 e), .iface 96 (.pointer (some t))] w fun ev w' => ev = .returned (.bool true) ∧ w' = ((((w.alloc (.cells #[.pointer (some t)] 96)).alloc (.cells #[.pointer (some ⟨1, 96, none⟩), .pointer (some ⟨w.heap.size, 0, none⟩), .int .u64 150] 111)).alloc (.cells #[.pointer (some ⟨1, 96, none⟩), .pointer (some ⟨w.heap.size, 0, none⟩), .int .u64 150] 111)).alloc (.cells #[.int .i64 e] 69)).setCell t (.int .i64 e) := by
  have h6 := @run_callFunc_extern Tryd.prog 68 _ (fun args => ReflectliteValue.unpack (args.getD 0 (.tuple #[]))) Tryd.func68 (by kernel_rfl) (by kernel_rfl) (by kernel_rfl) (by kernel_rfl)
  have h7 := @run_callFunc_extern Tryd.prog 69 _ (ReflectliteValue.methodAny (ReflectliteValue.valueError "reflectlite.Value.Type" 0) (fun t _ _ _ => ReflectliteType.toType t)) Tryd.func69 (by kernel_rfl) (by kernel_rfl) (by kernel_rfl) (by kernel_rfl)
  have h8 := @run_callFunc_extern Tryd.prog 70 _ (ReflectliteValue.method (ReflectliteValue.valueError "reflectlite.Value.IsNil" 0) ReflectliteValue.isNil) Tryd.func70 (by kernel_rfl) (by kernel_rfl) (by kernel_rfl) (by kernel_rfl)
  have h27 := @run_callFunc_extern Tryd.prog 119 _ (ReflectliteType.abiMethod fun t => do pure (.int .u8 (← Rtype.kind t))) Tryd.func119 (by kernel_rfl) (by kernel_rfl) (by kernel_rfl) (by kernel_rfl)
  have h37 := @run_callFunc_extern Tryd.prog 129 _ (ReflectliteType.method ReflectliteType.elem) Tryd.func129 (by kernel_rfl) (by kernel_rfl) (by kernel_rfl) (by kernel_rfl)
  have h38 := @run_callFunc_extern Tryd.prog 130 _ (ReflectliteType.relation "Implements" ReflectliteType.implements_) Tryd.func130 (by kernel_rfl) (by kernel_rfl) (by kernel_rfl) (by kernel_rfl)
  have h10 := @run_callFunc_extern Tryd.prog 84 _ ReflectliteType.typeOf Tryd.func84 (by kernel_rfl) (by kernel_rfl) (by kernel_rfl) (by kernel_rfl)
  have h35 := @run_callFunc_extern Tryd.prog 127 _ (ReflectliteType.relation "AssignableTo" ReflectliteType.assignableTo) Tryd.func127 (by kernel_rfl) (by kernel_rfl) (by kernel_rfl) (by kernel_rfl)
  have h11 := @run_callFunc_extern Tryd.prog 85 _ (ReflectliteValue.method (ReflectliteValue.valueError "reflectlite.Value.Elem" 0) ReflectliteValue.elem) Tryd.func85 (by kernel_rfl) (by kernel_rfl) (by kernel_rfl) (by kernel_rfl)
  have h12 := @run_callFunc_extern Tryd.prog 86 _ ReflectliteValue.set Tryd.func86 (by kernel_rfl) (by kernel_rfl) (by kernel_rfl) (by kernel_rfl)
  have tO := Tas.typeOf25
  have mA := Tas.methodAssignableTo
  have a25 := Tas.assignable25
  have v25 := Tas.valueOf25
  have f6 := Tas.valueOf27
  have f7 := Tas.type27
  have mK := Tas.methodKind
  have mE := Tas.methodElem
  have mI := Tas.methodImplements
  have k27 := Tas.kind27
  have k25 := Tas.kind25
  have e27 := Tas.elem27
  have i25 := Tas.implements25
  have n8 := Tas.isNil27 ⟨w.heap.size, 0, none⟩ t ((w.alloc (.cells #[.pointer (some t)] 96)).alloc (.cells #[.pointer (some ⟨1, 96, none⟩), .pointer (some ⟨w.heap.size, 0, none⟩), .int .u64 150] 111)) (by simp)
  have hlt : 0 < w.heap.size := by
    rcases Nat.eq_zero_or_pos w.heap.size with h0 | h
    · simp [World.cell?, h0] at hg
    · exact h
  have hg2 : ((w.alloc (.cells #[.pointer (some t)] 96)).alloc (.cells #[.pointer (some ⟨1, 96, none⟩), .pointer (some ⟨w.heap.size, 0, none⟩), .int .u64 150] 111)).cell? ⟨0, 0, none⟩ = some (.iface 136 (.agg #[.pointer (some ⟨1, 29, none⟩)])) := by
    rw [World.cell?_alloc_lt _ _ ⟨0, 0, none⟩ (by simp), World.cell?_alloc_lt _ _ ⟨0, 0, none⟩ hlt]; exact hg
  have htl : t.block < w.heap.size := by
    rcases Nat.lt_or_ge t.block w.heap.size with h | h
    · exact h
    · simp [World.cell?, Array.getElem?_eq_none h] at ht0
  have el := Tas.elemV27 ⟨w.heap.size, 0, none⟩ t (((w.alloc (.cells #[.pointer (some t)] 96)).alloc (.cells #[.pointer (some ⟨1, 96, none⟩), .pointer (some ⟨w.heap.size, 0, none⟩), .int .u64 150] 111)).alloc (.cells #[.pointer (some ⟨1, 96, none⟩), .pointer (some ⟨w.heap.size, 0, none⟩), .int .u64 150] 111)) (by rw [World.cell?_alloc_lt _ _ ⟨w.heap.size, 0, none⟩ (by simp; omega)]; simp)
  have st := Tas.set25 t ⟨w.heap.size + 1 + 1 + 1, 0, none⟩ e old ((((w.alloc (.cells #[.pointer (some t)] 96)).alloc (.cells #[.pointer (some ⟨1, 96, none⟩), .pointer (some ⟨w.heap.size, 0, none⟩), .int .u64 150] 111)).alloc (.cells #[.pointer (some ⟨1, 96, none⟩), .pointer (some ⟨w.heap.size, 0, none⟩), .int .u64 150] 111)).alloc (.cells #[.int .i64 e] 69))
    (by rw [World.cell?_alloc_at _ _ _ _ (by simp)]; rfl)
    (by rw [World.cell?_alloc_lt _ _ t (by simp; omega), World.cell?_alloc_lt _ _ t (by simp; omega), World.cell?_alloc_lt _ _ t (by simp; omega), World.cell?_alloc_lt _ _ t htl]; exact ht0)
    (by rw [World.frozen?_alloc_old _ _ t (by simp; omega), World.frozen?_alloc_old _ _ t (by simp; omega), World.frozen?_alloc_old _ _ t (by simp; omega), World.frozen?_alloc_old _ _ t (Nat.ne_of_lt htl)]; exact hf0)
  go_enter Tryd.func55, Tryd.ntmps55
  go_wp2
  refine wp_loop_rounds 1 ?_
  rw [rounds_succ]
  go_wp2
  go_ret
  exact ⟨rfl, rfl⟩
end Go.Proofs.YtgcliogognkdkaaDoor

/- The number of an error, as the program tells it; is an error the one with a number? -/
namespace Go.Proofs.YtgcliogognkdkaaDoor
open Go.RowKit Go.Extern.Stop Go.Stop Go.Extern Go.Vc

theorem fr_alloc (w : World) (o : Obj) : Fr (fun _ => False) w (w.alloc o) := ⟨rfl, rfl, rfl, by simp, fun b hb _ => Ext.alloc w o b hb, fun _ => Nat.le_refl _⟩

theorem told_nil (w : World) : Calls Tryd.prog 32 #[.nilIface] w fun e w' => e = .returned (.int .i64 0) ∧ w' = w := by
  go_enter Tryd.func32, Tryd.ntmps32
  go_wp2
  go_ret
  exact ⟨rfl, rfl⟩

set_option maxRecDepth 100000 in
set_option maxHeartbeats 4000000 in
theorem told_hit (n : Int) (w : World) (hg : w.cell? ⟨0, 0, none⟩ = some (.iface 136 (.agg #[.pointer (some ⟨1, 29, none⟩)]))) :
    Calls Tryd.prog 32 #[.iface 69 (.int .i64 n)] w fun e w' => e = .returned (.int .i64 n) ∧ Fr (fun _ => False) w w' := by
  have hlt : 0 < w.heap.size := World.block_lt_of_cell? w ⟨0, 0, none⟩ hg
  have hgA : (w.alloc (.cells #[.int .i64 0] 69)).cell? ⟨0, 0, none⟩ = some (.iface 136 (.agg #[.pointer (some ⟨1, 29, none⟩)])) := by
    rw [World.cell?_alloc_lt _ _ ⟨0, 0, none⟩ hlt]; exact hg
  have htA : (w.alloc (.cells #[.int .i64 0] 69)).cell? ⟨w.heap.size, 0, none⟩ = some (.int .i64 0) := by simp
  have hfA : (w.alloc (.cells #[.int .i64 0] 69)).frozen? ⟨w.heap.size, 0, none⟩ = false := by simp
  go_enter Tryd.func32, Tryd.ntmps32
  go_wp2_with (go_at_call 55; refine (as_hit n _ (.int .i64 0) _ hgA htA hfA).mono ?_; rintro e w' ⟨rfl, rfl⟩)
  go_ret
  exact ⟨rfl, ((((fr_alloc _ _).trans (fr_alloc _ _)).trans (fr_alloc _ _)).trans (fr_alloc _ _)).trans (fr_alloc _ _)⟩

/-- the handle of the type 'error' -/
abbrev hdE : Value := .iface 136 (.agg #[.pointer (some ⟨1, 29, none⟩)])
def glE : List (Nat × Dat) := [(0, ⟨.raw, hdE⟩)]
theorem hd_of {w : World} {ro : Nat → Prop} (h : GlOk glE w ro) : w.cell? ⟨0, 0, none⟩ = some hdE := by
  obtain ⟨_, us, h1, hn⟩ := h 0 _ (List.mem_singleton.2 rfl)
  have hn : us = [hdE] ∧ hdE.oneCell' = true := hn
  exact h1 0 hdE (by rw [hn.1]; rfl)
def cTold : Ctr := cdet [tErr] (fun (n : Int) => inK .i64 n) (fun (n : Int) => [⟨I, n⟩])
theorem okTold : PlainOk Tryd.prog glE 32 cTold := by
  intro ds k hs w R0 vals hR0 hG hD
  obtain ⟨hp, hk⟩ := hs
  obtain ⟨n, rfl, hin⟩ := dest1 hp
  have hk : k [⟨I, n⟩] := hk
  obtain ⟨hl, hd⟩ := hD
  match vals, hl with
  | [v], _ =>
    have hv : Ty.okV w R0 tErr n v := hd 0 ⟨tErr, n⟩ v rfl rfl
    unfold Ty.okV at hv
    simp only [Ty.agg, Bool.false_eq_true, if_false, Ty.ok] at hv
    have hok : ∀ {w' : World} {ro : Nat → Prop}, inK .i64 n → RetOk w' ro [(⟨I, n⟩ : Dat)] (.int .i64 n) := by
      intro w' ro hn
      show Ty.okV _ _ I n _
      unfold Ty.okV
      simp only [Ty.agg, Bool.false_eq_true, if_false, Ty.ok]
      exact ⟨trivial, hn⟩
    rcases hv with ⟨h0, hv⟩ | ⟨h0, hv⟩
    · injection hv with hv
      subst hv
      have h0 : (0 : Int) = n := h0.symm
      subst h0
      refine (show Calls Tryd.prog 32 #[.nilIface] w _ from told_nil w).mono fun e w' ⟨he, hw⟩ => ?_
      subst hw
      exact ⟨Fr.refl _ _, [⟨I, (0 : Int)⟩], _, he, hk, hok hin⟩
    · injection hv with hv
      subst hv
      refine (show Calls Tryd.prog 32 #[.iface 69 (.int .i64 n)] w _ from told_hit n w (hd_of hG)).mono fun e w' ⟨he, hw⟩ => ?_
      exact ⟨hw, [⟨I, n⟩], _, he, hk, hok hin⟩
theorem PlainOk.sub {P : Program} {gl gl' : List (Nat × Dat)} {f : FuncId} {c : Ctr} (hs : ∀ x ∈ gl, x ∈ gl') (h : PlainOk P gl f c) : PlainOk P gl' f c :=
  fun ds k hk w R0 vals hR0 hG hD => h ds k hk w R0 vals hR0 (fun g d hg => hG g d (hs _ hg)) hD
def cError : Ctr := cdet [tErr, I] (fun (n _ : Int) => inK .i64 n ∧ True) (fun (n e : Int) => [⟨.bool, decide (n = e)⟩])
def Er : Env := { tys := [(3, I), (4, .bool), (29, tErr), (69, I)], errT := 69, eqs := [], els := [] }
theorem Er_ok : EnvOk Tryd.prog Er := EnvOk.of_list (by kernel_rfl) (by kernel_rfl) (by kernel_rfl)
set_option linter.unusedVariables false in
theorem vcError (n e : Int) (k : List Dat → Prop) : vcF ⟨Er, [(32, cTold)], glE, [], []⟩ [] (Tryd.f6.body.getD .skip) Tryd.f6.ntmps [(.tmp 4, .bool)] [⟨tErr, n⟩, ⟨I, e⟩] k = (
  IntKind.i64.wrap n = n ∧ k [Dat.mk Ty.bool (decide (n = e))]) := by kernel_rfl
theorem okError : PlainOk Tryd.prog glE 6 cError := by
  refine plain_of (CxOk.mk' Er_ok rfl (by kernel_rfl) (gl := glE) (GOk.cons okTold Tryd.func32 (by kernel_rfl) (by kernel_rfl) GOk.nil) GoOk.nil noIt) Tryd.func6 (c := Tryd.f6.body.getD .skip) (rvs := [(.tmp 4, .bool)]) (by kernel_rfl) (by kernel_rfl) (by kernel_rfl) ?_
  intro ds k ⟨hp, hk⟩ hwf
  obtain ⟨n, e, rfl, hin, -⟩ := dest2 hp
  have hk : k [⟨.bool, decide (n = e)⟩] := hk
  refine ⟨[], ?_⟩
  rw [vcError]
  exact ⟨hin, hk⟩
theorem glE_of {laid : List (String × DataW Unit)} (hm : ("errors.errorType", Rows.laid_errors_errorType) ∈ laid) {W : World} (h : laidMetH Tryd.prog laid W) : GlOk glE W fun b => b < W.heap.size :=
  gl_of_handle (n := "errors.errorType") (u := 136) (ty := 29) (d := Rows.laid_errors_errorType) h hm rfl rfl (by kernel_rfl) (by kernel_rfl) (by kernel_rfl) (by kernel_rfl) rfl
end Go.Proofs.YtgcliogognkdkaaDoor

/- What the functions of this seat have to satisfy, by program: each verification condition in plain words. -/
namespace Go.Proofs.YtgcliogognkdkaaDoor
open Go.Vc
set_option linter.unusedVariables false
theorem vcLawS (v w : List Int) (a b : Bag) (e n : Int) (k : List Dat → Prop) : vcF ⟨Eb, [(5, cRCounts), (6, cError), (7, cCounts), (8, cUp), (9, cInts), (10, cMost), (11, cRBag), (12, cCheck), (13, cRElems), (14, cElems), (15, cRDropped), (16, cDrop), (17, cSameB), (18, cRNext), (19, cRPut), (20, cAdd), (21, cRAll), (22, cJoin)], glE, [], []⟩ (anLawS v w a b e n) (Tryd.f3.body.getD .skip) Tryd.f3.ntmps [(.tmp 12, .bool)] [⟨.sl I, v⟩, ⟨.sl I, w⟩, ⟨tB, a⟩, ⟨tB, b⟩, ⟨I, e⟩, ⟨I, n⟩] k = (
  True ∧ True ∧ (inK IntKind.i64 (cntE v) ∧ True) ∧ ((decide (cntE v = (0 : Int)) = true → (decide (n < (0 : Int)) = true → ∃ (x : Unit), (True ∧ True) ∧ (v = v ∧ w = w ∧ e = e ∧ n = n ∧ ([] : List Nat) = [] ∧ ([] : List Nat) = [] ∧ cntE v = cntE v ∧ decide (cntE v = cntE v) = true ∧ True ∧ True ∧ (1 : Int) = upF v n ∧ True) ∧ (((25 : Nat) = (25 : Nat) ∧ a = a) ∧ ((25 : Nat) = (25 : Nat) ∧ b = b) ∧ True) ∧ hdE = hdE ∧ True) ∧ (decide (n < (0 : Int)) = false → (decide ((↑v.length : Int) ≤ n) = true → ∃ (x : Unit), (True ∧ True) ∧ (v = v ∧ w = w ∧ e = e ∧ n = n ∧ ([] : List Nat) = [] ∧ ([] : List Nat) = [] ∧ cntE v = cntE v ∧ decide (cntE v = cntE v) = true ∧ True ∧ True ∧ (1 : Int) = upF v n ∧ True) ∧ (((25 : Nat) = (25 : Nat) ∧ a = a) ∧ ((25 : Nat) = (25 : Nat) ∧ b = b) ∧ True) ∧ hdE = hdE ∧ True) ∧ (decide ((↑v.length : Int) ≤ n) = false → ∃ (x : Unit), (True ∧ True) ∧ (v = v ∧ w = w ∧ e = e ∧ n = n ∧ ([] : List Nat) = [] ∧ ([] : List Nat) = [] ∧ cntE v = cntE v ∧ decide (cntE v = cntE v) = true ∧ True ∧ True ∧ cntE v = upF v n ∧ True) ∧ (((25 : Nat) = (25 : Nat) ∧ a = a) ∧ ((25 : Nat) = (25 : Nat) ∧ b = b) ∧ True) ∧ hdE = hdE ∧ True))) ∧ (decide (cntE v = (0 : Int)) = false → ∃ (x : Unit), (True ∧ True) ∧ (v = v ∧ w = w ∧ e = e ∧ n = n ∧ ([] : List Nat) = [] ∧ ([] : List Nat) = [] ∧ cntE v = cntE v ∧ decide (cntE v = cntE v) = true ∧ True ∧ True ∧ cntE v = upF v n ∧ True) ∧ (((25 : Nat) = (25 : Nat) ∧ a = a) ∧ ((25 : Nat) = (25 : Nat) ∧ b = b) ∧ True) ∧ hdE = hdE ∧ True)) ∧ ∀ (x : Unit), True ∧ True → ((decide (upF v n = (0 : Int)) = true → (0 : Int) ≤ n ∧ n < (↑v.length : Int) ∧ (decide ((1000000 : Int) ≤ v.getD n.toNat (0 : Int)) = true → ∃ (x : Unit), (True ∧ True) ∧ (v = v ∧ w = w ∧ e = e ∧ n = n ∧ ([] : List Nat) = [] ∧ ([] : List Nat) = [] ∧ cntE v = cntE v ∧ true = true ∧ True ∧ True ∧ (4 : Int) = upE v n ∧ True) ∧ (((25 : Nat) = (25 : Nat) ∧ a = a) ∧ ((25 : Nat) = (25 : Nat) ∧ b = b) ∧ True) ∧ hdE = hdE ∧ True) ∧ (decide ((1000000 : Int) ≤ v.getD n.toNat (0 : Int)) = false → ∃ (x : Unit), (True ∧ True) ∧ (v = v ∧ w = w ∧ e = e ∧ n = n ∧ ([] : List Nat) = [] ∧ ([] : List Nat) = [] ∧ cntE v = cntE v ∧ true = true ∧ True ∧ True ∧ upF v n = upE v n ∧ True) ∧ (((25 : Nat) = (25 : Nat) ∧ a = a) ∧ ((25 : Nat) = (25 : Nat) ∧ b = b) ∧ True) ∧ hdE = hdE ∧ True)) ∧ (decide (upF v n = (0 : Int)) = false → ∃ (x : Unit), (True ∧ True) ∧ (v = v ∧ w = w ∧ e = e ∧ n = n ∧ ([] : List Nat) = [] ∧ ([] : List Nat) = [] ∧ cntE v = cntE v ∧ true = true ∧ True ∧ True ∧ upF v n = upE v n ∧ True) ∧ (((25 : Nat) = (25 : Nat) ∧ a = a) ∧ ((25 : Nat) = (25 : Nat) ∧ b = b) ∧ True) ∧ hdE = hdE ∧ True)) ∧ ∀ (x : Unit), True ∧ True → ((decide (upE v n = (0 : Int)) = true → v.length ≤ (1000000000 : Nat) ∧ (0 : Int) ≤ n ∧ n < (↑v.length : Int) ∧ inK IntKind.i64 (v.getD n.toNat (0 : Int) + (1 : Int)) ∧ (0 : Int) ≤ n ∧ n < (↑v.length : Int) ∧ ∃ (x : Unit), (True ∧ True) ∧ (v = v ∧ w = w ∧ e = e ∧ n = n ∧ ([] : List Nat) = [] ∧ ([] : List Nat) = [] ∧ cntE v = cntE v ∧ true = true ∧ True ∧ True ∧ upE v n = upE v n ∧ True) ∧ (((25 : Nat) = (25 : Nat) ∧ a = a) ∧ ((25 : Nat) = (25 : Nat) ∧ b = b) ∧ ((3 : Nat) = (3 : Nat) ∧ v.set n.toNat (v.getD n.toNat (0 : Int) + (1 : Int)) = upR v n) ∧ True) ∧ hdE = hdE ∧ True) ∧ (decide (upE v n = (0 : Int)) = false → ∃ (x : Unit), (True ∧ True) ∧ (v = v ∧ w = w ∧ e = e ∧ n = n ∧ ([] : List Nat) = [] ∧ ([] : List Nat) = [] ∧ cntE v = cntE v ∧ true = true ∧ True ∧ True ∧ upE v n = upE v n ∧ True) ∧ (((25 : Nat) = (25 : Nat) ∧ a = a) ∧ ((25 : Nat) = (25 : Nat) ∧ b = b) ∧ ((3 : Nat) = (3 : Nat) ∧ [] = upR v n) ∧ True) ∧ hdE = hdE ∧ True)) ∧ ∀ (x : Unit), True ∧ True → True ∧ ((inK IntKind.i64 (upE v n) ∧ True) ∧ (decide (upE v n = upE v n) = true → True ∧ ∃ (x : Unit), (True ∧ True) ∧ (v = v ∧ w = w ∧ e = e ∧ n = n ∧ ([] : List Nat) = [] ∧ ([] : List Nat) = [] ∧ cntE v = cntE v ∧ true = true ∧ True ∧ decide (upR v n = upR v n) = true ∧ True) ∧ (((25 : Nat) = (25 : Nat) ∧ a = a) ∧ ((25 : Nat) = (25 : Nat) ∧ b = b) ∧ True) ∧ hdE = hdE ∧ True) ∧ (decide (upE v n = upE v n) = false → ∃ (x : Unit), (True ∧ True) ∧ (v = v ∧ w = w ∧ e = e ∧ n = n ∧ ([] : List Nat) = [] ∧ ([] : List Nat) = [] ∧ cntE v = cntE v ∧ true = true ∧ True ∧ false = true ∧ True) ∧ (((25 : Nat) = (25 : Nat) ∧ a = a) ∧ ((25 : Nat) = (25 : Nat) ∧ b = b) ∧ True) ∧ hdE = hdE ∧ True)) ∧ ∀ (x : Unit), True ∧ True → ((decide (cntE v = (0 : Int)) = true → True ∧ ∃ (x : Unit), (True ∧ True) ∧ (v = v ∧ w = w ∧ e = e ∧ n = n ∧ ([] : List Nat) = [] ∧ ([] : List Nat) = [] ∧ cntE w = mostF v w ∧ true = true ∧ True ∧ true = true ∧ True) ∧ (((25 : Nat) = (25 : Nat) ∧ a = a) ∧ ((25 : Nat) = (25 : Nat) ∧ b = b) ∧ True) ∧ hdE = hdE ∧ True) ∧ (decide (cntE v = (0 : Int)) = false → ∃ (x : Unit), (True ∧ True) ∧ (v = v ∧ w = w ∧ e = e ∧ n = n ∧ ([] : List Nat) = [] ∧ ([] : List Nat) = [] ∧ cntE v = mostF v w ∧ true = true ∧ True ∧ true = true ∧ True) ∧ (((25 : Nat) = (25 : Nat) ∧ a = a) ∧ ((25 : Nat) = (25 : Nat) ∧ b = b) ∧ True) ∧ hdE = hdE ∧ True)) ∧ ∀ (x : Unit), True ∧ True → ((decide (mostF v w = (0 : Int)) = true → ((!decide ((↑v.length : Int) = (↑w.length : Int))) = true → ∃ (x : Unit), (True ∧ True) ∧ (v = v ∧ w = w ∧ e = e ∧ n = n ∧ ([] : List Nat) = [] ∧ ([] : List Nat) = [] ∧ (3 : Int) = mostE v w ∧ true = true ∧ True ∧ true = true ∧ True) ∧ (((25 : Nat) = (25 : Nat) ∧ a = a) ∧ ((25 : Nat) = (25 : Nat) ∧ b = b) ∧ True) ∧ hdE = hdE ∧ True) ∧ ((!decide ((↑v.length : Int) = (↑w.length : Int))) = false → ∃ (x : Unit), (True ∧ True) ∧ (v = v ∧ w = w ∧ e = e ∧ n = n ∧ ([] : List Nat) = [] ∧ ([] : List Nat) = [] ∧ mostF v w = mostE v w ∧ true = true ∧ True ∧ true = true ∧ True) ∧ (((25 : Nat) = (25 : Nat) ∧ a = a) ∧ ((25 : Nat) = (25 : Nat) ∧ b = b) ∧ True) ∧ hdE = hdE ∧ True)) ∧ (decide (mostF v w = (0 : Int)) = false → ∃ (x : Unit), (True ∧ True) ∧ (v = v ∧ w = w ∧ e = e ∧ n = n ∧ ([] : List Nat) = [] ∧ ([] : List Nat) = [] ∧ mostF v w = mostE v w ∧ true = true ∧ True ∧ true = true ∧ True) ∧ (((25 : Nat) = (25 : Nat) ∧ a = a) ∧ ((25 : Nat) = (25 : Nat) ∧ b = b) ∧ True) ∧ hdE = hdE ∧ True)) ∧ ∀ (x : Unit), True ∧ True → ((∃ (x : Nat), (x ≤ v.length ∧ (mostE v w = (0 : Int) ∨ x = (0 : Nat))) ∧ (v = v ∧ w = w ∧ e = e ∧ n = n ∧ ([] : List Nat) = [] ∧ ([] : List Nat) = [] ∧ mostE v w = mostE v w ∧ true = true ∧ True ∧ true = true ∧ (0 : Int) = (↑x : Int) ∧ True) ∧ (((25 : Nat) = (25 : Nat) ∧ a = a) ∧ ((25 : Nat) = (25 : Nat) ∧ b = b) ∧ ((3 : Nat) = (3 : Nat) ∧ [] = mostP v w x) ∧ True) ∧ hdE = hdE ∧ True) ∧ ∀ (x : Nat), x ≤ v.length ∧ (mostE v w = (0 : Int) ∨ x = (0 : Nat)) → (decide ((↑x : Int) < (↑v.length : Int)) = true → (decide (mostE v w = (0 : Int)) = true → (0 : Int) ≤ (↑x : Int) ∧ (↑x : Int) < (↑v.length : Int) ∧ (0 : Int) ≤ (↑x : Int) ∧ (↑x : Int) < (↑w.length : Int) ∧ (decide (v.getD (↑x : Int).toNat (0 : Int) < w.getD (↑x : Int).toNat (0 : Int)) = true → (0 : Int) ≤ (↑x : Int) ∧ (↑x : Int) < (↑w.length : Int) ∧ (mostP v w x).length + ((List.replicate (1 : Nat) (0 : Int)).set (0 : Nat) (w.getD (↑x : Int).toNat (0 : Int))).length ≤ (1000000000 : Nat) ∧ inK IntKind.i64 ((↑x : Int) + (1 : Int)) ∧ ∃ (x_1 : Nat), (x_1 ≤ v.length ∧ (mostE v w = (0 : Int) ∨ x_1 = (0 : Nat))) ∧ v.length - x_1 < v.length - x ∧ (v = v ∧ w = w ∧ e = e ∧ n = n ∧ ([] : List Nat) = [] ∧ ([] : List Nat) = [] ∧ mostE v w = mostE v w ∧ true = true ∧ True ∧ true = true ∧ (↑x : Int) + (1 : Int) = (↑x_1 : Int) ∧ True) ∧ (((25 : Nat) = (25 : Nat) ∧ a = a) ∧ ((25 : Nat) = (25 : Nat) ∧ b = b) ∧ ((3 : Nat) = (3 : Nat) ∧ (mostP v w x).append ((List.replicate (1 : Nat) (0 : Int)).set (0 : Nat) (w.getD (↑x : Int).toNat (0 : Int))) = mostP v w x_1) ∧ True) ∧ hdE = hdE ∧ True) ∧ (decide (v.getD (↑x : Int).toNat (0 : Int) < w.getD (↑x : Int).toNat (0 : Int)) = false → (mostP v w x).length + ((List.replicate (1 : Nat) (0 : Int)).set (0 : Nat) (v.getD (↑x : Int).toNat (0 : Int))).length ≤ (1000000000 : Nat) ∧ inK IntKind.i64 ((↑x : Int) + (1 : Int)) ∧ ∃ (x_1 : Nat), (x_1 ≤ v.length ∧ (mostE v w = (0 : Int) ∨ x_1 = (0 : Nat))) ∧ v.length - x_1 < v.length - x ∧ (v = v ∧ w = w ∧ e = e ∧ n = n ∧ ([] : List Nat) = [] ∧ ([] : List Nat) = [] ∧ mostE v w = mostE v w ∧ true = true ∧ True ∧ true = true ∧ (↑x : Int) + (1 : Int) = (↑x_1 : Int) ∧ True) ∧ (((25 : Nat) = (25 : Nat) ∧ a = a) ∧ ((25 : Nat) = (25 : Nat) ∧ b = b) ∧ ((3 : Nat) = (3 : Nat) ∧ (mostP v w x).append ((List.replicate (1 : Nat) (0 : Int)).set (0 : Nat) (v.getD (↑x : Int).toNat (0 : Int))) = mostP v w x_1) ∧ True) ∧ hdE = hdE ∧ True)) ∧ (decide (mostE v w = (0 : Int)) = false → ∃ (x_1 : Unit), (True ∧ True) ∧ (v = v ∧ w = w ∧ e = e ∧ n = n ∧ ([] : List Nat) = [] ∧ ([] : List Nat) = [] ∧ mostE v w = mostE v w ∧ true = true ∧ True ∧ true = true ∧ True) ∧ (((25 : Nat) = (25 : Nat) ∧ a = a) ∧ ((25 : Nat) = (25 : Nat) ∧ b = b) ∧ ((3 : Nat) = (3 : Nat) ∧ mostP v w x = mostR v w) ∧ True) ∧ hdE = hdE ∧ True)) ∧ (decide ((↑x : Int) < (↑v.length : Int)) = false → ∃ (x_1 : Unit), (True ∧ True) ∧ (v = v ∧ w = w ∧ e = e ∧ n = n ∧ ([] : List Nat) = [] ∧ ([] : List Nat) = [] ∧ mostE v w = mostE v w ∧ true = true ∧ True ∧ true = true ∧ True) ∧ (((25 : Nat) = (25 : Nat) ∧ a = a) ∧ ((25 : Nat) = (25 : Nat) ∧ b = b) ∧ ((3 : Nat) = (3 : Nat) ∧ mostP v w x = mostR v w) ∧ True) ∧ hdE = hdE ∧ True)) ∧ ∀ (x : Unit), True ∧ True → True ∧ ((inK IntKind.i64 (mostE v w) ∧ True) ∧ (decide (mostE v w = mostE v w) = true → True ∧ ∃ (x : Unit), (True ∧ True) ∧ (e = e ∧ n = n ∧ ([] : List Nat) = [] ∧ ([] : List Nat) = [] ∧ true = true ∧ true = true ∧ decide (mostR v w = mostR v w) = true ∧ True) ∧ (((25 : Nat) = (25 : Nat) ∧ a = a) ∧ ((25 : Nat) = (25 : Nat) ∧ b = b) ∧ True) ∧ hdE = hdE ∧ True) ∧ (decide (mostE v w = mostE v w) = false → ∃ (x : Unit), (True ∧ True) ∧ (e = e ∧ n = n ∧ ([] : List Nat) = [] ∧ ([] : List Nat) = [] ∧ true = true ∧ true = true ∧ false = true ∧ True) ∧ (((25 : Nat) = (25 : Nat) ∧ a = a) ∧ ((25 : Nat) = (25 : Nat) ∧ b = b) ∧ True) ∧ hdE = hdE ∧ True)) ∧ ∀ (x : Unit), True ∧ True → True ∧ (True ∧ (inK IntKind.i64 (chkB a) ∧ True) ∧ ∃ (x : Unit), (True ∧ True) ∧ (e = e ∧ n = n ∧ ([] : List Nat) = [] ∧ ([] : List Nat) = [] ∧ chkB a = chkB a ∧ true = true ∧ true = true ∧ true = true ∧ decide (chkB a = chkB a) = true ∧ True) ∧ (((25 : Nat) = (25 : Nat) ∧ a = a) ∧ ((25 : Nat) = (25 : Nat) ∧ b = b) ∧ True) ∧ hdE = hdE ∧ True) ∧ ∀ (x : Unit), True ∧ True → ((decide (chkB a = (0 : Int)) = true → True ∧ ∃ (x : Unit), (True ∧ True) ∧ (e = e ∧ n = n ∧ ([] : List Nat) = [] ∧ ([] : List Nat) = [] ∧ chkB a = chkB a ∧ true = true ∧ true = true ∧ true = true ∧ true = true ∧ elsR a (10 : Nat) = elems a ∧ True) ∧ (((25 : Nat) = (25 : Nat) ∧ a = a) ∧ ((25 : Nat) = (25 : Nat) ∧ b = b) ∧ True) ∧ hdE = hdE ∧ True) ∧ (decide (chkB a = (0 : Int)) = false → ∃ (x : Unit), (True ∧ True) ∧ (e = e ∧ n = n ∧ ([] : List Nat) = [] ∧ ([] : List Nat) = [] ∧ chkB a = chkB a ∧ true = true ∧ true = true ∧ true = true ∧ true = true ∧ elems a = [] ∧ True) ∧ (((25 : Nat) = (25 : Nat) ∧ a = a) ∧ ((25 : Nat) = (25 : Nat) ∧ b = b) ∧ True) ∧ hdE = hdE ∧ True)) ∧ ∀ (x : Unit), True ∧ True → True ∧ ((inK IntKind.i64 (chkB a) ∧ True) ∧ (decide (chkB a = chkB a) = true → True ∧ ∃ (x : Unit), (True ∧ True) ∧ (e = e ∧ n = n ∧ ([] : List Nat) = [] ∧ ([] : List Nat) = [] ∧ chkB a = chkB a ∧ true = true ∧ true = true ∧ true = true ∧ true = true ∧ decide (elems a = elems a) = true ∧ True) ∧ (((25 : Nat) = (25 : Nat) ∧ a = a) ∧ ((25 : Nat) = (25 : Nat) ∧ b = b) ∧ True) ∧ hdE = hdE ∧ True) ∧ (decide (chkB a = chkB a) = false → ∃ (x : Unit), (True ∧ True) ∧ (e = e ∧ n = n ∧ ([] : List Nat) = [] ∧ ([] : List Nat) = [] ∧ chkB a = chkB a ∧ true = true ∧ true = true ∧ true = true ∧ true = true ∧ false = true ∧ True) ∧ (((25 : Nat) = (25 : Nat) ∧ a = a) ∧ ((25 : Nat) = (25 : Nat) ∧ b = b) ∧ True) ∧ hdE = hdE ∧ True)) ∧ ∀ (x : Unit), True ∧ True → ((decide (chkB a = (0 : Int)) = true → (decide (e < (0 : Int)) = true → ∃ (x : Unit), (True ∧ True) ∧ (e = e ∧ n = n ∧ ([] : List Nat) = [] ∧ ([] : List Nat) = [] ∧ chkB a = chkB a ∧ true = true ∧ (1 : Int) = dropE a e ∧ true = true ∧ true = true ∧ true = true ∧ true = true ∧ True) ∧ (((25 : Nat) = (25 : Nat) ∧ a = a) ∧ ((25 : Nat) = (25 : Nat) ∧ b = b) ∧ True) ∧ hdE = hdE ∧ True) ∧ (decide (e < (0 : Int)) = false → (decide ((9 : Int) < e) = true → ∃ (x : Unit), (True ∧ True) ∧ (e = e ∧ n = n ∧ ([] : List Nat) = [] ∧ ([] : List Nat) = [] ∧ chkB a = chkB a ∧ true = true ∧ (1 : Int) = dropE a e ∧ true = true ∧ true = true ∧ true = true ∧ true = true ∧ True) ∧ (((25 : Nat) = (25 : Nat) ∧ a = a) ∧ ((25 : Nat) = (25 : Nat) ∧ b = b) ∧ True) ∧ hdE = hdE ∧ True) ∧ (decide ((9 : Int) < e) = false → ∃ (x : Unit), (True ∧ True) ∧ (e = e ∧ n = n ∧ ([] : List Nat) = [] ∧ ([] : List Nat) = [] ∧ chkB a = chkB a ∧ true = true ∧ chkB a = dropE a e ∧ true = true ∧ true = true ∧ true = true ∧ true = true ∧ True) ∧ (((25 : Nat) = (25 : Nat) ∧ a = a) ∧ ((25 : Nat) = (25 : Nat) ∧ b = b) ∧ True) ∧ hdE = hdE ∧ True))) ∧ (decide (chkB a = (0 : Int)) = false → ∃ (x : Unit), (True ∧ True) ∧ (e = e ∧ n = n ∧ ([] : List Nat) = [] ∧ ([] : List Nat) = [] ∧ chkB a = chkB a ∧ true = true ∧ chkB a = dropE a e ∧ true = true ∧ true = true ∧ true = true ∧ true = true ∧ True) ∧ (((25 : Nat) = (25 : Nat) ∧ a = a) ∧ ((25 : Nat) = (25 : Nat) ∧ b = b) ∧ True) ∧ hdE = hdE ∧ True)) ∧ ∀ (x : Unit), True ∧ True → ((decide (dropE a e = (0 : Int)) = true → (List.length a.fst + List.length a.snd.fst ≤ (10000 : Nat) ∧ True) ∧ ∃ (x : Unit), (True ∧ True) ∧ (e = e ∧ n = n ∧ ([] : List Nat) = [] ∧ ([] : List Nat) = [] ∧ chkB a = chkB a ∧ true = true ∧ dropE a e = dropE a e ∧ true = true ∧ true = true ∧ true = true ∧ true = true ∧ ([] : List Nat) = [] ∧ True) ∧ (((25 : Nat) = (25 : Nat) ∧ a = a) ∧ ((25 : Nat) = (25 : Nat) ∧ b = b) ∧ ((25 : Nat) = (25 : Nat) ∧ (a.fst, goneU a e (List.length a.fst), ()) = dropB a e) ∧ True) ∧ hdE = hdE ∧ True) ∧ (decide (dropE a e = (0 : Int)) = false → ∃ (x : Unit), (True ∧ True) ∧ (e = e ∧ n = n ∧ ([] : List Nat) = [] ∧ ([] : List Nat) = [] ∧ chkB a = chkB a ∧ true = true ∧ dropE a e = dropE a e ∧ true = true ∧ true = true ∧ true = true ∧ true = true ∧ ([] : List Nat) = [] ∧ True) ∧ (((25 : Nat) = (25 : Nat) ∧ a = a) ∧ ((25 : Nat) = (25 : Nat) ∧ b = b) ∧ ((25 : Nat) = (25 : Nat) ∧ ([], [], ()) = dropB a e) ∧ True) ∧ hdE = hdE ∧ True)) ∧ ∀ (x : Unit), True ∧ True → True ∧ ((inK IntKind.i64 (dropE a e) ∧ True) ∧ (decide (dropE a e = dropE a e) = true → True ∧ ∃ (x : Unit), (True ∧ True) ∧ (e = e ∧ n = n ∧ ([] : List Nat) = [] ∧ ([] : List Nat) = [] ∧ chkB a = chkB a ∧ true = true ∧ dropE a e = dropE a e ∧ true = true ∧ true = true ∧ true = true ∧ true = true ∧ ([] : List Nat) = [] ∧ ([] : List Nat) = [] ∧ (decide ((dropB a e).fst = (dropB a e).fst) && decide ((dropB a e).snd.fst = (dropB a e).snd.fst)) = true ∧ True) ∧ (((25 : Nat) = (25 : Nat) ∧ a = a) ∧ ((25 : Nat) = (25 : Nat) ∧ b = b) ∧ ((25 : Nat) = (25 : Nat) ∧ dropB a e = dropB a e) ∧ ((25 : Nat) = (25 : Nat) ∧ dropB a e = dropB a e) ∧ True) ∧ hdE = hdE ∧ True) ∧ (decide (dropE a e = dropE a e) = false → ∃ (x : Unit), (True ∧ True) ∧ (e = e ∧ n = n ∧ ([] : List Nat) = [] ∧ ([] : List Nat) = [] ∧ chkB a = chkB a ∧ true = true ∧ dropE a e = dropE a e ∧ true = true ∧ true = true ∧ true = true ∧ true = true ∧ ([] : List Nat) = [] ∧ ([] : List Nat) = [] ∧ false = true ∧ True) ∧ (((25 : Nat) = (25 : Nat) ∧ a = a) ∧ ((25 : Nat) = (25 : Nat) ∧ b = b) ∧ ((25 : Nat) = (25 : Nat) ∧ dropB a e = dropB a e) ∧ ((25 : Nat) = (25 : Nat) ∧ dropB a e = dropB a e) ∧ True) ∧ hdE = hdE ∧ True)) ∧ ∀ (x : Unit), True ∧ True → ((decide (dropE a e = (0 : Int)) = true → (decide (n < (0 : Int)) = true → ∃ (x : Unit), (True ∧ True) ∧ (e = e ∧ n = n ∧ ([] : List Nat) = [] ∧ ([] : List Nat) = [] ∧ chkB a = chkB a ∧ true = true ∧ (1 : Int) = addF a e n ∧ true = true ∧ true = true ∧ true = true ∧ true = true ∧ ([] : List Nat) = [] ∧ ([] : List Nat) = [] ∧ true = true ∧ True) ∧ (((25 : Nat) = (25 : Nat) ∧ a = a) ∧ ((25 : Nat) = (25 : Nat) ∧ b = b) ∧ ((25 : Nat) = (25 : Nat) ∧ dropB a e = dropB a e) ∧ ((25 : Nat) = (25 : Nat) ∧ dropB a e = dropB a e) ∧ True) ∧ hdE = hdE ∧ True) ∧ (decide (n < (0 : Int)) = false → (decide ((4 : Int) < n) = true → ∃ (x : Unit), (True ∧ True) ∧ (e = e ∧ n = n ∧ ([] : List Nat) = [] ∧ ([] : List Nat) = [] ∧ chkB a = chkB a ∧ true = true ∧ (1 : Int) = addF a e n ∧ true = true ∧ true = true ∧ true = true ∧ true = true ∧ ([] : List Nat) = [] ∧ ([] : List Nat) = [] ∧ true = true ∧ True) ∧ (((25 : Nat) = (25 : Nat) ∧ a = a) ∧ ((25 : Nat) = (25 : Nat) ∧ b = b) ∧ ((25 : Nat) = (25 : Nat) ∧ dropB a e = dropB a e) ∧ ((25 : Nat) = (25 : Nat) ∧ dropB a e = dropB a e) ∧ True) ∧ hdE = hdE ∧ True) ∧ (decide ((4 : Int) < n) = false → ∃ (x : Unit), (True ∧ True) ∧ (e = e ∧ n = n ∧ ([] : List Nat) = [] ∧ ([] : List Nat) = [] ∧ chkB a = chkB a ∧ true = true ∧ dropE a e = addF a e n ∧ true = true ∧ true = true ∧ true = true ∧ true = true ∧ ([] : List Nat) = [] ∧ ([] : List Nat) = [] ∧ true = true ∧ True) ∧ (((25 : Nat) = (25 : Nat) ∧ a = a) ∧ ((25 : Nat) = (25 : Nat) ∧ b = b) ∧ ((25 : Nat) = (25 : Nat) ∧ dropB a e = dropB a e) ∧ ((25 : Nat) = (25 : Nat) ∧ dropB a e = dropB a e) ∧ True) ∧ hdE = hdE ∧ True))) ∧ (decide (dropE a e = (0 : Int)) = false → ∃ (x : Unit), (True ∧ True) ∧ (e = e ∧ n = n ∧ ([] : List Nat) = [] ∧ ([] : List Nat) = [] ∧ chkB a = chkB a ∧ true = true ∧ dropE a e = addF a e n ∧ true = true ∧ true = true ∧ true = true ∧ true = true ∧ ([] : List Nat) = [] ∧ ([] : List Nat) = [] ∧ true = true ∧ True) ∧ (((25 : Nat) = (25 : Nat) ∧ a = a) ∧ ((25 : Nat) = (25 : Nat) ∧ b = b) ∧ ((25 : Nat) = (25 : Nat) ∧ dropB a e = dropB a e) ∧ ((25 : Nat) = (25 : Nat) ∧ dropB a e = dropB a e) ∧ True) ∧ hdE = hdE ∧ True)) ∧ ∀ (x : Unit), True ∧ True → ((decide (addF a e n = (0 : Int)) = true → (decide ((24 : Int) ≤ (↑(List.length a.fst) : Int)) = true → ∃ (x : Unit), (True ∧ True) ∧ (e = e ∧ n = n ∧ ([] : List Nat) = [] ∧ ([] : List Nat) = [] ∧ chkB a = chkB a ∧ true = true ∧ (4 : Int) = addE a e n ∧ true = true ∧ true = true ∧ true = true ∧ true = true ∧ ([] : List Nat) = [] ∧ ([] : List Nat) = [] ∧ true = true ∧ True) ∧ (((25 : Nat) = (25 : Nat) ∧ a = a) ∧ ((25 : Nat) = (25 : Nat) ∧ b = b) ∧ ((25 : Nat) = (25 : Nat) ∧ dropB a e = dropB a e) ∧ ((25 : Nat) = (25 : Nat) ∧ dropB a e = dropB a e) ∧ True) ∧ hdE = hdE ∧ True) ∧ (decide ((24 : Int) ≤ (↑(List.length a.fst) : Int)) = false → (tagsE a.fst = (0 : Int) ∧ True) ∧ (decide ((1000000 : Int) < maxC a.fst n (List.length a.fst) + (1 : I.D)) = true → ∃ (x : Unit), (True ∧ True) ∧ (e = e ∧ n = n ∧ ([] : List Nat) = [] ∧ ([] : List Nat) = [] ∧ chkB a = chkB a ∧ true = true ∧ (4 : Int) = addE a e n ∧ true = true ∧ true = true ∧ true = true ∧ true = true ∧ ([] : List Nat) = [] ∧ ([] : List Nat) = [] ∧ true = true ∧ True) ∧ (((25 : Nat) = (25 : Nat) ∧ a = a) ∧ ((25 : Nat) = (25 : Nat) ∧ b = b) ∧ ((25 : Nat) = (25 : Nat) ∧ dropB a e = dropB a e) ∧ ((25 : Nat) = (25 : Nat) ∧ dropB a e = dropB a e) ∧ True) ∧ hdE = hdE ∧ True) ∧ (decide ((1000000 : Int) < maxC a.fst n (List.length a.fst) + (1 : I.D)) = false → ∃ (x : Unit), (True ∧ True) ∧ (e = e ∧ n = n ∧ ([] : List Nat) = [] ∧ ([] : List Nat) = [] ∧ chkB a = chkB a ∧ true = true ∧ addF a e n = addE a e n ∧ true = true ∧ true = true ∧ true = true ∧ true = true ∧ ([] : List Nat) = [] ∧ ([] : List Nat) = [] ∧ true = true ∧ True) ∧ (((25 : Nat) = (25 : Nat) ∧ a = a) ∧ ((25 : Nat) = (25 : Nat) ∧ b = b) ∧ ((25 : Nat) = (25 : Nat) ∧ dropB a e = dropB a e) ∧ ((25 : Nat) = (25 : Nat) ∧ dropB a e = dropB a e) ∧ True) ∧ hdE = hdE ∧ True))) ∧ (decide (addF a e n = (0 : Int)) = false → ∃ (x : Unit), (True ∧ True) ∧ (e = e ∧ n = n ∧ ([] : List Nat) = [] ∧ ([] : List Nat) = [] ∧ chkB a = chkB a ∧ true = true ∧ addF a e n = addE a e n ∧ true = true ∧ true = true ∧ true = true ∧ true = true ∧ ([] : List Nat) = [] ∧ ([] : List Nat) = [] ∧ true = true ∧ True) ∧ (((25 : Nat) = (25 : Nat) ∧ a = a) ∧ ((25 : Nat) = (25 : Nat) ∧ b = b) ∧ ((25 : Nat) = (25 : Nat) ∧ dropB a e = dropB a e) ∧ ((25 : Nat) = (25 : Nat) ∧ dropB a e = dropB a e) ∧ True) ∧ hdE = hdE ∧ True)) ∧ ∀ (x : Unit), True ∧ True → ((decide (addE a e n = (0 : Int)) = true → ((tagsE a.fst = (0 : Int) ∧ True) ∧ (List.length a.fst ≤ (100000 : Nat) ∧ True) ∧ True) ∧ ∃ (x : Unit), (True ∧ True) ∧ (e = e ∧ n = n ∧ ([] : List Nat) = [] ∧ ([] : List Nat) = [] ∧ chkB a = chkB a ∧ true = true ∧ addE a e n = addE a e n ∧ true = true ∧ true = true ∧ true = true ∧ true = true ∧ ([] : List Nat) = [] ∧ ([] : List Nat) = [] ∧ true = true ∧ True) ∧ (((25 : Nat) = (25 : Nat) ∧ a = a) ∧ ((25 : Nat) = (25 : Nat) ∧ b = b) ∧ ((25 : Nat) = (25 : Nat) ∧ (putL a.fst (e, n, maxC a.fst n (List.length a.fst) + (1 : I.D), ()), a.snd.fst, ()) = addB a e n) ∧ ((25 : Nat) = (25 : Nat) ∧ dropB a e = dropB a e) ∧ True) ∧ hdE = hdE ∧ True) ∧ (decide (addE a e n = (0 : Int)) = false → ∃ (x : Unit), (True ∧ True) ∧ (e = e ∧ n = n ∧ ([] : List Nat) = [] ∧ ([] : List Nat) = [] ∧ chkB a = chkB a ∧ true = true ∧ addE a e n = addE a e n ∧ true = true ∧ true = true ∧ true = true ∧ true = true ∧ ([] : List Nat) = [] ∧ ([] : List Nat) = [] ∧ true = true ∧ True) ∧ (((25 : Nat) = (25 : Nat) ∧ a = a) ∧ ((25 : Nat) = (25 : Nat) ∧ b = b) ∧ ((25 : Nat) = (25 : Nat) ∧ ([], [], ()) = addB a e n) ∧ ((25 : Nat) = (25 : Nat) ∧ dropB a e = dropB a e) ∧ True) ∧ hdE = hdE ∧ True)) ∧ ∀ (x : Unit), True ∧ True → True ∧ ((inK IntKind.i64 (addE a e n) ∧ True) ∧ (decide (addE a e n = addE a e n) = true → True ∧ ∃ (x : Unit), (True ∧ True) ∧ (([] : List Nat) = [] ∧ ([] : List Nat) = [] ∧ chkB a = chkB a ∧ true = true ∧ true = true ∧ true = true ∧ true = true ∧ true = true ∧ ([] : List Nat) = [] ∧ ([] : List Nat) = [] ∧ true = true ∧ (decide ((addB a e n).fst = (addB a e n).fst) && decide ((addB a e n).snd.fst = (addB a e n).snd.fst)) = true ∧ True) ∧ (((25 : Nat) = (25 : Nat) ∧ a = a) ∧ ((25 : Nat) = (25 : Nat) ∧ b = b) ∧ ((25 : Nat) = (25 : Nat) ∧ addB a e n = addB a e n) ∧ ((25 : Nat) = (25 : Nat) ∧ addB a e n = addB a e n) ∧ True) ∧ hdE = hdE ∧ True) ∧ (decide (addE a e n = addE a e n) = false → ∃ (x : Unit), (True ∧ True) ∧ (([] : List Nat) = [] ∧ ([] : List Nat) = [] ∧ chkB a = chkB a ∧ true = true ∧ true = true ∧ true = true ∧ true = true ∧ true = true ∧ ([] : List Nat) = [] ∧ ([] : List Nat) = [] ∧ true = true ∧ false = true ∧ True) ∧ (((25 : Nat) = (25 : Nat) ∧ a = a) ∧ ((25 : Nat) = (25 : Nat) ∧ b = b) ∧ ((25 : Nat) = (25 : Nat) ∧ addB a e n = addB a e n) ∧ ((25 : Nat) = (25 : Nat) ∧ addB a e n = addB a e n) ∧ True) ∧ hdE = hdE ∧ True)) ∧ ∀ (x : Unit), True ∧ True → ((decide (chkB a = (0 : Int)) = true → True ∧ ∃ (x : Unit), (True ∧ True) ∧ (([] : List Nat) = [] ∧ ([] : List Nat) = [] ∧ chkB b = joinF a b ∧ true = true ∧ true = true ∧ true = true ∧ true = true ∧ true = true ∧ ([] : List Nat) = [] ∧ ([] : List Nat) = [] ∧ true = true ∧ true = true ∧ True) ∧ (((25 : Nat) = (25 : Nat) ∧ a = a) ∧ ((25 : Nat) = (25 : Nat) ∧ b = b) ∧ ((25 : Nat) = (25 : Nat) ∧ addB a e n = addB a e n) ∧ ((25 : Nat) = (25 : Nat) ∧ addB a e n = addB a e n) ∧ True) ∧ hdE = hdE ∧ True) ∧ (decide (chkB a = (0 : Int)) = false → ∃ (x : Unit), (True ∧ True) ∧ (([] : List Nat) = [] ∧ ([] : List Nat) = [] ∧ chkB a = joinF a b ∧ true = true ∧ true = true ∧ true = true ∧ true = true ∧ true = true ∧ ([] : List Nat) = [] ∧ ([] : List Nat) = [] ∧ true = true ∧ true = true ∧ True) ∧ (((25 : Nat) = (25 : Nat) ∧ a = a) ∧ ((25 : Nat) = (25 : Nat) ∧ b = b) ∧ ((25 : Nat) = (25 : Nat) ∧ addB a e n = addB a e n) ∧ ((25 : Nat) = (25 : Nat) ∧ addB a e n = addB a e n) ∧ True) ∧ hdE = hdE ∧ True)) ∧ ∀ (x : Unit), True ∧ True → ((decide (joinF a b = (0 : Int)) = true → (List.length a.fst + List.length b.fst ≤ (10000 : Nat) ∧ True) ∧ (List.length a.snd.fst + List.length b.snd.fst ≤ (10000 : Nat) ∧ True) ∧ (decide ((24 : Int) < (↑(allU a.fst b.fst (List.length b.fst)).length : Int)) = true → ∃ (x : Unit), (True ∧ True) ∧ (([] : List Nat) = [] ∧ ([] : List Nat) = [] ∧ (4 : Int) = joinE a b ∧ true = true ∧ true = true ∧ true = true ∧ true = true ∧ true = true ∧ ([] : List Nat) = [] ∧ ([] : List Nat) = [] ∧ true = true ∧ true = true ∧ True) ∧ (((25 : Nat) = (25 : Nat) ∧ a = a) ∧ ((25 : Nat) = (25 : Nat) ∧ b = b) ∧ ((25 : Nat) = (25 : Nat) ∧ ([], [], ()) = joinB a b) ∧ ((25 : Nat) = (25 : Nat) ∧ addB a e n = addB a e n) ∧ True) ∧ hdE = hdE ∧ True) ∧ (decide ((24 : Int) < (↑(allU a.fst b.fst (List.length b.fst)).length : Int)) = false → ∃ (x : Unit), (True ∧ True) ∧ (([] : List Nat) = [] ∧ ([] : List Nat) = [] ∧ joinF a b = joinE a b ∧ true = true ∧ true = true ∧ true = true ∧ true = true ∧ true = true ∧ ([] : List Nat) = [] ∧ ([] : List Nat) = [] ∧ true = true ∧ true = true ∧ True) ∧ (((25 : Nat) = (25 : Nat) ∧ a = a) ∧ ((25 : Nat) = (25 : Nat) ∧ b = b) ∧ ((25 : Nat) = (25 : Nat) ∧ (allU a.fst b.fst (List.length b.fst), allU a.snd.fst b.snd.fst (List.length b.snd.fst), ()) = joinB a b) ∧ ((25 : Nat) = (25 : Nat) ∧ addB a e n = addB a e n) ∧ True) ∧ hdE = hdE ∧ True)) ∧ (decide (joinF a b = (0 : Int)) = false → ∃ (x : Unit), (True ∧ True) ∧ (([] : List Nat) = [] ∧ ([] : List Nat) = [] ∧ joinF a b = joinE a b ∧ true = true ∧ true = true ∧ true = true ∧ true = true ∧ true = true ∧ ([] : List Nat) = [] ∧ ([] : List Nat) = [] ∧ true = true ∧ true = true ∧ True) ∧ (((25 : Nat) = (25 : Nat) ∧ a = a) ∧ ((25 : Nat) = (25 : Nat) ∧ b = b) ∧ ((25 : Nat) = (25 : Nat) ∧ ([], [], ()) = joinB a b) ∧ ((25 : Nat) = (25 : Nat) ∧ addB a e n = addB a e n) ∧ True) ∧ hdE = hdE ∧ True)) ∧ ∀ (x : Unit), True ∧ True → True ∧ (true = true → (true = true → (true = true → (true = true → (true = true → (true = true → (true = true → (inK IntKind.i64 (joinE a b) ∧ True) ∧ (decide (joinE a b = joinE a b) = true → True ∧ k [Dat.mk Ty.bool (decide ((joinB a b).fst = (joinB a b).fst) && decide ((joinB a b).snd.fst = (joinB a b).snd.fst))]) ∧ (decide (joinE a b = joinE a b) = false → k [Dat.mk Ty.bool false])) ∧ (true = false → k [Dat.mk Ty.bool false])) ∧ (true = false → k [Dat.mk Ty.bool false])) ∧ (true = false → k [Dat.mk Ty.bool false])) ∧ (true = false → k [Dat.mk Ty.bool false])) ∧ (true = false → k [Dat.mk Ty.bool false])) ∧ (true = false → k [Dat.mk Ty.bool false])) ∧ (true = false → k [Dat.mk Ty.bool false])) := by kernel_rfl
end Go.Proofs.YtgcliogognkdkaaDoor

/- What the functions of this seat have to satisfy, by program: each verification condition in plain words. -/
namespace Go.Proofs.YtgcliogognkdkaaDoor
open Go.Vc
set_option linter.unusedVariables false
theorem vcWithin (a b c : Int) (k : List Dat → Prop) : vcF ⟨Eb, [], [], [], []⟩ [joinAll] (Tryd.f33.body.getD .skip) Tryd.f33.ntmps [(.tmp 6, .bool)] [⟨I, a⟩, ⟨I, b⟩, ⟨I, c⟩] k = (
  (decide (b ≤ a) = true → k [Dat.mk Ty.bool (decide (a ≤ c))]) ∧ (decide (b ≤ a) = false → k [Dat.mk Ty.bool false])) := by kernel_rfl
theorem vcNaN (a : Int) (k : List Dat → Prop) : vcF ⟨Eb, [], [], [], []⟩ [] (Tryd.f67.body.getD .skip) Tryd.f67.ntmps [(.tmp 2, .bool)] [⟨I, a⟩] k = (
  k [Dat.mk Ty.bool !decide (a = a)]) := by kernel_rfl
theorem vcCmp (a b : Int) (k : List Dat → Prop) : vcF ⟨Eb, [(67, cNaN)], [], [], []⟩ [joinAll] (Tryd.f54.body.getD .skip) Tryd.f54.ntmps [(.tmp 4, I)] [⟨I, a⟩, ⟨I, b⟩] k = (
  True ∧ True ∧ (false = true → (false = true → k [Dat.mk (I) (0 : Int)]) ∧ (false = false → k [Dat.mk (I) (-1 : Int)])) ∧ (false = false → (false = true → k [Dat.mk (I) (1 : Int)]) ∧ (false = false → (decide (a < b) = true → k [Dat.mk (I) (-1 : Int)]) ∧ (decide (a < b) = false → (decide (b < a) = true → k [Dat.mk (I) (1 : Int)]) ∧ (decide (b < a) = false → k [Dat.mk (I) (0 : Int)]))))) := by kernel_rfl
theorem vcOr (l : List Int) (k : List Dat → Prop) : vcF ⟨Eb, [], [], [], []⟩ (anOr l) (Tryd.f72.body.getD .skip) Tryd.f72.ntmps [(.tmp 2, I)] [⟨.sl I, l⟩] k = (
  (∃ (x : Nat), (x ≤ l.length ∧ orI l = orI (List.drop x l)) ∧ ((0 : Int) = (0 : Int) ∧ l = l ∧ (↑l.length : Int) = (↑l.length : Int) ∧ (0 : Int) = (↑x : Int) ∧ True) ∧ True ∧ True) ∧ ∀ (x : Nat), x ≤ l.length ∧ orI l = orI (List.drop x l) → (decide ((↑x : Int) < (↑l.length : Int)) = true → (0 : Int) ≤ (↑x : Int) ∧ (↑x : Int) < (↑l.length : Int) ∧ ((!decide (l.getD (↑x : Int).toNat (0 : Int) = (0 : Int))) = true → k [Dat.mk (I) (l.getD (↑x : Int).toNat (0 : Int))]) ∧ ((!decide (l.getD (↑x : Int).toNat (0 : Int) = (0 : Int))) = false → inK IntKind.i64 ((↑x : Int) + (1 : Int)) ∧ ∃ (x_1 : Nat), (x_1 ≤ l.length ∧ orI l = orI (List.drop x_1 l)) ∧ l.length - x_1 < l.length - x ∧ ((0 : Int) = (0 : Int) ∧ l = l ∧ (↑l.length : Int) = (↑l.length : Int) ∧ (↑x : Int) + (1 : Int) = (↑x_1 : Int) ∧ True) ∧ True ∧ True)) ∧ (decide ((↑x : Int) < (↑l.length : Int)) = false → k [Dat.mk (I) (0 : Int)])) := by kernel_rfl
theorem vcByTag (a b : Tag) (k : List Dat → Prop) : vcF ⟨Eb, [(54, cCmp), (72, cOr)], [], [], []⟩ [joinAll] (Tryd.f56.body.getD .skip) Tryd.f56.ntmps [(.tmp 4, I)] [⟨tT, a⟩, ⟨tT, b⟩] k = (
  (True ∧ True ∧ True ∧ True ∧ True) ∧ k [Dat.mk (I) (orI ((((List.replicate (3 : Nat) (0 : Int)).set (0 : Nat) (cmpI a.fst b.fst)).set (1 : Nat) (cmpI a.snd.fst b.snd.fst)).set (2 : Nat) (cmpI a.snd.snd.fst b.snd.snd.fst)))]) := by kernel_rfl
theorem vcTags (l : List Tag) (k : List Dat → Prop) : vcF ⟨Eb, [(33, cWithin), (56, cByTag)], [], [], []⟩ (anTags l) (Tryd.f37.body.getD .skip) Tryd.f37.ntmps [(.tmp 2, tErr)] [⟨.sl tT, l⟩] k = (
  (decide ((24 : Int) < (↑l.length : Int)) = true → (4 : Int) ≠ (0 : Int) ∧ k [Dat.mk (Ty.err (69 : Nat)) (4 : Int)]) ∧ (decide ((24 : Int) < (↑l.length : Int)) = false → (∃ (x : Nat), (tagsE l = tagsF l (l.length - x) x ∧ x ≤ l.length) ∧ (l = l ∧ l = l ∧ (↑l.length : Int) = (↑l.length : Int) ∧ (0 : Int) = (↑x : Int) ∧ True) ∧ True ∧ True) ∧ ∀ (x : Nat), tagsE l = tagsF l (l.length - x) x ∧ x ≤ l.length → (decide ((↑x : Int) < (↑l.length : Int)) = true → (0 : Int) ≤ (↑x : Int) ∧ (↑x : Int) < (↑l.length : Int) ∧ True ∧ ((!inB (l.getD (↑x : Int).toNat ((0 : Int), (0 : Int), (0 : Int), ())).fst (0 : Int) (9 : Int)) = true → (1 : Int) ≠ (0 : Int) ∧ k [Dat.mk (Ty.err (69 : Nat)) (1 : Int)]) ∧ ((!inB (l.getD (↑x : Int).toNat ((0 : Int), (0 : Int), (0 : Int), ())).fst (0 : Int) (9 : Int)) = false → True ∧ ((!inB (l.getD (↑x : Int).toNat ((0 : Int), (0 : Int), (0 : Int), ())).snd.fst (0 : Int) (4 : Int)) = true → (1 : Int) ≠ (0 : Int) ∧ k [Dat.mk (Ty.err (69 : Nat)) (1 : Int)]) ∧ ((!inB (l.getD (↑x : Int).toNat ((0 : Int), (0 : Int), (0 : Int), ())).snd.fst (0 : Int) (4 : Int)) = false → True ∧ ((!inB (l.getD (↑x : Int).toNat ((0 : Int), (0 : Int), (0 : Int), ())).snd.snd.fst (1 : Int) (1000000 : Int)) = true → (1 : Int) ≠ (0 : Int) ∧ k [Dat.mk (Ty.err (69 : Nat)) (1 : Int)]) ∧ ((!inB (l.getD (↑x : Int).toNat ((0 : Int), (0 : Int), (0 : Int), ())).snd.snd.fst (1 : Int) (1000000 : Int)) = false → ((decide ((0 : Int) < (↑x : Int)) = true → inK IntKind.i64 ((↑x : Int) - (1 : Int)) ∧ (0 : Int) ≤ (↑x : Int) - (1 : Int) ∧ (↑x : Int) - (1 : Int) < (↑l.length : Int) ∧ True ∧ True) ∧ (decide ((0 : Int) < (↑x : Int)) = false → True)) ∧ ((decide ((0 : Int) < (↑x : Int)) && decide ((0 : Int) ≤ cmpT (l.getD ((↑x : Int) - (1 : Int)).toNat ((0 : Int), (0 : Int), (0 : Int), ())) (l.getD (↑x : Int).toNat ((0 : Int), (0 : Int), (0 : Int), ())))) = true → (3 : Int) ≠ (0 : Int) ∧ k [Dat.mk (Ty.err (69 : Nat)) (3 : Int)]) ∧ ((decide ((0 : Int) < (↑x : Int)) && decide ((0 : Int) ≤ cmpT (l.getD ((↑x : Int) - (1 : Int)).toNat ((0 : Int), (0 : Int), (0 : Int), ())) (l.getD (↑x : Int).toNat ((0 : Int), (0 : Int), (0 : Int), ())))) = false → inK IntKind.i64 ((↑x : Int) + (1 : Int)) ∧ ∃ (x_1 : Nat), (tagsE l = tagsF l (l.length - x_1) x_1 ∧ x_1 ≤ l.length) ∧ l.length - x_1 < l.length - x ∧ (l = l ∧ l = l ∧ (↑l.length : Int) = (↑l.length : Int) ∧ (↑x : Int) + (1 : Int) = (↑x_1 : Int) ∧ True) ∧ True ∧ True))))) ∧ (decide ((↑x : Int) < (↑l.length : Int)) = false → k [Dat.mk (Ty.err (69 : Nat)) (0 : Int)]))) := by kernel_rfl
theorem vcIdx (l : List Tag) (t : Tag) (k : List Dat → Prop) : vcF ⟨Eb, [], [], [], []⟩ (anIdx l t) (Tryd.f57.body.getD .skip) Tryd.f57.ntmps [(.tmp 4, I)] [⟨.sl tT, l⟩, ⟨tT, t⟩] k = (
  (∃ (x : Nat), (idxI l t = idxF l t (l.length - x) x ∧ x ≤ l.length) ∧ (l = l ∧ ([] : List Nat) = [] ∧ l = l ∧ (↑l.length : Int) = (↑l.length : Int) ∧ (0 : Int) = (↑x : Int) ∧ True) ∧ (((46 : Nat) = (46 : Nat) ∧ t = t) ∧ True) ∧ True) ∧ ∀ (x : Nat), idxI l t = idxF l t (l.length - x) x ∧ x ≤ l.length → (decide ((↑x : Int) < (↑l.length : Int)) = true → (0 : Int) ≤ (↑x : Int) ∧ (↑x : Int) < (↑l.length : Int) ∧ ((decide (t.fst = (l.getD (↑x : Int).toNat ((0 : Int), (0 : Int), (0 : Int), ())).fst) && (decide (t.snd.fst = (l.getD (↑x : Int).toNat ((0 : Int), (0 : Int), (0 : Int), ())).snd.fst) && (decide (t.snd.snd.fst = (l.getD (↑x : Int).toNat ((0 : Int), (0 : Int), (0 : Int), ())).snd.snd.fst) && true))) = true → k [Dat.mk (I) (↑x : Int)]) ∧ ((decide (t.fst = (l.getD (↑x : Int).toNat ((0 : Int), (0 : Int), (0 : Int), ())).fst) && (decide (t.snd.fst = (l.getD (↑x : Int).toNat ((0 : Int), (0 : Int), (0 : Int), ())).snd.fst) && (decide (t.snd.snd.fst = (l.getD (↑x : Int).toNat ((0 : Int), (0 : Int), (0 : Int), ())).snd.snd.fst) && true))) = false → inK IntKind.i64 ((↑x : Int) + (1 : Int)) ∧ ∃ (x_1 : Nat), (idxI l t = idxF l t (l.length - x_1) x_1 ∧ x_1 ≤ l.length) ∧ l.length - x_1 < l.length - x ∧ (l = l ∧ ([] : List Nat) = [] ∧ l = l ∧ (↑l.length : Int) = (↑l.length : Int) ∧ (↑x : Int) + (1 : Int) = (↑x_1 : Int) ∧ True) ∧ (((46 : Nat) = (46 : Nat) ∧ t = t) ∧ True) ∧ True)) ∧ (decide ((↑x : Int) < (↑l.length : Int)) = false → k [Dat.mk (I) (-1 : Int)])) := by kernel_rfl
theorem vcHasT (l : List Tag) (t : Tag) (k : List Dat → Prop) : vcF ⟨Eb, [(57, cIdx)], [], [], []⟩ [] (Tryd.f38.body.getD .skip) Tryd.f38.ntmps [(.tmp 4, .bool)] [⟨.sl tT, l⟩, ⟨tT, t⟩] k = (
  True ∧ k [Dat.mk Ty.bool (decide ((0 : Int) ≤ idxI l t))]) := by kernel_rfl
theorem vcIdn (l : List Int) (t : Int) (k : List Dat → Prop) : vcF ⟨Eb, [], [], [], []⟩ (anIdn l t) (Tryd.f58.body.getD .skip) Tryd.f58.ntmps [(.tmp 4, I)] [⟨.sl I, l⟩, ⟨I, t⟩] k = (
  (∃ (x : Nat), (idnI l t = idnF l t (l.length - x) x ∧ x ≤ l.length) ∧ (l = l ∧ t = t ∧ l = l ∧ (↑l.length : Int) = (↑l.length : Int) ∧ (0 : Int) = (↑x : Int) ∧ True) ∧ True ∧ True) ∧ ∀ (x : Nat), idnI l t = idnF l t (l.length - x) x ∧ x ≤ l.length → (decide ((↑x : Int) < (↑l.length : Int)) = true → (0 : Int) ≤ (↑x : Int) ∧ (↑x : Int) < (↑l.length : Int) ∧ (decide (t = l.getD (↑x : Int).toNat (0 : Int)) = true → k [Dat.mk (I) (↑x : Int)]) ∧ (decide (t = l.getD (↑x : Int).toNat (0 : Int)) = false → inK IntKind.i64 ((↑x : Int) + (1 : Int)) ∧ ∃ (x_1 : Nat), (idnI l t = idnF l t (l.length - x_1) x_1 ∧ x_1 ≤ l.length) ∧ l.length - x_1 < l.length - x ∧ (l = l ∧ t = t ∧ l = l ∧ (↑l.length : Int) = (↑l.length : Int) ∧ (↑x : Int) + (1 : Int) = (↑x_1 : Int) ∧ True) ∧ True ∧ True)) ∧ (decide ((↑x : Int) < (↑l.length : Int)) = false → k [Dat.mk (I) (-1 : Int)])) := by kernel_rfl
theorem vcHasI (l : List Int) (t : Int) (k : List Dat → Prop) : vcF ⟨Eb, [(58, cIdn)], [], [], []⟩ [] (Tryd.f39.body.getD .skip) Tryd.f39.ntmps [(.tmp 4, .bool)] [⟨.sl I, l⟩, ⟨I, t⟩] k = (
  True ∧ k [Dat.mk Ty.bool (decide ((0 : Int) ≤ idnI l t))]) := by kernel_rfl
theorem vcCheck (b : Bag) (k : List Dat → Prop) : vcF ⟨Eb, [(37, cTags), (38, cHasT)], [], [], []⟩ (anCheck b) (Tryd.f12.body.getD .skip) Tryd.f12.ntmps [(.tmp 2, tErr)] [⟨tB, b⟩] k = (
  True ∧ ((!decide (tagsE b.fst = (0 : Int))) = true → k [Dat.mk (Ty.err (69 : Nat)) (tagsE b.fst)]) ∧ ((!decide (tagsE b.fst = (0 : Int))) = false → True ∧ ((!decide (tagsE b.snd.fst = (0 : Int))) = true → k [Dat.mk (Ty.err (69 : Nat)) (tagsE b.snd.fst)]) ∧ ((!decide (tagsE b.snd.fst = (0 : Int))) = false → (∃ (x : Nat), (chkB b = goneF b (b.snd.fst.length - x) x ∧ x ≤ b.snd.fst.length) ∧ (([] : List Nat) = [] ∧ b.snd.fst = b.snd.fst ∧ (↑(List.length b.snd.fst) : Int) = (↑(List.length b.snd.fst) : Int) ∧ (0 : Int) = (↑x : Int) ∧ True) ∧ (((25 : Nat) = (25 : Nat) ∧ b = b) ∧ True) ∧ True) ∧ ∀ (x : Nat), chkB b = goneF b (b.snd.fst.length - x) x ∧ x ≤ b.snd.fst.length → (decide ((↑x : Int) < (↑(List.length b.snd.fst) : Int)) = true → (0 : Int) ≤ (↑x : Int) ∧ (↑x : Int) < (↑(List.length b.snd.fst) : Int) ∧ True ∧ ((!hasT b.fst (List.getD b.snd.fst (↑x : Int).toNat ((0 : Int), (0 : Int), (0 : Int), ()))) = true → (6 : Int) ≠ (0 : Int) ∧ k [Dat.mk (Ty.err (69 : Nat)) (6 : Int)]) ∧ ((!hasT b.fst (List.getD b.snd.fst (↑x : Int).toNat ((0 : Int), (0 : Int), (0 : Int), ()))) = false → inK IntKind.i64 ((↑x : Int) + (1 : Int)) ∧ ∃ (x_1 : Nat), (chkB b = goneF b (b.snd.fst.length - x_1) x_1 ∧ x_1 ≤ b.snd.fst.length) ∧ b.snd.fst.length - x_1 < b.snd.fst.length - x ∧ (([] : List Nat) = [] ∧ b.snd.fst = b.snd.fst ∧ (↑(List.length b.snd.fst) : Int) = (↑(List.length b.snd.fst) : Int) ∧ (↑x : Int) + (1 : Int) = (↑x_1 : Int) ∧ True) ∧ (((25 : Nat) = (25 : Nat) ∧ b = b) ∧ True) ∧ True)) ∧ (decide ((↑x : Int) < (↑(List.length b.snd.fst) : Int)) = false → k [Dat.mk (Ty.err (69 : Nat)) (0 : Int)])))) := by kernel_rfl
theorem vcCounts (l : List Int) (k : List Dat → Prop) : vcF ⟨Eb, [(33, cWithin)], [], [], []⟩ (anCounts l) (Tryd.f7.body.getD .skip) Tryd.f7.ntmps [(.tmp 2, tErr)] [⟨.sl I, l⟩] k = (
  (decide ((↑l.length : Int) = (0 : Int)) = true → (5 : Int) ≠ (0 : Int) ∧ k [Dat.mk (Ty.err (69 : Nat)) (5 : Int)]) ∧ (decide ((↑l.length : Int) = (0 : Int)) = false → (decide ((5 : Int) < (↑l.length : Int)) = true → (4 : Int) ≠ (0 : Int) ∧ k [Dat.mk (Ty.err (69 : Nat)) (4 : Int)]) ∧ (decide ((5 : Int) < (↑l.length : Int)) = false → (∃ (x : Nat), (cntE l = cntF l (l.length - x) x ∧ x ≤ l.length) ∧ (l = l ∧ (↑l.length : Int) = (↑l.length : Int) ∧ (0 : Int) = (↑x : Int) ∧ True) ∧ True ∧ True) ∧ ∀ (x : Nat), cntE l = cntF l (l.length - x) x ∧ x ≤ l.length → (decide ((↑x : Int) < (↑l.length : Int)) = true → (0 : Int) ≤ (↑x : Int) ∧ (↑x : Int) < (↑l.length : Int) ∧ True ∧ ((!inB (l.getD (↑x : Int).toNat (0 : Int)) (0 : Int) (1000000 : Int)) = true → (1 : Int) ≠ (0 : Int) ∧ k [Dat.mk (Ty.err (69 : Nat)) (1 : Int)]) ∧ ((!inB (l.getD (↑x : Int).toNat (0 : Int)) (0 : Int) (1000000 : Int)) = false → inK IntKind.i64 ((↑x : Int) + (1 : Int)) ∧ ∃ (x_1 : Nat), (cntE l = cntF l (l.length - x_1) x_1 ∧ x_1 ≤ l.length) ∧ l.length - x_1 < l.length - x ∧ (l = l ∧ (↑l.length : Int) = (↑l.length : Int) ∧ (↑x : Int) + (1 : Int) = (↑x_1 : Int) ∧ True) ∧ True ∧ True)) ∧ (decide ((↑x : Int) < (↑l.length : Int)) = false → k [Dat.mk (Ty.err (69 : Nat)) (0 : Int)])))) := by kernel_rfl
theorem vcInts (a b : List Int) (k : List Dat → Prop) : vcF ⟨Eb, [], [], [], []⟩ (anInts a b) (Tryd.f9.body.getD .skip) Tryd.f9.ntmps [(.tmp 4, .bool)] [⟨.sl I, a⟩, ⟨.sl I, b⟩] k = (
  ((!decide ((↑a.length : Int) = (↑b.length : Int))) = true → k [Dat.mk Ty.bool false]) ∧ ((!decide ((↑a.length : Int) = (↑b.length : Int))) = false → (∃ (x : Nat), (x ≤ a.length ∧ a.length = b.length ∧ List.take x a = List.take x b) ∧ (a = a ∧ b = b ∧ (0 : Int) = (↑x : Int) ∧ True) ∧ True ∧ True) ∧ ∀ (x : Nat), x ≤ a.length ∧ a.length = b.length ∧ List.take x a = List.take x b → (decide ((↑x : Int) < (↑a.length : Int)) = true → ((0 : Int) ≤ (↑x : Int) ∧ (↑x : Int) < (↑a.length : Int) ∧ (0 : Int) ≤ (↑x : Int) ∧ (↑x : Int) < (↑b.length : Int) ∧ True) ∧ ((!decide (a.getD (↑x : Int).toNat (0 : Int) = b.getD (↑x : Int).toNat (0 : Int))) = true → k [Dat.mk Ty.bool false]) ∧ ((!decide (a.getD (↑x : Int).toNat (0 : Int) = b.getD (↑x : Int).toNat (0 : Int))) = false → inK IntKind.i64 ((↑x : Int) + (1 : Int)) ∧ ∃ (x_1 : Nat), (x_1 ≤ a.length ∧ a.length = b.length ∧ List.take x_1 a = List.take x_1 b) ∧ a.length - x_1 < a.length - x ∧ (a = a ∧ b = b ∧ (↑x : Int) + (1 : Int) = (↑x_1 : Int) ∧ True) ∧ True ∧ True)) ∧ (decide ((↑x : Int) < (↑a.length : Int)) = false → k [Dat.mk Ty.bool true]))) := by kernel_rfl
theorem vcSameT (a b : List Tag) (k : List Dat → Prop) : vcF ⟨Eb, [], [], [], []⟩ (anSameT a b) (Tryd.f42.body.getD .skip) Tryd.f42.ntmps [(.tmp 4, .bool)] [⟨.sl tT, a⟩, ⟨.sl tT, b⟩] k = (
  ((!decide ((↑a.length : Int) = (↑b.length : Int))) = true → k [Dat.mk Ty.bool false]) ∧ ((!decide ((↑a.length : Int) = (↑b.length : Int))) = false → (∃ (x : Nat), (x ≤ a.length ∧ a.length = b.length ∧ List.take x a = List.take x b) ∧ (a = a ∧ b = b ∧ (0 : Int) = (↑x : Int) ∧ True) ∧ True ∧ True) ∧ ∀ (x : Nat), x ≤ a.length ∧ a.length = b.length ∧ List.take x a = List.take x b → (decide ((↑x : Int) < (↑a.length : Int)) = true → ((0 : Int) ≤ (↑x : Int) ∧ (↑x : Int) < (↑a.length : Int) ∧ (0 : Int) ≤ (↑x : Int) ∧ (↑x : Int) < (↑b.length : Int) ∧ True) ∧ ((!(decide ((a.getD (↑x : Int).toNat ((0 : Int), (0 : Int), (0 : Int), ())).fst = (b.getD (↑x : Int).toNat ((0 : Int), (0 : Int), (0 : Int), ())).fst) && (decide ((a.getD (↑x : Int).toNat ((0 : Int), (0 : Int), (0 : Int), ())).snd.fst = (b.getD (↑x : Int).toNat ((0 : Int), (0 : Int), (0 : Int), ())).snd.fst) && (decide ((a.getD (↑x : Int).toNat ((0 : Int), (0 : Int), (0 : Int), ())).snd.snd.fst = (b.getD (↑x : Int).toNat ((0 : Int), (0 : Int), (0 : Int), ())).snd.snd.fst) && true)))) = true → k [Dat.mk Ty.bool false]) ∧ ((!(decide ((a.getD (↑x : Int).toNat ((0 : Int), (0 : Int), (0 : Int), ())).fst = (b.getD (↑x : Int).toNat ((0 : Int), (0 : Int), (0 : Int), ())).fst) && (decide ((a.getD (↑x : Int).toNat ((0 : Int), (0 : Int), (0 : Int), ())).snd.fst = (b.getD (↑x : Int).toNat ((0 : Int), (0 : Int), (0 : Int), ())).snd.fst) && (decide ((a.getD (↑x : Int).toNat ((0 : Int), (0 : Int), (0 : Int), ())).snd.snd.fst = (b.getD (↑x : Int).toNat ((0 : Int), (0 : Int), (0 : Int), ())).snd.snd.fst) && true)))) = false → inK IntKind.i64 ((↑x : Int) + (1 : Int)) ∧ ∃ (x_1 : Nat), (x_1 ≤ a.length ∧ a.length = b.length ∧ List.take x_1 a = List.take x_1 b) ∧ a.length - x_1 < a.length - x ∧ (a = a ∧ b = b ∧ (↑x : Int) + (1 : Int) = (↑x_1 : Int) ∧ True) ∧ True ∧ True)) ∧ (decide ((↑x : Int) < (↑a.length : Int)) = false → k [Dat.mk Ty.bool true]))) := by kernel_rfl
theorem vcSameB (a b : Bag) (k : List Dat → Prop) : vcF ⟨Eb, [(42, cSameT)], [], [], []⟩ [joinAll] (Tryd.f17.body.getD .skip) Tryd.f17.ntmps [(.tmp 4, .bool)] [⟨tB, a⟩, ⟨tB, b⟩] k = (
  True ∧ (decide (a.fst = b.fst) = true → True ∧ k [Dat.mk Ty.bool (decide (a.snd.fst = b.snd.fst))]) ∧ (decide (a.fst = b.fst) = false → k [Dat.mk Ty.bool false])) := by kernel_rfl
theorem vcClone (l : List Tag) (k : SV → List Ob → Prop) : vcO ⟨Eb, [], [], [], []⟩ [] (Tryd.f40.body.getD .skip) Tryd.f40.ntmps [(.tmp 2, .un)] [.d (.sl tT) l] [] k = (
  ∀ (b : Bool), (b = true → l = []) → (b = true → k SV.nils []) ∧ (b = false → ([] : List Int).length + l.length ≤ (1000000000 : Nat) ∧ k (SV.os (0 : Nat)) [Ob.row (46 : Nat) (tT) l])) := by kernel_rfl
theorem vcCloneI (l : List Int) (k : SV → List Ob → Prop) : vcO ⟨Eb, [], [], [], []⟩ [] (Tryd.f34.body.getD .skip) Tryd.f34.ntmps [(.tmp 2, .un)] [.d (.sl I) l] [] k = (
  ∀ (b : Bool), (b = true → l = []) → (b = true → k SV.nils []) ∧ (b = false → ([] : List Int).length + l.length ≤ (1000000000 : Nat) ∧ k (SV.os (0 : Nat)) [Ob.row (3 : Nat) (I) l])) := by kernel_rfl
theorem vcGrow (n : Int) (k : SV → List Ob → Prop) : vcO ⟨Eb, [], [], [], []⟩ [joinAll] (Tryd.f61.body.getD .skip) Tryd.f61.ntmps [(.tmp 4, .un)] [.nils, .d I n] [] k = (
  (decide (n < (0 : Int)) = true → False) ∧ (decide (n < (0 : Int)) = false → inK IntKind.i64 ((0 : Int) - (0 : Int)) ∧ inK IntKind.i64 (n - ((0 : Int) - (0 : Int))) ∧ (decide ((0 : Int) < n - ((0 : Int) - (0 : Int))) = true → (0 : Int) = (0 : Int) ∧ ((0 : Int) < n - ((0 : Int) - (0 : Int)) ∧ n - ((0 : Int) - (0 : Int)) ≤ (1000000000 : Int)) ∧ ((0 : Int) ≤ (0 : Int) ∧ (0 : Int) ≤ (↑(List.replicate (n - ((0 : Int) - (0 : Int))).toNat ((0 : Int), (0 : Int), (0 : Int), ())).length : Int)) ∧ k (SV.os (0 : Nat)) [Ob.row (46 : Nat) (tT) (List.take (Int.toNat (0 : Int)) (List.replicate (n - ((0 : Int) - (0 : Int))).toNat ((0 : Int), (0 : Int), (0 : Int), ())))]) ∧ (decide ((0 : Int) < n - ((0 : Int) - (0 : Int))) = false → k SV.nils []))) := by kernel_rfl
theorem vcConcat (ls : List (List Tag)) (k : SV → List Ob → Prop) : vcO ⟨Eb, [], [], [], [(61, oGrow)]⟩ (anConcat ls) (Tryd.f44.body.getD .skip) Tryd.f44.ntmps [(.tmp 2, .un)] [.d (.sl (.sl tT)) ls] [] k = (
  (∃ (x : Nat), (x ≤ ls.length ∧ True) ∧ (ls = ls ∧ (0 : Int) = (↑(sumL ls x) : Int) ∧ ls = ls ∧ (↑ls.length : Int) = (↑ls.length : Int) ∧ (0 : Int) = (↑x : Int) ∧ True) ∧ True ∧ ls = ls ∧ True) ∧ ∀ (x : Nat), x ≤ ls.length ∧ True → (decide ((↑x : Int) < (↑ls.length : Int)) = true → (0 : Int) ≤ (↑x : Int) ∧ (↑x : Int) < (↑ls.length : Int) ∧ inK IntKind.i64 ((↑(sumL ls x) : Int) + (↑(ls.getD (↑x : Int).toNat []).length : Int)) ∧ (decide ((↑(sumL ls x) : Int) + (↑(ls.getD (↑x : Int).toNat []).length : Int) < (0 : Int)) = true → False) ∧ (decide ((↑(sumL ls x) : Int) + (↑(ls.getD (↑x : Int).toNat []).length : Int) < (0 : Int)) = false → inK IntKind.i64 ((↑x : Int) + (1 : Int)) ∧ ∃ (x_1 : Nat), (x_1 ≤ ls.length ∧ True) ∧ ls.length - x_1 < ls.length - x ∧ (ls = ls ∧ (↑(sumL ls x) : Int) + (↑(ls.getD (↑x : Int).toNat []).length : Int) = (↑(sumL ls x_1) : Int) ∧ ls = ls ∧ (↑ls.length : Int) = (↑ls.length : Int) ∧ (↑x : Int) + (1 : Int) = (↑x_1 : Int) ∧ True) ∧ True ∧ ls = ls ∧ True)) ∧ (decide ((↑x : Int) < (↑ls.length : Int)) = false → ((0 : Int) ≤ (↑(sumL ls x) : Int) ∧ (↑(sumL ls x) : Int) ≤ (1000000000 : Int)) ∧ (∃ (x : Nat), (x ≤ ls.length ∧ True) ∧ (True ∧ ls = ls ∧ (↑ls.length : Int) = (↑ls.length : Int) ∧ (0 : Int) = (↑x : Int) ∧ True) ∧ (((46 : Nat) = (46 : Nat) ∧ [] = (List.take x ls).flatten) ∧ True) ∧ ls = ls ∧ True) ∧ ∀ (x : Nat), x ≤ ls.length ∧ True → (decide ((↑x : Int) < (↑ls.length : Int)) = true → (0 : Int) ≤ (↑x : Int) ∧ (↑x : Int) < (↑ls.length : Int) ∧ (List.take x ls).flatten.length + (ls.getD (↑x : Int).toNat []).length ≤ (1000000000 : Nat) ∧ inK IntKind.i64 ((↑x : Int) + (1 : Int)) ∧ ∃ (x_1 : Nat), (x_1 ≤ ls.length ∧ True) ∧ ls.length - x_1 < ls.length - x ∧ (True ∧ ls = ls ∧ (↑ls.length : Int) = (↑ls.length : Int) ∧ (↑x : Int) + (1 : Int) = (↑x_1 : Int) ∧ True) ∧ (((46 : Nat) = (46 : Nat) ∧ (List.take x ls).flatten.append (ls.getD (↑x : Int).toNat []) = (List.take x_1 ls).flatten) ∧ True) ∧ ls = ls ∧ True) ∧ (decide ((↑x : Int) < (↑ls.length : Int)) = false → k (SV.os (0 : Nat)) [Ob.row (46 : Nat) (tT) (List.take x ls).flatten]))) := by kernel_rfl
theorem vcCompact (xs : List Tag) (k : SV → List Ob → Prop) : vcO ⟨Eb, [], [], [], []⟩ (anCompact xs) (Tryd.f60.body.getD .skip) Tryd.f60.ntmps [(.tmp 2, .un)] [.os 0] [.row 46 tT xs] k = (
  (decide ((↑xs.length : Int) < (2 : Int)) = true → k (SV.os (0 : Nat)) [Ob.row (46 : Nat) (tT) xs]) ∧ (decide ((↑xs.length : Int) < (2 : Int)) = false → (∃ (x : Nat), ((1 : Nat) ≤ x ∧ x ≤ xs.length ∧ (2 : Nat) ≤ xs.length ∧ cpt (List.take x xs) = List.take x xs) ∧ (True ∧ (1 : Int) = (↑x : Int) ∧ True) ∧ (((46 : Nat) = (46 : Nat) ∧ xs = xs) ∧ True) ∧ True ∧ True) ∧ ∀ (x : Nat), (1 : Nat) ≤ x ∧ x ≤ xs.length ∧ (2 : Nat) ≤ xs.length ∧ cpt (List.take x xs) = List.take x xs → (decide ((↑x : Int) < (↑xs.length : Int)) = true → ((0 : Int) ≤ (↑x : Int) ∧ (↑x : Int) < (↑xs.length : Int) ∧ inK IntKind.i64 ((↑x : Int) - (1 : Int)) ∧ (0 : Int) ≤ (↑x : Int) - (1 : Int) ∧ (↑x : Int) - (1 : Int) < (↑xs.length : Int) ∧ True) ∧ ((decide ((xs.getD (↑x : Int).toNat ((0 : Int), (0 : Int), (0 : Int), ())).fst = (xs.getD ((↑x : Int) - (1 : Int)).toNat ((0 : Int), (0 : Int), (0 : Int), ())).fst) && (decide ((xs.getD (↑x : Int).toNat ((0 : Int), (0 : Int), (0 : Int), ())).snd.fst = (xs.getD ((↑x : Int) - (1 : Int)).toNat ((0 : Int), (0 : Int), (0 : Int), ())).snd.fst) && (decide ((xs.getD (↑x : Int).toNat ((0 : Int), (0 : Int), (0 : Int), ())).snd.snd.fst = (xs.getD ((↑x : Int) - (1 : Int)).toNat ((0 : Int), (0 : Int), (0 : Int), ())).snd.snd.fst) && true))) = true → ((0 : Int) ≤ (↑x : Int) ∧ (↑x : Int) < (↑xs.length : Int)) ∧ (∃ (x_1 : Nat × Nat × Nat × List Tag), ((1 : Nat) ≤ x_1.fst ∧ (1 : Nat) ≤ x_1.snd.fst ∧ x_1.fst + x_1.snd.fst ≤ xs.length ∧ x_1.snd.snd.fst < x_1.fst + x_1.snd.fst ∧ x_1.snd.snd.snd.length = xs.length ∧ List.take x_1.snd.snd.fst x_1.snd.snd.snd = cpt (List.take (x_1.fst + x_1.snd.fst) xs) ∧ ∀ (j : Nat), x_1.fst + x_1.snd.fst - (1 : Nat) ≤ j → x_1.snd.snd.snd.getD j tag0 = xs.getD j tag0) ∧ (True ∧ (↑x : Int) = (↑x_1.snd.snd.fst : Int) ∧ (↑x : Int).toNat = x_1.fst ∧ (1 : Int) = (↑x_1.snd.fst : Int) ∧ True) ∧ (((46 : Nat) = (46 : Nat) ∧ xs = x_1.snd.snd.snd) ∧ True) ∧ True ∧ True) ∧ ∀ (x : Nat × Nat × Nat × List Tag), ((1 : Nat) ≤ x.fst ∧ (1 : Nat) ≤ x.snd.fst ∧ x.fst + x.snd.fst ≤ xs.length ∧ x.snd.snd.fst < x.fst + x.snd.fst ∧ x.snd.snd.snd.length = xs.length ∧ List.take x.snd.snd.fst x.snd.snd.snd = cpt (List.take (x.fst + x.snd.fst) xs) ∧ ∀ (j : Nat), x.fst + x.snd.fst - (1 : Nat) ≤ j → x.snd.snd.snd.getD j tag0 = xs.getD j tag0) → (decide ((↑x.snd.fst : Int) < (↑(x.snd.snd.snd.length - x.fst) : Int)) = true → ((0 : Int) ≤ (↑x.snd.fst : Int) ∧ (↑x.snd.fst : Int) + (↑x.fst : Int) < (↑x.snd.snd.snd.length : Int) ∧ inK IntKind.i64 ((↑x.snd.fst : Int) - (1 : Int)) ∧ (0 : Int) ≤ (↑x.snd.fst : Int) - (1 : Int) ∧ (↑x.snd.fst : Int) - (1 : Int) + (↑x.fst : Int) < (↑x.snd.snd.snd.length : Int) ∧ True) ∧ ((!(decide ((x.snd.snd.snd.getD (x.fst + (↑x.snd.fst : Int).toNat) ((0 : Int), (0 : Int), (0 : Int), ())).fst = (x.snd.snd.snd.getD (x.fst + ((↑x.snd.fst : Int) - (1 : Int)).toNat) ((0 : Int), (0 : Int), (0 : Int), ())).fst) && (decide ((x.snd.snd.snd.getD (x.fst + (↑x.snd.fst : Int).toNat) ((0 : Int), (0 : Int), (0 : Int), ())).snd.fst = (x.snd.snd.snd.getD (x.fst + ((↑x.snd.fst : Int) - (1 : Int)).toNat) ((0 : Int), (0 : Int), (0 : Int), ())).snd.fst) && (decide ((x.snd.snd.snd.getD (x.fst + (↑x.snd.fst : Int).toNat) ((0 : Int), (0 : Int), (0 : Int), ())).snd.snd.fst = (x.snd.snd.snd.getD (x.fst + ((↑x.snd.fst : Int) - (1 : Int)).toNat) ((0 : Int), (0 : Int), (0 : Int), ())).snd.snd.fst) && true)))) = true → (0 : Int) ≤ (↑x.snd.fst : Int) ∧ (↑x.snd.fst : Int) + (↑x.fst : Int) < (↑x.snd.snd.snd.length : Int) ∧ (0 : Int) ≤ (↑x.snd.snd.fst : Int) ∧ (↑x.snd.snd.fst : Int) < (↑x.snd.snd.snd.length : Int) ∧ inK IntKind.i64 ((↑x.snd.snd.fst : Int) + (1 : Int)) ∧ inK IntKind.i64 ((↑x.snd.fst : Int) + (1 : Int)) ∧ ∃ (x_1 : Nat × Nat × Nat × List Tag), ((1 : Nat) ≤ x_1.fst ∧ (1 : Nat) ≤ x_1.snd.fst ∧ x_1.fst + x_1.snd.fst ≤ xs.length ∧ x_1.snd.snd.fst < x_1.fst + x_1.snd.fst ∧ x_1.snd.snd.snd.length = xs.length ∧ List.take x_1.snd.snd.fst x_1.snd.snd.snd = cpt (List.take (x_1.fst + x_1.snd.fst) xs) ∧ ∀ (j : Nat), x_1.fst + x_1.snd.fst - (1 : Nat) ≤ j → x_1.snd.snd.snd.getD j tag0 = xs.getD j tag0) ∧ xs.length - x_1.snd.fst < xs.length - x.snd.fst ∧ (True ∧ (↑x.snd.snd.fst : Int) + (1 : Int) = (↑x_1.snd.snd.fst : Int) ∧ x.fst = x_1.fst ∧ (↑x.snd.fst : Int) + (1 : Int) = (↑x_1.snd.fst : Int) ∧ True) ∧ (((46 : Nat) = (46 : Nat) ∧ x.snd.snd.snd.set (↑x.snd.snd.fst : Int).toNat (x.snd.snd.snd.getD (x.fst + (↑x.snd.fst : Int).toNat) ((0 : Int), (0 : Int), (0 : Int), ())) = x_1.snd.snd.snd) ∧ True) ∧ True ∧ True) ∧ ((!(decide ((x.snd.snd.snd.getD (x.fst + (↑x.snd.fst : Int).toNat) ((0 : Int), (0 : Int), (0 : Int), ())).fst = (x.snd.snd.snd.getD (x.fst + ((↑x.snd.fst : Int) - (1 : Int)).toNat) ((0 : Int), (0 : Int), (0 : Int), ())).fst) && (decide ((x.snd.snd.snd.getD (x.fst + (↑x.snd.fst : Int).toNat) ((0 : Int), (0 : Int), (0 : Int), ())).snd.fst = (x.snd.snd.snd.getD (x.fst + ((↑x.snd.fst : Int) - (1 : Int)).toNat) ((0 : Int), (0 : Int), (0 : Int), ())).snd.fst) && (decide ((x.snd.snd.snd.getD (x.fst + (↑x.snd.fst : Int).toNat) ((0 : Int), (0 : Int), (0 : Int), ())).snd.snd.fst = (x.snd.snd.snd.getD (x.fst + ((↑x.snd.fst : Int) - (1 : Int)).toNat) ((0 : Int), (0 : Int), (0 : Int), ())).snd.snd.fst) && true)))) = false → inK IntKind.i64 ((↑x.snd.fst : Int) + (1 : Int)) ∧ ∃ (x_1 : Nat × Nat × Nat × List Tag), ((1 : Nat) ≤ x_1.fst ∧ (1 : Nat) ≤ x_1.snd.fst ∧ x_1.fst + x_1.snd.fst ≤ xs.length ∧ x_1.snd.snd.fst < x_1.fst + x_1.snd.fst ∧ x_1.snd.snd.snd.length = xs.length ∧ List.take x_1.snd.snd.fst x_1.snd.snd.snd = cpt (List.take (x_1.fst + x_1.snd.fst) xs) ∧ ∀ (j : Nat), x_1.fst + x_1.snd.fst - (1 : Nat) ≤ j → x_1.snd.snd.snd.getD j tag0 = xs.getD j tag0) ∧ xs.length - x_1.snd.fst < xs.length - x.snd.fst ∧ (True ∧ (↑x.snd.snd.fst : Int) = (↑x_1.snd.snd.fst : Int) ∧ x.fst = x_1.fst ∧ (↑x.snd.fst : Int) + (1 : Int) = (↑x_1.snd.fst : Int) ∧ True) ∧ (((46 : Nat) = (46 : Nat) ∧ x.snd.snd.snd = x_1.snd.snd.snd) ∧ True) ∧ True ∧ True)) ∧ (decide ((↑x.snd.fst : Int) < (↑(x.snd.snd.snd.length - x.fst) : Int)) = false → ((0 : Int) ≤ (↑x.snd.snd.fst : Int) ∧ (↑x.snd.snd.fst : Int) < (↑x.snd.snd.snd.length : Int)) ∧ ((0 : Int) ≤ (↑x.snd.snd.fst : Int) ∧ (↑x.snd.snd.fst : Int) ≤ (↑(List.take (↑x.snd.snd.fst : Int).toNat x.snd.snd.snd ++ List.replicate (x.snd.snd.snd.length - (↑x.snd.snd.fst : Int).toNat) ((0 : Int), (0 : Int), (0 : Int), ())).length : Int)) ∧ k (SV.os (1 : Nat)) [Ob.dead, Ob.row (46 : Nat) (tT) (List.take (↑x.snd.snd.fst : Int).toNat (List.take (↑x.snd.snd.fst : Int).toNat x.snd.snd.snd ++ List.replicate (x.snd.snd.snd.length - (↑x.snd.snd.fst : Int).toNat) ((0 : Int), (0 : Int), (0 : Int), ())))])) ∧ ((decide ((xs.getD (↑x : Int).toNat ((0 : Int), (0 : Int), (0 : Int), ())).fst = (xs.getD ((↑x : Int) - (1 : Int)).toNat ((0 : Int), (0 : Int), (0 : Int), ())).fst) && (decide ((xs.getD (↑x : Int).toNat ((0 : Int), (0 : Int), (0 : Int), ())).snd.fst = (xs.getD ((↑x : Int) - (1 : Int)).toNat ((0 : Int), (0 : Int), (0 : Int), ())).snd.fst) && (decide ((xs.getD (↑x : Int).toNat ((0 : Int), (0 : Int), (0 : Int), ())).snd.snd.fst = (xs.getD ((↑x : Int) - (1 : Int)).toNat ((0 : Int), (0 : Int), (0 : Int), ())).snd.snd.fst) && true))) = false → inK IntKind.i64 ((↑x : Int) + (1 : Int)) ∧ ∃ (x_1 : Nat), ((1 : Nat) ≤ x_1 ∧ x_1 ≤ xs.length ∧ (2 : Nat) ≤ xs.length ∧ cpt (List.take x_1 xs) = List.take x_1 xs) ∧ xs.length - x_1 < xs.length - x ∧ (True ∧ (↑x : Int) + (1 : Int) = (↑x_1 : Int) ∧ True) ∧ (((46 : Nat) = (46 : Nat) ∧ xs = xs) ∧ True) ∧ True ∧ True)) ∧ (decide ((↑x : Int) < (↑xs.length : Int)) = false → k (SV.os (0 : Nat)) [Ob.row (46 : Nat) (tT) xs]))) := by kernel_rfl
end Go.Proofs.YtgcliogognkdkaaDoor

/- Bags and counters: the functions that only look keep their contracts. -/
namespace Go.Proofs.YtgcliogognkdkaaDoor
open Go.Vc
theorem mixed : Tryd.prog.follows .mixedOrders = true := by kernel_rfl

theorem okWithin [Dn] : PlainOk Tryd.prog [] 33 cWithin := by
  refine plain_of (CxOk.mk' Eb_ok (by kernel_rfl) mixed (gl := []) GOk.nil GoOk.nil noIt) Tryd.func33 (c := Tryd.f33.body.getD .skip) (rvs := [(.tmp 6, .bool)]) (by kernel_rfl) (by kernel_rfl) (by kernel_rfl) ?_
  intro ds k ⟨hp, hk⟩ hwf
  obtain ⟨a, b, c, rfl, -⟩ := dest3 hp
  refine ⟨[joinAll], ?_⟩
  rw [vcWithin]
  have ret : ∀ x : Bool, inB a b c = x → k [⟨.bool, x⟩] := by rintro _ rfl; exact hk
  exact ⟨fun h => ret _ (by unfold inB; rw [h]; rfl), fun h => ret _ (by unfold inB; rw [h]; rfl)⟩

theorem okNaN [Dn] : PlainOk Tryd.prog [] 67 cNaN := by
  refine plain_of (CxOk.mk' Eb_ok (by kernel_rfl) mixed (gl := []) GOk.nil GoOk.nil noIt) Tryd.func67 (c := Tryd.f67.body.getD .skip) (rvs := [(.tmp 2, .bool)]) (by kernel_rfl) (by kernel_rfl) (by kernel_rfl) ?_
  intro ds k ⟨hp, hk⟩ hwf
  obtain ⟨a, rfl, -⟩ := dest1 hp
  refine ⟨[], ?_⟩
  rw [vcNaN]
  have hk : k [⟨.bool, false⟩] := hk
  simpa using hk

theorem okCmp [Dn] : PlainOk Tryd.prog [] 54 cCmp := by
  refine plain_of (CxOk.mk' Eb_ok (by kernel_rfl) mixed (gl := []) (GOk.cons okNaN Tryd.func67 (by kernel_rfl) (by kernel_rfl) GOk.nil) GoOk.nil noIt) Tryd.func54 (c := Tryd.f54.body.getD .skip) (rvs := [(.tmp 4, I)]) (by kernel_rfl) (by kernel_rfl) (by kernel_rfl) ?_
  intro ds k ⟨hp, hk⟩ hwf
  obtain ⟨a, b, rfl, -⟩ := dest2 hp
  refine ⟨[joinAll], ?_⟩
  rw [vcCmp]
  have ret : ∀ x : Int, cmpI a b = x → k [⟨I, x⟩] := by rintro _ rfl; exact hk
  simp only [decide_eq_true_eq, decide_eq_false_iff_not, true_and, forall_const, reduceCtorEq, false_implies]
  refine ⟨fun h => ret _ (by unfold cmpI; rw [if_pos h]), fun h => ⟨fun h2 => ret _ (by unfold cmpI; rw [if_neg h, if_pos h2]), fun h2 => ret _ (by unfold cmpI; rw [if_neg h, if_neg h2])⟩⟩

theorem or_vc (l : List Int) (hl : l.length ≤ maxLen) (k : List Dat → Prop) (hk : k [⟨I, orI l⟩]) : vcF ⟨Eb, [], [], [], []⟩ (anOr l) (Tryd.f72.body.getD .skip) Tryd.f72.ntmps [(.tmp 2, I)] [⟨.sl I, l⟩] k := by
  rw [vcOr]
  have hml : maxLen ≤ 9223372036854775807 := by decide
  have ret : ∀ x : Int, orI l = x → k [⟨I, x⟩] := by rintro _ rfl; exact hk
  simp only [decide_eq_true_eq, decide_eq_false_iff_not, true_and, and_true, Bool.not_eq_true', Bool.not_eq_false', Int.toNat_natCast, inK_i64]
  refine ⟨⟨0, ⟨Nat.zero_le _, by rw [List.drop_zero]⟩, rfl⟩, fun x ⟨hx, ho⟩ => ⟨fun hlt => ?_, fun hge => ret _ ?_⟩⟩
  · have hxl : x < l.length := by omega
    have hd : orI (l.drop x) = if l.getD x 0 = 0 then orI (l.drop (x + 1)) else l.getD x 0 := by
      rw [List.drop_eq_getElem_cons hxl, List.getD_eq_getElem?_getD, List.getElem?_eq_getElem hxl]; rfl
    refine ⟨by omega, hlt, fun hne => ret _ ?_, fun he => ⟨by omega, x + 1, ⟨by omega, ?_⟩, by omega, by omega⟩⟩
    · rw [ho, hd, if_neg hne]
    · rw [ho, hd, if_pos he]
  · rw [ho, List.drop_of_length_le (by omega)]; rfl

theorem okOr [Dn] : PlainOk Tryd.prog [] 72 cOr := by
  refine plain_of (CxOk.mk' Eb_ok (by kernel_rfl) mixed (gl := []) GOk.nil GoOk.nil noIt) Tryd.func72 (c := Tryd.f72.body.getD .skip) (rvs := [(.tmp 2, I)]) (by kernel_rfl) (by kernel_rfl) (by kernel_rfl) ?_
  intro ds k ⟨hp, hk⟩ hwf
  obtain ⟨l, rfl, -⟩ := dest1 hp
  exact ⟨anOr l, or_vc l (wf1 hwf).1 k hk⟩

theorem okByTag [Dn] : PlainOk Tryd.prog [] 56 cByTag := by
  refine plain_of (CxOk.mk' Eb_ok (by kernel_rfl) mixed (gl := []) (GOk.cons okCmp Tryd.func54 (by kernel_rfl) (by kernel_rfl) (GOk.cons okOr Tryd.func72 (by kernel_rfl) (by kernel_rfl) GOk.nil)) GoOk.nil noIt) Tryd.func56 (c := Tryd.f56.body.getD .skip) (rvs := [(.tmp 4, I)]) (by kernel_rfl) (by kernel_rfl) (by kernel_rfl) ?_
  intro ds k ⟨hp, hk⟩ hwf
  obtain ⟨a, b, rfl, -⟩ := dest2 hp
  refine ⟨[joinAll], ?_⟩
  rw [vcByTag]
  exact ⟨⟨trivial, trivial, trivial, trivial, trivial⟩, hk⟩

theorem tagsF_step (l : List Tag) {i : Nat} (h : i < l.length) : tagsF l (l.length - i) i = if tagE l i = 0 then tagsF l (l.length - (i + 1)) (i + 1) else tagE l i := by
  rw [show l.length - i = (l.length - (i + 1)) + 1 by omega]; rfl

theorem tags_vc (l : List Tag) (hl : l.length ≤ maxLen) (k : List Dat → Prop) (hk : k [⟨tErr, tagsE l⟩]) : vcF ⟨Eb, [(33, cWithin), (56, cByTag)], [], [], []⟩ (anTags l) (Tryd.f37.body.getD .skip) Tryd.f37.ntmps [(.tmp 2, tErr)] [⟨.sl tT, l⟩] k := by
  rw [vcTags]
  have hml : maxLen ≤ 9223372036854775807 := by decide
  have ret : ∀ x : Int, tagsE l = x → k [⟨tErr, x⟩] := by rintro _ rfl; exact hk
  simp only [decide_eq_true_eq, decide_eq_false_iff_not, true_and, and_true, Bool.not_eq_true', Bool.not_eq_false', Int.toNat_natCast, inK_i64]
  refine ⟨fun h => ⟨by decide, ret _ (by unfold tagsE; rw [if_pos (by omega)])⟩, fun h => ⟨⟨0, ⟨?_, Nat.zero_le _⟩, rfl⟩, fun x ⟨ho, hx⟩ => ⟨fun hlt => ?_, fun hge => ret _ ?_⟩⟩⟩
  · unfold tagsE; rw [if_neg (by omega), Nat.sub_zero]
  · have hxl : x < l.length := by omega
    have hs := tagsF_step l hxl
    have e0 : l.getD x ((0 : Int), (0 : Int), (0 : Int), ()) = l.getD x tag0 := rfl
    have hin : tagIn (l.getD x tag0) = false → tagE l x = 1 := fun h => by unfold tagE; rw [if_pos h]
    have r1 : tagIn (l.getD x tag0) = false → tagsE l = 1 := fun h => by rw [ho, hs, hin h, if_neg (by decide)]
    refine ⟨by omega, hlt, fun h1 => ⟨by decide, ret _ (r1 ?_)⟩, fun h1 => ⟨fun h2 => ⟨by decide, ret _ (r1 ?_)⟩, fun h2 => ⟨fun h3 => ⟨by decide, ret _ (r1 ?_)⟩, fun h3 => ⟨⟨fun hp => ⟨by omega, by omega, by omega⟩, fun _ => trivial⟩, fun hb => ⟨by decide, ret _ ?_⟩, fun hb => ⟨by omega, x + 1, ⟨?_, by omega⟩, by omega, by omega⟩⟩⟩⟩⟩
    · unfold tagIn; rw [← e0, h1]; rfl
    · unfold tagIn; rw [← e0, h1, h2]; rfl
    · unfold tagIn; rw [← e0, h1, h2, h3]; rfl
    · have hti : tagIn (l.getD x tag0) = true := by unfold tagIn; rw [← e0, h1, h2, h3]; rfl
      rw [Bool.and_eq_true, decide_eq_true_eq, decide_eq_true_eq] at hb
      have e1 : ((x : Int) - 1).toNat = x - 1 := by omega
      rw [e1] at hb
      have : tagE l x = 3 := by
        unfold tagE
        rw [if_neg (by rw [hti]; decide), if_pos ⟨by omega, hb.2⟩]
      rw [ho, hs, this, if_neg (by decide)]
    · have hti : tagIn (l.getD x tag0) = true := by unfold tagIn; rw [← e0, h1, h2, h3]; rfl
      have e1 : ((x : Int) - 1).toNat = x - 1 := by omega
      rw [e1] at hb
      have : tagE l x = 0 := by
        unfold tagE
        rw [if_neg (by rw [hti]; decide), if_neg]
        rintro ⟨c1, c2⟩
        have : (decide (0 < (x : Int)) && decide (0 ≤ cmpT (l.getD (x - 1) (0, 0, 0, ())) (l.getD x (0, 0, 0, ())))) = true := by
          rw [Bool.and_eq_true, decide_eq_true_eq, decide_eq_true_eq]
          exact ⟨by omega, c2⟩
        rw [hb] at this; cases this
      rw [ho, hs, this, if_pos rfl]
  · have : x = l.length := by omega
    rw [ho, this, Nat.sub_self]; rfl

theorem okTags : PlainOk Tryd.prog [] 37 cTags := by
  refine plain_of (CxOk.mk' Eb_ok (by kernel_rfl) mixed (gl := []) (GOk.cons okWithin Tryd.func33 (by kernel_rfl) (by kernel_rfl) (GOk.cons okByTag Tryd.func56 (by kernel_rfl) (by kernel_rfl) GOk.nil)) GoOk.nil noIt) Tryd.func37 (c := Tryd.f37.body.getD .skip) (rvs := [(.tmp 2, tErr)]) (by kernel_rfl) (by kernel_rfl) (by kernel_rfl) ?_
  intro ds k ⟨hp, hk⟩ hwf
  obtain ⟨l, rfl, -⟩ := dest1 hp
  exact ⟨anTags l, tags_vc l (wf1 hwf).1 k hk⟩

theorem tag_eqB {t u : Tag} : (decide (t.1 = u.1) && (decide (t.2.1 = u.2.1) && (decide (t.2.2.1 = u.2.2.1) && true))) = decide (t = u) := by
  obtain ⟨a, b, c, _⟩ := t
  obtain ⟨d, e, f, _⟩ := u
  by_cases h : (a, b, c, ()) = (d, e, f, ())
  · injection h with h1 h2; injection h2 with h2 h3; injection h3 with h3 _
    subst h1; subst h2; subst h3; simp
  · rw [decide_eq_false h]
    cases hq : (decide (a = d) && (decide (b = e) && (decide (c = f) && true))) with
    | false => rfl
    | true =>
      simp only [Bool.and_eq_true, decide_eq_true_eq, and_true] at hq
      obtain ⟨rfl, rfl, rfl⟩ := hq
      exact absurd rfl h

theorem idx_vc (l : List Tag) (t : Tag) (hl : l.length ≤ maxLen) (k : List Dat → Prop) (hk : k [⟨I, idxI l t⟩]) : vcF ⟨Eb, [], [], [], []⟩ (anIdx l t) (Tryd.f57.body.getD .skip) Tryd.f57.ntmps [(.tmp 4, I)] [⟨.sl tT, l⟩, ⟨tT, t⟩] k := by
  rw [vcIdx]
  have hml : maxLen ≤ 9223372036854775807 := by decide
  have ret : ∀ x : Int, idxI l t = x → k [⟨I, x⟩] := by rintro _ rfl; exact hk
  simp only [decide_eq_true_eq, decide_eq_false_iff_not, true_and, and_true, Int.toNat_natCast, inK_i64, tag_eqB]
  refine ⟨⟨0, ⟨rfl, Nat.zero_le _⟩, rfl⟩, fun x ⟨ho, hx⟩ => ⟨fun hlt => ?_, fun hge => ret _ ?_⟩⟩
  · have hxl : x < l.length := by omega
    have hs : idxF l t (l.length - x) x = if l.getD x tag0 = t then (x : Int) else idxF l t (l.length - (x + 1)) (x + 1) := by
      rw [show l.length - x = (l.length - (x + 1)) + 1 by omega]; rfl
    refine ⟨by omega, hlt, fun he => ret _ ?_, fun hne => ⟨by omega, x + 1, ⟨?_, by omega⟩, by omega, by omega⟩⟩
    · rw [ho, hs, if_pos (show l.getD x tag0 = t from he.symm)]
    · rw [ho, hs, if_neg (show ¬ l.getD x tag0 = t from fun e => hne e.symm)]
  · have : x = l.length := by omega
    rw [ho, this, Nat.sub_self]; rfl

theorem okIdx : PlainOk Tryd.prog [] 57 cIdx := by
  refine plain_of (CxOk.mk' Eb_ok (by kernel_rfl) mixed (gl := []) GOk.nil GoOk.nil noIt) Tryd.func57 (c := Tryd.f57.body.getD .skip) (rvs := [(.tmp 4, I)]) (by kernel_rfl) (by kernel_rfl) (by kernel_rfl) ?_
  intro ds k ⟨hp, hk⟩ hwf
  obtain ⟨l, t, rfl, -⟩ := dest2 hp
  exact ⟨anIdx l t, idx_vc l t (wf2 hwf).1.1 k hk⟩

theorem okHasT : PlainOk Tryd.prog [] 38 cHasT := by
  refine plain_of (CxOk.mk' Eb_ok (by kernel_rfl) mixed (gl := []) (GOk.cons okIdx Tryd.func57 (by kernel_rfl) (by kernel_rfl) GOk.nil) GoOk.nil noIt) Tryd.func38 (c := Tryd.f38.body.getD .skip) (rvs := [(.tmp 4, .bool)]) (by kernel_rfl) (by kernel_rfl) (by kernel_rfl) ?_
  intro ds k ⟨hp, hk⟩ hwf
  obtain ⟨l, t, rfl, -⟩ := dest2 hp
  refine ⟨[], ?_⟩
  rw [vcHasT]
  exact ⟨trivial, hk⟩

theorem idn_vc (l : List Int) (t : Int) (hl : l.length ≤ maxLen) (k : List Dat → Prop) (hk : k [⟨I, idnI l t⟩]) : vcF ⟨Eb, [], [], [], []⟩ (anIdn l t) (Tryd.f58.body.getD .skip) Tryd.f58.ntmps [(.tmp 4, I)] [⟨.sl I, l⟩, ⟨I, t⟩] k := by
  rw [vcIdn]
  have hml : maxLen ≤ 9223372036854775807 := by decide
  have ret : ∀ x : Int, idnI l t = x → k [⟨I, x⟩] := by rintro _ rfl; exact hk
  simp only [decide_eq_true_eq, decide_eq_false_iff_not, true_and, and_true, Int.toNat_natCast, inK_i64]
  refine ⟨⟨0, ⟨rfl, Nat.zero_le _⟩, rfl⟩, fun x ⟨ho, hx⟩ => ⟨fun hlt => ?_, fun hge => ret _ ?_⟩⟩
  · have hxl : x < l.length := by omega
    have hs : idnF l t (l.length - x) x = if l.getD x 0 = t then (x : Int) else idnF l t (l.length - (x + 1)) (x + 1) := by
      rw [show l.length - x = (l.length - (x + 1)) + 1 by omega]; rfl
    refine ⟨by omega, hlt, fun he => ret _ ?_, fun hne => ⟨by omega, x + 1, ⟨?_, by omega⟩, by omega, by omega⟩⟩
    · rw [ho, hs, if_pos he.symm]
    · rw [ho, hs, if_neg (fun e => hne e.symm)]
  · have : x = l.length := by omega
    rw [ho, this, Nat.sub_self]; rfl

theorem okIdn : PlainOk Tryd.prog [] 58 cIdn := by
  refine plain_of (CxOk.mk' Eb_ok (by kernel_rfl) mixed (gl := []) GOk.nil GoOk.nil noIt) Tryd.func58 (c := Tryd.f58.body.getD .skip) (rvs := [(.tmp 4, I)]) (by kernel_rfl) (by kernel_rfl) (by kernel_rfl) ?_
  intro ds k ⟨hp, hk⟩ hwf
  obtain ⟨l, t, rfl, -⟩ := dest2 hp
  exact ⟨anIdn l t, idn_vc l t (wf2 hwf).1.1 k hk⟩

theorem okHasI : PlainOk Tryd.prog [] 39 cHasI := by
  refine plain_of (CxOk.mk' Eb_ok (by kernel_rfl) mixed (gl := []) (GOk.cons okIdn Tryd.func58 (by kernel_rfl) (by kernel_rfl) GOk.nil) GoOk.nil noIt) Tryd.func39 (c := Tryd.f39.body.getD .skip) (rvs := [(.tmp 4, .bool)]) (by kernel_rfl) (by kernel_rfl) (by kernel_rfl) ?_
  intro ds k ⟨hp, hk⟩ hwf
  obtain ⟨l, t, rfl, -⟩ := dest2 hp
  refine ⟨[], ?_⟩
  rw [vcHasI]
  exact ⟨trivial, hk⟩

theorem check_vc (b : Bag) (hl : b.2.1.length ≤ maxLen) (k : List Dat → Prop) (hk : k [⟨tErr, chkB b⟩]) : vcF ⟨Eb, [(37, cTags), (38, cHasT)], [], [], []⟩ (anCheck b) (Tryd.f12.body.getD .skip) Tryd.f12.ntmps [(.tmp 2, tErr)] [⟨tB, b⟩] k := by
  rw [vcCheck]
  have hml : maxLen ≤ 9223372036854775807 := by decide
  have ret : ∀ x : Int, chkB b = x → k [⟨tErr, x⟩] := by rintro _ rfl; exact hk
  simp only [decide_eq_true_eq, decide_eq_false_iff_not, true_and, and_true, Bool.not_eq_true', Bool.not_eq_false', Int.toNat_natCast, inK_i64]
  refine ⟨fun h => ret _ (by unfold chkB; rw [if_neg h]), fun h => ⟨fun h2 => ret _ (by unfold chkB; rw [if_pos h, if_neg h2]), fun h2 => ⟨⟨0, ⟨?_, Nat.zero_le _⟩, rfl⟩, fun x ⟨ho, hx⟩ => ⟨fun hlt => ?_, fun hge => ret _ ?_⟩⟩⟩⟩
  · unfold chkB; rw [if_pos h, if_pos h2, Nat.sub_zero]
  · have hxl : x < b.2.1.length := by omega
    have hs : goneF b (b.2.1.length - x) x = if hasT b.1 (b.2.1.getD x tag0) = true then goneF b (b.2.1.length - (x + 1)) (x + 1) else 6 := by
      rw [show b.2.1.length - x = (b.2.1.length - (x + 1)) + 1 by omega]; rfl
    refine ⟨by omega, hlt, fun he => ⟨by decide, ret _ ?_⟩, fun hne => ⟨by omega, x + 1, ⟨?_, by omega⟩, by omega, by omega⟩⟩
    · rw [ho, hs, if_neg (by rw [show hasT b.1 (b.2.1.getD x tag0) = false from he]; decide)]
    · rw [ho, hs, if_pos (show hasT b.1 (b.2.1.getD x tag0) = true from hne)]
  · have : x = b.2.1.length := by omega
    rw [ho, this, Nat.sub_self]; rfl

theorem okCheck : PlainOk Tryd.prog [] 12 cCheck := by
  refine plain_of (CxOk.mk' Eb_ok (by kernel_rfl) mixed (gl := []) (GOk.cons okTags Tryd.func37 (by kernel_rfl) (by kernel_rfl) (GOk.cons okHasT Tryd.func38 (by kernel_rfl) (by kernel_rfl) GOk.nil)) GoOk.nil noIt) Tryd.func12 (c := Tryd.f12.body.getD .skip) (rvs := [(.tmp 2, tErr)]) (by kernel_rfl) (by kernel_rfl) (by kernel_rfl) ?_
  intro ds k ⟨hp, hk⟩ hwf
  obtain ⟨b, rfl, -⟩ := dest1 hp
  exact ⟨anCheck b, check_vc b (wf1 hwf).2.1.1 k hk⟩

theorem counts_vc (l : List Int) (hl : l.length ≤ maxLen) (k : List Dat → Prop) (hk : k [⟨tErr, cntE l⟩]) : vcF ⟨Eb, [(33, cWithin)], [], [], []⟩ (anCounts l) (Tryd.f7.body.getD .skip) Tryd.f7.ntmps [(.tmp 2, tErr)] [⟨.sl I, l⟩] k := by
  rw [vcCounts]
  have hml : maxLen ≤ 9223372036854775807 := by decide
  have ret : ∀ x : Int, cntE l = x → k [⟨tErr, x⟩] := by rintro _ rfl; exact hk
  simp only [decide_eq_true_eq, decide_eq_false_iff_not, true_and, and_true, Bool.not_eq_true', Bool.not_eq_false', Int.toNat_natCast, inK_i64]
  refine ⟨fun h => ⟨by decide, ret _ (by unfold cntE; rw [if_pos (by omega)])⟩, fun h => ⟨fun h2 => ⟨by decide, ret _ (by unfold cntE; rw [if_neg (by omega), if_pos (by omega)])⟩, fun h2 => ⟨⟨0, ⟨?_, Nat.zero_le _⟩, rfl⟩, fun x ⟨ho, hx⟩ => ⟨fun hlt => ?_, fun hge => ret _ ?_⟩⟩⟩⟩
  · unfold cntE; rw [if_neg (by omega), if_neg (by omega), Nat.sub_zero]
  · have hxl : x < l.length := by omega
    have hs : cntF l (l.length - x) x = if inB (l.getD x 0) 0 1000000 = true then cntF l (l.length - (x + 1)) (x + 1) else 1 := by
      rw [show l.length - x = (l.length - (x + 1)) + 1 by omega]; rfl
    refine ⟨by omega, hlt, fun he => ⟨by decide, ret _ ?_⟩, fun hne => ⟨by omega, x + 1, ⟨?_, by omega⟩, by omega, by omega⟩⟩
    · rw [ho, hs, if_neg (by rw [he]; decide)]
    · rw [ho, hs, if_pos hne]
  · have : x = l.length := by omega
    rw [ho, this, Nat.sub_self]; rfl

theorem okCounts : PlainOk Tryd.prog [] 7 cCounts := by
  refine plain_of (CxOk.mk' Eb_ok (by kernel_rfl) mixed (gl := []) (GOk.cons okWithin Tryd.func33 (by kernel_rfl) (by kernel_rfl) GOk.nil) GoOk.nil noIt) Tryd.func7 (c := Tryd.f7.body.getD .skip) (rvs := [(.tmp 2, tErr)]) (by kernel_rfl) (by kernel_rfl) (by kernel_rfl) ?_
  intro ds k ⟨hp, hk⟩ hwf
  obtain ⟨l, rfl, -⟩ := dest1 hp
  exact ⟨anCounts l, counts_vc l (wf1 hwf).1 k hk⟩

theorem take_succ_eq {α : Type} {a b : List α} {x : Nat} (ha : x < a.length) (hb : x < b.length) (h : a.take x = b.take x) (d : α) (he : a.getD x d = b.getD x d) : a.take (x + 1) = b.take (x + 1) := by
  rw [List.getD_eq_getElem?_getD, List.getD_eq_getElem?_getD, List.getElem?_eq_getElem ha, List.getElem?_eq_getElem hb] at he
  have he' : a[x] = b[x] := by simpa using he
  rw [List.take_succ_eq_append_getElem ha, List.take_succ_eq_append_getElem hb, h, he']

theorem ints_vc (a b : List Int) (hl : a.length ≤ maxLen) (k : List Dat → Prop) (hk : k [⟨.bool, decide (a = b)⟩]) : vcF ⟨Eb, [], [], [], []⟩ (anInts a b) (Tryd.f9.body.getD .skip) Tryd.f9.ntmps [(.tmp 4, .bool)] [⟨.sl I, a⟩, ⟨.sl I, b⟩] k := by
  rw [vcInts]
  have hml : maxLen ≤ 9223372036854775807 := by decide
  have ret : ∀ x : Bool, decide (a = b) = x → k [⟨.bool, x⟩] := by rintro _ rfl; exact hk
  simp only [decide_eq_true_eq, decide_eq_false_iff_not, true_and, and_true, Bool.not_eq_true', Bool.not_eq_false', Int.toNat_natCast, inK_i64]
  refine ⟨fun h => ret _ (decide_eq_false fun e => h (by rw [e])), fun h => ⟨⟨0, ⟨Nat.zero_le _, by omega, by simp⟩, rfl⟩, fun x ⟨hx, hab, ho⟩ => ⟨fun hlt => ?_, fun hge => ret _ ?_⟩⟩⟩
  · refine ⟨⟨by omega, hlt, by omega, by omega⟩, fun he => ret _ (decide_eq_false fun e => he (by rw [e])), fun he => ⟨by omega, x + 1, ⟨by omega, hab, take_succ_eq (by omega) (by omega) ho 0 he⟩, by omega, by omega⟩⟩
  · have hxl : x = a.length := by omega
    rw [hxl, List.take_length, hab, List.take_length] at ho
    exact decide_eq_true ho

theorem okInts : PlainOk Tryd.prog [] 9 cInts := by
  refine plain_of (CxOk.mk' Eb_ok (by kernel_rfl) mixed (gl := []) GOk.nil GoOk.nil noIt) Tryd.func9 (c := Tryd.f9.body.getD .skip) (rvs := [(.tmp 4, .bool)]) (by kernel_rfl) (by kernel_rfl) (by kernel_rfl) ?_
  intro ds k ⟨hp, hk⟩ hwf
  obtain ⟨a, b, rfl, -⟩ := dest2 hp
  exact ⟨anInts a b, ints_vc a b (wf2 hwf).1.1 k hk⟩

theorem sameT_vc (a b : List Tag) (hl : a.length ≤ maxLen) (k : List Dat → Prop) (hk : k [⟨.bool, decide (a = b)⟩]) : vcF ⟨Eb, [], [], [], []⟩ (anSameT a b) (Tryd.f42.body.getD .skip) Tryd.f42.ntmps [(.tmp 4, .bool)] [⟨.sl tT, a⟩, ⟨.sl tT, b⟩] k := by
  rw [vcSameT]
  have hml : maxLen ≤ 9223372036854775807 := by decide
  have ret : ∀ x : Bool, decide (a = b) = x → k [⟨.bool, x⟩] := by rintro _ rfl; exact hk
  simp only [decide_eq_true_eq, decide_eq_false_iff_not, true_and, and_true, Bool.not_eq_true', Bool.not_eq_false', Int.toNat_natCast, inK_i64, tag_eqB]
  refine ⟨fun h => ret _ (decide_eq_false fun e => h (by rw [e])), fun h => ⟨⟨0, ⟨Nat.zero_le _, by omega, by simp⟩, rfl⟩, fun x ⟨hx, hab, ho⟩ => ⟨fun hlt => ?_, fun hge => ret _ ?_⟩⟩⟩
  · refine ⟨⟨by omega, hlt, by omega, by omega⟩, fun he => ret _ (decide_eq_false fun e => he (by rw [e])), fun he => ⟨by omega, x + 1, ⟨by omega, hab, take_succ_eq (by omega) (by omega) ho _ he⟩, by omega, by omega⟩⟩
  · have hxl : x = a.length := by omega
    rw [hxl, List.take_length, hab, List.take_length] at ho
    exact decide_eq_true ho

theorem okSameT : PlainOk Tryd.prog [] 42 cSameT := by
  refine plain_of (CxOk.mk' Eb_ok (by kernel_rfl) mixed (gl := []) GOk.nil GoOk.nil noIt) Tryd.func42 (c := Tryd.f42.body.getD .skip) (rvs := [(.tmp 4, .bool)]) (by kernel_rfl) (by kernel_rfl) (by kernel_rfl) ?_
  intro ds k ⟨hp, hk⟩ hwf
  obtain ⟨a, b, rfl, -⟩ := dest2 hp
  exact ⟨anSameT a b, sameT_vc a b (wf2 hwf).1.1 k hk⟩

theorem okSameB : PlainOk Tryd.prog [] 17 cSameB := by
  refine plain_of (CxOk.mk' Eb_ok (by kernel_rfl) mixed (gl := []) (GOk.cons okSameT Tryd.func42 (by kernel_rfl) (by kernel_rfl) GOk.nil) GoOk.nil noIt) Tryd.func17 (c := Tryd.f17.body.getD .skip) (rvs := [(.tmp 4, .bool)]) (by kernel_rfl) (by kernel_rfl) (by kernel_rfl) ?_
  intro ds k ⟨hp, hk⟩ hwf
  obtain ⟨a, b, rfl, -⟩ := dest2 hp
  refine ⟨[joinAll], ?_⟩
  revert hk
  generalize ha : a = x at *
  generalize hb : b = y at *
  obtain ⟨x1, x2, _⟩ := x
  obtain ⟨y1, y2, _⟩ := y
  intro hk
  rw [vcSameB]
  have ret : ∀ z : Bool, (decide (x1 = y1) && decide (x2 = y2)) = z → k [⟨.bool, z⟩] := by rintro _ rfl; exact hk
  exact ⟨trivial, fun h => ⟨trivial, ret _ (by rw [show decide (x1 = y1) = true from h, Bool.true_and])⟩, fun h => ret _ (by rw [show decide (x1 = y1) = false from h, Bool.false_and])⟩

theorem ownClone : OwnOk Tryd.prog [] 40 oClone := by
  refine own_nilrow (oc := fun args ob k => ∃ l : List Tag, args = [.d (.sl tT) l] ∧ ob = [] ∧ l.length ≤ 1000000000 ∧ (l = [] → k .nils []) ∧ k (.os 0) [.row 46 tT l]) ?_ 46 tT ?_
  · refine own_of (CxOk.mk' Eb_ok (by kernel_rfl) mixed (gl := []) GOk.nil GoOk.nil noIt) Tryd.func40 (c := Tryd.f40.body.getD .skip) (rvs := [(.tmp 2, .un)]) (by kernel_rfl) (by kernel_rfl) (by kernel_rfl) ?_
    rintro args ob k ⟨l, rfl, rfl, hl, h1, h2⟩ hwa hwo
    refine ⟨[], ?_⟩
    rw [vcClone]
    exact fun b hb => ⟨fun e => h1 (hb e), fun _ => ⟨by simpa using hl, h2⟩⟩
  · intro args ob k h
    unfold oClone at h
    split at h
    · rename_i l
      exact ⟨rfl, l, rfl, rfl, h.1, (fun e => by subst e; exact h.2), h.2⟩
    · exact h.elim

theorem ownCloneI : OwnOk Tryd.prog [] 34 oCloneI := by
  refine own_nilrow (oc := fun args ob k => ∃ l : List Int, args = [.d (.sl I) l] ∧ ob = [] ∧ l.length ≤ 1000000000 ∧ (l = [] → k .nils []) ∧ k (.os 0) [.row 3 I l]) ?_ 3 I ?_
  · refine own_of (CxOk.mk' Eb_ok (by kernel_rfl) mixed (gl := []) GOk.nil GoOk.nil noIt) Tryd.func34 (c := Tryd.f34.body.getD .skip) (rvs := [(.tmp 2, .un)]) (by kernel_rfl) (by kernel_rfl) (by kernel_rfl) ?_
    rintro args ob k ⟨l, rfl, rfl, hl, h1, h2⟩ hwa hwo
    refine ⟨[], ?_⟩
    rw [vcCloneI]
    exact fun b hb => ⟨fun e => h1 (hb e), fun _ => ⟨by simpa using hl, h2⟩⟩
  · intro args ob k h
    unfold oCloneI at h
    split at h
    · rename_i l
      exact ⟨rfl, l, rfl, rfl, h.1, (fun e => by subst e; exact h.2), h.2⟩
    · exact h.elim

theorem ownGrow : OwnOk Tryd.prog [] 61 oGrow := by
  refine own_nilrow (oc := fun args ob k => ∃ n : Int, args = [.nils, .d I n] ∧ ob = [] ∧ (0 ≤ n ∧ n ≤ 1000000000) ∧ k .nils [] ∧ k (.os 0) [.row 46 tT ([] : List Tag)]) ?_ 46 tT ?_
  · refine own_of (CxOk.mk' Eb_ok (by kernel_rfl) mixed (gl := []) GOk.nil GoOk.nil noIt) Tryd.func61 (c := Tryd.f61.body.getD .skip) (rvs := [(.tmp 4, .un)]) (by kernel_rfl) (by kernel_rfl) (by kernel_rfl) ?_
    rintro args ob k ⟨n, rfl, rfl, ⟨hn0, hn1⟩, h1, h2⟩ hwa hwo
    refine ⟨[joinAll], ?_⟩
    rw [vcGrow]
    simp only [decide_eq_true_eq, decide_eq_false_iff_not, true_and, inK_i64, Int.sub_zero]
    refine ⟨fun h => by omega, fun _ => ⟨by omega, by omega, fun _ => ⟨⟨by omega, by omega⟩, ⟨Int.le_refl _, by omega⟩, h2⟩, fun _ => h1⟩⟩
  · intro args ob k h
    unfold oGrow at h
    split at h
    · rename_i n
      exact ⟨rfl, n, rfl, rfl, h.1, h.2, h.2⟩
    · exact h.elim

theorem sumL_le (ls : List (List Tag)) : ∀ n, sumL ls n ≤ sumL ls ls.length := by
  intro n
  unfold sumL
  rw [List.take_length]
  have h : ls.map List.length = (ls.take n).map List.length ++ (ls.drop n).map List.length := by rw [← List.map_append, List.take_append_drop]
  rw [h, List.sum_append]; omega
theorem sumL_succ (ls : List (List Tag)) {n : Nat} (h : n < ls.length) : sumL ls (n + 1) = sumL ls n + (ls.getD n []).length := by
  unfold sumL
  rw [List.take_succ_eq_append_getElem h, List.map_append, List.sum_append, List.getD_eq_getElem?_getD, List.getElem?_eq_getElem h]; simp
theorem flat_len (ls : List (List Tag)) (n : Nat) : (ls.take n).flatten.length = sumL ls n := by unfold sumL; rw [List.length_flatten]
theorem flat_succ (ls : List (List Tag)) {n : Nat} (h : n < ls.length) : (ls.take (n + 1)).flatten = (ls.take n).flatten ++ ls.getD n [] := by
  rw [List.take_succ_eq_append_getElem h, List.flatten_append, List.getD_eq_getElem?_getD, List.getElem?_eq_getElem h]; simp

theorem concat_vc (ls : List (List Tag)) (hl : ls.length ≤ maxLen) (hs : sumL ls ls.length ≤ 1000000000) (k : SV → List Ob → Prop) (hk : k (.os 0) [.row 46 tT (ls.flatten : List Tag)]) :
    vcO ⟨Eb, [], [], [], [(61, oGrow)]⟩ (anConcat ls) (Tryd.f44.body.getD .skip) Tryd.f44.ntmps [(.tmp 2, .un)] [.d (.sl (.sl tT)) ls] [] k := by
  rw [vcConcat]
  have hml : maxLen ≤ 9223372036854775807 := by decide
  simp only [decide_eq_true_eq, decide_eq_false_iff_not, true_and, and_true, Int.toNat_natCast, inK_i64]
  refine ⟨⟨0, Nat.zero_le _, rfl, rfl⟩, fun x hx => ⟨fun hlt => ?_, fun hge => ?_⟩⟩
  · have hxl : x < ls.length := by omega
    have h1 := sumL_succ ls hxl
    have h2 := sumL_le ls (x + 1)
    refine ⟨by omega, hlt, by omega, fun h => by omega, fun _ => ⟨by omega, x + 1, by omega, by omega, by omega, by omega⟩⟩
  · have h2 := sumL_le ls x
    refine ⟨by omega, ⟨0, Nat.zero_le _, rfl, rfl⟩, fun y hy => ⟨fun hlt => ?_, fun hge2 => ?_⟩⟩
    · have hyl : y < ls.length := by omega
      have h1 := sumL_succ ls hyl
      have h2 := sumL_le ls (y + 1)
      refine ⟨by omega, hlt, by rw [flat_len]; omega, by omega, y + 1, by omega, by omega, by omega, (flat_succ ls hyl).symm⟩
    · have : y = ls.length := by omega
      rw [this, List.take_length]; exact hk

theorem ownConcat : OwnOk Tryd.prog [] 44 oConcat := by
  refine own_of (CxOk.mk' Eb_ok (by kernel_rfl) mixed (gl := []) GOk.nil (GoOk.cons ownGrow Tryd.func61 (by kernel_rfl) (by kernel_rfl) GoOk.nil) noIt) Tryd.func44 (c := Tryd.f44.body.getD .skip) (rvs := [(.tmp 2, .un)]) (by kernel_rfl) (by kernel_rfl) (by kernel_rfl) ?_
  intro args ob k h hwa hwo
  unfold oConcat at h
  split at h
  · rename_i ls
    exact ⟨anConcat ls, concat_vc ls (show (Ty.sl (.sl tT)).wf ls from hwa _ (List.mem_singleton.2 rfl)).1 h.1 k h.2⟩
  · exact h.elim
end Go.Proofs.YtgcliogognkdkaaDoor

/- Tags in a row that rises: what sorting, and striking doubles, comes to. -/
namespace Go.Proofs.YtgcliogognkdkaaDoor
open Go.Vc

def ltT (a b : Tag) : Prop := a.1 < b.1 ∨ a.1 = b.1 ∧ (a.2.1 < b.2.1 ∨ a.2.1 = b.2.1 ∧ a.2.2.1 < b.2.2.1)
theorem cmpI_lt {a b : Int} : cmpI a b < 0 ↔ a < b := by
  unfold cmpI
  by_cases h : a < b
  · simp [h]
  · by_cases h2 : b < a <;> simp [h, h2]
theorem cmpI_z {a b : Int} : cmpI a b = 0 ↔ a = b := by
  unfold cmpI
  by_cases h : a < b
  · simp [h]; omega
  · by_cases h2 : b < a
    · simp [h, h2]; omega
    · simp [h, h2]; omega
theorem cmpT_lt {a b : Tag} : cmpT a b < 0 ↔ ltT a b := by
  unfold cmpT ltT
  simp only [orI]
  by_cases h1 : cmpI a.1 b.1 = 0
  · have e1 := cmpI_z.1 h1
    rw [if_pos h1]
    by_cases h2 : cmpI a.2.1 b.2.1 = 0
    · have e2 := cmpI_z.1 h2
      rw [if_pos h2]
      by_cases h3 : cmpI a.2.2.1 b.2.2.1 = 0
      · have e3 := cmpI_z.1 h3
        rw [if_pos h3]; omega
      · rw [if_neg h3, cmpI_lt]; omega
    · have e2 : ¬ a.2.1 = b.2.1 := fun e => h2 (cmpI_z.2 e)
      rw [if_neg h2, cmpI_lt]; omega
  · have e1 : ¬ a.1 = b.1 := fun e => h1 (cmpI_z.2 e)
    rw [if_neg h1, cmpI_lt]; omega
theorem cmpT_ge {a b : Tag} : 0 ≤ cmpT a b ↔ ¬ ltT a b := by rw [← cmpT_lt]; omega
theorem ltT_irrefl (a : Tag) : ¬ ltT a a := by unfold ltT; omega
theorem ltT_trans {a b c : Tag} (h : ltT a b) (k : ltT b c) : ltT a c := by unfold ltT at *; omega
theorem ltT_asymm {a b : Tag} (h : ltT a b) : ¬ ltT b a := fun k => ltT_irrefl a (ltT_trans h k)
theorem ltT_tri {a b : Tag} (h1 : ¬ ltT a b) (h2 : ¬ ltT b a) : a = b := by
  obtain ⟨a1, a2, a3, _⟩ := a
  obtain ⟨b1, b2, b3, _⟩ := b
  unfold ltT at h1 h2
  simp only at h1 h2
  have e1 : a1 = b1 := by omega
  have e2 : a2 = b2 := by omega
  have e3 : a3 = b3 := by omega
  rw [e1, e2, e3]

/-- rising, each once -/
abbrev SS (l : List Tag) : Prop := l.Pairwise ltT
theorem SS.ext : ∀ {l m : List Tag}, SS l → SS m → (∀ t, t ∈ l ↔ t ∈ m) → l = m
  | [], [], _, _, _ => rfl
  | [], y :: m, _, _, h => absurd ((h y).2 (List.mem_cons_self ..)) (by simp)
  | x :: l, [], _, _, h => absurd ((h x).1 (List.mem_cons_self ..)) (by simp)
  | x :: l, y :: m, hl, hm, h => by
    obtain ⟨hl1, hl2⟩ := List.pairwise_cons.1 hl
    obtain ⟨hm1, hm2⟩ := List.pairwise_cons.1 hm
    have hxy : x = y := by
      rcases List.mem_cons.1 ((h x).1 (List.mem_cons_self ..)) with e | e
      · exact e
      · rcases List.mem_cons.1 ((h y).2 (List.mem_cons_self ..)) with e2 | e2
        · exact e2.symm
        · exact absurd (hl1 y e2) (ltT_asymm (hm1 x e))
    subst hxy
    congr 1
    refine SS.ext hl2 hm2 fun t => ⟨fun ht => ?_, fun ht => ?_⟩
    · rcases List.mem_cons.1 ((h t).1 (List.mem_cons_of_mem _ ht)) with e | e
      · subst e; exact absurd (hl1 t ht) (ltT_irrefl t)
      · exact e
    · rcases List.mem_cons.1 ((h t).2 (List.mem_cons_of_mem _ ht)) with e | e
      · subst e; exact absurd (hm1 t ht) (ltT_irrefl t)
      · exact e

theorem mem_insT (t u : Tag) : ∀ l : List Tag, u ∈ insT t l ↔ u = t ∨ u ∈ l
  | [] => by simp [insT]
  | x :: l => by
    unfold insT
    split
    · simp
    · rename_i h1
      split
      · rw [List.mem_cons, mem_insT t u l, List.mem_cons]
        constructor
        · rintro (h | h | h)
          · exact .inr (.inl h)
          · exact .inl h
          · exact .inr (.inr h)
        · rintro (h | h | h)
          · exact .inr (.inl h)
          · exact .inl h
          · exact .inr (.inr h)
      · rename_i h2
        have : t = x := ltT_tri (fun h => h1 (cmpT_lt.2 h)) (fun h => h2 (cmpT_lt.2 h))
        subst this
        simp
theorem ss_insT (t : Tag) : ∀ {l : List Tag}, SS l → SS (insT t l)
  | [], _ => by simp [insT, SS]
  | x :: l, h => by
    obtain ⟨h1, h2⟩ := List.pairwise_cons.1 h
    unfold insT
    split
    · rename_i ht
      have ht := cmpT_lt.1 ht
      refine List.pairwise_cons.2 ⟨fun u hu => ?_, h⟩
      rcases List.mem_cons.1 hu with e | e
      · subst e; exact ht
      · exact ltT_trans ht (h1 u e)
    · split
      · rename_i hx
        have hx := cmpT_lt.1 hx
        refine List.pairwise_cons.2 ⟨fun u hu => ?_, ss_insT t h2⟩
        rcases (mem_insT t u l).1 hu with e | e
        · subst e; exact hx
        · exact h1 u e
      · exact h
theorem mem_srt {u : Tag} : ∀ {l : List Tag}, u ∈ srt l ↔ u ∈ l
  | [] => by simp [srt]
  | x :: l => by
    show u ∈ insT x (srt l) ↔ _
    rw [mem_insT, mem_srt (l := l), List.mem_cons]
theorem ss_srt : ∀ (l : List Tag), SS (srt l)
  | [] => List.Pairwise.nil
  | x :: l => ss_insT x (ss_srt l)
theorem srt_eq {l m : List Tag} (h : SS m) (he : ∀ t, t ∈ m ↔ t ∈ l) : srt l = m := SS.ext (ss_srt l) h fun t => mem_srt.trans (he t).symm
theorem insT_len (t : Tag) : ∀ l : List Tag, (insT t l).length ≤ l.length + 1
  | [] => by simp [insT]
  | x :: l => by
    unfold insT
    have := insT_len t l
    split
    · simp
    · split
      · simp only [List.length_cons]; omega
      · simp
theorem srt_len : ∀ l : List Tag, (srt l).length ≤ l.length
  | [] => Nat.le_refl _
  | x :: l => by
    have h1 := insT_len x (srt l)
    have h2 := srt_len l
    show (insT x (srt l)).length ≤ l.length + 1
    omega

theorem mem_cpt {u : Tag} : ∀ {l : List Tag}, u ∈ cpt l ↔ u ∈ l
  | [] => by simp [cpt]
  | [x] => by simp [cpt]
  | x :: y :: l => by
    unfold cpt
    split
    · rename_i h; subst h
      rw [mem_cpt (l := x :: l), List.mem_cons (a := u) (b := x) (l := x :: l)]
      exact ⟨.inr, fun h => h.elim (fun e => e ▸ List.mem_cons_self ..) id⟩
    · rw [List.mem_cons, mem_cpt (l := y :: l), List.mem_cons (b := x)]
theorem ss_cpt : ∀ {l : List Tag}, (l.Pairwise fun a b => ¬ ltT b a) → SS (cpt l)
  | [], _ => by simp [cpt, SS]
  | [x], _ => by simp [cpt, SS]
  | x :: y :: l, h => by
    obtain ⟨h1, h2⟩ := List.pairwise_cons.1 h
    unfold cpt
    split
    · exact ss_cpt h2
    · rename_i hne
      refine List.pairwise_cons.2 ⟨fun u hu => ?_, ss_cpt h2⟩
      have hu := mem_cpt.1 hu
      have hxy : ltT x y := by
        cases Classical.em (ltT x y) with
        | inl h => exact h
        | inr h => exact absurd (ltT_tri h (h1 y (List.mem_cons_self ..))) hne
      rcases List.mem_cons.1 hu with e | e
      · subst e; exact hxy
      · have := (List.pairwise_cons.1 h2).1 u e
        cases Classical.em (ltT y u) with
        | inl h => exact ltT_trans hxy h
        | inr h => rw [← ltT_tri h this]; exact hxy
theorem cpt_srt {xs ys : List Tag} (h : srtP xs ys) : cpt ys = srt xs := by
  refine (srt_eq (ss_cpt (h.2.imp fun h => cmpT_ge.1 h)) fun t => ?_).symm
  rw [mem_cpt]; exact h.1.mem_iff

theorem cpt_snoc (a b : Tag) : ∀ l : List Tag, cpt (l ++ [a] ++ [b]) = if a = b then cpt (l ++ [a]) else cpt (l ++ [a]) ++ [b]
  | [] => by
    by_cases h : a = b
    · subst h; simp [cpt]
    · simp [cpt, h]
  | [x] => by
    have := cpt_snoc a b []
    simp only [List.nil_append, List.cons_append] at this ⊢
    by_cases hx : x = a
    · subst hx
      simp only [cpt, if_true] at this ⊢
      exact this
    · simp only [cpt, if_neg hx] at this ⊢
      split
      · rename_i h; subst h; simp
      · simp
  | x :: y :: l => by
    have := cpt_snoc a b (y :: l)
    simp only [List.cons_append] at this ⊢
    by_cases hx : x = y
    · subst hx
      simp only [cpt, if_true]
      exact this
    · rw [cpt, if_neg hx, cpt, if_neg hx, this]
      split <;> simp
theorem cpt_step {l : List Tag} {n : Nat} (h1 : 1 ≤ n) (h2 : n < l.length) : cpt (l.take (n + 1)) = if l.getD (n - 1) tag0 = l.getD n tag0 then cpt (l.take n) else cpt (l.take n) ++ [l.getD n tag0] := by
  have e1 : l.take n = l.take (n - 1) ++ [l.getD (n - 1) tag0] := by
    have := List.take_succ_eq_append_getElem (show n - 1 < l.length by omega)
    rw [show n - 1 + 1 = n by omega] at this
    rw [this, List.getD_eq_getElem?_getD, List.getElem?_eq_getElem (show n - 1 < l.length by omega)]; rfl
  have e2 : l.take (n + 1) = l.take n ++ [l.getD n tag0] := by
    rw [List.take_succ_eq_append_getElem h2, List.getD_eq_getElem?_getD, List.getElem?_eq_getElem h2]; rfl
  rw [e2, e1]
  exact cpt_snoc _ _ _
end Go.Proofs.YtgcliogognkdkaaDoor

/- What the functions of this seat have to satisfy, by program: each verification condition in plain words. -/
namespace Go.Proofs.YtgcliogognkdkaaDoor
open Go.Vc
set_option linter.unusedVariables false
theorem vcSorted (xs : List Tag) (k : SV → List Ob → Prop) : vcO ⟨Eb, [], [], [], [(59, oSortT), (60, oCompact)]⟩ [] (Tryd.f41.body.getD .skip) Tryd.f41.ntmps [(.tmp 2, .un)] [.os 0] [.row 46 tT xs] k = (
  xs.length ≤ (1000000000 : Nat) ∧ ∀ (ys : List Tag), srtP xs ys → ys.length ≤ (1000000000 : Nat) ∧ k (SV.os (1 : Nat)) [Ob.dead, Ob.row (46 : Nat) (tT) (cpt ys)]) := by kernel_rfl
theorem vcAdd (b : Bag) (e n : Int) (k : List Dat → Prop) : vcF ⟨Ebw [6], [(12, cCheck), (33, cWithin)], [], [], [(40, oClone), (41, oSorted)]⟩ (anAdd b n) (Tryd.f20.body.getD .skip) Tryd.f20.ntmps [(.cell 6 25, tB), (.tmp 7, tErr)] [⟨tB, b⟩, ⟨I, e⟩, ⟨I, n⟩] k = (
  True ∧ ((!decide (chkB b = (0 : Int))) = true → k [Dat.mk (tB) ([], [], ()), Dat.mk (Ty.err (69 : Nat)) (chkB b)]) ∧ ((!decide (chkB b = (0 : Int))) = false → True ∧ ((!inB e (0 : Int) (9 : Int)) = true → (1 : Int) ≠ (0 : Int) ∧ k [Dat.mk (tB) ([], [], ()), Dat.mk (Ty.err (69 : Nat)) (1 : Int)]) ∧ ((!inB e (0 : Int) (9 : Int)) = false → True ∧ ((!inB n (0 : Int) (4 : Int)) = true → (1 : Int) ≠ (0 : Int) ∧ k [Dat.mk (tB) ([], [], ()), Dat.mk (Ty.err (69 : Nat)) (1 : Int)]) ∧ ((!inB n (0 : Int) (4 : Int)) = false → (∃ (x : Nat), (x ≤ b.fst.length ∧ chkB b = (0 : Int)) ∧ (e = e ∧ n = n ∧ ([] : List Nat) = [] ∧ True ∧ (0 : Int) = maxC b.fst n x ∧ b.fst = b.fst ∧ (↑(List.length b.fst) : Int) = (↑(List.length b.fst) : Int) ∧ (0 : Int) = (↑x : Int) ∧ True) ∧ (((25 : Nat) = (25 : Nat) ∧ b = b) ∧ (True ∧ True ∧ True) ∧ True) ∧ True) ∧ ∀ (x : Nat), x ≤ b.fst.length ∧ chkB b = (0 : Int) → (decide ((↑x : Int) < (↑(List.length b.fst) : Int)) = true → (0 : Int) ≤ (↑x : Int) ∧ (↑x : Int) < (↑(List.length b.fst) : Int) ∧ (decide ((List.getD b.fst (↑x : Int).toNat ((0 : Int), (0 : Int), (0 : Int), ())).snd.fst = n) = true → inK IntKind.i64 ((↑x : Int) + (1 : Int)) ∧ ∃ (x_1 : Nat), (x_1 ≤ b.fst.length ∧ chkB b = (0 : Int)) ∧ b.fst.length - x_1 < b.fst.length - x ∧ (e = e ∧ n = n ∧ ([] : List Nat) = [] ∧ True ∧ max (maxC b.fst n x) (List.getD b.fst (↑x : Int).toNat ((0 : Int), (0 : Int), (0 : Int), ())).snd.snd.fst = maxC b.fst n x_1 ∧ b.fst = b.fst ∧ (↑(List.length b.fst) : Int) = (↑(List.length b.fst) : Int) ∧ (↑x : Int) + (1 : Int) = (↑x_1 : Int) ∧ True) ∧ (((25 : Nat) = (25 : Nat) ∧ b = b) ∧ (True ∧ True ∧ True) ∧ True) ∧ True) ∧ (decide ((List.getD b.fst (↑x : Int).toNat ((0 : Int), (0 : Int), (0 : Int), ())).snd.fst = n) = false → inK IntKind.i64 ((↑x : Int) + (1 : Int)) ∧ ∃ (x_1 : Nat), (x_1 ≤ b.fst.length ∧ chkB b = (0 : Int)) ∧ b.fst.length - x_1 < b.fst.length - x ∧ (e = e ∧ n = n ∧ ([] : List Nat) = [] ∧ True ∧ maxC b.fst n x = maxC b.fst n x_1 ∧ b.fst = b.fst ∧ (↑(List.length b.fst) : Int) = (↑(List.length b.fst) : Int) ∧ (↑x : Int) + (1 : Int) = (↑x_1 : Int) ∧ True) ∧ (((25 : Nat) = (25 : Nat) ∧ b = b) ∧ (True ∧ True ∧ True) ∧ True) ∧ True)) ∧ (decide ((↑x : Int) < (↑(List.length b.fst) : Int)) = false → (decide ((↑(List.length b.fst) : Int) = (24 : Int)) = true → (4 : Int) ≠ (0 : Int) ∧ k [Dat.mk (tB) ([], [], ()), Dat.mk (Ty.err (69 : Nat)) (4 : Int)]) ∧ (decide ((↑(List.length b.fst) : Int) = (24 : Int)) = false → (decide (maxC b.fst n x = (1000000 : Int)) = true → (4 : Int) ≠ (0 : Int) ∧ k [Dat.mk (tB) ([], [], ()), Dat.mk (Ty.err (69 : Nat)) (4 : Int)]) ∧ (decide (maxC b.fst n x = (1000000 : Int)) = false → inK IntKind.i64 (maxC b.fst n x + (1 : Int)) ∧ True ∧ List.length b.fst ≤ (1000000000 : Nat) ∧ ((inK IntKind.i64 (maxC b.fst n x + (1 : Int)) ∧ maxC b.fst n x + (1 : Int) = maxC b.fst n x + (1 : Int)) ∧ (e, n, maxC b.fst n x + (1 : Int), ()) = (e, n, maxC b.fst n x + (1 : Int), ()) ∧ (List.replicate (1 : Nat) ((0 : Int), (0 : Int), (0 : Int), ())).set (0 : Nat) (e, n, maxC b.fst n x + (1 : Int), ()) = (List.replicate (1 : Nat) ((0 : Int), (0 : Int), (0 : Int), ())).set (0 : Nat) (e, n, maxC b.fst n x + (1 : Int), ()) ∧ SV.pv (tB) (0 : Nat) ([] ++ [(1 : Nat)]) = SV.pv (tB) (0 : Nat) ([] ++ [(1 : Nat)]) ∧ b.snd.fst = b.snd.fst ∧ True) ∧ List.length b.fst + ((List.replicate (1 : Nat) ((0 : Int), (0 : Int), (0 : Int), ())).set (0 : Nat) (e, n, maxC b.fst n x + (1 : Int), ())).length ≤ (1000000000 : Nat) ∧ (SV.pv (tB) (0 : Nat) ([] ++ [(1 : Nat)]) = SV.pv (tB) (0 : Nat) ([] ++ [(1 : Nat)]) ∧ b.snd.fst = b.snd.fst ∧ True) ∧ (List.append b.fst ((List.replicate (1 : Nat) ((0 : Int), (0 : Int), (0 : Int), ())).set (0 : Nat) (e, n, maxC b.fst n x + (1 : Int), ()))).length ≤ (1000000000 : Nat) ∧ (SV.pv (tB) (0 : Nat) ([] ++ [(1 : Nat)]) = SV.pv (tB) (0 : Nat) ([] ++ [(1 : Nat)]) ∧ b.snd.fst = b.snd.fst ∧ True) ∧ List.length b.snd.fst ≤ (1000000000 : Nat) ∧ True ∧ True ∧ k [Dat.mk (tB) (srt (List.append b.fst ((List.replicate (1 : Nat) ((0 : Int), (0 : Int), (0 : Int), ())).set (0 : Nat) (e, n, maxC b.fst n x + (1 : Int), ()))), b.snd.fst, ()), Dat.mk (Ty.err (69 : Nat)) (0 : Int)]))))))) := by kernel_rfl
theorem vcDrop (b : Bag) (e : Int) (k : List Dat → Prop) : vcF ⟨Ebw [4, 7], [(12, cCheck), (33, cWithin)], [], [], [(40, oClone), (41, oSorted)]⟩ (anDrop b e) (Tryd.f16.body.getD .skip) Tryd.f16.ntmps [(.cell 4 25, tB), (.tmp 5, tErr)] [⟨tB, b⟩, ⟨I, e⟩] k = (
  True ∧ ((!decide (chkB b = (0 : Int))) = true → k [Dat.mk (tB) ([], [], ()), Dat.mk (Ty.err (69 : Nat)) (chkB b)]) ∧ ((!decide (chkB b = (0 : Int))) = false → True ∧ ((!inB e (0 : Int) (9 : Int)) = true → (1 : Int) ≠ (0 : Int) ∧ k [Dat.mk (tB) ([], [], ()), Dat.mk (Ty.err (69 : Nat)) (1 : Int)]) ∧ ((!inB e (0 : Int) (9 : Int)) = false → (True ∧ (List.length b.fst ≤ (1000000000 : Nat) ∧ (SV.pv (tB) (0 : Nat) ([] ++ [(1 : Nat)]) = SV.pv (tB) (0 : Nat) ([] ++ [(1 : Nat)]) ∧ b.snd.fst = b.snd.fst ∧ True) ∧ (List.length b.snd.fst ≤ (1000000000 : Nat) ∧ True ∧ ((SV.ag [SV.os (2 : Nat), SV.os (3 : Nat)] = SV.ag [SV.os (2 : Nat), SV.os (3 : Nat)] ∧ True) ∧ (True ∧ ∃ (x : Unit), (dropE b e = (0 : Int) ∧ True) ∧ (e = e ∧ ([] : List Nat) = [] ∧ True ∧ True ∧ True) ∧ (((25 : Nat) = (25 : Nat) ∧ b = b) ∧ (True ∧ True ∧ True) ∧ ((46 : Nat) = (46 : Nat) ∧ b.fst = b.fst) ∧ ((46 : Nat) = (46 : Nat) ∧ b.snd.fst = b.snd.fst) ∧ (True ∧ True ∧ True) ∧ True) ∧ True) ∧ True) ∧ True ∧ True) ∧ ((SV.pv (tB) (0 : Nat) ([] ++ [(1 : Nat)]) = SV.pv (tB) (0 : Nat) ([] ++ [(1 : Nat)]) ∧ b.snd.fst = b.snd.fst ∧ True) ∧ (List.length b.snd.fst ≤ (1000000000 : Nat) ∧ True ∧ (True ∧ ∃ (x : Unit), (dropE b e = (0 : Int) ∧ True) ∧ (e = e ∧ ([] : List Nat) = [] ∧ True ∧ True ∧ True) ∧ (((25 : Nat) = (25 : Nat) ∧ b = b) ∧ (True ∧ True ∧ True) ∧ ((46 : Nat) = (46 : Nat) ∧ b.fst = b.fst) ∧ ((46 : Nat) = (46 : Nat) ∧ b.snd.fst = b.snd.fst) ∧ (True ∧ True ∧ True) ∧ True) ∧ True) ∧ True) ∧ True ∧ True) ∧ True ∧ True) ∧ True ∧ ((SV.pv (tB) (0 : Nat) ([] ++ [(0 : Nat)]) = SV.pv (tB) (0 : Nat) ([] ++ [(0 : Nat)]) ∧ b.fst = b.fst ∧ SV.pv (tB) (0 : Nat) ([] ++ [(1 : Nat)]) = SV.pv (tB) (0 : Nat) ([] ++ [(1 : Nat)]) ∧ b.snd.fst = b.snd.fst ∧ True) ∧ (List.length b.fst ≤ (1000000000 : Nat) ∧ (SV.pv (tB) (0 : Nat) ([] ++ [(1 : Nat)]) = SV.pv (tB) (0 : Nat) ([] ++ [(1 : Nat)]) ∧ b.snd.fst = b.snd.fst ∧ True) ∧ (List.length b.snd.fst ≤ (1000000000 : Nat) ∧ True ∧ (True ∧ ∃ (x : Unit), (dropE b e = (0 : Int) ∧ True) ∧ (e = e ∧ ([] : List Nat) = [] ∧ True ∧ True ∧ True) ∧ (((25 : Nat) = (25 : Nat) ∧ b = b) ∧ (True ∧ True ∧ True) ∧ ((46 : Nat) = (46 : Nat) ∧ b.fst = b.fst) ∧ ((46 : Nat) = (46 : Nat) ∧ b.snd.fst = b.snd.fst) ∧ (True ∧ True ∧ True) ∧ True) ∧ True) ∧ True) ∧ True ∧ True) ∧ True ∧ True ∧ True) ∧ True ∧ True) ∧ ∀ (x : Unit), dropE b e = (0 : Int) ∧ True → (∃ (x : Nat), (x ≤ b.fst.length ∧ dropE b e = (0 : Int)) ∧ (e = e ∧ ([] : List Nat) = [] ∧ True ∧ True ∧ b.fst = b.fst ∧ (↑(List.length b.fst) : Int) = (↑(List.length b.fst) : Int) ∧ (0 : Int) = (↑x : Int) ∧ True) ∧ (((25 : Nat) = (25 : Nat) ∧ b = b) ∧ (True ∧ True ∧ True) ∧ ((46 : Nat) = (46 : Nat) ∧ b.fst = b.fst) ∧ ((46 : Nat) = (46 : Nat) ∧ b.snd.fst = b.snd.fst ++ ofE (List.take x b.fst) e) ∧ (True ∧ True ∧ True) ∧ True) ∧ True) ∧ ∀ (x : Nat), x ≤ b.fst.length ∧ dropE b e = (0 : Int) → (decide ((↑x : Int) < (↑(List.length b.fst) : Int)) = true → (0 : Int) ≤ (↑x : Int) ∧ (↑x : Int) < (↑(List.length b.fst) : Int) ∧ (decide ((List.getD b.fst (↑x : Int).toNat ((0 : Int), (0 : Int), (0 : Int), ())).fst = e) = true → (b.snd.fst ++ ofE (List.take x b.fst) e).length + ((List.replicate (1 : Nat) ((0 : Int), (0 : Int), (0 : Int), ())).set (0 : Nat) (List.getD b.fst (↑x : Int).toNat ((0 : Int), (0 : Int), (0 : Int), ()))).length ≤ (1000000000 : Nat) ∧ inK IntKind.i64 ((↑x : Int) + (1 : Int)) ∧ ∃ (x_1 : Nat), (x_1 ≤ b.fst.length ∧ dropE b e = (0 : Int)) ∧ b.fst.length - x_1 < b.fst.length - x ∧ (e = e ∧ ([] : List Nat) = [] ∧ True ∧ True ∧ b.fst = b.fst ∧ (↑(List.length b.fst) : Int) = (↑(List.length b.fst) : Int) ∧ (↑x : Int) + (1 : Int) = (↑x_1 : Int) ∧ True) ∧ (((25 : Nat) = (25 : Nat) ∧ b = b) ∧ (True ∧ True ∧ True) ∧ ((46 : Nat) = (46 : Nat) ∧ b.fst = b.fst) ∧ ((46 : Nat) = (46 : Nat) ∧ (b.snd.fst ++ ofE (List.take x b.fst) e).append ((List.replicate (1 : Nat) ((0 : Int), (0 : Int), (0 : Int), ())).set (0 : Nat) (List.getD b.fst (↑x : Int).toNat ((0 : Int), (0 : Int), (0 : Int), ()))) = b.snd.fst ++ ofE (List.take x_1 b.fst) e) ∧ (True ∧ True ∧ True) ∧ True) ∧ True) ∧ (decide ((List.getD b.fst (↑x : Int).toNat ((0 : Int), (0 : Int), (0 : Int), ())).fst = e) = false → inK IntKind.i64 ((↑x : Int) + (1 : Int)) ∧ ∃ (x_1 : Nat), (x_1 ≤ b.fst.length ∧ dropE b e = (0 : Int)) ∧ b.fst.length - x_1 < b.fst.length - x ∧ (e = e ∧ ([] : List Nat) = [] ∧ True ∧ True ∧ b.fst = b.fst ∧ (↑(List.length b.fst) : Int) = (↑(List.length b.fst) : Int) ∧ (↑x : Int) + (1 : Int) = (↑x_1 : Int) ∧ True) ∧ (((25 : Nat) = (25 : Nat) ∧ b = b) ∧ (True ∧ True ∧ True) ∧ ((46 : Nat) = (46 : Nat) ∧ b.fst = b.fst) ∧ ((46 : Nat) = (46 : Nat) ∧ b.snd.fst ++ ofE (List.take x b.fst) e = b.snd.fst ++ ofE (List.take x_1 b.fst) e) ∧ (True ∧ True ∧ True) ∧ True) ∧ True)) ∧ (decide ((↑x : Int) < (↑(List.length b.fst) : Int)) = false → (b.snd.fst ++ ofE (List.take x b.fst) e).length ≤ (1000000000 : Nat) ∧ k [Dat.mk (tB) (b.fst, srt (b.snd.fst ++ ofE (List.take x b.fst) e), ()), Dat.mk (Ty.err (69 : Nat)) (0 : Int)])))) := by kernel_rfl
theorem vcJoin (a b : Bag) (k : List Dat → Prop) : vcF ⟨Ebw [4, 8], [(12, cCheck)], [], [], [(44, oConcat), (41, oSorted)]⟩ (anJoin a b) (Tryd.f22.body.getD .skip) Tryd.f22.ntmps [(.cell 4 25, tB), (.tmp 5, tErr)] [⟨tB, a⟩, ⟨tB, b⟩] k = (
  True ∧ ((!decide (chkB a = (0 : Int))) = true → k [Dat.mk (tB) ([], [], ()), Dat.mk (Ty.err (69 : Nat)) (chkB a)]) ∧ ((!decide (chkB a = (0 : Int))) = false → True ∧ ((!decide (chkB b = (0 : Int))) = true → k [Dat.mk (tB) ([], [], ()), Dat.mk (Ty.err (69 : Nat)) (chkB b)]) ∧ ((!decide (chkB b = (0 : Int))) = false → (True ∧ (sumL (((List.replicate (2 : Nat) []).set (0 : Nat) a.fst).set (1 : Nat) b.fst) (((List.replicate (2 : Nat) []).set (0 : Nat) a.fst).set (1 : Nat) b.fst).length ≤ (1000000000 : Nat) ∧ (SV.pv (tB) (0 : Nat) ([] ++ [(1 : Nat)]) = SV.pv (tB) (0 : Nat) ([] ++ [(1 : Nat)]) ∧ a.snd.fst = a.snd.fst ∧ SV.pv (tB) (1 : Nat) ([] ++ [(1 : Nat)]) = SV.pv (tB) (1 : Nat) ([] ++ [(1 : Nat)]) ∧ b.snd.fst = b.snd.fst ∧ ((List.replicate (2 : Nat) []).set (0 : Nat) a.snd.fst).set (1 : Nat) b.snd.fst = ((List.replicate (2 : Nat) []).set (0 : Nat) a.snd.fst).set (1 : Nat) b.snd.fst ∧ True) ∧ ((((List.replicate (2 : Nat) []).set (0 : Nat) a.fst).set (1 : Nat) b.fst).flatten.length ≤ (1000000000 : Nat) ∧ (SV.pv (tB) (0 : Nat) ([] ++ [(1 : Nat)]) = SV.pv (tB) (0 : Nat) ([] ++ [(1 : Nat)]) ∧ a.snd.fst = a.snd.fst ∧ SV.pv (tB) (1 : Nat) ([] ++ [(1 : Nat)]) = SV.pv (tB) (1 : Nat) ([] ++ [(1 : Nat)]) ∧ b.snd.fst = b.snd.fst ∧ ((List.replicate (2 : Nat) []).set (0 : Nat) a.snd.fst).set (1 : Nat) b.snd.fst = ((List.replicate (2 : Nat) []).set (0 : Nat) a.snd.fst).set (1 : Nat) b.snd.fst ∧ True) ∧ (sumL (((List.replicate (2 : Nat) []).set (0 : Nat) a.snd.fst).set (1 : Nat) b.snd.fst) (((List.replicate (2 : Nat) []).set (0 : Nat) a.snd.fst).set (1 : Nat) b.snd.fst).length ≤ (1000000000 : Nat) ∧ True ∧ ((((List.replicate (2 : Nat) []).set (0 : Nat) a.snd.fst).set (1 : Nat) b.snd.fst).flatten.length ≤ (1000000000 : Nat) ∧ True ∧ ((SV.ag [SV.os (4 : Nat), SV.os (6 : Nat)] = SV.ag [SV.os (4 : Nat), SV.os (6 : Nat)] ∧ True) ∧ (True ∧ ∃ (x : Unit), (chkB a = (0 : Int) ∧ chkB b = (0 : Int)) ∧ (True ∧ True ∧ True) ∧ ((True ∧ True ∧ True) ∧ ((46 : Nat) = (46 : Nat) ∧ srt (((List.replicate (2 : Nat) []).set (0 : Nat) a.fst).set (1 : Nat) b.fst).flatten = srt (a.fst ++ b.fst)) ∧ ((46 : Nat) = (46 : Nat) ∧ srt (((List.replicate (2 : Nat) []).set (0 : Nat) a.snd.fst).set (1 : Nat) b.snd.fst).flatten = srt (a.snd.fst ++ b.snd.fst)) ∧ (True ∧ True ∧ True) ∧ True) ∧ True) ∧ True) ∧ True ∧ True) ∧ (True ∧ ((((List.replicate (2 : Nat) []).set (0 : Nat) a.snd.fst).set (1 : Nat) b.snd.fst).flatten.length ≤ (1000000000 : Nat) ∧ True ∧ (True ∧ ∃ (x : Unit), (chkB a = (0 : Int) ∧ chkB b = (0 : Int)) ∧ (True ∧ True ∧ True) ∧ ((True ∧ True ∧ True) ∧ ((46 : Nat) = (46 : Nat) ∧ srt (((List.replicate (2 : Nat) []).set (0 : Nat) a.fst).set (1 : Nat) b.fst).flatten = srt (a.fst ++ b.fst)) ∧ ((46 : Nat) = (46 : Nat) ∧ srt (((List.replicate (2 : Nat) []).set (0 : Nat) a.snd.fst).set (1 : Nat) b.snd.fst).flatten = srt (a.snd.fst ++ b.snd.fst)) ∧ (True ∧ True ∧ True) ∧ True) ∧ True) ∧ True) ∧ True ∧ True) ∧ True ∧ True) ∧ True ∧ ((SV.pv (tB) (0 : Nat) ([] ++ [(1 : Nat)]) = SV.pv (tB) (0 : Nat) ([] ++ [(1 : Nat)]) ∧ a.snd.fst = a.snd.fst ∧ SV.pv (tB) (1 : Nat) ([] ++ [(1 : Nat)]) = SV.pv (tB) (1 : Nat) ([] ++ [(1 : Nat)]) ∧ b.snd.fst = b.snd.fst ∧ ((List.replicate (2 : Nat) []).set (0 : Nat) a.snd.fst).set (1 : Nat) b.snd.fst = ((List.replicate (2 : Nat) []).set (0 : Nat) a.snd.fst).set (1 : Nat) b.snd.fst ∧ True) ∧ (sumL (((List.replicate (2 : Nat) []).set (0 : Nat) a.snd.fst).set (1 : Nat) b.snd.fst) (((List.replicate (2 : Nat) []).set (0 : Nat) a.snd.fst).set (1 : Nat) b.snd.fst).length ≤ (1000000000 : Nat) ∧ True ∧ ((((List.replicate (2 : Nat) []).set (0 : Nat) a.snd.fst).set (1 : Nat) b.snd.fst).flatten.length ≤ (1000000000 : Nat) ∧ True ∧ (True ∧ ∃ (x : Unit), (chkB a = (0 : Int) ∧ chkB b = (0 : Int)) ∧ (True ∧ True ∧ True) ∧ ((True ∧ True ∧ True) ∧ ((46 : Nat) = (46 : Nat) ∧ srt (((List.replicate (2 : Nat) []).set (0 : Nat) a.fst).set (1 : Nat) b.fst).flatten = srt (a.fst ++ b.fst)) ∧ ((46 : Nat) = (46 : Nat) ∧ srt (((List.replicate (2 : Nat) []).set (0 : Nat) a.snd.fst).set (1 : Nat) b.snd.fst).flatten = srt (a.snd.fst ++ b.snd.fst)) ∧ (True ∧ True ∧ True) ∧ True) ∧ True) ∧ True) ∧ True ∧ True) ∧ True ∧ True ∧ True) ∧ True ∧ True) ∧ True ∧ True ∧ ((SV.pv (tB) (0 : Nat) ([] ++ [(1 : Nat)]) = SV.pv (tB) (0 : Nat) ([] ++ [(1 : Nat)]) ∧ a.snd.fst = a.snd.fst ∧ SV.pv (tB) (1 : Nat) ([] ++ [(1 : Nat)]) = SV.pv (tB) (1 : Nat) ([] ++ [(1 : Nat)]) ∧ b.snd.fst = b.snd.fst ∧ ((List.replicate (2 : Nat) []).set (0 : Nat) a.snd.fst).set (1 : Nat) b.snd.fst = ((List.replicate (2 : Nat) []).set (0 : Nat) a.snd.fst).set (1 : Nat) b.snd.fst ∧ True) ∧ ((((List.replicate (2 : Nat) []).set (0 : Nat) a.fst).set (1 : Nat) b.fst).flatten.length ≤ (1000000000 : Nat) ∧ (SV.pv (tB) (0 : Nat) ([] ++ [(1 : Nat)]) = SV.pv (tB) (0 : Nat) ([] ++ [(1 : Nat)]) ∧ a.snd.fst = a.snd.fst ∧ SV.pv (tB) (1 : Nat) ([] ++ [(1 : Nat)]) = SV.pv (tB) (1 : Nat) ([] ++ [(1 : Nat)]) ∧ b.snd.fst = b.snd.fst ∧ ((List.replicate (2 : Nat) []).set (0 : Nat) a.snd.fst).set (1 : Nat) b.snd.fst = ((List.replicate (2 : Nat) []).set (0 : Nat) a.snd.fst).set (1 : Nat) b.snd.fst ∧ True) ∧ (sumL (((List.replicate (2 : Nat) []).set (0 : Nat) a.snd.fst).set (1 : Nat) b.snd.fst) (((List.replicate (2 : Nat) []).set (0 : Nat) a.snd.fst).set (1 : Nat) b.snd.fst).length ≤ (1000000000 : Nat) ∧ True ∧ ((((List.replicate (2 : Nat) []).set (0 : Nat) a.snd.fst).set (1 : Nat) b.snd.fst).flatten.length ≤ (1000000000 : Nat) ∧ True ∧ (True ∧ ∃ (x : Unit), (chkB a = (0 : Int) ∧ chkB b = (0 : Int)) ∧ (True ∧ True ∧ True) ∧ ((True ∧ True ∧ True) ∧ ((46 : Nat) = (46 : Nat) ∧ srt (((List.replicate (2 : Nat) []).set (0 : Nat) a.fst).set (1 : Nat) b.fst).flatten = srt (a.fst ++ b.fst)) ∧ ((46 : Nat) = (46 : Nat) ∧ srt (((List.replicate (2 : Nat) []).set (0 : Nat) a.snd.fst).set (1 : Nat) b.snd.fst).flatten = srt (a.snd.fst ++ b.snd.fst)) ∧ (True ∧ True ∧ True) ∧ True) ∧ True) ∧ True) ∧ True ∧ True) ∧ True ∧ True ∧ True) ∧ True ∧ True ∧ True ∧ True) ∧ True ∧ True) ∧ True ∧ True ∧ True ∧ ((SV.pv (tB) (0 : Nat) ([] ++ [(0 : Nat)]) = SV.pv (tB) (0 : Nat) ([] ++ [(0 : Nat)]) ∧ a.fst = a.fst ∧ SV.pv (tB) (1 : Nat) ([] ++ [(0 : Nat)]) = SV.pv (tB) (1 : Nat) ([] ++ [(0 : Nat)]) ∧ b.fst = b.fst ∧ ((List.replicate (2 : Nat) []).set (0 : Nat) a.fst).set (1 : Nat) b.fst = ((List.replicate (2 : Nat) []).set (0 : Nat) a.fst).set (1 : Nat) b.fst ∧ SV.pv (tB) (0 : Nat) ([] ++ [(1 : Nat)]) = SV.pv (tB) (0 : Nat) ([] ++ [(1 : Nat)]) ∧ a.snd.fst = a.snd.fst ∧ SV.pv (tB) (1 : Nat) ([] ++ [(1 : Nat)]) = SV.pv (tB) (1 : Nat) ([] ++ [(1 : Nat)]) ∧ b.snd.fst = b.snd.fst ∧ ((List.replicate (2 : Nat) []).set (0 : Nat) a.snd.fst).set (1 : Nat) b.snd.fst = ((List.replicate (2 : Nat) []).set (0 : Nat) a.snd.fst).set (1 : Nat) b.snd.fst ∧ True) ∧ (sumL (((List.replicate (2 : Nat) []).set (0 : Nat) a.fst).set (1 : Nat) b.fst) (((List.replicate (2 : Nat) []).set (0 : Nat) a.fst).set (1 : Nat) b.fst).length ≤ (1000000000 : Nat) ∧ (SV.pv (tB) (0 : Nat) ([] ++ [(1 : Nat)]) = SV.pv (tB) (0 : Nat) ([] ++ [(1 : Nat)]) ∧ a.snd.fst = a.snd.fst ∧ SV.pv (tB) (1 : Nat) ([] ++ [(1 : Nat)]) = SV.pv (tB) (1 : Nat) ([] ++ [(1 : Nat)]) ∧ b.snd.fst = b.snd.fst ∧ ((List.replicate (2 : Nat) []).set (0 : Nat) a.snd.fst).set (1 : Nat) b.snd.fst = ((List.replicate (2 : Nat) []).set (0 : Nat) a.snd.fst).set (1 : Nat) b.snd.fst ∧ True) ∧ ((((List.replicate (2 : Nat) []).set (0 : Nat) a.fst).set (1 : Nat) b.fst).flatten.length ≤ (1000000000 : Nat) ∧ (SV.pv (tB) (0 : Nat) ([] ++ [(1 : Nat)]) = SV.pv (tB) (0 : Nat) ([] ++ [(1 : Nat)]) ∧ a.snd.fst = a.snd.fst ∧ SV.pv (tB) (1 : Nat) ([] ++ [(1 : Nat)]) = SV.pv (tB) (1 : Nat) ([] ++ [(1 : Nat)]) ∧ b.snd.fst = b.snd.fst ∧ ((List.replicate (2 : Nat) []).set (0 : Nat) a.snd.fst).set (1 : Nat) b.snd.fst = ((List.replicate (2 : Nat) []).set (0 : Nat) a.snd.fst).set (1 : Nat) b.snd.fst ∧ True) ∧ (sumL (((List.replicate (2 : Nat) []).set (0 : Nat) a.snd.fst).set (1 : Nat) b.snd.fst) (((List.replicate (2 : Nat) []).set (0 : Nat) a.snd.fst).set (1 : Nat) b.snd.fst).length ≤ (1000000000 : Nat) ∧ True ∧ ((((List.replicate (2 : Nat) []).set (0 : Nat) a.snd.fst).set (1 : Nat) b.snd.fst).flatten.length ≤ (1000000000 : Nat) ∧ True ∧ (True ∧ ∃ (x : Unit), (chkB a = (0 : Int) ∧ chkB b = (0 : Int)) ∧ (True ∧ True ∧ True) ∧ ((True ∧ True ∧ True) ∧ ((46 : Nat) = (46 : Nat) ∧ srt (((List.replicate (2 : Nat) []).set (0 : Nat) a.fst).set (1 : Nat) b.fst).flatten = srt (a.fst ++ b.fst)) ∧ ((46 : Nat) = (46 : Nat) ∧ srt (((List.replicate (2 : Nat) []).set (0 : Nat) a.snd.fst).set (1 : Nat) b.snd.fst).flatten = srt (a.snd.fst ++ b.snd.fst)) ∧ (True ∧ True ∧ True) ∧ True) ∧ True) ∧ True) ∧ True ∧ True) ∧ True ∧ True ∧ True) ∧ True ∧ True ∧ True ∧ True) ∧ True ∧ True ∧ True ∧ True ∧ True) ∧ True ∧ True) ∧ ∀ (x : Unit), chkB a = (0 : Int) ∧ chkB b = (0 : Int) → (decide ((24 : Int) < (↑(srt (a.fst ++ b.fst)).length : Int)) = true → (4 : Int) ≠ (0 : Int) ∧ k [Dat.mk (tB) ([], [], ()), Dat.mk (Ty.err (69 : Nat)) (4 : Int)]) ∧ (decide ((24 : Int) < (↑(srt (a.fst ++ b.fst)).length : Int)) = false → k [Dat.mk (tB) (srt (a.fst ++ b.fst), srt (a.snd.fst ++ b.snd.fst), ()), Dat.mk (Ty.err (69 : Nat)) (0 : Int)])))) := by kernel_rfl
theorem vcElems (b : Bag) (k : List Dat → Prop) : vcF ⟨Eb, [(12, cCheck), (38, cHasT), (39, cHasI)], [], [], []⟩ (anElems b) (Tryd.f14.body.getD .skip) Tryd.f14.ntmps [(.tmp 2, .sl I), (.tmp 3, tErr)] [⟨tB, b⟩] k = (
  True ∧ ((!decide (chkB b = (0 : Int))) = true → k [Dat.mk (I).sl [], Dat.mk (Ty.err (69 : Nat)) (chkB b)]) ∧ ((!decide (chkB b = (0 : Int))) = false → (∃ (x : Nat), (x ≤ b.fst.length ∧ chkB b = (0 : Int)) ∧ (([] : List Nat) = [] ∧ True ∧ b.fst = b.fst ∧ (↑(List.length b.fst) : Int) = (↑(List.length b.fst) : Int) ∧ (0 : Int) = (↑x : Int) ∧ True) ∧ (((25 : Nat) = (25 : Nat) ∧ b = b) ∧ ((3 : Nat) = (3 : Nat) ∧ [] = elemsU b x) ∧ True) ∧ True) ∧ ∀ (x : Nat), x ≤ b.fst.length ∧ chkB b = (0 : Int) → (decide ((↑x : Int) < (↑(List.length b.fst) : Int)) = true → (0 : Int) ≤ (↑x : Int) ∧ (↑x : Int) < (↑(List.length b.fst) : Int) ∧ True ∧ ((!hasT b.snd.fst (List.getD b.fst (↑x : Int).toNat ((0 : Int), (0 : Int), (0 : Int), ()))) = true → True ∧ ((!hasI (elemsU b x) (List.getD b.fst (↑x : Int).toNat ((0 : Int), (0 : Int), (0 : Int), ())).fst) = true → (elemsU b x).length + ((List.replicate (1 : Nat) (0 : Int)).set (0 : Nat) (List.getD b.fst (↑x : Int).toNat ((0 : Int), (0 : Int), (0 : Int), ())).fst).length ≤ (1000000000 : Nat) ∧ inK IntKind.i64 ((↑x : Int) + (1 : Int)) ∧ ∃ (x_1 : Nat), (x_1 ≤ b.fst.length ∧ chkB b = (0 : Int)) ∧ b.fst.length - x_1 < b.fst.length - x ∧ (([] : List Nat) = [] ∧ True ∧ b.fst = b.fst ∧ (↑(List.length b.fst) : Int) = (↑(List.length b.fst) : Int) ∧ (↑x : Int) + (1 : Int) = (↑x_1 : Int) ∧ True) ∧ (((25 : Nat) = (25 : Nat) ∧ b = b) ∧ ((3 : Nat) = (3 : Nat) ∧ (elemsU b x).append ((List.replicate (1 : Nat) (0 : Int)).set (0 : Nat) (List.getD b.fst (↑x : Int).toNat ((0 : Int), (0 : Int), (0 : Int), ())).fst) = elemsU b x_1) ∧ True) ∧ True) ∧ ((!hasI (elemsU b x) (List.getD b.fst (↑x : Int).toNat ((0 : Int), (0 : Int), (0 : Int), ())).fst) = false → inK IntKind.i64 ((↑x : Int) + (1 : Int)) ∧ ∃ (x_1 : Nat), (x_1 ≤ b.fst.length ∧ chkB b = (0 : Int)) ∧ b.fst.length - x_1 < b.fst.length - x ∧ (([] : List Nat) = [] ∧ True ∧ b.fst = b.fst ∧ (↑(List.length b.fst) : Int) = (↑(List.length b.fst) : Int) ∧ (↑x : Int) + (1 : Int) = (↑x_1 : Int) ∧ True) ∧ (((25 : Nat) = (25 : Nat) ∧ b = b) ∧ ((3 : Nat) = (3 : Nat) ∧ elemsU b x = elemsU b x_1) ∧ True) ∧ True)) ∧ ((!hasT b.snd.fst (List.getD b.fst (↑x : Int).toNat ((0 : Int), (0 : Int), (0 : Int), ()))) = false → inK IntKind.i64 ((↑x : Int) + (1 : Int)) ∧ ∃ (x_1 : Nat), (x_1 ≤ b.fst.length ∧ chkB b = (0 : Int)) ∧ b.fst.length - x_1 < b.fst.length - x ∧ (([] : List Nat) = [] ∧ True ∧ b.fst = b.fst ∧ (↑(List.length b.fst) : Int) = (↑(List.length b.fst) : Int) ∧ (↑x : Int) + (1 : Int) = (↑x_1 : Int) ∧ True) ∧ (((25 : Nat) = (25 : Nat) ∧ b = b) ∧ ((3 : Nat) = (3 : Nat) ∧ elemsU b x = elemsU b x_1) ∧ True) ∧ True)) ∧ (decide ((↑x : Int) < (↑(List.length b.fst) : Int)) = false → k [Dat.mk (I).sl (elemsU b x), Dat.mk (Ty.err (69 : Nat)) (0 : Int)]))) := by kernel_rfl
theorem vcUp (v : List Int) (n : Int) (k : List Dat → Prop) : vcF ⟨Eb, [(7, cCounts), (33, cWithin)], [], [], [(34, oCloneI)]⟩ [joinAll] (Tryd.f8.body.getD .skip) Tryd.f8.ntmps [(.tmp 4, .sl I), (.tmp 5, tErr)] [⟨.sl I, v⟩, ⟨I, n⟩] k = (
  True ∧ ((!decide (cntE v = (0 : Int))) = true → k [Dat.mk (I).sl [], Dat.mk (Ty.err (69 : Nat)) (cntE v)]) ∧ ((!decide (cntE v = (0 : Int))) = false → inK IntKind.i64 ((↑v.length : Int) - (1 : Int)) ∧ True ∧ ((!inB n (0 : Int) ((↑v.length : Int) - (1 : Int))) = true → (1 : Int) ≠ (0 : Int) ∧ k [Dat.mk (I).sl [], Dat.mk (Ty.err (69 : Nat)) (1 : Int)]) ∧ ((!inB n (0 : Int) ((↑v.length : Int) - (1 : Int))) = false → (0 : Int) ≤ n ∧ n < (↑v.length : Int) ∧ (decide (v.getD n.toNat (0 : Int) = (1000000 : Int)) = true → (4 : Int) ≠ (0 : Int) ∧ k [Dat.mk (I).sl [], Dat.mk (Ty.err (69 : Nat)) (4 : Int)]) ∧ (decide (v.getD n.toNat (0 : Int) = (1000000 : Int)) = false → v.length ≤ (1000000000 : Nat) ∧ (0 : Int) ≤ n ∧ n < (↑v.length : Int) ∧ inK IntKind.i64 (v.getD n.toNat (0 : Int) + (1 : Int)) ∧ (0 : Int) ≤ n ∧ n < (↑v.length : Int) ∧ k [Dat.mk (I).sl (v.set n.toNat (v.getD n.toNat (0 : Int) + (1 : Int))), Dat.mk (Ty.err (69 : Nat)) (0 : Int)])))) := by kernel_rfl
theorem vcMost (v w : List Int) (k : List Dat → Prop) : vcF ⟨Eb, [(7, cCounts)], [], [], [(34, oCloneI)]⟩ (anMost v w) (Tryd.f10.body.getD .skip) Tryd.f10.ntmps [(.tmp 4, .sl I), (.tmp 5, tErr)] [⟨.sl I, v⟩, ⟨.sl I, w⟩] k = (
  True ∧ ((!decide (cntE v = (0 : Int))) = true → k [Dat.mk (I).sl [], Dat.mk (Ty.err (69 : Nat)) (cntE v)]) ∧ ((!decide (cntE v = (0 : Int))) = false → True ∧ ((!decide (cntE w = (0 : Int))) = true → k [Dat.mk (I).sl [], Dat.mk (Ty.err (69 : Nat)) (cntE w)]) ∧ ((!decide (cntE w = (0 : Int))) = false → ((!decide ((↑v.length : Int) = (↑w.length : Int))) = true → (3 : Int) ≠ (0 : Int) ∧ k [Dat.mk (I).sl [], Dat.mk (Ty.err (69 : Nat)) (3 : Int)]) ∧ ((!decide ((↑v.length : Int) = (↑w.length : Int))) = false → v.length ≤ (1000000000 : Nat) ∧ (∃ (x : Nat), (x ≤ w.length ∧ mostE v w = (0 : Int)) ∧ (True ∧ w = w ∧ (↑w.length : Int) = (↑w.length : Int) ∧ (0 : Int) = (↑x : Int) ∧ True) ∧ (((3 : Nat) = (3 : Nat) ∧ v = mostU v w x) ∧ True) ∧ True) ∧ ∀ (x : Nat), x ≤ w.length ∧ mostE v w = (0 : Int) → (decide ((↑x : Int) < (↑w.length : Int)) = true → (0 : Int) ≤ (↑x : Int) ∧ (↑x : Int) < (↑w.length : Int) ∧ (0 : Int) ≤ (↑x : Int) ∧ (↑x : Int) < (↑(mostU v w x).length : Int) ∧ (0 : Int) ≤ (↑x : Int) ∧ (↑x : Int) < (↑(mostU v w x).length : Int) ∧ inK IntKind.i64 ((↑x : Int) + (1 : Int)) ∧ ∃ (x_1 : Nat), (x_1 ≤ w.length ∧ mostE v w = (0 : Int)) ∧ w.length - x_1 < w.length - x ∧ (True ∧ w = w ∧ (↑w.length : Int) = (↑w.length : Int) ∧ (↑x : Int) + (1 : Int) = (↑x_1 : Int) ∧ True) ∧ (((3 : Nat) = (3 : Nat) ∧ (mostU v w x).set (↑x : Int).toNat (max ((mostU v w x).getD (↑x : Int).toNat (0 : Int)) (w.getD (↑x : Int).toNat (0 : Int))) = mostU v w x_1) ∧ True) ∧ True) ∧ (decide ((↑x : Int) < (↑w.length : Int)) = false → k [Dat.mk (I).sl (mostU v w x), Dat.mk (Ty.err (69 : Nat)) (0 : Int)]))))) := by kernel_rfl
end Go.Proofs.YtgcliogognkdkaaDoor

/- slices.SortFunc at tags and at values, and all that it reaches, as this program bears them: the shelf's structure, filled by program. -/
namespace Go.Proofs.YtgcliogognkdkaaDoor
open Go.Shelf Go.Proofs
def laidSortT_ren : Go.Shelf.Ren := ⟨fun | 6 => 59 | 15 => 66 | 14 => 73 | 28 => 82 | 29 => 83 | 20 => 87 | 21 => 88 | 22 => 89 | 23 => 90 | 24 => 91 | 25 => 92 | 26 => 93 | 27 => 94 | 46 => 100 | 47 => 96 | 48 => 97 | 49 => 101 | 50 => 102 | 57 => 104 | n => n, fun | 22 => 23 | 24 => 46 | 25 => 97 | 3 => 3 | 39 => 106 | 0 => 0 | 53 => 132 | 55 => 134 | 4 => 4 | 46 => 125 | 45 => 124 | 50 => 129 | 5 => 5 | 9 => 9 | 66 => 154 | 70 => 158 | 76 => 162 | 77 => 163 | n => n, fun | n => n⟩
theorem laidSortT : Go.Proofs.SlLaysF0.n6 Tryd.prog laidSortT_ren where
  mixed := by kernel_rfl
  f6 := ⟨ "slices.SortFunc[[]whenstead/api.Tag,whenstead/api.Tag]", by decide, Tryd.func59.trans (congrArg some (by kernel_rfl))⟩
  f14 := ⟨ "slices.pdqsortCmpFunc[whenstead/api.Tag]", by decide, Tryd.func73.trans (congrArg some (by kernel_rfl))⟩
  f15 := Tryd.func66.trans (congrArg some (by kernel_rfl))
  f20 := ⟨ "slices.insertionSortCmpFunc[whenstead/api.Tag]", by decide, Tryd.func87.trans (congrArg some (by kernel_rfl))⟩
  f21 := ⟨ "slices.heapSortCmpFunc[whenstead/api.Tag]", by decide, Tryd.func88.trans (congrArg some (by kernel_rfl))⟩
  f22 := ⟨ "slices.breakPatternsCmpFunc[whenstead/api.Tag]", by decide, Tryd.func89.trans (congrArg some (by kernel_rfl))⟩
  f23 := ⟨ "slices.choosePivotCmpFunc[whenstead/api.Tag]", by decide, Tryd.func90.trans (congrArg some (by kernel_rfl))⟩
  f24 := ⟨ "slices.reverseRangeCmpFunc[whenstead/api.Tag]", by decide, Tryd.func91.trans (congrArg some (by kernel_rfl))⟩
  f25 := ⟨ "slices.partialInsertionSortCmpFunc[whenstead/api.Tag]", by decide, Tryd.func92.trans (congrArg some (by kernel_rfl))⟩
  f26 := ⟨ "slices.partitionEqualCmpFunc[whenstead/api.Tag]", by decide, Tryd.func93.trans (congrArg some (by kernel_rfl))⟩
  f27 := ⟨ "slices.partitionCmpFunc[whenstead/api.Tag]", by decide, Tryd.func94.trans (congrArg some (by kernel_rfl))⟩
  f28 := Tryd.func82.trans (congrArg some (by kernel_rfl))
  f29 := Tryd.func83.trans (congrArg some (by kernel_rfl))
  f46 := ⟨ "slices.siftDownCmpFunc[whenstead/api.Tag]", by decide, Tryd.func100.trans (congrArg some (by kernel_rfl))⟩
  f47 := Tryd.func96.trans (congrArg some (by kernel_rfl))
  f48 := Tryd.func97.trans (congrArg some (by kernel_rfl))
  f49 := ⟨ "slices.medianAdjacentCmpFunc[whenstead/api.Tag]", by decide, Tryd.func101.trans (congrArg some (by kernel_rfl))⟩
  f50 := ⟨ "slices.medianCmpFunc[whenstead/api.Tag]", by decide, Tryd.func102.trans (congrArg some (by kernel_rfl))⟩
  f57 := ⟨ "slices.order2CmpFunc[whenstead/api.Tag]", by decide, Tryd.func104.trans (congrArg some (by kernel_rfl))⟩
  t0 := Tryd.underlying0
  a0 := Tryd.isAgg0
  z0 := Tryd.sizeOf0
  v0 := Tryd.zeroValue0
  t3 := Tryd.underlying3
  a3 := Tryd.isAgg3
  z3 := Tryd.sizeOf3
  v3 := Tryd.zeroValue3
  t4 := Tryd.underlying4
  a4 := Tryd.isAgg4
  z4 := Tryd.sizeOf4
  v4 := Tryd.zeroValue4
  t5 := Tryd.underlying5
  a5 := Tryd.isAgg5
  z5 := Tryd.sizeOf5
  v5 := Tryd.zeroValue5
  t9 := Tryd.underlying9
  a9 := Tryd.isAgg9
  z9 := Tryd.sizeOf9
  v9 := Tryd.zeroValue9
  t22 := Tryd.underlying23
  a22 := Tryd.isAgg23
  z22 := Tryd.sizeOf23
  v22 := Tryd.zeroValue23
  t25 := Tryd.underlying97
  a25 := Tryd.isAgg97
  z25 := Tryd.sizeOf97
  v25 := Tryd.zeroValue97
  t39 := Tryd.underlying106
  a39 := Tryd.isAgg106
  z39 := Tryd.sizeOf106
  v39 := Tryd.zeroValue106
  t45 := Tryd.underlying124
  a45 := Tryd.isAgg124
  z45 := Tryd.sizeOf124
  v45 := Tryd.zeroValue124
  t46 := Tryd.underlying125
  a46 := Tryd.isAgg125
  z46 := Tryd.sizeOf125
  v46 := Tryd.zeroValue125
  t50 := Tryd.underlying129
  a50 := Tryd.isAgg129
  z50 := Tryd.sizeOf129
  v50 := Tryd.zeroValue129
  t53 := Tryd.underlying132
  a53 := Tryd.isAgg132
  z53 := Tryd.sizeOf132
  v53 := Tryd.zeroValue132
  t55 := Tryd.underlying134
  a55 := Tryd.isAgg134
  z55 := Tryd.sizeOf134
  v55 := Tryd.zeroValue134
  t66 := Tryd.underlying154
  a66 := Tryd.isAgg154
  z66 := Tryd.sizeOf154
  v66 := Tryd.zeroValue154
  t70 := Tryd.underlying158
  a70 := Tryd.isAgg158
  z70 := Tryd.sizeOf158
  v70 := Tryd.zeroValue158
  t76 := Tryd.underlying162
  a76 := Tryd.isAgg162
  z76 := Tryd.sizeOf162
  v76 := Tryd.zeroValue162
  t77 := Tryd.underlying163
  a77 := Tryd.isAgg163
  z77 := Tryd.sizeOf163
  v77 := Tryd.zeroValue163
def laidSortV_ren : Go.Shelf.Ren := ⟨fun | 6 => 51 | 15 => 66 | 14 => 65 | 28 => 82 | 29 => 83 | 20 => 74 | 21 => 75 | 22 => 76 | 23 => 77 | 24 => 78 | 25 => 79 | 26 => 80 | 27 => 81 | 46 => 95 | 47 => 96 | 48 => 97 | 49 => 98 | 50 => 99 | 57 => 103 | n => n, fun | 22 => 65 | 24 => 84 | 25 => 94 | 3 => 3 | 39 => 106 | 0 => 0 | 53 => 132 | 55 => 134 | 4 => 4 | 46 => 125 | 45 => 124 | 50 => 129 | 5 => 5 | 9 => 9 | 66 => 154 | 70 => 158 | 76 => 162 | 77 => 163 | n => n, fun | n => n⟩
theorem laidSortV : Go.Proofs.SlLaysF0.n6 Tryd.prog laidSortV_ren where
  mixed := by kernel_rfl
  f6 := ⟨ "slices.SortFunc[[]whenstead/api.Value,whenstead/api.Value]", by decide, Tryd.func51.trans (congrArg some (by kernel_rfl))⟩
  f14 := ⟨ "slices.pdqsortCmpFunc[whenstead/api.Value]", by decide, Tryd.func65.trans (congrArg some (by kernel_rfl))⟩
  f15 := Tryd.func66.trans (congrArg some (by kernel_rfl))
  f20 := ⟨ "slices.insertionSortCmpFunc[whenstead/api.Value]", by decide, Tryd.func74.trans (congrArg some (by kernel_rfl))⟩
  f21 := ⟨ "slices.heapSortCmpFunc[whenstead/api.Value]", by decide, Tryd.func75.trans (congrArg some (by kernel_rfl))⟩
  f22 := ⟨ "slices.breakPatternsCmpFunc[whenstead/api.Value]", by decide, Tryd.func76.trans (congrArg some (by kernel_rfl))⟩
  f23 := ⟨ "slices.choosePivotCmpFunc[whenstead/api.Value]", by decide, Tryd.func77.trans (congrArg some (by kernel_rfl))⟩
  f24 := ⟨ "slices.reverseRangeCmpFunc[whenstead/api.Value]", by decide, Tryd.func78.trans (congrArg some (by kernel_rfl))⟩
  f25 := ⟨ "slices.partialInsertionSortCmpFunc[whenstead/api.Value]", by decide, Tryd.func79.trans (congrArg some (by kernel_rfl))⟩
  f26 := ⟨ "slices.partitionEqualCmpFunc[whenstead/api.Value]", by decide, Tryd.func80.trans (congrArg some (by kernel_rfl))⟩
  f27 := ⟨ "slices.partitionCmpFunc[whenstead/api.Value]", by decide, Tryd.func81.trans (congrArg some (by kernel_rfl))⟩
  f28 := Tryd.func82.trans (congrArg some (by kernel_rfl))
  f29 := Tryd.func83.trans (congrArg some (by kernel_rfl))
  f46 := ⟨ "slices.siftDownCmpFunc[whenstead/api.Value]", by decide, Tryd.func95.trans (congrArg some (by kernel_rfl))⟩
  f47 := Tryd.func96.trans (congrArg some (by kernel_rfl))
  f48 := Tryd.func97.trans (congrArg some (by kernel_rfl))
  f49 := ⟨ "slices.medianAdjacentCmpFunc[whenstead/api.Value]", by decide, Tryd.func98.trans (congrArg some (by kernel_rfl))⟩
  f50 := ⟨ "slices.medianCmpFunc[whenstead/api.Value]", by decide, Tryd.func99.trans (congrArg some (by kernel_rfl))⟩
  f57 := ⟨ "slices.order2CmpFunc[whenstead/api.Value]", by decide, Tryd.func103.trans (congrArg some (by kernel_rfl))⟩
  t0 := Tryd.underlying0
  a0 := Tryd.isAgg0
  z0 := Tryd.sizeOf0
  v0 := Tryd.zeroValue0
  t3 := Tryd.underlying3
  a3 := Tryd.isAgg3
  z3 := Tryd.sizeOf3
  v3 := Tryd.zeroValue3
  t4 := Tryd.underlying4
  a4 := Tryd.isAgg4
  z4 := Tryd.sizeOf4
  v4 := Tryd.zeroValue4
  t5 := Tryd.underlying5
  a5 := Tryd.isAgg5
  z5 := Tryd.sizeOf5
  v5 := Tryd.zeroValue5
  t9 := Tryd.underlying9
  a9 := Tryd.isAgg9
  z9 := Tryd.sizeOf9
  v9 := Tryd.zeroValue9
  t22 := Tryd.underlying65
  a22 := Tryd.isAgg65
  z22 := Tryd.sizeOf65
  v22 := Tryd.zeroValue65
  t25 := Tryd.underlying94
  a25 := Tryd.isAgg94
  z25 := Tryd.sizeOf94
  v25 := Tryd.zeroValue94
  t39 := Tryd.underlying106
  a39 := Tryd.isAgg106
  z39 := Tryd.sizeOf106
  v39 := Tryd.zeroValue106
  t45 := Tryd.underlying124
  a45 := Tryd.isAgg124
  z45 := Tryd.sizeOf124
  v45 := Tryd.zeroValue124
  t46 := Tryd.underlying125
  a46 := Tryd.isAgg125
  z46 := Tryd.sizeOf125
  v46 := Tryd.zeroValue125
  t50 := Tryd.underlying129
  a50 := Tryd.isAgg129
  z50 := Tryd.sizeOf129
  v50 := Tryd.zeroValue129
  t53 := Tryd.underlying132
  a53 := Tryd.isAgg132
  z53 := Tryd.sizeOf132
  v53 := Tryd.zeroValue132
  t55 := Tryd.underlying134
  a55 := Tryd.isAgg134
  z55 := Tryd.sizeOf134
  v55 := Tryd.zeroValue134
  t66 := Tryd.underlying154
  a66 := Tryd.isAgg154
  z66 := Tryd.sizeOf154
  v66 := Tryd.zeroValue154
  t70 := Tryd.underlying158
  a70 := Tryd.isAgg158
  z70 := Tryd.sizeOf158
  v70 := Tryd.zeroValue158
  t76 := Tryd.underlying162
  a76 := Tryd.isAgg162
  z76 := Tryd.sizeOf162
  v76 := Tryd.zeroValue162
  t77 := Tryd.underlying163
  a77 := Tryd.isAgg163
  z77 := Tryd.sizeOf163
  v77 := Tryd.zeroValue163
end Go.Proofs.YtgcliogognkdkaaDoor

/- Bags: rows sorted, doubles struck. -/
namespace Go.Proofs.YtgcliogognkdkaaDoor
open Go.Vc

theorem getD_set_of {α : Type} (l : List α) (i j : Nat) (x d : α) (h : i ≠ j) : (l.set i x).getD j d = l.getD j d := by
  rw [List.getD_eq_getElem?_getD, List.getD_eq_getElem?_getD, List.getElem?_set_ne h]
theorem take_set_snoc {α : Type} (l : List α) (i : Nat) (x : α) (h : i < l.length) : (l.set i x).take (i + 1) = l.take i ++ [x] := by
  rw [List.take_succ_eq_append_getElem (by simpa using h), List.take_set_of_le (Nat.le_refl _)]
  simp

theorem compact_vc (xs : List Tag) (hl : xs.length ≤ 1000000000) (k : SV → List Ob → Prop) (h1 : cpt xs = xs → k (.os 0) [.row 46 tT xs]) (h2 : k (.os 1) [.dead, .row 46 tT (cpt xs)]) :
    vcO ⟨Eb, [], [], [], []⟩ (anCompact xs) (Tryd.f60.body.getD .skip) Tryd.f60.ntmps [(.tmp 2, .un)] [.os 0] [.row 46 tT xs] k := by
  rw [vcCompact]
  simp only [decide_eq_true_eq, decide_eq_false_iff_not, true_and, and_true, Bool.not_eq_true', Bool.not_eq_false', Int.toNat_natCast, inK_i64, tag_eqB]
  have z : ∀ (l : List Tag) (i : Nat), l.getD i ((0 : Int), (0 : Int), (0 : Int), ()) = l.getD i tag0 := fun _ _ => rfl
  refine ⟨fun h => h1 ?_, fun h => ⟨⟨1, ⟨Nat.le_refl _, by omega, by omega, ?_⟩, rfl⟩, fun x ⟨a1, a2, a3, a4⟩ => ⟨fun hlt => ?_, fun hge => h1 ?_⟩⟩⟩
  · match xs, h with
    | [], _ => rfl
    | [x], _ => rfl
    | x :: y :: l, h => simp only [List.length_cons] at h; omega
  · match xs, h with
    | [], _ => rfl
    | x :: l, _ => rfl
  · have hxl : x < xs.length := by omega
    have e1 : ((x : Int) - 1).toNat = x - 1 := by omega
    have hst := cpt_step a1 hxl
    simp only [e1, z]
    refine ⟨⟨by omega, hlt, by omega, by omega, by omega⟩, fun he => ⟨⟨by omega, hlt⟩, ⟨(x, 1, x, xs), ⟨a1, Nat.le_refl _, hxl, Nat.lt_succ_self _, rfl, ?_, fun _ _ => rfl⟩, ⟨rfl, rfl, rfl⟩, rfl⟩, ?_⟩, fun hne => ⟨by omega, x + 1, ⟨by omega, by omega, a3, ?_⟩, by omega, by omega⟩⟩
    · show xs.take x = cpt (xs.take (x + 1))
      rw [hst, if_pos he.symm, a4]
    · rintro ⟨p, j, m, cur⟩ ⟨b1, b2, b3, b4, b5, b6, b7⟩
      dsimp only at b1 b2 b3 b4 b5 b6 b7 ⊢
      have e2 : ((j : Int) - 1).toNat = j - 1 := by omega
      simp only [e2, b5]
      refine ⟨fun hj => ?_, fun hj => ?_⟩
      · have hpj : p + j < xs.length := by omega
        have c1 : cur.getD (p + j) tag0 = xs.getD (p + j) tag0 := b7 _ (by omega)
        have c2 : cur.getD (p + (j - 1)) tag0 = xs.getD (p + j - 1) tag0 := by rw [show p + (j - 1) = p + j - 1 by omega]; exact b7 _ (Nat.le_refl _)
        have hs2 := cpt_step (l := xs) (n := p + j) (by omega) hpj
        rw [c1, c2]
        refine ⟨⟨by omega, by omega, by omega, by omega, by omega⟩, fun hne => ⟨by omega, by omega, by omega, by omega, by omega, by omega, (p, j + 1, m + 1, cur.set m (xs.getD (p + j) tag0)), ⟨b1, by show 1 ≤ j + 1; omega, by show p + (j + 1) ≤ _; omega, by show m + 1 < p + (j + 1); omega, by show (cur.set m _).length = _; rw [List.length_set]; exact b5, ?_, ?_⟩, by show xs.length - (j + 1) < _; omega, ⟨rfl, rfl, rfl⟩, rfl⟩, fun he => ⟨by omega, (p, j + 1, m, cur), ⟨b1, by show 1 ≤ j + 1; omega, by show p + (j + 1) ≤ _; omega, by show m < p + (j + 1); omega, b5, ?_, fun q hq => b7 q (by have hq : p + (j + 1) - 1 ≤ q := hq; omega)⟩, by show xs.length - (j + 1) < _; omega, ⟨rfl, rfl, rfl⟩, rfl⟩⟩
        · show (cur.set m _).take (m + 1) = cpt (xs.take (p + j + 1))
          rw [take_set_snoc _ _ _ (by omega), b6, hs2, if_neg (fun e => hne e.symm)]
        · intro q hq
          have hq : p + (j + 1) - 1 ≤ q := hq
          show (cur.set m _).getD q tag0 = _
          rw [getD_set_of _ _ _ _ _ (by omega)]
          exact b7 q (by omega)
        · show cur.take m = cpt (xs.take (p + j + 1))
          rw [b6, hs2, if_pos he.symm]
      · have hpj : p + j = xs.length := by omega
        have e3 : cur.take m = cpt xs := by rw [b6, hpj, List.take_length]
        have hlm : (cur.take m).length = m := by rw [List.length_take]; omega
        refine ⟨⟨by omega, by omega⟩, ⟨by omega, ?_⟩, ?_⟩
        · rw [List.length_append, hlm]; omega
        · rw [List.take_append_of_le_length (by omega), List.take_of_length_le (by omega), e3]; exact h2
    · rw [hst, if_neg (fun e => hne e.symm), a4, List.take_succ_eq_append_getElem hxl, List.getD_eq_getElem?_getD, List.getElem?_eq_getElem hxl]; rfl
  · have : x = xs.length := by omega
    rw [this, List.take_length] at a4; exact a4

theorem ownCompact : OwnOk Tryd.prog [] 60 oCompact := by
  refine own_mv (oc := fun args ob k => ∃ xs : List Tag, args = [.os 0] ∧ ob = [.row 46 tT xs] ∧ xs.length ≤ 1000000000 ∧ (cpt xs = xs → k (.os 0) [.row 46 tT xs]) ∧ k (.os 1) [.dead, .row 46 tT (cpt xs)]) ?_ ?_
  · refine own_of (CxOk.mk' Eb_ok (by kernel_rfl) mixed (gl := []) GOk.nil GoOk.nil noIt) Tryd.func60 (c := Tryd.f60.body.getD .skip) (rvs := [(.tmp 2, .un)]) (by kernel_rfl) (by kernel_rfl) (by kernel_rfl) ?_
    rintro args ob k ⟨xs, rfl, rfl, hl, h1, h2⟩ hwa hwo
    exact ⟨anCompact xs, compact_vc xs hl k h1 h2⟩
  · intro args ob k h
    unfold oCompact at h
    split at h
    · rename_i xs
      refine ⟨by decide, xs, rfl, rfl, h.1, fun e => ⟨?_, by simp⟩, ?_, by simp⟩
      · have h2 := h.2; rw [e] at h2; exact h2
      · exact h.2
    · exact h.elim

theorem cmpT_swo : SWOn (β := Tag) (fun _ => True) cmpT := by
  refine ⟨fun x _ => ?_, fun x y z _ _ _ => ?_, fun x y z _ _ _ => ?_⟩ <;> simp only [cmpT_lt, ltT] <;> omega

theorem ownSortT : OwnOk Tryd.prog [] 59 oSortT := by
  refine own_sortK laidSortT (e := 46) (t := tT) rfl (by decide) Tryd.isAgg46 Tryd.sizeOf46 (g := 56) ⟨_, Tryd.func56, by kernel_rfl, by kernel_rfl⟩ (tc := .un) rfl (c := cByTag) (@okByTag ⟨true⟩)
    (va := fun _ _ => True) (cmp := fun _ x y => cmpT x y) ?_ ?_
  · rintro _ x y _ _ k hk
    exact ⟨trivial, hk⟩
  · intro args ob k h
    unfold oSortT at h
    split at h
    · rename_i u xs
      exact ⟨u, xs, rfl, rfl, fun _ _ => trivial, cmpT_swo, h.1, fun ys p q => h.2 ys ⟨p, q⟩⟩
    · exact h.elim

theorem ownSorted : OwnOk Tryd.prog [] 41 oSorted := by
  refine own_of (CxOk.mk' Eb_ok (by kernel_rfl) mixed (gl := []) GOk.nil (GoOk.cons ownSortT Tryd.func59 (by kernel_rfl) (by kernel_rfl) (GoOk.cons ownCompact Tryd.func60 (by kernel_rfl) (by kernel_rfl) GoOk.nil)) noIt) Tryd.func41 (c := Tryd.f41.body.getD .skip) (rvs := [(.tmp 2, .un)]) (by kernel_rfl) (by kernel_rfl) (by kernel_rfl) ?_
  intro args ob k h hwa hwo
  unfold oSorted at h
  split at h
  · rename_i xs
    refine ⟨[], ?_⟩
    rw [vcSorted]
    refine ⟨h.1, fun ys hys => ⟨by rw [hys.1.length_eq]; exact h.1, ?_⟩⟩
    rw [cpt_srt hys]; exact h.2
  · exact h.elim
end Go.Proofs.YtgcliogognkdkaaDoor
