/- Own texts, merged: BDef, GDef, GDef2, GV2, GV, BV, BOk, GOk, BDef2, BM, GM, BSort, GOk2. -/
import Derived.Test.YtgcliogognkdkaaDoorRows
import Derived.Test.YtgcliogognkdkaaDoorVcQ
import Derived.Test.YtgcliogognkdkaaDoorVcNB
import Derived.Test.YtgcliogognkdkaaDoorVcSO
import Derived.Test.YtgcliogognkdkaaDoorChecked
/- Bags and counters: what the program's functions answer. -/
namespace Go.Proofs.YtgcliogognkdkaaDoor
open Go.Vc
abbrev I : Ty := .int .i64
abbrev tErr : Ty := .err 69
abbrev tT : Ty := .pr I (.pr I (.pr I .un))
abbrev tB : Ty := .pr (.sl tT) (.pr (.sl tT) .un)
abbrev Tag := Int × Int × Int × Unit
abbrev Bag := List Tag × List Tag × Unit
def Eb : Env := { tys := [(3, I), (4, .bool), (9, .str), (23, .sl tT), (25, tB), (29, tErr), (22, .sl I), (46, tT), (97, .fn 56 .un), (101, .sl (.sl tT))], errT := 69, eqs := [46], els := [(23, 46), (22, 3), (101, 23)] }
theorem Eb_ok : EnvOk Tryd.prog Eb := EnvOk.of_list (by kernel_rfl) (by kernel_rfl) (by kernel_rfl)
def tag0 : Tag := (0, 0, 0, ())
def inB (n lo hi : Int) : Bool := decide (lo ≤ n) && decide (n ≤ hi)
def cWithin : Ctr := cdet [I, I, I] (fun _ _ _ => True) (fun a b c => [⟨.bool, inB a b c⟩])
def cNaN : Ctr := cdet [I] (fun _ => True) (fun _ => [⟨.bool, false⟩])
def cmpI (a b : Int) : Int := if a < b then -1 else if b < a then 1 else 0
def cCmp : Ctr := cdet [I, I] (fun _ _ => True) (fun a b => [⟨I, cmpI a b⟩])
def orI : List Int → Int
  | [] => 0
  | x :: r => if x = 0 then orI r else x
def cOr : Ctr := cdet [.sl I] (fun _ => True) (fun l => [⟨I, orI l⟩])
def anOr (l : List Int) : Ann := [loopAt 3 Nat [] (fun st i => St.at (St.only st [3, 6, 7]) [(8, .d I (i : Int))]) (fun _ i => i ≤ l.length ∧ orI l = orI (l.drop i)) (fun i => l.length - i)]
/-- by element, node, count -/
def cmpT (a b : Tag) : Int := orI [cmpI a.1 b.1, cmpI a.2.1 b.2.1, cmpI a.2.2.1 b.2.2.1]
def cByTag : Ctr := cdet [tT, tT] (fun _ _ => True) (fun a b => [⟨I, cmpT a b⟩])
/-- what is wrong with a tag at its place -/
def tagIn (a : Tag) : Bool := inB a.1 0 9 && (inB a.2.1 0 4 && inB a.2.2.1 1 1000000)
def tagE (l : List Tag) (i : Nat) : Int := if tagIn (l.getD i tag0) = false then 1 else if 0 < i ∧ 0 ≤ cmpT (l.getD (i - 1) tag0) (l.getD i tag0) then 3 else 0
def tagsF (l : List Tag) : Nat → Nat → Int
  | 0, _ => 0
  | f + 1, i => if tagE l i = 0 then tagsF l f (i + 1) else tagE l i
def tagsE (l : List Tag) : Int := if 24 < l.length then 4 else tagsF l l.length 0
def cTags : Ctr := cdet [.sl tT] (fun _ => True) (fun l => [⟨tErr, tagsE l⟩])
def anTags (l : List Tag) : Ann := [joinAll, loopAt 4 Nat [] (fun st i => St.at (St.only st [0, 9, 10]) [(11, .d I (i : Int))]) (fun _ i => tagsE l = tagsF l (l.length - i) i ∧ i ≤ l.length) (fun i => l.length - i)]
/-- the first place of a thing, or -1 -/
def idxF (l : List Tag) (t : Tag) : Nat → Nat → Int
  | 0, _ => -1
  | f + 1, i => if l.getD i tag0 = t then (i : Int) else idxF l t f (i + 1)
def idxI (l : List Tag) (t : Tag) : Int := idxF l t l.length 0
def cIdx : Ctr := cdet [.sl tT, tT] (fun _ _ => True) (fun l t => [⟨I, idxI l t⟩])
def anIdx (l : List Tag) (t : Tag) : Ann := [loopAt 2 Nat [] (fun st i => St.at (St.only st [0, 3, 6, 7]) [(8, .d I (i : Int))]) (fun _ i => idxI l t = idxF l t (l.length - i) i ∧ i ≤ l.length) (fun i => l.length - i)]
def hasT (l : List Tag) (t : Tag) : Bool := decide (0 ≤ idxI l t)
def cHasT : Ctr := cdet [.sl tT, tT] (fun _ _ => True) (fun l t => [⟨.bool, hasT l t⟩])
def idnF (l : List Int) (t : Int) : Nat → Nat → Int
  | 0, _ => -1
  | f + 1, i => if l.getD i 0 = t then (i : Int) else idnF l t f (i + 1)
def idnI (l : List Int) (t : Int) : Int := idnF l t l.length 0
def cIdn : Ctr := cdet [.sl I, I] (fun _ _ => True) (fun l t => [⟨I, idnI l t⟩])
def anIdn (l : List Int) (t : Int) : Ann := [loopAt 2 Nat [] (fun st i => St.at (St.only st [0, 1, 6, 7]) [(8, .d I (i : Int))]) (fun _ i => idnI l t = idnF l t (l.length - i) i ∧ i ≤ l.length) (fun i => l.length - i)]
def hasI (l : List Int) (t : Int) : Bool := decide (0 ≤ idnI l t)
def cHasI : Ctr := cdet [.sl I, I] (fun _ _ => True) (fun l t => [⟨.bool, hasI l t⟩])
def goneF (b : Bag) : Nat → Nat → Int
  | 0, _ => 0
  | f + 1, i => if hasT b.1 (b.2.1.getD i tag0) = true then goneF b f (i + 1) else 6
def chkB (b : Bag) : Int := if tagsE b.1 = 0 then (if tagsE b.2.1 = 0 then goneF b b.2.1.length 0 else tagsE b.2.1) else tagsE b.1
def cCheck : Ctr := cdet [tB] (fun _ => True) (fun b => [⟨tErr, chkB b⟩])
def anCheck (b : Bag) : Ann := [joinAll, loopAt 8 Nat [] (fun st i => { St.at (St.only st [1, 20, 21]) [(22, .d I (i : Int))] with ob := [.var 25 tB b] }) (fun _ i => chkB b = goneF b (b.2.1.length - i) i ∧ i ≤ b.2.1.length) (fun i => b.2.1.length - i)]
/-- counters -/
def cntF (l : List Int) : Nat → Nat → Int
  | 0, _ => 0
  | f + 1, i => if inB (l.getD i 0) 0 1000000 = true then cntF l f (i + 1) else 1
def cntE (l : List Int) : Int := if l.length = 0 then 5 else if 5 < l.length then 4 else cntF l l.length 0
def cCounts : Ctr := cdet [.sl I] (fun _ => True) (fun l => [⟨tErr, cntE l⟩])
def anCounts (l : List Int) : Ann := [joinAll, loopAt 6 Nat [] (fun st i => St.at (St.only st [13, 14]) [(15, .d I (i : Int))]) (fun _ i => cntE l = cntF l (l.length - i) i ∧ i ≤ l.length) (fun i => l.length - i)]
/-- the same? -/
def cInts : Ctr := cdet [.sl I, .sl I] (fun _ _ => True) (fun a b => [⟨.bool, decide (a = b)⟩])
def anInts (a b : List Int) : Ann := [joinAll, loopAt 4 Nat [] (fun st i => St.at (St.only st [0, 1]) [(5, .d I (i : Int))]) (fun _ i => i ≤ a.length ∧ a.length = b.length ∧ a.take i = b.take i) (fun i => a.length - i)]
def cSameT : Ctr := cdet [.sl tT, .sl tT] (fun _ _ => True) (fun a b => [⟨.bool, decide (a = b)⟩])
def anSameT (a b : List Tag) : Ann := [joinAll, loopAt 4 Nat [] (fun st i => St.at (St.only st [0, 1]) [(5, .d I (i : Int))]) (fun _ i => i ≤ a.length ∧ a.length = b.length ∧ a.take i = b.take i) (fun i => a.length - i)]
def cSameB : Ctr := cdet [tB, tB] (fun _ _ => True) (fun a b => [⟨.bool, decide (a.1 = b.1) && decide (a.2.1 = b.2.1)⟩])
/-- copies, joined rows: the caller's own -/
def oClone : OCtr := fun args ob k => match args, ob with
  | [.d (.sl (.pr (.int .i64) (.pr (.int .i64) (.pr (.int .i64) .un)))) l], [] => (l : List Tag).length ≤ 1000000000 ∧ k (.os 0) [.row 46 (.pr (.int .i64) (.pr (.int .i64) (.pr (.int .i64) .un))) (l : List Tag)]
  | _, _ => False
def oCloneI : OCtr := fun args ob k => match args, ob with
  | [.d (.sl (.int .i64)) l], [] => (l : List Int).length ≤ 1000000000 ∧ k (.os 0) [.row 3 (.int .i64) (l : List Int)]
  | _, _ => False
def oGrow : OCtr := fun args ob k => match args, ob with
  | [.nils, .d (.int .i64) n], [] => (0 ≤ (n : Int) ∧ (n : Int) ≤ 1000000000) ∧ k (.os 0) [.row 46 (.pr (.int .i64) (.pr (.int .i64) (.pr (.int .i64) .un))) ([] : List Tag)]
  | _, _ => False
def sumL (ls : List (List Tag)) (n : Nat) : Nat := ((ls.take n).map List.length).sum
def oConcat : OCtr := fun args ob k => match args, ob with
  | [.d (.sl (.sl (.pr (.int .i64) (.pr (.int .i64) (.pr (.int .i64) .un))))) ls], [] => sumL (ls : List (List Tag)) (ls : List (List Tag)).length ≤ 1000000000 ∧ k (.os 0) [.row 46 (.pr (.int .i64) (.pr (.int .i64) (.pr (.int .i64) .un))) ((ls : List (List Tag)).flatten : List Tag)]
  | _, _ => False
def anConcat (ls : List (List Tag)) : Ann := [joinAll,
  loopAt 3 Nat [] (fun st i => St.at (St.only st [0, 9, 10]) [(3, .d I (sumL ls i : Int)), (11, .d I (i : Int))]) (fun _ i => i ≤ ls.length ∧ True) (fun i => ls.length - i),
  loopAt 11 Nat [] (fun st i => { St.at (St.only st [6, 25, 26]) [(27, .d I (i : Int))] with ob := [.row 46 tT ((ls.take i).flatten : List Tag)] }) (fun _ i => i ≤ ls.length ∧ True) (fun i => ls.length - i)]
/-- doubles that stand side by side -/
def cpt : List Tag → List Tag
  | x :: y :: l => if x = y then cpt (y :: l) else x :: cpt (y :: l)
  | l => l
def oCompact : OCtr := fun args ob k => match args, ob with
  | [.os 0], [.row 46 (.pr (.int .i64) (.pr (.int .i64) (.pr (.int .i64) .un))) xs] => (xs : List Tag).length ≤ 1000000000 ∧ k (.os 1) [.dead, .row 46 (.pr (.int .i64) (.pr (.int .i64) (.pr (.int .i64) .un))) (cpt (xs : List Tag))]
  | _, _ => False
def anCompact (xs : List Tag) : Ann := [joinAll,
  loopAt 4 Nat [] (fun st i => St.at (St.only st [0]) [(3, .d I (i : Int))]) (fun _ i => 1 ≤ i ∧ i ≤ xs.length ∧ 2 ≤ xs.length ∧ cpt (xs.take i) = xs.take i) (fun i => xs.length - i),
  loopAt 9 (Nat × Nat × Nat × List Tag) [] (fun st g => { St.at (St.only st [0]) [(3, .d I (g.2.2.1 : Int)), (4, .oc tT 0 g.1), (5, .d I (g.2.1 : Int))] with ob := [.row 46 tT g.2.2.2] })
    (fun _ g => 1 ≤ g.1 ∧ 1 ≤ g.2.1 ∧ g.1 + g.2.1 ≤ xs.length ∧ g.2.2.1 < g.1 + g.2.1 ∧ g.2.2.2.length = xs.length ∧ g.2.2.2.take g.2.2.1 = cpt (xs.take (g.1 + g.2.1)) ∧ ∀ j, g.1 + g.2.1 - 1 ≤ j → g.2.2.2.getD j tag0 = xs.getD j tag0) (fun g => xs.length - g.2.1)]
end Go.Proofs.YtgcliogognkdkaaDoor

/- Nets: what the program's small functions answer. -/
namespace Go.Proofs.YtgcliogognkdkaaDoor
open Go.Vc
abbrev tV : Ty := .pr (.sl I) (.pr I .un)
abbrev Va := List Int × Int × Unit
abbrev tRow : Ty := .ar 4 (.sl tV)
abbrev tNet : Ty := .pr (.sl tRow) (.pr (.sl I) .un)
abbrev Net := List (List (List Va)) × List Int × Unit
def Eg : Env := { tys := [(3, I), (4, .bool), (9, .str), (29, tErr), (22, .sl I), (51, .sl (.sl I)), (52, .ptr tNet), (65, .sl tV), (84, tV), (87, tRow), (80, .sl tRow), (82, tNet), (93, .fn 54 .un), (94, .fn 52 .un), (55, .sl (.sl tV))], errT := 69, eqs := [], els := [(22, 3), (51, 22), (65, 84), (80, 87), (55, 65)] }
theorem Eg_ok : EnvOk Tryd.prog Eg := EnvOk.of_list (by kernel_rfl) (by kernel_rfl) (by kernel_rfl)
def va0 : Va := ([], 0, ())
/-- has a value seen another one? -/
def sawF (v w : List Int) : Nat → Bool
  | 0 => true
  | i + 1 => sawF v w i && decide (w.getD i 0 ≤ v.getD i 0)
def sawB (v w : Va) : Bool := sawF v.1 w.1 v.1.length
def cSaw : Ctr := cdet [tV, tV] (fun v w => v.1.length ≤ w.1.length ∧ True) (fun v w => [⟨.bool, sawB v w⟩])
def anSaw (v w : Va) : Ann := [joinAll, loopAt 2 Nat [] (fun st i => St.at (St.only st [2, 3, 8]) [(9, .d I (i : Int))]) (fun _ i => i ≤ v.1.length ∧ sawF v.1 w.1 i = true) (fun i => v.1.length - i)]
def inNet (t : Net) (p k : Int) : Bool := inB p 0 ((t.1.length : Int) - 1) && inB k 0 3
def cIs : Ctr := cgen [.ptr tNet, I, I] (fun (t : Option Net) (p k : Int) kk => match t with
  | some t => kk [⟨.bool, inNet t p k⟩]
  | none => False)
/-- which of two lists is less: -1, 0, 1 -/
def lexF (a b : List Int) : Nat → Nat → Int
  | 0, i => if (a.length : Int) < (b.length : Int) then (if i = i then -1 else 0) else 0
  | f + 1, i => if b.length ≤ i then 1 else if cmpI (a.getD i 0) (b.getD i 0) = 0 then lexF a b f (i + 1) else cmpI (a.getD i 0) (b.getD i 0)
def lexI (a b : List Int) : Int := lexF a b a.length 0
def cLex : Ctr := cdet [.sl I, .sl I, .fn 54 .un] (fun _ _ (f : Option Unit) => f.isSome = true) (fun a b _ => [⟨I, lexI a b⟩])
def anLex (a b : List Int) : Ann := [joinAll, loopAt 2 Nat [] (fun st i => St.at (St.only st [0, 1, 2, 11, 12]) [(13, .d I (i : Int))]) (fun _ i => lexI a b = lexF a b (a.length - i) i ∧ i ≤ a.length) (fun i => a.length - i)]
def cLexV : Ctr := cdet [tV, tV] (fun _ _ => True) (fun v w => [⟨I, lexI v.1 w.1⟩])
def cValues : Ctr := cdet [.sl tV, .sl tV] (fun _ _ => True) (fun a b => [⟨.bool, decide (a = b)⟩])
def anValues (a b : List Va) : Ann := [joinAll, loopAt 4 Nat [] (fun st i => St.at (St.only st [0, 1]) [(5, .d I (i : Int))]) (fun _ i => i ≤ a.length ∧ a.length = b.length ∧ a.take i = b.take i) (fun i => a.length - i)]
def cCloneI : Ctr := cdet [.sl I] (fun (l : List Int) => l.length ≤ 1000000000 ∧ True) (fun l => [⟨.sl I, l⟩])
/-- the values of a key at a node -/
def valsAt (t : Net) (p k : Int) : List Va := (t.1.getD p.toNat (List.replicate 4 [])).getD k.toNat []
def readF (t : Net) (p k : Int) : List Va := if inNet t p k = true then valsAt t p k else []
def NetLen (t : Net) : Prop := (∀ r ∈ t.1, List.length r = 4 ∧ ∀ l ∈ r, List.length l ≤ 1000 ∧ ∀ v ∈ l, List.length v.1 ≤ 1000) ∧ t.1.length ≤ 1000
def cRead : Ctr := cgen [.ptr tNet, I, I] (fun (t : Option Net) (p k : Int) kk => match t with
  | some t => NetLen t ∧ kk [⟨.sl tV, readF t p k⟩]
  | none => False)
def anRead (t : Net) (p k : Int) : Ann := [joinAll, loopAt 5 Nat [(7, 84, tV)] (fun st i => { St.at (St.only st [7, 23, 24]) [(25, .d I (i : Int))] with ob := [.row 84 tV ((valsAt t p k).take i)] }) (fun _ i => i ≤ (valsAt t p k).length ∧ inNet t p k = true) (fun i => (valsAt t p k).length - i)]
def oGrowV : OCtr := fun args ob k => match args, ob with
  | [.nils, .d (.int .i64) n], [] => (0 ≤ (n : Int) ∧ (n : Int) ≤ 1000000000) ∧ k (.os 0) [.row 84 (.pr (.sl (.int .i64)) (.pr (.int .i64) .un)) ([] : List Va)]
  | _, _ => False
def sumV (ls : List (List Va)) (n : Nat) : Nat := ((ls.take n).map List.length).sum
def cConcat : Ctr := cdet [.sl (.sl tV)] (fun (ls : List (List Va)) => sumV ls ls.length ≤ 1000000000 ∧ True) (fun ls => [⟨.sl tV, (List.flatten ls : List Va)⟩])
def anConcatV (ls : List (List Va)) : Ann := [joinAll,
  loopAt 3 Nat [] (fun st i => St.at (St.only st [0, 9, 10]) [(3, .d I (sumV ls i : Int)), (11, .d I (i : Int))]) (fun _ i => i ≤ ls.length ∧ True) (fun i => ls.length - i),
  loopAt 11 Nat [] (fun st i => { St.at (St.only st [6, 25, 26]) [(27, .d I (i : Int))] with ob := [.row 84 tV ((ls.take i).flatten : List Va)] }) (fun _ i => i ≤ ls.length ∧ True) (fun i => ls.length - i)]
def newF (n : Nat) : Net := (List.replicate n (List.replicate 4 []), List.replicate n 0, ())
/-- a net of the call's own -/
def obNet (t : Net) : List Ob := [.st 82 [.os 1, .os 2], .row 87 tRow t.1, .row 3 I t.2.1]
def oNew : OCtr := fun args ob k => match args, ob with
  | [.d (.int .i64) n], [] => (inB n 1 5 = false → k (.tp [.nilp, .d tErr (1 : Int)]) []) ∧ (inB n 1 5 = true → k (.tp [.ps 0, .d tErr (0 : Int)]) (obNet (newF (n : Int).toNat)))
  | _, _ => False
end Go.Proofs.YtgcliogognkdkaaDoor

/- Nets: what is written, and told. -/
namespace Go.Proofs.YtgcliogognkdkaaDoor
open Go.Vc
structure NetSh (t : Net) : Prop where
  wr : t.2.1.length = t.1.length
  lo : 1 ≤ t.1.length
  hi : t.1.length ≤ 5
  row : ∀ r ∈ t.1, List.length r = 4
  len : ∀ r ∈ t.1, ∀ l ∈ r, List.length l ≤ 1000
  seen : ∀ r ∈ t.1, ∀ l ∈ r, ∀ v ∈ l, List.length v.1 = t.1.length
  cnt : ∀ i, i < t.2.1.length → 0 ≤ t.2.1.getD i 0 ∧ t.2.1.getD i 0 ≤ 60
def writeE (t : Net) (p k v : Int) : Int := if (inNet t p k && inB v 0 1000000) = true then (if t.2.1.getD p.toNat 0 = 60 then 4 else 0) else 1
def maxU (cur s : List Int) : Nat → List Int
  | 0 => cur
  | j + 1 => (maxU cur s j).set j (max ((maxU cur s j).getD j 0) (s.getD j 0))
def accU (vals : List Va) (n : Nat) : Nat → List Int
  | 0 => List.replicate n 0
  | i + 1 => maxU (accU vals n i) (vals.getD i va0).1 (vals.getD i va0).1.length
def upW (t : Net) (p : Int) : List Int := t.2.1.set p.toNat (t.2.1.getD p.toNat 0 + 1)
def newV (t : Net) (p k v : Int) : Va := ((accU (valsAt t p k) t.1.length (valsAt t p k).length).set p.toNat ((upW t p).getD p.toNat 0), v, ())
def setAt (t : Net) (p k : Int) (l : List Va) : List (List (List Va)) := t.1.set p.toNat ((t.1.getD p.toNat (List.replicate 4 [])).set k.toNat l)
def writeT (t : Net) (p k v : Int) : Net := if writeE t p k v = 0 then (setAt t p k [newV t p k v], upW t p, ()) else t
def oWrite : OCtr := fun args ob k => match args, ob with
  | [.ps 0, .d (.int .i64) p, .d (.int .i64) q, .d (.int .i64) v], [.st 82 [.os 1, .os 2], .row 87 (.ar 4 (.sl (.pr (.sl (.int .i64)) (.pr (.int .i64) .un)))) nodes, .row 3 (.int .i64) wrote] =>
    NetSh (nodes, wrote, ()) ∧ k (.d tErr (writeE (nodes, wrote, ()) p q v)) (obNet (writeT (nodes, wrote, ()) p q v))
  | _, _ => False
def Egw (l : List Nat) : Env := { Eg with pz := l }
theorem Egw_ok (l : List Nat) : EnvOk Tryd.prog (Egw l) := ⟨Eg_ok.ty, Eg_ok.err, Eg_ok.el, Eg_ok.mp⟩
def obW (t : Net) (p : Int) (v : Int) (acc : List Int) : List Ob := [.st 82 [.os 1, .os 2], .row 87 tRow t.1, .row 3 I (upW t p), .row 3 I acc, .st 84 [.os 3, .d I v]]
def anWrite (t : Net) (p k v : Int) : Ann := [joinAll, freezeAt 17 [9],
  loopAt 8 Nat [] (fun st i => { St.at (St.only st [0, 1, 2, 3, 59, 60]) [(9, .ps 4), (61, .d I (i : Int))] with ob := obW t p v (accU (valsAt t p k) t.1.length i) }) (fun _ i => i ≤ (valsAt t p k).length ∧ writeE t p k v = 0) (fun i => (valsAt t p k).length - i),
  loopAt 11 Nat [] (fun st j => { St.at (St.only st [0, 1, 2, 3, 9, 59, 60, 61, 66, 67]) [(68, .d I (j : Int))] with ob := obW t p v (maxU (accU (valsAt t p k) t.1.length (st.i 61).toNat) ((valsAt t p k).getD (st.i 61).toNat va0).1 j) }) (fun st j => j ≤ ((valsAt t p k).getD (st.i 61).toNat va0).1.length ∧ writeE t p k v = 0) (fun j => 1000 - j)]
def syncE (t : Net) (a b : Int) : Int := if (inNet t a 0 && inNet t b 0) = true then (if a = b then 6 else 0) else 1
def oldU (all : List Va) (i : Nat) : Nat → Bool
  | 0 => false
  | j + 1 => oldU all i j || (sawB (all.getD j va0) (all.getD i va0) && (!sawB (all.getD i va0) (all.getD j va0) || decide ((j : Int) < (i : Int))))
def outU (all : List Va) : Nat → List Va
  | 0 => []
  | i + 1 => if oldU all i all.length = true then outU all i else outU all i ++ [all.getD i va0]
/-- by what they saw -/
def lexL : List Int → List Int → Int
  | [], [] => 0
  | [], _ :: _ => -1
  | _ :: _, [] => 1
  | x :: a, y :: b => if cmpI x y = 0 then lexL a b else cmpI x y
def insV (v : Va) : List Va → List Va
  | [] => [v]
  | x :: l => if lexL v.1 x.1 < 0 then v :: x :: l else x :: insV v l
def sortV (l : List Va) : List Va := l.foldr insV []
def mrgV (all : List Va) : List Va := sortV (outU all all.length)
def srtPV (xs ys : List Va) : Prop := ys.Perm xs ∧ ys.Pairwise fun a b => 0 ≤ lexI b.1 a.1
def oSortV : OCtr := fun args ob k => match args, ob with
  | [.os 0, .d (.fn 52 .un) (some _)], [.row 84 (.pr (.sl (.int .i64)) (.pr (.int .i64) .un)) xs] => (xs : List Va).length ≤ 1000000000 ∧ ∀ ys : List Va, srtPV xs ys → k (.tp []) [.row 84 (.pr (.sl (.int .i64)) (.pr (.int .i64) .un)) ys]
  | _, _ => False
def syncU (t : Net) (a b : Int) : Nat → Net
  | 0 => t
  | k + 1 => (setAt (syncU t a b k) b (k : Int) (mrgV (valsAt (syncU t a b k) b (k : Int) ++ valsAt (syncU t a b k) a (k : Int))), t.2.1, ())
def syncT (t : Net) (a b : Int) : Net := if syncE t a b = 0 then syncU t a b 4 else t
def oSync : OCtr := fun args ob k => match args, ob with
  | [.ps 0, .d (.int .i64) a, .d (.int .i64) b], [.st 82 [.os 1, .os 2], .row 87 (.ar 4 (.sl (.pr (.sl (.int .i64)) (.pr (.int .i64) .un)))) nodes, .row 3 (.int .i64) wrote] =>
    NetSh (nodes, wrote, ()) ∧ k (.d tErr (syncE (nodes, wrote, ()) a b)) (obNet (syncT (nodes, wrote, ()) a b))
  | _, _ => False
/-- the values joined, of a key -/
def allAt (t : Net) (a b : Int) (k : Nat) : List Va := valsAt (syncU t a b k) b (k : Int) ++ valsAt (syncU t a b k) a (k : Int)
def anSync (t : Net) (a b : Int) : Ann := [joinAll, freezeAt 23 [9],
  loopAt 6 Nat [] (fun st key => { St.at (St.only st [0, 1, 2]) [(30, .d I (key : Int))] with ob := obNet (syncU t a b key) }) (fun _ key => key ≤ 4 ∧ syncE t a b = 0) (fun key => 4 - key),
  loopAt 11 Nat [(9, 84, tV)] (fun st i => { St.at (St.only st [0, 1, 2, 7, 30]) [(8, .d (.sl tV) (allAt t a b (st.i 30).toNat)), (53, .d (.sl tV) (allAt t a b (st.i 30).toNat)), (54, .d I ((allAt t a b (st.i 30).toNat).length : Int)), (9, .os 3), (55, .d I (i : Int))] with ob := obNet (syncU t a b (st.i 30).toNat) ++ [.row 84 tV (outU (allAt t a b (st.i 30).toNat) i)] }) (fun st i => i ≤ (allAt t a b (st.i 30).toNat).length ∧ syncE t a b = 0) (fun i => 10000 - i),
  loopAt 15 Nat [] (fun st j => St.at (St.only st [0, 1, 2, 7, 8, 9, 10, 11, 30, 53, 54, 55, 60, 61]) [(12, .d .bool (oldU (allAt t a b (st.i 30).toNat) (st.i 55).toNat j)), (62, .d I (j : Int))]) (fun st j => j ≤ (allAt t a b (st.i 30).toNat).length ∧ syncE t a b = 0) (fun j => 10000 - j)]
end Go.Proofs.YtgcliogognkdkaaDoor

/- What the functions of this seat have to satisfy, by program: each verification condition in plain words. -/
namespace Go.Proofs.YtgcliogognkdkaaDoor
open Go.Vc
set_option linter.unusedVariables false
theorem vcWrite (nd : List (List (List Va))) (wr : List Int) (p q v : Int) (k : SV → List Ob → Prop) : vcO ⟨Egw [9], [(33, cWithin), (47, cIs)], [], [], []⟩ (anWrite (nd, wr, ()) p q v) (Tryd.f26.body.getD .skip) Tryd.f26.ntmps [(.tmp 8, tErr)] [.ps 0, .d I p, .d I q, .d I v] [.st 82 [.os 1, .os 2], .row 87 tRow nd, .row 3 I wr] k = (
  ((!inNet (nd, wr, ()) p q) = true → (1 : Int) ≠ (0 : Int) ∧ k (SV.d (Ty.err (69 : Nat)) (1 : Int)) [Ob.st (82 : Nat) [SV.os (1 : Nat), SV.os (2 : Nat)], Ob.row (87 : Nat) (Ty.ar (4 : Nat) (tV).sl) nd, Ob.row (3 : Nat) (I) wr]) ∧ ((!inNet (nd, wr, ()) p q) = false → True ∧ ((!inB v (0 : Int) (1000000 : Int)) = true → (1 : Int) ≠ (0 : Int) ∧ k (SV.d (Ty.err (69 : Nat)) (1 : Int)) [Ob.st (82 : Nat) [SV.os (1 : Nat), SV.os (2 : Nat)], Ob.row (87 : Nat) (Ty.ar (4 : Nat) (tV).sl) nd, Ob.row (3 : Nat) (I) wr]) ∧ ((!inB v (0 : Int) (1000000 : Int)) = false → (0 : Int) ≤ p ∧ p < (↑wr.length : Int) ∧ (decide (wr.getD p.toNat (0 : Int) = (60 : Int)) = true → (4 : Int) ≠ (0 : Int) ∧ k (SV.d (Ty.err (69 : Nat)) (4 : Int)) [Ob.st (82 : Nat) [SV.os (1 : Nat), SV.os (2 : Nat)], Ob.row (87 : Nat) (Ty.ar (4 : Nat) (tV).sl) nd, Ob.row (3 : Nat) (I) wr]) ∧ (decide (wr.getD p.toNat (0 : Int) = (60 : Int)) = false → (0 : Int) ≤ p ∧ p < (↑wr.length : Int) ∧ inK IntKind.i64 (wr.getD p.toNat (0 : Int) + (1 : Int)) ∧ (0 : Int) ≤ p ∧ p < (↑wr.length : Int) ∧ (0 : Int) ≤ (↑nd.length : Int) ∧ (↑nd.length : Int) ≤ (↑nd.length : Int) ∧ (↑nd.length : Int) ≤ (1000000000 : Int) ∧ (0 : Int) ≤ p ∧ p < (↑nd.length : Int) ∧ (0 : Int) ≤ q ∧ q < (↑(4 : Nat) : Int) ∧ (∃ (x : Nat), (x ≤ (valsAt (nd, wr, ()) p q).length ∧ writeE (nd, wr, ()) p q v = (0 : Int)) ∧ (True ∧ p = p ∧ q = q ∧ v = v ∧ True ∧ (nd.getD p.toNat (List.replicate (4 : Nat) [])).getD q.toNat [] = (nd.getD p.toNat (List.replicate (4 : Nat) [])).getD q.toNat [] ∧ (↑((nd.getD p.toNat (List.replicate (4 : Nat) [])).getD q.toNat []).length : Int) = (↑((nd.getD p.toNat (List.replicate (4 : Nat) [])).getD q.toNat []).length : Int) ∧ (0 : Int) = (↑x : Int) ∧ True) ∧ ((True ∧ True ∧ True) ∧ ((87 : Nat) = (87 : Nat) ∧ nd = nd) ∧ ((3 : Nat) = (3 : Nat) ∧ wr.set p.toNat (wr.getD p.toNat (0 : Int) + (1 : Int)) = upW (nd, wr, ()) p) ∧ ((3 : Nat) = (3 : Nat) ∧ List.replicate (↑nd.length : Int).toNat (0 : Int) = accU (valsAt (nd, wr, ()) p q) nd.length x) ∧ (True ∧ v = v ∧ True) ∧ True) ∧ True ∧ p = p ∧ q = q ∧ v = v ∧ True) ∧ ∀ (x : Nat), x ≤ (valsAt (nd, wr, ()) p q).length ∧ writeE (nd, wr, ()) p q v = (0 : Int) → (decide ((↑x : Int) < (↑((nd.getD p.toNat (List.replicate (4 : Nat) [])).getD q.toNat []).length : Int)) = true → (0 : Int) ≤ (↑x : Int) ∧ (↑x : Int) < (↑((nd.getD p.toNat (List.replicate (4 : Nat) [])).getD q.toNat []).length : Int) ∧ (∃ (x_1 : Nat), (x_1 ≤ ((valsAt (nd, wr, ()) p q).getD (↑x : Int).toNat va0).fst.length ∧ writeE (nd, wr, ()) p q v = (0 : Int)) ∧ (True ∧ p = p ∧ q = q ∧ v = v ∧ True ∧ (nd.getD p.toNat (List.replicate (4 : Nat) [])).getD q.toNat [] = (nd.getD p.toNat (List.replicate (4 : Nat) [])).getD q.toNat [] ∧ (↑((nd.getD p.toNat (List.replicate (4 : Nat) [])).getD q.toNat []).length : Int) = (↑((nd.getD p.toNat (List.replicate (4 : Nat) [])).getD q.toNat []).length : Int) ∧ (↑x : Int) = (↑x : Int) ∧ (((nd.getD p.toNat (List.replicate (4 : Nat) [])).getD q.toNat []).getD (↑x : Int).toNat va0).fst = (((nd.getD p.toNat (List.replicate (4 : Nat) [])).getD q.toNat []).getD (↑x : Int).toNat va0).fst ∧ (↑(List.length (((nd.getD p.toNat (List.replicate (4 : Nat) [])).getD q.toNat []).getD (↑x : Int).toNat va0).fst) : Int) = (↑(List.length (((nd.getD p.toNat (List.replicate (4 : Nat) [])).getD q.toNat []).getD (↑x : Int).toNat va0).fst) : Int) ∧ (0 : Int) = (↑x_1 : Int) ∧ True) ∧ ((True ∧ True ∧ True) ∧ ((87 : Nat) = (87 : Nat) ∧ nd = nd) ∧ ((3 : Nat) = (3 : Nat) ∧ upW (nd, wr, ()) p = upW (nd, wr, ()) p) ∧ ((3 : Nat) = (3 : Nat) ∧ accU (valsAt (nd, wr, ()) p q) nd.length x = maxU (accU (valsAt (nd, wr, ()) p q) nd.length (↑x : Int).toNat) ((valsAt (nd, wr, ()) p q).getD (↑x : Int).toNat va0).fst x_1) ∧ (True ∧ v = v ∧ True) ∧ True) ∧ True ∧ p = p ∧ q = q ∧ v = v ∧ True) ∧ ∀ (x_1 : Nat), x_1 ≤ ((valsAt (nd, wr, ()) p q).getD (↑x : Int).toNat va0).fst.length ∧ writeE (nd, wr, ()) p q v = (0 : Int) → (decide ((↑x_1 : Int) < (↑(List.length (((nd.getD p.toNat (List.replicate (4 : Nat) [])).getD q.toNat []).getD (↑x : Int).toNat va0).fst) : Int)) = true → (0 : Int) ≤ (↑x_1 : Int) ∧ (↑x_1 : Int) < (↑(List.length (((nd.getD p.toNat (List.replicate (4 : Nat) [])).getD q.toNat []).getD (↑x : Int).toNat va0).fst) : Int) ∧ ((0 : Int) ≤ (↑x_1 : Int) ∧ (↑x_1 : Int) < (↑(maxU (accU (valsAt (nd, wr, ()) p q) nd.length (↑x : Int).toNat) ((valsAt (nd, wr, ()) p q).getD (↑x : Int).toNat va0).fst x_1).length : Int) ∧ (0 : Int) ≤ (↑x_1 : Int) ∧ (↑x_1 : Int) < (↑(maxU (accU (valsAt (nd, wr, ()) p q) nd.length (↑x : Int).toNat) ((valsAt (nd, wr, ()) p q).getD (↑x : Int).toNat va0).fst x_1).length : Int) ∧ True) ∧ inK IntKind.i64 ((↑x_1 : Int) + (1 : Int)) ∧ ∃ (x_2 : Nat), (x_2 ≤ ((valsAt (nd, wr, ()) p q).getD (↑x : Int).toNat va0).fst.length ∧ writeE (nd, wr, ()) p q v = (0 : Int)) ∧ (1000 : Nat) - x_2 < (1000 : Nat) - x_1 ∧ (True ∧ p = p ∧ q = q ∧ v = v ∧ True ∧ (nd.getD p.toNat (List.replicate (4 : Nat) [])).getD q.toNat [] = (nd.getD p.toNat (List.replicate (4 : Nat) [])).getD q.toNat [] ∧ (↑((nd.getD p.toNat (List.replicate (4 : Nat) [])).getD q.toNat []).length : Int) = (↑((nd.getD p.toNat (List.replicate (4 : Nat) [])).getD q.toNat []).length : Int) ∧ (↑x : Int) = (↑x : Int) ∧ (((nd.getD p.toNat (List.replicate (4 : Nat) [])).getD q.toNat []).getD (↑x : Int).toNat va0).fst = (((nd.getD p.toNat (List.replicate (4 : Nat) [])).getD q.toNat []).getD (↑x : Int).toNat va0).fst ∧ (↑(List.length (((nd.getD p.toNat (List.replicate (4 : Nat) [])).getD q.toNat []).getD (↑x : Int).toNat va0).fst) : Int) = (↑(List.length (((nd.getD p.toNat (List.replicate (4 : Nat) [])).getD q.toNat []).getD (↑x : Int).toNat va0).fst) : Int) ∧ (↑x_1 : Int) + (1 : Int) = (↑x_2 : Int) ∧ True) ∧ ((True ∧ True ∧ True) ∧ ((87 : Nat) = (87 : Nat) ∧ nd = nd) ∧ ((3 : Nat) = (3 : Nat) ∧ upW (nd, wr, ()) p = upW (nd, wr, ()) p) ∧ ((3 : Nat) = (3 : Nat) ∧ (maxU (accU (valsAt (nd, wr, ()) p q) nd.length (↑x : Int).toNat) ((valsAt (nd, wr, ()) p q).getD (↑x : Int).toNat va0).fst x_1).set (↑x_1 : Int).toNat (max ((maxU (accU (valsAt (nd, wr, ()) p q) nd.length (↑x : Int).toNat) ((valsAt (nd, wr, ()) p q).getD (↑x : Int).toNat va0).fst x_1).getD (↑x_1 : Int).toNat (0 : Int)) (List.getD (((nd.getD p.toNat (List.replicate (4 : Nat) [])).getD q.toNat []).getD (↑x : Int).toNat va0).fst (↑x_1 : Int).toNat (0 : Int))) = maxU (accU (valsAt (nd, wr, ()) p q) nd.length (↑x : Int).toNat) ((valsAt (nd, wr, ()) p q).getD (↑x : Int).toNat va0).fst x_2) ∧ (True ∧ v = v ∧ True) ∧ True) ∧ True ∧ p = p ∧ q = q ∧ v = v ∧ True) ∧ (decide ((↑x_1 : Int) < (↑(List.length (((nd.getD p.toNat (List.replicate (4 : Nat) [])).getD q.toNat []).getD (↑x : Int).toNat va0).fst) : Int)) = false → inK IntKind.i64 ((↑x : Int) + (1 : Int)) ∧ ∃ (x_2 : Nat), (x_2 ≤ (valsAt (nd, wr, ()) p q).length ∧ writeE (nd, wr, ()) p q v = (0 : Int)) ∧ (valsAt (nd, wr, ()) p q).length - x_2 < (valsAt (nd, wr, ()) p q).length - x ∧ (True ∧ p = p ∧ q = q ∧ v = v ∧ True ∧ (nd.getD p.toNat (List.replicate (4 : Nat) [])).getD q.toNat [] = (nd.getD p.toNat (List.replicate (4 : Nat) [])).getD q.toNat [] ∧ (↑((nd.getD p.toNat (List.replicate (4 : Nat) [])).getD q.toNat []).length : Int) = (↑((nd.getD p.toNat (List.replicate (4 : Nat) [])).getD q.toNat []).length : Int) ∧ (↑x : Int) + (1 : Int) = (↑x_2 : Int) ∧ True) ∧ ((True ∧ True ∧ True) ∧ ((87 : Nat) = (87 : Nat) ∧ nd = nd) ∧ ((3 : Nat) = (3 : Nat) ∧ upW (nd, wr, ()) p = upW (nd, wr, ()) p) ∧ ((3 : Nat) = (3 : Nat) ∧ maxU (accU (valsAt (nd, wr, ()) p q) nd.length (↑x : Int).toNat) ((valsAt (nd, wr, ()) p q).getD (↑x : Int).toNat va0).fst x_1 = accU (valsAt (nd, wr, ()) p q) nd.length x_2) ∧ (True ∧ v = v ∧ True) ∧ True) ∧ True ∧ p = p ∧ q = q ∧ v = v ∧ True)) ∧ (decide ((↑x : Int) < (↑((nd.getD p.toNat (List.replicate (4 : Nat) [])).getD q.toNat []).length : Int)) = false → ((0 : Int) ≤ p ∧ p < (↑(upW (nd, wr, ()) p).length : Int) ∧ (0 : Int) ≤ p ∧ p < (↑(accU (valsAt (nd, wr, ()) p q) nd.length x).length : Int) ∧ True) ∧ ((0 : Int) ≤ p ∧ p < (↑nd.length : Int) ∧ (0 : Int) ≤ q ∧ q < (↑(4 : Nat) : Int) ∧ True) ∧ k (SV.d (Ty.err (69 : Nat)) (0 : Int)) [Ob.st (82 : Nat) [SV.os (1 : Nat), SV.os (2 : Nat)], Ob.row (87 : Nat) (Ty.ar (4 : Nat) (tV).sl) (nd.set p.toNat ((nd.getD p.toNat (List.replicate (4 : Nat) [])).set q.toNat ((List.replicate (1 : Nat) va0).set (0 : Nat) ((accU (valsAt (nd, wr, ()) p q) nd.length x).set p.toNat ((upW (nd, wr, ()) p).getD p.toNat (0 : Int)), v, ())))), Ob.row (3 : Nat) (I) (upW (nd, wr, ()) p)]))))) := by kernel_rfl
theorem vcSync (nd : List (List (List Va))) (wr : List Int) (a b : Int) (k : SV → List Ob → Prop) : vcO ⟨Eg, [(47, cIs), (49, cConcat), (50, cSaw)], [], [], [(51, oSortV)]⟩ (anSync (nd, wr, ()) a b) (Tryd.f28.body.getD .skip) Tryd.f28.ntmps [(.tmp 6, tErr)] [.ps 0, .d I a, .d I b] [.st 82 [.os 1, .os 2], .row 87 tRow nd, .row 3 I wr] k = (
  ((!inNet (nd, wr, ()) a (0 : Int)) = true → (1 : Int) ≠ (0 : Int) ∧ k (SV.d (Ty.err (69 : Nat)) (1 : Int)) [Ob.st (82 : Nat) [SV.os (1 : Nat), SV.os (2 : Nat)], Ob.row (87 : Nat) (Ty.ar (4 : Nat) (tV).sl) nd, Ob.row (3 : Nat) (I) wr]) ∧ ((!inNet (nd, wr, ()) a (0 : Int)) = false → ((!inNet (nd, wr, ()) b (0 : Int)) = true → (1 : Int) ≠ (0 : Int) ∧ k (SV.d (Ty.err (69 : Nat)) (1 : Int)) [Ob.st (82 : Nat) [SV.os (1 : Nat), SV.os (2 : Nat)], Ob.row (87 : Nat) (Ty.ar (4 : Nat) (tV).sl) nd, Ob.row (3 : Nat) (I) wr]) ∧ ((!inNet (nd, wr, ()) b (0 : Int)) = false → (decide (a = b) = true → (6 : Int) ≠ (0 : Int) ∧ k (SV.d (Ty.err (69 : Nat)) (6 : Int)) [Ob.st (82 : Nat) [SV.os (1 : Nat), SV.os (2 : Nat)], Ob.row (87 : Nat) (Ty.ar (4 : Nat) (tV).sl) nd, Ob.row (3 : Nat) (I) wr]) ∧ (decide (a = b) = false → (∃ (x : Nat), (x ≤ (4 : Nat) ∧ syncE (nd, wr, ()) a b = (0 : Int)) ∧ (True ∧ a = a ∧ b = b ∧ (0 : Int) = (↑x : Int) ∧ True) ∧ ((True ∧ True ∧ True) ∧ ((87 : Nat) = (87 : Nat) ∧ nd = (syncU (nd, wr, ()) a b x).fst) ∧ ((3 : Nat) = (3 : Nat) ∧ wr = (syncU (nd, wr, ()) a b x).snd.fst) ∧ True) ∧ True ∧ a = a ∧ b = b ∧ True) ∧ ∀ (x : Nat), x ≤ (4 : Nat) ∧ syncE (nd, wr, ()) a b = (0 : Int) → (decide ((↑x : Int) < (4 : Int)) = true → ((0 : Int) ≤ b ∧ b < (↑(syncU (nd, wr, ()) a b x).fst.length : Int) ∧ (0 : Int) ≤ (↑x : Int) ∧ (↑x : Int) < (↑(4 : Nat) : Int) ∧ (0 : Int) ≤ a ∧ a < (↑(syncU (nd, wr, ()) a b x).fst.length : Int) ∧ (0 : Int) ≤ (↑x : Int) ∧ (↑x : Int) < (↑(4 : Nat) : Int) ∧ (sumV (((List.replicate (2 : Nat) []).set (0 : Nat) (((syncU (nd, wr, ()) a b x).fst.getD b.toNat (List.replicate (4 : Nat) [])).getD (↑x : Int).toNat [])).set (1 : Nat) (((syncU (nd, wr, ()) a b x).fst.getD a.toNat (List.replicate (4 : Nat) [])).getD (↑x : Int).toNat [])) (((List.replicate (2 : Nat) []).set (0 : Nat) (((syncU (nd, wr, ()) a b x).fst.getD b.toNat (List.replicate (4 : Nat) [])).getD (↑x : Int).toNat [])).set (1 : Nat) (((syncU (nd, wr, ()) a b x).fst.getD a.toNat (List.replicate (4 : Nat) [])).getD (↑x : Int).toNat [])).length ≤ (1000000000 : Nat) ∧ True) ∧ True) ∧ (∃ (x_1 : Nat), (x_1 ≤ (allAt (nd, wr, ()) a b (↑x : Int).toNat).length ∧ syncE (nd, wr, ()) a b = (0 : Int)) ∧ (True ∧ a = a ∧ b = b ∧ (↑x : Int) = (↑x : Int) ∧ (((List.replicate (2 : Nat) []).set (0 : Nat) (((syncU (nd, wr, ()) a b x).fst.getD b.toNat (List.replicate (4 : Nat) [])).getD (↑x : Int).toNat [])).set (1 : Nat) (((syncU (nd, wr, ()) a b x).fst.getD a.toNat (List.replicate (4 : Nat) [])).getD (↑x : Int).toNat [])).flatten = allAt (nd, wr, ()) a b (↑x : Int).toNat ∧ True ∧ (↑x : Int) = (↑x : Int) ∧ (((List.replicate (2 : Nat) []).set (0 : Nat) (((syncU (nd, wr, ()) a b x).fst.getD b.toNat (List.replicate (4 : Nat) [])).getD (↑x : Int).toNat [])).set (1 : Nat) (((syncU (nd, wr, ()) a b x).fst.getD a.toNat (List.replicate (4 : Nat) [])).getD (↑x : Int).toNat [])).flatten = allAt (nd, wr, ()) a b (↑x : Int).toNat ∧ (↑(((List.replicate (2 : Nat) []).set (0 : Nat) (((syncU (nd, wr, ()) a b x).fst.getD b.toNat (List.replicate (4 : Nat) [])).getD (↑x : Int).toNat [])).set (1 : Nat) (((syncU (nd, wr, ()) a b x).fst.getD a.toNat (List.replicate (4 : Nat) [])).getD (↑x : Int).toNat [])).flatten.length : Int) = (↑(allAt (nd, wr, ()) a b (↑x : Int).toNat).length : Int) ∧ (0 : Int) = (↑x_1 : Int) ∧ True) ∧ ((True ∧ True ∧ True) ∧ ((87 : Nat) = (87 : Nat) ∧ (syncU (nd, wr, ()) a b x).fst = (syncU (nd, wr, ()) a b (↑x : Int).toNat).fst) ∧ ((3 : Nat) = (3 : Nat) ∧ (syncU (nd, wr, ()) a b x).snd.fst = (syncU (nd, wr, ()) a b (↑x : Int).toNat).snd.fst) ∧ ((84 : Nat) = (84 : Nat) ∧ [] = outU (allAt (nd, wr, ()) a b (↑x : Int).toNat) x_1) ∧ True) ∧ True ∧ a = a ∧ b = b ∧ True) ∧ ∀ (x_1 : Nat), x_1 ≤ (allAt (nd, wr, ()) a b (↑x : Int).toNat).length ∧ syncE (nd, wr, ()) a b = (0 : Int) → (decide ((↑x_1 : Int) < (↑(allAt (nd, wr, ()) a b (↑x : Int).toNat).length : Int)) = true → (0 : Int) ≤ (↑x_1 : Int) ∧ (↑x_1 : Int) < (↑(allAt (nd, wr, ()) a b (↑x : Int).toNat).length : Int) ∧ (∃ (x_2 : Nat), (x_2 ≤ (allAt (nd, wr, ()) a b (↑x : Int).toNat).length ∧ syncE (nd, wr, ()) a b = (0 : Int)) ∧ (True ∧ a = a ∧ b = b ∧ (↑x : Int) = (↑x : Int) ∧ allAt (nd, wr, ()) a b (↑x : Int).toNat = allAt (nd, wr, ()) a b (↑x : Int).toNat ∧ True ∧ (↑x_1 : Int) = (↑x_1 : Int) ∧ ([] : List Nat) = [] ∧ false = oldU (allAt (nd, wr, ()) a b (↑x : Int).toNat) (↑x_1 : Int).toNat x_2 ∧ (↑x : Int) = (↑x : Int) ∧ allAt (nd, wr, ()) a b (↑x : Int).toNat = allAt (nd, wr, ()) a b (↑x : Int).toNat ∧ (↑(allAt (nd, wr, ()) a b (↑x : Int).toNat).length : Int) = (↑(allAt (nd, wr, ()) a b (↑x : Int).toNat).length : Int) ∧ (↑x_1 : Int) = (↑x_1 : Int) ∧ allAt (nd, wr, ()) a b (↑x : Int).toNat = allAt (nd, wr, ()) a b (↑x : Int).toNat ∧ (↑(allAt (nd, wr, ()) a b (↑x : Int).toNat).length : Int) = (↑(allAt (nd, wr, ()) a b (↑x : Int).toNat).length : Int) ∧ (0 : Int) = (↑x_2 : Int) ∧ True) ∧ ((True ∧ True ∧ True) ∧ ((87 : Nat) = (87 : Nat) ∧ (syncU (nd, wr, ()) a b (↑x : Int).toNat).fst = (syncU (nd, wr, ()) a b (↑x : Int).toNat).fst) ∧ ((3 : Nat) = (3 : Nat) ∧ (syncU (nd, wr, ()) a b (↑x : Int).toNat).snd.fst = (syncU (nd, wr, ()) a b (↑x : Int).toNat).snd.fst) ∧ ((84 : Nat) = (84 : Nat) ∧ outU (allAt (nd, wr, ()) a b (↑x : Int).toNat) x_1 = outU (allAt (nd, wr, ()) a b (↑x : Int).toNat) x_1) ∧ ((84 : Nat) = (84 : Nat) ∧ (allAt (nd, wr, ()) a b (↑x : Int).toNat).getD (↑x_1 : Int).toNat va0 = (allAt (nd, wr, ()) a b (↑x : Int).toNat).getD (↑x_1 : Int).toNat va0) ∧ True) ∧ True ∧ a = a ∧ b = b ∧ True) ∧ ∀ (x_2 : Nat), x_2 ≤ (allAt (nd, wr, ()) a b (↑x : Int).toNat).length ∧ syncE (nd, wr, ()) a b = (0 : Int) → (decide ((↑x_2 : Int) < (↑(allAt (nd, wr, ()) a b (↑x : Int).toNat).length : Int)) = true → (0 : Int) ≤ (↑x_2 : Int) ∧ (↑x_2 : Int) < (↑(allAt (nd, wr, ()) a b (↑x : Int).toNat).length : Int) ∧ (oldU (allAt (nd, wr, ()) a b (↑x : Int).toNat) (↑x_1 : Int).toNat x_2 = true → inK IntKind.i64 ((↑x_2 : Int) + (1 : Int)) ∧ ∃ (x_3 : Nat), (x_3 ≤ (allAt (nd, wr, ()) a b (↑x : Int).toNat).length ∧ syncE (nd, wr, ()) a b = (0 : Int)) ∧ (10000 : Nat) - x_3 < (10000 : Nat) - x_2 ∧ (True ∧ a = a ∧ b = b ∧ (↑x : Int) = (↑x : Int) ∧ allAt (nd, wr, ()) a b (↑x : Int).toNat = allAt (nd, wr, ()) a b (↑x : Int).toNat ∧ True ∧ (↑x_1 : Int) = (↑x_1 : Int) ∧ ([] : List Nat) = [] ∧ true = oldU (allAt (nd, wr, ()) a b (↑x : Int).toNat) (↑x_1 : Int).toNat x_3 ∧ (↑x : Int) = (↑x : Int) ∧ allAt (nd, wr, ()) a b (↑x : Int).toNat = allAt (nd, wr, ()) a b (↑x : Int).toNat ∧ (↑(allAt (nd, wr, ()) a b (↑x : Int).toNat).length : Int) = (↑(allAt (nd, wr, ()) a b (↑x : Int).toNat).length : Int) ∧ (↑x_1 : Int) = (↑x_1 : Int) ∧ allAt (nd, wr, ()) a b (↑x : Int).toNat = allAt (nd, wr, ()) a b (↑x : Int).toNat ∧ (↑(allAt (nd, wr, ()) a b (↑x : Int).toNat).length : Int) = (↑(allAt (nd, wr, ()) a b (↑x : Int).toNat).length : Int) ∧ (↑x_2 : Int) + (1 : Int) = (↑x_3 : Int) ∧ True) ∧ ((True ∧ True ∧ True) ∧ ((87 : Nat) = (87 : Nat) ∧ (syncU (nd, wr, ()) a b (↑x : Int).toNat).fst = (syncU (nd, wr, ()) a b (↑x : Int).toNat).fst) ∧ ((3 : Nat) = (3 : Nat) ∧ (syncU (nd, wr, ()) a b (↑x : Int).toNat).snd.fst = (syncU (nd, wr, ()) a b (↑x : Int).toNat).snd.fst) ∧ ((84 : Nat) = (84 : Nat) ∧ outU (allAt (nd, wr, ()) a b (↑x : Int).toNat) x_1 = outU (allAt (nd, wr, ()) a b (↑x : Int).toNat) x_1) ∧ ((84 : Nat) = (84 : Nat) ∧ (allAt (nd, wr, ()) a b (↑x : Int).toNat).getD (↑x_1 : Int).toNat va0 = (allAt (nd, wr, ()) a b (↑x : Int).toNat).getD (↑x_1 : Int).toNat va0) ∧ True) ∧ True ∧ a = a ∧ b = b ∧ True) ∧ (oldU (allAt (nd, wr, ()) a b (↑x : Int).toNat) (↑x_1 : Int).toNat x_2 = false → (List.length ((allAt (nd, wr, ()) a b (↑x : Int).toNat).getD (↑x_2 : Int).toNat va0).fst ≤ List.length ((allAt (nd, wr, ()) a b (↑x : Int).toNat).getD (↑x_1 : Int).toNat va0).fst ∧ True) ∧ (sawB ((allAt (nd, wr, ()) a b (↑x : Int).toNat).getD (↑x_2 : Int).toNat va0) ((allAt (nd, wr, ()) a b (↑x : Int).toNat).getD (↑x_1 : Int).toNat va0) = true → (List.length ((allAt (nd, wr, ()) a b (↑x : Int).toNat).getD (↑x_1 : Int).toNat va0).fst ≤ List.length ((allAt (nd, wr, ()) a b (↑x : Int).toNat).getD (↑x_2 : Int).toNat va0).fst ∧ True) ∧ ((!sawB ((allAt (nd, wr, ()) a b (↑x : Int).toNat).getD (↑x_1 : Int).toNat va0) ((allAt (nd, wr, ()) a b (↑x : Int).toNat).getD (↑x_2 : Int).toNat va0)) = true → inK IntKind.i64 ((↑x_2 : Int) + (1 : Int)) ∧ ∃ (x_3 : Nat), (x_3 ≤ (allAt (nd, wr, ()) a b (↑x : Int).toNat).length ∧ syncE (nd, wr, ()) a b = (0 : Int)) ∧ (10000 : Nat) - x_3 < (10000 : Nat) - x_2 ∧ (True ∧ a = a ∧ b = b ∧ (↑x : Int) = (↑x : Int) ∧ allAt (nd, wr, ()) a b (↑x : Int).toNat = allAt (nd, wr, ()) a b (↑x : Int).toNat ∧ True ∧ (↑x_1 : Int) = (↑x_1 : Int) ∧ ([] : List Nat) = [] ∧ true = oldU (allAt (nd, wr, ()) a b (↑x : Int).toNat) (↑x_1 : Int).toNat x_3 ∧ (↑x : Int) = (↑x : Int) ∧ allAt (nd, wr, ()) a b (↑x : Int).toNat = allAt (nd, wr, ()) a b (↑x : Int).toNat ∧ (↑(allAt (nd, wr, ()) a b (↑x : Int).toNat).length : Int) = (↑(allAt (nd, wr, ()) a b (↑x : Int).toNat).length : Int) ∧ (↑x_1 : Int) = (↑x_1 : Int) ∧ allAt (nd, wr, ()) a b (↑x : Int).toNat = allAt (nd, wr, ()) a b (↑x : Int).toNat ∧ (↑(allAt (nd, wr, ()) a b (↑x : Int).toNat).length : Int) = (↑(allAt (nd, wr, ()) a b (↑x : Int).toNat).length : Int) ∧ (↑x_2 : Int) + (1 : Int) = (↑x_3 : Int) ∧ True) ∧ ((True ∧ True ∧ True) ∧ ((87 : Nat) = (87 : Nat) ∧ (syncU (nd, wr, ()) a b (↑x : Int).toNat).fst = (syncU (nd, wr, ()) a b (↑x : Int).toNat).fst) ∧ ((3 : Nat) = (3 : Nat) ∧ (syncU (nd, wr, ()) a b (↑x : Int).toNat).snd.fst = (syncU (nd, wr, ()) a b (↑x : Int).toNat).snd.fst) ∧ ((84 : Nat) = (84 : Nat) ∧ outU (allAt (nd, wr, ()) a b (↑x : Int).toNat) x_1 = outU (allAt (nd, wr, ()) a b (↑x : Int).toNat) x_1) ∧ ((84 : Nat) = (84 : Nat) ∧ (allAt (nd, wr, ()) a b (↑x : Int).toNat).getD (↑x_1 : Int).toNat va0 = (allAt (nd, wr, ()) a b (↑x : Int).toNat).getD (↑x_1 : Int).toNat va0) ∧ True) ∧ True ∧ a = a ∧ b = b ∧ True) ∧ ((!sawB ((allAt (nd, wr, ()) a b (↑x : Int).toNat).getD (↑x_1 : Int).toNat va0) ((allAt (nd, wr, ()) a b (↑x : Int).toNat).getD (↑x_2 : Int).toNat va0)) = false → inK IntKind.i64 ((↑x_2 : Int) + (1 : Int)) ∧ ∃ (x_3 : Nat), (x_3 ≤ (allAt (nd, wr, ()) a b (↑x : Int).toNat).length ∧ syncE (nd, wr, ()) a b = (0 : Int)) ∧ (10000 : Nat) - x_3 < (10000 : Nat) - x_2 ∧ (True ∧ a = a ∧ b = b ∧ (↑x : Int) = (↑x : Int) ∧ allAt (nd, wr, ()) a b (↑x : Int).toNat = allAt (nd, wr, ()) a b (↑x : Int).toNat ∧ True ∧ (↑x_1 : Int) = (↑x_1 : Int) ∧ ([] : List Nat) = [] ∧ decide ((↑x_2 : Int) < (↑x_1 : Int)) = oldU (allAt (nd, wr, ()) a b (↑x : Int).toNat) (↑x_1 : Int).toNat x_3 ∧ (↑x : Int) = (↑x : Int) ∧ allAt (nd, wr, ()) a b (↑x : Int).toNat = allAt (nd, wr, ()) a b (↑x : Int).toNat ∧ (↑(allAt (nd, wr, ()) a b (↑x : Int).toNat).length : Int) = (↑(allAt (nd, wr, ()) a b (↑x : Int).toNat).length : Int) ∧ (↑x_1 : Int) = (↑x_1 : Int) ∧ allAt (nd, wr, ()) a b (↑x : Int).toNat = allAt (nd, wr, ()) a b (↑x : Int).toNat ∧ (↑(allAt (nd, wr, ()) a b (↑x : Int).toNat).length : Int) = (↑(allAt (nd, wr, ()) a b (↑x : Int).toNat).length : Int) ∧ (↑x_2 : Int) + (1 : Int) = (↑x_3 : Int) ∧ True) ∧ ((True ∧ True ∧ True) ∧ ((87 : Nat) = (87 : Nat) ∧ (syncU (nd, wr, ()) a b (↑x : Int).toNat).fst = (syncU (nd, wr, ()) a b (↑x : Int).toNat).fst) ∧ ((3 : Nat) = (3 : Nat) ∧ (syncU (nd, wr, ()) a b (↑x : Int).toNat).snd.fst = (syncU (nd, wr, ()) a b (↑x : Int).toNat).snd.fst) ∧ ((84 : Nat) = (84 : Nat) ∧ outU (allAt (nd, wr, ()) a b (↑x : Int).toNat) x_1 = outU (allAt (nd, wr, ()) a b (↑x : Int).toNat) x_1) ∧ ((84 : Nat) = (84 : Nat) ∧ (allAt (nd, wr, ()) a b (↑x : Int).toNat).getD (↑x_1 : Int).toNat va0 = (allAt (nd, wr, ()) a b (↑x : Int).toNat).getD (↑x_1 : Int).toNat va0) ∧ True) ∧ True ∧ a = a ∧ b = b ∧ True)) ∧ (sawB ((allAt (nd, wr, ()) a b (↑x : Int).toNat).getD (↑x_2 : Int).toNat va0) ((allAt (nd, wr, ()) a b (↑x : Int).toNat).getD (↑x_1 : Int).toNat va0) = false → inK IntKind.i64 ((↑x_2 : Int) + (1 : Int)) ∧ ∃ (x_3 : Nat), (x_3 ≤ (allAt (nd, wr, ()) a b (↑x : Int).toNat).length ∧ syncE (nd, wr, ()) a b = (0 : Int)) ∧ (10000 : Nat) - x_3 < (10000 : Nat) - x_2 ∧ (True ∧ a = a ∧ b = b ∧ (↑x : Int) = (↑x : Int) ∧ allAt (nd, wr, ()) a b (↑x : Int).toNat = allAt (nd, wr, ()) a b (↑x : Int).toNat ∧ True ∧ (↑x_1 : Int) = (↑x_1 : Int) ∧ ([] : List Nat) = [] ∧ false = oldU (allAt (nd, wr, ()) a b (↑x : Int).toNat) (↑x_1 : Int).toNat x_3 ∧ (↑x : Int) = (↑x : Int) ∧ allAt (nd, wr, ()) a b (↑x : Int).toNat = allAt (nd, wr, ()) a b (↑x : Int).toNat ∧ (↑(allAt (nd, wr, ()) a b (↑x : Int).toNat).length : Int) = (↑(allAt (nd, wr, ()) a b (↑x : Int).toNat).length : Int) ∧ (↑x_1 : Int) = (↑x_1 : Int) ∧ allAt (nd, wr, ()) a b (↑x : Int).toNat = allAt (nd, wr, ()) a b (↑x : Int).toNat ∧ (↑(allAt (nd, wr, ()) a b (↑x : Int).toNat).length : Int) = (↑(allAt (nd, wr, ()) a b (↑x : Int).toNat).length : Int) ∧ (↑x_2 : Int) + (1 : Int) = (↑x_3 : Int) ∧ True) ∧ ((True ∧ True ∧ True) ∧ ((87 : Nat) = (87 : Nat) ∧ (syncU (nd, wr, ()) a b (↑x : Int).toNat).fst = (syncU (nd, wr, ()) a b (↑x : Int).toNat).fst) ∧ ((3 : Nat) = (3 : Nat) ∧ (syncU (nd, wr, ()) a b (↑x : Int).toNat).snd.fst = (syncU (nd, wr, ()) a b (↑x : Int).toNat).snd.fst) ∧ ((84 : Nat) = (84 : Nat) ∧ outU (allAt (nd, wr, ()) a b (↑x : Int).toNat) x_1 = outU (allAt (nd, wr, ()) a b (↑x : Int).toNat) x_1) ∧ ((84 : Nat) = (84 : Nat) ∧ (allAt (nd, wr, ()) a b (↑x : Int).toNat).getD (↑x_1 : Int).toNat va0 = (allAt (nd, wr, ()) a b (↑x : Int).toNat).getD (↑x_1 : Int).toNat va0) ∧ True) ∧ True ∧ a = a ∧ b = b ∧ True))) ∧ (decide ((↑x_2 : Int) < (↑(allAt (nd, wr, ()) a b (↑x : Int).toNat).length : Int)) = false → ((!oldU (allAt (nd, wr, ()) a b (↑x : Int).toNat) (↑x_1 : Int).toNat x_2) = true → (outU (allAt (nd, wr, ()) a b (↑x : Int).toNat) x_1).length + ((List.replicate (1 : Nat) va0).set (0 : Nat) ((allAt (nd, wr, ()) a b (↑x : Int).toNat).getD (↑x_1 : Int).toNat va0)).length ≤ (1000000000 : Nat) ∧ inK IntKind.i64 ((↑x_1 : Int) + (1 : Int)) ∧ ∃ (x_3 : Nat), (x_3 ≤ (allAt (nd, wr, ()) a b (↑x : Int).toNat).length ∧ syncE (nd, wr, ()) a b = (0 : Int)) ∧ (10000 : Nat) - x_3 < (10000 : Nat) - x_1 ∧ (True ∧ a = a ∧ b = b ∧ (↑x : Int) = (↑x : Int) ∧ allAt (nd, wr, ()) a b (↑x : Int).toNat = allAt (nd, wr, ()) a b (↑x : Int).toNat ∧ True ∧ (↑x : Int) = (↑x : Int) ∧ allAt (nd, wr, ()) a b (↑x : Int).toNat = allAt (nd, wr, ()) a b (↑x : Int).toNat ∧ (↑(allAt (nd, wr, ()) a b (↑x : Int).toNat).length : Int) = (↑(allAt (nd, wr, ()) a b (↑x : Int).toNat).length : Int) ∧ (↑x_1 : Int) + (1 : Int) = (↑x_3 : Int) ∧ True) ∧ ((True ∧ True ∧ True) ∧ ((87 : Nat) = (87 : Nat) ∧ (syncU (nd, wr, ()) a b (↑x : Int).toNat).fst = (syncU (nd, wr, ()) a b (↑x : Int).toNat).fst) ∧ ((3 : Nat) = (3 : Nat) ∧ (syncU (nd, wr, ()) a b (↑x : Int).toNat).snd.fst = (syncU (nd, wr, ()) a b (↑x : Int).toNat).snd.fst) ∧ ((84 : Nat) = (84 : Nat) ∧ (outU (allAt (nd, wr, ()) a b (↑x : Int).toNat) x_1).append ((List.replicate (1 : Nat) va0).set (0 : Nat) ((allAt (nd, wr, ()) a b (↑x : Int).toNat).getD (↑x_1 : Int).toNat va0)) = outU (allAt (nd, wr, ()) a b (↑x : Int).toNat) x_3) ∧ True) ∧ True ∧ a = a ∧ b = b ∧ True) ∧ ((!oldU (allAt (nd, wr, ()) a b (↑x : Int).toNat) (↑x_1 : Int).toNat x_2) = false → inK IntKind.i64 ((↑x_1 : Int) + (1 : Int)) ∧ ∃ (x_3 : Nat), (x_3 ≤ (allAt (nd, wr, ()) a b (↑x : Int).toNat).length ∧ syncE (nd, wr, ()) a b = (0 : Int)) ∧ (10000 : Nat) - x_3 < (10000 : Nat) - x_1 ∧ (True ∧ a = a ∧ b = b ∧ (↑x : Int) = (↑x : Int) ∧ allAt (nd, wr, ()) a b (↑x : Int).toNat = allAt (nd, wr, ()) a b (↑x : Int).toNat ∧ True ∧ (↑x : Int) = (↑x : Int) ∧ allAt (nd, wr, ()) a b (↑x : Int).toNat = allAt (nd, wr, ()) a b (↑x : Int).toNat ∧ (↑(allAt (nd, wr, ()) a b (↑x : Int).toNat).length : Int) = (↑(allAt (nd, wr, ()) a b (↑x : Int).toNat).length : Int) ∧ (↑x_1 : Int) + (1 : Int) = (↑x_3 : Int) ∧ True) ∧ ((True ∧ True ∧ True) ∧ ((87 : Nat) = (87 : Nat) ∧ (syncU (nd, wr, ()) a b (↑x : Int).toNat).fst = (syncU (nd, wr, ()) a b (↑x : Int).toNat).fst) ∧ ((3 : Nat) = (3 : Nat) ∧ (syncU (nd, wr, ()) a b (↑x : Int).toNat).snd.fst = (syncU (nd, wr, ()) a b (↑x : Int).toNat).snd.fst) ∧ ((84 : Nat) = (84 : Nat) ∧ outU (allAt (nd, wr, ()) a b (↑x : Int).toNat) x_1 = outU (allAt (nd, wr, ()) a b (↑x : Int).toNat) x_3) ∧ True) ∧ True ∧ a = a ∧ b = b ∧ True))) ∧ (decide ((↑x_1 : Int) < (↑(allAt (nd, wr, ()) a b (↑x : Int).toNat).length : Int)) = false → (outU (allAt (nd, wr, ()) a b (↑x : Int).toNat) x_1).length ≤ (1000000000 : Nat) ∧ ∀ (ys : List Va), srtPV (outU (allAt (nd, wr, ()) a b (↑x : Int).toNat) x_1) ys → (0 : Int) ≤ b ∧ b < (↑(syncU (nd, wr, ()) a b (↑x : Int).toNat).fst.length : Int) ∧ (0 : Int) ≤ (↑x : Int) ∧ (↑x : Int) < (↑(4 : Nat) : Int) ∧ inK IntKind.i64 ((↑x : Int) + (1 : Int)) ∧ ∃ (x_2 : Nat), (x_2 ≤ (4 : Nat) ∧ syncE (nd, wr, ()) a b = (0 : Int)) ∧ (4 : Nat) - x_2 < (4 : Nat) - x ∧ (True ∧ a = a ∧ b = b ∧ (↑x : Int) + (1 : Int) = (↑x_2 : Int) ∧ True) ∧ ((True ∧ True ∧ True) ∧ ((87 : Nat) = (87 : Nat) ∧ (syncU (nd, wr, ()) a b (↑x : Int).toNat).fst.set b.toNat (((syncU (nd, wr, ()) a b (↑x : Int).toNat).fst.getD b.toNat (List.replicate (4 : Nat) [])).set (↑x : Int).toNat ys) = (syncU (nd, wr, ()) a b x_2).fst) ∧ ((3 : Nat) = (3 : Nat) ∧ (syncU (nd, wr, ()) a b (↑x : Int).toNat).snd.fst = (syncU (nd, wr, ()) a b x_2).snd.fst) ∧ True) ∧ True ∧ a = a ∧ b = b ∧ True)) ∧ (decide ((↑x : Int) < (4 : Int)) = false → k (SV.d (Ty.err (69 : Nat)) (0 : Int)) [Ob.st (82 : Nat) [SV.os (1 : Nat), SV.os (2 : Nat)], Ob.row (87 : Nat) (Ty.ar (4 : Nat) (tV).sl) (syncU (nd, wr, ()) a b x).fst, Ob.row (3 : Nat) (I) (syncU (nd, wr, ()) a b x).snd.fst]))))) := by kernel_rfl
end Go.Proofs.YtgcliogognkdkaaDoor

/- What the functions of this seat have to satisfy, by program: each verification condition in plain words. -/
namespace Go.Proofs.YtgcliogognkdkaaDoor
open Go.Vc
set_option linter.unusedVariables false
theorem vcSaw (v w : Va) (k : List Dat → Prop) : vcF ⟨Eg, [], [], [], []⟩ (anSaw v w) (Tryd.f50.body.getD .skip) Tryd.f50.ntmps [(.tmp 4, .bool)] [⟨tV, v⟩, ⟨tV, w⟩] k = (
  (∃ (x : Nat), (x ≤ v.fst.length ∧ sawF v.fst w.fst x = true) ∧ (([] : List Nat) = [] ∧ ([] : List Nat) = [] ∧ (↑(List.length v.fst) : Int) = (↑(List.length v.fst) : Int) ∧ (0 : Int) = (↑x : Int) ∧ True) ∧ (((84 : Nat) = (84 : Nat) ∧ v = v) ∧ ((84 : Nat) = (84 : Nat) ∧ w = w) ∧ True) ∧ True) ∧ ∀ (x : Nat), x ≤ v.fst.length ∧ sawF v.fst w.fst x = true → (decide ((↑x : Int) < (↑(List.length v.fst) : Int)) = true → ((0 : Int) ≤ (↑x : Int) ∧ (↑x : Int) < (↑(List.length w.fst) : Int) ∧ (0 : Int) ≤ (↑x : Int) ∧ (↑x : Int) < (↑(List.length v.fst) : Int) ∧ True) ∧ (decide (List.getD v.fst (↑x : Int).toNat (0 : Int) < List.getD w.fst (↑x : Int).toNat (0 : Int)) = true → k [Dat.mk Ty.bool false]) ∧ (decide (List.getD v.fst (↑x : Int).toNat (0 : Int) < List.getD w.fst (↑x : Int).toNat (0 : Int)) = false → inK IntKind.i64 ((↑x : Int) + (1 : Int)) ∧ ∃ (x_1 : Nat), (x_1 ≤ v.fst.length ∧ sawF v.fst w.fst x_1 = true) ∧ v.fst.length - x_1 < v.fst.length - x ∧ (([] : List Nat) = [] ∧ ([] : List Nat) = [] ∧ (↑(List.length v.fst) : Int) = (↑(List.length v.fst) : Int) ∧ (↑x : Int) + (1 : Int) = (↑x_1 : Int) ∧ True) ∧ (((84 : Nat) = (84 : Nat) ∧ v = v) ∧ ((84 : Nat) = (84 : Nat) ∧ w = w) ∧ True) ∧ True)) ∧ (decide ((↑x : Int) < (↑(List.length v.fst) : Int)) = false → k [Dat.mk Ty.bool true])) := by kernel_rfl
theorem vcIs (t : Net) (a b : Int) (k : List Dat → Prop) : vcF ⟨Eg, [(33, cWithin)], [], [], []⟩ [joinAll] (Tryd.f47.body.getD .skip) Tryd.f47.ntmps [(.tmp 6, .bool)] [⟨.ptr tNet, some t⟩, ⟨I, a⟩, ⟨I, b⟩] k = (
  inK IntKind.i64 ((↑(List.length t.fst) : Int) - (1 : Int)) ∧ True ∧ (inB a (0 : Int) ((↑(List.length t.fst) : Int) - (1 : Int)) = true → True ∧ k [Dat.mk Ty.bool (inB b (0 : Int) (3 : Int))]) ∧ (inB a (0 : Int) ((↑(List.length t.fst) : Int) - (1 : Int)) = false → k [Dat.mk Ty.bool false])) := by kernel_rfl
theorem vcLex (a b : List Int) (k : List Dat → Prop) : vcF ⟨Eg, [(54, cCmp)], [], [], []⟩ (anLex a b) (Tryd.f53.body.getD .skip) Tryd.f53.ntmps [(.tmp 6, I)] [⟨.sl I, a⟩, ⟨.sl I, b⟩, ⟨.fn 54 .un, some ()⟩] k = (
  (∃ (x : Nat), (lexI a b = lexF a b (a.length - x) x ∧ x ≤ a.length) ∧ (a = a ∧ b = b ∧ some () = some () ∧ a = a ∧ (↑a.length : Int) = (↑a.length : Int) ∧ (0 : Int) = (↑x : Int) ∧ True) ∧ True ∧ True) ∧ ∀ (x : Nat), lexI a b = lexF a b (a.length - x) x ∧ x ≤ a.length → (decide ((↑x : Int) < (↑a.length : Int)) = true → (0 : Int) ≤ (↑x : Int) ∧ (↑x : Int) < (↑a.length : Int) ∧ (decide ((↑b.length : Int) ≤ (↑x : Int)) = true → k [Dat.mk (I) (1 : Int)]) ∧ (decide ((↑b.length : Int) ≤ (↑x : Int)) = false → (0 : Int) ≤ (↑x : Int) ∧ (↑x : Int) < (↑b.length : Int) ∧ True ∧ ((!decide (cmpI (a.getD (↑x : Int).toNat (0 : Int)) (b.getD (↑x : Int).toNat (0 : Int)) = (0 : Int))) = true → k [Dat.mk (I) (cmpI (a.getD (↑x : Int).toNat (0 : Int)) (b.getD (↑x : Int).toNat (0 : Int)))]) ∧ ((!decide (cmpI (a.getD (↑x : Int).toNat (0 : Int)) (b.getD (↑x : Int).toNat (0 : Int)) = (0 : Int))) = false → inK IntKind.i64 ((↑x : Int) + (1 : Int)) ∧ ∃ (x_1 : Nat), (lexI a b = lexF a b (a.length - x_1) x_1 ∧ x_1 ≤ a.length) ∧ a.length - x_1 < a.length - x ∧ (a = a ∧ b = b ∧ some () = some () ∧ a = a ∧ (↑a.length : Int) = (↑a.length : Int) ∧ (↑x : Int) + (1 : Int) = (↑x_1 : Int) ∧ True) ∧ True ∧ True))) ∧ (decide ((↑x : Int) < (↑a.length : Int)) = false → (decide ((↑a.length : Int) < (↑b.length : Int)) = true → k [Dat.mk (I) (-1 : Int)]) ∧ (decide ((↑a.length : Int) < (↑b.length : Int)) = false → k [Dat.mk (I) (0 : Int)]))) := by kernel_rfl
theorem vcLexV (v w : Va) (k : List Dat → Prop) : vcF ⟨Eg, [(53, cLex)], [], [], []⟩ [] (Tryd.f52.body.getD .skip) Tryd.f52.ntmps [(.tmp 4, I)] [⟨tV, v⟩, ⟨tV, w⟩] k = (
  (some ()).isSome = true ∧ k [Dat.mk (I) (lexI v.fst w.fst)]) := by kernel_rfl
theorem vcValues (a b : List Va) (k : List Dat → Prop) : vcF ⟨Eg, [(9, cInts)], [], [], []⟩ (anValues a b) (Tryd.f29.body.getD .skip) Tryd.f29.ntmps [(.tmp 4, .bool)] [⟨.sl tV, a⟩, ⟨.sl tV, b⟩] k = (
  ((!decide ((↑a.length : Int) = (↑b.length : Int))) = true → k [Dat.mk Ty.bool false]) ∧ ((!decide ((↑a.length : Int) = (↑b.length : Int))) = false → (∃ (x : Nat), (x ≤ a.length ∧ a.length = b.length ∧ List.take x a = List.take x b) ∧ (a = a ∧ b = b ∧ (0 : Int) = (↑x : Int) ∧ True) ∧ True ∧ True) ∧ ∀ (x : Nat), x ≤ a.length ∧ a.length = b.length ∧ List.take x a = List.take x b → (decide ((↑x : Int) < (↑a.length : Int)) = true → ((0 : Int) ≤ (↑x : Int) ∧ (↑x : Int) < (↑a.length : Int) ∧ (0 : Int) ≤ (↑x : Int) ∧ (↑x : Int) < (↑b.length : Int) ∧ ((!decide ((a.getD (↑x : Int).toNat va0).snd.fst = (b.getD (↑x : Int).toNat va0).snd.fst)) = true → True) ∧ ((!decide ((a.getD (↑x : Int).toNat va0).snd.fst = (b.getD (↑x : Int).toNat va0).snd.fst)) = false → (0 : Int) ≤ (↑x : Int) ∧ (↑x : Int) < (↑a.length : Int) ∧ (0 : Int) ≤ (↑x : Int) ∧ (↑x : Int) < (↑b.length : Int) ∧ True ∧ True)) ∧ ((!decide ((a.getD (↑x : Int).toNat va0).snd.fst = (b.getD (↑x : Int).toNat va0).snd.fst) || !decide ((a.getD (↑x : Int).toNat va0).fst = (b.getD (↑x : Int).toNat va0).fst)) = true → k [Dat.mk Ty.bool false]) ∧ ((!decide ((a.getD (↑x : Int).toNat va0).snd.fst = (b.getD (↑x : Int).toNat va0).snd.fst) || !decide ((a.getD (↑x : Int).toNat va0).fst = (b.getD (↑x : Int).toNat va0).fst)) = false → inK IntKind.i64 ((↑x : Int) + (1 : Int)) ∧ ∃ (x_1 : Nat), (x_1 ≤ a.length ∧ a.length = b.length ∧ List.take x_1 a = List.take x_1 b) ∧ a.length - x_1 < a.length - x ∧ (a = a ∧ b = b ∧ (↑x : Int) + (1 : Int) = (↑x_1 : Int) ∧ True) ∧ True ∧ True)) ∧ (decide ((↑x : Int) < (↑a.length : Int)) = false → k [Dat.mk Ty.bool true]))) := by kernel_rfl
theorem vcRead (t : Net) (a b : Int) (k : List Dat → Prop) : vcF ⟨Eg, [(34, cCloneI), (47, cIs)], [], [], []⟩ (anRead t a b) (Tryd.f30.body.getD .skip) Tryd.f30.ntmps [(.tmp 6, .sl tV)] [⟨.ptr tNet, some t⟩, ⟨I, a⟩, ⟨I, b⟩] k = (
  ((!inNet t a b) = true → k [Dat.mk (tV).sl []]) ∧ ((!inNet t a b) = false → (0 : Int) ≤ a ∧ a < (↑(List.length t.fst) : Int) ∧ (0 : Int) ≤ b ∧ b < (↑(4 : Nat) : Int) ∧ (∃ (x : Nat), (x ≤ (valsAt t a b).length ∧ inNet t a b = true) ∧ (True ∧ (List.getD t.fst a.toNat (List.replicate (4 : Nat) [])).getD b.toNat [] = (List.getD t.fst a.toNat (List.replicate (4 : Nat) [])).getD b.toNat [] ∧ (↑((List.getD t.fst a.toNat (List.replicate (4 : Nat) [])).getD b.toNat []).length : Int) = (↑((List.getD t.fst a.toNat (List.replicate (4 : Nat) [])).getD b.toNat []).length : Int) ∧ (0 : Int) = (↑x : Int) ∧ True) ∧ (((84 : Nat) = (84 : Nat) ∧ [] = List.take x (valsAt t a b)) ∧ True) ∧ True) ∧ ∀ (x : Nat), x ≤ (valsAt t a b).length ∧ inNet t a b = true → (decide ((↑x : Int) < (↑((List.getD t.fst a.toNat (List.replicate (4 : Nat) [])).getD b.toNat []).length : Int)) = true → (0 : Int) ≤ (↑x : Int) ∧ (↑x : Int) < (↑((List.getD t.fst a.toNat (List.replicate (4 : Nat) [])).getD b.toNat []).length : Int) ∧ ((List.length (((List.getD t.fst a.toNat (List.replicate (4 : Nat) [])).getD b.toNat []).getD (↑x : Int).toNat va0).fst ≤ (1000000000 : Nat) ∧ True) ∧ True) ∧ (List.take x (valsAt t a b)).length + ((List.replicate (1 : Nat) va0).set (0 : Nat) ((((List.getD t.fst a.toNat (List.replicate (4 : Nat) [])).getD b.toNat []).getD (↑x : Int).toNat va0).fst, (((List.getD t.fst a.toNat (List.replicate (4 : Nat) [])).getD b.toNat []).getD (↑x : Int).toNat va0).snd.fst, ())).length ≤ (1000000000 : Nat) ∧ inK IntKind.i64 ((↑x : Int) + (1 : Int)) ∧ ∃ (x_1 : Nat), (x_1 ≤ (valsAt t a b).length ∧ inNet t a b = true) ∧ (valsAt t a b).length - x_1 < (valsAt t a b).length - x ∧ (True ∧ (List.getD t.fst a.toNat (List.replicate (4 : Nat) [])).getD b.toNat [] = (List.getD t.fst a.toNat (List.replicate (4 : Nat) [])).getD b.toNat [] ∧ (↑((List.getD t.fst a.toNat (List.replicate (4 : Nat) [])).getD b.toNat []).length : Int) = (↑((List.getD t.fst a.toNat (List.replicate (4 : Nat) [])).getD b.toNat []).length : Int) ∧ (↑x : Int) + (1 : Int) = (↑x_1 : Int) ∧ True) ∧ (((84 : Nat) = (84 : Nat) ∧ (List.take x (valsAt t a b)).append ((List.replicate (1 : Nat) va0).set (0 : Nat) ((((List.getD t.fst a.toNat (List.replicate (4 : Nat) [])).getD b.toNat []).getD (↑x : Int).toNat va0).fst, (((List.getD t.fst a.toNat (List.replicate (4 : Nat) [])).getD b.toNat []).getD (↑x : Int).toNat va0).snd.fst, ())) = List.take x_1 (valsAt t a b)) ∧ True) ∧ True) ∧ (decide ((↑x : Int) < (↑((List.getD t.fst a.toNat (List.replicate (4 : Nat) [])).getD b.toNat []).length : Int)) = false → k [Dat.mk (tV).sl (List.take x (valsAt t a b))]))) := by kernel_rfl
theorem vcGrowV (n : Int) (k : SV → List Ob → Prop) : vcO ⟨Eg, [], [], [], []⟩ [joinAll] (Tryd.f64.body.getD .skip) Tryd.f64.ntmps [(.tmp 4, .un)] [.nils, .d I n] [] k = (
  (decide (n < (0 : Int)) = true → False) ∧ (decide (n < (0 : Int)) = false → inK IntKind.i64 ((0 : Int) - (0 : Int)) ∧ inK IntKind.i64 (n - ((0 : Int) - (0 : Int))) ∧ (decide ((0 : Int) < n - ((0 : Int) - (0 : Int))) = true → (0 : Int) = (0 : Int) ∧ ((0 : Int) < n - ((0 : Int) - (0 : Int)) ∧ n - ((0 : Int) - (0 : Int)) ≤ (1000000000 : Int)) ∧ ((0 : Int) ≤ (0 : Int) ∧ (0 : Int) ≤ (↑(List.replicate (n - ((0 : Int) - (0 : Int))).toNat va0).length : Int)) ∧ k (SV.os (0 : Nat)) [Ob.row (84 : Nat) (tV) (List.take (Int.toNat (0 : Int)) (List.replicate (n - ((0 : Int) - (0 : Int))).toNat va0))]) ∧ (decide ((0 : Int) < n - ((0 : Int) - (0 : Int))) = false → k SV.nils []))) := by kernel_rfl
theorem vcConcatV (ls : List (List Va)) (k : List Dat → Prop) : vcF ⟨Eg, [], [], [], [(64, oGrowV)]⟩ (anConcatV ls) (Tryd.f49.body.getD .skip) Tryd.f49.ntmps [(.tmp 2, .sl tV)] [⟨.sl (.sl tV), ls⟩] k = (
  (∃ (x : Nat), (x ≤ ls.length ∧ True) ∧ (ls = ls ∧ (0 : Int) = (↑(sumV ls x) : Int) ∧ ls = ls ∧ (↑ls.length : Int) = (↑ls.length : Int) ∧ (0 : Int) = (↑x : Int) ∧ True) ∧ True ∧ True) ∧ ∀ (x : Nat), x ≤ ls.length ∧ True → (decide ((↑x : Int) < (↑ls.length : Int)) = true → (0 : Int) ≤ (↑x : Int) ∧ (↑x : Int) < (↑ls.length : Int) ∧ inK IntKind.i64 ((↑(sumV ls x) : Int) + (↑(ls.getD (↑x : Int).toNat []).length : Int)) ∧ (decide ((↑(sumV ls x) : Int) + (↑(ls.getD (↑x : Int).toNat []).length : Int) < (0 : Int)) = true → False) ∧ (decide ((↑(sumV ls x) : Int) + (↑(ls.getD (↑x : Int).toNat []).length : Int) < (0 : Int)) = false → inK IntKind.i64 ((↑x : Int) + (1 : Int)) ∧ ∃ (x_1 : Nat), (x_1 ≤ ls.length ∧ True) ∧ ls.length - x_1 < ls.length - x ∧ (ls = ls ∧ (↑(sumV ls x) : Int) + (↑(ls.getD (↑x : Int).toNat []).length : Int) = (↑(sumV ls x_1) : Int) ∧ ls = ls ∧ (↑ls.length : Int) = (↑ls.length : Int) ∧ (↑x : Int) + (1 : Int) = (↑x_1 : Int) ∧ True) ∧ True ∧ True)) ∧ (decide ((↑x : Int) < (↑ls.length : Int)) = false → ((0 : Int) ≤ (↑(sumV ls x) : Int) ∧ (↑(sumV ls x) : Int) ≤ (1000000000 : Int)) ∧ (∃ (x : Nat), (x ≤ ls.length ∧ True) ∧ (True ∧ ls = ls ∧ (↑ls.length : Int) = (↑ls.length : Int) ∧ (0 : Int) = (↑x : Int) ∧ True) ∧ (((84 : Nat) = (84 : Nat) ∧ [] = (List.take x ls).flatten) ∧ True) ∧ True) ∧ ∀ (x : Nat), x ≤ ls.length ∧ True → (decide ((↑x : Int) < (↑ls.length : Int)) = true → (0 : Int) ≤ (↑x : Int) ∧ (↑x : Int) < (↑ls.length : Int) ∧ (List.take x ls).flatten.length + (ls.getD (↑x : Int).toNat []).length ≤ (1000000000 : Nat) ∧ inK IntKind.i64 ((↑x : Int) + (1 : Int)) ∧ ∃ (x_1 : Nat), (x_1 ≤ ls.length ∧ True) ∧ ls.length - x_1 < ls.length - x ∧ (True ∧ ls = ls ∧ (↑ls.length : Int) = (↑ls.length : Int) ∧ (↑x : Int) + (1 : Int) = (↑x_1 : Int) ∧ True) ∧ (((84 : Nat) = (84 : Nat) ∧ (List.take x ls).flatten.append (ls.getD (↑x : Int).toNat []) = (List.take x_1 ls).flatten) ∧ True) ∧ True) ∧ (decide ((↑x : Int) < (↑ls.length : Int)) = false → k [Dat.mk (tV).sl (List.take x ls).flatten]))) := by kernel_rfl
theorem vcNew (n : Int) (k : SV → List Ob → Prop) : vcO ⟨Eg, [(33, cWithin)], [], [], []⟩ [joinAll] (Tryd.f23.body.getD .skip) Tryd.f23.ntmps [(.tmp 2, .un), (.tmp 3, tErr)] [.d I n] [] k = (
  True ∧ ((!inB n (1 : Int) (5 : Int)) = true → (1 : Int) ≠ (0 : Int) ∧ k (SV.tp [SV.nilp, SV.d (Ty.err (69 : Nat)) (1 : Int)]) []) ∧ ((!inB n (1 : Int) (5 : Int)) = false → True ∧ ((0 : Int) ≤ n ∧ n ≤ n ∧ n ≤ (1000000000 : Int) ∧ True ∧ ((0 : Int) ≤ n ∧ n ≤ n ∧ n ≤ (1000000000 : Int) ∧ True ∧ k (SV.tp [SV.ps (0 : Nat), SV.d (Ty.err (69 : Nat)) (0 : Int)]) [Ob.st (82 : Nat) [SV.os (1 : Nat), SV.os (2 : Nat)], Ob.row (87 : Nat) (Ty.ar (4 : Nat) (tV).sl) (List.replicate n.toNat (List.replicate (4 : Nat) [])), Ob.row (3 : Nat) (I) (List.replicate n.toNat (0 : Int))]) ∧ True) ∧ ((0 : Int) ≤ n ∧ n ≤ n ∧ n ≤ (1000000000 : Int) ∧ True ∧ ((0 : Int) ≤ n ∧ n ≤ n ∧ n ≤ (1000000000 : Int) ∧ True ∧ k (SV.tp [SV.ps (0 : Nat), SV.d (Ty.err (69 : Nat)) (0 : Int)]) [Ob.st (82 : Nat) [SV.os (1 : Nat), SV.os (2 : Nat)], Ob.row (87 : Nat) (Ty.ar (4 : Nat) (tV).sl) (List.replicate n.toNat (List.replicate (4 : Nat) [])), Ob.row (3 : Nat) (I) (List.replicate n.toNat (0 : Int))]) ∧ True) ∧ True)) := by kernel_rfl
end Go.Proofs.YtgcliogognkdkaaDoor

/- What the functions of this seat have to satisfy, by program: each verification condition in plain words. -/
namespace Go.Proofs.YtgcliogognkdkaaDoor
open Go.Vc
set_option linter.unusedVariables false
theorem vcWithin (a b c : Int) (k : List Dat → Prop) : vcF ⟨Eb, [], [], [], []⟩ [joinAll] (Tryd.f33.body.getD .skip) Tryd.f33.ntmps [(.tmp 6, .bool)] [⟨I, a⟩, ⟨I, b⟩, ⟨I, c⟩] k = (
  (decide (b ≤ a) = true → k [Dat.mk Ty.bool (decide (a ≤ c))]) ∧ (decide (b ≤ a) = false → k [Dat.mk Ty.bool false])) := by kernel_rfl
theorem vcNaN (a : Int) (k : List Dat → Prop) : vcF ⟨Eb, [], [], [], []⟩ [] (Tryd.f67.body.getD .skip) Tryd.f67.ntmps [(.tmp 2, .bool)] [⟨I, a⟩] k = (
  k [Dat.mk Ty.bool !decide (a = a)]) := by kernel_rfl
theorem vcCmp (a b : Int) (k : List Dat → Prop) : vcF ⟨Eb, [(67, cNaN)], [], [], []⟩ [joinAll] (Tryd.f54.body.getD .skip) Tryd.f54.ntmps [(.tmp 4, I)] [⟨I, a⟩, ⟨I, b⟩] k = (
  True ∧ True ∧ (false = true → (false = true → k [Dat.mk (I) (0 : Int)]) ∧ (false = false → k [Dat.mk (I) (-1 : Int)])) ∧ (false = false → (false = true → k [Dat.mk (I) (1 : Int)]) ∧ (false = false → (decide (a < b) = true → k [Dat.mk (I) (-1 : Int)]) ∧ (decide (a < b) = false → (decide (b < a) = true → k [Dat.mk (I) (1 : Int)]) ∧ (decide (b < a) = false → k [Dat.mk (I) (0 : Int)]))))) := by kernel_rfl
theorem vcOr (l : List Int) (k : List Dat → Prop) : vcF ⟨Eb, [], [], [], []⟩ (anOr l) (Tryd.f72.body.getD .skip) Tryd.f72.ntmps [(.tmp 2, I)] [⟨.sl I, l⟩] k = (
  (∃ (x : Nat), (x ≤ l.length ∧ orI l = orI (List.drop x l)) ∧ ((0 : Int) = (0 : Int) ∧ l = l ∧ (↑l.length : Int) = (↑l.length : Int) ∧ (0 : Int) = (↑x : Int) ∧ True) ∧ True ∧ True) ∧ ∀ (x : Nat), x ≤ l.length ∧ orI l = orI (List.drop x l) → (decide ((↑x : Int) < (↑l.length : Int)) = true → (0 : Int) ≤ (↑x : Int) ∧ (↑x : Int) < (↑l.length : Int) ∧ ((!decide (l.getD (↑x : Int).toNat (0 : Int) = (0 : Int))) = true → k [Dat.mk (I) (l.getD (↑x : Int).toNat (0 : Int))]) ∧ ((!decide (l.getD (↑x : Int).toNat (0 : Int) = (0 : Int))) = false → inK IntKind.i64 ((↑x : Int) + (1 : Int)) ∧ ∃ (x_1 : Nat), (x_1 ≤ l.length ∧ orI l = orI (List.drop x_1 l)) ∧ l.length - x_1 < l.length - x ∧ ((0 : Int) = (0 : Int) ∧ l = l ∧ (↑l.length : Int) = (↑l.length : Int) ∧ (↑x : Int) + (1 : Int) = (↑x_1 : Int) ∧ True) ∧ True ∧ True)) ∧ (decide ((↑x : Int) < (↑l.length : Int)) = false → k [Dat.mk (I) (0 : Int)])) := by kernel_rfl
theorem vcByTag (a b : Tag) (k : List Dat → Prop) : vcF ⟨Eb, [(54, cCmp), (72, cOr)], [], [], []⟩ [joinAll] (Tryd.f56.body.getD .skip) Tryd.f56.ntmps [(.tmp 4, I)] [⟨tT, a⟩, ⟨tT, b⟩] k = (
  (True ∧ True ∧ True ∧ True ∧ True) ∧ k [Dat.mk (I) (orI ((((List.replicate (3 : Nat) (0 : Int)).set (0 : Nat) (cmpI a.fst b.fst)).set (1 : Nat) (cmpI a.snd.fst b.snd.fst)).set (2 : Nat) (cmpI a.snd.snd.fst b.snd.snd.fst)))]) := by kernel_rfl
theorem vcTags (l : List Tag) (k : List Dat → Prop) : vcF ⟨Eb, [(33, cWithin), (56, cByTag)], [], [], []⟩ (anTags l) (Tryd.f37.body.getD .skip) Tryd.f37.ntmps [(.tmp 2, tErr)] [⟨.sl tT, l⟩] k = (
  (decide ((24 : Int) < (↑l.length : Int)) = true → (4 : Int) ≠ (0 : Int) ∧ k [Dat.mk (Ty.err (69 : Nat)) (4 : Int)]) ∧ (decide ((24 : Int) < (↑l.length : Int)) = false → (∃ (x : Nat), (tagsE l = tagsF l (l.length - x) x ∧ x ≤ l.length) ∧ (l = l ∧ l = l ∧ (↑l.length : Int) = (↑l.length : Int) ∧ (0 : Int) = (↑x : Int) ∧ True) ∧ True ∧ True) ∧ ∀ (x : Nat), tagsE l = tagsF l (l.length - x) x ∧ x ≤ l.length → (decide ((↑x : Int) < (↑l.length : Int)) = true → (0 : Int) ≤ (↑x : Int) ∧ (↑x : Int) < (↑l.length : Int) ∧ True ∧ ((!inB (l.getD (↑x : Int).toNat ((0 : Int), (0 : Int), (0 : Int), ())).fst (0 : Int) (9 : Int)) = true → (1 : Int) ≠ (0 : Int) ∧ k [Dat.mk (Ty.err (69 : Nat)) (1 : Int)]) ∧ ((!inB (l.getD (↑x : Int).toNat ((0 : Int), (0 : Int), (0 : Int), ())).fst (0 : Int) (9 : Int)) = false → True ∧ ((!inB (l.getD (↑x : Int).toNat ((0 : Int), (0 : Int), (0 : Int), ())).snd.fst (0 : Int) (4 : Int)) = true → (1 : Int) ≠ (0 : Int) ∧ k [Dat.mk (Ty.err (69 : Nat)) (1 : Int)]) ∧ ((!inB (l.getD (↑x : Int).toNat ((0 : Int), (0 : Int), (0 : Int), ())).snd.fst (0 : Int) (4 : Int)) = false → True ∧ ((!inB (l.getD (↑x : Int).toNat ((0 : Int), (0 : Int), (0 : Int), ())).snd.snd.fst (1 : Int) (1000000 : Int)) = true → (1 : Int) ≠ (0 : Int) ∧ k [Dat.mk (Ty.err (69 : Nat)) (1 : Int)]) ∧ ((!inB (l.getD (↑x : Int).toNat ((0 : Int), (0 : Int), (0 : Int), ())).snd.snd.fst (1 : Int) (1000000 : Int)) = false → ((decide ((0 : Int) < (↑x : Int)) = true → inK IntKind.i64 ((↑x : Int) - (1 : Int)) ∧ (0 : Int) ≤ (↑x : Int) - (1 : Int) ∧ (↑x : Int) - (1 : Int) < (↑l.length : Int) ∧ True ∧ True) ∧ (decide ((0 : Int) < (↑x : Int)) = false → True)) ∧ ((decide ((0 : Int) < (↑x : Int)) && decide ((0 : Int) ≤ cmpT (l.getD ((↑x : Int) - (1 : Int)).toNat ((0 : Int), (0 : Int), (0 : Int), ())) (l.getD (↑x : Int).toNat ((0 : Int), (0 : Int), (0 : Int), ())))) = true → (3 : Int) ≠ (0 : Int) ∧ k [Dat.mk (Ty.err (69 : Nat)) (3 : Int)]) ∧ ((decide ((0 : Int) < (↑x : Int)) && decide ((0 : Int) ≤ cmpT (l.getD ((↑x : Int) - (1 : Int)).toNat ((0 : Int), (0 : Int), (0 : Int), ())) (l.getD (↑x : Int).toNat ((0 : Int), (0 : Int), (0 : Int), ())))) = false → inK IntKind.i64 ((↑x : Int) + (1 : Int)) ∧ ∃ (x_1 : Nat), (tagsE l = tagsF l (l.length - x_1) x_1 ∧ x_1 ≤ l.length) ∧ l.length - x_1 < l.length - x ∧ (l = l ∧ l = l ∧ (↑l.length : Int) = (↑l.length : Int) ∧ (↑x : Int) + (1 : Int) = (↑x_1 : Int) ∧ True) ∧ True ∧ True))))) ∧ (decide ((↑x : Int) < (↑l.length : Int)) = false → k [Dat.mk (Ty.err (69 : Nat)) (0 : Int)]))) := by kernel_rfl
theorem vcIdx (l : List Tag) (t : Tag) (k : List Dat → Prop) : vcF ⟨Eb, [], [], [], []⟩ (anIdx l t) (Tryd.f57.body.getD .skip) Tryd.f57.ntmps [(.tmp 4, I)] [⟨.sl tT, l⟩, ⟨tT, t⟩] k = (
  (∃ (x : Nat), (idxI l t = idxF l t (l.length - x) x ∧ x ≤ l.length) ∧ (l = l ∧ ([] : List Nat) = [] ∧ l = l ∧ (↑l.length : Int) = (↑l.length : Int) ∧ (0 : Int) = (↑x : Int) ∧ True) ∧ (((46 : Nat) = (46 : Nat) ∧ t = t) ∧ True) ∧ True) ∧ ∀ (x : Nat), idxI l t = idxF l t (l.length - x) x ∧ x ≤ l.length → (decide ((↑x : Int) < (↑l.length : Int)) = true → (0 : Int) ≤ (↑x : Int) ∧ (↑x : Int) < (↑l.length : Int) ∧ ((decide (t.fst = (l.getD (↑x : Int).toNat ((0 : Int), (0 : Int), (0 : Int), ())).fst) && (decide (t.snd.fst = (l.getD (↑x : Int).toNat ((0 : Int), (0 : Int), (0 : Int), ())).snd.fst) && (decide (t.snd.snd.fst = (l.getD (↑x : Int).toNat ((0 : Int), (0 : Int), (0 : Int), ())).snd.snd.fst) && true))) = true → k [Dat.mk (I) (↑x : Int)]) ∧ ((decide (t.fst = (l.getD (↑x : Int).toNat ((0 : Int), (0 : Int), (0 : Int), ())).fst) && (decide (t.snd.fst = (l.getD (↑x : Int).toNat ((0 : Int), (0 : Int), (0 : Int), ())).snd.fst) && (decide (t.snd.snd.fst = (l.getD (↑x : Int).toNat ((0 : Int), (0 : Int), (0 : Int), ())).snd.snd.fst) && true))) = false → inK IntKind.i64 ((↑x : Int) + (1 : Int)) ∧ ∃ (x_1 : Nat), (idxI l t = idxF l t (l.length - x_1) x_1 ∧ x_1 ≤ l.length) ∧ l.length - x_1 < l.length - x ∧ (l = l ∧ ([] : List Nat) = [] ∧ l = l ∧ (↑l.length : Int) = (↑l.length : Int) ∧ (↑x : Int) + (1 : Int) = (↑x_1 : Int) ∧ True) ∧ (((46 : Nat) = (46 : Nat) ∧ t = t) ∧ True) ∧ True)) ∧ (decide ((↑x : Int) < (↑l.length : Int)) = false → k [Dat.mk (I) (-1 : Int)])) := by kernel_rfl
theorem vcHasT (l : List Tag) (t : Tag) (k : List Dat → Prop) : vcF ⟨Eb, [(57, cIdx)], [], [], []⟩ [] (Tryd.f38.body.getD .skip) Tryd.f38.ntmps [(.tmp 4, .bool)] [⟨.sl tT, l⟩, ⟨tT, t⟩] k = (
  True ∧ k [Dat.mk Ty.bool (decide ((0 : Int) ≤ idxI l t))]) := by kernel_rfl
theorem vcIdn (l : List Int) (t : Int) (k : List Dat → Prop) : vcF ⟨Eb, [], [], [], []⟩ (anIdn l t) (Tryd.f58.body.getD .skip) Tryd.f58.ntmps [(.tmp 4, I)] [⟨.sl I, l⟩, ⟨I, t⟩] k = (
  (∃ (x : Nat), (idnI l t = idnF l t (l.length - x) x ∧ x ≤ l.length) ∧ (l = l ∧ t = t ∧ l = l ∧ (↑l.length : Int) = (↑l.length : Int) ∧ (0 : Int) = (↑x : Int) ∧ True) ∧ True ∧ True) ∧ ∀ (x : Nat), idnI l t = idnF l t (l.length - x) x ∧ x ≤ l.length → (decide ((↑x : Int) < (↑l.length : Int)) = true → (0 : Int) ≤ (↑x : Int) ∧ (↑x : Int) < (↑l.length : Int) ∧ (decide (t = l.getD (↑x : Int).toNat (0 : Int)) = true → k [Dat.mk (I) (↑x : Int)]) ∧ (decide (t = l.getD (↑x : Int).toNat (0 : Int)) = false → inK IntKind.i64 ((↑x : Int) + (1 : Int)) ∧ ∃ (x_1 : Nat), (idnI l t = idnF l t (l.length - x_1) x_1 ∧ x_1 ≤ l.length) ∧ l.length - x_1 < l.length - x ∧ (l = l ∧ t = t ∧ l = l ∧ (↑l.length : Int) = (↑l.length : Int) ∧ (↑x : Int) + (1 : Int) = (↑x_1 : Int) ∧ True) ∧ True ∧ True)) ∧ (decide ((↑x : Int) < (↑l.length : Int)) = false → k [Dat.mk (I) (-1 : Int)])) := by kernel_rfl
theorem vcHasI (l : List Int) (t : Int) (k : List Dat → Prop) : vcF ⟨Eb, [(58, cIdn)], [], [], []⟩ [] (Tryd.f39.body.getD .skip) Tryd.f39.ntmps [(.tmp 4, .bool)] [⟨.sl I, l⟩, ⟨I, t⟩] k = (
  True ∧ k [Dat.mk Ty.bool (decide ((0 : Int) ≤ idnI l t))]) := by kernel_rfl
theorem vcCheck (b : Bag) (k : List Dat → Prop) : vcF ⟨Eb, [(37, cTags), (38, cHasT)], [], [], []⟩ (anCheck b) (Tryd.f12.body.getD .skip) Tryd.f12.ntmps [(.tmp 2, tErr)] [⟨tB, b⟩] k = (
  True ∧ ((!decide (tagsE b.fst = (0 : Int))) = true → k [Dat.mk (Ty.err (69 : Nat)) (tagsE b.fst)]) ∧ ((!decide (tagsE b.fst = (0 : Int))) = false → True ∧ ((!decide (tagsE b.snd.fst = (0 : Int))) = true → k [Dat.mk (Ty.err (69 : Nat)) (tagsE b.snd.fst)]) ∧ ((!decide (tagsE b.snd.fst = (0 : Int))) = false → (∃ (x : Nat), (chkB b = goneF b (b.snd.fst.length - x) x ∧ x ≤ b.snd.fst.length) ∧ (([] : List Nat) = [] ∧ b.snd.fst = b.snd.fst ∧ (↑(List.length b.snd.fst) : Int) = (↑(List.length b.snd.fst) : Int) ∧ (0 : Int) = (↑x : Int) ∧ True) ∧ (((25 : Nat) = (25 : Nat) ∧ b = b) ∧ True) ∧ True) ∧ ∀ (x : Nat), chkB b = goneF b (b.snd.fst.length - x) x ∧ x ≤ b.snd.fst.length → (decide ((↑x : Int) < (↑(List.length b.snd.fst) : Int)) = true → (0 : Int) ≤ (↑x : Int) ∧ (↑x : Int) < (↑(List.length b.snd.fst) : Int) ∧ True ∧ ((!hasT b.fst (List.getD b.snd.fst (↑x : Int).toNat ((0 : Int), (0 : Int), (0 : Int), ()))) = true → (6 : Int) ≠ (0 : Int) ∧ k [Dat.mk (Ty.err (69 : Nat)) (6 : Int)]) ∧ ((!hasT b.fst (List.getD b.snd.fst (↑x : Int).toNat ((0 : Int), (0 : Int), (0 : Int), ()))) = false → inK IntKind.i64 ((↑x : Int) + (1 : Int)) ∧ ∃ (x_1 : Nat), (chkB b = goneF b (b.snd.fst.length - x_1) x_1 ∧ x_1 ≤ b.snd.fst.length) ∧ b.snd.fst.length - x_1 < b.snd.fst.length - x ∧ (([] : List Nat) = [] ∧ b.snd.fst = b.snd.fst ∧ (↑(List.length b.snd.fst) : Int) = (↑(List.length b.snd.fst) : Int) ∧ (↑x : Int) + (1 : Int) = (↑x_1 : Int) ∧ True) ∧ (((25 : Nat) = (25 : Nat) ∧ b = b) ∧ True) ∧ True)) ∧ (decide ((↑x : Int) < (↑(List.length b.snd.fst) : Int)) = false → k [Dat.mk (Ty.err (69 : Nat)) (0 : Int)])))) := by kernel_rfl
theorem vcCounts (l : List Int) (k : List Dat → Prop) : vcF ⟨Eb, [(33, cWithin)], [], [], []⟩ (anCounts l) (Tryd.f7.body.getD .skip) Tryd.f7.ntmps [(.tmp 2, tErr)] [⟨.sl I, l⟩] k = (
  (decide ((↑l.length : Int) = (0 : Int)) = true → (5 : Int) ≠ (0 : Int) ∧ k [Dat.mk (Ty.err (69 : Nat)) (5 : Int)]) ∧ (decide ((↑l.length : Int) = (0 : Int)) = false → (decide ((5 : Int) < (↑l.length : Int)) = true → (4 : Int) ≠ (0 : Int) ∧ k [Dat.mk (Ty.err (69 : Nat)) (4 : Int)]) ∧ (decide ((5 : Int) < (↑l.length : Int)) = false → (∃ (x : Nat), (cntE l = cntF l (l.length - x) x ∧ x ≤ l.length) ∧ (l = l ∧ (↑l.length : Int) = (↑l.length : Int) ∧ (0 : Int) = (↑x : Int) ∧ True) ∧ True ∧ True) ∧ ∀ (x : Nat), cntE l = cntF l (l.length - x) x ∧ x ≤ l.length → (decide ((↑x : Int) < (↑l.length : Int)) = true → (0 : Int) ≤ (↑x : Int) ∧ (↑x : Int) < (↑l.length : Int) ∧ True ∧ ((!inB (l.getD (↑x : Int).toNat (0 : Int)) (0 : Int) (1000000 : Int)) = true → (1 : Int) ≠ (0 : Int) ∧ k [Dat.mk (Ty.err (69 : Nat)) (1 : Int)]) ∧ ((!inB (l.getD (↑x : Int).toNat (0 : Int)) (0 : Int) (1000000 : Int)) = false → inK IntKind.i64 ((↑x : Int) + (1 : Int)) ∧ ∃ (x_1 : Nat), (cntE l = cntF l (l.length - x_1) x_1 ∧ x_1 ≤ l.length) ∧ l.length - x_1 < l.length - x ∧ (l = l ∧ (↑l.length : Int) = (↑l.length : Int) ∧ (↑x : Int) + (1 : Int) = (↑x_1 : Int) ∧ True) ∧ True ∧ True)) ∧ (decide ((↑x : Int) < (↑l.length : Int)) = false → k [Dat.mk (Ty.err (69 : Nat)) (0 : Int)])))) := by kernel_rfl
theorem vcInts (a b : List Int) (k : List Dat → Prop) : vcF ⟨Eb, [], [], [], []⟩ (anInts a b) (Tryd.f9.body.getD .skip) Tryd.f9.ntmps [(.tmp 4, .bool)] [⟨.sl I, a⟩, ⟨.sl I, b⟩] k = (
  ((!decide ((↑a.length : Int) = (↑b.length : Int))) = true → k [Dat.mk Ty.bool false]) ∧ ((!decide ((↑a.length : Int) = (↑b.length : Int))) = false → (∃ (x : Nat), (x ≤ a.length ∧ a.length = b.length ∧ List.take x a = List.take x b) ∧ (a = a ∧ b = b ∧ (0 : Int) = (↑x : Int) ∧ True) ∧ True ∧ True) ∧ ∀ (x : Nat), x ≤ a.length ∧ a.length = b.length ∧ List.take x a = List.take x b → (decide ((↑x : Int) < (↑a.length : Int)) = true → ((0 : Int) ≤ (↑x : Int) ∧ (↑x : Int) < (↑a.length : Int) ∧ (0 : Int) ≤ (↑x : Int) ∧ (↑x : Int) < (↑b.length : Int) ∧ True) ∧ ((!decide (a.getD (↑x : Int).toNat (0 : Int) = b.getD (↑x : Int).toNat (0 : Int))) = true → k [Dat.mk Ty.bool false]) ∧ ((!decide (a.getD (↑x : Int).toNat (0 : Int) = b.getD (↑x : Int).toNat (0 : Int))) = false → inK IntKind.i64 ((↑x : Int) + (1 : Int)) ∧ ∃ (x_1 : Nat), (x_1 ≤ a.length ∧ a.length = b.length ∧ List.take x_1 a = List.take x_1 b) ∧ a.length - x_1 < a.length - x ∧ (a = a ∧ b = b ∧ (↑x : Int) + (1 : Int) = (↑x_1 : Int) ∧ True) ∧ True ∧ True)) ∧ (decide ((↑x : Int) < (↑a.length : Int)) = false → k [Dat.mk Ty.bool true]))) := by kernel_rfl
theorem vcSameT (a b : List Tag) (k : List Dat → Prop) : vcF ⟨Eb, [], [], [], []⟩ (anSameT a b) (Tryd.f42.body.getD .skip) Tryd.f42.ntmps [(.tmp 4, .bool)] [⟨.sl tT, a⟩, ⟨.sl tT, b⟩] k = (
  ((!decide ((↑a.length : Int) = (↑b.length : Int))) = true → k [Dat.mk Ty.bool false]) ∧ ((!decide ((↑a.length : Int) = (↑b.length : Int))) = false → (∃ (x : Nat), (x ≤ a.length ∧ a.length = b.length ∧ List.take x a = List.take x b) ∧ (a = a ∧ b = b ∧ (0 : Int) = (↑x : Int) ∧ True) ∧ True ∧ True) ∧ ∀ (x : Nat), x ≤ a.length ∧ a.length = b.length ∧ List.take x a = List.take x b → (decide ((↑x : Int) < (↑a.length : Int)) = true → ((0 : Int) ≤ (↑x : Int) ∧ (↑x : Int) < (↑a.length : Int) ∧ (0 : Int) ≤ (↑x : Int) ∧ (↑x : Int) < (↑b.length : Int) ∧ True) ∧ ((!(decide ((a.getD (↑x : Int).toNat ((0 : Int), (0 : Int), (0 : Int), ())).fst = (b.getD (↑x : Int).toNat ((0 : Int), (0 : Int), (0 : Int), ())).fst) && (decide ((a.getD (↑x : Int).toNat ((0 : Int), (0 : Int), (0 : Int), ())).snd.fst = (b.getD (↑x : Int).toNat ((0 : Int), (0 : Int), (0 : Int), ())).snd.fst) && (decide ((a.getD (↑x : Int).toNat ((0 : Int), (0 : Int), (0 : Int), ())).snd.snd.fst = (b.getD (↑x : Int).toNat ((0 : Int), (0 : Int), (0 : Int), ())).snd.snd.fst) && true)))) = true → k [Dat.mk Ty.bool false]) ∧ ((!(decide ((a.getD (↑x : Int).toNat ((0 : Int), (0 : Int), (0 : Int), ())).fst = (b.getD (↑x : Int).toNat ((0 : Int), (0 : Int), (0 : Int), ())).fst) && (decide ((a.getD (↑x : Int).toNat ((0 : Int), (0 : Int), (0 : Int), ())).snd.fst = (b.getD (↑x : Int).toNat ((0 : Int), (0 : Int), (0 : Int), ())).snd.fst) && (decide ((a.getD (↑x : Int).toNat ((0 : Int), (0 : Int), (0 : Int), ())).snd.snd.fst = (b.getD (↑x : Int).toNat ((0 : Int), (0 : Int), (0 : Int), ())).snd.snd.fst) && true)))) = false → inK IntKind.i64 ((↑x : Int) + (1 : Int)) ∧ ∃ (x_1 : Nat), (x_1 ≤ a.length ∧ a.length = b.length ∧ List.take x_1 a = List.take x_1 b) ∧ a.length - x_1 < a.length - x ∧ (a = a ∧ b = b ∧ (↑x : Int) + (1 : Int) = (↑x_1 : Int) ∧ True) ∧ True ∧ True)) ∧ (decide ((↑x : Int) < (↑a.length : Int)) = false → k [Dat.mk Ty.bool true]))) := by kernel_rfl
theorem vcSameB (a b : Bag) (k : List Dat → Prop) : vcF ⟨Eb, [(42, cSameT)], [], [], []⟩ [joinAll] (Tryd.f17.body.getD .skip) Tryd.f17.ntmps [(.tmp 4, .bool)] [⟨tB, a⟩, ⟨tB, b⟩] k = (
  True ∧ (decide (a.fst = b.fst) = true → True ∧ k [Dat.mk Ty.bool (decide (a.snd.fst = b.snd.fst))]) ∧ (decide (a.fst = b.fst) = false → k [Dat.mk Ty.bool false])) := by kernel_rfl
theorem vcClone (l : List Tag) (k : SV → List Ob → Prop) : vcO ⟨Eb, [], [], [], []⟩ [] (Tryd.f40.body.getD .skip) Tryd.f40.ntmps [(.tmp 2, .un)] [.d (.sl tT) l] [] k = (
  ∀ (b : Bool), (b = true → l = []) → (b = true → k SV.nils []) ∧ (b = false → ([] : List Int).length + l.length ≤ (1000000000 : Nat) ∧ k (SV.os (0 : Nat)) [Ob.row (46 : Nat) (tT) l])) := by kernel_rfl
theorem vcCloneI (l : List Int) (k : SV → List Ob → Prop) : vcO ⟨Eb, [], [], [], []⟩ [] (Tryd.f34.body.getD .skip) Tryd.f34.ntmps [(.tmp 2, .un)] [.d (.sl I) l] [] k = (
  ∀ (b : Bool), (b = true → l = []) → (b = true → k SV.nils []) ∧ (b = false → ([] : List Int).length + l.length ≤ (1000000000 : Nat) ∧ k (SV.os (0 : Nat)) [Ob.row (3 : Nat) (I) l])) := by kernel_rfl
theorem vcGrow (n : Int) (k : SV → List Ob → Prop) : vcO ⟨Eb, [], [], [], []⟩ [joinAll] (Tryd.f61.body.getD .skip) Tryd.f61.ntmps [(.tmp 4, .un)] [.nils, .d I n] [] k = (
  (decide (n < (0 : Int)) = true → False) ∧ (decide (n < (0 : Int)) = false → inK IntKind.i64 ((0 : Int) - (0 : Int)) ∧ inK IntKind.i64 (n - ((0 : Int) - (0 : Int))) ∧ (decide ((0 : Int) < n - ((0 : Int) - (0 : Int))) = true → (0 : Int) = (0 : Int) ∧ ((0 : Int) < n - ((0 : Int) - (0 : Int)) ∧ n - ((0 : Int) - (0 : Int)) ≤ (1000000000 : Int)) ∧ ((0 : Int) ≤ (0 : Int) ∧ (0 : Int) ≤ (↑(List.replicate (n - ((0 : Int) - (0 : Int))).toNat ((0 : Int), (0 : Int), (0 : Int), ())).length : Int)) ∧ k (SV.os (0 : Nat)) [Ob.row (46 : Nat) (tT) (List.take (Int.toNat (0 : Int)) (List.replicate (n - ((0 : Int) - (0 : Int))).toNat ((0 : Int), (0 : Int), (0 : Int), ())))]) ∧ (decide ((0 : Int) < n - ((0 : Int) - (0 : Int))) = false → k SV.nils []))) := by kernel_rfl
theorem vcConcat (ls : List (List Tag)) (k : SV → List Ob → Prop) : vcO ⟨Eb, [], [], [], [(61, oGrow)]⟩ (anConcat ls) (Tryd.f44.body.getD .skip) Tryd.f44.ntmps [(.tmp 2, .un)] [.d (.sl (.sl tT)) ls] [] k = (
  (∃ (x : Nat), (x ≤ ls.length ∧ True) ∧ (ls = ls ∧ (0 : Int) = (↑(sumL ls x) : Int) ∧ ls = ls ∧ (↑ls.length : Int) = (↑ls.length : Int) ∧ (0 : Int) = (↑x : Int) ∧ True) ∧ True ∧ ls = ls ∧ True) ∧ ∀ (x : Nat), x ≤ ls.length ∧ True → (decide ((↑x : Int) < (↑ls.length : Int)) = true → (0 : Int) ≤ (↑x : Int) ∧ (↑x : Int) < (↑ls.length : Int) ∧ inK IntKind.i64 ((↑(sumL ls x) : Int) + (↑(ls.getD (↑x : Int).toNat []).length : Int)) ∧ (decide ((↑(sumL ls x) : Int) + (↑(ls.getD (↑x : Int).toNat []).length : Int) < (0 : Int)) = true → False) ∧ (decide ((↑(sumL ls x) : Int) + (↑(ls.getD (↑x : Int).toNat []).length : Int) < (0 : Int)) = false → inK IntKind.i64 ((↑x : Int) + (1 : Int)) ∧ ∃ (x_1 : Nat), (x_1 ≤ ls.length ∧ True) ∧ ls.length - x_1 < ls.length - x ∧ (ls = ls ∧ (↑(sumL ls x) : Int) + (↑(ls.getD (↑x : Int).toNat []).length : Int) = (↑(sumL ls x_1) : Int) ∧ ls = ls ∧ (↑ls.length : Int) = (↑ls.length : Int) ∧ (↑x : Int) + (1 : Int) = (↑x_1 : Int) ∧ True) ∧ True ∧ ls = ls ∧ True)) ∧ (decide ((↑x : Int) < (↑ls.length : Int)) = false → ((0 : Int) ≤ (↑(sumL ls x) : Int) ∧ (↑(sumL ls x) : Int) ≤ (1000000000 : Int)) ∧ (∃ (x : Nat), (x ≤ ls.length ∧ True) ∧ (True ∧ ls = ls ∧ (↑ls.length : Int) = (↑ls.length : Int) ∧ (0 : Int) = (↑x : Int) ∧ True) ∧ (((46 : Nat) = (46 : Nat) ∧ [] = (List.take x ls).flatten) ∧ True) ∧ ls = ls ∧ True) ∧ ∀ (x : Nat), x ≤ ls.length ∧ True → (decide ((↑x : Int) < (↑ls.length : Int)) = true → (0 : Int) ≤ (↑x : Int) ∧ (↑x : Int) < (↑ls.length : Int) ∧ (List.take x ls).flatten.length + (ls.getD (↑x : Int).toNat []).length ≤ (1000000000 : Nat) ∧ inK IntKind.i64 ((↑x : Int) + (1 : Int)) ∧ ∃ (x_1 : Nat), (x_1 ≤ ls.length ∧ True) ∧ ls.length - x_1 < ls.length - x ∧ (True ∧ ls = ls ∧ (↑ls.length : Int) = (↑ls.length : Int) ∧ (↑x : Int) + (1 : Int) = (↑x_1 : Int) ∧ True) ∧ (((46 : Nat) = (46 : Nat) ∧ (List.take x ls).flatten.append (ls.getD (↑x : Int).toNat []) = (List.take x_1 ls).flatten) ∧ True) ∧ ls = ls ∧ True) ∧ (decide ((↑x : Int) < (↑ls.length : Int)) = false → k (SV.os (0 : Nat)) [Ob.row (46 : Nat) (tT) (List.take x ls).flatten]))) := by kernel_rfl
theorem vcCompact (xs : List Tag) (k : SV → List Ob → Prop) : vcO ⟨Eb, [], [], [], []⟩ (anCompact xs) (Tryd.f60.body.getD .skip) Tryd.f60.ntmps [(.tmp 2, .un)] [.os 0] [.row 46 tT xs] k = (
  (decide ((↑xs.length : Int) < (2 : Int)) = true → k (SV.os (0 : Nat)) [Ob.row (46 : Nat) (tT) xs]) ∧ (decide ((↑xs.length : Int) < (2 : Int)) = false → (∃ (x : Nat), ((1 : Nat) ≤ x ∧ x ≤ xs.length ∧ (2 : Nat) ≤ xs.length ∧ cpt (List.take x xs) = List.take x xs) ∧ (True ∧ (1 : Int) = (↑x : Int) ∧ True) ∧ (((46 : Nat) = (46 : Nat) ∧ xs = xs) ∧ True) ∧ True ∧ True) ∧ ∀ (x : Nat), (1 : Nat) ≤ x ∧ x ≤ xs.length ∧ (2 : Nat) ≤ xs.length ∧ cpt (List.take x xs) = List.take x xs → (decide ((↑x : Int) < (↑xs.length : Int)) = true → ((0 : Int) ≤ (↑x : Int) ∧ (↑x : Int) < (↑xs.length : Int) ∧ inK IntKind.i64 ((↑x : Int) - (1 : Int)) ∧ (0 : Int) ≤ (↑x : Int) - (1 : Int) ∧ (↑x : Int) - (1 : Int) < (↑xs.length : Int) ∧ True) ∧ ((decide ((xs.getD (↑x : Int).toNat ((0 : Int), (0 : Int), (0 : Int), ())).fst = (xs.getD ((↑x : Int) - (1 : Int)).toNat ((0 : Int), (0 : Int), (0 : Int), ())).fst) && (decide ((xs.getD (↑x : Int).toNat ((0 : Int), (0 : Int), (0 : Int), ())).snd.fst = (xs.getD ((↑x : Int) - (1 : Int)).toNat ((0 : Int), (0 : Int), (0 : Int), ())).snd.fst) && (decide ((xs.getD (↑x : Int).toNat ((0 : Int), (0 : Int), (0 : Int), ())).snd.snd.fst = (xs.getD ((↑x : Int) - (1 : Int)).toNat ((0 : Int), (0 : Int), (0 : Int), ())).snd.snd.fst) && true))) = true → ((0 : Int) ≤ (↑x : Int) ∧ (↑x : Int) < (↑xs.length : Int)) ∧ (∃ (x_1 : Nat × Nat × Nat × List Tag), ((1 : Nat) ≤ x_1.fst ∧ (1 : Nat) ≤ x_1.snd.fst ∧ x_1.fst + x_1.snd.fst ≤ xs.length ∧ x_1.snd.snd.fst < x_1.fst + x_1.snd.fst ∧ x_1.snd.snd.snd.length = xs.length ∧ List.take x_1.snd.snd.fst x_1.snd.snd.snd = cpt (List.take (x_1.fst + x_1.snd.fst) xs) ∧ ∀ (j : Nat), x_1.fst + x_1.snd.fst - (1 : Nat) ≤ j → x_1.snd.snd.snd.getD j tag0 = xs.getD j tag0) ∧ (True ∧ (↑x : Int) = (↑x_1.snd.snd.fst : Int) ∧ (↑x : Int).toNat = x_1.fst ∧ (1 : Int) = (↑x_1.snd.fst : Int) ∧ True) ∧ (((46 : Nat) = (46 : Nat) ∧ xs = x_1.snd.snd.snd) ∧ True) ∧ True ∧ True) ∧ ∀ (x : Nat × Nat × Nat × List Tag), ((1 : Nat) ≤ x.fst ∧ (1 : Nat) ≤ x.snd.fst ∧ x.fst + x.snd.fst ≤ xs.length ∧ x.snd.snd.fst < x.fst + x.snd.fst ∧ x.snd.snd.snd.length = xs.length ∧ List.take x.snd.snd.fst x.snd.snd.snd = cpt (List.take (x.fst + x.snd.fst) xs) ∧ ∀ (j : Nat), x.fst + x.snd.fst - (1 : Nat) ≤ j → x.snd.snd.snd.getD j tag0 = xs.getD j tag0) → (decide ((↑x.snd.fst : Int) < (↑(x.snd.snd.snd.length - x.fst) : Int)) = true → ((0 : Int) ≤ (↑x.snd.fst : Int) ∧ (↑x.snd.fst : Int) + (↑x.fst : Int) < (↑x.snd.snd.snd.length : Int) ∧ inK IntKind.i64 ((↑x.snd.fst : Int) - (1 : Int)) ∧ (0 : Int) ≤ (↑x.snd.fst : Int) - (1 : Int) ∧ (↑x.snd.fst : Int) - (1 : Int) + (↑x.fst : Int) < (↑x.snd.snd.snd.length : Int) ∧ True) ∧ ((!(decide ((x.snd.snd.snd.getD (x.fst + (↑x.snd.fst : Int).toNat) ((0 : Int), (0 : Int), (0 : Int), ())).fst = (x.snd.snd.snd.getD (x.fst + ((↑x.snd.fst : Int) - (1 : Int)).toNat) ((0 : Int), (0 : Int), (0 : Int), ())).fst) && (decide ((x.snd.snd.snd.getD (x.fst + (↑x.snd.fst : Int).toNat) ((0 : Int), (0 : Int), (0 : Int), ())).snd.fst = (x.snd.snd.snd.getD (x.fst + ((↑x.snd.fst : Int) - (1 : Int)).toNat) ((0 : Int), (0 : Int), (0 : Int), ())).snd.fst) && (decide ((x.snd.snd.snd.getD (x.fst + (↑x.snd.fst : Int).toNat) ((0 : Int), (0 : Int), (0 : Int), ())).snd.snd.fst = (x.snd.snd.snd.getD (x.fst + ((↑x.snd.fst : Int) - (1 : Int)).toNat) ((0 : Int), (0 : Int), (0 : Int), ())).snd.snd.fst) && true)))) = true → (0 : Int) ≤ (↑x.snd.fst : Int) ∧ (↑x.snd.fst : Int) + (↑x.fst : Int) < (↑x.snd.snd.snd.length : Int) ∧ (0 : Int) ≤ (↑x.snd.snd.fst : Int) ∧ (↑x.snd.snd.fst : Int) < (↑x.snd.snd.snd.length : Int) ∧ inK IntKind.i64 ((↑x.snd.snd.fst : Int) + (1 : Int)) ∧ inK IntKind.i64 ((↑x.snd.fst : Int) + (1 : Int)) ∧ ∃ (x_1 : Nat × Nat × Nat × List Tag), ((1 : Nat) ≤ x_1.fst ∧ (1 : Nat) ≤ x_1.snd.fst ∧ x_1.fst + x_1.snd.fst ≤ xs.length ∧ x_1.snd.snd.fst < x_1.fst + x_1.snd.fst ∧ x_1.snd.snd.snd.length = xs.length ∧ List.take x_1.snd.snd.fst x_1.snd.snd.snd = cpt (List.take (x_1.fst + x_1.snd.fst) xs) ∧ ∀ (j : Nat), x_1.fst + x_1.snd.fst - (1 : Nat) ≤ j → x_1.snd.snd.snd.getD j tag0 = xs.getD j tag0) ∧ xs.length - x_1.snd.fst < xs.length - x.snd.fst ∧ (True ∧ (↑x.snd.snd.fst : Int) + (1 : Int) = (↑x_1.snd.snd.fst : Int) ∧ x.fst = x_1.fst ∧ (↑x.snd.fst : Int) + (1 : Int) = (↑x_1.snd.fst : Int) ∧ True) ∧ (((46 : Nat) = (46 : Nat) ∧ x.snd.snd.snd.set (↑x.snd.snd.fst : Int).toNat (x.snd.snd.snd.getD (x.fst + (↑x.snd.fst : Int).toNat) ((0 : Int), (0 : Int), (0 : Int), ())) = x_1.snd.snd.snd) ∧ True) ∧ True ∧ True) ∧ ((!(decide ((x.snd.snd.snd.getD (x.fst + (↑x.snd.fst : Int).toNat) ((0 : Int), (0 : Int), (0 : Int), ())).fst = (x.snd.snd.snd.getD (x.fst + ((↑x.snd.fst : Int) - (1 : Int)).toNat) ((0 : Int), (0 : Int), (0 : Int), ())).fst) && (decide ((x.snd.snd.snd.getD (x.fst + (↑x.snd.fst : Int).toNat) ((0 : Int), (0 : Int), (0 : Int), ())).snd.fst = (x.snd.snd.snd.getD (x.fst + ((↑x.snd.fst : Int) - (1 : Int)).toNat) ((0 : Int), (0 : Int), (0 : Int), ())).snd.fst) && (decide ((x.snd.snd.snd.getD (x.fst + (↑x.snd.fst : Int).toNat) ((0 : Int), (0 : Int), (0 : Int), ())).snd.snd.fst = (x.snd.snd.snd.getD (x.fst + ((↑x.snd.fst : Int) - (1 : Int)).toNat) ((0 : Int), (0 : Int), (0 : Int), ())).snd.snd.fst) && true)))) = false → inK IntKind.i64 ((↑x.snd.fst : Int) + (1 : Int)) ∧ ∃ (x_1 : Nat × Nat × Nat × List Tag), ((1 : Nat) ≤ x_1.fst ∧ (1 : Nat) ≤ x_1.snd.fst ∧ x_1.fst + x_1.snd.fst ≤ xs.length ∧ x_1.snd.snd.fst < x_1.fst + x_1.snd.fst ∧ x_1.snd.snd.snd.length = xs.length ∧ List.take x_1.snd.snd.fst x_1.snd.snd.snd = cpt (List.take (x_1.fst + x_1.snd.fst) xs) ∧ ∀ (j : Nat), x_1.fst + x_1.snd.fst - (1 : Nat) ≤ j → x_1.snd.snd.snd.getD j tag0 = xs.getD j tag0) ∧ xs.length - x_1.snd.fst < xs.length - x.snd.fst ∧ (True ∧ (↑x.snd.snd.fst : Int) = (↑x_1.snd.snd.fst : Int) ∧ x.fst = x_1.fst ∧ (↑x.snd.fst : Int) + (1 : Int) = (↑x_1.snd.fst : Int) ∧ True) ∧ (((46 : Nat) = (46 : Nat) ∧ x.snd.snd.snd = x_1.snd.snd.snd) ∧ True) ∧ True ∧ True)) ∧ (decide ((↑x.snd.fst : Int) < (↑(x.snd.snd.snd.length - x.fst) : Int)) = false → ((0 : Int) ≤ (↑x.snd.snd.fst : Int) ∧ (↑x.snd.snd.fst : Int) < (↑x.snd.snd.snd.length : Int)) ∧ ((0 : Int) ≤ (↑x.snd.snd.fst : Int) ∧ (↑x.snd.snd.fst : Int) ≤ (↑(List.take (↑x.snd.snd.fst : Int).toNat x.snd.snd.snd ++ List.replicate (x.snd.snd.snd.length - (↑x.snd.snd.fst : Int).toNat) ((0 : Int), (0 : Int), (0 : Int), ())).length : Int)) ∧ k (SV.os (1 : Nat)) [Ob.dead, Ob.row (46 : Nat) (tT) (List.take (↑x.snd.snd.fst : Int).toNat (List.take (↑x.snd.snd.fst : Int).toNat x.snd.snd.snd ++ List.replicate (x.snd.snd.snd.length - (↑x.snd.snd.fst : Int).toNat) ((0 : Int), (0 : Int), (0 : Int), ())))])) ∧ ((decide ((xs.getD (↑x : Int).toNat ((0 : Int), (0 : Int), (0 : Int), ())).fst = (xs.getD ((↑x : Int) - (1 : Int)).toNat ((0 : Int), (0 : Int), (0 : Int), ())).fst) && (decide ((xs.getD (↑x : Int).toNat ((0 : Int), (0 : Int), (0 : Int), ())).snd.fst = (xs.getD ((↑x : Int) - (1 : Int)).toNat ((0 : Int), (0 : Int), (0 : Int), ())).snd.fst) && (decide ((xs.getD (↑x : Int).toNat ((0 : Int), (0 : Int), (0 : Int), ())).snd.snd.fst = (xs.getD ((↑x : Int) - (1 : Int)).toNat ((0 : Int), (0 : Int), (0 : Int), ())).snd.snd.fst) && true))) = false → inK IntKind.i64 ((↑x : Int) + (1 : Int)) ∧ ∃ (x_1 : Nat), ((1 : Nat) ≤ x_1 ∧ x_1 ≤ xs.length ∧ (2 : Nat) ≤ xs.length ∧ cpt (List.take x_1 xs) = List.take x_1 xs) ∧ xs.length - x_1 < xs.length - x ∧ (True ∧ (↑x : Int) + (1 : Int) = (↑x_1 : Int) ∧ True) ∧ (((46 : Nat) = (46 : Nat) ∧ xs = xs) ∧ True) ∧ True ∧ True)) ∧ (decide ((↑x : Int) < (↑xs.length : Int)) = false → k (SV.os (0 : Nat)) [Ob.row (46 : Nat) (tT) xs]))) := by kernel_rfl
end Go.Proofs.YtgcliogognkdkaaDoor

/- Bags and counters: the functions that only look keep their contracts. -/
namespace Go.Proofs.YtgcliogognkdkaaDoor
open Go.Vc
theorem mixed : Tryd.prog.follows .mixedOrders = true := by kernel_rfl

theorem okWithin [Dn] : PlainOk Tryd.prog [] 33 cWithin := by
  refine plain_of (CxOk.mk' Eb_ok (by kernel_rfl) mixed (gl := []) GOk.nil GoOk.nil noIt) Tryd.func33 (c := Tryd.f33.body.getD .skip) (rvs := [(.tmp 6, .bool)]) (by kernel_rfl) (by kernel_rfl) (by kernel_rfl) ?_
  intro ds k ⟨hp, hk⟩ hwf
  obtain ⟨a, b, c, rfl, -⟩ := dest3 hp
  refine ⟨[joinAll], ?_⟩
  rw [vcWithin]
  have ret : ∀ x : Bool, inB a b c = x → k [⟨.bool, x⟩] := by rintro _ rfl; exact hk
  exact ⟨fun h => ret _ (by unfold inB; rw [h]; rfl), fun h => ret _ (by unfold inB; rw [h]; rfl)⟩

theorem okNaN [Dn] : PlainOk Tryd.prog [] 67 cNaN := by
  refine plain_of (CxOk.mk' Eb_ok (by kernel_rfl) mixed (gl := []) GOk.nil GoOk.nil noIt) Tryd.func67 (c := Tryd.f67.body.getD .skip) (rvs := [(.tmp 2, .bool)]) (by kernel_rfl) (by kernel_rfl) (by kernel_rfl) ?_
  intro ds k ⟨hp, hk⟩ hwf
  obtain ⟨a, rfl, -⟩ := dest1 hp
  refine ⟨[], ?_⟩
  rw [vcNaN]
  have hk : k [⟨.bool, false⟩] := hk
  simpa using hk

theorem okCmp [Dn] : PlainOk Tryd.prog [] 54 cCmp := by
  refine plain_of (CxOk.mk' Eb_ok (by kernel_rfl) mixed (gl := []) (GOk.cons okNaN Tryd.func67 (by kernel_rfl) (by kernel_rfl) GOk.nil) GoOk.nil noIt) Tryd.func54 (c := Tryd.f54.body.getD .skip) (rvs := [(.tmp 4, I)]) (by kernel_rfl) (by kernel_rfl) (by kernel_rfl) ?_
  intro ds k ⟨hp, hk⟩ hwf
  obtain ⟨a, b, rfl, -⟩ := dest2 hp
  refine ⟨[joinAll], ?_⟩
  rw [vcCmp]
  have ret : ∀ x : Int, cmpI a b = x → k [⟨I, x⟩] := by rintro _ rfl; exact hk
  simp only [decide_eq_true_eq, decide_eq_false_iff_not, true_and, forall_const, reduceCtorEq, false_implies]
  refine ⟨fun h => ret _ (by unfold cmpI; rw [if_pos h]), fun h => ⟨fun h2 => ret _ (by unfold cmpI; rw [if_neg h, if_pos h2]), fun h2 => ret _ (by unfold cmpI; rw [if_neg h, if_neg h2])⟩⟩

theorem or_vc (l : List Int) (hl : l.length ≤ maxLen) (k : List Dat → Prop) (hk : k [⟨I, orI l⟩]) : vcF ⟨Eb, [], [], [], []⟩ (anOr l) (Tryd.f72.body.getD .skip) Tryd.f72.ntmps [(.tmp 2, I)] [⟨.sl I, l⟩] k := by
  rw [vcOr]
  have hml : maxLen ≤ 9223372036854775807 := by decide
  have ret : ∀ x : Int, orI l = x → k [⟨I, x⟩] := by rintro _ rfl; exact hk
  simp only [decide_eq_true_eq, decide_eq_false_iff_not, true_and, and_true, Bool.not_eq_true', Bool.not_eq_false', Int.toNat_natCast, inK_i64]
  refine ⟨⟨0, ⟨Nat.zero_le _, by rw [List.drop_zero]⟩, rfl⟩, fun x ⟨hx, ho⟩ => ⟨fun hlt => ?_, fun hge => ret _ ?_⟩⟩
  · have hxl : x < l.length := by omega
    have hd : orI (l.drop x) = if l.getD x 0 = 0 then orI (l.drop (x + 1)) else l.getD x 0 := by
      rw [List.drop_eq_getElem_cons hxl, List.getD_eq_getElem?_getD, List.getElem?_eq_getElem hxl]; rfl
    refine ⟨by omega, hlt, fun hne => ret _ ?_, fun he => ⟨by omega, x + 1, ⟨by omega, ?_⟩, by omega, by omega⟩⟩
    · rw [ho, hd, if_neg hne]
    · rw [ho, hd, if_pos he]
  · rw [ho, List.drop_of_length_le (by omega)]; rfl

theorem okOr [Dn] : PlainOk Tryd.prog [] 72 cOr := by
  refine plain_of (CxOk.mk' Eb_ok (by kernel_rfl) mixed (gl := []) GOk.nil GoOk.nil noIt) Tryd.func72 (c := Tryd.f72.body.getD .skip) (rvs := [(.tmp 2, I)]) (by kernel_rfl) (by kernel_rfl) (by kernel_rfl) ?_
  intro ds k ⟨hp, hk⟩ hwf
  obtain ⟨l, rfl, -⟩ := dest1 hp
  exact ⟨anOr l, or_vc l (wf1 hwf).1 k hk⟩

theorem okByTag [Dn] : PlainOk Tryd.prog [] 56 cByTag := by
  refine plain_of (CxOk.mk' Eb_ok (by kernel_rfl) mixed (gl := []) (GOk.cons okCmp Tryd.func54 (by kernel_rfl) (by kernel_rfl) (GOk.cons okOr Tryd.func72 (by kernel_rfl) (by kernel_rfl) GOk.nil)) GoOk.nil noIt) Tryd.func56 (c := Tryd.f56.body.getD .skip) (rvs := [(.tmp 4, I)]) (by kernel_rfl) (by kernel_rfl) (by kernel_rfl) ?_
  intro ds k ⟨hp, hk⟩ hwf
  obtain ⟨a, b, rfl, -⟩ := dest2 hp
  refine ⟨[joinAll], ?_⟩
  rw [vcByTag]
  exact ⟨⟨trivial, trivial, trivial, trivial, trivial⟩, hk⟩

theorem tagsF_step (l : List Tag) {i : Nat} (h : i < l.length) : tagsF l (l.length - i) i = if tagE l i = 0 then tagsF l (l.length - (i + 1)) (i + 1) else tagE l i := by
  rw [show l.length - i = (l.length - (i + 1)) + 1 by omega]; rfl

theorem tags_vc (l : List Tag) (hl : l.length ≤ maxLen) (k : List Dat → Prop) (hk : k [⟨tErr, tagsE l⟩]) : vcF ⟨Eb, [(33, cWithin), (56, cByTag)], [], [], []⟩ (anTags l) (Tryd.f37.body.getD .skip) Tryd.f37.ntmps [(.tmp 2, tErr)] [⟨.sl tT, l⟩] k := by
  rw [vcTags]
  have hml : maxLen ≤ 9223372036854775807 := by decide
  have ret : ∀ x : Int, tagsE l = x → k [⟨tErr, x⟩] := by rintro _ rfl; exact hk
  simp only [decide_eq_true_eq, decide_eq_false_iff_not, true_and, and_true, Bool.not_eq_true', Bool.not_eq_false', Int.toNat_natCast, inK_i64]
  refine ⟨fun h => ⟨by decide, ret _ (by unfold tagsE; rw [if_pos (by omega)])⟩, fun h => ⟨⟨0, ⟨?_, Nat.zero_le _⟩, rfl⟩, fun x ⟨ho, hx⟩ => ⟨fun hlt => ?_, fun hge => ret _ ?_⟩⟩⟩
  · unfold tagsE; rw [if_neg (by omega), Nat.sub_zero]
  · have hxl : x < l.length := by omega
    have hs := tagsF_step l hxl
    have e0 : l.getD x ((0 : Int), (0 : Int), (0 : Int), ()) = l.getD x tag0 := rfl
    have hin : tagIn (l.getD x tag0) = false → tagE l x = 1 := fun h => by unfold tagE; rw [if_pos h]
    have r1 : tagIn (l.getD x tag0) = false → tagsE l = 1 := fun h => by rw [ho, hs, hin h, if_neg (by decide)]
    refine ⟨by omega, hlt, fun h1 => ⟨by decide, ret _ (r1 ?_)⟩, fun h1 => ⟨fun h2 => ⟨by decide, ret _ (r1 ?_)⟩, fun h2 => ⟨fun h3 => ⟨by decide, ret _ (r1 ?_)⟩, fun h3 => ⟨⟨fun hp => ⟨by omega, by omega, by omega⟩, fun _ => trivial⟩, fun hb => ⟨by decide, ret _ ?_⟩, fun hb => ⟨by omega, x + 1, ⟨?_, by omega⟩, by omega, by omega⟩⟩⟩⟩⟩
    · unfold tagIn; rw [← e0, h1]; rfl
    · unfold tagIn; rw [← e0, h1, h2]; rfl
    · unfold tagIn; rw [← e0, h1, h2, h3]; rfl
    · have hti : tagIn (l.getD x tag0) = true := by unfold tagIn; rw [← e0, h1, h2, h3]; rfl
      rw [Bool.and_eq_true, decide_eq_true_eq, decide_eq_true_eq] at hb
      have e1 : ((x : Int) - 1).toNat = x - 1 := by omega
      rw [e1] at hb
      have : tagE l x = 3 := by
        unfold tagE
        rw [if_neg (by rw [hti]; decide), if_pos ⟨by omega, hb.2⟩]
      rw [ho, hs, this, if_neg (by decide)]
    · have hti : tagIn (l.getD x tag0) = true := by unfold tagIn; rw [← e0, h1, h2, h3]; rfl
      have e1 : ((x : Int) - 1).toNat = x - 1 := by omega
      rw [e1] at hb
      have : tagE l x = 0 := by
        unfold tagE
        rw [if_neg (by rw [hti]; decide), if_neg]
        rintro ⟨c1, c2⟩
        have : (decide (0 < (x : Int)) && decide (0 ≤ cmpT (l.getD (x - 1) (0, 0, 0, ())) (l.getD x (0, 0, 0, ())))) = true := by
          rw [Bool.and_eq_true, decide_eq_true_eq, decide_eq_true_eq]
          exact ⟨by omega, c2⟩
        rw [hb] at this; cases this
      rw [ho, hs, this, if_pos rfl]
  · have : x = l.length := by omega
    rw [ho, this, Nat.sub_self]; rfl

theorem okTags : PlainOk Tryd.prog [] 37 cTags := by
  refine plain_of (CxOk.mk' Eb_ok (by kernel_rfl) mixed (gl := []) (GOk.cons okWithin Tryd.func33 (by kernel_rfl) (by kernel_rfl) (GOk.cons okByTag Tryd.func56 (by kernel_rfl) (by kernel_rfl) GOk.nil)) GoOk.nil noIt) Tryd.func37 (c := Tryd.f37.body.getD .skip) (rvs := [(.tmp 2, tErr)]) (by kernel_rfl) (by kernel_rfl) (by kernel_rfl) ?_
  intro ds k ⟨hp, hk⟩ hwf
  obtain ⟨l, rfl, -⟩ := dest1 hp
  exact ⟨anTags l, tags_vc l (wf1 hwf).1 k hk⟩

theorem tag_eqB {t u : Tag} : (decide (t.1 = u.1) && (decide (t.2.1 = u.2.1) && (decide (t.2.2.1 = u.2.2.1) && true))) = decide (t = u) := by
  obtain ⟨a, b, c, _⟩ := t
  obtain ⟨d, e, f, _⟩ := u
  by_cases h : (a, b, c, ()) = (d, e, f, ())
  · injection h with h1 h2; injection h2 with h2 h3; injection h3 with h3 _
    subst h1; subst h2; subst h3; simp
  · rw [decide_eq_false h]
    cases hq : (decide (a = d) && (decide (b = e) && (decide (c = f) && true))) with
    | false => rfl
    | true =>
      simp only [Bool.and_eq_true, decide_eq_true_eq, and_true] at hq
      obtain ⟨rfl, rfl, rfl⟩ := hq
      exact absurd rfl h

theorem idx_vc (l : List Tag) (t : Tag) (hl : l.length ≤ maxLen) (k : List Dat → Prop) (hk : k [⟨I, idxI l t⟩]) : vcF ⟨Eb, [], [], [], []⟩ (anIdx l t) (Tryd.f57.body.getD .skip) Tryd.f57.ntmps [(.tmp 4, I)] [⟨.sl tT, l⟩, ⟨tT, t⟩] k := by
  rw [vcIdx]
  have hml : maxLen ≤ 9223372036854775807 := by decide
  have ret : ∀ x : Int, idxI l t = x → k [⟨I, x⟩] := by rintro _ rfl; exact hk
  simp only [decide_eq_true_eq, decide_eq_false_iff_not, true_and, and_true, Int.toNat_natCast, inK_i64, tag_eqB]
  refine ⟨⟨0, ⟨rfl, Nat.zero_le _⟩, rfl⟩, fun x ⟨ho, hx⟩ => ⟨fun hlt => ?_, fun hge => ret _ ?_⟩⟩
  · have hxl : x < l.length := by omega
    have hs : idxF l t (l.length - x) x = if l.getD x tag0 = t then (x : Int) else idxF l t (l.length - (x + 1)) (x + 1) := by
      rw [show l.length - x = (l.length - (x + 1)) + 1 by omega]; rfl
    refine ⟨by omega, hlt, fun he => ret _ ?_, fun hne => ⟨by omega, x + 1, ⟨?_, by omega⟩, by omega, by omega⟩⟩
    · rw [ho, hs, if_pos (show l.getD x tag0 = t from he.symm)]
    · rw [ho, hs, if_neg (show ¬ l.getD x tag0 = t from fun e => hne e.symm)]
  · have : x = l.length := by omega
    rw [ho, this, Nat.sub_self]; rfl

theorem okIdx : PlainOk Tryd.prog [] 57 cIdx := by
  refine plain_of (CxOk.mk' Eb_ok (by kernel_rfl) mixed (gl := []) GOk.nil GoOk.nil noIt) Tryd.func57 (c := Tryd.f57.body.getD .skip) (rvs := [(.tmp 4, I)]) (by kernel_rfl) (by kernel_rfl) (by kernel_rfl) ?_
  intro ds k ⟨hp, hk⟩ hwf
  obtain ⟨l, t, rfl, -⟩ := dest2 hp
  exact ⟨anIdx l t, idx_vc l t (wf2 hwf).1.1 k hk⟩

theorem okHasT : PlainOk Tryd.prog [] 38 cHasT := by
  refine plain_of (CxOk.mk' Eb_ok (by kernel_rfl) mixed (gl := []) (GOk.cons okIdx Tryd.func57 (by kernel_rfl) (by kernel_rfl) GOk.nil) GoOk.nil noIt) Tryd.func38 (c := Tryd.f38.body.getD .skip) (rvs := [(.tmp 4, .bool)]) (by kernel_rfl) (by kernel_rfl) (by kernel_rfl) ?_
  intro ds k ⟨hp, hk⟩ hwf
  obtain ⟨l, t, rfl, -⟩ := dest2 hp
  refine ⟨[], ?_⟩
  rw [vcHasT]
  exact ⟨trivial, hk⟩

theorem idn_vc (l : List Int) (t : Int) (hl : l.length ≤ maxLen) (k : List Dat → Prop) (hk : k [⟨I, idnI l t⟩]) : vcF ⟨Eb, [], [], [], []⟩ (anIdn l t) (Tryd.f58.body.getD .skip) Tryd.f58.ntmps [(.tmp 4, I)] [⟨.sl I, l⟩, ⟨I, t⟩] k := by
  rw [vcIdn]
  have hml : maxLen ≤ 9223372036854775807 := by decide
  have ret : ∀ x : Int, idnI l t = x → k [⟨I, x⟩] := by rintro _ rfl; exact hk
  simp only [decide_eq_true_eq, decide_eq_false_iff_not, true_and, and_true, Int.toNat_natCast, inK_i64]
  refine ⟨⟨0, ⟨rfl, Nat.zero_le _⟩, rfl⟩, fun x ⟨ho, hx⟩ => ⟨fun hlt => ?_, fun hge => ret _ ?_⟩⟩
  · have hxl : x < l.length := by omega
    have hs : idnF l t (l.length - x) x = if l.getD x 0 = t then (x : Int) else idnF l t (l.length - (x + 1)) (x + 1) := by
      rw [show l.length - x = (l.length - (x + 1)) + 1 by omega]; rfl
    refine ⟨by omega, hlt, fun he => ret _ ?_, fun hne => ⟨by omega, x + 1, ⟨?_, by omega⟩, by omega, by omega⟩⟩
    · rw [ho, hs, if_pos he.symm]
    · rw [ho, hs, if_neg (fun e => hne e.symm)]
  · have : x = l.length := by omega
    rw [ho, this, Nat.sub_self]; rfl

theorem okIdn : PlainOk Tryd.prog [] 58 cIdn := by
  refine plain_of (CxOk.mk' Eb_ok (by kernel_rfl) mixed (gl := []) GOk.nil GoOk.nil noIt) Tryd.func58 (c := Tryd.f58.body.getD .skip) (rvs := [(.tmp 4, I)]) (by kernel_rfl) (by kernel_rfl) (by kernel_rfl) ?_
  intro ds k ⟨hp, hk⟩ hwf
  obtain ⟨l, t, rfl, -⟩ := dest2 hp
  exact ⟨anIdn l t, idn_vc l t (wf2 hwf).1.1 k hk⟩

theorem okHasI : PlainOk Tryd.prog [] 39 cHasI := by
  refine plain_of (CxOk.mk' Eb_ok (by kernel_rfl) mixed (gl := []) (GOk.cons okIdn Tryd.func58 (by kernel_rfl) (by kernel_rfl) GOk.nil) GoOk.nil noIt) Tryd.func39 (c := Tryd.f39.body.getD .skip) (rvs := [(.tmp 4, .bool)]) (by kernel_rfl) (by kernel_rfl) (by kernel_rfl) ?_
  intro ds k ⟨hp, hk⟩ hwf
  obtain ⟨l, t, rfl, -⟩ := dest2 hp
  refine ⟨[], ?_⟩
  rw [vcHasI]
  exact ⟨trivial, hk⟩

theorem check_vc (b : Bag) (hl : b.2.1.length ≤ maxLen) (k : List Dat → Prop) (hk : k [⟨tErr, chkB b⟩]) : vcF ⟨Eb, [(37, cTags), (38, cHasT)], [], [], []⟩ (anCheck b) (Tryd.f12.body.getD .skip) Tryd.f12.ntmps [(.tmp 2, tErr)] [⟨tB, b⟩] k := by
  rw [vcCheck]
  have hml : maxLen ≤ 9223372036854775807 := by decide
  have ret : ∀ x : Int, chkB b = x → k [⟨tErr, x⟩] := by rintro _ rfl; exact hk
  simp only [decide_eq_true_eq, decide_eq_false_iff_not, true_and, and_true, Bool.not_eq_true', Bool.not_eq_false', Int.toNat_natCast, inK_i64]
  refine ⟨fun h => ret _ (by unfold chkB; rw [if_neg h]), fun h => ⟨fun h2 => ret _ (by unfold chkB; rw [if_pos h, if_neg h2]), fun h2 => ⟨⟨0, ⟨?_, Nat.zero_le _⟩, rfl⟩, fun x ⟨ho, hx⟩ => ⟨fun hlt => ?_, fun hge => ret _ ?_⟩⟩⟩⟩
  · unfold chkB; rw [if_pos h, if_pos h2, Nat.sub_zero]
  · have hxl : x < b.2.1.length := by omega
    have hs : goneF b (b.2.1.length - x) x = if hasT b.1 (b.2.1.getD x tag0) = true then goneF b (b.2.1.length - (x + 1)) (x + 1) else 6 := by
      rw [show b.2.1.length - x = (b.2.1.length - (x + 1)) + 1 by omega]; rfl
    refine ⟨by omega, hlt, fun he => ⟨by decide, ret _ ?_⟩, fun hne => ⟨by omega, x + 1, ⟨?_, by omega⟩, by omega, by omega⟩⟩
    · rw [ho, hs, if_neg (by rw [show hasT b.1 (b.2.1.getD x tag0) = false from he]; decide)]
    · rw [ho, hs, if_pos (show hasT b.1 (b.2.1.getD x tag0) = true from hne)]
  · have : x = b.2.1.length := by omega
    rw [ho, this, Nat.sub_self]; rfl

theorem okCheck : PlainOk Tryd.prog [] 12 cCheck := by
  refine plain_of (CxOk.mk' Eb_ok (by kernel_rfl) mixed (gl := []) (GOk.cons okTags Tryd.func37 (by kernel_rfl) (by kernel_rfl) (GOk.cons okHasT Tryd.func38 (by kernel_rfl) (by kernel_rfl) GOk.nil)) GoOk.nil noIt) Tryd.func12 (c := Tryd.f12.body.getD .skip) (rvs := [(.tmp 2, tErr)]) (by kernel_rfl) (by kernel_rfl) (by kernel_rfl) ?_
  intro ds k ⟨hp, hk⟩ hwf
  obtain ⟨b, rfl, -⟩ := dest1 hp
  exact ⟨anCheck b, check_vc b (wf1 hwf).2.1.1 k hk⟩

theorem counts_vc (l : List Int) (hl : l.length ≤ maxLen) (k : List Dat → Prop) (hk : k [⟨tErr, cntE l⟩]) : vcF ⟨Eb, [(33, cWithin)], [], [], []⟩ (anCounts l) (Tryd.f7.body.getD .skip) Tryd.f7.ntmps [(.tmp 2, tErr)] [⟨.sl I, l⟩] k := by
  rw [vcCounts]
  have hml : maxLen ≤ 9223372036854775807 := by decide
  have ret : ∀ x : Int, cntE l = x → k [⟨tErr, x⟩] := by rintro _ rfl; exact hk
  simp only [decide_eq_true_eq, decide_eq_false_iff_not, true_and, and_true, Bool.not_eq_true', Bool.not_eq_false', Int.toNat_natCast, inK_i64]
  refine ⟨fun h => ⟨by decide, ret _ (by unfold cntE; rw [if_pos (by omega)])⟩, fun h => ⟨fun h2 => ⟨by decide, ret _ (by unfold cntE; rw [if_neg (by omega), if_pos (by omega)])⟩, fun h2 => ⟨⟨0, ⟨?_, Nat.zero_le _⟩, rfl⟩, fun x ⟨ho, hx⟩ => ⟨fun hlt => ?_, fun hge => ret _ ?_⟩⟩⟩⟩
  · unfold cntE; rw [if_neg (by omega), if_neg (by omega), Nat.sub_zero]
  · have hxl : x < l.length := by omega
    have hs : cntF l (l.length - x) x = if inB (l.getD x 0) 0 1000000 = true then cntF l (l.length - (x + 1)) (x + 1) else 1 := by
      rw [show l.length - x = (l.length - (x + 1)) + 1 by omega]; rfl
    refine ⟨by omega, hlt, fun he => ⟨by decide, ret _ ?_⟩, fun hne => ⟨by omega, x + 1, ⟨?_, by omega⟩, by omega, by omega⟩⟩
    · rw [ho, hs, if_neg (by rw [he]; decide)]
    · rw [ho, hs, if_pos hne]
  · have : x = l.length := by omega
    rw [ho, this, Nat.sub_self]; rfl

theorem okCounts : PlainOk Tryd.prog [] 7 cCounts := by
  refine plain_of (CxOk.mk' Eb_ok (by kernel_rfl) mixed (gl := []) (GOk.cons okWithin Tryd.func33 (by kernel_rfl) (by kernel_rfl) GOk.nil) GoOk.nil noIt) Tryd.func7 (c := Tryd.f7.body.getD .skip) (rvs := [(.tmp 2, tErr)]) (by kernel_rfl) (by kernel_rfl) (by kernel_rfl) ?_
  intro ds k ⟨hp, hk⟩ hwf
  obtain ⟨l, rfl, -⟩ := dest1 hp
  exact ⟨anCounts l, counts_vc l (wf1 hwf).1 k hk⟩

theorem take_succ_eq {α : Type} {a b : List α} {x : Nat} (ha : x < a.length) (hb : x < b.length) (h : a.take x = b.take x) (d : α) (he : a.getD x d = b.getD x d) : a.take (x + 1) = b.take (x + 1) := by
  rw [List.getD_eq_getElem?_getD, List.getD_eq_getElem?_getD, List.getElem?_eq_getElem ha, List.getElem?_eq_getElem hb] at he
  have he' : a[x] = b[x] := by simpa using he
  rw [List.take_succ_eq_append_getElem ha, List.take_succ_eq_append_getElem hb, h, he']

theorem ints_vc (a b : List Int) (hl : a.length ≤ maxLen) (k : List Dat → Prop) (hk : k [⟨.bool, decide (a = b)⟩]) : vcF ⟨Eb, [], [], [], []⟩ (anInts a b) (Tryd.f9.body.getD .skip) Tryd.f9.ntmps [(.tmp 4, .bool)] [⟨.sl I, a⟩, ⟨.sl I, b⟩] k := by
  rw [vcInts]
  have hml : maxLen ≤ 9223372036854775807 := by decide
  have ret : ∀ x : Bool, decide (a = b) = x → k [⟨.bool, x⟩] := by rintro _ rfl; exact hk
  simp only [decide_eq_true_eq, decide_eq_false_iff_not, true_and, and_true, Bool.not_eq_true', Bool.not_eq_false', Int.toNat_natCast, inK_i64]
  refine ⟨fun h => ret _ (decide_eq_false fun e => h (by rw [e])), fun h => ⟨⟨0, ⟨Nat.zero_le _, by omega, by simp⟩, rfl⟩, fun x ⟨hx, hab, ho⟩ => ⟨fun hlt => ?_, fun hge => ret _ ?_⟩⟩⟩
  · refine ⟨⟨by omega, hlt, by omega, by omega⟩, fun he => ret _ (decide_eq_false fun e => he (by rw [e])), fun he => ⟨by omega, x + 1, ⟨by omega, hab, take_succ_eq (by omega) (by omega) ho 0 he⟩, by omega, by omega⟩⟩
  · have hxl : x = a.length := by omega
    rw [hxl, List.take_length, hab, List.take_length] at ho
    exact decide_eq_true ho

theorem okInts : PlainOk Tryd.prog [] 9 cInts := by
  refine plain_of (CxOk.mk' Eb_ok (by kernel_rfl) mixed (gl := []) GOk.nil GoOk.nil noIt) Tryd.func9 (c := Tryd.f9.body.getD .skip) (rvs := [(.tmp 4, .bool)]) (by kernel_rfl) (by kernel_rfl) (by kernel_rfl) ?_
  intro ds k ⟨hp, hk⟩ hwf
  obtain ⟨a, b, rfl, -⟩ := dest2 hp
  exact ⟨anInts a b, ints_vc a b (wf2 hwf).1.1 k hk⟩

theorem sameT_vc (a b : List Tag) (hl : a.length ≤ maxLen) (k : List Dat → Prop) (hk : k [⟨.bool, decide (a = b)⟩]) : vcF ⟨Eb, [], [], [], []⟩ (anSameT a b) (Tryd.f42.body.getD .skip) Tryd.f42.ntmps [(.tmp 4, .bool)] [⟨.sl tT, a⟩, ⟨.sl tT, b⟩] k := by
  rw [vcSameT]
  have hml : maxLen ≤ 9223372036854775807 := by decide
  have ret : ∀ x : Bool, decide (a = b) = x → k [⟨.bool, x⟩] := by rintro _ rfl; exact hk
  simp only [decide_eq_true_eq, decide_eq_false_iff_not, true_and, and_true, Bool.not_eq_true', Bool.not_eq_false', Int.toNat_natCast, inK_i64, tag_eqB]
  refine ⟨fun h => ret _ (decide_eq_false fun e => h (by rw [e])), fun h => ⟨⟨0, ⟨Nat.zero_le _, by omega, by simp⟩, rfl⟩, fun x ⟨hx, hab, ho⟩ => ⟨fun hlt => ?_, fun hge => ret _ ?_⟩⟩⟩
  · refine ⟨⟨by omega, hlt, by omega, by omega⟩, fun he => ret _ (decide_eq_false fun e => he (by rw [e])), fun he => ⟨by omega, x + 1, ⟨by omega, hab, take_succ_eq (by omega) (by omega) ho _ he⟩, by omega, by omega⟩⟩
  · have hxl : x = a.length := by omega
    rw [hxl, List.take_length, hab, List.take_length] at ho
    exact decide_eq_true ho

theorem okSameT : PlainOk Tryd.prog [] 42 cSameT := by
  refine plain_of (CxOk.mk' Eb_ok (by kernel_rfl) mixed (gl := []) GOk.nil GoOk.nil noIt) Tryd.func42 (c := Tryd.f42.body.getD .skip) (rvs := [(.tmp 4, .bool)]) (by kernel_rfl) (by kernel_rfl) (by kernel_rfl) ?_
  intro ds k ⟨hp, hk⟩ hwf
  obtain ⟨a, b, rfl, -⟩ := dest2 hp
  exact ⟨anSameT a b, sameT_vc a b (wf2 hwf).1.1 k hk⟩

theorem okSameB : PlainOk Tryd.prog [] 17 cSameB := by
  refine plain_of (CxOk.mk' Eb_ok (by kernel_rfl) mixed (gl := []) (GOk.cons okSameT Tryd.func42 (by kernel_rfl) (by kernel_rfl) GOk.nil) GoOk.nil noIt) Tryd.func17 (c := Tryd.f17.body.getD .skip) (rvs := [(.tmp 4, .bool)]) (by kernel_rfl) (by kernel_rfl) (by kernel_rfl) ?_
  intro ds k ⟨hp, hk⟩ hwf
  obtain ⟨a, b, rfl, -⟩ := dest2 hp
  refine ⟨[joinAll], ?_⟩
  revert hk
  generalize ha : a = x at *
  generalize hb : b = y at *
  obtain ⟨x1, x2, _⟩ := x
  obtain ⟨y1, y2, _⟩ := y
  intro hk
  rw [vcSameB]
  have ret : ∀ z : Bool, (decide (x1 = y1) && decide (x2 = y2)) = z → k [⟨.bool, z⟩] := by rintro _ rfl; exact hk
  exact ⟨trivial, fun h => ⟨trivial, ret _ (by rw [show decide (x1 = y1) = true from h, Bool.true_and])⟩, fun h => ret _ (by rw [show decide (x1 = y1) = false from h, Bool.false_and])⟩

theorem ownClone : OwnOk Tryd.prog [] 40 oClone := by
  refine own_nilrow (oc := fun args ob k => ∃ l : List Tag, args = [.d (.sl tT) l] ∧ ob = [] ∧ l.length ≤ 1000000000 ∧ (l = [] → k .nils []) ∧ k (.os 0) [.row 46 tT l]) ?_ 46 tT ?_
  · refine own_of (CxOk.mk' Eb_ok (by kernel_rfl) mixed (gl := []) GOk.nil GoOk.nil noIt) Tryd.func40 (c := Tryd.f40.body.getD .skip) (rvs := [(.tmp 2, .un)]) (by kernel_rfl) (by kernel_rfl) (by kernel_rfl) ?_
    rintro args ob k ⟨l, rfl, rfl, hl, h1, h2⟩ hwa hwo
    refine ⟨[], ?_⟩
    rw [vcClone]
    exact fun b hb => ⟨fun e => h1 (hb e), fun _ => ⟨by simpa using hl, h2⟩⟩
  · intro args ob k h
    unfold oClone at h
    split at h
    · rename_i l
      exact ⟨rfl, l, rfl, rfl, h.1, (fun e => by subst e; exact h.2), h.2⟩
    · exact h.elim

theorem ownCloneI : OwnOk Tryd.prog [] 34 oCloneI := by
  refine own_nilrow (oc := fun args ob k => ∃ l : List Int, args = [.d (.sl I) l] ∧ ob = [] ∧ l.length ≤ 1000000000 ∧ (l = [] → k .nils []) ∧ k (.os 0) [.row 3 I l]) ?_ 3 I ?_
  · refine own_of (CxOk.mk' Eb_ok (by kernel_rfl) mixed (gl := []) GOk.nil GoOk.nil noIt) Tryd.func34 (c := Tryd.f34.body.getD .skip) (rvs := [(.tmp 2, .un)]) (by kernel_rfl) (by kernel_rfl) (by kernel_rfl) ?_
    rintro args ob k ⟨l, rfl, rfl, hl, h1, h2⟩ hwa hwo
    refine ⟨[], ?_⟩
    rw [vcCloneI]
    exact fun b hb => ⟨fun e => h1 (hb e), fun _ => ⟨by simpa using hl, h2⟩⟩
  · intro args ob k h
    unfold oCloneI at h
    split at h
    · rename_i l
      exact ⟨rfl, l, rfl, rfl, h.1, (fun e => by subst e; exact h.2), h.2⟩
    · exact h.elim

theorem ownGrow : OwnOk Tryd.prog [] 61 oGrow := by
  refine own_nilrow (oc := fun args ob k => ∃ n : Int, args = [.nils, .d I n] ∧ ob = [] ∧ (0 ≤ n ∧ n ≤ 1000000000) ∧ k .nils [] ∧ k (.os 0) [.row 46 tT ([] : List Tag)]) ?_ 46 tT ?_
  · refine own_of (CxOk.mk' Eb_ok (by kernel_rfl) mixed (gl := []) GOk.nil GoOk.nil noIt) Tryd.func61 (c := Tryd.f61.body.getD .skip) (rvs := [(.tmp 4, .un)]) (by kernel_rfl) (by kernel_rfl) (by kernel_rfl) ?_
    rintro args ob k ⟨n, rfl, rfl, ⟨hn0, hn1⟩, h1, h2⟩ hwa hwo
    refine ⟨[joinAll], ?_⟩
    rw [vcGrow]
    simp only [decide_eq_true_eq, decide_eq_false_iff_not, true_and, inK_i64, Int.sub_zero]
    refine ⟨fun h => by omega, fun _ => ⟨by omega, by omega, fun _ => ⟨⟨by omega, by omega⟩, ⟨Int.le_refl _, by omega⟩, h2⟩, fun _ => h1⟩⟩
  · intro args ob k h
    unfold oGrow at h
    split at h
    · rename_i n
      exact ⟨rfl, n, rfl, rfl, h.1, h.2, h.2⟩
    · exact h.elim

theorem sumL_le (ls : List (List Tag)) : ∀ n, sumL ls n ≤ sumL ls ls.length := by
  intro n
  unfold sumL
  rw [List.take_length]
  have h : ls.map List.length = (ls.take n).map List.length ++ (ls.drop n).map List.length := by rw [← List.map_append, List.take_append_drop]
  rw [h, List.sum_append]; omega
theorem sumL_succ (ls : List (List Tag)) {n : Nat} (h : n < ls.length) : sumL ls (n + 1) = sumL ls n + (ls.getD n []).length := by
  unfold sumL
  rw [List.take_succ_eq_append_getElem h, List.map_append, List.sum_append, List.getD_eq_getElem?_getD, List.getElem?_eq_getElem h]; simp
theorem flat_len (ls : List (List Tag)) (n : Nat) : (ls.take n).flatten.length = sumL ls n := by unfold sumL; rw [List.length_flatten]
theorem flat_succ (ls : List (List Tag)) {n : Nat} (h : n < ls.length) : (ls.take (n + 1)).flatten = (ls.take n).flatten ++ ls.getD n [] := by
  rw [List.take_succ_eq_append_getElem h, List.flatten_append, List.getD_eq_getElem?_getD, List.getElem?_eq_getElem h]; simp

theorem concat_vc (ls : List (List Tag)) (hl : ls.length ≤ maxLen) (hs : sumL ls ls.length ≤ 1000000000) (k : SV → List Ob → Prop) (hk : k (.os 0) [.row 46 tT (ls.flatten : List Tag)]) :
    vcO ⟨Eb, [], [], [], [(61, oGrow)]⟩ (anConcat ls) (Tryd.f44.body.getD .skip) Tryd.f44.ntmps [(.tmp 2, .un)] [.d (.sl (.sl tT)) ls] [] k := by
  rw [vcConcat]
  have hml : maxLen ≤ 9223372036854775807 := by decide
  simp only [decide_eq_true_eq, decide_eq_false_iff_not, true_and, and_true, Int.toNat_natCast, inK_i64]
  refine ⟨⟨0, Nat.zero_le _, rfl, rfl⟩, fun x hx => ⟨fun hlt => ?_, fun hge => ?_⟩⟩
  · have hxl : x < ls.length := by omega
    have h1 := sumL_succ ls hxl
    have h2 := sumL_le ls (x + 1)
    refine ⟨by omega, hlt, by omega, fun h => by omega, fun _ => ⟨by omega, x + 1, by omega, by omega, by omega, by omega⟩⟩
  · have h2 := sumL_le ls x
    refine ⟨by omega, ⟨0, Nat.zero_le _, rfl, rfl⟩, fun y hy => ⟨fun hlt => ?_, fun hge2 => ?_⟩⟩
    · have hyl : y < ls.length := by omega
      have h1 := sumL_succ ls hyl
      have h2 := sumL_le ls (y + 1)
      refine ⟨by omega, hlt, by rw [flat_len]; omega, by omega, y + 1, by omega, by omega, by omega, (flat_succ ls hyl).symm⟩
    · have : y = ls.length := by omega
      rw [this, List.take_length]; exact hk

theorem ownConcat : OwnOk Tryd.prog [] 44 oConcat := by
  refine own_of (CxOk.mk' Eb_ok (by kernel_rfl) mixed (gl := []) GOk.nil (GoOk.cons ownGrow Tryd.func61 (by kernel_rfl) (by kernel_rfl) GoOk.nil) noIt) Tryd.func44 (c := Tryd.f44.body.getD .skip) (rvs := [(.tmp 2, .un)]) (by kernel_rfl) (by kernel_rfl) (by kernel_rfl) ?_
  intro args ob k h hwa hwo
  unfold oConcat at h
  split at h
  · rename_i ls
    exact ⟨anConcat ls, concat_vc ls (show (Ty.sl (.sl tT)).wf ls from hwa _ (List.mem_singleton.2 rfl)).1 h.1 k h.2⟩
  · exact h.elim
end Go.Proofs.YtgcliogognkdkaaDoor

/- Nets: the small functions keep their contracts. -/
namespace Go.Proofs.YtgcliogognkdkaaDoor
open Go.Vc

theorem getD_memL {α : Type} {l : List α} {i : Nat} {d : α} (h : i < l.length) : l.getD i d ∈ l := by
  rw [List.getD_eq_getElem?_getD, List.getElem?_eq_getElem h]; exact List.getElem_mem h

theorem sawF_all {v w : List Int} : ∀ n, sawF v w n = true ↔ ∀ i, i < n → w.getD i 0 ≤ v.getD i 0
  | 0 => by simp [sawF]
  | n + 1 => by
    unfold sawF
    rw [Bool.and_eq_true, sawF_all n, decide_eq_true_eq]
    constructor
    · rintro ⟨h1, h2⟩ i hi
      by_cases h : i = n
      · subst h; exact h2
      · exact h1 i (by omega)
    · intro h; exact ⟨fun i hi => h i (by omega), h n (by omega)⟩
theorem saw_vc (v w : Va) (hw : v.1.length ≤ w.1.length) (hl : v.1.length ≤ maxLen) (k : List Dat → Prop) (hk : k [⟨.bool, sawB v w⟩]) : vcF ⟨Eg, [], [], [], []⟩ (anSaw v w) (Tryd.f50.body.getD .skip) Tryd.f50.ntmps [(.tmp 4, .bool)] [⟨tV, v⟩, ⟨tV, w⟩] k := by
  rw [vcSaw]
  have hml : maxLen ≤ 9223372036854775807 := by decide
  have ret : ∀ x : Bool, sawB v w = x → k [⟨.bool, x⟩] := by rintro _ rfl; exact hk
  simp only [decide_eq_true_eq, decide_eq_false_iff_not, true_and, and_true, Int.toNat_natCast, inK_i64]
  refine ⟨⟨0, ⟨Nat.zero_le _, rfl⟩, rfl⟩, fun x ⟨hx, hs⟩ => ⟨fun hlt => ?_, fun hge => ret _ ?_⟩⟩
  · have hxl : x < v.1.length := by omega
    refine ⟨⟨by omega, by omega, by omega, hlt⟩, fun hc => ret _ ?_, fun hc => ⟨by omega, x + 1, ⟨by omega, ?_⟩, by omega, by omega⟩⟩
    · cases hq : sawB v w with
      | false => rfl
      | true =>
        have := (sawF_all _).1 hq x hxl
        omega
    · unfold sawF; rw [hs, decide_eq_true (by omega)]; rfl
  · have : x = v.1.length := by omega
    subst this; exact hs
theorem okSaw : PlainOk Tryd.prog [] 50 cSaw := by
  refine plain_of (CxOk.mk' Eg_ok (by kernel_rfl) mixed (gl := []) GOk.nil GoOk.nil noIt) Tryd.func50 (c := Tryd.f50.body.getD .skip) (rvs := [(.tmp 4, .bool)]) (by kernel_rfl) (by kernel_rfl) (by kernel_rfl) ?_
  intro ds k ⟨hp, hk⟩ hwf
  obtain ⟨v, w, rfl, hw, -⟩ := dest2 hp
  exact ⟨anSaw v w, saw_vc v w hw (wf2 hwf).1.1.1 k hk⟩

theorem okIs : PlainOk Tryd.prog [] 47 cIs := by
  refine plain_of (CxOk.mk' Eg_ok (by kernel_rfl) mixed (gl := []) (GOk.cons okWithin Tryd.func33 (by kernel_rfl) (by kernel_rfl) GOk.nil) GoOk.nil noIt) Tryd.func47 (c := Tryd.f47.body.getD .skip) (rvs := [(.tmp 6, .bool)]) (by kernel_rfl) (by kernel_rfl) (by kernel_rfl) ?_
  intro ds k hk hwf
  obtain ⟨t, p, q, rfl, hk⟩ := gdest3 hk
  refine ⟨[joinAll], ?_⟩
  cases t with
  | none => exact hk.elim
  | some t =>
    have hl : t.1.length ≤ maxLen := ((wf3 hwf).1 t rfl).1.1
    have hml : maxLen ≤ 9223372036854775807 := by decide
    rw [vcIs]
    have ret : ∀ x : Bool, inNet t p q = x → k [⟨.bool, x⟩] := by rintro _ rfl; exact hk
    refine ⟨inK_i64.2 (by omega), trivial, fun h => ⟨trivial, ret _ (by unfold inNet; rw [h, Bool.true_and])⟩, fun h => ret _ (by unfold inNet; rw [h, Bool.false_and])⟩

theorem lex_vc (a b : List Int) (hl : a.length ≤ maxLen) (k : List Dat → Prop) (hk : k [⟨I, lexI a b⟩]) : vcF ⟨Eg, [(54, cCmp)], [], [], []⟩ (anLex a b) (Tryd.f53.body.getD .skip) Tryd.f53.ntmps [(.tmp 6, I)] [⟨.sl I, a⟩, ⟨.sl I, b⟩, ⟨.fn 54 .un, some ()⟩] k := by
  rw [vcLex]
  have hml : maxLen ≤ 9223372036854775807 := by decide
  have ret : ∀ x : Int, lexI a b = x → k [⟨I, x⟩] := by rintro _ rfl; exact hk
  simp only [decide_eq_true_eq, decide_eq_false_iff_not, true_and, and_true, Int.toNat_natCast, inK_i64, Bool.not_eq_true', Bool.not_eq_false']
  refine ⟨⟨0, ⟨rfl, Nat.zero_le _⟩, rfl⟩, fun x ⟨ho, hx⟩ => ⟨fun hlt => ?_, fun hge => ⟨fun h => ret _ ?_, fun h => ret _ ?_⟩⟩⟩
  · have hxl : x < a.length := by omega
    have hs : lexF a b (a.length - x) x = if b.length ≤ x then 1 else if cmpI (a.getD x 0) (b.getD x 0) = 0 then lexF a b (a.length - (x + 1)) (x + 1) else cmpI (a.getD x 0) (b.getD x 0) := by
      rw [show a.length - x = (a.length - (x + 1)) + 1 by omega]; rfl
    refine ⟨by omega, hlt, fun h1 => ret _ ?_, fun h1 => ⟨by omega, by omega, fun h2 => ret _ ?_, fun h2 => ⟨by omega, x + 1, ⟨?_, by omega⟩, by omega, by omega⟩⟩⟩
    · rw [ho, hs, if_pos (by omega)]
    · rw [ho, hs, if_neg (by omega), if_neg h2]
    · rw [ho, hs, if_neg (by omega), if_pos h2]
  · have : x = a.length := by omega
    rw [ho, this, Nat.sub_self]
    unfold lexF; rw [if_pos h, if_pos rfl]
  · have : x = a.length := by omega
    rw [ho, this, Nat.sub_self]
    unfold lexF; rw [if_neg h]
theorem okLex [Dn] : PlainOk Tryd.prog [] 53 cLex := by
  refine plain_of (CxOk.mk' Eg_ok (by kernel_rfl) mixed (gl := []) (GOk.cons okCmp Tryd.func54 (by kernel_rfl) (by kernel_rfl) GOk.nil) GoOk.nil noIt) Tryd.func53 (c := Tryd.f53.body.getD .skip) (rvs := [(.tmp 6, I)]) (by kernel_rfl) (by kernel_rfl) (by kernel_rfl) ?_
  intro ds k ⟨hp, hk⟩ hwf
  obtain ⟨a, b, f, rfl, hf⟩ := dest3 hp
  cases f with
  | none => cases hf
  | some u => exact ⟨anLex a b, lex_vc a b (wf3 hwf).1.1 k hk⟩
theorem okLexV [Dn] : PlainOk Tryd.prog [] 52 cLexV := by
  refine plain_of (CxOk.mk' Eg_ok (by kernel_rfl) mixed (gl := []) (GOk.cons okLex Tryd.func53 (by kernel_rfl) (by kernel_rfl) GOk.nil) GoOk.nil noIt) Tryd.func52 (c := Tryd.f52.body.getD .skip) (rvs := [(.tmp 4, I)]) (by kernel_rfl) (by kernel_rfl) (by kernel_rfl) ?_
  intro ds k ⟨hp, hk⟩ hwf
  obtain ⟨v, w, rfl, -⟩ := dest2 hp
  refine ⟨[], ?_⟩
  rw [vcLexV]
  exact ⟨rfl, hk⟩

theorem va_eqB {v w : Va} : (!decide (v.2.1 = w.2.1) || !decide (v.1 = w.1)) = !decide (v = w) := by
  obtain ⟨a, b, _⟩ := v
  obtain ⟨c, d, _⟩ := w
  by_cases h1 : b = d
  · by_cases h2 : a = c
    · subst h1; subst h2; simp
    · simp [h1, h2]
  · simp [h1]
theorem values_vc (a b : List Va) (hl : a.length ≤ maxLen) (k : List Dat → Prop) (hk : k [⟨.bool, decide (a = b)⟩]) : vcF ⟨Eg, [(9, cInts)], [], [], []⟩ (anValues a b) (Tryd.f29.body.getD .skip) Tryd.f29.ntmps [(.tmp 4, .bool)] [⟨.sl tV, a⟩, ⟨.sl tV, b⟩] k := by
  rw [vcValues]
  have hml : maxLen ≤ 9223372036854775807 := by decide
  have ret : ∀ x : Bool, decide (a = b) = x → k [⟨.bool, x⟩] := by rintro _ rfl; exact hk
  simp only [decide_eq_true_eq, decide_eq_false_iff_not, true_and, and_true, Bool.not_eq_true', Bool.not_eq_false', Int.toNat_natCast, inK_i64, va_eqB, implies_true]
  refine ⟨fun h => ret _ (decide_eq_false fun e => h (by rw [e])), fun h => ⟨⟨0, ⟨Nat.zero_le _, by omega, by simp⟩, rfl⟩, fun x ⟨hx, hab, ho⟩ => ⟨fun hlt => ?_, fun hge => ret _ ?_⟩⟩⟩
  · refine ⟨⟨by omega, hlt, by omega, by omega, fun _ => ⟨by omega, hlt, by omega, by omega⟩⟩, fun he => ret _ (decide_eq_false fun e => he (by rw [e])), fun he => ⟨by omega, x + 1, ⟨by omega, hab, take_succ_eq (by omega) (by omega) ho _ he⟩, by omega, by omega⟩⟩
  · have hxl : x = a.length := by omega
    rw [hxl, List.take_length, hab, List.take_length] at ho
    exact decide_eq_true ho
theorem okValues : PlainOk Tryd.prog [] 29 cValues := by
  refine plain_of (CxOk.mk' Eg_ok (by kernel_rfl) mixed (gl := []) (GOk.cons okInts Tryd.func9 (by kernel_rfl) (by kernel_rfl) GOk.nil) GoOk.nil noIt) Tryd.func29 (c := Tryd.f29.body.getD .skip) (rvs := [(.tmp 4, .bool)]) (by kernel_rfl) (by kernel_rfl) (by kernel_rfl) ?_
  intro ds k ⟨hp, hk⟩ hwf
  obtain ⟨a, b, rfl, -⟩ := dest2 hp
  exact ⟨anValues a b, values_vc a b (wf2 hwf).1.1 k hk⟩

theorem okCloneI : PlainOk Tryd.prog [] 34 cCloneI := by
  refine plain_of_own ownCloneI ?_
  intro ds k ⟨hp, hk⟩
  obtain ⟨l, rfl, hl, -⟩ := dest1 hp
  exact ⟨hl, .sl I, l, true, rfl, hk⟩

theorem read_vc (t : Net) (p q : Int) (hN : NetLen t) (k : List Dat → Prop) (hk : k [⟨.sl tV, readF t p q⟩]) :
    vcF ⟨Eg, [(34, cCloneI), (47, cIs)], [], [], []⟩ (anRead t p q) (Tryd.f30.body.getD .skip) Tryd.f30.ntmps [(.tmp 6, .sl tV)] [⟨.ptr tNet, some t⟩, ⟨I, p⟩, ⟨I, q⟩] k := by
  rw [vcRead]
  have e0 : (List.getD t.1 p.toNat (List.replicate 4 [])).getD q.toNat [] = valsAt t p q := rfl
  have e1 : ∀ y : Va, (List.replicate 1 va0).set 0 y = [y] := fun _ => rfl
  have ea : ∀ (m n : List Va), List.append m n = m ++ n := fun _ _ => rfl
  have e2 : ∀ y : Va, (y.1, y.2.1, ()) = y := fun _ => rfl
  simp only [e0, e1, ea, e2, decide_eq_true_eq, decide_eq_false_iff_not, true_and, and_true, Bool.not_eq_true', Bool.not_eq_false', Int.toNat_natCast, inK_i64]
  refine ⟨fun h => ?_, fun h => ?_⟩
  · unfold readF at hk; rw [if_neg (by rw [h]; decide)] at hk; exact hk
  · unfold readF at hk; rw [if_pos h] at hk
    have hin : (0 ≤ p ∧ p < (t.1.length : Int)) ∧ 0 ≤ q ∧ q ≤ 3 := by
      unfold inNet inB at h
      simp only [Bool.and_eq_true, decide_eq_true_eq] at h; omega
    have hr : (List.getD t.1 p.toNat (List.replicate 4 [])) ∈ t.1 := getD_memL (by omega)
    obtain ⟨hr4, hrl⟩ := hN.1 _ hr
    have hv : valsAt t p q ∈ (List.getD t.1 p.toNat (List.replicate 4 [])) := getD_memL (by rw [hr4]; omega)
    obtain ⟨hl1, hl2⟩ := hrl _ hv
    refine ⟨hin.1.1, hin.1.2, hin.2.1, by omega, ⟨0, ⟨Nat.zero_le _, h⟩, rfl, rfl⟩, fun x ⟨hx, _⟩ => ⟨fun hlt => ?_, fun hge => ?_⟩⟩
    · have hxl : x < (valsAt t p q).length := by omega
      have hxm : (valsAt t p q).getD x va0 ∈ valsAt t p q := by
        rw [List.getD_eq_getElem?_getD, List.getElem?_eq_getElem hxl]; exact List.getElem_mem _
      have := hl2 _ hxm
      refine ⟨by omega, hlt, by omega, ?_, by omega, x + 1, ⟨by omega, h⟩, by omega, by omega, ?_⟩
      · rw [List.length_take]; simp only [List.length_cons, List.length_nil]; omega
      · rw [List.take_succ_eq_append_getElem hxl, List.getD_eq_getElem?_getD, List.getElem?_eq_getElem hxl]; rfl
    · have : x = (valsAt t p q).length := by omega
      rw [this, List.take_length]; exact hk
theorem okRead : PlainOk Tryd.prog [] 30 cRead := by
  refine plain_of (CxOk.mk' Eg_ok (by kernel_rfl) mixed (gl := []) (GOk.cons okCloneI Tryd.func34 (by kernel_rfl) (by kernel_rfl) (GOk.cons okIs Tryd.func47 (by kernel_rfl) (by kernel_rfl) GOk.nil)) GoOk.nil noIt) Tryd.func30 (c := Tryd.f30.body.getD .skip) (rvs := [(.tmp 6, .sl tV)]) (by kernel_rfl) (by kernel_rfl) (by kernel_rfl) ?_
  intro ds k hk hwf
  obtain ⟨t, p, q, rfl, hk⟩ := gdest3 hk
  cases t with
  | none => exact hk.elim
  | some t => exact ⟨anRead t p q, read_vc t p q hk.1 k hk.2⟩

theorem ownGrowV : OwnOk Tryd.prog [] 64 oGrowV := by
  refine own_nilrow (oc := fun args ob k => ∃ n : Int, args = [.nils, .d I n] ∧ ob = [] ∧ (0 ≤ n ∧ n ≤ 1000000000) ∧ k .nils [] ∧ k (.os 0) [.row 84 tV ([] : List Va)]) ?_ 84 tV ?_
  · refine own_of (CxOk.mk' Eg_ok (by kernel_rfl) mixed (gl := []) GOk.nil GoOk.nil noIt) Tryd.func64 (c := Tryd.f64.body.getD .skip) (rvs := [(.tmp 4, .un)]) (by kernel_rfl) (by kernel_rfl) (by kernel_rfl) ?_
    rintro args ob k ⟨n, rfl, rfl, ⟨hn0, hn1⟩, h1, h2⟩ hwa hwo
    refine ⟨[joinAll], ?_⟩
    rw [vcGrowV]
    simp only [decide_eq_true_eq, decide_eq_false_iff_not, true_and, inK_i64, Int.sub_zero]
    refine ⟨fun h => by omega, fun _ => ⟨by omega, by omega, fun _ => ⟨⟨by omega, by omega⟩, ⟨Int.le_refl _, by omega⟩, h2⟩, fun _ => h1⟩⟩
  · intro args ob k h
    unfold oGrowV at h
    split at h
    · rename_i n
      exact ⟨rfl, n, rfl, rfl, h.1, h.2, h.2⟩
    · exact h.elim
theorem sumV_le (ls : List (List Va)) : ∀ n, sumV ls n ≤ sumV ls ls.length := by
  intro n
  unfold sumV
  rw [List.take_length]
  have h : ls.map List.length = (ls.take n).map List.length ++ (ls.drop n).map List.length := by rw [← List.map_append, List.take_append_drop]
  rw [h, List.sum_append]; omega
theorem sumV_succ (ls : List (List Va)) {n : Nat} (h : n < ls.length) : sumV ls (n + 1) = sumV ls n + (ls.getD n []).length := by
  unfold sumV
  rw [List.take_succ_eq_append_getElem h, List.map_append, List.sum_append, List.getD_eq_getElem?_getD, List.getElem?_eq_getElem h]; simp
theorem flatV_len (ls : List (List Va)) (n : Nat) : (ls.take n).flatten.length = sumV ls n := by unfold sumV; rw [List.length_flatten]
theorem flatV_succ (ls : List (List Va)) {n : Nat} (h : n < ls.length) : (ls.take (n + 1)).flatten = (ls.take n).flatten ++ ls.getD n [] := by
  rw [List.take_succ_eq_append_getElem h, List.flatten_append, List.getD_eq_getElem?_getD, List.getElem?_eq_getElem h]; simp
theorem concatV_vc (ls : List (List Va)) (hl : ls.length ≤ maxLen) (hs : sumV ls ls.length ≤ 1000000000) (k : List Dat → Prop) (hk : k [⟨.sl tV, (ls.flatten : List Va)⟩]) :
    vcF ⟨Eg, [], [], [], [(64, oGrowV)]⟩ (anConcatV ls) (Tryd.f49.body.getD .skip) Tryd.f49.ntmps [(.tmp 2, .sl tV)] [⟨.sl (.sl tV), ls⟩] k := by
  rw [vcConcatV]
  have hml : maxLen ≤ 9223372036854775807 := by decide
  simp only [decide_eq_true_eq, decide_eq_false_iff_not, true_and, and_true, Int.toNat_natCast, inK_i64]
  refine ⟨⟨0, Nat.zero_le _, rfl, rfl⟩, fun x hx => ⟨fun hlt => ?_, fun hge => ?_⟩⟩
  · have hxl : x < ls.length := by omega
    have h1 := sumV_succ ls hxl
    have h2 := sumV_le ls (x + 1)
    refine ⟨by omega, hlt, by omega, fun h => by omega, fun _ => ⟨by omega, x + 1, by omega, by omega, by omega, by omega⟩⟩
  · have h2 := sumV_le ls x
    refine ⟨by omega, ⟨0, Nat.zero_le _, rfl, rfl⟩, fun y hy => ⟨fun hlt => ?_, fun hge2 => ?_⟩⟩
    · have hyl : y < ls.length := by omega
      have h1 := sumV_succ ls hyl
      have h2 := sumV_le ls (y + 1)
      refine ⟨by omega, hlt, by rw [flatV_len]; omega, by omega, y + 1, by omega, by omega, by omega, (flatV_succ ls hyl).symm⟩
    · have : y = ls.length := by omega
      rw [this, List.take_length]; exact hk
theorem okConcat : PlainOk Tryd.prog [] 49 cConcat := by
  refine plain_of (CxOk.mk' Eg_ok (by kernel_rfl) mixed (gl := []) GOk.nil (GoOk.cons ownGrowV Tryd.func64 (by kernel_rfl) (by kernel_rfl) GoOk.nil) noIt) Tryd.func49 (c := Tryd.f49.body.getD .skip) (rvs := [(.tmp 2, .sl tV)]) (by kernel_rfl) (by kernel_rfl) (by kernel_rfl) ?_
  intro ds k ⟨hp, hk⟩ hwf
  obtain ⟨ls, rfl, hl, -⟩ := dest1 hp
  exact ⟨anConcatV ls, concatV_vc ls (wf1 hwf).1 hl k hk⟩

theorem new_vc (n : Int) (k : SV → List Ob → Prop) (h1 : inB n 1 5 = false → k (.tp [.nilp, .d tErr (1 : Int)]) []) (h2 : inB n 1 5 = true → k (.tp [.ps 0, .d tErr (0 : Int)]) (obNet (newF n.toNat))) :
    vcO ⟨Eg, [(33, cWithin)], [], [], []⟩ [joinAll] (Tryd.f23.body.getD .skip) Tryd.f23.ntmps [(.tmp 2, .un), (.tmp 3, tErr)] [.d I n] [] k := by
  rw [vcNew]
  simp only [Bool.not_eq_true', Bool.not_eq_false', true_and, and_true]
  refine ⟨fun hb => ⟨by decide, h1 hb⟩, fun hb => ?_⟩
  have hn : 1 ≤ n ∧ n ≤ 5 := by
    unfold inB at hb
    simp only [Bool.and_eq_true, decide_eq_true_eq] at hb; omega
  have := h2 hb
  exact ⟨⟨by omega, Int.le_refl _, by omega, by omega, Int.le_refl _, by omega, this⟩, by omega, Int.le_refl _, by omega, by omega, Int.le_refl _, by omega, this⟩
theorem ownNew : OwnOk Tryd.prog [] 23 oNew := by
  refine own_of (CxOk.mk' Eg_ok (by kernel_rfl) mixed (gl := []) (GOk.cons okWithin Tryd.func33 (by kernel_rfl) (by kernel_rfl) GOk.nil) GoOk.nil noIt) Tryd.func23 (c := Tryd.f23.body.getD .skip) (rvs := [(.tmp 2, .un), (.tmp 3, tErr)]) (by kernel_rfl) (by kernel_rfl) (by kernel_rfl) ?_
  intro args ob k h hwa hwo
  unfold oNew at h
  split at h
  · rename_i n
    exact ⟨[joinAll], new_vc n k h.1 h.2⟩
  · exact h.elim
end Go.Proofs.YtgcliogognkdkaaDoor

/- Bags: what is added, dropped, joined; counters: what is counted. -/
namespace Go.Proofs.YtgcliogognkdkaaDoor
open Go.Vc
def srtP (xs ys : List Tag) : Prop := ys.Perm xs ∧ ys.Pairwise fun a b => 0 ≤ cmpT b a
def oSortT : OCtr := fun args ob k => match args, ob with
  | [.os 0, .d (.fn 56 .un) (some _)], [.row 46 (.pr (.int .i64) (.pr (.int .i64) (.pr (.int .i64) .un))) xs] => (xs : List Tag).length ≤ 1000000000 ∧ ∀ ys : List Tag, srtP xs ys → k (.tp []) [.row 46 (.pr (.int .i64) (.pr (.int .i64) (.pr (.int .i64) .un))) ys]
  | _, _ => False
/-- a tag in its place, once -/
def insT (t : Tag) : List Tag → List Tag
  | [] => [t]
  | x :: l => if cmpT t x < 0 then t :: x :: l else if cmpT x t < 0 then x :: insT t l else x :: l
def srt (xs : List Tag) : List Tag := xs.foldr insT []
def oSorted : OCtr := fun args ob k => match args, ob with
  | [.os 0], [.row 46 (.pr (.int .i64) (.pr (.int .i64) (.pr (.int .i64) .un))) xs] => (xs : List Tag).length ≤ 1000000000 ∧ k (.os 1) [.dead, .row 46 (.pr (.int .i64) (.pr (.int .i64) (.pr (.int .i64) .un))) (srt (xs : List Tag))]
  | _, _ => False
/-- the greatest count of a node so far -/
def maxC (l : List Tag) (node : Int) : Nat → Int
  | 0 => 0
  | i + 1 => if (l.getD i tag0).2.1 = node then max (maxC l node i) (l.getD i tag0).2.2.1 else maxC l node i
def addE (b : Bag) (elem node : Int) : Int :=
  if chkB b = 0 then (if (inB elem 0 9 && inB node 0 4) = true then (if b.1.length = 24 ∨ maxC b.1 node b.1.length = 1000000 then 4 else 0) else 1) else chkB b
def bag0 : Bag := ([], [], ())
def addB (b : Bag) (elem node : Int) : Bag := if addE b elem node = 0 then (srt (b.1 ++ [(elem, node, maxC b.1 node b.1.length + 1, ())]), b.2.1, ()) else bag0
def cAdd : Ctr := cdet [tB, I, I] (fun _ _ _ => True) (fun b e n => [⟨tB, addB b e n⟩, ⟨tErr, addE b e n⟩])
def Ebw (l : List Nat) : Env := { Eb with pz := l, pb := [25] }
theorem Ebw_ok (l : List Nat) : EnvOk Tryd.prog (Ebw l) := ⟨Eb_ok.ty, Eb_ok.err, Eb_ok.el, Eb_ok.mp⟩
def anAdd (b : Bag) (node : Int) : Ann := [joinAll, loopAt 8 Nat [] (fun st i => St.at (St.only st [1, 2, 3, 6, 29, 30]) [(9, .d I (maxC b.1 node i)), (31, .d I (i : Int))]) (fun _ i => i ≤ b.1.length ∧ chkB b = 0) (fun i => b.1.length - i)]
def dropE (b : Bag) (elem : Int) : Int := if chkB b = 0 then (if inB elem 0 9 = true then 0 else 1) else chkB b
def ofE (l : List Tag) (elem : Int) : List Tag := l.filter fun t => decide (t.1 = elem)
def dropB (b : Bag) (elem : Int) : Bag := if dropE b elem = 0 then (b.1, srt (b.2.1 ++ ofE b.1 elem), ()) else bag0
def cDrop : Ctr := cdet [tB, I] (fun _ _ => True) (fun b e => [⟨tB, dropB b e⟩, ⟨tErr, dropE b e⟩])
def anDrop (b : Bag) (elem : Int) : Ann := [joinAll,
  meetAt 7 Unit [] (fun st _ => { St.at (St.only st []) [(1, .d I elem), (2, .pv tB 0 []), (4, .ps 1), (7, .ps 4)] with ob := [.var 25 tB b, .st 25 [.nils, .nils], .row 46 tT b.1, .row 46 tT b.2.1, .st 25 [.os 2, .os 3]] }) (fun _ _ => dropE b elem = 0 ∧ True),
  loopAt 8 Nat [] (fun st i => { St.at (St.only st [1, 2, 4, 7, 29, 30]) [(31, .d I (i : Int))] with ob := [.var 25 tB b, .st 25 [.nils, .nils], .row 46 tT b.1, .row 46 tT (b.2.1 ++ ofE (b.1.take i) elem), .st 25 [.os 2, .os 3]] }) (fun _ i => i ≤ b.1.length ∧ dropE b elem = 0) (fun i => b.1.length - i)]
def joinE (a b : Bag) : Int := if chkB a = 0 then (if chkB b = 0 then (if 24 < (srt (a.1 ++ b.1)).length then 4 else 0) else chkB b) else chkB a
def joinB (a b : Bag) : Bag := if joinE a b = 0 then (srt (a.1 ++ b.1), srt (a.2.1 ++ b.2.1), ()) else bag0
def cJoin : Ctr := cdet [tB, tB] (fun _ _ => True) (fun a b => [⟨tB, joinB a b⟩, ⟨tErr, joinE a b⟩])
def anJoin (a b : Bag) : Ann := [joinAll,
  meetAt 8 Unit [] (fun st _ => { St.at (St.only st []) [(4, .ps 0), (8, .ps 3)] with ob := [.st 25 [.nils, .nils], .row 46 tT (srt (a.1 ++ b.1)), .row 46 tT (srt (a.2.1 ++ b.2.1)), .st 25 [.os 1, .os 2]] }) (fun _ _ => chkB a = 0 ∧ chkB b = 0)]
def elemsU (b : Bag) : Nat → List Int
  | 0 => []
  | i + 1 => if (!hasT b.2.1 (b.1.getD i tag0) && !hasI (elemsU b i) (b.1.getD i tag0).1) = true then elemsU b i ++ [(b.1.getD i tag0).1] else elemsU b i
def elems (b : Bag) : List Int := if chkB b = 0 then elemsU b b.1.length else []
def cElems : Ctr := cdet [tB] (fun _ => True) (fun b => [⟨.sl I, elems b⟩, ⟨tErr, chkB b⟩])
def anElems (b : Bag) : Ann := [joinAll, loopAt 6 Nat [(5, 3, I)] (fun st i => { St.at (St.only st [1, 5, 14, 15]) [(16, .d I (i : Int))] with ob := [.var 25 tB b, .row 3 I (elemsU b i)] }) (fun _ i => i ≤ b.1.length ∧ chkB b = 0) (fun i => b.1.length - i)]
def upE (v : List Int) (node : Int) : Int := if cntE v = 0 then (if inB node 0 ((v.length : Int) - 1) = true then (if v.getD node.toNat 0 = 1000000 then 4 else 0) else 1) else cntE v
def upR (v : List Int) (node : Int) : List Int := if upE v node = 0 then v.set node.toNat (v.getD node.toNat 0 + 1) else []
def cUp : Ctr := cdet [.sl I, I] (fun _ _ => True) (fun v n => [⟨.sl I, upR v n⟩, ⟨tErr, upE v n⟩])
def mostE (v w : List Int) : Int := if cntE v = 0 then (if cntE w = 0 then (if v.length = w.length then 0 else 3) else cntE w) else cntE v
def mostU (v w : List Int) : Nat → List Int
  | 0 => v
  | i + 1 => (mostU v w i).set i (max ((mostU v w i).getD i 0) (w.getD i 0))
def mostR (v w : List Int) : List Int := if mostE v w = 0 then mostU v w w.length else []
def cMost : Ctr := cdet [.sl I, .sl I] (fun _ _ => True) (fun v w => [⟨.sl I, mostR v w⟩, ⟨tErr, mostE v w⟩])
def anMost (v w : List Int) : Ann := [joinAll, loopAt 11 Nat [] (fun st i => { St.at (St.only st [8, 29, 30]) [(31, .d I (i : Int))] with ob := [.row 3 I (mostU v w i)] }) (fun _ i => i ≤ w.length ∧ mostE v w = 0) (fun i => w.length - i)]
end Go.Proofs.YtgcliogognkdkaaDoor

/- Tags in a row that rises: what sorting, and striking doubles, comes to. -/
namespace Go.Proofs.YtgcliogognkdkaaDoor
open Go.Vc

def ltT (a b : Tag) : Prop := a.1 < b.1 ∨ a.1 = b.1 ∧ (a.2.1 < b.2.1 ∨ a.2.1 = b.2.1 ∧ a.2.2.1 < b.2.2.1)
theorem cmpI_lt {a b : Int} : cmpI a b < 0 ↔ a < b := by
  unfold cmpI
  by_cases h : a < b
  · simp [h]
  · by_cases h2 : b < a <;> simp [h, h2]
theorem cmpI_z {a b : Int} : cmpI a b = 0 ↔ a = b := by
  unfold cmpI
  by_cases h : a < b
  · simp [h]; omega
  · by_cases h2 : b < a
    · simp [h, h2]; omega
    · simp [h, h2]; omega
theorem cmpT_lt {a b : Tag} : cmpT a b < 0 ↔ ltT a b := by
  unfold cmpT ltT
  simp only [orI]
  by_cases h1 : cmpI a.1 b.1 = 0
  · have e1 := cmpI_z.1 h1
    rw [if_pos h1]
    by_cases h2 : cmpI a.2.1 b.2.1 = 0
    · have e2 := cmpI_z.1 h2
      rw [if_pos h2]
      by_cases h3 : cmpI a.2.2.1 b.2.2.1 = 0
      · have e3 := cmpI_z.1 h3
        rw [if_pos h3]; omega
      · rw [if_neg h3, cmpI_lt]; omega
    · have e2 : ¬ a.2.1 = b.2.1 := fun e => h2 (cmpI_z.2 e)
      rw [if_neg h2, cmpI_lt]; omega
  · have e1 : ¬ a.1 = b.1 := fun e => h1 (cmpI_z.2 e)
    rw [if_neg h1, cmpI_lt]; omega
theorem cmpT_ge {a b : Tag} : 0 ≤ cmpT a b ↔ ¬ ltT a b := by rw [← cmpT_lt]; omega
theorem ltT_irrefl (a : Tag) : ¬ ltT a a := by unfold ltT; omega
theorem ltT_trans {a b c : Tag} (h : ltT a b) (k : ltT b c) : ltT a c := by unfold ltT at *; omega
theorem ltT_asymm {a b : Tag} (h : ltT a b) : ¬ ltT b a := fun k => ltT_irrefl a (ltT_trans h k)
theorem ltT_tri {a b : Tag} (h1 : ¬ ltT a b) (h2 : ¬ ltT b a) : a = b := by
  obtain ⟨a1, a2, a3, _⟩ := a
  obtain ⟨b1, b2, b3, _⟩ := b
  unfold ltT at h1 h2
  simp only at h1 h2
  have e1 : a1 = b1 := by omega
  have e2 : a2 = b2 := by omega
  have e3 : a3 = b3 := by omega
  rw [e1, e2, e3]

/-- rising, each once -/
abbrev SS (l : List Tag) : Prop := l.Pairwise ltT
theorem SS.ext : ∀ {l m : List Tag}, SS l → SS m → (∀ t, t ∈ l ↔ t ∈ m) → l = m
  | [], [], _, _, _ => rfl
  | [], y :: m, _, _, h => absurd ((h y).2 (List.mem_cons_self ..)) (by simp)
  | x :: l, [], _, _, h => absurd ((h x).1 (List.mem_cons_self ..)) (by simp)
  | x :: l, y :: m, hl, hm, h => by
    obtain ⟨hl1, hl2⟩ := List.pairwise_cons.1 hl
    obtain ⟨hm1, hm2⟩ := List.pairwise_cons.1 hm
    have hxy : x = y := by
      rcases List.mem_cons.1 ((h x).1 (List.mem_cons_self ..)) with e | e
      · exact e
      · rcases List.mem_cons.1 ((h y).2 (List.mem_cons_self ..)) with e2 | e2
        · exact e2.symm
        · exact absurd (hl1 y e2) (ltT_asymm (hm1 x e))
    subst hxy
    congr 1
    refine SS.ext hl2 hm2 fun t => ⟨fun ht => ?_, fun ht => ?_⟩
    · rcases List.mem_cons.1 ((h t).1 (List.mem_cons_of_mem _ ht)) with e | e
      · subst e; exact absurd (hl1 t ht) (ltT_irrefl t)
      · exact e
    · rcases List.mem_cons.1 ((h t).2 (List.mem_cons_of_mem _ ht)) with e | e
      · subst e; exact absurd (hm1 t ht) (ltT_irrefl t)
      · exact e

theorem mem_insT (t u : Tag) : ∀ l : List Tag, u ∈ insT t l ↔ u = t ∨ u ∈ l
  | [] => by simp [insT]
  | x :: l => by
    unfold insT
    split
    · simp
    · rename_i h1
      split
      · rw [List.mem_cons, mem_insT t u l, List.mem_cons]
        constructor
        · rintro (h | h | h)
          · exact .inr (.inl h)
          · exact .inl h
          · exact .inr (.inr h)
        · rintro (h | h | h)
          · exact .inr (.inl h)
          · exact .inl h
          · exact .inr (.inr h)
      · rename_i h2
        have : t = x := ltT_tri (fun h => h1 (cmpT_lt.2 h)) (fun h => h2 (cmpT_lt.2 h))
        subst this
        simp
theorem ss_insT (t : Tag) : ∀ {l : List Tag}, SS l → SS (insT t l)
  | [], _ => by simp [insT, SS]
  | x :: l, h => by
    obtain ⟨h1, h2⟩ := List.pairwise_cons.1 h
    unfold insT
    split
    · rename_i ht
      have ht := cmpT_lt.1 ht
      refine List.pairwise_cons.2 ⟨fun u hu => ?_, h⟩
      rcases List.mem_cons.1 hu with e | e
      · subst e; exact ht
      · exact ltT_trans ht (h1 u e)
    · split
      · rename_i hx
        have hx := cmpT_lt.1 hx
        refine List.pairwise_cons.2 ⟨fun u hu => ?_, ss_insT t h2⟩
        rcases (mem_insT t u l).1 hu with e | e
        · subst e; exact hx
        · exact h1 u e
      · exact h
theorem mem_srt {u : Tag} : ∀ {l : List Tag}, u ∈ srt l ↔ u ∈ l
  | [] => by simp [srt]
  | x :: l => by
    show u ∈ insT x (srt l) ↔ _
    rw [mem_insT, mem_srt (l := l), List.mem_cons]
theorem ss_srt : ∀ (l : List Tag), SS (srt l)
  | [] => List.Pairwise.nil
  | x :: l => ss_insT x (ss_srt l)
theorem srt_eq {l m : List Tag} (h : SS m) (he : ∀ t, t ∈ m ↔ t ∈ l) : srt l = m := SS.ext (ss_srt l) h fun t => mem_srt.trans (he t).symm
theorem insT_len (t : Tag) : ∀ l : List Tag, (insT t l).length ≤ l.length + 1
  | [] => by simp [insT]
  | x :: l => by
    unfold insT
    have := insT_len t l
    split
    · simp
    · split
      · simp only [List.length_cons]; omega
      · simp
theorem srt_len : ∀ l : List Tag, (srt l).length ≤ l.length
  | [] => Nat.le_refl _
  | x :: l => by
    have h1 := insT_len x (srt l)
    have h2 := srt_len l
    show (insT x (srt l)).length ≤ l.length + 1
    omega

theorem mem_cpt {u : Tag} : ∀ {l : List Tag}, u ∈ cpt l ↔ u ∈ l
  | [] => by simp [cpt]
  | [x] => by simp [cpt]
  | x :: y :: l => by
    unfold cpt
    split
    · rename_i h; subst h
      rw [mem_cpt (l := x :: l), List.mem_cons (a := u) (b := x) (l := x :: l)]
      exact ⟨.inr, fun h => h.elim (fun e => e ▸ List.mem_cons_self ..) id⟩
    · rw [List.mem_cons, mem_cpt (l := y :: l), List.mem_cons (b := x)]
theorem ss_cpt : ∀ {l : List Tag}, (l.Pairwise fun a b => ¬ ltT b a) → SS (cpt l)
  | [], _ => by simp [cpt, SS]
  | [x], _ => by simp [cpt, SS]
  | x :: y :: l, h => by
    obtain ⟨h1, h2⟩ := List.pairwise_cons.1 h
    unfold cpt
    split
    · exact ss_cpt h2
    · rename_i hne
      refine List.pairwise_cons.2 ⟨fun u hu => ?_, ss_cpt h2⟩
      have hu := mem_cpt.1 hu
      have hxy : ltT x y := by
        cases Classical.em (ltT x y) with
        | inl h => exact h
        | inr h => exact absurd (ltT_tri h (h1 y (List.mem_cons_self ..))) hne
      rcases List.mem_cons.1 hu with e | e
      · subst e; exact hxy
      · have := (List.pairwise_cons.1 h2).1 u e
        cases Classical.em (ltT y u) with
        | inl h => exact ltT_trans hxy h
        | inr h => rw [← ltT_tri h this]; exact hxy
theorem cpt_srt {xs ys : List Tag} (h : srtP xs ys) : cpt ys = srt xs := by
  refine (srt_eq (ss_cpt (h.2.imp fun h => cmpT_ge.1 h)) fun t => ?_).symm
  rw [mem_cpt]; exact h.1.mem_iff

theorem cpt_snoc (a b : Tag) : ∀ l : List Tag, cpt (l ++ [a] ++ [b]) = if a = b then cpt (l ++ [a]) else cpt (l ++ [a]) ++ [b]
  | [] => by
    by_cases h : a = b
    · subst h; simp [cpt]
    · simp [cpt, h]
  | [x] => by
    have := cpt_snoc a b []
    simp only [List.nil_append, List.cons_append] at this ⊢
    by_cases hx : x = a
    · subst hx
      simp only [cpt, if_true] at this ⊢
      exact this
    · simp only [cpt, if_neg hx] at this ⊢
      split
      · rename_i h; subst h; simp
      · simp
  | x :: y :: l => by
    have := cpt_snoc a b (y :: l)
    simp only [List.cons_append] at this ⊢
    by_cases hx : x = y
    · subst hx
      simp only [cpt, if_true]
      exact this
    · rw [cpt, if_neg hx, cpt, if_neg hx, this]
      split <;> simp
theorem cpt_step {l : List Tag} {n : Nat} (h1 : 1 ≤ n) (h2 : n < l.length) : cpt (l.take (n + 1)) = if l.getD (n - 1) tag0 = l.getD n tag0 then cpt (l.take n) else cpt (l.take n) ++ [l.getD n tag0] := by
  have e1 : l.take n = l.take (n - 1) ++ [l.getD (n - 1) tag0] := by
    have := List.take_succ_eq_append_getElem (show n - 1 < l.length by omega)
    rw [show n - 1 + 1 = n by omega] at this
    rw [this, List.getD_eq_getElem?_getD, List.getElem?_eq_getElem (show n - 1 < l.length by omega)]; rfl
  have e2 : l.take (n + 1) = l.take n ++ [l.getD n tag0] := by
    rw [List.take_succ_eq_append_getElem h2, List.getD_eq_getElem?_getD, List.getElem?_eq_getElem h2]; rfl
  rw [e2, e1]
  exact cpt_snoc _ _ _
end Go.Proofs.YtgcliogognkdkaaDoor

/- Values in a row by what they saw; what is left of values that are joined. -/
namespace Go.Proofs.YtgcliogognkdkaaDoor
open Go.Shelf Go.Proofs
open Go.Vc

theorem cmpI_neg (a b : Int) : cmpI b a = -cmpI a b := by
  unfold cmpI
  split <;> split <;> first | rfl | omega
theorem lexL_neg : ∀ a b : List Int, lexL b a = -lexL a b
  | [], [] => rfl
  | [], _ :: _ => rfl
  | _ :: _, [] => rfl
  | x :: a, y :: b => by
    unfold lexL
    rw [cmpI_neg x y, lexL_neg a b]
    by_cases h : cmpI x y = 0
    · rw [if_pos (by omega), if_pos h]
    · rw [if_neg (by omega), if_neg h]
theorem lexL_zero : ∀ {a b : List Int}, lexL a b = 0 ↔ a = b
  | [], [] => by simp [lexL]
  | [], _ :: _ => by simp [lexL]
  | _ :: _, [] => by simp [lexL]
  | x :: a, y :: b => by
    unfold lexL
    by_cases h : cmpI x y = 0
    · rw [if_pos h, lexL_zero, cmpI_z.1 h]; simp
    · rw [if_neg h]
      exact ⟨fun e => absurd e h, fun e => by injection e with e1; exact absurd (cmpI_z.2 e1) h⟩
theorem lexL_trans : ∀ {a b c : List Int}, lexL a b < 0 → lexL b c < 0 → lexL a c < 0
  | [], [], _, h, _ => by simp [lexL] at h
  | [], _ :: _, [], _, h => by simp [lexL] at h
  | [], _ :: _, _ :: _, _, _ => by simp [lexL]
  | _ :: _, [], _, h, _ => by simp [lexL] at h
  | _ :: _, _ :: _, [], _, h => by simp [lexL] at h
  | x :: a, y :: b, z :: c, h1, h2 => by
    unfold lexL at h1 h2 ⊢
    by_cases e1 : cmpI x y = 0
    · rw [if_pos e1] at h1
      have e1' := cmpI_z.1 e1; subst e1'
      by_cases e2 : cmpI x z = 0
      · rw [if_pos e2] at h2 ⊢; exact lexL_trans h1 h2
      · rw [if_neg e2] at h2 ⊢; exact h2
    · rw [if_neg e1] at h1
      have l1 := cmpI_lt.1 h1
      by_cases e2 : cmpI y z = 0
      · have e2' := cmpI_z.1 e2; subst e2'
        rw [if_neg e1]; exact h1
      · rw [if_neg e2] at h2
        have l2 := cmpI_lt.1 h2
        have l3 : cmpI x z < 0 := cmpI_lt.2 (by omega)
        rw [if_neg (by omega)]; exact l3
theorem lexF_L (a b : List Int) : ∀ f i, i + f = a.length → lexF a b f i = lexL (a.drop i) (b.drop i)
  | 0, i, h => by
    have e : a.drop i = [] := List.drop_of_length_le (by omega)
    rw [e]
    unfold lexF
    by_cases hb : (a.length : Int) < (b.length : Int)
    · rw [if_pos hb, if_pos rfl, List.drop_eq_getElem_cons (show i < b.length by omega)]; rfl
    · rw [if_neg hb, List.drop_of_length_le (show b.length ≤ i by omega)]; rfl
  | f + 1, i, h => by
    have ih := lexF_L a b f (i + 1) (by omega)
    unfold lexF
    rw [List.drop_eq_getElem_cons (show i < a.length by omega)]
    have ea : a.getD i 0 = a[i] := by rw [List.getD_eq_getElem?_getD, List.getElem?_eq_getElem (show i < a.length by omega)]; rfl
    by_cases hb : b.length ≤ i
    · rw [if_pos hb, List.drop_of_length_le hb]; rfl
    · have hbi : i < b.length := by omega
      have eb : b.getD i 0 = b[i] := by rw [List.getD_eq_getElem?_getD, List.getElem?_eq_getElem hbi]; rfl
      rw [if_neg hb, List.drop_eq_getElem_cons hbi, ea, eb, ih]; rfl
theorem lexI_L (a b : List Int) : lexI a b = lexL a b := by
  unfold lexI
  rw [lexF_L a b a.length 0 (by omega), List.drop_zero, List.drop_zero]
theorem lexV_swo : SWOn (β := Va) (fun _ => True) (fun x y => lexI x.1 y.1) := by
  refine ⟨fun x _ => ?_, fun x y z _ _ _ h1 h2 => ?_, fun x y z _ _ _ h1 h2 h3 => ?_⟩
  · show ¬ lexI x.1 x.1 < 0
    rw [lexI_L, lexL_zero.2 rfl]; decide
  · show lexI x.1 z.1 < 0
    replace h1 : lexI x.1 y.1 < 0 := h1
    replace h2 : lexI y.1 z.1 < 0 := h2
    rw [lexI_L] at *; exact lexL_trans h1 h2
  · replace h1 : ¬ lexI x.1 y.1 < 0 := h1
    replace h2 : ¬ lexI y.1 z.1 < 0 := h2
    replace h3 : lexI x.1 z.1 < 0 := h3
    rw [lexI_L] at *
    have n1 := lexL_neg x.1 y.1
    have n2 := lexL_neg y.1 z.1
    by_cases e1 : lexL x.1 y.1 = 0
    · rw [lexL_zero.1 e1] at h3; exact h2 h3
    · by_cases e2 : lexL y.1 z.1 = 0
      · rw [← lexL_zero.1 e2] at h3; exact h1 h3
      · have n3 := lexL_trans (a := z.1) (b := y.1) (c := x.1) (by omega) (by omega)
        have n4 := lexL_neg x.1 z.1
        omega

/-- rising by what they saw -/
abbrev SV' (l : List Va) : Prop := l.Pairwise fun a b => lexL a.1 b.1 < 0
theorem SV'.ext : ∀ {l m : List Va}, SV' l → SV' m → (∀ t, t ∈ l ↔ t ∈ m) → l = m
  | [], [], _, _, _ => rfl
  | [], y :: m, _, _, h => absurd ((h y).2 (List.mem_cons_self ..)) (by simp)
  | x :: l, [], _, _, h => absurd ((h x).1 (List.mem_cons_self ..)) (by simp)
  | x :: l, y :: m, hl, hm, h => by
    obtain ⟨hl1, hl2⟩ := List.pairwise_cons.1 hl
    obtain ⟨hm1, hm2⟩ := List.pairwise_cons.1 hm
    have hxy : x = y := by
      rcases List.mem_cons.1 ((h x).1 (List.mem_cons_self ..)) with e | e
      · exact e
      · rcases List.mem_cons.1 ((h y).2 (List.mem_cons_self ..)) with e2 | e2
        · exact e2.symm
        · have a1 := hl1 y e2; have a2 := hm1 x e; have a3 := lexL_neg x.1 y.1; omega
    subst hxy
    have irr : ∀ v : Va, ¬ lexL v.1 v.1 < 0 := fun v => by rw [lexL_zero.2 rfl]; decide
    congr 1
    refine SV'.ext hl2 hm2 fun t => ⟨fun ht => ?_, fun ht => ?_⟩
    · rcases List.mem_cons.1 ((h t).1 (List.mem_cons_of_mem _ ht)) with e | e
      · subst e; exact absurd (hl1 t ht) (irr t)
      · exact e
    · rcases List.mem_cons.1 ((h t).2 (List.mem_cons_of_mem _ ht)) with e | e
      · subst e; exact absurd (hm1 t ht) (irr t)
      · exact e
theorem perm_insV (v : Va) : ∀ l : List Va, (insV v l).Perm (v :: l)
  | [] => List.Perm.refl _
  | x :: l => by
    unfold insV
    split
    · exact List.Perm.refl _
    · exact ((perm_insV v l).cons x).trans (List.Perm.swap ..)
theorem perm_sortV : ∀ l : List Va, (sortV l).Perm l
  | [] => List.Perm.refl _
  | x :: l => (perm_insV x (sortV l)).trans ((perm_sortV l).cons x)
theorem srt_insV (v : Va) : ∀ {l : List Va}, (l.Pairwise fun a b => 0 ≤ lexL b.1 a.1) → (insV v l).Pairwise fun a b => 0 ≤ lexL b.1 a.1
  | [], _ => by simp [insV]
  | x :: l, h => by
    obtain ⟨h1, h2⟩ := List.pairwise_cons.1 h
    unfold insV
    split
    · rename_i hv
      have n1 := lexL_neg v.1 x.1
      refine List.pairwise_cons.2 ⟨fun u hu => ?_, h⟩
      rcases List.mem_cons.1 hu with e | e
      · subst e; omega
      · have := h1 u e
        have n2 := lexL_neg u.1 x.1
        have n3 := lexL_neg v.1 u.1
        by_cases e0 : lexL u.1 x.1 = 0
        · rw [lexL_zero.1 e0]; omega
        · have := lexL_trans (a := v.1) (b := x.1) (c := u.1) hv (by omega)
          omega
    · rename_i hv
      refine List.pairwise_cons.2 ⟨fun u hu => ?_, srt_insV v h2⟩
      have := (perm_insV v l).mem_iff.1 hu
      rcases List.mem_cons.1 this with e | e
      · subst e; omega
      · exact h1 u e
theorem srt_sortV : ∀ l : List Va, (sortV l).Pairwise fun a b => 0 ≤ lexL b.1 a.1
  | [] => List.Pairwise.nil
  | x :: l => srt_insV x (srt_sortV l)
theorem strict_of {l : List Va} (h : l.Pairwise fun a b => 0 ≤ lexL b.1 a.1) (hd : l.Pairwise fun a b => a.1 ≠ b.1) : SV' l :=
  (h.and hd).imp fun {a b} ⟨h1, h2⟩ => by
    have := lexL_neg a.1 b.1
    have n : lexL a.1 b.1 ≠ 0 := fun e => h2 (lexL_zero.1 e)
    omega
theorem ne_perm {l m : List Va} (hp : m.Perm l) (hd : l.Pairwise fun a b => a.1 ≠ b.1) : m.Pairwise fun a b => a.1 ≠ b.1 :=
  (hp.pairwise_iff (fun h => Ne.symm h)).2 hd
theorem ss_sortV {l : List Va} (hd : l.Pairwise fun a b => a.1 ≠ b.1) : SV' (sortV l) := strict_of (srt_sortV l) (ne_perm (perm_sortV l) hd)
theorem sort_one {xs ys : List Va} (hd : xs.Pairwise fun a b => a.1 ≠ b.1) (h : srtPV xs ys) : ys = sortV xs := by
  refine SV'.ext (strict_of (h.2.imp fun h => by rwa [lexI_L] at h) (ne_perm h.1 hd)) (ss_sortV hd) fun t => ?_
  rw [h.1.mem_iff, (perm_sortV xs).mem_iff]

/-! What is left of values that are joined. -/
theorem sawB_all {v w : Va} : sawB v w = true ↔ ∀ i, i < v.1.length → w.1.getD i 0 ≤ v.1.getD i 0 := sawF_all _
theorem saw_refl (v : Va) : sawB v v = true := sawB_all.2 fun _ _ => Int.le_refl _
theorem saw_trans {a b c : Va} (hl : a.1.length ≤ b.1.length) (h1 : sawB a b = true) (h2 : sawB b c = true) : sawB a c = true :=
  sawB_all.2 fun i hi => Int.le_trans (sawB_all.1 h2 i (by omega)) (sawB_all.1 h1 i hi)
theorem saw_anti {a b : Va} (hl : a.1.length = b.1.length) (h1 : sawB a b = true) (h2 : sawB b a = true) : a.1 = b.1 := by
  apply List.ext_getElem hl
  intro i i1 i2
  have a1 := sawB_all.1 h1 i i1
  have a2 := sawB_all.1 h2 i i2
  rw [List.getD_eq_getElem?_getD, List.getD_eq_getElem?_getD, List.getElem?_eq_getElem i1, List.getElem?_eq_getElem i2] at a1 a2
  simp only [Option.getD_some] at a1 a2
  omega
theorem oldU_iff {all : List Va} {i : Nat} : ∀ n, oldU all i n = true ↔ ∃ j, j < n ∧ sawB (all.getD j va0) (all.getD i va0) = true ∧ (sawB (all.getD i va0) (all.getD j va0) = false ∨ j < i)
  | 0 => by simp [oldU]
  | n + 1 => by
    unfold oldU
    rw [Bool.or_eq_true, oldU_iff n, Bool.and_eq_true, Bool.or_eq_true, Bool.not_eq_true', decide_eq_true_eq]
    constructor
    · rintro (⟨j, h1, h2⟩ | ⟨h1, h2⟩)
      · exact ⟨j, by omega, h2⟩
      · exact ⟨n, by omega, h1, h2.imp id fun h => by omega⟩
    · rintro ⟨j, h1, h2, h3⟩
      by_cases hj : j = n
      · subst hj; exact .inr ⟨h2, h3.imp id fun h => by omega⟩
      · exact .inl ⟨j, by omega, h2, h3⟩
theorem mem_outU {all : List Va} {v : Va} : ∀ n, v ∈ outU all n ↔ ∃ i, i < n ∧ all.getD i va0 = v ∧ oldU all i all.length = false
  | 0 => by simp [outU]
  | n + 1 => by
    have ih := mem_outU (all := all) (v := v) n
    unfold outU
    cases hq : oldU all n all.length with
    | true =>
      rw [if_pos rfl, ih]
      constructor
      · rintro ⟨i, h1, h2⟩; exact ⟨i, by omega, h2⟩
      · rintro ⟨i, h1, h2, h3⟩
        by_cases hi : i = n
        · subst hi; rw [hq] at h3; cases h3
        · exact ⟨i, by omega, h2, h3⟩
    | false =>
      rw [if_neg (by decide), List.mem_append, List.mem_singleton, ih]
      constructor
      · rintro (⟨i, h1, h2⟩ | h)
        · exact ⟨i, by omega, h2⟩
        · exact ⟨n, by omega, h.symm, hq⟩
      · rintro ⟨i, h1, h2, h3⟩
        by_cases hi : i = n
        · subst hi; exact .inr h2.symm
        · exact .inl ⟨i, by omega, h2, h3⟩
theorem outU_len (all : List Va) : ∀ n, (outU all n).length ≤ n
  | 0 => Nat.le_refl _
  | n + 1 => by
    have := outU_len all n
    unfold outU
    split
    · omega
    · rw [List.length_append]; simp only [List.length_cons, List.length_nil]; omega
theorem outU_ne (all : List Va) : ∀ n, n ≤ all.length → (outU all n).Pairwise fun a b => a.1 ≠ b.1
  | 0, _ => List.Pairwise.nil
  | n + 1, hn => by
    have ih := outU_ne all n (by omega)
    unfold outU
    cases hq : oldU all n all.length with
    | true => rw [if_pos rfl]; exact ih
    | false =>
      rw [if_neg (by decide)]
      refine List.pairwise_append.2 ⟨ih, by simp, fun a ha b hb he => ?_⟩
      rw [List.mem_singleton] at hb; subst hb
      obtain ⟨i, h1, h2, h3⟩ := (mem_outU n).1 ha
      have : oldU all n all.length = true := by
        refine (oldU_iff _).2 ⟨i, by omega, ?_, .inr h1⟩
        rw [h2]
        exact sawB_all.2 fun j _ => by rw [he]; exact Int.le_refl _
      rw [hq] at this; cases this
theorem ss_mrgV (all : List Va) : SV' (mrgV all) := ss_sortV (outU_ne all _ (Nat.le_refl _))
theorem mrgV_len (all : List Va) : (mrgV all).length ≤ all.length := by
  unfold mrgV
  rw [(perm_sortV _).length_eq]; exact outU_len all _
theorem mem_mrgV {n : Nat} {all : List Va} (hn : ∀ v ∈ all, v.1.length = n) (hF : ∀ v ∈ all, ∀ w ∈ all, v.1 = w.1 → v = w) {v : Va} : v ∈ mrgV all ↔ v ∈ all ∧ ∀ w ∈ all, sawB w v = true → w = v := by
  unfold mrgV
  rw [(perm_sortV _).mem_iff, mem_outU]
  constructor
  · rintro ⟨i, hi, rfl, ho⟩
    have hm : all.getD i va0 ∈ all := getD_memL hi
    refine ⟨hm, fun w hw hs => ?_⟩
    obtain ⟨j, hj⟩ := List.getElem?_of_mem hw
    have hjl := (List.getElem?_eq_some_iff.1 hj).1
    have ew : all.getD j va0 = w := by rw [List.getD_eq_getElem?_getD, hj]; rfl
    cases hq : sawB (all.getD i va0) w with
    | true => exact hF w hw _ hm (saw_anti (by rw [hn w hw, hn _ hm]) hs hq)
    | false =>
      have : oldU all i all.length = true := (oldU_iff _).2 ⟨j, hjl, by rw [ew]; exact hs, .inl (by rw [ew]; exact hq)⟩
      rw [ho] at this; cases this
  · rintro ⟨hm, hmax⟩
    have hex : ∃ i, i < all.length ∧ all.getD i va0 = v := by
      obtain ⟨j, hj⟩ := List.getElem?_of_mem hm
      exact ⟨j, (List.getElem?_eq_some_iff.1 hj).1, by rw [List.getD_eq_getElem?_getD, hj]; rfl⟩
    obtain ⟨i, hi, hleast⟩ : ∃ i, (i < all.length ∧ all.getD i va0 = v) ∧ ∀ j, j < i → ¬ (j < all.length ∧ all.getD j va0 = v) := by
      obtain ⟨i, hi⟩ := hex
      induction i using Nat.strongRecOn with
      | _ i ih =>
        by_cases hc : ∃ j, j < i ∧ (j < all.length ∧ all.getD j va0 = v)
        · obtain ⟨j, hj, h⟩ := hc; exact ih j hj h
        · exact ⟨i, hi, fun j hj h => hc ⟨j, hj, h⟩⟩
    refine ⟨i, hi.1, hi.2, ?_⟩
    cases hq : oldU all i all.length with
    | false => rfl
    | true =>
      obtain ⟨j, hj, h1, h2⟩ := (oldU_iff _).1 hq
      rw [hi.2] at h1 h2
      have hw := hmax _ (getD_memL hj) h1
      rcases h2 with h2 | h2
      · rw [hw, saw_refl] at h2; cases h2
      · exact absurd ⟨hj, hw⟩ (hleast j h2)
end Go.Proofs.YtgcliogognkdkaaDoor

/- slices.SortFunc at tags and at values, and all that it reaches, as this program bears them: the shelf's structure, filled by program. -/
namespace Go.Proofs.YtgcliogognkdkaaDoor
open Go.Shelf Go.Proofs
def laidSortT_ren : Go.Shelf.Ren := ⟨fun | 6 => 59 | 15 => 66 | 14 => 73 | 28 => 82 | 29 => 83 | 20 => 87 | 21 => 88 | 22 => 89 | 23 => 90 | 24 => 91 | 25 => 92 | 26 => 93 | 27 => 94 | 46 => 100 | 47 => 96 | 48 => 97 | 49 => 101 | 50 => 102 | 57 => 104 | n => n, fun | 22 => 23 | 24 => 46 | 25 => 97 | 3 => 3 | 39 => 106 | 0 => 0 | 53 => 132 | 55 => 134 | 4 => 4 | 46 => 125 | 45 => 124 | 50 => 129 | 5 => 5 | 9 => 9 | 66 => 154 | 70 => 158 | 76 => 162 | 77 => 163 | n => n, fun | n => n⟩
theorem laidSortT : Go.Proofs.SlLaysF0.n6 Tryd.prog laidSortT_ren where
  mixed := by kernel_rfl
  f6 := ⟨ "slices.SortFunc[[]whenstead/api.Tag,whenstead/api.Tag]", by decide, Tryd.func59.trans (congrArg some (by kernel_rfl))⟩
  f14 := ⟨ "slices.pdqsortCmpFunc[whenstead/api.Tag]", by decide, Tryd.func73.trans (congrArg some (by kernel_rfl))⟩
  f15 := Tryd.func66.trans (congrArg some (by kernel_rfl))
  f20 := ⟨ "slices.insertionSortCmpFunc[whenstead/api.Tag]", by decide, Tryd.func87.trans (congrArg some (by kernel_rfl))⟩
  f21 := ⟨ "slices.heapSortCmpFunc[whenstead/api.Tag]", by decide, Tryd.func88.trans (congrArg some (by kernel_rfl))⟩
  f22 := ⟨ "slices.breakPatternsCmpFunc[whenstead/api.Tag]", by decide, Tryd.func89.trans (congrArg some (by kernel_rfl))⟩
  f23 := ⟨ "slices.choosePivotCmpFunc[whenstead/api.Tag]", by decide, Tryd.func90.trans (congrArg some (by kernel_rfl))⟩
  f24 := ⟨ "slices.reverseRangeCmpFunc[whenstead/api.Tag]", by decide, Tryd.func91.trans (congrArg some (by kernel_rfl))⟩
  f25 := ⟨ "slices.partialInsertionSortCmpFunc[whenstead/api.Tag]", by decide, Tryd.func92.trans (congrArg some (by kernel_rfl))⟩
  f26 := ⟨ "slices.partitionEqualCmpFunc[whenstead/api.Tag]", by decide, Tryd.func93.trans (congrArg some (by kernel_rfl))⟩
  f27 := ⟨ "slices.partitionCmpFunc[whenstead/api.Tag]", by decide, Tryd.func94.trans (congrArg some (by kernel_rfl))⟩
  f28 := Tryd.func82.trans (congrArg some (by kernel_rfl))
  f29 := Tryd.func83.trans (congrArg some (by kernel_rfl))
  f46 := ⟨ "slices.siftDownCmpFunc[whenstead/api.Tag]", by decide, Tryd.func100.trans (congrArg some (by kernel_rfl))⟩
  f47 := Tryd.func96.trans (congrArg some (by kernel_rfl))
  f48 := Tryd.func97.trans (congrArg some (by kernel_rfl))
  f49 := ⟨ "slices.medianAdjacentCmpFunc[whenstead/api.Tag]", by decide, Tryd.func101.trans (congrArg some (by kernel_rfl))⟩
  f50 := ⟨ "slices.medianCmpFunc[whenstead/api.Tag]", by decide, Tryd.func102.trans (congrArg some (by kernel_rfl))⟩
  f57 := ⟨ "slices.order2CmpFunc[whenstead/api.Tag]", by decide, Tryd.func104.trans (congrArg some (by kernel_rfl))⟩
  t0 := Tryd.underlying0
  a0 := Tryd.isAgg0
  z0 := Tryd.sizeOf0
  v0 := Tryd.zeroValue0
  t3 := Tryd.underlying3
  a3 := Tryd.isAgg3
  z3 := Tryd.sizeOf3
  v3 := Tryd.zeroValue3
  t4 := Tryd.underlying4
  a4 := Tryd.isAgg4
  z4 := Tryd.sizeOf4
  v4 := Tryd.zeroValue4
  t5 := Tryd.underlying5
  a5 := Tryd.isAgg5
  z5 := Tryd.sizeOf5
  v5 := Tryd.zeroValue5
  t9 := Tryd.underlying9
  a9 := Tryd.isAgg9
  z9 := Tryd.sizeOf9
  v9 := Tryd.zeroValue9
  t22 := Tryd.underlying23
  a22 := Tryd.isAgg23
  z22 := Tryd.sizeOf23
  v22 := Tryd.zeroValue23
  t25 := Tryd.underlying97
  a25 := Tryd.isAgg97
  z25 := Tryd.sizeOf97
  v25 := Tryd.zeroValue97
  t39 := Tryd.underlying106
  a39 := Tryd.isAgg106
  z39 := Tryd.sizeOf106
  v39 := Tryd.zeroValue106
  t45 := Tryd.underlying124
  a45 := Tryd.isAgg124
  z45 := Tryd.sizeOf124
  v45 := Tryd.zeroValue124
  t46 := Tryd.underlying125
  a46 := Tryd.isAgg125
  z46 := Tryd.sizeOf125
  v46 := Tryd.zeroValue125
  t50 := Tryd.underlying129
  a50 := Tryd.isAgg129
  z50 := Tryd.sizeOf129
  v50 := Tryd.zeroValue129
  t53 := Tryd.underlying132
  a53 := Tryd.isAgg132
  z53 := Tryd.sizeOf132
  v53 := Tryd.zeroValue132
  t55 := Tryd.underlying134
  a55 := Tryd.isAgg134
  z55 := Tryd.sizeOf134
  v55 := Tryd.zeroValue134
  t66 := Tryd.underlying154
  a66 := Tryd.isAgg154
  z66 := Tryd.sizeOf154
  v66 := Tryd.zeroValue154
  t70 := Tryd.underlying158
  a70 := Tryd.isAgg158
  z70 := Tryd.sizeOf158
  v70 := Tryd.zeroValue158
  t76 := Tryd.underlying162
  a76 := Tryd.isAgg162
  z76 := Tryd.sizeOf162
  v76 := Tryd.zeroValue162
  t77 := Tryd.underlying163
  a77 := Tryd.isAgg163
  z77 := Tryd.sizeOf163
  v77 := Tryd.zeroValue163
def laidSortV_ren : Go.Shelf.Ren := ⟨fun | 6 => 51 | 15 => 66 | 14 => 65 | 28 => 82 | 29 => 83 | 20 => 74 | 21 => 75 | 22 => 76 | 23 => 77 | 24 => 78 | 25 => 79 | 26 => 80 | 27 => 81 | 46 => 95 | 47 => 96 | 48 => 97 | 49 => 98 | 50 => 99 | 57 => 103 | n => n, fun | 22 => 65 | 24 => 84 | 25 => 94 | 3 => 3 | 39 => 106 | 0 => 0 | 53 => 132 | 55 => 134 | 4 => 4 | 46 => 125 | 45 => 124 | 50 => 129 | 5 => 5 | 9 => 9 | 66 => 154 | 70 => 158 | 76 => 162 | 77 => 163 | n => n, fun | n => n⟩
theorem laidSortV : Go.Proofs.SlLaysF0.n6 Tryd.prog laidSortV_ren where
  mixed := by kernel_rfl
  f6 := ⟨ "slices.SortFunc[[]whenstead/api.Value,whenstead/api.Value]", by decide, Tryd.func51.trans (congrArg some (by kernel_rfl))⟩
  f14 := ⟨ "slices.pdqsortCmpFunc[whenstead/api.Value]", by decide, Tryd.func65.trans (congrArg some (by kernel_rfl))⟩
  f15 := Tryd.func66.trans (congrArg some (by kernel_rfl))
  f20 := ⟨ "slices.insertionSortCmpFunc[whenstead/api.Value]", by decide, Tryd.func74.trans (congrArg some (by kernel_rfl))⟩
  f21 := ⟨ "slices.heapSortCmpFunc[whenstead/api.Value]", by decide, Tryd.func75.trans (congrArg some (by kernel_rfl))⟩
  f22 := ⟨ "slices.breakPatternsCmpFunc[whenstead/api.Value]", by decide, Tryd.func76.trans (congrArg some (by kernel_rfl))⟩
  f23 := ⟨ "slices.choosePivotCmpFunc[whenstead/api.Value]", by decide, Tryd.func77.trans (congrArg some (by kernel_rfl))⟩
  f24 := ⟨ "slices.reverseRangeCmpFunc[whenstead/api.Value]", by decide, Tryd.func78.trans (congrArg some (by kernel_rfl))⟩
  f25 := ⟨ "slices.partialInsertionSortCmpFunc[whenstead/api.Value]", by decide, Tryd.func79.trans (congrArg some (by kernel_rfl))⟩
  f26 := ⟨ "slices.partitionEqualCmpFunc[whenstead/api.Value]", by decide, Tryd.func80.trans (congrArg some (by kernel_rfl))⟩
  f27 := ⟨ "slices.partitionCmpFunc[whenstead/api.Value]", by decide, Tryd.func81.trans (congrArg some (by kernel_rfl))⟩
  f28 := Tryd.func82.trans (congrArg some (by kernel_rfl))
  f29 := Tryd.func83.trans (congrArg some (by kernel_rfl))
  f46 := ⟨ "slices.siftDownCmpFunc[whenstead/api.Value]", by decide, Tryd.func95.trans (congrArg some (by kernel_rfl))⟩
  f47 := Tryd.func96.trans (congrArg some (by kernel_rfl))
  f48 := Tryd.func97.trans (congrArg some (by kernel_rfl))
  f49 := ⟨ "slices.medianAdjacentCmpFunc[whenstead/api.Value]", by decide, Tryd.func98.trans (congrArg some (by kernel_rfl))⟩
  f50 := ⟨ "slices.medianCmpFunc[whenstead/api.Value]", by decide, Tryd.func99.trans (congrArg some (by kernel_rfl))⟩
  f57 := ⟨ "slices.order2CmpFunc[whenstead/api.Value]", by decide, Tryd.func103.trans (congrArg some (by kernel_rfl))⟩
  t0 := Tryd.underlying0
  a0 := Tryd.isAgg0
  z0 := Tryd.sizeOf0
  v0 := Tryd.zeroValue0
  t3 := Tryd.underlying3
  a3 := Tryd.isAgg3
  z3 := Tryd.sizeOf3
  v3 := Tryd.zeroValue3
  t4 := Tryd.underlying4
  a4 := Tryd.isAgg4
  z4 := Tryd.sizeOf4
  v4 := Tryd.zeroValue4
  t5 := Tryd.underlying5
  a5 := Tryd.isAgg5
  z5 := Tryd.sizeOf5
  v5 := Tryd.zeroValue5
  t9 := Tryd.underlying9
  a9 := Tryd.isAgg9
  z9 := Tryd.sizeOf9
  v9 := Tryd.zeroValue9
  t22 := Tryd.underlying65
  a22 := Tryd.isAgg65
  z22 := Tryd.sizeOf65
  v22 := Tryd.zeroValue65
  t25 := Tryd.underlying94
  a25 := Tryd.isAgg94
  z25 := Tryd.sizeOf94
  v25 := Tryd.zeroValue94
  t39 := Tryd.underlying106
  a39 := Tryd.isAgg106
  z39 := Tryd.sizeOf106
  v39 := Tryd.zeroValue106
  t45 := Tryd.underlying124
  a45 := Tryd.isAgg124
  z45 := Tryd.sizeOf124
  v45 := Tryd.zeroValue124
  t46 := Tryd.underlying125
  a46 := Tryd.isAgg125
  z46 := Tryd.sizeOf125
  v46 := Tryd.zeroValue125
  t50 := Tryd.underlying129
  a50 := Tryd.isAgg129
  z50 := Tryd.sizeOf129
  v50 := Tryd.zeroValue129
  t53 := Tryd.underlying132
  a53 := Tryd.isAgg132
  z53 := Tryd.sizeOf132
  v53 := Tryd.zeroValue132
  t55 := Tryd.underlying134
  a55 := Tryd.isAgg134
  z55 := Tryd.sizeOf134
  v55 := Tryd.zeroValue134
  t66 := Tryd.underlying154
  a66 := Tryd.isAgg154
  z66 := Tryd.sizeOf154
  v66 := Tryd.zeroValue154
  t70 := Tryd.underlying158
  a70 := Tryd.isAgg158
  z70 := Tryd.sizeOf158
  v70 := Tryd.zeroValue158
  t76 := Tryd.underlying162
  a76 := Tryd.isAgg162
  z76 := Tryd.sizeOf162
  v76 := Tryd.zeroValue162
  t77 := Tryd.underlying163
  a77 := Tryd.isAgg163
  z77 := Tryd.sizeOf163
  v77 := Tryd.zeroValue163
end Go.Proofs.YtgcliogognkdkaaDoor

/- Nets: writing and telling keep their contracts. -/
namespace Go.Proofs.YtgcliogognkdkaaDoor
open Go.Vc Go.Shelf Go.Proofs

abbrev vAt (t : Net) (i j : Nat) : List Va := (t.1.getD i (List.replicate 4 [])).getD j []
theorem getD_memD {α : Type} {l : List α} {i : Nat} {d : α} : l.getD i d ∈ l ∨ (l.getD i d = d ∧ l.length ≤ i) := by
  by_cases h : i < l.length
  · exact .inl (getD_memL h)
  · exact .inr ⟨by rw [List.getD_eq_getElem?_getD, List.getElem?_eq_none (by omega)]; rfl, by omega⟩
theorem vAt_mem {t : Net} {i j : Nat} : (∃ r ∈ t.1, vAt t i j ∈ r) ∨ vAt t i j = [] := by
  rcases getD_memD (l := t.1) (i := i) (d := List.replicate 4 []) with h | ⟨h, -⟩
  · rcases getD_memD (l := t.1.getD i (List.replicate 4 [])) (i := j) (d := ([] : List Va)) with h2 | ⟨h2, -⟩
    · exact .inl ⟨_, h, h2⟩
    · exact .inr h2
  · refine .inr ?_
    unfold vAt; rw [h]
    rcases getD_memD (l := (List.replicate 4 [] : List (List Va))) (i := j) (d := ([] : List Va)) with h2 | ⟨h2, -⟩
    · exact (List.mem_replicate.1 h2).2
    · exact h2
theorem NetSh.len' {t : Net} (h : NetSh t) (i j : Nat) : (vAt t i j).length ≤ 1000 := by
  rcases vAt_mem (t := t) (i := i) (j := j) with ⟨r, h1, h2⟩ | e
  · exact h.len r h1 _ h2
  · rw [e]; exact Nat.zero_le _
theorem NetSh.seen' {t : Net} (h : NetSh t) {i j : Nat} {v : Va} (hv : v ∈ vAt t i j) : v.1.length = t.1.length := by
  rcases vAt_mem (t := t) (i := i) (j := j) with ⟨r, h1, h2⟩ | e
  · exact h.seen r h1 _ h2 v hv
  · rw [e] at hv; cases hv
theorem setAt_len (t : Net) (p k : Int) (l : List Va) : (setAt t p k l).length = t.1.length := by unfold setAt; rw [List.length_set]
theorem getD_setL {α : Type} (l : List α) (i j : Nat) (a d : α) (h : i < l.length) : (l.set i a).getD j d = if j = i then a else l.getD j d := by
  rw [List.getD_eq_getElem?_getD, List.getElem?_set, List.getD_eq_getElem?_getD]
  by_cases e : i = j
  · subst e; rw [if_pos rfl, if_pos h, if_pos rfl]; rfl
  · rw [if_neg e, if_neg (Ne.symm e)]
theorem vAt_set {t : Net} {p k : Int} {l : List Va} {w : List Int} (hp : p.toNat < t.1.length) (hk : k.toNat < (t.1.getD p.toNat (List.replicate 4 [])).length) (i j : Nat) :
    vAt (setAt t p k l, w, ()) i j = if i = p.toNat ∧ j = k.toNat then l else vAt t i j := by
  unfold vAt setAt
  rw [getD_setL _ _ _ _ _ hp]
  by_cases e : i = p.toNat
  · subst e
    rw [if_pos rfl, getD_setL _ _ _ _ _ hk]
    by_cases e2 : j = k.toNat
    · rw [if_pos e2, if_pos ⟨rfl, e2⟩]
    · rw [if_neg e2, if_neg fun h => e2 h.2]
  · rw [if_neg e, if_neg fun h => e h.1]
theorem setAt_rows {t : Net} (h : ∀ r ∈ t.1, List.length r = 4) {p k : Int} {l : List Va} (hp : p.toNat < t.1.length) : ∀ r ∈ setAt t p k l, List.length r = 4 := by
  intro r hr
  unfold setAt at hr
  rcases List.mem_or_eq_of_mem_set hr with h1 | h1
  · exact h r h1
  · rw [h1, List.length_set]; exact h _ (getD_memL hp)

theorem maxU_len (cur s : List Int) : ∀ j, (maxU cur s j).length = cur.length
  | 0 => rfl
  | j + 1 => by unfold maxU; rw [List.length_set, maxU_len cur s j]
theorem accU_len (vals : List Va) (n : Nat) : ∀ i, (accU vals n i).length = n
  | 0 => by unfold accU; rw [List.length_replicate]
  | i + 1 => by unfold accU; rw [maxU_len, accU_len vals n i]
theorem inNet_iff {t : Net} {p k : Int} : inNet t p k = true ↔ (0 ≤ p ∧ p < (t.1.length : Int)) ∧ 0 ≤ k ∧ k ≤ 3 := by
  unfold inNet inB
  simp only [Bool.and_eq_true, decide_eq_true_eq]; omega

theorem write_vc (nd : List (List (List Va))) (wr : List Int) (p q v : Int) (hS : NetSh (nd, wr, ())) (k : SV → List Ob → Prop)
    (hk : k (.d tErr (writeE (nd, wr, ()) p q v)) (obNet (writeT (nd, wr, ()) p q v))) :
    vcO ⟨Egw [9], [(33, cWithin), (47, cIs)], [], [], []⟩ (anWrite (nd, wr, ()) p q v) (Tryd.f26.body.getD .skip) Tryd.f26.ntmps [(.tmp 8, tErr)] [.ps 0, .d I p, .d I q, .d I v] [.st 82 [.os 1, .os 2], .row 87 tRow nd, .row 3 I wr] k := by
  rw [vcWrite]
  have e0 : (List.getD nd p.toNat (List.replicate 4 [])).getD q.toNat [] = valsAt (nd, wr, ()) p q := rfl
  have e1 : ∀ y : Va, (List.replicate 1 va0).set 0 y = [y] := fun _ => rfl
  have e2 : wr.set p.toNat (wr.getD p.toNat 0 + 1) = upW (nd, wr, ()) p := rfl
  have hw : wr.length = nd.length := hS.wr
  have h5 : nd.length ≤ 5 := hS.hi
  have h1 : 1 ≤ nd.length := hS.lo
  have hvl : (valsAt (nd, wr, ()) p q).length ≤ 1000 := hS.len' _ _
  have hvs : ∀ v ∈ valsAt (nd, wr, ()) p q, v.1.length = nd.length := fun v hv => hS.seen' hv
  have ul : (upW (nd, wr, ()) p).length = wr.length := by unfold upW; rw [List.length_set]
  have bad : writeE (nd, wr, ()) p q v ≠ 0 → writeT (nd, wr, ()) p q v = (nd, wr, ()) := fun h => by unfold writeT; rw [if_neg h]
  have good : writeE (nd, wr, ()) p q v = 0 → writeT (nd, wr, ()) p q v = (setAt (nd, wr, ()) p q [newV (nd, wr, ()) p q v], upW (nd, wr, ()) p, ()) := fun h => by unfold writeT; rw [if_pos h]
  simp only [e0, e1, e2, decide_eq_true_eq, decide_eq_false_iff_not, true_and, and_true, Bool.not_eq_true', Bool.not_eq_false', Int.toNat_natCast, inK_i64, ul, maxU_len, accU_len]
  have ret : ∀ e : Int, e ≠ 0 → writeE (nd, wr, ()) p q v = e → k (.d tErr e) [.st 82 [.os 1, .os 2], .row 87 tRow nd, .row 3 I wr] := by
    intro e he h
    rw [bad (by rw [h]; exact he), h] at hk; exact hk
  refine ⟨fun h => ⟨by decide, ret 1 (by decide) (by unfold writeE; rw [h, Bool.false_and, if_neg (by decide)])⟩, fun hi => ⟨fun h => ⟨by decide, ret 1 (by decide) (by unfold writeE; rw [h, Bool.and_false, if_neg (by decide)])⟩, fun hv => ?_⟩⟩
  obtain ⟨⟨hp0, hp1⟩, hq0, hq1⟩ := inNet_iff.1 hi
  have hp1 : p < (nd.length : Int) := hp1
  have hE : writeE (nd, wr, ()) p q v = if wr.getD p.toNat 0 = 60 then 4 else 0 := by unfold writeE; rw [hi, hv, Bool.and_true, if_pos rfl]
  have hc := hS.cnt p.toNat (by show p.toNat < wr.length; omega)
  replace hc : 0 ≤ wr.getD p.toNat 0 ∧ wr.getD p.toNat 0 ≤ 60 := hc
  refine ⟨hp0, by omega, fun h => ⟨by decide, ret 4 (by decide) (by rw [hE, if_pos h])⟩, fun h60 => ?_⟩
  have h0 : writeE (nd, wr, ()) p q v = 0 := by rw [hE, if_neg h60]
  rw [good h0, h0] at hk
  refine ⟨by omega, by omega, by omega, by omega, by omega, by omega, by omega, by omega, by omega, by omega, hq0, by omega, ⟨0, ⟨Nat.zero_le _, h0⟩, rfl, rfl⟩, fun x ⟨hx, _⟩ => ⟨fun hlt => ?_, fun hge => ?_⟩⟩
  · have hxl : x < (valsAt (nd, wr, ()) p q).length := by omega
    have hsl := hvs _ (getD_memL (d := va0) hxl)
    refine ⟨by omega, hlt, ⟨0, ⟨Nat.zero_le _, h0⟩, rfl, rfl⟩, fun y ⟨hy, _⟩ => ⟨fun hly => ?_, fun hgy => ?_⟩⟩
    · refine ⟨by omega, hly, ⟨by omega, by omega, by omega, by omega⟩, by omega, y + 1, ⟨by omega, h0⟩, by omega, by omega, rfl⟩
    · have : y = ((valsAt (nd, wr, ()) p q).getD x va0).1.length := by omega
      subst this
      exact ⟨by omega, x + 1, ⟨by omega, h0⟩, by omega, by omega, rfl⟩
  · have : x = (valsAt (nd, wr, ()) p q).length := by omega
    subst this
    exact ⟨⟨hp0, by omega, hp0, hp1⟩, ⟨hp0, hp1, hq0, by omega⟩, hk⟩
theorem ownWrite : OwnOk Tryd.prog [] 26 oWrite := by
  refine own_of (CxOk.mk' (Egw_ok [9]) (by kernel_rfl) mixed (gl := []) (GOk.cons okWithin Tryd.func33 (by kernel_rfl) (by kernel_rfl) (GOk.cons okIs Tryd.func47 (by kernel_rfl) (by kernel_rfl) GOk.nil)) GoOk.nil noIt) Tryd.func26 (c := Tryd.f26.body.getD .skip) (rvs := [(.tmp 8, tErr)]) (by kernel_rfl) (by kernel_rfl) (by kernel_rfl) ?_
  intro args ob k h hwa hwo
  unfold oWrite at h
  split at h
  · rename_i p q v nd wr
    exact ⟨anWrite (nd, wr, ()) p q v, write_vc nd wr p q v h.1 k h.2⟩
  · exact h.elim

/-! Telling. -/
theorem syncU_wr (t : Net) (a b : Int) : ∀ k, (syncU t a b k).2.1 = t.2.1
  | 0 => rfl
  | k + 1 => rfl
theorem syncU_len (t : Net) (a b : Int) : ∀ k, (syncU t a b k).1.length = t.1.length
  | 0 => rfl
  | k + 1 => by unfold syncU; show (setAt _ _ _ _).length = _; rw [setAt_len, syncU_len t a b k]
theorem syncU_rows {t : Net} (h : ∀ r ∈ t.1, List.length r = 4) {a b : Int} (hb : b.toNat < t.1.length) : ∀ k, ∀ r ∈ (syncU t a b k).1, List.length r = 4
  | 0 => h
  | k + 1 => setAt_rows (syncU_rows h hb k) (by rw [syncU_len]; exact hb)
theorem vAt_sync {t : Net} (h : ∀ r ∈ t.1, List.length r = 4) {a b : Int} (ha : a.toNat ≠ b.toNat) (hb : b.toNat < t.1.length) (i j : Nat) : ∀ k, k ≤ 4 → vAt (syncU t a b k) i j = if i = b.toNat ∧ j < k then mrgV (vAt t b.toNat j ++ vAt t a.toNat j) else vAt t i j
  | 0, _ => by rw [if_neg (by omega)]; rfl
  | k + 1, hk => by
    have ih := fun i j => vAt_sync h ha hb i j k (by omega)
    have hr : (((syncU t a b k).1.getD b.toNat (List.replicate 4 []))).length = 4 := syncU_rows h hb k _ (getD_memL (by rw [syncU_len]; exact hb))
    unfold syncU
    rw [vAt_set (by rw [syncU_len]; exact hb) (by rw [hr]; simp only [Int.toNat_natCast]; omega)]
    simp only [Int.toNat_natCast]
    have e1 : valsAt (syncU t a b k) b (k : Int) = vAt t b.toNat k := by
      show vAt _ b.toNat (k : Int).toNat = _
      rw [Int.toNat_natCast, ih, if_neg (by omega)]
    have e2 : valsAt (syncU t a b k) a (k : Int) = vAt t a.toNat k := by
      show vAt _ a.toNat (k : Int).toNat = _
      rw [Int.toNat_natCast, ih, if_neg (by omega)]
    rw [e1, e2]
    by_cases hc : i = b.toNat ∧ j = k
    · rw [if_pos hc, if_pos (by omega), hc.2]
    · rw [if_neg hc, ih]
      by_cases hd : i = b.toNat ∧ j < k
      · rw [if_pos hd, if_pos (by omega)]
      · rw [if_neg hd, if_neg (by omega)]
theorem allAt_eq {t : Net} (h : ∀ r ∈ t.1, List.length r = 4) {a b : Int} (ha : a.toNat ≠ b.toNat) (hb : b.toNat < t.1.length) {k : Nat} (hk : k ≤ 4) : allAt t a b k = vAt t b.toNat k ++ vAt t a.toNat k := by
  have ih := fun i j => vAt_sync h ha hb i j k hk
  have e1 : valsAt (syncU t a b k) b (k : Int) = vAt t b.toNat k := by
    show vAt _ b.toNat (k : Int).toNat = _
    rw [Int.toNat_natCast, ih, if_neg (by omega)]
  have e2 : valsAt (syncU t a b k) a (k : Int) = vAt t a.toNat k := by
    show vAt _ a.toNat (k : Int).toNat = _
    rw [Int.toNat_natCast, ih, if_neg (by omega)]
  unfold allAt; rw [e1, e2]
theorem outU_sorted {all : List Va} {ys : List Va} (h : srtPV (outU all all.length) ys) : ys = mrgV all := sort_one (outU_ne all _ (Nat.le_refl _)) h
theorem oldU_neg {all : List Va} {i x : Nat} (h0 : oldU all i x = false) (h1 : sawB (all.getD x va0) (all.getD i va0) = true) (h2 : sawB (all.getD i va0) (all.getD x va0) = true) : decide ((x : Int) < (i : Int)) = oldU all i (x + 1) := by
  unfold oldU; rw [h0, h1, h2]; simp
theorem outU_succ (all : List Va) (i : Nat) : outU all (i + 1) = if oldU all i all.length = true then outU all i else outU all i ++ [all.getD i va0] := rfl
theorem sync_vc (nd : List (List (List Va))) (wr : List Int) (a b : Int) (hS : NetSh (nd, wr, ())) (k : SV → List Ob → Prop)
    (hk : k (.d tErr (syncE (nd, wr, ()) a b)) (obNet (syncT (nd, wr, ()) a b))) :
    vcO ⟨Eg, [(47, cIs), (49, cConcat), (50, cSaw)], [], [], [(51, oSortV)]⟩ (anSync (nd, wr, ()) a b) (Tryd.f28.body.getD .skip) Tryd.f28.ntmps [(.tmp 6, tErr)] [.ps 0, .d I a, .d I b] [.st 82 [.os 1, .os 2], .row 87 tRow nd, .row 3 I wr] k := by
  rw [vcSync]
  have hrows := hS.row
  have hw : wr.length = nd.length := hS.wr
  have h5 : nd.length ≤ 5 := hS.hi
  have h1 : 1 ≤ nd.length := hS.lo
  have bad : syncE (nd, wr, ()) a b ≠ 0 → syncT (nd, wr, ()) a b = (nd, wr, ()) := fun h => by unfold syncT; rw [if_neg h]
  have good : syncE (nd, wr, ()) a b = 0 → syncT (nd, wr, ()) a b = syncU (nd, wr, ()) a b 4 := fun h => by unfold syncT; rw [if_pos h]
  have e1 : ∀ x y : List Va, ((List.replicate 2 []).set 0 x).set 1 y = [x, y] := fun _ _ => rfl
  have e2 : ∀ y : Va, (List.replicate 1 va0).set 0 y = [y] := fun _ => rfl
  have e3 : ∀ k, ((syncU (nd, wr, ()) a b k).1.getD b.toNat (List.replicate 4 [])).getD k [] = valsAt (syncU (nd, wr, ()) a b k) b (k : Int) := fun k => by unfold valsAt; rw [Int.toNat_natCast]
  have e4 : ∀ k, ((syncU (nd, wr, ()) a b k).1.getD a.toNat (List.replicate 4 [])).getD k [] = valsAt (syncU (nd, wr, ()) a b k) a (k : Int) := fun k => by unfold valsAt; rw [Int.toNat_natCast]
  have ea : ∀ (m n : List Va), List.append m n = m ++ n := fun _ _ => rfl
  have e5 : ∀ k : Nat, [valsAt (syncU (nd, wr, ()) a b k) b (k : Int), valsAt (syncU (nd, wr, ()) a b k) a (k : Int)].flatten = allAt (nd, wr, ()) a b k := fun k => by simp [allAt]
  simp only [e1, e2, e3, e4, e5, ea, decide_eq_true_eq, decide_eq_false_iff_not, true_and, and_true, Bool.not_eq_true', Bool.not_eq_false', Int.toNat_natCast, inK_i64, syncU_len, syncU_wr]
  have ret : ∀ e : Int, e ≠ 0 → syncE (nd, wr, ()) a b = e → k (.d tErr e) [.st 82 [.os 1, .os 2], .row 87 tRow nd, .row 3 I wr] := by
    intro e he h
    rw [bad (by rw [h]; exact he), h] at hk; exact hk
  refine ⟨fun h => ⟨by decide, ret 1 (by decide) (by unfold syncE; rw [h, Bool.false_and, if_neg (by decide)])⟩, fun ha => ⟨fun h => ⟨by decide, ret 1 (by decide) (by unfold syncE; rw [h, Bool.and_false, if_neg (by decide)])⟩, fun hb => ⟨fun h => ⟨by decide, ret 6 (by decide) (by unfold syncE; rw [ha, hb, Bool.and_true, if_pos rfl, if_pos h])⟩, fun hab => ?_⟩⟩⟩
  have h0 : syncE (nd, wr, ()) a b = 0 := by unfold syncE; rw [ha, hb, Bool.and_true, if_pos rfl, if_neg hab]
  obtain ⟨⟨ha0, ha1⟩, -⟩ := inNet_iff.1 ha
  obtain ⟨⟨hb0, hb1⟩, -⟩ := inNet_iff.1 hb
  replace ha1 : a < (nd.length : Int) := ha1
  replace hb1 : b < (nd.length : Int) := hb1
  rw [good h0, h0] at hk
  have hall : ∀ k, k ≤ 4 → allAt (nd, wr, ()) a b k = vAt (nd, wr, ()) b.toNat k ++ vAt (nd, wr, ()) a.toNat k := fun k hk => allAt_eq hrows (by omega) (by show b.toNat < nd.length; omega) hk
  refine ⟨⟨0, ⟨by omega, h0⟩, rfl, rfl⟩, fun x ⟨hx, _⟩ => ⟨fun hlt => ?_, fun hge => ?_⟩⟩
  · have hx4 : x < 4 := by omega
    have hA := hall x hx
    have hAl : (allAt (nd, wr, ()) a b x).length ≤ 2000 := by
      have l1 := hS.len' b.toNat x
      have l2 := hS.len' a.toNat x
      rw [hA, List.length_append]; omega
    have hAs : ∀ v ∈ allAt (nd, wr, ()) a b x, v.1.length = nd.length := fun v hv => by
      rw [hA, List.mem_append] at hv
      exact hv.elim (fun h => hS.seen' h) fun h => hS.seen' h
    have hfl := e5 x
    have hsum : sumV [valsAt (syncU (nd, wr, ()) a b x) b (x : Int), valsAt (syncU (nd, wr, ()) a b x) a (x : Int)] 2 ≤ 1000000000 := by
      have := flatV_len [valsAt (syncU (nd, wr, ()) a b x) b (x : Int), valsAt (syncU (nd, wr, ()) a b x) a (x : Int)] 2
      rw [← this, List.take_of_length_le (by simp), hfl]; omega
    generalize hall' : allAt (nd, wr, ()) a b x = all at *
    refine ⟨⟨hb0, hb1, by omega, hlt, ha0, ha1, by omega, hlt, hsum⟩, ⟨0, ⟨Nat.zero_le _, h0⟩, rfl, rfl⟩, fun y ⟨hy, _⟩ => ⟨fun hly => ?_, fun hgy => ?_⟩⟩
    · have hyl : y < all.length := by omega
      refine ⟨by omega, hly, ⟨0, ⟨Nat.zero_le _, h0⟩, rfl, rfl⟩, fun z ⟨hz, _⟩ => ⟨fun hlz => ?_, fun hgz => ?_⟩⟩
      · have hzl : z < all.length := by omega
        have s1 := hAs _ (getD_memL (d := va0) hyl)
        have s2 := hAs _ (getD_memL (d := va0) hzl)
        refine ⟨by omega, hlz, fun ho => ⟨by omega, z + 1, ⟨by omega, h0⟩, by omega, by unfold oldU; rw [ho]; rfl, by omega⟩, fun ho => ⟨by omega, fun hs => ⟨by omega, fun hn => ⟨by omega, z + 1, ⟨by omega, h0⟩, by omega, by unfold oldU; rw [ho, hs, hn]; rfl, by omega⟩, fun hn => ⟨by omega, z + 1, ⟨by omega, h0⟩, by omega, oldU_neg ho hs hn, by omega⟩⟩, fun hs => ⟨by omega, z + 1, ⟨by omega, h0⟩, by omega, by unfold oldU; rw [ho, hs]; rfl, by omega⟩⟩⟩
      · have : z = all.length := by omega
        subst this
        refine ⟨fun ho => ⟨?_, by omega, y + 1, ⟨by omega, h0⟩, by omega, by omega, ?_⟩, fun ho => ⟨by omega, y + 1, ⟨by omega, h0⟩, by omega, by omega, ?_⟩⟩
        · have := outU_len all y
          simp only [List.length_cons, List.length_nil]; omega
        · rw [outU_succ, if_neg (by rw [ho]; decide)]
        · rw [outU_succ, if_pos ho]
    · have : y = all.length := by omega
      subst this
      have hol := outU_len all all.length
      refine ⟨by omega, fun ys hys => ⟨hb0, hb1, by omega, hlt, by omega, x + 1, ⟨by omega, h0⟩, by omega, by omega, ?_⟩⟩
      rw [outU_sorted hys, ← hall']
      show _ = setAt _ _ _ _
      unfold setAt
      rw [Int.toNat_natCast]; rfl
  · have : x = 4 := by omega
    subst this
    have hwr : wr = (syncU (nd, wr, ()) a b 4).2.1 := (syncU_wr (nd, wr, ()) a b 4).symm
    unfold obNet at hk
    rw [← hwr] at hk
    exact hk
theorem ownSortV : OwnOk Tryd.prog [] 51 oSortV := by
  refine own_sortK laidSortV (e := 84) (t := tV) rfl (by decide) Tryd.isAgg84 Tryd.sizeOf84 (g := 52) ⟨_, Tryd.func52, by kernel_rfl, by kernel_rfl⟩ (tc := .un) rfl (c := cLexV) (@okLexV ⟨true⟩)
    (va := fun _ _ => True) (cmp := fun _ (x y : Va) => lexI x.1 y.1) ?_ ?_
  · rintro _ x y _ _ k hk
    exact ⟨trivial, hk⟩
  · intro args ob k h
    unfold oSortV at h
    split at h
    · rename_i u xs
      exact ⟨u, xs, rfl, rfl, fun _ _ => trivial, lexV_swo, h.1, fun ys p q => h.2 ys ⟨p, q⟩⟩
    · exact h.elim
theorem ownSync : OwnOk Tryd.prog [] 28 oSync := by
  refine own_of (CxOk.mk' Eg_ok (by kernel_rfl) mixed (gl := []) (GOk.cons okIs Tryd.func47 (by kernel_rfl) (by kernel_rfl) (GOk.cons okConcat Tryd.func49 (by kernel_rfl) (by kernel_rfl) (GOk.cons okSaw Tryd.func50 (by kernel_rfl) (by kernel_rfl) GOk.nil))) (GoOk.cons ownSortV Tryd.func51 (by kernel_rfl) (by kernel_rfl) GoOk.nil) noIt) Tryd.func28 (c := Tryd.f28.body.getD .skip) (rvs := [(.tmp 6, tErr)]) (by kernel_rfl) (by kernel_rfl) (by kernel_rfl) ?_
  intro args ob k h hwa hwo
  unfold oSync at h
  split at h
  · rename_i a b nd wr
    exact ⟨anSync (nd, wr, ()) a b, sync_vc nd wr a b h.1 k h.2⟩
  · exact h.elim
end Go.Proofs.YtgcliogognkdkaaDoor
