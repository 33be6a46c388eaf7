/- Own texts, merged: BDef, BV, BOk, BDef2, BM, BV2, BSort, BOk2, BOk3, BL, BDef3, BV3, BLaw. -/
import Derived.Test.YtgcliogognkdkaaRows
import Derived.Test.YtgcliogognkdkaaVcQ
import Derived.Test.YtgcliogognkdkaaVcNB
import Derived.Test.YtgcliogognkdkaaVcSO
import Derived.Test.YtgcliogognkdkaaChecked
/- Bags and counters: what the program's functions answer. -/
namespace Go.Proofs.Ytgcliogognkdkaa
open Go.Vc
abbrev I : Ty := .int .i64
abbrev tErr : Ty := .err 66
abbrev tT : Ty := .pr I (.pr I (.pr I .un))
abbrev tB : Ty := .pr (.sl tT) (.pr (.sl tT) .un)
abbrev Tag := Int × Int × Int × Unit
abbrev Bag := List Tag × List Tag × Unit
def Eb : Env := { tys := [(3, I), (4, .bool), (9, .str), (22, .sl tT), (24, tB), (27, tErr), (35, .sl I), (65, tT), (85, .fn 48 .un), (86, .sl (.sl tT))], errT := 66, eqs := [65], els := [(22, 65), (35, 3), (86, 22)] }
theorem Eb_ok : EnvOk Try.prog Eb := EnvOk.of_list (by kernel_rfl) (by kernel_rfl) (by kernel_rfl)
def tag0 : Tag := (0, 0, 0, ())
def inB (n lo hi : Int) : Bool := decide (lo ≤ n) && decide (n ≤ hi)
def cWithin : Ctr := cdet [I, I, I] (fun _ _ _ => True) (fun a b c => [⟨.bool, inB a b c⟩])
def cNaN : Ctr := cdet [I] (fun _ => True) (fun _ => [⟨.bool, false⟩])
def cmpI (a b : Int) : Int := if a < b then -1 else if b < a then 1 else 0
def cCmp : Ctr := cdet [I, I] (fun _ _ => True) (fun a b => [⟨I, cmpI a b⟩])
def orI : List Int → Int
  | [] => 0
  | x :: r => if x = 0 then orI r else x
def cOr : Ctr := cdet [.sl I] (fun _ => True) (fun l => [⟨I, orI l⟩])
def anOr (l : List Int) : Ann := [loopAt 3 Nat [] (fun st i => St.at (St.only st [3, 6, 7]) [(8, .d I (i : Int))]) (fun _ i => i ≤ l.length ∧ orI l = orI (l.drop i)) (fun i => l.length - i)]
/-- by element, node, count -/
def cmpT (a b : Tag) : Int := orI [cmpI a.1 b.1, cmpI a.2.1 b.2.1, cmpI a.2.2.1 b.2.2.1]
def cByTag : Ctr := cdet [tT, tT] (fun _ _ => True) (fun a b => [⟨I, cmpT a b⟩])
/-- what is wrong with a tag at its place -/
def tagIn (a : Tag) : Bool := inB a.1 0 9 && (inB a.2.1 0 4 && inB a.2.2.1 1 1000000)
def tagE (l : List Tag) (i : Nat) : Int := if tagIn (l.getD i tag0) = false then 1 else if 0 < i ∧ 0 ≤ cmpT (l.getD (i - 1) tag0) (l.getD i tag0) then 3 else 0
def tagsF (l : List Tag) : Nat → Nat → Int
  | 0, _ => 0
  | f + 1, i => if tagE l i = 0 then tagsF l f (i + 1) else tagE l i
def tagsE (l : List Tag) : Int := if 24 < l.length then 4 else tagsF l l.length 0
def cTags : Ctr := cdet [.sl tT] (fun _ => True) (fun l => [⟨tErr, tagsE l⟩])
def anTags (l : List Tag) : Ann := [joinAll, loopAt 4 Nat [] (fun st i => St.at (St.only st [0, 9, 10]) [(11, .d I (i : Int))]) (fun _ i => tagsE l = tagsF l (l.length - i) i ∧ i ≤ l.length) (fun i => l.length - i)]
/-- the first place of a thing, or -1 -/
def idxF (l : List Tag) (t : Tag) : Nat → Nat → Int
  | 0, _ => -1
  | f + 1, i => if l.getD i tag0 = t then (i : Int) else idxF l t f (i + 1)
def idxI (l : List Tag) (t : Tag) : Int := idxF l t l.length 0
def cIdx : Ctr := cdet [.sl tT, tT] (fun _ _ => True) (fun l t => [⟨I, idxI l t⟩])
def anIdx (l : List Tag) (t : Tag) : Ann := [loopAt 2 Nat [] (fun st i => St.at (St.only st [0, 3, 6, 7]) [(8, .d I (i : Int))]) (fun _ i => idxI l t = idxF l t (l.length - i) i ∧ i ≤ l.length) (fun i => l.length - i)]
def hasT (l : List Tag) (t : Tag) : Bool := decide (0 ≤ idxI l t)
def cHasT : Ctr := cdet [.sl tT, tT] (fun _ _ => True) (fun l t => [⟨.bool, hasT l t⟩])
def idnF (l : List Int) (t : Int) : Nat → Nat → Int
  | 0, _ => -1
  | f + 1, i => if l.getD i 0 = t then (i : Int) else idnF l t f (i + 1)
def idnI (l : List Int) (t : Int) : Int := idnF l t l.length 0
def cIdn : Ctr := cdet [.sl I, I] (fun _ _ => True) (fun l t => [⟨I, idnI l t⟩])
def anIdn (l : List Int) (t : Int) : Ann := [loopAt 2 Nat [] (fun st i => St.at (St.only st [0, 1, 6, 7]) [(8, .d I (i : Int))]) (fun _ i => idnI l t = idnF l t (l.length - i) i ∧ i ≤ l.length) (fun i => l.length - i)]
def hasI (l : List Int) (t : Int) : Bool := decide (0 ≤ idnI l t)
def cHasI : Ctr := cdet [.sl I, I] (fun _ _ => True) (fun l t => [⟨.bool, hasI l t⟩])
def goneF (b : Bag) : Nat → Nat → Int
  | 0, _ => 0
  | f + 1, i => if hasT b.1 (b.2.1.getD i tag0) = true then goneF b f (i + 1) else 6
def chkB (b : Bag) : Int := if tagsE b.1 = 0 then (if tagsE b.2.1 = 0 then goneF b b.2.1.length 0 else tagsE b.2.1) else tagsE b.1
def cCheck : Ctr := cdet [tB] (fun _ => True) (fun b => [⟨tErr, chkB b⟩])
def anCheck (b : Bag) : Ann := [joinAll, loopAt 8 Nat [] (fun st i => { St.at (St.only st [1, 20, 21]) [(22, .d I (i : Int))] with ob := [.var 24 tB b] }) (fun _ i => chkB b = goneF b (b.2.1.length - i) i ∧ i ≤ b.2.1.length) (fun i => b.2.1.length - i)]
/-- counters -/
def cntF (l : List Int) : Nat → Nat → Int
  | 0, _ => 0
  | f + 1, i => if inB (l.getD i 0) 0 1000000 = true then cntF l f (i + 1) else 1
def cntE (l : List Int) : Int := if l.length = 0 then 5 else if 5 < l.length then 4 else cntF l l.length 0
def cCounts : Ctr := cdet [.sl I] (fun _ => True) (fun l => [⟨tErr, cntE l⟩])
def anCounts (l : List Int) : Ann := [joinAll, loopAt 6 Nat [] (fun st i => St.at (St.only st [13, 14]) [(15, .d I (i : Int))]) (fun _ i => cntE l = cntF l (l.length - i) i ∧ i ≤ l.length) (fun i => l.length - i)]
/-- the same? -/
def cInts : Ctr := cdet [.sl I, .sl I] (fun _ _ => True) (fun a b => [⟨.bool, decide (a = b)⟩])
def anInts (a b : List Int) : Ann := [joinAll, loopAt 4 Nat [] (fun st i => St.at (St.only st [0, 1]) [(5, .d I (i : Int))]) (fun _ i => i ≤ a.length ∧ a.length = b.length ∧ a.take i = b.take i) (fun i => a.length - i)]
def cSameT : Ctr := cdet [.sl tT, .sl tT] (fun _ _ => True) (fun a b => [⟨.bool, decide (a = b)⟩])
def anSameT (a b : List Tag) : Ann := [joinAll, loopAt 4 Nat [] (fun st i => St.at (St.only st [0, 1]) [(5, .d I (i : Int))]) (fun _ i => i ≤ a.length ∧ a.length = b.length ∧ a.take i = b.take i) (fun i => a.length - i)]
def cSameB : Ctr := cdet [tB, tB] (fun _ _ => True) (fun a b => [⟨.bool, decide (a.1 = b.1) && decide (a.2.1 = b.2.1)⟩])
/-- copies, joined rows: the caller's own -/
def oClone : OCtr := fun args ob k => match args, ob with
  | [.d (.sl (.pr (.int .i64) (.pr (.int .i64) (.pr (.int .i64) .un)))) l], [] => (l : List Tag).length ≤ 1000000000 ∧ k (.os 0) [.row 65 (.pr (.int .i64) (.pr (.int .i64) (.pr (.int .i64) .un))) (l : List Tag)]
  | _, _ => False
def oCloneI : OCtr := fun args ob k => match args, ob with
  | [.d (.sl (.int .i64)) l], [] => (l : List Int).length ≤ 1000000000 ∧ k (.os 0) [.row 3 (.int .i64) (l : List Int)]
  | _, _ => False
def oGrow : OCtr := fun args ob k => match args, ob with
  | [.nils, .d (.int .i64) n], [] => (0 ≤ (n : Int) ∧ (n : Int) ≤ 1000000000) ∧ k (.os 0) [.row 65 (.pr (.int .i64) (.pr (.int .i64) (.pr (.int .i64) .un))) ([] : List Tag)]
  | _, _ => False
def sumL (ls : List (List Tag)) (n : Nat) : Nat := ((ls.take n).map List.length).sum
def oConcat : OCtr := fun args ob k => match args, ob with
  | [.d (.sl (.sl (.pr (.int .i64) (.pr (.int .i64) (.pr (.int .i64) .un))))) ls], [] => sumL (ls : List (List Tag)) (ls : List (List Tag)).length ≤ 1000000000 ∧ k (.os 0) [.row 65 (.pr (.int .i64) (.pr (.int .i64) (.pr (.int .i64) .un))) ((ls : List (List Tag)).flatten : List Tag)]
  | _, _ => False
def anConcat (ls : List (List Tag)) : Ann := [joinAll,
  loopAt 3 Nat [] (fun st i => St.at (St.only st [0, 9, 10]) [(3, .d I (sumL ls i : Int)), (11, .d I (i : Int))]) (fun _ i => i ≤ ls.length ∧ True) (fun i => ls.length - i),
  loopAt 11 Nat [] (fun st i => { St.at (St.only st [6, 25, 26]) [(27, .d I (i : Int))] with ob := [.row 65 tT ((ls.take i).flatten : List Tag)] }) (fun _ i => i ≤ ls.length ∧ True) (fun i => ls.length - i)]
/-- doubles that stand side by side -/
def cpt : List Tag → List Tag
  | x :: y :: l => if x = y then cpt (y :: l) else x :: cpt (y :: l)
  | l => l
def oCompact : OCtr := fun args ob k => match args, ob with
  | [.os 0], [.row 65 (.pr (.int .i64) (.pr (.int .i64) (.pr (.int .i64) .un))) xs] => (xs : List Tag).length ≤ 1000000000 ∧ k (.os 1) [.dead, .row 65 (.pr (.int .i64) (.pr (.int .i64) (.pr (.int .i64) .un))) (cpt (xs : List Tag))]
  | _, _ => False
def anCompact (xs : List Tag) : Ann := [joinAll,
  loopAt 4 Nat [] (fun st i => St.at (St.only st [0]) [(3, .d I (i : Int))]) (fun _ i => 1 ≤ i ∧ i ≤ xs.length ∧ 2 ≤ xs.length ∧ cpt (xs.take i) = xs.take i) (fun i => xs.length - i),
  loopAt 9 (Nat × Nat × Nat × List Tag) [] (fun st g => { St.at (St.only st [0]) [(3, .d I (g.2.2.1 : Int)), (4, .oc tT 0 g.1), (5, .d I (g.2.1 : Int))] with ob := [.row 65 tT g.2.2.2] })
    (fun _ g => 1 ≤ g.1 ∧ 1 ≤ g.2.1 ∧ g.1 + g.2.1 ≤ xs.length ∧ g.2.2.1 < g.1 + g.2.1 ∧ g.2.2.2.length = xs.length ∧ g.2.2.2.take g.2.2.1 = cpt (xs.take (g.1 + g.2.1)) ∧ ∀ j, g.1 + g.2.1 - 1 ≤ j → g.2.2.2.getD j tag0 = xs.getD j tag0) (fun g => xs.length - g.2.1)]
end Go.Proofs.Ytgcliogognkdkaa

/- What the functions of this seat have to satisfy, by program: each verification condition in plain words. -/
namespace Go.Proofs.Ytgcliogognkdkaa
open Go.Vc
set_option linter.unusedVariables false
theorem vcWithin (a b c : Int) (k : List Dat → Prop) : vcF ⟨Eb, [], [], [], []⟩ [joinAll] (Try.f35.body.getD .skip) Try.f35.ntmps [(.tmp 6, .bool)] [⟨I, a⟩, ⟨I, b⟩, ⟨I, c⟩] k = (
  (decide (b ≤ a) = true → k [Dat.mk Ty.bool (decide (a ≤ c))]) ∧ (decide (b ≤ a) = false → k [Dat.mk Ty.bool false])) := by kernel_rfl
theorem vcNaN (a : Int) (k : List Dat → Prop) : vcF ⟨Eb, [], [], [], []⟩ [] (Try.f56.body.getD .skip) Try.f56.ntmps [(.tmp 2, .bool)] [⟨I, a⟩] k = (
  k [Dat.mk Ty.bool !decide (a = a)]) := by kernel_rfl
theorem vcCmp (a b : Int) (k : List Dat → Prop) : vcF ⟨Eb, [(56, cNaN)], [], [], []⟩ [joinAll] (Try.f46.body.getD .skip) Try.f46.ntmps [(.tmp 4, I)] [⟨I, a⟩, ⟨I, b⟩] k = (
  True ∧ True ∧ (false = true → (false = true → k [Dat.mk (I) (0 : Int)]) ∧ (false = false → k [Dat.mk (I) (-1 : Int)])) ∧ (false = false → (false = true → k [Dat.mk (I) (1 : Int)]) ∧ (false = false → (decide (a < b) = true → k [Dat.mk (I) (-1 : Int)]) ∧ (decide (a < b) = false → (decide (b < a) = true → k [Dat.mk (I) (1 : Int)]) ∧ (decide (b < a) = false → k [Dat.mk (I) (0 : Int)]))))) := by kernel_rfl
theorem vcOr (l : List Int) (k : List Dat → Prop) : vcF ⟨Eb, [], [], [], []⟩ (anOr l) (Try.f58.body.getD .skip) Try.f58.ntmps [(.tmp 2, I)] [⟨.sl I, l⟩] k = (
  (∃ (x : Nat), (x ≤ l.length ∧ orI l = orI (List.drop x l)) ∧ ((0 : Int) = (0 : Int) ∧ l = l ∧ (↑l.length : Int) = (↑l.length : Int) ∧ (0 : Int) = (↑x : Int) ∧ True) ∧ True ∧ True) ∧ ∀ (x : Nat), x ≤ l.length ∧ orI l = orI (List.drop x l) → (decide ((↑x : Int) < (↑l.length : Int)) = true → (0 : Int) ≤ (↑x : Int) ∧ (↑x : Int) < (↑l.length : Int) ∧ ((!decide (l.getD (↑x : Int).toNat (0 : Int) = (0 : Int))) = true → k [Dat.mk (I) (l.getD (↑x : Int).toNat (0 : Int))]) ∧ ((!decide (l.getD (↑x : Int).toNat (0 : Int) = (0 : Int))) = false → inK IntKind.i64 ((↑x : Int) + (1 : Int)) ∧ ∃ (x_1 : Nat), (x_1 ≤ l.length ∧ orI l = orI (List.drop x_1 l)) ∧ l.length - x_1 < l.length - x ∧ ((0 : Int) = (0 : Int) ∧ l = l ∧ (↑l.length : Int) = (↑l.length : Int) ∧ (↑x : Int) + (1 : Int) = (↑x_1 : Int) ∧ True) ∧ True ∧ True)) ∧ (decide ((↑x : Int) < (↑l.length : Int)) = false → k [Dat.mk (I) (0 : Int)])) := by kernel_rfl
theorem vcByTag (a b : Tag) (k : List Dat → Prop) : vcF ⟨Eb, [(46, cCmp), (58, cOr)], [], [], []⟩ [joinAll] (Try.f48.body.getD .skip) Try.f48.ntmps [(.tmp 4, I)] [⟨tT, a⟩, ⟨tT, b⟩] k = (
  (True ∧ True ∧ True ∧ True ∧ True) ∧ k [Dat.mk (I) (orI ((((List.replicate (3 : Nat) (0 : Int)).set (0 : Nat) (cmpI a.fst b.fst)).set (1 : Nat) (cmpI a.snd.fst b.snd.fst)).set (2 : Nat) (cmpI a.snd.snd.fst b.snd.snd.fst)))]) := by kernel_rfl
theorem vcTags (l : List Tag) (k : List Dat → Prop) : vcF ⟨Eb, [(35, cWithin), (48, cByTag)], [], [], []⟩ (anTags l) (Try.f33.body.getD .skip) Try.f33.ntmps [(.tmp 2, tErr)] [⟨.sl tT, l⟩] k = (
  (decide ((24 : Int) < (↑l.length : Int)) = true → (4 : Int) ≠ (0 : Int) ∧ k [Dat.mk (Ty.err (66 : Nat)) (4 : Int)]) ∧ (decide ((24 : Int) < (↑l.length : Int)) = false → (∃ (x : Nat), (tagsE l = tagsF l (l.length - x) x ∧ x ≤ l.length) ∧ (l = l ∧ l = l ∧ (↑l.length : Int) = (↑l.length : Int) ∧ (0 : Int) = (↑x : Int) ∧ True) ∧ True ∧ True) ∧ ∀ (x : Nat), tagsE l = tagsF l (l.length - x) x ∧ x ≤ l.length → (decide ((↑x : Int) < (↑l.length : Int)) = true → (0 : Int) ≤ (↑x : Int) ∧ (↑x : Int) < (↑l.length : Int) ∧ True ∧ ((!inB (l.getD (↑x : Int).toNat ((0 : Int), (0 : Int), (0 : Int), ())).fst (0 : Int) (9 : Int)) = true → (1 : Int) ≠ (0 : Int) ∧ k [Dat.mk (Ty.err (66 : Nat)) (1 : Int)]) ∧ ((!inB (l.getD (↑x : Int).toNat ((0 : Int), (0 : Int), (0 : Int), ())).fst (0 : Int) (9 : Int)) = false → True ∧ ((!inB (l.getD (↑x : Int).toNat ((0 : Int), (0 : Int), (0 : Int), ())).snd.fst (0 : Int) (4 : Int)) = true → (1 : Int) ≠ (0 : Int) ∧ k [Dat.mk (Ty.err (66 : Nat)) (1 : Int)]) ∧ ((!inB (l.getD (↑x : Int).toNat ((0 : Int), (0 : Int), (0 : Int), ())).snd.fst (0 : Int) (4 : Int)) = false → True ∧ ((!inB (l.getD (↑x : Int).toNat ((0 : Int), (0 : Int), (0 : Int), ())).snd.snd.fst (1 : Int) (1000000 : Int)) = true → (1 : Int) ≠ (0 : Int) ∧ k [Dat.mk (Ty.err (66 : Nat)) (1 : Int)]) ∧ ((!inB (l.getD (↑x : Int).toNat ((0 : Int), (0 : Int), (0 : Int), ())).snd.snd.fst (1 : Int) (1000000 : Int)) = false → ((decide ((0 : Int) < (↑x : Int)) = true → inK IntKind.i64 ((↑x : Int) - (1 : Int)) ∧ (0 : Int) ≤ (↑x : Int) - (1 : Int) ∧ (↑x : Int) - (1 : Int) < (↑l.length : Int) ∧ True ∧ True) ∧ (decide ((0 : Int) < (↑x : Int)) = false → True)) ∧ ((decide ((0 : Int) < (↑x : Int)) && decide ((0 : Int) ≤ cmpT (l.getD ((↑x : Int) - (1 : Int)).toNat ((0 : Int), (0 : Int), (0 : Int), ())) (l.getD (↑x : Int).toNat ((0 : Int), (0 : Int), (0 : Int), ())))) = true → (3 : Int) ≠ (0 : Int) ∧ k [Dat.mk (Ty.err (66 : Nat)) (3 : Int)]) ∧ ((decide ((0 : Int) < (↑x : Int)) && decide ((0 : Int) ≤ cmpT (l.getD ((↑x : Int) - (1 : Int)).toNat ((0 : Int), (0 : Int), (0 : Int), ())) (l.getD (↑x : Int).toNat ((0 : Int), (0 : Int), (0 : Int), ())))) = false → inK IntKind.i64 ((↑x : Int) + (1 : Int)) ∧ ∃ (x_1 : Nat), (tagsE l = tagsF l (l.length - x_1) x_1 ∧ x_1 ≤ l.length) ∧ l.length - x_1 < l.length - x ∧ (l = l ∧ l = l ∧ (↑l.length : Int) = (↑l.length : Int) ∧ (↑x : Int) + (1 : Int) = (↑x_1 : Int) ∧ True) ∧ True ∧ True))))) ∧ (decide ((↑x : Int) < (↑l.length : Int)) = false → k [Dat.mk (Ty.err (66 : Nat)) (0 : Int)]))) := by kernel_rfl
theorem vcIdx (l : List Tag) (t : Tag) (k : List Dat → Prop) : vcF ⟨Eb, [], [], [], []⟩ (anIdx l t) (Try.f51.body.getD .skip) Try.f51.ntmps [(.tmp 4, I)] [⟨.sl tT, l⟩, ⟨tT, t⟩] k = (
  (∃ (x : Nat), (idxI l t = idxF l t (l.length - x) x ∧ x ≤ l.length) ∧ (l = l ∧ ([] : List Nat) = [] ∧ l = l ∧ (↑l.length : Int) = (↑l.length : Int) ∧ (0 : Int) = (↑x : Int) ∧ True) ∧ (((65 : Nat) = (65 : Nat) ∧ t = t) ∧ True) ∧ True) ∧ ∀ (x : Nat), idxI l t = idxF l t (l.length - x) x ∧ x ≤ l.length → (decide ((↑x : Int) < (↑l.length : Int)) = true → (0 : Int) ≤ (↑x : Int) ∧ (↑x : Int) < (↑l.length : Int) ∧ ((decide (t.fst = (l.getD (↑x : Int).toNat ((0 : Int), (0 : Int), (0 : Int), ())).fst) && (decide (t.snd.fst = (l.getD (↑x : Int).toNat ((0 : Int), (0 : Int), (0 : Int), ())).snd.fst) && (decide (t.snd.snd.fst = (l.getD (↑x : Int).toNat ((0 : Int), (0 : Int), (0 : Int), ())).snd.snd.fst) && true))) = true → k [Dat.mk (I) (↑x : Int)]) ∧ ((decide (t.fst = (l.getD (↑x : Int).toNat ((0 : Int), (0 : Int), (0 : Int), ())).fst) && (decide (t.snd.fst = (l.getD (↑x : Int).toNat ((0 : Int), (0 : Int), (0 : Int), ())).snd.fst) && (decide (t.snd.snd.fst = (l.getD (↑x : Int).toNat ((0 : Int), (0 : Int), (0 : Int), ())).snd.snd.fst) && true))) = false → inK IntKind.i64 ((↑x : Int) + (1 : Int)) ∧ ∃ (x_1 : Nat), (idxI l t = idxF l t (l.length - x_1) x_1 ∧ x_1 ≤ l.length) ∧ l.length - x_1 < l.length - x ∧ (l = l ∧ ([] : List Nat) = [] ∧ l = l ∧ (↑l.length : Int) = (↑l.length : Int) ∧ (↑x : Int) + (1 : Int) = (↑x_1 : Int) ∧ True) ∧ (((65 : Nat) = (65 : Nat) ∧ t = t) ∧ True) ∧ True)) ∧ (decide ((↑x : Int) < (↑l.length : Int)) = false → k [Dat.mk (I) (-1 : Int)])) := by kernel_rfl
theorem vcHasT (l : List Tag) (t : Tag) (k : List Dat → Prop) : vcF ⟨Eb, [(51, cIdx)], [], [], []⟩ [] (Try.f34.body.getD .skip) Try.f34.ntmps [(.tmp 4, .bool)] [⟨.sl tT, l⟩, ⟨tT, t⟩] k = (
  True ∧ k [Dat.mk Ty.bool (decide ((0 : Int) ≤ idxI l t))]) := by kernel_rfl
theorem vcIdn (l : List Int) (t : Int) (k : List Dat → Prop) : vcF ⟨Eb, [], [], [], []⟩ (anIdn l t) (Try.f52.body.getD .skip) Try.f52.ntmps [(.tmp 4, I)] [⟨.sl I, l⟩, ⟨I, t⟩] k = (
  (∃ (x : Nat), (idnI l t = idnF l t (l.length - x) x ∧ x ≤ l.length) ∧ (l = l ∧ t = t ∧ l = l ∧ (↑l.length : Int) = (↑l.length : Int) ∧ (0 : Int) = (↑x : Int) ∧ True) ∧ True ∧ True) ∧ ∀ (x : Nat), idnI l t = idnF l t (l.length - x) x ∧ x ≤ l.length → (decide ((↑x : Int) < (↑l.length : Int)) = true → (0 : Int) ≤ (↑x : Int) ∧ (↑x : Int) < (↑l.length : Int) ∧ (decide (t = l.getD (↑x : Int).toNat (0 : Int)) = true → k [Dat.mk (I) (↑x : Int)]) ∧ (decide (t = l.getD (↑x : Int).toNat (0 : Int)) = false → inK IntKind.i64 ((↑x : Int) + (1 : Int)) ∧ ∃ (x_1 : Nat), (idnI l t = idnF l t (l.length - x_1) x_1 ∧ x_1 ≤ l.length) ∧ l.length - x_1 < l.length - x ∧ (l = l ∧ t = t ∧ l = l ∧ (↑l.length : Int) = (↑l.length : Int) ∧ (↑x : Int) + (1 : Int) = (↑x_1 : Int) ∧ True) ∧ True ∧ True)) ∧ (decide ((↑x : Int) < (↑l.length : Int)) = false → k [Dat.mk (I) (-1 : Int)])) := by kernel_rfl
theorem vcHasI (l : List Int) (t : Int) (k : List Dat → Prop) : vcF ⟨Eb, [(52, cIdn)], [], [], []⟩ [] (Try.f37.body.getD .skip) Try.f37.ntmps [(.tmp 4, .bool)] [⟨.sl I, l⟩, ⟨I, t⟩] k = (
  True ∧ k [Dat.mk Ty.bool (decide ((0 : Int) ≤ idnI l t))]) := by kernel_rfl
theorem vcCheck (b : Bag) (k : List Dat → Prop) : vcF ⟨Eb, [(33, cTags), (34, cHasT)], [], [], []⟩ (anCheck b) (Try.f13.body.getD .skip) Try.f13.ntmps [(.tmp 2, tErr)] [⟨tB, b⟩] k = (
  True ∧ ((!decide (tagsE b.fst = (0 : Int))) = true → k [Dat.mk (Ty.err (66 : Nat)) (tagsE b.fst)]) ∧ ((!decide (tagsE b.fst = (0 : Int))) = false → True ∧ ((!decide (tagsE b.snd.fst = (0 : Int))) = true → k [Dat.mk (Ty.err (66 : Nat)) (tagsE b.snd.fst)]) ∧ ((!decide (tagsE b.snd.fst = (0 : Int))) = false → (∃ (x : Nat), (chkB b = goneF b (b.snd.fst.length - x) x ∧ x ≤ b.snd.fst.length) ∧ (([] : List Nat) = [] ∧ b.snd.fst = b.snd.fst ∧ (↑(List.length b.snd.fst) : Int) = (↑(List.length b.snd.fst) : Int) ∧ (0 : Int) = (↑x : Int) ∧ True) ∧ (((24 : Nat) = (24 : Nat) ∧ b = b) ∧ True) ∧ True) ∧ ∀ (x : Nat), chkB b = goneF b (b.snd.fst.length - x) x ∧ x ≤ b.snd.fst.length → (decide ((↑x : Int) < (↑(List.length b.snd.fst) : Int)) = true → (0 : Int) ≤ (↑x : Int) ∧ (↑x : Int) < (↑(List.length b.snd.fst) : Int) ∧ True ∧ ((!hasT b.fst (List.getD b.snd.fst (↑x : Int).toNat ((0 : Int), (0 : Int), (0 : Int), ()))) = true → (6 : Int) ≠ (0 : Int) ∧ k [Dat.mk (Ty.err (66 : Nat)) (6 : Int)]) ∧ ((!hasT b.fst (List.getD b.snd.fst (↑x : Int).toNat ((0 : Int), (0 : Int), (0 : Int), ()))) = false → inK IntKind.i64 ((↑x : Int) + (1 : Int)) ∧ ∃ (x_1 : Nat), (chkB b = goneF b (b.snd.fst.length - x_1) x_1 ∧ x_1 ≤ b.snd.fst.length) ∧ b.snd.fst.length - x_1 < b.snd.fst.length - x ∧ (([] : List Nat) = [] ∧ b.snd.fst = b.snd.fst ∧ (↑(List.length b.snd.fst) : Int) = (↑(List.length b.snd.fst) : Int) ∧ (↑x : Int) + (1 : Int) = (↑x_1 : Int) ∧ True) ∧ (((24 : Nat) = (24 : Nat) ∧ b = b) ∧ True) ∧ True)) ∧ (decide ((↑x : Int) < (↑(List.length b.snd.fst) : Int)) = false → k [Dat.mk (Ty.err (66 : Nat)) (0 : Int)])))) := by kernel_rfl
theorem vcCounts (l : List Int) (k : List Dat → Prop) : vcF ⟨Eb, [(35, cWithin)], [], [], []⟩ (anCounts l) (Try.f38.body.getD .skip) Try.f38.ntmps [(.tmp 2, tErr)] [⟨.sl I, l⟩] k = (
  (decide ((↑l.length : Int) = (0 : Int)) = true → (5 : Int) ≠ (0 : Int) ∧ k [Dat.mk (Ty.err (66 : Nat)) (5 : Int)]) ∧ (decide ((↑l.length : Int) = (0 : Int)) = false → (decide ((5 : Int) < (↑l.length : Int)) = true → (4 : Int) ≠ (0 : Int) ∧ k [Dat.mk (Ty.err (66 : Nat)) (4 : Int)]) ∧ (decide ((5 : Int) < (↑l.length : Int)) = false → (∃ (x : Nat), (cntE l = cntF l (l.length - x) x ∧ x ≤ l.length) ∧ (l = l ∧ (↑l.length : Int) = (↑l.length : Int) ∧ (0 : Int) = (↑x : Int) ∧ True) ∧ True ∧ True) ∧ ∀ (x : Nat), cntE l = cntF l (l.length - x) x ∧ x ≤ l.length → (decide ((↑x : Int) < (↑l.length : Int)) = true → (0 : Int) ≤ (↑x : Int) ∧ (↑x : Int) < (↑l.length : Int) ∧ True ∧ ((!inB (l.getD (↑x : Int).toNat (0 : Int)) (0 : Int) (1000000 : Int)) = true → (1 : Int) ≠ (0 : Int) ∧ k [Dat.mk (Ty.err (66 : Nat)) (1 : Int)]) ∧ ((!inB (l.getD (↑x : Int).toNat (0 : Int)) (0 : Int) (1000000 : Int)) = false → inK IntKind.i64 ((↑x : Int) + (1 : Int)) ∧ ∃ (x_1 : Nat), (cntE l = cntF l (l.length - x_1) x_1 ∧ x_1 ≤ l.length) ∧ l.length - x_1 < l.length - x ∧ (l = l ∧ (↑l.length : Int) = (↑l.length : Int) ∧ (↑x : Int) + (1 : Int) = (↑x_1 : Int) ∧ True) ∧ True ∧ True)) ∧ (decide ((↑x : Int) < (↑l.length : Int)) = false → k [Dat.mk (Ty.err (66 : Nat)) (0 : Int)])))) := by kernel_rfl
theorem vcInts (a b : List Int) (k : List Dat → Prop) : vcF ⟨Eb, [], [], [], []⟩ (anInts a b) (Try.f19.body.getD .skip) Try.f19.ntmps [(.tmp 4, .bool)] [⟨.sl I, a⟩, ⟨.sl I, b⟩] k = (
  ((!decide ((↑a.length : Int) = (↑b.length : Int))) = true → k [Dat.mk Ty.bool false]) ∧ ((!decide ((↑a.length : Int) = (↑b.length : Int))) = false → (∃ (x : Nat), (x ≤ a.length ∧ a.length = b.length ∧ List.take x a = List.take x b) ∧ (a = a ∧ b = b ∧ (0 : Int) = (↑x : Int) ∧ True) ∧ True ∧ True) ∧ ∀ (x : Nat), x ≤ a.length ∧ a.length = b.length ∧ List.take x a = List.take x b → (decide ((↑x : Int) < (↑a.length : Int)) = true → ((0 : Int) ≤ (↑x : Int) ∧ (↑x : Int) < (↑a.length : Int) ∧ (0 : Int) ≤ (↑x : Int) ∧ (↑x : Int) < (↑b.length : Int) ∧ True) ∧ ((!decide (a.getD (↑x : Int).toNat (0 : Int) = b.getD (↑x : Int).toNat (0 : Int))) = true → k [Dat.mk Ty.bool false]) ∧ ((!decide (a.getD (↑x : Int).toNat (0 : Int) = b.getD (↑x : Int).toNat (0 : Int))) = false → inK IntKind.i64 ((↑x : Int) + (1 : Int)) ∧ ∃ (x_1 : Nat), (x_1 ≤ a.length ∧ a.length = b.length ∧ List.take x_1 a = List.take x_1 b) ∧ a.length - x_1 < a.length - x ∧ (a = a ∧ b = b ∧ (↑x : Int) + (1 : Int) = (↑x_1 : Int) ∧ True) ∧ True ∧ True)) ∧ (decide ((↑x : Int) < (↑a.length : Int)) = false → k [Dat.mk Ty.bool true]))) := by kernel_rfl
theorem vcSameT (a b : List Tag) (k : List Dat → Prop) : vcF ⟨Eb, [], [], [], []⟩ (anSameT a b) (Try.f32.body.getD .skip) Try.f32.ntmps [(.tmp 4, .bool)] [⟨.sl tT, a⟩, ⟨.sl tT, b⟩] k = (
  ((!decide ((↑a.length : Int) = (↑b.length : Int))) = true → k [Dat.mk Ty.bool false]) ∧ ((!decide ((↑a.length : Int) = (↑b.length : Int))) = false → (∃ (x : Nat), (x ≤ a.length ∧ a.length = b.length ∧ List.take x a = List.take x b) ∧ (a = a ∧ b = b ∧ (0 : Int) = (↑x : Int) ∧ True) ∧ True ∧ True) ∧ ∀ (x : Nat), x ≤ a.length ∧ a.length = b.length ∧ List.take x a = List.take x b → (decide ((↑x : Int) < (↑a.length : Int)) = true → ((0 : Int) ≤ (↑x : Int) ∧ (↑x : Int) < (↑a.length : Int) ∧ (0 : Int) ≤ (↑x : Int) ∧ (↑x : Int) < (↑b.length : Int) ∧ True) ∧ ((!(decide ((a.getD (↑x : Int).toNat ((0 : Int), (0 : Int), (0 : Int), ())).fst = (b.getD (↑x : Int).toNat ((0 : Int), (0 : Int), (0 : Int), ())).fst) && (decide ((a.getD (↑x : Int).toNat ((0 : Int), (0 : Int), (0 : Int), ())).snd.fst = (b.getD (↑x : Int).toNat ((0 : Int), (0 : Int), (0 : Int), ())).snd.fst) && (decide ((a.getD (↑x : Int).toNat ((0 : Int), (0 : Int), (0 : Int), ())).snd.snd.fst = (b.getD (↑x : Int).toNat ((0 : Int), (0 : Int), (0 : Int), ())).snd.snd.fst) && true)))) = true → k [Dat.mk Ty.bool false]) ∧ ((!(decide ((a.getD (↑x : Int).toNat ((0 : Int), (0 : Int), (0 : Int), ())).fst = (b.getD (↑x : Int).toNat ((0 : Int), (0 : Int), (0 : Int), ())).fst) && (decide ((a.getD (↑x : Int).toNat ((0 : Int), (0 : Int), (0 : Int), ())).snd.fst = (b.getD (↑x : Int).toNat ((0 : Int), (0 : Int), (0 : Int), ())).snd.fst) && (decide ((a.getD (↑x : Int).toNat ((0 : Int), (0 : Int), (0 : Int), ())).snd.snd.fst = (b.getD (↑x : Int).toNat ((0 : Int), (0 : Int), (0 : Int), ())).snd.snd.fst) && true)))) = false → inK IntKind.i64 ((↑x : Int) + (1 : Int)) ∧ ∃ (x_1 : Nat), (x_1 ≤ a.length ∧ a.length = b.length ∧ List.take x_1 a = List.take x_1 b) ∧ a.length - x_1 < a.length - x ∧ (a = a ∧ b = b ∧ (↑x : Int) + (1 : Int) = (↑x_1 : Int) ∧ True) ∧ True ∧ True)) ∧ (decide ((↑x : Int) < (↑a.length : Int)) = false → k [Dat.mk Ty.bool true]))) := by kernel_rfl
theorem vcSameB (a b : Bag) (k : List Dat → Prop) : vcF ⟨Eb, [(32, cSameT)], [], [], []⟩ [joinAll] (Try.f12.body.getD .skip) Try.f12.ntmps [(.tmp 4, .bool)] [⟨tB, a⟩, ⟨tB, b⟩] k = (
  True ∧ (decide (a.fst = b.fst) = true → True ∧ k [Dat.mk Ty.bool (decide (a.snd.fst = b.snd.fst))]) ∧ (decide (a.fst = b.fst) = false → k [Dat.mk Ty.bool false])) := by kernel_rfl
theorem vcClone (l : List Tag) (k : SV → List Ob → Prop) : vcO ⟨Eb, [], [], [], []⟩ [] (Try.f36.body.getD .skip) Try.f36.ntmps [(.tmp 2, .un)] [.d (.sl tT) l] [] k = (
  ∀ (b : Bool), (b = true → l = []) → (b = true → k SV.nils []) ∧ (b = false → ([] : List Int).length + l.length ≤ (1000000000 : Nat) ∧ k (SV.os (0 : Nat)) [Ob.row (65 : Nat) (tT) l])) := by kernel_rfl
theorem vcCloneI (l : List Int) (k : SV → List Ob → Prop) : vcO ⟨Eb, [], [], [], []⟩ [] (Try.f39.body.getD .skip) Try.f39.ntmps [(.tmp 2, .un)] [.d (.sl I) l] [] k = (
  ∀ (b : Bool), (b = true → l = []) → (b = true → k SV.nils []) ∧ (b = false → ([] : List Int).length + l.length ≤ (1000000000 : Nat) ∧ k (SV.os (0 : Nat)) [Ob.row (3 : Nat) (I) l])) := by kernel_rfl
theorem vcGrow (n : Int) (k : SV → List Ob → Prop) : vcO ⟨Eb, [], [], [], []⟩ [joinAll] (Try.f50.body.getD .skip) Try.f50.ntmps [(.tmp 4, .un)] [.nils, .d I n] [] k = (
  (decide (n < (0 : Int)) = true → False) ∧ (decide (n < (0 : Int)) = false → inK IntKind.i64 ((0 : Int) - (0 : Int)) ∧ inK IntKind.i64 (n - ((0 : Int) - (0 : Int))) ∧ (decide ((0 : Int) < n - ((0 : Int) - (0 : Int))) = true → (0 : Int) = (0 : Int) ∧ ((0 : Int) < n - ((0 : Int) - (0 : Int)) ∧ n - ((0 : Int) - (0 : Int)) ≤ (1000000000 : Int)) ∧ ((0 : Int) ≤ (0 : Int) ∧ (0 : Int) ≤ (↑(List.replicate (n - ((0 : Int) - (0 : Int))).toNat ((0 : Int), (0 : Int), (0 : Int), ())).length : Int)) ∧ k (SV.os (0 : Nat)) [Ob.row (65 : Nat) (tT) (List.take (Int.toNat (0 : Int)) (List.replicate (n - ((0 : Int) - (0 : Int))).toNat ((0 : Int), (0 : Int), (0 : Int), ())))]) ∧ (decide ((0 : Int) < n - ((0 : Int) - (0 : Int))) = false → k SV.nils []))) := by kernel_rfl
theorem vcConcat (ls : List (List Tag)) (k : SV → List Ob → Prop) : vcO ⟨Eb, [], [], [], [(50, oGrow)]⟩ (anConcat ls) (Try.f31.body.getD .skip) Try.f31.ntmps [(.tmp 2, .un)] [.d (.sl (.sl tT)) ls] [] k = (
  (∃ (x : Nat), (x ≤ ls.length ∧ True) ∧ (ls = ls ∧ (0 : Int) = (↑(sumL ls x) : Int) ∧ ls = ls ∧ (↑ls.length : Int) = (↑ls.length : Int) ∧ (0 : Int) = (↑x : Int) ∧ True) ∧ True ∧ ls = ls ∧ True) ∧ ∀ (x : Nat), x ≤ ls.length ∧ True → (decide ((↑x : Int) < (↑ls.length : Int)) = true → (0 : Int) ≤ (↑x : Int) ∧ (↑x : Int) < (↑ls.length : Int) ∧ inK IntKind.i64 ((↑(sumL ls x) : Int) + (↑(ls.getD (↑x : Int).toNat []).length : Int)) ∧ (decide ((↑(sumL ls x) : Int) + (↑(ls.getD (↑x : Int).toNat []).length : Int) < (0 : Int)) = true → False) ∧ (decide ((↑(sumL ls x) : Int) + (↑(ls.getD (↑x : Int).toNat []).length : Int) < (0 : Int)) = false → inK IntKind.i64 ((↑x : Int) + (1 : Int)) ∧ ∃ (x_1 : Nat), (x_1 ≤ ls.length ∧ True) ∧ ls.length - x_1 < ls.length - x ∧ (ls = ls ∧ (↑(sumL ls x) : Int) + (↑(ls.getD (↑x : Int).toNat []).length : Int) = (↑(sumL ls x_1) : Int) ∧ ls = ls ∧ (↑ls.length : Int) = (↑ls.length : Int) ∧ (↑x : Int) + (1 : Int) = (↑x_1 : Int) ∧ True) ∧ True ∧ ls = ls ∧ True)) ∧ (decide ((↑x : Int) < (↑ls.length : Int)) = false → ((0 : Int) ≤ (↑(sumL ls x) : Int) ∧ (↑(sumL ls x) : Int) ≤ (1000000000 : Int)) ∧ (∃ (x : Nat), (x ≤ ls.length ∧ True) ∧ (True ∧ ls = ls ∧ (↑ls.length : Int) = (↑ls.length : Int) ∧ (0 : Int) = (↑x : Int) ∧ True) ∧ (((65 : Nat) = (65 : Nat) ∧ [] = (List.take x ls).flatten) ∧ True) ∧ ls = ls ∧ True) ∧ ∀ (x : Nat), x ≤ ls.length ∧ True → (decide ((↑x : Int) < (↑ls.length : Int)) = true → (0 : Int) ≤ (↑x : Int) ∧ (↑x : Int) < (↑ls.length : Int) ∧ (List.take x ls).flatten.length + (ls.getD (↑x : Int).toNat []).length ≤ (1000000000 : Nat) ∧ inK IntKind.i64 ((↑x : Int) + (1 : Int)) ∧ ∃ (x_1 : Nat), (x_1 ≤ ls.length ∧ True) ∧ ls.length - x_1 < ls.length - x ∧ (True ∧ ls = ls ∧ (↑ls.length : Int) = (↑ls.length : Int) ∧ (↑x : Int) + (1 : Int) = (↑x_1 : Int) ∧ True) ∧ (((65 : Nat) = (65 : Nat) ∧ (List.take x ls).flatten.append (ls.getD (↑x : Int).toNat []) = (List.take x_1 ls).flatten) ∧ True) ∧ ls = ls ∧ True) ∧ (decide ((↑x : Int) < (↑ls.length : Int)) = false → k (SV.os (0 : Nat)) [Ob.row (65 : Nat) (tT) (List.take x ls).flatten]))) := by kernel_rfl
theorem vcCompact (xs : List Tag) (k : SV → List Ob → Prop) : vcO ⟨Eb, [], [], [], []⟩ (anCompact xs) (Try.f49.body.getD .skip) Try.f49.ntmps [(.tmp 2, .un)] [.os 0] [.row 65 tT xs] k = (
  (decide ((↑xs.length : Int) < (2 : Int)) = true → k (SV.os (0 : Nat)) [Ob.row (65 : Nat) (tT) xs]) ∧ (decide ((↑xs.length : Int) < (2 : Int)) = false → (∃ (x : Nat), ((1 : Nat) ≤ x ∧ x ≤ xs.length ∧ (2 : Nat) ≤ xs.length ∧ cpt (List.take x xs) = List.take x xs) ∧ (True ∧ (1 : Int) = (↑x : Int) ∧ True) ∧ (((65 : Nat) = (65 : Nat) ∧ xs = xs) ∧ True) ∧ True ∧ True) ∧ ∀ (x : Nat), (1 : Nat) ≤ x ∧ x ≤ xs.length ∧ (2 : Nat) ≤ xs.length ∧ cpt (List.take x xs) = List.take x xs → (decide ((↑x : Int) < (↑xs.length : Int)) = true → ((0 : Int) ≤ (↑x : Int) ∧ (↑x : Int) < (↑xs.length : Int) ∧ inK IntKind.i64 ((↑x : Int) - (1 : Int)) ∧ (0 : Int) ≤ (↑x : Int) - (1 : Int) ∧ (↑x : Int) - (1 : Int) < (↑xs.length : Int) ∧ True) ∧ ((decide ((xs.getD (↑x : Int).toNat ((0 : Int), (0 : Int), (0 : Int), ())).fst = (xs.getD ((↑x : Int) - (1 : Int)).toNat ((0 : Int), (0 : Int), (0 : Int), ())).fst) && (decide ((xs.getD (↑x : Int).toNat ((0 : Int), (0 : Int), (0 : Int), ())).snd.fst = (xs.getD ((↑x : Int) - (1 : Int)).toNat ((0 : Int), (0 : Int), (0 : Int), ())).snd.fst) && (decide ((xs.getD (↑x : Int).toNat ((0 : Int), (0 : Int), (0 : Int), ())).snd.snd.fst = (xs.getD ((↑x : Int) - (1 : Int)).toNat ((0 : Int), (0 : Int), (0 : Int), ())).snd.snd.fst) && true))) = true → ((0 : Int) ≤ (↑x : Int) ∧ (↑x : Int) < (↑xs.length : Int)) ∧ (∃ (x_1 : Nat × Nat × Nat × List Tag), ((1 : Nat) ≤ x_1.fst ∧ (1 : Nat) ≤ x_1.snd.fst ∧ x_1.fst + x_1.snd.fst ≤ xs.length ∧ x_1.snd.snd.fst < x_1.fst + x_1.snd.fst ∧ x_1.snd.snd.snd.length = xs.length ∧ List.take x_1.snd.snd.fst x_1.snd.snd.snd = cpt (List.take (x_1.fst + x_1.snd.fst) xs) ∧ ∀ (j : Nat), x_1.fst + x_1.snd.fst - (1 : Nat) ≤ j → x_1.snd.snd.snd.getD j tag0 = xs.getD j tag0) ∧ (True ∧ (↑x : Int) = (↑x_1.snd.snd.fst : Int) ∧ (↑x : Int).toNat = x_1.fst ∧ (1 : Int) = (↑x_1.snd.fst : Int) ∧ True) ∧ (((65 : Nat) = (65 : Nat) ∧ xs = x_1.snd.snd.snd) ∧ True) ∧ True ∧ True) ∧ ∀ (x : Nat × Nat × Nat × List Tag), ((1 : Nat) ≤ x.fst ∧ (1 : Nat) ≤ x.snd.fst ∧ x.fst + x.snd.fst ≤ xs.length ∧ x.snd.snd.fst < x.fst + x.snd.fst ∧ x.snd.snd.snd.length = xs.length ∧ List.take x.snd.snd.fst x.snd.snd.snd = cpt (List.take (x.fst + x.snd.fst) xs) ∧ ∀ (j : Nat), x.fst + x.snd.fst - (1 : Nat) ≤ j → x.snd.snd.snd.getD j tag0 = xs.getD j tag0) → (decide ((↑x.snd.fst : Int) < (↑(x.snd.snd.snd.length - x.fst) : Int)) = true → ((0 : Int) ≤ (↑x.snd.fst : Int) ∧ (↑x.snd.fst : Int) + (↑x.fst : Int) < (↑x.snd.snd.snd.length : Int) ∧ inK IntKind.i64 ((↑x.snd.fst : Int) - (1 : Int)) ∧ (0 : Int) ≤ (↑x.snd.fst : Int) - (1 : Int) ∧ (↑x.snd.fst : Int) - (1 : Int) + (↑x.fst : Int) < (↑x.snd.snd.snd.length : Int) ∧ True) ∧ ((!(decide ((x.snd.snd.snd.getD (x.fst + (↑x.snd.fst : Int).toNat) ((0 : Int), (0 : Int), (0 : Int), ())).fst = (x.snd.snd.snd.getD (x.fst + ((↑x.snd.fst : Int) - (1 : Int)).toNat) ((0 : Int), (0 : Int), (0 : Int), ())).fst) && (decide ((x.snd.snd.snd.getD (x.fst + (↑x.snd.fst : Int).toNat) ((0 : Int), (0 : Int), (0 : Int), ())).snd.fst = (x.snd.snd.snd.getD (x.fst + ((↑x.snd.fst : Int) - (1 : Int)).toNat) ((0 : Int), (0 : Int), (0 : Int), ())).snd.fst) && (decide ((x.snd.snd.snd.getD (x.fst + (↑x.snd.fst : Int).toNat) ((0 : Int), (0 : Int), (0 : Int), ())).snd.snd.fst = (x.snd.snd.snd.getD (x.fst + ((↑x.snd.fst : Int) - (1 : Int)).toNat) ((0 : Int), (0 : Int), (0 : Int), ())).snd.snd.fst) && true)))) = true → (0 : Int) ≤ (↑x.snd.fst : Int) ∧ (↑x.snd.fst : Int) + (↑x.fst : Int) < (↑x.snd.snd.snd.length : Int) ∧ (0 : Int) ≤ (↑x.snd.snd.fst : Int) ∧ (↑x.snd.snd.fst : Int) < (↑x.snd.snd.snd.length : Int) ∧ inK IntKind.i64 ((↑x.snd.snd.fst : Int) + (1 : Int)) ∧ inK IntKind.i64 ((↑x.snd.fst : Int) + (1 : Int)) ∧ ∃ (x_1 : Nat × Nat × Nat × List Tag), ((1 : Nat) ≤ x_1.fst ∧ (1 : Nat) ≤ x_1.snd.fst ∧ x_1.fst + x_1.snd.fst ≤ xs.length ∧ x_1.snd.snd.fst < x_1.fst + x_1.snd.fst ∧ x_1.snd.snd.snd.length = xs.length ∧ List.take x_1.snd.snd.fst x_1.snd.snd.snd = cpt (List.take (x_1.fst + x_1.snd.fst) xs) ∧ ∀ (j : Nat), x_1.fst + x_1.snd.fst - (1 : Nat) ≤ j → x_1.snd.snd.snd.getD j tag0 = xs.getD j tag0) ∧ xs.length - x_1.snd.fst < xs.length - x.snd.fst ∧ (True ∧ (↑x.snd.snd.fst : Int) + (1 : Int) = (↑x_1.snd.snd.fst : Int) ∧ x.fst = x_1.fst ∧ (↑x.snd.fst : Int) + (1 : Int) = (↑x_1.snd.fst : Int) ∧ True) ∧ (((65 : Nat) = (65 : Nat) ∧ x.snd.snd.snd.set (↑x.snd.snd.fst : Int).toNat (x.snd.snd.snd.getD (x.fst + (↑x.snd.fst : Int).toNat) ((0 : Int), (0 : Int), (0 : Int), ())) = x_1.snd.snd.snd) ∧ True) ∧ True ∧ True) ∧ ((!(decide ((x.snd.snd.snd.getD (x.fst + (↑x.snd.fst : Int).toNat) ((0 : Int), (0 : Int), (0 : Int), ())).fst = (x.snd.snd.snd.getD (x.fst + ((↑x.snd.fst : Int) - (1 : Int)).toNat) ((0 : Int), (0 : Int), (0 : Int), ())).fst) && (decide ((x.snd.snd.snd.getD (x.fst + (↑x.snd.fst : Int).toNat) ((0 : Int), (0 : Int), (0 : Int), ())).snd.fst = (x.snd.snd.snd.getD (x.fst + ((↑x.snd.fst : Int) - (1 : Int)).toNat) ((0 : Int), (0 : Int), (0 : Int), ())).snd.fst) && (decide ((x.snd.snd.snd.getD (x.fst + (↑x.snd.fst : Int).toNat) ((0 : Int), (0 : Int), (0 : Int), ())).snd.snd.fst = (x.snd.snd.snd.getD (x.fst + ((↑x.snd.fst : Int) - (1 : Int)).toNat) ((0 : Int), (0 : Int), (0 : Int), ())).snd.snd.fst) && true)))) = false → inK IntKind.i64 ((↑x.snd.fst : Int) + (1 : Int)) ∧ ∃ (x_1 : Nat × Nat × Nat × List Tag), ((1 : Nat) ≤ x_1.fst ∧ (1 : Nat) ≤ x_1.snd.fst ∧ x_1.fst + x_1.snd.fst ≤ xs.length ∧ x_1.snd.snd.fst < x_1.fst + x_1.snd.fst ∧ x_1.snd.snd.snd.length = xs.length ∧ List.take x_1.snd.snd.fst x_1.snd.snd.snd = cpt (List.take (x_1.fst + x_1.snd.fst) xs) ∧ ∀ (j : Nat), x_1.fst + x_1.snd.fst - (1 : Nat) ≤ j → x_1.snd.snd.snd.getD j tag0 = xs.getD j tag0) ∧ xs.length - x_1.snd.fst < xs.length - x.snd.fst ∧ (True ∧ (↑x.snd.snd.fst : Int) = (↑x_1.snd.snd.fst : Int) ∧ x.fst = x_1.fst ∧ (↑x.snd.fst : Int) + (1 : Int) = (↑x_1.snd.fst : Int) ∧ True) ∧ (((65 : Nat) = (65 : Nat) ∧ x.snd.snd.snd = x_1.snd.snd.snd) ∧ True) ∧ True ∧ True)) ∧ (decide ((↑x.snd.fst : Int) < (↑(x.snd.snd.snd.length - x.fst) : Int)) = false → ((0 : Int) ≤ (↑x.snd.snd.fst : Int) ∧ (↑x.snd.snd.fst : Int) < (↑x.snd.snd.snd.length : Int)) ∧ ((0 : Int) ≤ (↑x.snd.snd.fst : Int) ∧ (↑x.snd.snd.fst : Int) ≤ (↑(List.take (↑x.snd.snd.fst : Int).toNat x.snd.snd.snd ++ List.replicate (x.snd.snd.snd.length - (↑x.snd.snd.fst : Int).toNat) ((0 : Int), (0 : Int), (0 : Int), ())).length : Int)) ∧ k (SV.os (1 : Nat)) [Ob.dead, Ob.row (65 : Nat) (tT) (List.take (↑x.snd.snd.fst : Int).toNat (List.take (↑x.snd.snd.fst : Int).toNat x.snd.snd.snd ++ List.replicate (x.snd.snd.snd.length - (↑x.snd.snd.fst : Int).toNat) ((0 : Int), (0 : Int), (0 : Int), ())))])) ∧ ((decide ((xs.getD (↑x : Int).toNat ((0 : Int), (0 : Int), (0 : Int), ())).fst = (xs.getD ((↑x : Int) - (1 : Int)).toNat ((0 : Int), (0 : Int), (0 : Int), ())).fst) && (decide ((xs.getD (↑x : Int).toNat ((0 : Int), (0 : Int), (0 : Int), ())).snd.fst = (xs.getD ((↑x : Int) - (1 : Int)).toNat ((0 : Int), (0 : Int), (0 : Int), ())).snd.fst) && (decide ((xs.getD (↑x : Int).toNat ((0 : Int), (0 : Int), (0 : Int), ())).snd.snd.fst = (xs.getD ((↑x : Int) - (1 : Int)).toNat ((0 : Int), (0 : Int), (0 : Int), ())).snd.snd.fst) && true))) = false → inK IntKind.i64 ((↑x : Int) + (1 : Int)) ∧ ∃ (x_1 : Nat), ((1 : Nat) ≤ x_1 ∧ x_1 ≤ xs.length ∧ (2 : Nat) ≤ xs.length ∧ cpt (List.take x_1 xs) = List.take x_1 xs) ∧ xs.length - x_1 < xs.length - x ∧ (True ∧ (↑x : Int) + (1 : Int) = (↑x_1 : Int) ∧ True) ∧ (((65 : Nat) = (65 : Nat) ∧ xs = xs) ∧ True) ∧ True ∧ True)) ∧ (decide ((↑x : Int) < (↑xs.length : Int)) = false → k (SV.os (0 : Nat)) [Ob.row (65 : Nat) (tT) xs]))) := by kernel_rfl
end Go.Proofs.Ytgcliogognkdkaa

/- Bags and counters: the functions that only look keep their contracts. -/
namespace Go.Proofs.Ytgcliogognkdkaa
open Go.Vc
theorem mixed : Try.prog.follows .mixedOrders = true := by kernel_rfl

theorem okWithin [Dn] : PlainOk Try.prog [] 35 cWithin := by
  refine plain_of (CxOk.mk' Eb_ok (by kernel_rfl) mixed (gl := []) GOk.nil GoOk.nil noIt) Try.func35 (c := Try.f35.body.getD .skip) (rvs := [(.tmp 6, .bool)]) (by kernel_rfl) (by kernel_rfl) (by kernel_rfl) ?_
  intro ds k ⟨hp, hk⟩ hwf
  obtain ⟨a, b, c, rfl, -⟩ := dest3 hp
  refine ⟨[joinAll], ?_⟩
  rw [vcWithin]
  have ret : ∀ x : Bool, inB a b c = x → k [⟨.bool, x⟩] := by rintro _ rfl; exact hk
  exact ⟨fun h => ret _ (by unfold inB; rw [h]; rfl), fun h => ret _ (by unfold inB; rw [h]; rfl)⟩

theorem okNaN [Dn] : PlainOk Try.prog [] 56 cNaN := by
  refine plain_of (CxOk.mk' Eb_ok (by kernel_rfl) mixed (gl := []) GOk.nil GoOk.nil noIt) Try.func56 (c := Try.f56.body.getD .skip) (rvs := [(.tmp 2, .bool)]) (by kernel_rfl) (by kernel_rfl) (by kernel_rfl) ?_
  intro ds k ⟨hp, hk⟩ hwf
  obtain ⟨a, rfl, -⟩ := dest1 hp
  refine ⟨[], ?_⟩
  rw [vcNaN]
  have hk : k [⟨.bool, false⟩] := hk
  simpa using hk

theorem okCmp [Dn] : PlainOk Try.prog [] 46 cCmp := by
  refine plain_of (CxOk.mk' Eb_ok (by kernel_rfl) mixed (gl := []) (GOk.cons okNaN Try.func56 (by kernel_rfl) (by kernel_rfl) GOk.nil) GoOk.nil noIt) Try.func46 (c := Try.f46.body.getD .skip) (rvs := [(.tmp 4, I)]) (by kernel_rfl) (by kernel_rfl) (by kernel_rfl) ?_
  intro ds k ⟨hp, hk⟩ hwf
  obtain ⟨a, b, rfl, -⟩ := dest2 hp
  refine ⟨[joinAll], ?_⟩
  rw [vcCmp]
  have ret : ∀ x : Int, cmpI a b = x → k [⟨I, x⟩] := by rintro _ rfl; exact hk
  simp only [decide_eq_true_eq, decide_eq_false_iff_not, true_and, forall_const, reduceCtorEq, false_implies]
  refine ⟨fun h => ret _ (by unfold cmpI; rw [if_pos h]), fun h => ⟨fun h2 => ret _ (by unfold cmpI; rw [if_neg h, if_pos h2]), fun h2 => ret _ (by unfold cmpI; rw [if_neg h, if_neg h2])⟩⟩

theorem or_vc (l : List Int) (hl : l.length ≤ maxLen) (k : List Dat → Prop) (hk : k [⟨I, orI l⟩]) : vcF ⟨Eb, [], [], [], []⟩ (anOr l) (Try.f58.body.getD .skip) Try.f58.ntmps [(.tmp 2, I)] [⟨.sl I, l⟩] k := by
  rw [vcOr]
  have hml : maxLen ≤ 9223372036854775807 := by decide
  have ret : ∀ x : Int, orI l = x → k [⟨I, x⟩] := by rintro _ rfl; exact hk
  simp only [decide_eq_true_eq, decide_eq_false_iff_not, true_and, and_true, Bool.not_eq_true', Bool.not_eq_false', Int.toNat_natCast, inK_i64]
  refine ⟨⟨0, ⟨Nat.zero_le _, by rw [List.drop_zero]⟩, rfl⟩, fun x ⟨hx, ho⟩ => ⟨fun hlt => ?_, fun hge => ret _ ?_⟩⟩
  · have hxl : x < l.length := by omega
    have hd : orI (l.drop x) = if l.getD x 0 = 0 then orI (l.drop (x + 1)) else l.getD x 0 := by
      rw [List.drop_eq_getElem_cons hxl, List.getD_eq_getElem?_getD, List.getElem?_eq_getElem hxl]; rfl
    refine ⟨by omega, hlt, fun hne => ret _ ?_, fun he => ⟨by omega, x + 1, ⟨by omega, ?_⟩, by omega, by omega⟩⟩
    · rw [ho, hd, if_neg hne]
    · rw [ho, hd, if_pos he]
  · rw [ho, List.drop_of_length_le (by omega)]; rfl

theorem okOr [Dn] : PlainOk Try.prog [] 58 cOr := by
  refine plain_of (CxOk.mk' Eb_ok (by kernel_rfl) mixed (gl := []) GOk.nil GoOk.nil noIt) Try.func58 (c := Try.f58.body.getD .skip) (rvs := [(.tmp 2, I)]) (by kernel_rfl) (by kernel_rfl) (by kernel_rfl) ?_
  intro ds k ⟨hp, hk⟩ hwf
  obtain ⟨l, rfl, -⟩ := dest1 hp
  exact ⟨anOr l, or_vc l (wf1 hwf).1 k hk⟩

theorem okByTag [Dn] : PlainOk Try.prog [] 48 cByTag := by
  refine plain_of (CxOk.mk' Eb_ok (by kernel_rfl) mixed (gl := []) (GOk.cons okCmp Try.func46 (by kernel_rfl) (by kernel_rfl) (GOk.cons okOr Try.func58 (by kernel_rfl) (by kernel_rfl) GOk.nil)) GoOk.nil noIt) Try.func48 (c := Try.f48.body.getD .skip) (rvs := [(.tmp 4, I)]) (by kernel_rfl) (by kernel_rfl) (by kernel_rfl) ?_
  intro ds k ⟨hp, hk⟩ hwf
  obtain ⟨a, b, rfl, -⟩ := dest2 hp
  refine ⟨[joinAll], ?_⟩
  rw [vcByTag]
  exact ⟨⟨trivial, trivial, trivial, trivial, trivial⟩, hk⟩

theorem tagsF_step (l : List Tag) {i : Nat} (h : i < l.length) : tagsF l (l.length - i) i = if tagE l i = 0 then tagsF l (l.length - (i + 1)) (i + 1) else tagE l i := by
  rw [show l.length - i = (l.length - (i + 1)) + 1 by omega]; rfl

theorem tags_vc (l : List Tag) (hl : l.length ≤ maxLen) (k : List Dat → Prop) (hk : k [⟨tErr, tagsE l⟩]) : vcF ⟨Eb, [(35, cWithin), (48, cByTag)], [], [], []⟩ (anTags l) (Try.f33.body.getD .skip) Try.f33.ntmps [(.tmp 2, tErr)] [⟨.sl tT, l⟩] k := by
  rw [vcTags]
  have hml : maxLen ≤ 9223372036854775807 := by decide
  have ret : ∀ x : Int, tagsE l = x → k [⟨tErr, x⟩] := by rintro _ rfl; exact hk
  simp only [decide_eq_true_eq, decide_eq_false_iff_not, true_and, and_true, Bool.not_eq_true', Bool.not_eq_false', Int.toNat_natCast, inK_i64]
  refine ⟨fun h => ⟨by decide, ret _ (by unfold tagsE; rw [if_pos (by omega)])⟩, fun h => ⟨⟨0, ⟨?_, Nat.zero_le _⟩, rfl⟩, fun x ⟨ho, hx⟩ => ⟨fun hlt => ?_, fun hge => ret _ ?_⟩⟩⟩
  · unfold tagsE; rw [if_neg (by omega), Nat.sub_zero]
  · have hxl : x < l.length := by omega
    have hs := tagsF_step l hxl
    have e0 : l.getD x ((0 : Int), (0 : Int), (0 : Int), ()) = l.getD x tag0 := rfl
    have hin : tagIn (l.getD x tag0) = false → tagE l x = 1 := fun h => by unfold tagE; rw [if_pos h]
    have r1 : tagIn (l.getD x tag0) = false → tagsE l = 1 := fun h => by rw [ho, hs, hin h, if_neg (by decide)]
    refine ⟨by omega, hlt, fun h1 => ⟨by decide, ret _ (r1 ?_)⟩, fun h1 => ⟨fun h2 => ⟨by decide, ret _ (r1 ?_)⟩, fun h2 => ⟨fun h3 => ⟨by decide, ret _ (r1 ?_)⟩, fun h3 => ⟨⟨fun hp => ⟨by omega, by omega, by omega⟩, fun _ => trivial⟩, fun hb => ⟨by decide, ret _ ?_⟩, fun hb => ⟨by omega, x + 1, ⟨?_, by omega⟩, by omega, by omega⟩⟩⟩⟩⟩
    · unfold tagIn; rw [← e0, h1]; rfl
    · unfold tagIn; rw [← e0, h1, h2]; rfl
    · unfold tagIn; rw [← e0, h1, h2, h3]; rfl
    · have hti : tagIn (l.getD x tag0) = true := by unfold tagIn; rw [← e0, h1, h2, h3]; rfl
      rw [Bool.and_eq_true, decide_eq_true_eq, decide_eq_true_eq] at hb
      have e1 : ((x : Int) - 1).toNat = x - 1 := by omega
      rw [e1] at hb
      have : tagE l x = 3 := by
        unfold tagE
        rw [if_neg (by rw [hti]; decide), if_pos ⟨by omega, hb.2⟩]
      rw [ho, hs, this, if_neg (by decide)]
    · have hti : tagIn (l.getD x tag0) = true := by unfold tagIn; rw [← e0, h1, h2, h3]; rfl
      have e1 : ((x : Int) - 1).toNat = x - 1 := by omega
      rw [e1] at hb
      have : tagE l x = 0 := by
        unfold tagE
        rw [if_neg (by rw [hti]; decide), if_neg]
        rintro ⟨c1, c2⟩
        have : (decide (0 < (x : Int)) && decide (0 ≤ cmpT (l.getD (x - 1) (0, 0, 0, ())) (l.getD x (0, 0, 0, ())))) = true := by
          rw [Bool.and_eq_true, decide_eq_true_eq, decide_eq_true_eq]
          exact ⟨by omega, c2⟩
        rw [hb] at this; cases this
      rw [ho, hs, this, if_pos rfl]
  · have : x = l.length := by omega
    rw [ho, this, Nat.sub_self]; rfl

theorem okTags : PlainOk Try.prog [] 33 cTags := by
  refine plain_of (CxOk.mk' Eb_ok (by kernel_rfl) mixed (gl := []) (GOk.cons okWithin Try.func35 (by kernel_rfl) (by kernel_rfl) (GOk.cons okByTag Try.func48 (by kernel_rfl) (by kernel_rfl) GOk.nil)) GoOk.nil noIt) Try.func33 (c := Try.f33.body.getD .skip) (rvs := [(.tmp 2, tErr)]) (by kernel_rfl) (by kernel_rfl) (by kernel_rfl) ?_
  intro ds k ⟨hp, hk⟩ hwf
  obtain ⟨l, rfl, -⟩ := dest1 hp
  exact ⟨anTags l, tags_vc l (wf1 hwf).1 k hk⟩

theorem tag_eqB {t u : Tag} : (decide (t.1 = u.1) && (decide (t.2.1 = u.2.1) && (decide (t.2.2.1 = u.2.2.1) && true))) = decide (t = u) := by
  obtain ⟨a, b, c, _⟩ := t
  obtain ⟨d, e, f, _⟩ := u
  by_cases h : (a, b, c, ()) = (d, e, f, ())
  · injection h with h1 h2; injection h2 with h2 h3; injection h3 with h3 _
    subst h1; subst h2; subst h3; simp
  · rw [decide_eq_false h]
    cases hq : (decide (a = d) && (decide (b = e) && (decide (c = f) && true))) with
    | false => rfl
    | true =>
      simp only [Bool.and_eq_true, decide_eq_true_eq, and_true] at hq
      obtain ⟨rfl, rfl, rfl⟩ := hq
      exact absurd rfl h

theorem idx_vc (l : List Tag) (t : Tag) (hl : l.length ≤ maxLen) (k : List Dat → Prop) (hk : k [⟨I, idxI l t⟩]) : vcF ⟨Eb, [], [], [], []⟩ (anIdx l t) (Try.f51.body.getD .skip) Try.f51.ntmps [(.tmp 4, I)] [⟨.sl tT, l⟩, ⟨tT, t⟩] k := by
  rw [vcIdx]
  have hml : maxLen ≤ 9223372036854775807 := by decide
  have ret : ∀ x : Int, idxI l t = x → k [⟨I, x⟩] := by rintro _ rfl; exact hk
  simp only [decide_eq_true_eq, decide_eq_false_iff_not, true_and, and_true, Int.toNat_natCast, inK_i64, tag_eqB]
  refine ⟨⟨0, ⟨rfl, Nat.zero_le _⟩, rfl⟩, fun x ⟨ho, hx⟩ => ⟨fun hlt => ?_, fun hge => ret _ ?_⟩⟩
  · have hxl : x < l.length := by omega
    have hs : idxF l t (l.length - x) x = if l.getD x tag0 = t then (x : Int) else idxF l t (l.length - (x + 1)) (x + 1) := by
      rw [show l.length - x = (l.length - (x + 1)) + 1 by omega]; rfl
    refine ⟨by omega, hlt, fun he => ret _ ?_, fun hne => ⟨by omega, x + 1, ⟨?_, by omega⟩, by omega, by omega⟩⟩
    · rw [ho, hs, if_pos (show l.getD x tag0 = t from he.symm)]
    · rw [ho, hs, if_neg (show ¬ l.getD x tag0 = t from fun e => hne e.symm)]
  · have : x = l.length := by omega
    rw [ho, this, Nat.sub_self]; rfl

theorem okIdx : PlainOk Try.prog [] 51 cIdx := by
  refine plain_of (CxOk.mk' Eb_ok (by kernel_rfl) mixed (gl := []) GOk.nil GoOk.nil noIt) Try.func51 (c := Try.f51.body.getD .skip) (rvs := [(.tmp 4, I)]) (by kernel_rfl) (by kernel_rfl) (by kernel_rfl) ?_
  intro ds k ⟨hp, hk⟩ hwf
  obtain ⟨l, t, rfl, -⟩ := dest2 hp
  exact ⟨anIdx l t, idx_vc l t (wf2 hwf).1.1 k hk⟩

theorem okHasT : PlainOk Try.prog [] 34 cHasT := by
  refine plain_of (CxOk.mk' Eb_ok (by kernel_rfl) mixed (gl := []) (GOk.cons okIdx Try.func51 (by kernel_rfl) (by kernel_rfl) GOk.nil) GoOk.nil noIt) Try.func34 (c := Try.f34.body.getD .skip) (rvs := [(.tmp 4, .bool)]) (by kernel_rfl) (by kernel_rfl) (by kernel_rfl) ?_
  intro ds k ⟨hp, hk⟩ hwf
  obtain ⟨l, t, rfl, -⟩ := dest2 hp
  refine ⟨[], ?_⟩
  rw [vcHasT]
  exact ⟨trivial, hk⟩

theorem idn_vc (l : List Int) (t : Int) (hl : l.length ≤ maxLen) (k : List Dat → Prop) (hk : k [⟨I, idnI l t⟩]) : vcF ⟨Eb, [], [], [], []⟩ (anIdn l t) (Try.f52.body.getD .skip) Try.f52.ntmps [(.tmp 4, I)] [⟨.sl I, l⟩, ⟨I, t⟩] k := by
  rw [vcIdn]
  have hml : maxLen ≤ 9223372036854775807 := by decide
  have ret : ∀ x : Int, idnI l t = x → k [⟨I, x⟩] := by rintro _ rfl; exact hk
  simp only [decide_eq_true_eq, decide_eq_false_iff_not, true_and, and_true, Int.toNat_natCast, inK_i64]
  refine ⟨⟨0, ⟨rfl, Nat.zero_le _⟩, rfl⟩, fun x ⟨ho, hx⟩ => ⟨fun hlt => ?_, fun hge => ret _ ?_⟩⟩
  · have hxl : x < l.length := by omega
    have hs : idnF l t (l.length - x) x = if l.getD x 0 = t then (x : Int) else idnF l t (l.length - (x + 1)) (x + 1) := by
      rw [show l.length - x = (l.length - (x + 1)) + 1 by omega]; rfl
    refine ⟨by omega, hlt, fun he => ret _ ?_, fun hne => ⟨by omega, x + 1, ⟨?_, by omega⟩, by omega, by omega⟩⟩
    · rw [ho, hs, if_pos he.symm]
    · rw [ho, hs, if_neg (fun e => hne e.symm)]
  · have : x = l.length := by omega
    rw [ho, this, Nat.sub_self]; rfl

theorem okIdn : PlainOk Try.prog [] 52 cIdn := by
  refine plain_of (CxOk.mk' Eb_ok (by kernel_rfl) mixed (gl := []) GOk.nil GoOk.nil noIt) Try.func52 (c := Try.f52.body.getD .skip) (rvs := [(.tmp 4, I)]) (by kernel_rfl) (by kernel_rfl) (by kernel_rfl) ?_
  intro ds k ⟨hp, hk⟩ hwf
  obtain ⟨l, t, rfl, -⟩ := dest2 hp
  exact ⟨anIdn l t, idn_vc l t (wf2 hwf).1.1 k hk⟩

theorem okHasI : PlainOk Try.prog [] 37 cHasI := by
  refine plain_of (CxOk.mk' Eb_ok (by kernel_rfl) mixed (gl := []) (GOk.cons okIdn Try.func52 (by kernel_rfl) (by kernel_rfl) GOk.nil) GoOk.nil noIt) Try.func37 (c := Try.f37.body.getD .skip) (rvs := [(.tmp 4, .bool)]) (by kernel_rfl) (by kernel_rfl) (by kernel_rfl) ?_
  intro ds k ⟨hp, hk⟩ hwf
  obtain ⟨l, t, rfl, -⟩ := dest2 hp
  refine ⟨[], ?_⟩
  rw [vcHasI]
  exact ⟨trivial, hk⟩

theorem check_vc (b : Bag) (hl : b.2.1.length ≤ maxLen) (k : List Dat → Prop) (hk : k [⟨tErr, chkB b⟩]) : vcF ⟨Eb, [(33, cTags), (34, cHasT)], [], [], []⟩ (anCheck b) (Try.f13.body.getD .skip) Try.f13.ntmps [(.tmp 2, tErr)] [⟨tB, b⟩] k := by
  rw [vcCheck]
  have hml : maxLen ≤ 9223372036854775807 := by decide
  have ret : ∀ x : Int, chkB b = x → k [⟨tErr, x⟩] := by rintro _ rfl; exact hk
  simp only [decide_eq_true_eq, decide_eq_false_iff_not, true_and, and_true, Bool.not_eq_true', Bool.not_eq_false', Int.toNat_natCast, inK_i64]
  refine ⟨fun h => ret _ (by unfold chkB; rw [if_neg h]), fun h => ⟨fun h2 => ret _ (by unfold chkB; rw [if_pos h, if_neg h2]), fun h2 => ⟨⟨0, ⟨?_, Nat.zero_le _⟩, rfl⟩, fun x ⟨ho, hx⟩ => ⟨fun hlt => ?_, fun hge => ret _ ?_⟩⟩⟩⟩
  · unfold chkB; rw [if_pos h, if_pos h2, Nat.sub_zero]
  · have hxl : x < b.2.1.length := by omega
    have hs : goneF b (b.2.1.length - x) x = if hasT b.1 (b.2.1.getD x tag0) = true then goneF b (b.2.1.length - (x + 1)) (x + 1) else 6 := by
      rw [show b.2.1.length - x = (b.2.1.length - (x + 1)) + 1 by omega]; rfl
    refine ⟨by omega, hlt, fun he => ⟨by decide, ret _ ?_⟩, fun hne => ⟨by omega, x + 1, ⟨?_, by omega⟩, by omega, by omega⟩⟩
    · rw [ho, hs, if_neg (by rw [show hasT b.1 (b.2.1.getD x tag0) = false from he]; decide)]
    · rw [ho, hs, if_pos (show hasT b.1 (b.2.1.getD x tag0) = true from hne)]
  · have : x = b.2.1.length := by omega
    rw [ho, this, Nat.sub_self]; rfl

theorem okCheck : PlainOk Try.prog [] 13 cCheck := by
  refine plain_of (CxOk.mk' Eb_ok (by kernel_rfl) mixed (gl := []) (GOk.cons okTags Try.func33 (by kernel_rfl) (by kernel_rfl) (GOk.cons okHasT Try.func34 (by kernel_rfl) (by kernel_rfl) GOk.nil)) GoOk.nil noIt) Try.func13 (c := Try.f13.body.getD .skip) (rvs := [(.tmp 2, tErr)]) (by kernel_rfl) (by kernel_rfl) (by kernel_rfl) ?_
  intro ds k ⟨hp, hk⟩ hwf
  obtain ⟨b, rfl, -⟩ := dest1 hp
  exact ⟨anCheck b, check_vc b (wf1 hwf).2.1.1 k hk⟩

theorem counts_vc (l : List Int) (hl : l.length ≤ maxLen) (k : List Dat → Prop) (hk : k [⟨tErr, cntE l⟩]) : vcF ⟨Eb, [(35, cWithin)], [], [], []⟩ (anCounts l) (Try.f38.body.getD .skip) Try.f38.ntmps [(.tmp 2, tErr)] [⟨.sl I, l⟩] k := by
  rw [vcCounts]
  have hml : maxLen ≤ 9223372036854775807 := by decide
  have ret : ∀ x : Int, cntE l = x → k [⟨tErr, x⟩] := by rintro _ rfl; exact hk
  simp only [decide_eq_true_eq, decide_eq_false_iff_not, true_and, and_true, Bool.not_eq_true', Bool.not_eq_false', Int.toNat_natCast, inK_i64]
  refine ⟨fun h => ⟨by decide, ret _ (by unfold cntE; rw [if_pos (by omega)])⟩, fun h => ⟨fun h2 => ⟨by decide, ret _ (by unfold cntE; rw [if_neg (by omega), if_pos (by omega)])⟩, fun h2 => ⟨⟨0, ⟨?_, Nat.zero_le _⟩, rfl⟩, fun x ⟨ho, hx⟩ => ⟨fun hlt => ?_, fun hge => ret _ ?_⟩⟩⟩⟩
  · unfold cntE; rw [if_neg (by omega), if_neg (by omega), Nat.sub_zero]
  · have hxl : x < l.length := by omega
    have hs : cntF l (l.length - x) x = if inB (l.getD x 0) 0 1000000 = true then cntF l (l.length - (x + 1)) (x + 1) else 1 := by
      rw [show l.length - x = (l.length - (x + 1)) + 1 by omega]; rfl
    refine ⟨by omega, hlt, fun he => ⟨by decide, ret _ ?_⟩, fun hne => ⟨by omega, x + 1, ⟨?_, by omega⟩, by omega, by omega⟩⟩
    · rw [ho, hs, if_neg (by rw [he]; decide)]
    · rw [ho, hs, if_pos hne]
  · have : x = l.length := by omega
    rw [ho, this, Nat.sub_self]; rfl

theorem okCounts : PlainOk Try.prog [] 38 cCounts := by
  refine plain_of (CxOk.mk' Eb_ok (by kernel_rfl) mixed (gl := []) (GOk.cons okWithin Try.func35 (by kernel_rfl) (by kernel_rfl) GOk.nil) GoOk.nil noIt) Try.func38 (c := Try.f38.body.getD .skip) (rvs := [(.tmp 2, tErr)]) (by kernel_rfl) (by kernel_rfl) (by kernel_rfl) ?_
  intro ds k ⟨hp, hk⟩ hwf
  obtain ⟨l, rfl, -⟩ := dest1 hp
  exact ⟨anCounts l, counts_vc l (wf1 hwf).1 k hk⟩

theorem take_succ_eq {α : Type} {a b : List α} {x : Nat} (ha : x < a.length) (hb : x < b.length) (h : a.take x = b.take x) (d : α) (he : a.getD x d = b.getD x d) : a.take (x + 1) = b.take (x + 1) := by
  rw [List.getD_eq_getElem?_getD, List.getD_eq_getElem?_getD, List.getElem?_eq_getElem ha, List.getElem?_eq_getElem hb] at he
  have he' : a[x] = b[x] := by simpa using he
  rw [List.take_succ_eq_append_getElem ha, List.take_succ_eq_append_getElem hb, h, he']

theorem ints_vc (a b : List Int) (hl : a.length ≤ maxLen) (k : List Dat → Prop) (hk : k [⟨.bool, decide (a = b)⟩]) : vcF ⟨Eb, [], [], [], []⟩ (anInts a b) (Try.f19.body.getD .skip) Try.f19.ntmps [(.tmp 4, .bool)] [⟨.sl I, a⟩, ⟨.sl I, b⟩] k := by
  rw [vcInts]
  have hml : maxLen ≤ 9223372036854775807 := by decide
  have ret : ∀ x : Bool, decide (a = b) = x → k [⟨.bool, x⟩] := by rintro _ rfl; exact hk
  simp only [decide_eq_true_eq, decide_eq_false_iff_not, true_and, and_true, Bool.not_eq_true', Bool.not_eq_false', Int.toNat_natCast, inK_i64]
  refine ⟨fun h => ret _ (decide_eq_false fun e => h (by rw [e])), fun h => ⟨⟨0, ⟨Nat.zero_le _, by omega, by simp⟩, rfl⟩, fun x ⟨hx, hab, ho⟩ => ⟨fun hlt => ?_, fun hge => ret _ ?_⟩⟩⟩
  · refine ⟨⟨by omega, hlt, by omega, by omega⟩, fun he => ret _ (decide_eq_false fun e => he (by rw [e])), fun he => ⟨by omega, x + 1, ⟨by omega, hab, take_succ_eq (by omega) (by omega) ho 0 he⟩, by omega, by omega⟩⟩
  · have hxl : x = a.length := by omega
    rw [hxl, List.take_length, hab, List.take_length] at ho
    exact decide_eq_true ho

theorem okInts : PlainOk Try.prog [] 19 cInts := by
  refine plain_of (CxOk.mk' Eb_ok (by kernel_rfl) mixed (gl := []) GOk.nil GoOk.nil noIt) Try.func19 (c := Try.f19.body.getD .skip) (rvs := [(.tmp 4, .bool)]) (by kernel_rfl) (by kernel_rfl) (by kernel_rfl) ?_
  intro ds k ⟨hp, hk⟩ hwf
  obtain ⟨a, b, rfl, -⟩ := dest2 hp
  exact ⟨anInts a b, ints_vc a b (wf2 hwf).1.1 k hk⟩

theorem sameT_vc (a b : List Tag) (hl : a.length ≤ maxLen) (k : List Dat → Prop) (hk : k [⟨.bool, decide (a = b)⟩]) : vcF ⟨Eb, [], [], [], []⟩ (anSameT a b) (Try.f32.body.getD .skip) Try.f32.ntmps [(.tmp 4, .bool)] [⟨.sl tT, a⟩, ⟨.sl tT, b⟩] k := by
  rw [vcSameT]
  have hml : maxLen ≤ 9223372036854775807 := by decide
  have ret : ∀ x : Bool, decide (a = b) = x → k [⟨.bool, x⟩] := by rintro _ rfl; exact hk
  simp only [decide_eq_true_eq, decide_eq_false_iff_not, true_and, and_true, Bool.not_eq_true', Bool.not_eq_false', Int.toNat_natCast, inK_i64, tag_eqB]
  refine ⟨fun h => ret _ (decide_eq_false fun e => h (by rw [e])), fun h => ⟨⟨0, ⟨Nat.zero_le _, by omega, by simp⟩, rfl⟩, fun x ⟨hx, hab, ho⟩ => ⟨fun hlt => ?_, fun hge => ret _ ?_⟩⟩⟩
  · refine ⟨⟨by omega, hlt, by omega, by omega⟩, fun he => ret _ (decide_eq_false fun e => he (by rw [e])), fun he => ⟨by omega, x + 1, ⟨by omega, hab, take_succ_eq (by omega) (by omega) ho _ he⟩, by omega, by omega⟩⟩
  · have hxl : x = a.length := by omega
    rw [hxl, List.take_length, hab, List.take_length] at ho
    exact decide_eq_true ho

theorem okSameT : PlainOk Try.prog [] 32 cSameT := by
  refine plain_of (CxOk.mk' Eb_ok (by kernel_rfl) mixed (gl := []) GOk.nil GoOk.nil noIt) Try.func32 (c := Try.f32.body.getD .skip) (rvs := [(.tmp 4, .bool)]) (by kernel_rfl) (by kernel_rfl) (by kernel_rfl) ?_
  intro ds k ⟨hp, hk⟩ hwf
  obtain ⟨a, b, rfl, -⟩ := dest2 hp
  exact ⟨anSameT a b, sameT_vc a b (wf2 hwf).1.1 k hk⟩

theorem okSameB : PlainOk Try.prog [] 12 cSameB := by
  refine plain_of (CxOk.mk' Eb_ok (by kernel_rfl) mixed (gl := []) (GOk.cons okSameT Try.func32 (by kernel_rfl) (by kernel_rfl) GOk.nil) GoOk.nil noIt) Try.func12 (c := Try.f12.body.getD .skip) (rvs := [(.tmp 4, .bool)]) (by kernel_rfl) (by kernel_rfl) (by kernel_rfl) ?_
  intro ds k ⟨hp, hk⟩ hwf
  obtain ⟨a, b, rfl, -⟩ := dest2 hp
  refine ⟨[joinAll], ?_⟩
  revert hk
  generalize ha : a = x at *
  generalize hb : b = y at *
  obtain ⟨x1, x2, _⟩ := x
  obtain ⟨y1, y2, _⟩ := y
  intro hk
  rw [vcSameB]
  have ret : ∀ z : Bool, (decide (x1 = y1) && decide (x2 = y2)) = z → k [⟨.bool, z⟩] := by rintro _ rfl; exact hk
  exact ⟨trivial, fun h => ⟨trivial, ret _ (by rw [show decide (x1 = y1) = true from h, Bool.true_and])⟩, fun h => ret _ (by rw [show decide (x1 = y1) = false from h, Bool.false_and])⟩

theorem ownClone : OwnOk Try.prog [] 36 oClone := by
  refine own_nilrow (oc := fun args ob k => ∃ l : List Tag, args = [.d (.sl tT) l] ∧ ob = [] ∧ l.length ≤ 1000000000 ∧ (l = [] → k .nils []) ∧ k (.os 0) [.row 65 tT l]) ?_ 65 tT ?_
  · refine own_of (CxOk.mk' Eb_ok (by kernel_rfl) mixed (gl := []) GOk.nil GoOk.nil noIt) Try.func36 (c := Try.f36.body.getD .skip) (rvs := [(.tmp 2, .un)]) (by kernel_rfl) (by kernel_rfl) (by kernel_rfl) ?_
    rintro args ob k ⟨l, rfl, rfl, hl, h1, h2⟩ hwa hwo
    refine ⟨[], ?_⟩
    rw [vcClone]
    exact fun b hb => ⟨fun e => h1 (hb e), fun _ => ⟨by simpa using hl, h2⟩⟩
  · intro args ob k h
    unfold oClone at h
    split at h
    · rename_i l
      exact ⟨rfl, l, rfl, rfl, h.1, (fun e => by subst e; exact h.2), h.2⟩
    · exact h.elim

theorem ownCloneI : OwnOk Try.prog [] 39 oCloneI := by
  refine own_nilrow (oc := fun args ob k => ∃ l : List Int, args = [.d (.sl I) l] ∧ ob = [] ∧ l.length ≤ 1000000000 ∧ (l = [] → k .nils []) ∧ k (.os 0) [.row 3 I l]) ?_ 3 I ?_
  · refine own_of (CxOk.mk' Eb_ok (by kernel_rfl) mixed (gl := []) GOk.nil GoOk.nil noIt) Try.func39 (c := Try.f39.body.getD .skip) (rvs := [(.tmp 2, .un)]) (by kernel_rfl) (by kernel_rfl) (by kernel_rfl) ?_
    rintro args ob k ⟨l, rfl, rfl, hl, h1, h2⟩ hwa hwo
    refine ⟨[], ?_⟩
    rw [vcCloneI]
    exact fun b hb => ⟨fun e => h1 (hb e), fun _ => ⟨by simpa using hl, h2⟩⟩
  · intro args ob k h
    unfold oCloneI at h
    split at h
    · rename_i l
      exact ⟨rfl, l, rfl, rfl, h.1, (fun e => by subst e; exact h.2), h.2⟩
    · exact h.elim

theorem ownGrow : OwnOk Try.prog [] 50 oGrow := by
  refine own_nilrow (oc := fun args ob k => ∃ n : Int, args = [.nils, .d I n] ∧ ob = [] ∧ (0 ≤ n ∧ n ≤ 1000000000) ∧ k .nils [] ∧ k (.os 0) [.row 65 tT ([] : List Tag)]) ?_ 65 tT ?_
  · refine own_of (CxOk.mk' Eb_ok (by kernel_rfl) mixed (gl := []) GOk.nil GoOk.nil noIt) Try.func50 (c := Try.f50.body.getD .skip) (rvs := [(.tmp 4, .un)]) (by kernel_rfl) (by kernel_rfl) (by kernel_rfl) ?_
    rintro args ob k ⟨n, rfl, rfl, ⟨hn0, hn1⟩, h1, h2⟩ hwa hwo
    refine ⟨[joinAll], ?_⟩
    rw [vcGrow]
    simp only [decide_eq_true_eq, decide_eq_false_iff_not, true_and, inK_i64, Int.sub_zero]
    refine ⟨fun h => by omega, fun _ => ⟨by omega, by omega, fun _ => ⟨⟨by omega, by omega⟩, ⟨Int.le_refl _, by omega⟩, h2⟩, fun _ => h1⟩⟩
  · intro args ob k h
    unfold oGrow at h
    split at h
    · rename_i n
      exact ⟨rfl, n, rfl, rfl, h.1, h.2, h.2⟩
    · exact h.elim

theorem sumL_le (ls : List (List Tag)) : ∀ n, sumL ls n ≤ sumL ls ls.length := by
  intro n
  unfold sumL
  rw [List.take_length]
  have h : ls.map List.length = (ls.take n).map List.length ++ (ls.drop n).map List.length := by rw [← List.map_append, List.take_append_drop]
  rw [h, List.sum_append]; omega
theorem sumL_succ (ls : List (List Tag)) {n : Nat} (h : n < ls.length) : sumL ls (n + 1) = sumL ls n + (ls.getD n []).length := by
  unfold sumL
  rw [List.take_succ_eq_append_getElem h, List.map_append, List.sum_append, List.getD_eq_getElem?_getD, List.getElem?_eq_getElem h]; simp
theorem flat_len (ls : List (List Tag)) (n : Nat) : (ls.take n).flatten.length = sumL ls n := by unfold sumL; rw [List.length_flatten]
theorem flat_succ (ls : List (List Tag)) {n : Nat} (h : n < ls.length) : (ls.take (n + 1)).flatten = (ls.take n).flatten ++ ls.getD n [] := by
  rw [List.take_succ_eq_append_getElem h, List.flatten_append, List.getD_eq_getElem?_getD, List.getElem?_eq_getElem h]; simp

theorem concat_vc (ls : List (List Tag)) (hl : ls.length ≤ maxLen) (hs : sumL ls ls.length ≤ 1000000000) (k : SV → List Ob → Prop) (hk : k (.os 0) [.row 65 tT (ls.flatten : List Tag)]) :
    vcO ⟨Eb, [], [], [], [(50, oGrow)]⟩ (anConcat ls) (Try.f31.body.getD .skip) Try.f31.ntmps [(.tmp 2, .un)] [.d (.sl (.sl tT)) ls] [] k := by
  rw [vcConcat]
  have hml : maxLen ≤ 9223372036854775807 := by decide
  simp only [decide_eq_true_eq, decide_eq_false_iff_not, true_and, and_true, Int.toNat_natCast, inK_i64]
  refine ⟨⟨0, Nat.zero_le _, rfl, rfl⟩, fun x hx => ⟨fun hlt => ?_, fun hge => ?_⟩⟩
  · have hxl : x < ls.length := by omega
    have h1 := sumL_succ ls hxl
    have h2 := sumL_le ls (x + 1)
    refine ⟨by omega, hlt, by omega, fun h => by omega, fun _ => ⟨by omega, x + 1, by omega, by omega, by omega, by omega⟩⟩
  · have h2 := sumL_le ls x
    refine ⟨by omega, ⟨0, Nat.zero_le _, rfl, rfl⟩, fun y hy => ⟨fun hlt => ?_, fun hge2 => ?_⟩⟩
    · have hyl : y < ls.length := by omega
      have h1 := sumL_succ ls hyl
      have h2 := sumL_le ls (y + 1)
      refine ⟨by omega, hlt, by rw [flat_len]; omega, by omega, y + 1, by omega, by omega, by omega, (flat_succ ls hyl).symm⟩
    · have : y = ls.length := by omega
      rw [this, List.take_length]; exact hk

theorem ownConcat : OwnOk Try.prog [] 31 oConcat := by
  refine own_of (CxOk.mk' Eb_ok (by kernel_rfl) mixed (gl := []) GOk.nil (GoOk.cons ownGrow Try.func50 (by kernel_rfl) (by kernel_rfl) GoOk.nil) noIt) Try.func31 (c := Try.f31.body.getD .skip) (rvs := [(.tmp 2, .un)]) (by kernel_rfl) (by kernel_rfl) (by kernel_rfl) ?_
  intro args ob k h hwa hwo
  unfold oConcat at h
  split at h
  · rename_i ls
    exact ⟨anConcat ls, concat_vc ls (show (Ty.sl (.sl tT)).wf ls from hwa _ (List.mem_singleton.2 rfl)).1 h.1 k h.2⟩
  · exact h.elim
end Go.Proofs.Ytgcliogognkdkaa

/- Bags: what is added, dropped, joined; counters: what is counted. -/
namespace Go.Proofs.Ytgcliogognkdkaa
open Go.Vc
def srtP (xs ys : List Tag) : Prop := ys.Perm xs ∧ ys.Pairwise fun a b => 0 ≤ cmpT b a
def oSortT : OCtr := fun args ob k => match args, ob with
  | [.os 0, .d (.fn 48 .un) (some _)], [.row 65 (.pr (.int .i64) (.pr (.int .i64) (.pr (.int .i64) .un))) xs] => (xs : List Tag).length ≤ 1000000000 ∧ ∀ ys : List Tag, srtP xs ys → k (.tp []) [.row 65 (.pr (.int .i64) (.pr (.int .i64) (.pr (.int .i64) .un))) ys]
  | _, _ => False
/-- a tag in its place, once -/
def insT (t : Tag) : List Tag → List Tag
  | [] => [t]
  | x :: l => if cmpT t x < 0 then t :: x :: l else if cmpT x t < 0 then x :: insT t l else x :: l
def srt (xs : List Tag) : List Tag := xs.foldr insT []
def oSorted : OCtr := fun args ob k => match args, ob with
  | [.os 0], [.row 65 (.pr (.int .i64) (.pr (.int .i64) (.pr (.int .i64) .un))) xs] => (xs : List Tag).length ≤ 1000000000 ∧ k (.os 1) [.dead, .row 65 (.pr (.int .i64) (.pr (.int .i64) (.pr (.int .i64) .un))) (srt (xs : List Tag))]
  | _, _ => False
/-- the greatest count of a node so far -/
def maxC (l : List Tag) (node : Int) : Nat → Int
  | 0 => 0
  | i + 1 => if (l.getD i tag0).2.1 = node then max (maxC l node i) (l.getD i tag0).2.2.1 else maxC l node i
def addE (b : Bag) (elem node : Int) : Int :=
  if chkB b = 0 then (if (inB elem 0 9 && inB node 0 4) = true then (if b.1.length = 24 ∨ maxC b.1 node b.1.length = 1000000 then 4 else 0) else 1) else chkB b
def bag0 : Bag := ([], [], ())
def addB (b : Bag) (elem node : Int) : Bag := if addE b elem node = 0 then (srt (b.1 ++ [(elem, node, maxC b.1 node b.1.length + 1, ())]), b.2.1, ()) else bag0
def cAdd : Ctr := cdet [tB, I, I] (fun _ _ _ => True) (fun b e n => [⟨tB, addB b e n⟩, ⟨tErr, addE b e n⟩])
def Ebw (l : List Nat) : Env := { Eb with pz := l, pb := [24] }
theorem Ebw_ok (l : List Nat) : EnvOk Try.prog (Ebw l) := ⟨Eb_ok.ty, Eb_ok.err, Eb_ok.el, Eb_ok.mp⟩
def anAdd (b : Bag) (node : Int) : Ann := [joinAll, loopAt 8 Nat [] (fun st i => St.at (St.only st [1, 2, 3, 6, 29, 30]) [(9, .d I (maxC b.1 node i)), (31, .d I (i : Int))]) (fun _ i => i ≤ b.1.length ∧ chkB b = 0) (fun i => b.1.length - i)]
def dropE (b : Bag) (elem : Int) : Int := if chkB b = 0 then (if inB elem 0 9 = true then 0 else 1) else chkB b
def ofE (l : List Tag) (elem : Int) : List Tag := l.filter fun t => decide (t.1 = elem)
def dropB (b : Bag) (elem : Int) : Bag := if dropE b elem = 0 then (b.1, srt (b.2.1 ++ ofE b.1 elem), ()) else bag0
def cDrop : Ctr := cdet [tB, I] (fun _ _ => True) (fun b e => [⟨tB, dropB b e⟩, ⟨tErr, dropE b e⟩])
def anDrop (b : Bag) (elem : Int) : Ann := [joinAll,
  meetAt 7 Unit [] (fun st _ => { St.at (St.only st []) [(1, .d I elem), (2, .pv tB 0 []), (4, .ps 1), (7, .ps 4)] with ob := [.var 24 tB b, .st 24 [.nils, .nils], .row 65 tT b.1, .row 65 tT b.2.1, .st 24 [.os 2, .os 3]] }) (fun _ _ => dropE b elem = 0 ∧ True),
  loopAt 8 Nat [] (fun st i => { St.at (St.only st [1, 2, 4, 7, 29, 30]) [(31, .d I (i : Int))] with ob := [.var 24 tB b, .st 24 [.nils, .nils], .row 65 tT b.1, .row 65 tT (b.2.1 ++ ofE (b.1.take i) elem), .st 24 [.os 2, .os 3]] }) (fun _ i => i ≤ b.1.length ∧ dropE b elem = 0) (fun i => b.1.length - i)]
def joinE (a b : Bag) : Int := if chkB a = 0 then (if chkB b = 0 then (if 24 < (srt (a.1 ++ b.1)).length then 4 else 0) else chkB b) else chkB a
def joinB (a b : Bag) : Bag := if joinE a b = 0 then (srt (a.1 ++ b.1), srt (a.2.1 ++ b.2.1), ()) else bag0
def cJoin : Ctr := cdet [tB, tB] (fun _ _ => True) (fun a b => [⟨tB, joinB a b⟩, ⟨tErr, joinE a b⟩])
def anJoin (a b : Bag) : Ann := [joinAll,
  meetAt 8 Unit [] (fun st _ => { St.at (St.only st []) [(4, .ps 0), (8, .ps 3)] with ob := [.st 24 [.nils, .nils], .row 65 tT (srt (a.1 ++ b.1)), .row 65 tT (srt (a.2.1 ++ b.2.1)), .st 24 [.os 1, .os 2]] }) (fun _ _ => chkB a = 0 ∧ chkB b = 0)]
def elemsU (b : Bag) : Nat → List Int
  | 0 => []
  | i + 1 => if (!hasT b.2.1 (b.1.getD i tag0) && !hasI (elemsU b i) (b.1.getD i tag0).1) = true then elemsU b i ++ [(b.1.getD i tag0).1] else elemsU b i
def elems (b : Bag) : List Int := if chkB b = 0 then elemsU b b.1.length else []
def cElems : Ctr := cdet [tB] (fun _ => True) (fun b => [⟨.sl I, elems b⟩, ⟨tErr, chkB b⟩])
def anElems (b : Bag) : Ann := [joinAll, loopAt 6 Nat [(5, 3, I)] (fun st i => { St.at (St.only st [1, 5, 14, 15]) [(16, .d I (i : Int))] with ob := [.var 24 tB b, .row 3 I (elemsU b i)] }) (fun _ i => i ≤ b.1.length ∧ chkB b = 0) (fun i => b.1.length - i)]
def upE (v : List Int) (node : Int) : Int := if cntE v = 0 then (if inB node 0 ((v.length : Int) - 1) = true then (if v.getD node.toNat 0 = 1000000 then 4 else 0) else 1) else cntE v
def upR (v : List Int) (node : Int) : List Int := if upE v node = 0 then v.set node.toNat (v.getD node.toNat 0 + 1) else []
def cUp : Ctr := cdet [.sl I, I] (fun _ _ => True) (fun v n => [⟨.sl I, upR v n⟩, ⟨tErr, upE v n⟩])
def mostE (v w : List Int) : Int := if cntE v = 0 then (if cntE w = 0 then (if v.length = w.length then 0 else 3) else cntE w) else cntE v
def mostU (v w : List Int) : Nat → List Int
  | 0 => v
  | i + 1 => (mostU v w i).set i (max ((mostU v w i).getD i 0) (w.getD i 0))
def mostR (v w : List Int) : List Int := if mostE v w = 0 then mostU v w w.length else []
def cMost : Ctr := cdet [.sl I, .sl I] (fun _ _ => True) (fun v w => [⟨.sl I, mostR v w⟩, ⟨tErr, mostE v w⟩])
def anMost (v w : List Int) : Ann := [joinAll, loopAt 11 Nat [] (fun st i => { St.at (St.only st [8, 29, 30]) [(31, .d I (i : Int))] with ob := [.row 3 I (mostU v w i)] }) (fun _ i => i ≤ w.length ∧ mostE v w = 0) (fun i => w.length - i)]
end Go.Proofs.Ytgcliogognkdkaa

/- Tags in a row that rises: what sorting, and striking doubles, comes to. -/
namespace Go.Proofs.Ytgcliogognkdkaa
open Go.Vc

def ltT (a b : Tag) : Prop := a.1 < b.1 ∨ a.1 = b.1 ∧ (a.2.1 < b.2.1 ∨ a.2.1 = b.2.1 ∧ a.2.2.1 < b.2.2.1)
theorem cmpI_lt {a b : Int} : cmpI a b < 0 ↔ a < b := by
  unfold cmpI
  by_cases h : a < b
  · simp [h]
  · by_cases h2 : b < a <;> simp [h, h2]
theorem cmpI_z {a b : Int} : cmpI a b = 0 ↔ a = b := by
  unfold cmpI
  by_cases h : a < b
  · simp [h]; omega
  · by_cases h2 : b < a
    · simp [h, h2]; omega
    · simp [h, h2]; omega
theorem cmpT_lt {a b : Tag} : cmpT a b < 0 ↔ ltT a b := by
  unfold cmpT ltT
  simp only [orI]
  by_cases h1 : cmpI a.1 b.1 = 0
  · have e1 := cmpI_z.1 h1
    rw [if_pos h1]
    by_cases h2 : cmpI a.2.1 b.2.1 = 0
    · have e2 := cmpI_z.1 h2
      rw [if_pos h2]
      by_cases h3 : cmpI a.2.2.1 b.2.2.1 = 0
      · have e3 := cmpI_z.1 h3
        rw [if_pos h3]; omega
      · rw [if_neg h3, cmpI_lt]; omega
    · have e2 : ¬ a.2.1 = b.2.1 := fun e => h2 (cmpI_z.2 e)
      rw [if_neg h2, cmpI_lt]; omega
  · have e1 : ¬ a.1 = b.1 := fun e => h1 (cmpI_z.2 e)
    rw [if_neg h1, cmpI_lt]; omega
theorem cmpT_ge {a b : Tag} : 0 ≤ cmpT a b ↔ ¬ ltT a b := by rw [← cmpT_lt]; omega
theorem ltT_irrefl (a : Tag) : ¬ ltT a a := by unfold ltT; omega
theorem ltT_trans {a b c : Tag} (h : ltT a b) (k : ltT b c) : ltT a c := by unfold ltT at *; omega
theorem ltT_asymm {a b : Tag} (h : ltT a b) : ¬ ltT b a := fun k => ltT_irrefl a (ltT_trans h k)
theorem ltT_tri {a b : Tag} (h1 : ¬ ltT a b) (h2 : ¬ ltT b a) : a = b := by
  obtain ⟨a1, a2, a3, _⟩ := a
  obtain ⟨b1, b2, b3, _⟩ := b
  unfold ltT at h1 h2
  simp only at h1 h2
  have e1 : a1 = b1 := by omega
  have e2 : a2 = b2 := by omega
  have e3 : a3 = b3 := by omega
  rw [e1, e2, e3]

/-- rising, each once -/
abbrev SS (l : List Tag) : Prop := l.Pairwise ltT
theorem SS.ext : ∀ {l m : List Tag}, SS l → SS m → (∀ t, t ∈ l ↔ t ∈ m) → l = m
  | [], [], _, _, _ => rfl
  | [], y :: m, _, _, h => absurd ((h y).2 (List.mem_cons_self ..)) (by simp)
  | x :: l, [], _, _, h => absurd ((h x).1 (List.mem_cons_self ..)) (by simp)
  | x :: l, y :: m, hl, hm, h => by
    obtain ⟨hl1, hl2⟩ := List.pairwise_cons.1 hl
    obtain ⟨hm1, hm2⟩ := List.pairwise_cons.1 hm
    have hxy : x = y := by
      rcases List.mem_cons.1 ((h x).1 (List.mem_cons_self ..)) with e | e
      · exact e
      · rcases List.mem_cons.1 ((h y).2 (List.mem_cons_self ..)) with e2 | e2
        · exact e2.symm
        · exact absurd (hl1 y e2) (ltT_asymm (hm1 x e))
    subst hxy
    congr 1
    refine SS.ext hl2 hm2 fun t => ⟨fun ht => ?_, fun ht => ?_⟩
    · rcases List.mem_cons.1 ((h t).1 (List.mem_cons_of_mem _ ht)) with e | e
      · subst e; exact absurd (hl1 t ht) (ltT_irrefl t)
      · exact e
    · rcases List.mem_cons.1 ((h t).2 (List.mem_cons_of_mem _ ht)) with e | e
      · subst e; exact absurd (hm1 t ht) (ltT_irrefl t)
      · exact e

theorem mem_insT (t u : Tag) : ∀ l : List Tag, u ∈ insT t l ↔ u = t ∨ u ∈ l
  | [] => by simp [insT]
  | x :: l => by
    unfold insT
    split
    · simp
    · rename_i h1
      split
      · rw [List.mem_cons, mem_insT t u l, List.mem_cons]
        constructor
        · rintro (h | h | h)
          · exact .inr (.inl h)
          · exact .inl h
          · exact .inr (.inr h)
        · rintro (h | h | h)
          · exact .inr (.inl h)
          · exact .inl h
          · exact .inr (.inr h)
      · rename_i h2
        have : t = x := ltT_tri (fun h => h1 (cmpT_lt.2 h)) (fun h => h2 (cmpT_lt.2 h))
        subst this
        simp
theorem ss_insT (t : Tag) : ∀ {l : List Tag}, SS l → SS (insT t l)
  | [], _ => by simp [insT, SS]
  | x :: l, h => by
    obtain ⟨h1, h2⟩ := List.pairwise_cons.1 h
    unfold insT
    split
    · rename_i ht
      have ht := cmpT_lt.1 ht
      refine List.pairwise_cons.2 ⟨fun u hu => ?_, h⟩
      rcases List.mem_cons.1 hu with e | e
      · subst e; exact ht
      · exact ltT_trans ht (h1 u e)
    · split
      · rename_i hx
        have hx := cmpT_lt.1 hx
        refine List.pairwise_cons.2 ⟨fun u hu => ?_, ss_insT t h2⟩
        rcases (mem_insT t u l).1 hu with e | e
        · subst e; exact hx
        · exact h1 u e
      · exact h
theorem mem_srt {u : Tag} : ∀ {l : List Tag}, u ∈ srt l ↔ u ∈ l
  | [] => by simp [srt]
  | x :: l => by
    show u ∈ insT x (srt l) ↔ _
    rw [mem_insT, mem_srt (l := l), List.mem_cons]
theorem ss_srt : ∀ (l : List Tag), SS (srt l)
  | [] => List.Pairwise.nil
  | x :: l => ss_insT x (ss_srt l)
theorem srt_eq {l m : List Tag} (h : SS m) (he : ∀ t, t ∈ m ↔ t ∈ l) : srt l = m := SS.ext (ss_srt l) h fun t => mem_srt.trans (he t).symm
theorem insT_len (t : Tag) : ∀ l : List Tag, (insT t l).length ≤ l.length + 1
  | [] => by simp [insT]
  | x :: l => by
    unfold insT
    have := insT_len t l
    split
    · simp
    · split
      · simp only [List.length_cons]; omega
      · simp
theorem srt_len : ∀ l : List Tag, (srt l).length ≤ l.length
  | [] => Nat.le_refl _
  | x :: l => by
    have h1 := insT_len x (srt l)
    have h2 := srt_len l
    show (insT x (srt l)).length ≤ l.length + 1
    omega

theorem mem_cpt {u : Tag} : ∀ {l : List Tag}, u ∈ cpt l ↔ u ∈ l
  | [] => by simp [cpt]
  | [x] => by simp [cpt]
  | x :: y :: l => by
    unfold cpt
    split
    · rename_i h; subst h
      rw [mem_cpt (l := x :: l), List.mem_cons (a := u) (b := x) (l := x :: l)]
      exact ⟨.inr, fun h => h.elim (fun e => e ▸ List.mem_cons_self ..) id⟩
    · rw [List.mem_cons, mem_cpt (l := y :: l), List.mem_cons (b := x)]
theorem ss_cpt : ∀ {l : List Tag}, (l.Pairwise fun a b => ¬ ltT b a) → SS (cpt l)
  | [], _ => by simp [cpt, SS]
  | [x], _ => by simp [cpt, SS]
  | x :: y :: l, h => by
    obtain ⟨h1, h2⟩ := List.pairwise_cons.1 h
    unfold cpt
    split
    · exact ss_cpt h2
    · rename_i hne
      refine List.pairwise_cons.2 ⟨fun u hu => ?_, ss_cpt h2⟩
      have hu := mem_cpt.1 hu
      have hxy : ltT x y := by
        cases Classical.em (ltT x y) with
        | inl h => exact h
        | inr h => exact absurd (ltT_tri h (h1 y (List.mem_cons_self ..))) hne
      rcases List.mem_cons.1 hu with e | e
      · subst e; exact hxy
      · have := (List.pairwise_cons.1 h2).1 u e
        cases Classical.em (ltT y u) with
        | inl h => exact ltT_trans hxy h
        | inr h => rw [← ltT_tri h this]; exact hxy
theorem cpt_srt {xs ys : List Tag} (h : srtP xs ys) : cpt ys = srt xs := by
  refine (srt_eq (ss_cpt (h.2.imp fun h => cmpT_ge.1 h)) fun t => ?_).symm
  rw [mem_cpt]; exact h.1.mem_iff

theorem cpt_snoc (a b : Tag) : ∀ l : List Tag, cpt (l ++ [a] ++ [b]) = if a = b then cpt (l ++ [a]) else cpt (l ++ [a]) ++ [b]
  | [] => by
    by_cases h : a = b
    · subst h; simp [cpt]
    · simp [cpt, h]
  | [x] => by
    have := cpt_snoc a b []
    simp only [List.nil_append, List.cons_append] at this ⊢
    by_cases hx : x = a
    · subst hx
      simp only [cpt, if_true] at this ⊢
      exact this
    · simp only [cpt, if_neg hx] at this ⊢
      split
      · rename_i h; subst h; simp
      · simp
  | x :: y :: l => by
    have := cpt_snoc a b (y :: l)
    simp only [List.cons_append] at this ⊢
    by_cases hx : x = y
    · subst hx
      simp only [cpt, if_true]
      exact this
    · rw [cpt, if_neg hx, cpt, if_neg hx, this]
      split <;> simp
theorem cpt_step {l : List Tag} {n : Nat} (h1 : 1 ≤ n) (h2 : n < l.length) : cpt (l.take (n + 1)) = if l.getD (n - 1) tag0 = l.getD n tag0 then cpt (l.take n) else cpt (l.take n) ++ [l.getD n tag0] := by
  have e1 : l.take n = l.take (n - 1) ++ [l.getD (n - 1) tag0] := by
    have := List.take_succ_eq_append_getElem (show n - 1 < l.length by omega)
    rw [show n - 1 + 1 = n by omega] at this
    rw [this, List.getD_eq_getElem?_getD, List.getElem?_eq_getElem (show n - 1 < l.length by omega)]; rfl
  have e2 : l.take (n + 1) = l.take n ++ [l.getD n tag0] := by
    rw [List.take_succ_eq_append_getElem h2, List.getD_eq_getElem?_getD, List.getElem?_eq_getElem h2]; rfl
  rw [e2, e1]
  exact cpt_snoc _ _ _
end Go.Proofs.Ytgcliogognkdkaa

/- What the functions of this seat have to satisfy, by program: each verification condition in plain words. -/
namespace Go.Proofs.Ytgcliogognkdkaa
open Go.Vc
set_option linter.unusedVariables false
theorem vcSorted (xs : List Tag) (k : SV → List Ob → Prop) : vcO ⟨Eb, [], [], [], [(47, oSortT), (49, oCompact)]⟩ [] (Try.f30.body.getD .skip) Try.f30.ntmps [(.tmp 2, .un)] [.os 0] [.row 65 tT xs] k = (
  xs.length ≤ (1000000000 : Nat) ∧ ∀ (ys : List Tag), srtP xs ys → ys.length ≤ (1000000000 : Nat) ∧ k (SV.os (1 : Nat)) [Ob.dead, Ob.row (65 : Nat) (tT) (cpt ys)]) := by kernel_rfl
theorem vcAdd (b : Bag) (e n : Int) (k : List Dat → Prop) : vcF ⟨Ebw [6], [(13, cCheck), (35, cWithin)], [], [], [(36, oClone), (30, oSorted)]⟩ (anAdd b n) (Try.f14.body.getD .skip) Try.f14.ntmps [(.cell 6 24, tB), (.tmp 7, tErr)] [⟨tB, b⟩, ⟨I, e⟩, ⟨I, n⟩] k = (
  True ∧ ((!decide (chkB b = (0 : Int))) = true → k [Dat.mk (tB) ([], [], ()), Dat.mk (Ty.err (66 : Nat)) (chkB b)]) ∧ ((!decide (chkB b = (0 : Int))) = false → True ∧ ((!inB e (0 : Int) (9 : Int)) = true → (1 : Int) ≠ (0 : Int) ∧ k [Dat.mk (tB) ([], [], ()), Dat.mk (Ty.err (66 : Nat)) (1 : Int)]) ∧ ((!inB e (0 : Int) (9 : Int)) = false → True ∧ ((!inB n (0 : Int) (4 : Int)) = true → (1 : Int) ≠ (0 : Int) ∧ k [Dat.mk (tB) ([], [], ()), Dat.mk (Ty.err (66 : Nat)) (1 : Int)]) ∧ ((!inB n (0 : Int) (4 : Int)) = false → (∃ (x : Nat), (x ≤ b.fst.length ∧ chkB b = (0 : Int)) ∧ (e = e ∧ n = n ∧ ([] : List Nat) = [] ∧ True ∧ (0 : Int) = maxC b.fst n x ∧ b.fst = b.fst ∧ (↑(List.length b.fst) : Int) = (↑(List.length b.fst) : Int) ∧ (0 : Int) = (↑x : Int) ∧ True) ∧ (((24 : Nat) = (24 : Nat) ∧ b = b) ∧ (True ∧ True ∧ True) ∧ True) ∧ True) ∧ ∀ (x : Nat), x ≤ b.fst.length ∧ chkB b = (0 : Int) → (decide ((↑x : Int) < (↑(List.length b.fst) : Int)) = true → (0 : Int) ≤ (↑x : Int) ∧ (↑x : Int) < (↑(List.length b.fst) : Int) ∧ (decide ((List.getD b.fst (↑x : Int).toNat ((0 : Int), (0 : Int), (0 : Int), ())).snd.fst = n) = true → inK IntKind.i64 ((↑x : Int) + (1 : Int)) ∧ ∃ (x_1 : Nat), (x_1 ≤ b.fst.length ∧ chkB b = (0 : Int)) ∧ b.fst.length - x_1 < b.fst.length - x ∧ (e = e ∧ n = n ∧ ([] : List Nat) = [] ∧ True ∧ max (maxC b.fst n x) (List.getD b.fst (↑x : Int).toNat ((0 : Int), (0 : Int), (0 : Int), ())).snd.snd.fst = maxC b.fst n x_1 ∧ b.fst = b.fst ∧ (↑(List.length b.fst) : Int) = (↑(List.length b.fst) : Int) ∧ (↑x : Int) + (1 : Int) = (↑x_1 : Int) ∧ True) ∧ (((24 : Nat) = (24 : Nat) ∧ b = b) ∧ (True ∧ True ∧ True) ∧ True) ∧ True) ∧ (decide ((List.getD b.fst (↑x : Int).toNat ((0 : Int), (0 : Int), (0 : Int), ())).snd.fst = n) = false → inK IntKind.i64 ((↑x : Int) + (1 : Int)) ∧ ∃ (x_1 : Nat), (x_1 ≤ b.fst.length ∧ chkB b = (0 : Int)) ∧ b.fst.length - x_1 < b.fst.length - x ∧ (e = e ∧ n = n ∧ ([] : List Nat) = [] ∧ True ∧ maxC b.fst n x = maxC b.fst n x_1 ∧ b.fst = b.fst ∧ (↑(List.length b.fst) : Int) = (↑(List.length b.fst) : Int) ∧ (↑x : Int) + (1 : Int) = (↑x_1 : Int) ∧ True) ∧ (((24 : Nat) = (24 : Nat) ∧ b = b) ∧ (True ∧ True ∧ True) ∧ True) ∧ True)) ∧ (decide ((↑x : Int) < (↑(List.length b.fst) : Int)) = false → (decide ((↑(List.length b.fst) : Int) = (24 : Int)) = true → (4 : Int) ≠ (0 : Int) ∧ k [Dat.mk (tB) ([], [], ()), Dat.mk (Ty.err (66 : Nat)) (4 : Int)]) ∧ (decide ((↑(List.length b.fst) : Int) = (24 : Int)) = false → (decide (maxC b.fst n x = (1000000 : Int)) = true → (4 : Int) ≠ (0 : Int) ∧ k [Dat.mk (tB) ([], [], ()), Dat.mk (Ty.err (66 : Nat)) (4 : Int)]) ∧ (decide (maxC b.fst n x = (1000000 : Int)) = false → inK IntKind.i64 (maxC b.fst n x + (1 : Int)) ∧ True ∧ List.length b.fst ≤ (1000000000 : Nat) ∧ ((inK IntKind.i64 (maxC b.fst n x + (1 : Int)) ∧ maxC b.fst n x + (1 : Int) = maxC b.fst n x + (1 : Int)) ∧ (e, n, maxC b.fst n x + (1 : Int), ()) = (e, n, maxC b.fst n x + (1 : Int), ()) ∧ (List.replicate (1 : Nat) ((0 : Int), (0 : Int), (0 : Int), ())).set (0 : Nat) (e, n, maxC b.fst n x + (1 : Int), ()) = (List.replicate (1 : Nat) ((0 : Int), (0 : Int), (0 : Int), ())).set (0 : Nat) (e, n, maxC b.fst n x + (1 : Int), ()) ∧ SV.pv (tB) (0 : Nat) ([] ++ [(1 : Nat)]) = SV.pv (tB) (0 : Nat) ([] ++ [(1 : Nat)]) ∧ b.snd.fst = b.snd.fst ∧ True) ∧ List.length b.fst + ((List.replicate (1 : Nat) ((0 : Int), (0 : Int), (0 : Int), ())).set (0 : Nat) (e, n, maxC b.fst n x + (1 : Int), ())).length ≤ (1000000000 : Nat) ∧ (SV.pv (tB) (0 : Nat) ([] ++ [(1 : Nat)]) = SV.pv (tB) (0 : Nat) ([] ++ [(1 : Nat)]) ∧ b.snd.fst = b.snd.fst ∧ True) ∧ (List.append b.fst ((List.replicate (1 : Nat) ((0 : Int), (0 : Int), (0 : Int), ())).set (0 : Nat) (e, n, maxC b.fst n x + (1 : Int), ()))).length ≤ (1000000000 : Nat) ∧ (SV.pv (tB) (0 : Nat) ([] ++ [(1 : Nat)]) = SV.pv (tB) (0 : Nat) ([] ++ [(1 : Nat)]) ∧ b.snd.fst = b.snd.fst ∧ True) ∧ List.length b.snd.fst ≤ (1000000000 : Nat) ∧ True ∧ True ∧ k [Dat.mk (tB) (srt (List.append b.fst ((List.replicate (1 : Nat) ((0 : Int), (0 : Int), (0 : Int), ())).set (0 : Nat) (e, n, maxC b.fst n x + (1 : Int), ()))), b.snd.fst, ()), Dat.mk (Ty.err (66 : Nat)) (0 : Int)]))))))) := by kernel_rfl
theorem vcDrop (b : Bag) (e : Int) (k : List Dat → Prop) : vcF ⟨Ebw [4, 7], [(13, cCheck), (35, cWithin)], [], [], [(36, oClone), (30, oSorted)]⟩ (anDrop b e) (Try.f15.body.getD .skip) Try.f15.ntmps [(.cell 4 24, tB), (.tmp 5, tErr)] [⟨tB, b⟩, ⟨I, e⟩] k = (
  True ∧ ((!decide (chkB b = (0 : Int))) = true → k [Dat.mk (tB) ([], [], ()), Dat.mk (Ty.err (66 : Nat)) (chkB b)]) ∧ ((!decide (chkB b = (0 : Int))) = false → True ∧ ((!inB e (0 : Int) (9 : Int)) = true → (1 : Int) ≠ (0 : Int) ∧ k [Dat.mk (tB) ([], [], ()), Dat.mk (Ty.err (66 : Nat)) (1 : Int)]) ∧ ((!inB e (0 : Int) (9 : Int)) = false → (True ∧ (List.length b.fst ≤ (1000000000 : Nat) ∧ (SV.pv (tB) (0 : Nat) ([] ++ [(1 : Nat)]) = SV.pv (tB) (0 : Nat) ([] ++ [(1 : Nat)]) ∧ b.snd.fst = b.snd.fst ∧ True) ∧ (List.length b.snd.fst ≤ (1000000000 : Nat) ∧ True ∧ ((SV.ag [SV.os (2 : Nat), SV.os (3 : Nat)] = SV.ag [SV.os (2 : Nat), SV.os (3 : Nat)] ∧ True) ∧ (True ∧ ∃ (x : Unit), (dropE b e = (0 : Int) ∧ True) ∧ (e = e ∧ ([] : List Nat) = [] ∧ True ∧ True ∧ True) ∧ (((24 : Nat) = (24 : Nat) ∧ b = b) ∧ (True ∧ True ∧ True) ∧ ((65 : Nat) = (65 : Nat) ∧ b.fst = b.fst) ∧ ((65 : Nat) = (65 : Nat) ∧ b.snd.fst = b.snd.fst) ∧ (True ∧ True ∧ True) ∧ True) ∧ True) ∧ True) ∧ True ∧ True) ∧ ((SV.pv (tB) (0 : Nat) ([] ++ [(1 : Nat)]) = SV.pv (tB) (0 : Nat) ([] ++ [(1 : Nat)]) ∧ b.snd.fst = b.snd.fst ∧ True) ∧ (List.length b.snd.fst ≤ (1000000000 : Nat) ∧ True ∧ (True ∧ ∃ (x : Unit), (dropE b e = (0 : Int) ∧ True) ∧ (e = e ∧ ([] : List Nat) = [] ∧ True ∧ True ∧ True) ∧ (((24 : Nat) = (24 : Nat) ∧ b = b) ∧ (True ∧ True ∧ True) ∧ ((65 : Nat) = (65 : Nat) ∧ b.fst = b.fst) ∧ ((65 : Nat) = (65 : Nat) ∧ b.snd.fst = b.snd.fst) ∧ (True ∧ True ∧ True) ∧ True) ∧ True) ∧ True) ∧ True ∧ True) ∧ True ∧ True) ∧ True ∧ ((SV.pv (tB) (0 : Nat) ([] ++ [(0 : Nat)]) = SV.pv (tB) (0 : Nat) ([] ++ [(0 : Nat)]) ∧ b.fst = b.fst ∧ SV.pv (tB) (0 : Nat) ([] ++ [(1 : Nat)]) = SV.pv (tB) (0 : Nat) ([] ++ [(1 : Nat)]) ∧ b.snd.fst = b.snd.fst ∧ True) ∧ (List.length b.fst ≤ (1000000000 : Nat) ∧ (SV.pv (tB) (0 : Nat) ([] ++ [(1 : Nat)]) = SV.pv (tB) (0 : Nat) ([] ++ [(1 : Nat)]) ∧ b.snd.fst = b.snd.fst ∧ True) ∧ (List.length b.snd.fst ≤ (1000000000 : Nat) ∧ True ∧ (True ∧ ∃ (x : Unit), (dropE b e = (0 : Int) ∧ True) ∧ (e = e ∧ ([] : List Nat) = [] ∧ True ∧ True ∧ True) ∧ (((24 : Nat) = (24 : Nat) ∧ b = b) ∧ (True ∧ True ∧ True) ∧ ((65 : Nat) = (65 : Nat) ∧ b.fst = b.fst) ∧ ((65 : Nat) = (65 : Nat) ∧ b.snd.fst = b.snd.fst) ∧ (True ∧ True ∧ True) ∧ True) ∧ True) ∧ True) ∧ True ∧ True) ∧ True ∧ True ∧ True) ∧ True ∧ True) ∧ ∀ (x : Unit), dropE b e = (0 : Int) ∧ True → (∃ (x : Nat), (x ≤ b.fst.length ∧ dropE b e = (0 : Int)) ∧ (e = e ∧ ([] : List Nat) = [] ∧ True ∧ True ∧ b.fst = b.fst ∧ (↑(List.length b.fst) : Int) = (↑(List.length b.fst) : Int) ∧ (0 : Int) = (↑x : Int) ∧ True) ∧ (((24 : Nat) = (24 : Nat) ∧ b = b) ∧ (True ∧ True ∧ True) ∧ ((65 : Nat) = (65 : Nat) ∧ b.fst = b.fst) ∧ ((65 : Nat) = (65 : Nat) ∧ b.snd.fst = b.snd.fst ++ ofE (List.take x b.fst) e) ∧ (True ∧ True ∧ True) ∧ True) ∧ True) ∧ ∀ (x : Nat), x ≤ b.fst.length ∧ dropE b e = (0 : Int) → (decide ((↑x : Int) < (↑(List.length b.fst) : Int)) = true → (0 : Int) ≤ (↑x : Int) ∧ (↑x : Int) < (↑(List.length b.fst) : Int) ∧ (decide ((List.getD b.fst (↑x : Int).toNat ((0 : Int), (0 : Int), (0 : Int), ())).fst = e) = true → (b.snd.fst ++ ofE (List.take x b.fst) e).length + ((List.replicate (1 : Nat) ((0 : Int), (0 : Int), (0 : Int), ())).set (0 : Nat) (List.getD b.fst (↑x : Int).toNat ((0 : Int), (0 : Int), (0 : Int), ()))).length ≤ (1000000000 : Nat) ∧ inK IntKind.i64 ((↑x : Int) + (1 : Int)) ∧ ∃ (x_1 : Nat), (x_1 ≤ b.fst.length ∧ dropE b e = (0 : Int)) ∧ b.fst.length - x_1 < b.fst.length - x ∧ (e = e ∧ ([] : List Nat) = [] ∧ True ∧ True ∧ b.fst = b.fst ∧ (↑(List.length b.fst) : Int) = (↑(List.length b.fst) : Int) ∧ (↑x : Int) + (1 : Int) = (↑x_1 : Int) ∧ True) ∧ (((24 : Nat) = (24 : Nat) ∧ b = b) ∧ (True ∧ True ∧ True) ∧ ((65 : Nat) = (65 : Nat) ∧ b.fst = b.fst) ∧ ((65 : Nat) = (65 : Nat) ∧ (b.snd.fst ++ ofE (List.take x b.fst) e).append ((List.replicate (1 : Nat) ((0 : Int), (0 : Int), (0 : Int), ())).set (0 : Nat) (List.getD b.fst (↑x : Int).toNat ((0 : Int), (0 : Int), (0 : Int), ()))) = b.snd.fst ++ ofE (List.take x_1 b.fst) e) ∧ (True ∧ True ∧ True) ∧ True) ∧ True) ∧ (decide ((List.getD b.fst (↑x : Int).toNat ((0 : Int), (0 : Int), (0 : Int), ())).fst = e) = false → inK IntKind.i64 ((↑x : Int) + (1 : Int)) ∧ ∃ (x_1 : Nat), (x_1 ≤ b.fst.length ∧ dropE b e = (0 : Int)) ∧ b.fst.length - x_1 < b.fst.length - x ∧ (e = e ∧ ([] : List Nat) = [] ∧ True ∧ True ∧ b.fst = b.fst ∧ (↑(List.length b.fst) : Int) = (↑(List.length b.fst) : Int) ∧ (↑x : Int) + (1 : Int) = (↑x_1 : Int) ∧ True) ∧ (((24 : Nat) = (24 : Nat) ∧ b = b) ∧ (True ∧ True ∧ True) ∧ ((65 : Nat) = (65 : Nat) ∧ b.fst = b.fst) ∧ ((65 : Nat) = (65 : Nat) ∧ b.snd.fst ++ ofE (List.take x b.fst) e = b.snd.fst ++ ofE (List.take x_1 b.fst) e) ∧ (True ∧ True ∧ True) ∧ True) ∧ True)) ∧ (decide ((↑x : Int) < (↑(List.length b.fst) : Int)) = false → (b.snd.fst ++ ofE (List.take x b.fst) e).length ≤ (1000000000 : Nat) ∧ k [Dat.mk (tB) (b.fst, srt (b.snd.fst ++ ofE (List.take x b.fst) e), ()), Dat.mk (Ty.err (66 : Nat)) (0 : Int)])))) := by kernel_rfl
theorem vcJoin (a b : Bag) (k : List Dat → Prop) : vcF ⟨Ebw [4, 8], [(13, cCheck)], [], [], [(31, oConcat), (30, oSorted)]⟩ (anJoin a b) (Try.f11.body.getD .skip) Try.f11.ntmps [(.cell 4 24, tB), (.tmp 5, tErr)] [⟨tB, a⟩, ⟨tB, b⟩] k = (
  True ∧ ((!decide (chkB a = (0 : Int))) = true → k [Dat.mk (tB) ([], [], ()), Dat.mk (Ty.err (66 : Nat)) (chkB a)]) ∧ ((!decide (chkB a = (0 : Int))) = false → True ∧ ((!decide (chkB b = (0 : Int))) = true → k [Dat.mk (tB) ([], [], ()), Dat.mk (Ty.err (66 : Nat)) (chkB b)]) ∧ ((!decide (chkB b = (0 : Int))) = false → (True ∧ (sumL (((List.replicate (2 : Nat) []).set (0 : Nat) a.fst).set (1 : Nat) b.fst) (((List.replicate (2 : Nat) []).set (0 : Nat) a.fst).set (1 : Nat) b.fst).length ≤ (1000000000 : Nat) ∧ (SV.pv (tB) (0 : Nat) ([] ++ [(1 : Nat)]) = SV.pv (tB) (0 : Nat) ([] ++ [(1 : Nat)]) ∧ a.snd.fst = a.snd.fst ∧ SV.pv (tB) (1 : Nat) ([] ++ [(1 : Nat)]) = SV.pv (tB) (1 : Nat) ([] ++ [(1 : Nat)]) ∧ b.snd.fst = b.snd.fst ∧ ((List.replicate (2 : Nat) []).set (0 : Nat) a.snd.fst).set (1 : Nat) b.snd.fst = ((List.replicate (2 : Nat) []).set (0 : Nat) a.snd.fst).set (1 : Nat) b.snd.fst ∧ True) ∧ ((((List.replicate (2 : Nat) []).set (0 : Nat) a.fst).set (1 : Nat) b.fst).flatten.length ≤ (1000000000 : Nat) ∧ (SV.pv (tB) (0 : Nat) ([] ++ [(1 : Nat)]) = SV.pv (tB) (0 : Nat) ([] ++ [(1 : Nat)]) ∧ a.snd.fst = a.snd.fst ∧ SV.pv (tB) (1 : Nat) ([] ++ [(1 : Nat)]) = SV.pv (tB) (1 : Nat) ([] ++ [(1 : Nat)]) ∧ b.snd.fst = b.snd.fst ∧ ((List.replicate (2 : Nat) []).set (0 : Nat) a.snd.fst).set (1 : Nat) b.snd.fst = ((List.replicate (2 : Nat) []).set (0 : Nat) a.snd.fst).set (1 : Nat) b.snd.fst ∧ True) ∧ (sumL (((List.replicate (2 : Nat) []).set (0 : Nat) a.snd.fst).set (1 : Nat) b.snd.fst) (((List.replicate (2 : Nat) []).set (0 : Nat) a.snd.fst).set (1 : Nat) b.snd.fst).length ≤ (1000000000 : Nat) ∧ True ∧ ((((List.replicate (2 : Nat) []).set (0 : Nat) a.snd.fst).set (1 : Nat) b.snd.fst).flatten.length ≤ (1000000000 : Nat) ∧ True ∧ ((SV.ag [SV.os (4 : Nat), SV.os (6 : Nat)] = SV.ag [SV.os (4 : Nat), SV.os (6 : Nat)] ∧ True) ∧ (True ∧ ∃ (x : Unit), (chkB a = (0 : Int) ∧ chkB b = (0 : Int)) ∧ (True ∧ True ∧ True) ∧ ((True ∧ True ∧ True) ∧ ((65 : Nat) = (65 : Nat) ∧ srt (((List.replicate (2 : Nat) []).set (0 : Nat) a.fst).set (1 : Nat) b.fst).flatten = srt (a.fst ++ b.fst)) ∧ ((65 : Nat) = (65 : Nat) ∧ srt (((List.replicate (2 : Nat) []).set (0 : Nat) a.snd.fst).set (1 : Nat) b.snd.fst).flatten = srt (a.snd.fst ++ b.snd.fst)) ∧ (True ∧ True ∧ True) ∧ True) ∧ True) ∧ True) ∧ True ∧ True) ∧ (True ∧ ((((List.replicate (2 : Nat) []).set (0 : Nat) a.snd.fst).set (1 : Nat) b.snd.fst).flatten.length ≤ (1000000000 : Nat) ∧ True ∧ (True ∧ ∃ (x : Unit), (chkB a = (0 : Int) ∧ chkB b = (0 : Int)) ∧ (True ∧ True ∧ True) ∧ ((True ∧ True ∧ True) ∧ ((65 : Nat) = (65 : Nat) ∧ srt (((List.replicate (2 : Nat) []).set (0 : Nat) a.fst).set (1 : Nat) b.fst).flatten = srt (a.fst ++ b.fst)) ∧ ((65 : Nat) = (65 : Nat) ∧ srt (((List.replicate (2 : Nat) []).set (0 : Nat) a.snd.fst).set (1 : Nat) b.snd.fst).flatten = srt (a.snd.fst ++ b.snd.fst)) ∧ (True ∧ True ∧ True) ∧ True) ∧ True) ∧ True) ∧ True ∧ True) ∧ True ∧ True) ∧ True ∧ ((SV.pv (tB) (0 : Nat) ([] ++ [(1 : Nat)]) = SV.pv (tB) (0 : Nat) ([] ++ [(1 : Nat)]) ∧ a.snd.fst = a.snd.fst ∧ SV.pv (tB) (1 : Nat) ([] ++ [(1 : Nat)]) = SV.pv (tB) (1 : Nat) ([] ++ [(1 : Nat)]) ∧ b.snd.fst = b.snd.fst ∧ ((List.replicate (2 : Nat) []).set (0 : Nat) a.snd.fst).set (1 : Nat) b.snd.fst = ((List.replicate (2 : Nat) []).set (0 : Nat) a.snd.fst).set (1 : Nat) b.snd.fst ∧ True) ∧ (sumL (((List.replicate (2 : Nat) []).set (0 : Nat) a.snd.fst).set (1 : Nat) b.snd.fst) (((List.replicate (2 : Nat) []).set (0 : Nat) a.snd.fst).set (1 : Nat) b.snd.fst).length ≤ (1000000000 : Nat) ∧ True ∧ ((((List.replicate (2 : Nat) []).set (0 : Nat) a.snd.fst).set (1 : Nat) b.snd.fst).flatten.length ≤ (1000000000 : Nat) ∧ True ∧ (True ∧ ∃ (x : Unit), (chkB a = (0 : Int) ∧ chkB b = (0 : Int)) ∧ (True ∧ True ∧ True) ∧ ((True ∧ True ∧ True) ∧ ((65 : Nat) = (65 : Nat) ∧ srt (((List.replicate (2 : Nat) []).set (0 : Nat) a.fst).set (1 : Nat) b.fst).flatten = srt (a.fst ++ b.fst)) ∧ ((65 : Nat) = (65 : Nat) ∧ srt (((List.replicate (2 : Nat) []).set (0 : Nat) a.snd.fst).set (1 : Nat) b.snd.fst).flatten = srt (a.snd.fst ++ b.snd.fst)) ∧ (True ∧ True ∧ True) ∧ True) ∧ True) ∧ True) ∧ True ∧ True) ∧ True ∧ True ∧ True) ∧ True ∧ True) ∧ True ∧ True ∧ ((SV.pv (tB) (0 : Nat) ([] ++ [(1 : Nat)]) = SV.pv (tB) (0 : Nat) ([] ++ [(1 : Nat)]) ∧ a.snd.fst = a.snd.fst ∧ SV.pv (tB) (1 : Nat) ([] ++ [(1 : Nat)]) = SV.pv (tB) (1 : Nat) ([] ++ [(1 : Nat)]) ∧ b.snd.fst = b.snd.fst ∧ ((List.replicate (2 : Nat) []).set (0 : Nat) a.snd.fst).set (1 : Nat) b.snd.fst = ((List.replicate (2 : Nat) []).set (0 : Nat) a.snd.fst).set (1 : Nat) b.snd.fst ∧ True) ∧ ((((List.replicate (2 : Nat) []).set (0 : Nat) a.fst).set (1 : Nat) b.fst).flatten.length ≤ (1000000000 : Nat) ∧ (SV.pv (tB) (0 : Nat) ([] ++ [(1 : Nat)]) = SV.pv (tB) (0 : Nat) ([] ++ [(1 : Nat)]) ∧ a.snd.fst = a.snd.fst ∧ SV.pv (tB) (1 : Nat) ([] ++ [(1 : Nat)]) = SV.pv (tB) (1 : Nat) ([] ++ [(1 : Nat)]) ∧ b.snd.fst = b.snd.fst ∧ ((List.replicate (2 : Nat) []).set (0 : Nat) a.snd.fst).set (1 : Nat) b.snd.fst = ((List.replicate (2 : Nat) []).set (0 : Nat) a.snd.fst).set (1 : Nat) b.snd.fst ∧ True) ∧ (sumL (((List.replicate (2 : Nat) []).set (0 : Nat) a.snd.fst).set (1 : Nat) b.snd.fst) (((List.replicate (2 : Nat) []).set (0 : Nat) a.snd.fst).set (1 : Nat) b.snd.fst).length ≤ (1000000000 : Nat) ∧ True ∧ ((((List.replicate (2 : Nat) []).set (0 : Nat) a.snd.fst).set (1 : Nat) b.snd.fst).flatten.length ≤ (1000000000 : Nat) ∧ True ∧ (True ∧ ∃ (x : Unit), (chkB a = (0 : Int) ∧ chkB b = (0 : Int)) ∧ (True ∧ True ∧ True) ∧ ((True ∧ True ∧ True) ∧ ((65 : Nat) = (65 : Nat) ∧ srt (((List.replicate (2 : Nat) []).set (0 : Nat) a.fst).set (1 : Nat) b.fst).flatten = srt (a.fst ++ b.fst)) ∧ ((65 : Nat) = (65 : Nat) ∧ srt (((List.replicate (2 : Nat) []).set (0 : Nat) a.snd.fst).set (1 : Nat) b.snd.fst).flatten = srt (a.snd.fst ++ b.snd.fst)) ∧ (True ∧ True ∧ True) ∧ True) ∧ True) ∧ True) ∧ True ∧ True) ∧ True ∧ True ∧ True) ∧ True ∧ True ∧ True ∧ True) ∧ True ∧ True) ∧ True ∧ True ∧ True ∧ ((SV.pv (tB) (0 : Nat) ([] ++ [(0 : Nat)]) = SV.pv (tB) (0 : Nat) ([] ++ [(0 : Nat)]) ∧ a.fst = a.fst ∧ SV.pv (tB) (1 : Nat) ([] ++ [(0 : Nat)]) = SV.pv (tB) (1 : Nat) ([] ++ [(0 : Nat)]) ∧ b.fst = b.fst ∧ ((List.replicate (2 : Nat) []).set (0 : Nat) a.fst).set (1 : Nat) b.fst = ((List.replicate (2 : Nat) []).set (0 : Nat) a.fst).set (1 : Nat) b.fst ∧ SV.pv (tB) (0 : Nat) ([] ++ [(1 : Nat)]) = SV.pv (tB) (0 : Nat) ([] ++ [(1 : Nat)]) ∧ a.snd.fst = a.snd.fst ∧ SV.pv (tB) (1 : Nat) ([] ++ [(1 : Nat)]) = SV.pv (tB) (1 : Nat) ([] ++ [(1 : Nat)]) ∧ b.snd.fst = b.snd.fst ∧ ((List.replicate (2 : Nat) []).set (0 : Nat) a.snd.fst).set (1 : Nat) b.snd.fst = ((List.replicate (2 : Nat) []).set (0 : Nat) a.snd.fst).set (1 : Nat) b.snd.fst ∧ True) ∧ (sumL (((List.replicate (2 : Nat) []).set (0 : Nat) a.fst).set (1 : Nat) b.fst) (((List.replicate (2 : Nat) []).set (0 : Nat) a.fst).set (1 : Nat) b.fst).length ≤ (1000000000 : Nat) ∧ (SV.pv (tB) (0 : Nat) ([] ++ [(1 : Nat)]) = SV.pv (tB) (0 : Nat) ([] ++ [(1 : Nat)]) ∧ a.snd.fst = a.snd.fst ∧ SV.pv (tB) (1 : Nat) ([] ++ [(1 : Nat)]) = SV.pv (tB) (1 : Nat) ([] ++ [(1 : Nat)]) ∧ b.snd.fst = b.snd.fst ∧ ((List.replicate (2 : Nat) []).set (0 : Nat) a.snd.fst).set (1 : Nat) b.snd.fst = ((List.replicate (2 : Nat) []).set (0 : Nat) a.snd.fst).set (1 : Nat) b.snd.fst ∧ True) ∧ ((((List.replicate (2 : Nat) []).set (0 : Nat) a.fst).set (1 : Nat) b.fst).flatten.length ≤ (1000000000 : Nat) ∧ (SV.pv (tB) (0 : Nat) ([] ++ [(1 : Nat)]) = SV.pv (tB) (0 : Nat) ([] ++ [(1 : Nat)]) ∧ a.snd.fst = a.snd.fst ∧ SV.pv (tB) (1 : Nat) ([] ++ [(1 : Nat)]) = SV.pv (tB) (1 : Nat) ([] ++ [(1 : Nat)]) ∧ b.snd.fst = b.snd.fst ∧ ((List.replicate (2 : Nat) []).set (0 : Nat) a.snd.fst).set (1 : Nat) b.snd.fst = ((List.replicate (2 : Nat) []).set (0 : Nat) a.snd.fst).set (1 : Nat) b.snd.fst ∧ True) ∧ (sumL (((List.replicate (2 : Nat) []).set (0 : Nat) a.snd.fst).set (1 : Nat) b.snd.fst) (((List.replicate (2 : Nat) []).set (0 : Nat) a.snd.fst).set (1 : Nat) b.snd.fst).length ≤ (1000000000 : Nat) ∧ True ∧ ((((List.replicate (2 : Nat) []).set (0 : Nat) a.snd.fst).set (1 : Nat) b.snd.fst).flatten.length ≤ (1000000000 : Nat) ∧ True ∧ (True ∧ ∃ (x : Unit), (chkB a = (0 : Int) ∧ chkB b = (0 : Int)) ∧ (True ∧ True ∧ True) ∧ ((True ∧ True ∧ True) ∧ ((65 : Nat) = (65 : Nat) ∧ srt (((List.replicate (2 : Nat) []).set (0 : Nat) a.fst).set (1 : Nat) b.fst).flatten = srt (a.fst ++ b.fst)) ∧ ((65 : Nat) = (65 : Nat) ∧ srt (((List.replicate (2 : Nat) []).set (0 : Nat) a.snd.fst).set (1 : Nat) b.snd.fst).flatten = srt (a.snd.fst ++ b.snd.fst)) ∧ (True ∧ True ∧ True) ∧ True) ∧ True) ∧ True) ∧ True ∧ True) ∧ True ∧ True ∧ True) ∧ True ∧ True ∧ True ∧ True) ∧ True ∧ True ∧ True ∧ True ∧ True) ∧ True ∧ True) ∧ ∀ (x : Unit), chkB a = (0 : Int) ∧ chkB b = (0 : Int) → (decide ((24 : Int) < (↑(srt (a.fst ++ b.fst)).length : Int)) = true → (4 : Int) ≠ (0 : Int) ∧ k [Dat.mk (tB) ([], [], ()), Dat.mk (Ty.err (66 : Nat)) (4 : Int)]) ∧ (decide ((24 : Int) < (↑(srt (a.fst ++ b.fst)).length : Int)) = false → k [Dat.mk (tB) (srt (a.fst ++ b.fst), srt (a.snd.fst ++ b.snd.fst), ()), Dat.mk (Ty.err (66 : Nat)) (0 : Int)])))) := by kernel_rfl
theorem vcElems (b : Bag) (k : List Dat → Prop) : vcF ⟨Eb, [(13, cCheck), (34, cHasT), (37, cHasI)], [], [], []⟩ (anElems b) (Try.f16.body.getD .skip) Try.f16.ntmps [(.tmp 2, .sl I), (.tmp 3, tErr)] [⟨tB, b⟩] k = (
  True ∧ ((!decide (chkB b = (0 : Int))) = true → k [Dat.mk (I).sl [], Dat.mk (Ty.err (66 : Nat)) (chkB b)]) ∧ ((!decide (chkB b = (0 : Int))) = false → (∃ (x : Nat), (x ≤ b.fst.length ∧ chkB b = (0 : Int)) ∧ (([] : List Nat) = [] ∧ True ∧ b.fst = b.fst ∧ (↑(List.length b.fst) : Int) = (↑(List.length b.fst) : Int) ∧ (0 : Int) = (↑x : Int) ∧ True) ∧ (((24 : Nat) = (24 : Nat) ∧ b = b) ∧ ((3 : Nat) = (3 : Nat) ∧ [] = elemsU b x) ∧ True) ∧ True) ∧ ∀ (x : Nat), x ≤ b.fst.length ∧ chkB b = (0 : Int) → (decide ((↑x : Int) < (↑(List.length b.fst) : Int)) = true → (0 : Int) ≤ (↑x : Int) ∧ (↑x : Int) < (↑(List.length b.fst) : Int) ∧ True ∧ ((!hasT b.snd.fst (List.getD b.fst (↑x : Int).toNat ((0 : Int), (0 : Int), (0 : Int), ()))) = true → True ∧ ((!hasI (elemsU b x) (List.getD b.fst (↑x : Int).toNat ((0 : Int), (0 : Int), (0 : Int), ())).fst) = true → (elemsU b x).length + ((List.replicate (1 : Nat) (0 : Int)).set (0 : Nat) (List.getD b.fst (↑x : Int).toNat ((0 : Int), (0 : Int), (0 : Int), ())).fst).length ≤ (1000000000 : Nat) ∧ inK IntKind.i64 ((↑x : Int) + (1 : Int)) ∧ ∃ (x_1 : Nat), (x_1 ≤ b.fst.length ∧ chkB b = (0 : Int)) ∧ b.fst.length - x_1 < b.fst.length - x ∧ (([] : List Nat) = [] ∧ True ∧ b.fst = b.fst ∧ (↑(List.length b.fst) : Int) = (↑(List.length b.fst) : Int) ∧ (↑x : Int) + (1 : Int) = (↑x_1 : Int) ∧ True) ∧ (((24 : Nat) = (24 : Nat) ∧ b = b) ∧ ((3 : Nat) = (3 : Nat) ∧ (elemsU b x).append ((List.replicate (1 : Nat) (0 : Int)).set (0 : Nat) (List.getD b.fst (↑x : Int).toNat ((0 : Int), (0 : Int), (0 : Int), ())).fst) = elemsU b x_1) ∧ True) ∧ True) ∧ ((!hasI (elemsU b x) (List.getD b.fst (↑x : Int).toNat ((0 : Int), (0 : Int), (0 : Int), ())).fst) = false → inK IntKind.i64 ((↑x : Int) + (1 : Int)) ∧ ∃ (x_1 : Nat), (x_1 ≤ b.fst.length ∧ chkB b = (0 : Int)) ∧ b.fst.length - x_1 < b.fst.length - x ∧ (([] : List Nat) = [] ∧ True ∧ b.fst = b.fst ∧ (↑(List.length b.fst) : Int) = (↑(List.length b.fst) : Int) ∧ (↑x : Int) + (1 : Int) = (↑x_1 : Int) ∧ True) ∧ (((24 : Nat) = (24 : Nat) ∧ b = b) ∧ ((3 : Nat) = (3 : Nat) ∧ elemsU b x = elemsU b x_1) ∧ True) ∧ True)) ∧ ((!hasT b.snd.fst (List.getD b.fst (↑x : Int).toNat ((0 : Int), (0 : Int), (0 : Int), ()))) = false → inK IntKind.i64 ((↑x : Int) + (1 : Int)) ∧ ∃ (x_1 : Nat), (x_1 ≤ b.fst.length ∧ chkB b = (0 : Int)) ∧ b.fst.length - x_1 < b.fst.length - x ∧ (([] : List Nat) = [] ∧ True ∧ b.fst = b.fst ∧ (↑(List.length b.fst) : Int) = (↑(List.length b.fst) : Int) ∧ (↑x : Int) + (1 : Int) = (↑x_1 : Int) ∧ True) ∧ (((24 : Nat) = (24 : Nat) ∧ b = b) ∧ ((3 : Nat) = (3 : Nat) ∧ elemsU b x = elemsU b x_1) ∧ True) ∧ True)) ∧ (decide ((↑x : Int) < (↑(List.length b.fst) : Int)) = false → k [Dat.mk (I).sl (elemsU b x), Dat.mk (Ty.err (66 : Nat)) (0 : Int)]))) := by kernel_rfl
theorem vcUp (v : List Int) (n : Int) (k : List Dat → Prop) : vcF ⟨Eb, [(38, cCounts), (35, cWithin)], [], [], [(39, oCloneI)]⟩ [joinAll] (Try.f20.body.getD .skip) Try.f20.ntmps [(.tmp 4, .sl I), (.tmp 5, tErr)] [⟨.sl I, v⟩, ⟨I, n⟩] k = (
  True ∧ ((!decide (cntE v = (0 : Int))) = true → k [Dat.mk (I).sl [], Dat.mk (Ty.err (66 : Nat)) (cntE v)]) ∧ ((!decide (cntE v = (0 : Int))) = false → inK IntKind.i64 ((↑v.length : Int) - (1 : Int)) ∧ True ∧ ((!inB n (0 : Int) ((↑v.length : Int) - (1 : Int))) = true → (1 : Int) ≠ (0 : Int) ∧ k [Dat.mk (I).sl [], Dat.mk (Ty.err (66 : Nat)) (1 : Int)]) ∧ ((!inB n (0 : Int) ((↑v.length : Int) - (1 : Int))) = false → (0 : Int) ≤ n ∧ n < (↑v.length : Int) ∧ (decide (v.getD n.toNat (0 : Int) = (1000000 : Int)) = true → (4 : Int) ≠ (0 : Int) ∧ k [Dat.mk (I).sl [], Dat.mk (Ty.err (66 : Nat)) (4 : Int)]) ∧ (decide (v.getD n.toNat (0 : Int) = (1000000 : Int)) = false → v.length ≤ (1000000000 : Nat) ∧ (0 : Int) ≤ n ∧ n < (↑v.length : Int) ∧ inK IntKind.i64 (v.getD n.toNat (0 : Int) + (1 : Int)) ∧ (0 : Int) ≤ n ∧ n < (↑v.length : Int) ∧ k [Dat.mk (I).sl (v.set n.toNat (v.getD n.toNat (0 : Int) + (1 : Int))), Dat.mk (Ty.err (66 : Nat)) (0 : Int)])))) := by kernel_rfl
theorem vcMost (v w : List Int) (k : List Dat → Prop) : vcF ⟨Eb, [(38, cCounts)], [], [], [(39, oCloneI)]⟩ (anMost v w) (Try.f18.body.getD .skip) Try.f18.ntmps [(.tmp 4, .sl I), (.tmp 5, tErr)] [⟨.sl I, v⟩, ⟨.sl I, w⟩] k = (
  True ∧ ((!decide (cntE v = (0 : Int))) = true → k [Dat.mk (I).sl [], Dat.mk (Ty.err (66 : Nat)) (cntE v)]) ∧ ((!decide (cntE v = (0 : Int))) = false → True ∧ ((!decide (cntE w = (0 : Int))) = true → k [Dat.mk (I).sl [], Dat.mk (Ty.err (66 : Nat)) (cntE w)]) ∧ ((!decide (cntE w = (0 : Int))) = false → ((!decide ((↑v.length : Int) = (↑w.length : Int))) = true → (3 : Int) ≠ (0 : Int) ∧ k [Dat.mk (I).sl [], Dat.mk (Ty.err (66 : Nat)) (3 : Int)]) ∧ ((!decide ((↑v.length : Int) = (↑w.length : Int))) = false → v.length ≤ (1000000000 : Nat) ∧ (∃ (x : Nat), (x ≤ w.length ∧ mostE v w = (0 : Int)) ∧ (True ∧ w = w ∧ (↑w.length : Int) = (↑w.length : Int) ∧ (0 : Int) = (↑x : Int) ∧ True) ∧ (((3 : Nat) = (3 : Nat) ∧ v = mostU v w x) ∧ True) ∧ True) ∧ ∀ (x : Nat), x ≤ w.length ∧ mostE v w = (0 : Int) → (decide ((↑x : Int) < (↑w.length : Int)) = true → (0 : Int) ≤ (↑x : Int) ∧ (↑x : Int) < (↑w.length : Int) ∧ (0 : Int) ≤ (↑x : Int) ∧ (↑x : Int) < (↑(mostU v w x).length : Int) ∧ (0 : Int) ≤ (↑x : Int) ∧ (↑x : Int) < (↑(mostU v w x).length : Int) ∧ inK IntKind.i64 ((↑x : Int) + (1 : Int)) ∧ ∃ (x_1 : Nat), (x_1 ≤ w.length ∧ mostE v w = (0 : Int)) ∧ w.length - x_1 < w.length - x ∧ (True ∧ w = w ∧ (↑w.length : Int) = (↑w.length : Int) ∧ (↑x : Int) + (1 : Int) = (↑x_1 : Int) ∧ True) ∧ (((3 : Nat) = (3 : Nat) ∧ (mostU v w x).set (↑x : Int).toNat (max ((mostU v w x).getD (↑x : Int).toNat (0 : Int)) (w.getD (↑x : Int).toNat (0 : Int))) = mostU v w x_1) ∧ True) ∧ True) ∧ (decide ((↑x : Int) < (↑w.length : Int)) = false → k [Dat.mk (I).sl (mostU v w x), Dat.mk (Ty.err (66 : Nat)) (0 : Int)]))))) := by kernel_rfl
end Go.Proofs.Ytgcliogognkdkaa

/- slices.SortFunc at tags and at values, and all that it reaches, as this program bears them: the shelf's structure, filled by program. -/
namespace Go.Proofs.Ytgcliogognkdkaa
open Go.Shelf Go.Proofs
def laidSortT_ren : Go.Shelf.Ren := ⟨fun | 6 => 47 | 15 => 55 | 14 => 57 | 28 => 67 | 29 => 68 | 20 => 69 | 21 => 70 | 22 => 71 | 23 => 72 | 24 => 73 | 25 => 74 | 26 => 75 | 27 => 76 | 46 => 82 | 47 => 78 | 48 => 79 | 49 => 83 | 50 => 84 | 57 => 86 | n => n, fun | 22 => 22 | 24 => 65 | 25 => 85 | 3 => 3 | 39 => 94 | 0 => 0 | 53 => 107 | 55 => 109 | 4 => 4 | 46 => 100 | 45 => 99 | 50 => 104 | 5 => 5 | 9 => 9 | 66 => 115 | 70 => 119 | 76 => 123 | 77 => 124 | n => n, fun | n => n⟩
theorem laidSortT : Go.Proofs.SlLaysF0.n6 Try.prog laidSortT_ren where
  mixed := by kernel_rfl
  f6 := ⟨ "slices.SortFunc[[]whenstead/api.Tag,whenstead/api.Tag]", by decide, Try.func47.trans (congrArg some (by kernel_rfl))⟩
  f14 := ⟨ "slices.pdqsortCmpFunc[whenstead/api.Tag]", by decide, Try.func57.trans (congrArg some (by kernel_rfl))⟩
  f15 := Try.func55.trans (congrArg some (by kernel_rfl))
  f20 := ⟨ "slices.insertionSortCmpFunc[whenstead/api.Tag]", by decide, Try.func69.trans (congrArg some (by kernel_rfl))⟩
  f21 := ⟨ "slices.heapSortCmpFunc[whenstead/api.Tag]", by decide, Try.func70.trans (congrArg some (by kernel_rfl))⟩
  f22 := ⟨ "slices.breakPatternsCmpFunc[whenstead/api.Tag]", by decide, Try.func71.trans (congrArg some (by kernel_rfl))⟩
  f23 := ⟨ "slices.choosePivotCmpFunc[whenstead/api.Tag]", by decide, Try.func72.trans (congrArg some (by kernel_rfl))⟩
  f24 := ⟨ "slices.reverseRangeCmpFunc[whenstead/api.Tag]", by decide, Try.func73.trans (congrArg some (by kernel_rfl))⟩
  f25 := ⟨ "slices.partialInsertionSortCmpFunc[whenstead/api.Tag]", by decide, Try.func74.trans (congrArg some (by kernel_rfl))⟩
  f26 := ⟨ "slices.partitionEqualCmpFunc[whenstead/api.Tag]", by decide, Try.func75.trans (congrArg some (by kernel_rfl))⟩
  f27 := ⟨ "slices.partitionCmpFunc[whenstead/api.Tag]", by decide, Try.func76.trans (congrArg some (by kernel_rfl))⟩
  f28 := Try.func67.trans (congrArg some (by kernel_rfl))
  f29 := Try.func68.trans (congrArg some (by kernel_rfl))
  f46 := ⟨ "slices.siftDownCmpFunc[whenstead/api.Tag]", by decide, Try.func82.trans (congrArg some (by kernel_rfl))⟩
  f47 := Try.func78.trans (congrArg some (by kernel_rfl))
  f48 := Try.func79.trans (congrArg some (by kernel_rfl))
  f49 := ⟨ "slices.medianAdjacentCmpFunc[whenstead/api.Tag]", by decide, Try.func83.trans (congrArg some (by kernel_rfl))⟩
  f50 := ⟨ "slices.medianCmpFunc[whenstead/api.Tag]", by decide, Try.func84.trans (congrArg some (by kernel_rfl))⟩
  f57 := ⟨ "slices.order2CmpFunc[whenstead/api.Tag]", by decide, Try.func86.trans (congrArg some (by kernel_rfl))⟩
  t0 := Try.underlying0
  a0 := Try.isAgg0
  z0 := Try.sizeOf0
  v0 := Try.zeroValue0
  t3 := Try.underlying3
  a3 := Try.isAgg3
  z3 := Try.sizeOf3
  v3 := Try.zeroValue3
  t4 := Try.underlying4
  a4 := Try.isAgg4
  z4 := Try.sizeOf4
  v4 := Try.zeroValue4
  t5 := Try.underlying5
  a5 := Try.isAgg5
  z5 := Try.sizeOf5
  v5 := Try.zeroValue5
  t9 := Try.underlying9
  a9 := Try.isAgg9
  z9 := Try.sizeOf9
  v9 := Try.zeroValue9
  t22 := Try.underlying22
  a22 := Try.isAgg22
  z22 := Try.sizeOf22
  v22 := Try.zeroValue22
  t25 := Try.underlying85
  a25 := Try.isAgg85
  z25 := Try.sizeOf85
  v25 := Try.zeroValue85
  t39 := Try.underlying94
  a39 := Try.isAgg94
  z39 := Try.sizeOf94
  v39 := Try.zeroValue94
  t45 := Try.underlying99
  a45 := Try.isAgg99
  z45 := Try.sizeOf99
  v45 := Try.zeroValue99
  t46 := Try.underlying100
  a46 := Try.isAgg100
  z46 := Try.sizeOf100
  v46 := Try.zeroValue100
  t50 := Try.underlying104
  a50 := Try.isAgg104
  z50 := Try.sizeOf104
  v50 := Try.zeroValue104
  t53 := Try.underlying107
  a53 := Try.isAgg107
  z53 := Try.sizeOf107
  v53 := Try.zeroValue107
  t55 := Try.underlying109
  a55 := Try.isAgg109
  z55 := Try.sizeOf109
  v55 := Try.zeroValue109
  t66 := Try.underlying115
  a66 := Try.isAgg115
  z66 := Try.sizeOf115
  v66 := Try.zeroValue115
  t70 := Try.underlying119
  a70 := Try.isAgg119
  z70 := Try.sizeOf119
  v70 := Try.zeroValue119
  t76 := Try.underlying123
  a76 := Try.isAgg123
  z76 := Try.sizeOf123
  v76 := Try.zeroValue123
  t77 := Try.underlying124
  a77 := Try.isAgg124
  z77 := Try.sizeOf124
  v77 := Try.zeroValue124
def laidSortV_ren : Go.Shelf.Ren := ⟨fun | 6 => 43 | 15 => 55 | 14 => 54 | 28 => 67 | 29 => 68 | 20 => 59 | 21 => 60 | 22 => 61 | 23 => 62 | 24 => 63 | 25 => 64 | 26 => 65 | 27 => 66 | 46 => 77 | 47 => 78 | 48 => 79 | 49 => 80 | 50 => 81 | 57 => 85 | n => n, fun | 22 => 49 | 24 => 52 | 25 => 83 | 3 => 3 | 39 => 94 | 0 => 0 | 53 => 107 | 55 => 109 | 4 => 4 | 46 => 100 | 45 => 99 | 50 => 104 | 5 => 5 | 9 => 9 | 66 => 115 | 70 => 119 | 76 => 123 | 77 => 124 | n => n, fun | n => n⟩
theorem laidSortV : Go.Proofs.SlLaysF0.n6 Try.prog laidSortV_ren where
  mixed := by kernel_rfl
  f6 := ⟨ "slices.SortFunc[[]whenstead/api.Value,whenstead/api.Value]", by decide, Try.func43.trans (congrArg some (by kernel_rfl))⟩
  f14 := ⟨ "slices.pdqsortCmpFunc[whenstead/api.Value]", by decide, Try.func54.trans (congrArg some (by kernel_rfl))⟩
  f15 := Try.func55.trans (congrArg some (by kernel_rfl))
  f20 := ⟨ "slices.insertionSortCmpFunc[whenstead/api.Value]", by decide, Try.func59.trans (congrArg some (by kernel_rfl))⟩
  f21 := ⟨ "slices.heapSortCmpFunc[whenstead/api.Value]", by decide, Try.func60.trans (congrArg some (by kernel_rfl))⟩
  f22 := ⟨ "slices.breakPatternsCmpFunc[whenstead/api.Value]", by decide, Try.func61.trans (congrArg some (by kernel_rfl))⟩
  f23 := ⟨ "slices.choosePivotCmpFunc[whenstead/api.Value]", by decide, Try.func62.trans (congrArg some (by kernel_rfl))⟩
  f24 := ⟨ "slices.reverseRangeCmpFunc[whenstead/api.Value]", by decide, Try.func63.trans (congrArg some (by kernel_rfl))⟩
  f25 := ⟨ "slices.partialInsertionSortCmpFunc[whenstead/api.Value]", by decide, Try.func64.trans (congrArg some (by kernel_rfl))⟩
  f26 := ⟨ "slices.partitionEqualCmpFunc[whenstead/api.Value]", by decide, Try.func65.trans (congrArg some (by kernel_rfl))⟩
  f27 := ⟨ "slices.partitionCmpFunc[whenstead/api.Value]", by decide, Try.func66.trans (congrArg some (by kernel_rfl))⟩
  f28 := Try.func67.trans (congrArg some (by kernel_rfl))
  f29 := Try.func68.trans (congrArg some (by kernel_rfl))
  f46 := ⟨ "slices.siftDownCmpFunc[whenstead/api.Value]", by decide, Try.func77.trans (congrArg some (by kernel_rfl))⟩
  f47 := Try.func78.trans (congrArg some (by kernel_rfl))
  f48 := Try.func79.trans (congrArg some (by kernel_rfl))
  f49 := ⟨ "slices.medianAdjacentCmpFunc[whenstead/api.Value]", by decide, Try.func80.trans (congrArg some (by kernel_rfl))⟩
  f50 := ⟨ "slices.medianCmpFunc[whenstead/api.Value]", by decide, Try.func81.trans (congrArg some (by kernel_rfl))⟩
  f57 := ⟨ "slices.order2CmpFunc[whenstead/api.Value]", by decide, Try.func85.trans (congrArg some (by kernel_rfl))⟩
  t0 := Try.underlying0
  a0 := Try.isAgg0
  z0 := Try.sizeOf0
  v0 := Try.zeroValue0
  t3 := Try.underlying3
  a3 := Try.isAgg3
  z3 := Try.sizeOf3
  v3 := Try.zeroValue3
  t4 := Try.underlying4
  a4 := Try.isAgg4
  z4 := Try.sizeOf4
  v4 := Try.zeroValue4
  t5 := Try.underlying5
  a5 := Try.isAgg5
  z5 := Try.sizeOf5
  v5 := Try.zeroValue5
  t9 := Try.underlying9
  a9 := Try.isAgg9
  z9 := Try.sizeOf9
  v9 := Try.zeroValue9
  t22 := Try.underlying49
  a22 := Try.isAgg49
  z22 := Try.sizeOf49
  v22 := Try.zeroValue49
  t25 := Try.underlying83
  a25 := Try.isAgg83
  z25 := Try.sizeOf83
  v25 := Try.zeroValue83
  t39 := Try.underlying94
  a39 := Try.isAgg94
  z39 := Try.sizeOf94
  v39 := Try.zeroValue94
  t45 := Try.underlying99
  a45 := Try.isAgg99
  z45 := Try.sizeOf99
  v45 := Try.zeroValue99
  t46 := Try.underlying100
  a46 := Try.isAgg100
  z46 := Try.sizeOf100
  v46 := Try.zeroValue100
  t50 := Try.underlying104
  a50 := Try.isAgg104
  z50 := Try.sizeOf104
  v50 := Try.zeroValue104
  t53 := Try.underlying107
  a53 := Try.isAgg107
  z53 := Try.sizeOf107
  v53 := Try.zeroValue107
  t55 := Try.underlying109
  a55 := Try.isAgg109
  z55 := Try.sizeOf109
  v55 := Try.zeroValue109
  t66 := Try.underlying115
  a66 := Try.isAgg115
  z66 := Try.sizeOf115
  v66 := Try.zeroValue115
  t70 := Try.underlying119
  a70 := Try.isAgg119
  z70 := Try.sizeOf119
  v70 := Try.zeroValue119
  t76 := Try.underlying123
  a76 := Try.isAgg123
  z76 := Try.sizeOf123
  v76 := Try.zeroValue123
  t77 := Try.underlying124
  a77 := Try.isAgg124
  z77 := Try.sizeOf124
  v77 := Try.zeroValue124
end Go.Proofs.Ytgcliogognkdkaa

/- Bags: rows sorted, doubles struck. -/
namespace Go.Proofs.Ytgcliogognkdkaa
open Go.Vc

theorem getD_set_of {α : Type} (l : List α) (i j : Nat) (x d : α) (h : i ≠ j) : (l.set i x).getD j d = l.getD j d := by
  rw [List.getD_eq_getElem?_getD, List.getD_eq_getElem?_getD, List.getElem?_set_ne h]
theorem take_set_snoc {α : Type} (l : List α) (i : Nat) (x : α) (h : i < l.length) : (l.set i x).take (i + 1) = l.take i ++ [x] := by
  rw [List.take_succ_eq_append_getElem (by simpa using h), List.take_set_of_le (Nat.le_refl _)]
  simp

theorem compact_vc (xs : List Tag) (hl : xs.length ≤ 1000000000) (k : SV → List Ob → Prop) (h1 : cpt xs = xs → k (.os 0) [.row 65 tT xs]) (h2 : k (.os 1) [.dead, .row 65 tT (cpt xs)]) :
    vcO ⟨Eb, [], [], [], []⟩ (anCompact xs) (Try.f49.body.getD .skip) Try.f49.ntmps [(.tmp 2, .un)] [.os 0] [.row 65 tT xs] k := by
  rw [vcCompact]
  simp only [decide_eq_true_eq, decide_eq_false_iff_not, true_and, and_true, Bool.not_eq_true', Bool.not_eq_false', Int.toNat_natCast, inK_i64, tag_eqB]
  have z : ∀ (l : List Tag) (i : Nat), l.getD i ((0 : Int), (0 : Int), (0 : Int), ()) = l.getD i tag0 := fun _ _ => rfl
  refine ⟨fun h => h1 ?_, fun h => ⟨⟨1, ⟨Nat.le_refl _, by omega, by omega, ?_⟩, rfl⟩, fun x ⟨a1, a2, a3, a4⟩ => ⟨fun hlt => ?_, fun hge => h1 ?_⟩⟩⟩
  · match xs, h with
    | [], _ => rfl
    | [x], _ => rfl
    | x :: y :: l, h => simp only [List.length_cons] at h; omega
  · match xs, h with
    | [], _ => rfl
    | x :: l, _ => rfl
  · have hxl : x < xs.length := by omega
    have e1 : ((x : Int) - 1).toNat = x - 1 := by omega
    have hst := cpt_step a1 hxl
    simp only [e1, z]
    refine ⟨⟨by omega, hlt, by omega, by omega, by omega⟩, fun he => ⟨⟨by omega, hlt⟩, ⟨(x, 1, x, xs), ⟨a1, Nat.le_refl _, hxl, Nat.lt_succ_self _, rfl, ?_, fun _ _ => rfl⟩, ⟨rfl, rfl, rfl⟩, rfl⟩, ?_⟩, fun hne => ⟨by omega, x + 1, ⟨by omega, by omega, a3, ?_⟩, by omega, by omega⟩⟩
    · show xs.take x = cpt (xs.take (x + 1))
      rw [hst, if_pos he.symm, a4]
    · rintro ⟨p, j, m, cur⟩ ⟨b1, b2, b3, b4, b5, b6, b7⟩
      dsimp only at b1 b2 b3 b4 b5 b6 b7 ⊢
      have e2 : ((j : Int) - 1).toNat = j - 1 := by omega
      simp only [e2, b5]
      refine ⟨fun hj => ?_, fun hj => ?_⟩
      · have hpj : p + j < xs.length := by omega
        have c1 : cur.getD (p + j) tag0 = xs.getD (p + j) tag0 := b7 _ (by omega)
        have c2 : cur.getD (p + (j - 1)) tag0 = xs.getD (p + j - 1) tag0 := by rw [show p + (j - 1) = p + j - 1 by omega]; exact b7 _ (Nat.le_refl _)
        have hs2 := cpt_step (l := xs) (n := p + j) (by omega) hpj
        rw [c1, c2]
        refine ⟨⟨by omega, by omega, by omega, by omega, by omega⟩, fun hne => ⟨by omega, by omega, by omega, by omega, by omega, by omega, (p, j + 1, m + 1, cur.set m (xs.getD (p + j) tag0)), ⟨b1, by show 1 ≤ j + 1; omega, by show p + (j + 1) ≤ _; omega, by show m + 1 < p + (j + 1); omega, by show (cur.set m _).length = _; rw [List.length_set]; exact b5, ?_, ?_⟩, by show xs.length - (j + 1) < _; omega, ⟨rfl, rfl, rfl⟩, rfl⟩, fun he => ⟨by omega, (p, j + 1, m, cur), ⟨b1, by show 1 ≤ j + 1; omega, by show p + (j + 1) ≤ _; omega, by show m < p + (j + 1); omega, b5, ?_, fun q hq => b7 q (by have hq : p + (j + 1) - 1 ≤ q := hq; omega)⟩, by show xs.length - (j + 1) < _; omega, ⟨rfl, rfl, rfl⟩, rfl⟩⟩
        · show (cur.set m _).take (m + 1) = cpt (xs.take (p + j + 1))
          rw [take_set_snoc _ _ _ (by omega), b6, hs2, if_neg (fun e => hne e.symm)]
        · intro q hq
          have hq : p + (j + 1) - 1 ≤ q := hq
          show (cur.set m _).getD q tag0 = _
          rw [getD_set_of _ _ _ _ _ (by omega)]
          exact b7 q (by omega)
        · show cur.take m = cpt (xs.take (p + j + 1))
          rw [b6, hs2, if_pos he.symm]
      · have hpj : p + j = xs.length := by omega
        have e3 : cur.take m = cpt xs := by rw [b6, hpj, List.take_length]
        have hlm : (cur.take m).length = m := by rw [List.length_take]; omega
        refine ⟨⟨by omega, by omega⟩, ⟨by omega, ?_⟩, ?_⟩
        · rw [List.length_append, hlm]; omega
        · rw [List.take_append_of_le_length (by omega), List.take_of_length_le (by omega), e3]; exact h2
    · rw [hst, if_neg (fun e => hne e.symm), a4, List.take_succ_eq_append_getElem hxl, List.getD_eq_getElem?_getD, List.getElem?_eq_getElem hxl]; rfl
  · have : x = xs.length := by omega
    rw [this, List.take_length] at a4; exact a4

theorem ownCompact : OwnOk Try.prog [] 49 oCompact := by
  refine own_mv (oc := fun args ob k => ∃ xs : List Tag, args = [.os 0] ∧ ob = [.row 65 tT xs] ∧ xs.length ≤ 1000000000 ∧ (cpt xs = xs → k (.os 0) [.row 65 tT xs]) ∧ k (.os 1) [.dead, .row 65 tT (cpt xs)]) ?_ ?_
  · refine own_of (CxOk.mk' Eb_ok (by kernel_rfl) mixed (gl := []) GOk.nil GoOk.nil noIt) Try.func49 (c := Try.f49.body.getD .skip) (rvs := [(.tmp 2, .un)]) (by kernel_rfl) (by kernel_rfl) (by kernel_rfl) ?_
    rintro args ob k ⟨xs, rfl, rfl, hl, h1, h2⟩ hwa hwo
    exact ⟨anCompact xs, compact_vc xs hl k h1 h2⟩
  · intro args ob k h
    unfold oCompact at h
    split at h
    · rename_i xs
      refine ⟨by decide, xs, rfl, rfl, h.1, fun e => ⟨?_, by simp⟩, ?_, by simp⟩
      · have h2 := h.2; rw [e] at h2; exact h2
      · exact h.2
    · exact h.elim

theorem cmpT_swo : SWOn (β := Tag) (fun _ => True) cmpT := by
  refine ⟨fun x _ => ?_, fun x y z _ _ _ => ?_, fun x y z _ _ _ => ?_⟩ <;> simp only [cmpT_lt, ltT] <;> omega

theorem ownSortT : OwnOk Try.prog [] 47 oSortT := by
  refine own_sortK laidSortT (e := 65) (t := tT) rfl (by decide) Try.isAgg65 Try.sizeOf65 (g := 48) ⟨_, Try.func48, by kernel_rfl, by kernel_rfl⟩ (tc := .un) rfl (c := cByTag) (@okByTag ⟨true⟩)
    (va := fun _ _ => True) (cmp := fun _ x y => cmpT x y) ?_ ?_
  · rintro _ x y _ _ k hk
    exact ⟨trivial, hk⟩
  · intro args ob k h
    unfold oSortT at h
    split at h
    · rename_i u xs
      exact ⟨u, xs, rfl, rfl, fun _ _ => trivial, cmpT_swo, h.1, fun ys p q => h.2 ys ⟨p, q⟩⟩
    · exact h.elim

theorem ownSorted : OwnOk Try.prog [] 30 oSorted := by
  refine own_of (CxOk.mk' Eb_ok (by kernel_rfl) mixed (gl := []) GOk.nil (GoOk.cons ownSortT Try.func47 (by kernel_rfl) (by kernel_rfl) (GoOk.cons ownCompact Try.func49 (by kernel_rfl) (by kernel_rfl) GoOk.nil)) noIt) Try.func30 (c := Try.f30.body.getD .skip) (rvs := [(.tmp 2, .un)]) (by kernel_rfl) (by kernel_rfl) (by kernel_rfl) ?_
  intro args ob k h hwa hwo
  unfold oSorted at h
  split at h
  · rename_i xs
    refine ⟨[], ?_⟩
    rw [vcSorted]
    refine ⟨h.1, fun ys hys => ⟨by rw [hys.1.length_eq]; exact h.1, ?_⟩⟩
    rw [cpt_srt hys]; exact h.2
  · exact h.elim
end Go.Proofs.Ytgcliogognkdkaa

/- Bags and counters: what is added, dropped, joined, counted: the functions keep their contracts. -/
namespace Go.Proofs.Ytgcliogognkdkaa
open Go.Vc

theorem chk_parts {b : Bag} (h : chkB b = 0) : tagsE b.1 = 0 ∧ tagsE b.2.1 = 0 ∧ goneF b b.2.1.length 0 = 0 := by
  unfold chkB at h
  by_cases h1 : tagsE b.1 = 0
  · rw [if_pos h1] at h
    by_cases h2 : tagsE b.2.1 = 0
    · rw [if_pos h2] at h; exact ⟨h1, h2, h⟩
    · rw [if_neg h2] at h; exact absurd h h2
  · rw [if_neg h1] at h; exact absurd h h1
theorem tags_len {l : List Tag} (h : tagsE l = 0) : l.length ≤ 24 := by
  unfold tagsE at h
  by_cases h1 : 24 < l.length
  · rw [if_pos h1] at h; cases h
  · omega
theorem chk_len {b : Bag} (h : chkB b = 0) : b.1.length ≤ 24 ∧ b.2.1.length ≤ 24 := ⟨tags_len (chk_parts h).1, tags_len (chk_parts h).2.1⟩
theorem tagsF_all {l : List Tag} : ∀ (f i : Nat), tagsF l f i = 0 → ∀ j, i ≤ j → j < i + f → tagE l j = 0
  | 0, i, _, j, h1, h2 => by omega
  | f + 1, i, h, j, h1, h2 => by
    unfold tagsF at h
    by_cases he : tagE l i = 0
    · rw [if_pos he] at h
      by_cases hj : j = i
      · subst hj; exact he
      · exact tagsF_all f (i + 1) h j (by omega) (by omega)
    · rw [if_neg he] at h; exact absurd h he
theorem tags_all {l : List Tag} (h : tagsE l = 0) : ∀ j, j < l.length → tagIn (l.getD j tag0) = true ∧ (0 < j → ltT (l.getD (j - 1) tag0) (l.getD j tag0)) := by
  intro j hj
  have hl := tags_len h
  have h1 : tagsF l l.length 0 = 0 := by unfold tagsE at h; rw [if_neg (by omega)] at h; exact h
  have := tagsF_all l.length 0 h1 j (Nat.zero_le _) (by omega)
  unfold tagE at this
  cases hq : tagIn (l.getD j tag0) with
  | false => rw [if_pos hq] at this; cases this
  | true =>
    rw [if_neg (by rw [hq]; decide)] at this
    refine ⟨rfl, fun h0 => ?_⟩
    cases Classical.em (0 ≤ cmpT (l.getD (j - 1) tag0) (l.getD j tag0)) with
    | inl h => rw [if_pos ⟨h0, h⟩] at this; cases this
    | inr h => exact cmpT_lt.1 (by omega)
theorem tagIn_iff {t : Tag} : tagIn t = true ↔ (0 ≤ t.1 ∧ t.1 ≤ 9) ∧ (0 ≤ t.2.1 ∧ t.2.1 ≤ 4) ∧ 1 ≤ t.2.2.1 ∧ t.2.2.1 ≤ 1000000 := by
  unfold tagIn inB
  simp only [Bool.and_eq_true, decide_eq_true_eq]
theorem maxC_in {l : List Tag} (h : tagsE l = 0) (node : Int) : ∀ i, i ≤ l.length → 0 ≤ maxC l node i ∧ maxC l node i ≤ 1000000
  | 0, _ => by simp [maxC]
  | i + 1, hi => by
    have := maxC_in h node i (by omega)
    have ht := tagIn_iff.1 (tags_all h i (by omega)).1
    unfold maxC
    split <;> omega

theorem add_vc (b : Bag) (e n : Int) (k : List Dat → Prop) (hk : k [⟨tB, addB b e n⟩, ⟨tErr, addE b e n⟩]) :
    vcF ⟨Ebw [6], [(13, cCheck), (35, cWithin)], [], [], [(36, oClone), (30, oSorted)]⟩ (anAdd b n) (Try.f14.body.getD .skip) Try.f14.ntmps [(.cell 6 24, tB), (.tmp 7, tErr)] [⟨tB, b⟩, ⟨I, e⟩, ⟨I, n⟩] k := by
  rw [vcAdd]
  have ret : ∀ x : Int, addE b e n = x → x ≠ 0 → k [⟨tB, bag0⟩, ⟨tErr, x⟩] := by
    rintro _ rfl h0
    have : addB b e n = bag0 := by unfold addB; rw [if_neg h0]
    rw [this] at hk; exact hk
  simp only [decide_eq_true_eq, decide_eq_false_iff_not, true_and, and_true, Bool.not_eq_true', Bool.not_eq_false', Int.toNat_natCast, inK_i64]
  refine ⟨fun h => ret _ (by unfold addE; rw [if_neg h]) h, fun h => ⟨fun h1 => ⟨by decide, ret _ ?_ (by decide)⟩, fun h1 => ⟨fun h2 => ⟨by decide, ret _ ?_ (by decide)⟩, fun h2 => ?_⟩⟩⟩
  · unfold addE; rw [if_pos h, h1]; rfl
  · unfold addE; rw [if_pos h, h1, h2]; rfl
  · obtain ⟨hl1, hl2⟩ := chk_len h
    have hin : (inB e 0 9 && inB n 0 4) = true := by rw [h1, h2]; rfl
    have hcm := maxC_in (chk_parts h).1 n
    refine ⟨⟨0, ⟨Nat.zero_le _, h⟩, rfl, rfl⟩, fun x ⟨hx, _⟩ => ⟨fun hlt => ⟨by omega, hlt, fun he => ?_, fun hne => ?_⟩, fun hge => ?_⟩⟩
    · refine ⟨by omega, x + 1, ⟨by omega, h⟩, by omega, ?_, by omega⟩
      rw [maxC, if_pos (show (b.1.getD x tag0).2.1 = n from he)]; rfl
    · refine ⟨by omega, x + 1, ⟨by omega, h⟩, by omega, ?_, by omega⟩
      rw [maxC, if_neg (show ¬ (b.1.getD x tag0).2.1 = n from hne)]
    · have hxe : x = b.1.length := by omega
      subst hxe
      have hc := hcm b.1.length (Nat.le_refl _)
      refine ⟨fun h24 => ⟨by decide, ret _ ?_ (by decide)⟩, fun h24 => ⟨fun hm => ⟨by decide, ret _ ?_ (by decide)⟩, fun hm => ?_⟩⟩
      · unfold addE; rw [if_pos h, if_pos hin, if_pos (.inl (by omega))]
      · unfold addE; rw [if_pos h, if_pos hin, if_pos (.inr hm)]
      · have hE : addE b e n = 0 := by unfold addE; rw [if_pos h, if_pos hin, if_neg (by rintro (c | c) <;> omega)]
        have hB : addB b e n = (srt (b.1 ++ [(e, n, maxC b.1 n b.1.length + 1, ())]), b.2.1, ()) := by unfold addB; rw [if_pos hE]
        rw [hE, hB] at hk
        have e1 : ((List.replicate 1 ((0 : Int), (0 : Int), (0 : Int), ())).set 0 (e, n, maxC b.1 n b.1.length + 1, ())) = [(e, n, maxC b.1 n b.1.length + 1, ())] := rfl
        rw [e1]
        have e2 : (List.append b.1 [(e, n, maxC b.1 n b.1.length + 1, ())]).length = b.1.length + 1 := by show (b.1 ++ _).length = _; simp
        rw [e2]
        refine ⟨by omega, by omega, by omega, by simp only [List.length_cons, List.length_nil]; omega, by omega, by omega, hk⟩

theorem okAdd : PlainOk Try.prog [] 14 cAdd := by
  refine plain_of (CxOk.mk' (Ebw_ok [6]) (by kernel_rfl) mixed (gl := []) (GOk.cons okCheck Try.func13 (by kernel_rfl) (by kernel_rfl) (GOk.cons okWithin Try.func35 (by kernel_rfl) (by kernel_rfl) GOk.nil)) (GoOk.cons ownClone Try.func36 (by kernel_rfl) (by kernel_rfl) (GoOk.cons ownSorted Try.func30 (by kernel_rfl) (by kernel_rfl) GoOk.nil)) noIt) Try.func14 (c := Try.f14.body.getD .skip) (rvs := [(.cell 6 24, tB), (.tmp 7, tErr)]) (by kernel_rfl) (by kernel_rfl) (by kernel_rfl) ?_
  intro ds k ⟨hp, hk⟩ hwf
  obtain ⟨b, e, n, rfl, -⟩ := dest3 hp
  exact ⟨anAdd b n, add_vc b e n k hk⟩

theorem ofE_len (l : List Tag) (e : Int) : (ofE l e).length ≤ l.length := List.length_filter_le _ _
theorem ofE_step (l : List Tag) (e : Int) {x : Nat} (h : x < l.length) : ofE (l.take (x + 1)) e = ofE (l.take x) e ++ (if (l.getD x tag0).1 = e then [l.getD x tag0] else []) := by
  unfold ofE
  rw [List.take_succ_eq_append_getElem h, List.filter_append, List.getD_eq_getElem?_getD, List.getElem?_eq_getElem h]
  congr 1
  by_cases hq : (l[x]).1 = e <;> simp [hq]

theorem drop_vc (b : Bag) (e : Int) (k : List Dat → Prop) (hk : k [⟨tB, dropB b e⟩, ⟨tErr, dropE b e⟩]) :
    vcF ⟨Ebw [4, 7], [(13, cCheck), (35, cWithin)], [], [], [(36, oClone), (30, oSorted)]⟩ (anDrop b e) (Try.f15.body.getD .skip) Try.f15.ntmps [(.cell 4 24, tB), (.tmp 5, tErr)] [⟨tB, b⟩, ⟨I, e⟩] k := by
  rw [vcDrop]
  have ret : ∀ x : Int, dropE b e = x → x ≠ 0 → k [⟨tB, bag0⟩, ⟨tErr, x⟩] := by
    rintro _ rfl h0
    have : dropB b e = bag0 := by unfold dropB; rw [if_neg h0]
    rw [this] at hk; exact hk
  simp only [decide_eq_true_eq, decide_eq_false_iff_not, true_and, and_true, Bool.not_eq_true', Bool.not_eq_false', Int.toNat_natCast, inK_i64]
  refine ⟨fun h => ret _ (by unfold dropE; rw [if_neg h]) h, fun h => ⟨fun h1 => ⟨by decide, ret _ ?_ (by decide)⟩, fun h1 => ?_⟩⟩
  · unfold dropE; rw [if_pos h, h1]; rfl
  · have hE : dropE b e = 0 := by unfold dropE; rw [if_pos h, if_pos h1]
    obtain ⟨hl1, hl2⟩ := chk_len h
    have g1 : List.length b.1 ≤ 1000000000 := by omega
    have g2 : List.length b.2.1 ≤ 1000000000 := by omega
    have hB : dropB b e = (b.1, srt (b.2.1 ++ ofE b.1 e), ()) := by unfold dropB; rw [if_pos hE]
    rw [hE, hB] at hk
    simp only [hE, g1, g2, true_and, and_true, exists_const, forall_const, eq_self, eqS]
    refine ⟨⟨0, Nat.zero_le _, rfl, (List.append_nil _).symm⟩, fun x hx => ⟨fun hlt => ⟨by omega, hlt, fun he => ?_, fun hne => ?_⟩, fun hge => ?_⟩⟩
    · have hxl : x < b.1.length := by omega
      have hst := ofE_step b.1 e hxl
      rw [if_pos (show (b.1.getD x tag0).1 = e from he)] at hst
      have e1 : ((List.replicate 1 ((0 : Int), (0 : Int), (0 : Int), ())).set 0 (List.getD b.1 x (0, 0, 0, ()))) = [b.1.getD x tag0] := rfl
      have h3 := ofE_len (b.1.take x) e
      rw [List.length_take] at h3
      refine ⟨by rw [e1, List.length_append]; simp only [List.length_cons, List.length_nil]; omega, by omega, x + 1, by omega, by omega, by omega, ?_⟩
      rw [e1, hst]
      show (b.2.1 ++ ofE (b.1.take x) e) ++ [b.1.getD x tag0] = _
      rw [List.append_assoc]
    · have hxl : x < b.1.length := by omega
      have hst := ofE_step b.1 e hxl
      rw [if_neg (show ¬ (b.1.getD x tag0).1 = e from hne), List.append_nil] at hst
      exact ⟨by omega, x + 1, by omega, by omega, by omega, by rw [hst]⟩
    · have hxe : x = b.1.length := by omega
      subst hxe
      have h3 := ofE_len (b.1.take b.1.length) e
      rw [List.length_take] at h3
      refine ⟨by rw [List.length_append]; omega, ?_⟩
      rw [List.take_length]; exact hk

theorem okDrop : PlainOk Try.prog [] 15 cDrop := by
  refine plain_of (CxOk.mk' (Ebw_ok [4, 7]) (by kernel_rfl) mixed (gl := []) (GOk.cons okCheck Try.func13 (by kernel_rfl) (by kernel_rfl) (GOk.cons okWithin Try.func35 (by kernel_rfl) (by kernel_rfl) GOk.nil)) (GoOk.cons ownClone Try.func36 (by kernel_rfl) (by kernel_rfl) (GoOk.cons ownSorted Try.func30 (by kernel_rfl) (by kernel_rfl) GoOk.nil)) noIt) Try.func15 (c := Try.f15.body.getD .skip) (rvs := [(.cell 4 24, tB), (.tmp 5, tErr)]) (by kernel_rfl) (by kernel_rfl) (by kernel_rfl) ?_
  intro ds k ⟨hp, hk⟩ hwf
  obtain ⟨b, e, rfl, -⟩ := dest2 hp
  exact ⟨anDrop b e, drop_vc b e k hk⟩

theorem join_vc (a b : Bag) (k : List Dat → Prop) (hk : k [⟨tB, joinB a b⟩, ⟨tErr, joinE a b⟩]) :
    vcF ⟨Ebw [4, 8], [(13, cCheck)], [], [], [(31, oConcat), (30, oSorted)]⟩ (anJoin a b) (Try.f11.body.getD .skip) Try.f11.ntmps [(.cell 4 24, tB), (.tmp 5, tErr)] [⟨tB, a⟩, ⟨tB, b⟩] k := by
  rw [vcJoin]
  have ret : ∀ x : Int, joinE a b = x → x ≠ 0 → k [⟨tB, bag0⟩, ⟨tErr, x⟩] := by
    rintro _ rfl h0
    have : joinB a b = bag0 := by unfold joinB; rw [if_neg h0]
    rw [this] at hk; exact hk
  have e1 : ∀ x y : List Tag, ((List.replicate 2 ([] : List Tag)).set 0 x).set 1 y = [x, y] := fun _ _ => rfl
  simp only [decide_eq_true_eq, decide_eq_false_iff_not, true_and, and_true, Bool.not_eq_true', Bool.not_eq_false', Int.toNat_natCast, inK_i64, e1]
  refine ⟨fun h => ret _ (by unfold joinE; rw [if_neg h]) h, fun h => ⟨fun h1 => ret _ (by unfold joinE; rw [if_pos h, if_neg h1]) h1, fun h1 => ?_⟩⟩
  obtain ⟨hl1, hl2⟩ := chk_len h
  obtain ⟨hl3, hl4⟩ := chk_len h1
  have f1 : [a.1, b.1].flatten = a.1 ++ b.1 := by simp
  have f2 : [a.2.1, b.2.1].flatten = a.2.1 ++ b.2.1 := by simp
  have s1 : sumL [a.1, b.1] [a.1, b.1].length ≤ 1000000000 := by unfold sumL; simp; omega
  have s2 : sumL [a.2.1, b.2.1] [a.2.1, b.2.1].length ≤ 1000000000 := by unfold sumL; simp; omega
  have g1 : (a.1 ++ b.1).length ≤ 1000000000 := by rw [List.length_append]; omega
  have g2 : (a.2.1 ++ b.2.1).length ≤ 1000000000 := by rw [List.length_append]; omega
  simp only [f1, f2, s1, s2, g1, g2, h, h1, true_and, and_true, exists_const, forall_const, eq_self, eqS, dite_true]
  refine ⟨fun h24 => ⟨by decide, ret _ ?_ (by decide)⟩, fun h24 => ?_⟩
  · unfold joinE; rw [if_pos h, if_pos h1, if_pos (by omega)]
  · have hE : joinE a b = 0 := by unfold joinE; rw [if_pos h, if_pos h1, if_neg (by omega)]
    have hB : joinB a b = (srt (a.1 ++ b.1), srt (a.2.1 ++ b.2.1), ()) := by unfold joinB; rw [if_pos hE]
    rw [hE, hB] at hk; exact hk

theorem okJoin : PlainOk Try.prog [] 11 cJoin := by
  refine plain_of (CxOk.mk' (Ebw_ok [4, 8]) (by kernel_rfl) mixed (gl := []) (GOk.cons okCheck Try.func13 (by kernel_rfl) (by kernel_rfl) GOk.nil) (GoOk.cons ownConcat Try.func31 (by kernel_rfl) (by kernel_rfl) (GoOk.cons ownSorted Try.func30 (by kernel_rfl) (by kernel_rfl) GoOk.nil)) noIt) Try.func11 (c := Try.f11.body.getD .skip) (rvs := [(.cell 4 24, tB), (.tmp 5, tErr)]) (by kernel_rfl) (by kernel_rfl) (by kernel_rfl) ?_
  intro ds k ⟨hp, hk⟩ hwf
  obtain ⟨a, b, rfl, -⟩ := dest2 hp
  exact ⟨anJoin a b, join_vc a b k hk⟩

theorem elemsU_len (b : Bag) : ∀ i, (elemsU b i).length ≤ i
  | 0 => Nat.le_refl _
  | i + 1 => by
    have := elemsU_len b i
    unfold elemsU
    split
    · rw [List.length_append]; simp; omega
    · omega
theorem elems_vc (b : Bag) (k : List Dat → Prop) (hk : k [⟨.sl I, elems b⟩, ⟨tErr, chkB b⟩]) :
    vcF ⟨Eb, [(13, cCheck), (34, cHasT), (37, cHasI)], [], [], []⟩ (anElems b) (Try.f16.body.getD .skip) Try.f16.ntmps [(.tmp 2, .sl I), (.tmp 3, tErr)] [⟨tB, b⟩] k := by
  rw [vcElems]
  simp only [decide_eq_true_eq, decide_eq_false_iff_not, true_and, and_true, Bool.not_eq_true', Bool.not_eq_false', Int.toNat_natCast, inK_i64]
  refine ⟨fun h => ?_, fun h => ?_⟩
  · have : elems b = [] := by unfold elems; rw [if_neg h]
    rw [this] at hk; exact hk
  · obtain ⟨hl1, hl2⟩ := chk_len h
    have hR : elems b = elemsU b b.1.length := by unfold elems; rw [if_pos h]
    rw [hR, h] at hk
    have e1 : ∀ y : Int, (List.replicate 1 (0 : Int)).set 0 y = [y] := fun _ => rfl
    simp only [h, and_true, e1]
    have ea : ∀ y : Int, ∀ l : List Int, List.append l [y] = l ++ [y] := fun _ _ => rfl
    simp only [ea]
    refine ⟨⟨0, Nat.zero_le _, rfl, rfl⟩, fun x hx => ⟨fun hlt => ?_, fun hge => ?_⟩⟩
    · have hxl : x < b.1.length := by omega
      have hn := elemsU_len b x
      refine ⟨by omega, hlt, fun h1 => ⟨fun h2 => ⟨by simp only [List.length_cons, List.length_nil]; omega, by omega, x + 1, by omega, by omega, by omega, ?_⟩, fun h2 => ⟨by omega, x + 1, by omega, by omega, by omega, ?_⟩⟩, fun h1 => ⟨by omega, x + 1, by omega, by omega, by omega, ?_⟩⟩
      · rw [elemsU, if_pos]; · rfl
        rw [show hasT b.2.1 (b.1.getD x tag0) = false from h1, show hasI (elemsU b x) (b.1.getD x tag0).1 = false from h2]; rfl
      · rw [elemsU, if_neg]
        rw [show hasI (elemsU b x) (b.1.getD x tag0).1 = true from h2]; simp
      · rw [elemsU, if_neg]
        rw [show hasT b.2.1 (b.1.getD x tag0) = true from h1]; simp
    · have hxe : x = b.1.length := by omega
      subst hxe; exact hk

theorem okElems : PlainOk Try.prog [] 16 cElems := by
  refine plain_of (CxOk.mk' Eb_ok (by kernel_rfl) mixed (gl := []) (GOk.cons okCheck Try.func13 (by kernel_rfl) (by kernel_rfl) (GOk.cons okHasT Try.func34 (by kernel_rfl) (by kernel_rfl) (GOk.cons okHasI Try.func37 (by kernel_rfl) (by kernel_rfl) GOk.nil))) GoOk.nil noIt) Try.func16 (c := Try.f16.body.getD .skip) (rvs := [(.tmp 2, .sl I), (.tmp 3, tErr)]) (by kernel_rfl) (by kernel_rfl) (by kernel_rfl) ?_
  intro ds k ⟨hp, hk⟩ hwf
  obtain ⟨b, rfl, -⟩ := dest1 hp
  exact ⟨anElems b, elems_vc b k hk⟩

theorem cnt_len {l : List Int} (h : cntE l = 0) : 1 ≤ l.length ∧ l.length ≤ 5 := by
  unfold cntE at h
  by_cases h1 : l.length = 0
  · rw [if_pos h1] at h; cases h
  · rw [if_neg h1] at h
    by_cases h2 : 5 < l.length
    · rw [if_pos h2] at h; cases h
    · omega
theorem cntF_all {l : List Int} : ∀ (f i : Nat), cntF l f i = 0 → ∀ j, i ≤ j → j < i + f → 0 ≤ l.getD j 0 ∧ l.getD j 0 ≤ 1000000
  | 0, i, _, j, h1, h2 => by omega
  | f + 1, i, h, j, h1, h2 => by
    unfold cntF at h
    by_cases he : inB (l.getD i 0) 0 1000000 = true
    · rw [if_pos he] at h
      by_cases hj : j = i
      · subst hj
        unfold inB at he
        simpa [Bool.and_eq_true] using he
      · exact cntF_all f (i + 1) h j (by omega) (by omega)
    · rw [if_neg he] at h; cases h
theorem cnt_all {l : List Int} (h : cntE l = 0) : ∀ j, j < l.length → 0 ≤ l.getD j 0 ∧ l.getD j 0 ≤ 1000000 := by
  intro j hj
  have := cnt_len h
  have h1 : cntF l l.length 0 = 0 := by unfold cntE at h; rw [if_neg (by omega), if_neg (by omega)] at h; exact h
  exact cntF_all l.length 0 h1 j (Nat.zero_le _) (by omega)

theorem up_vc (v : List Int) (n : Int) (hl : v.length ≤ maxLen) (k : List Dat → Prop) (hk : k [⟨.sl I, upR v n⟩, ⟨tErr, upE v n⟩]) :
    vcF ⟨Eb, [(38, cCounts), (35, cWithin)], [], [], [(39, oCloneI)]⟩ [joinAll] (Try.f20.body.getD .skip) Try.f20.ntmps [(.tmp 4, .sl I), (.tmp 5, tErr)] [⟨.sl I, v⟩, ⟨I, n⟩] k := by
  rw [vcUp]
  have hml : maxLen ≤ 9223372036854775807 := by decide
  have ret : ∀ x : Int, upE v n = x → x ≠ 0 → k [⟨.sl I, ([] : List Int)⟩, ⟨tErr, x⟩] := by
    rintro _ rfl h0
    have : upR v n = [] := by unfold upR; rw [if_neg h0]
    rw [this] at hk; exact hk
  simp only [decide_eq_true_eq, decide_eq_false_iff_not, true_and, and_true, Bool.not_eq_true', Bool.not_eq_false', Int.toNat_natCast, inK_i64]
  refine ⟨fun h => ret _ (by unfold upE; rw [if_neg h]) h, fun h => ?_⟩
  have hlen := cnt_len h
  refine ⟨by omega, fun h1 => ⟨by decide, ret _ (by unfold upE; rw [if_pos h, if_neg (by rw [h1]; decide)]) (by decide)⟩, fun h1 => ?_⟩
  have hn : 0 ≤ n ∧ n < (v.length : Int) := by
    unfold inB at h1
    simp only [Bool.and_eq_true, decide_eq_true_eq] at h1; omega
  have hv := cnt_all h n.toNat (by omega)
  refine ⟨hn.1, hn.2, fun h2 => ⟨by decide, ret _ (by unfold upE; rw [if_pos h, if_pos h1, if_pos h2]) (by decide)⟩, fun h2 => ⟨by omega, hn.1, hn.2, by omega, hn.1, by omega, ?_⟩⟩
  have hE : upE v n = 0 := by unfold upE; rw [if_pos h, if_pos h1, if_neg h2]
  have hR : upR v n = v.set n.toNat (v.getD n.toNat 0 + 1) := by unfold upR; rw [if_pos hE]
  rw [hE, hR] at hk; exact hk

theorem okUp : PlainOk Try.prog [] 20 cUp := by
  refine plain_of (CxOk.mk' Eb_ok (by kernel_rfl) mixed (gl := []) (GOk.cons okCounts Try.func38 (by kernel_rfl) (by kernel_rfl) (GOk.cons okWithin Try.func35 (by kernel_rfl) (by kernel_rfl) GOk.nil)) (GoOk.cons ownCloneI Try.func39 (by kernel_rfl) (by kernel_rfl) GoOk.nil) noIt) Try.func20 (c := Try.f20.body.getD .skip) (rvs := [(.tmp 4, .sl I), (.tmp 5, tErr)]) (by kernel_rfl) (by kernel_rfl) (by kernel_rfl) ?_
  intro ds k ⟨hp, hk⟩ hwf
  obtain ⟨v, n, rfl, -⟩ := dest2 hp
  exact ⟨[joinAll], up_vc v n (wf2 hwf).1.1 k hk⟩

theorem mostU_len (v w : List Int) : ∀ i, (mostU v w i).length = v.length
  | 0 => rfl
  | i + 1 => by rw [mostU, List.length_set]; exact mostU_len v w i
theorem most_vc (v w : List Int) (hl : v.length ≤ maxLen) (k : List Dat → Prop) (hk : k [⟨.sl I, mostR v w⟩, ⟨tErr, mostE v w⟩]) :
    vcF ⟨Eb, [(38, cCounts)], [], [], [(39, oCloneI)]⟩ (anMost v w) (Try.f18.body.getD .skip) Try.f18.ntmps [(.tmp 4, .sl I), (.tmp 5, tErr)] [⟨.sl I, v⟩, ⟨.sl I, w⟩] k := by
  rw [vcMost]
  have hml : maxLen ≤ 9223372036854775807 := by decide
  have ret : ∀ x : Int, mostE v w = x → x ≠ 0 → k [⟨.sl I, ([] : List Int)⟩, ⟨tErr, x⟩] := by
    rintro _ rfl h0
    have : mostR v w = [] := by unfold mostR; rw [if_neg h0]
    rw [this] at hk; exact hk
  simp only [decide_eq_true_eq, decide_eq_false_iff_not, true_and, and_true, Bool.not_eq_true', Bool.not_eq_false', Int.toNat_natCast, inK_i64, mostU_len]
  refine ⟨fun h => ret _ (by unfold mostE; rw [if_neg h]) h, fun h => ⟨fun h1 => ret _ (by unfold mostE; rw [if_pos h, if_neg h1]) h1, fun h1 => ⟨fun h2 => ⟨by decide, ret _ (by unfold mostE; rw [if_pos h, if_pos h1, if_neg (by omega)]) (by decide)⟩, fun h2 => ?_⟩⟩⟩
  have hE : mostE v w = 0 := by unfold mostE; rw [if_pos h, if_pos h1, if_pos (by omega)]
  have hlen := cnt_len h
  have hlw := cnt_len h1
  have hR : mostR v w = mostU v w w.length := by unfold mostR; rw [if_pos hE]
  rw [hE, hR] at hk
  simp only [hE, and_true]
  refine ⟨by omega, ⟨0, Nat.zero_le _, rfl, rfl⟩, fun x hx => ⟨fun hlt => ⟨by omega, hlt, by omega, by omega, by omega, by omega, by omega, x + 1, by omega, by omega, by omega, rfl⟩, fun hge => ?_⟩⟩
  have : x = w.length := by omega
  rw [this]; exact hk

theorem okMost : PlainOk Try.prog [] 18 cMost := by
  refine plain_of (CxOk.mk' Eb_ok (by kernel_rfl) mixed (gl := []) (GOk.cons okCounts Try.func38 (by kernel_rfl) (by kernel_rfl) GOk.nil) (GoOk.cons ownCloneI Try.func39 (by kernel_rfl) (by kernel_rfl) GoOk.nil) noIt) Try.func18 (c := Try.f18.body.getD .skip) (rvs := [(.tmp 4, .sl I), (.tmp 5, tErr)]) (by kernel_rfl) (by kernel_rfl) (by kernel_rfl) ?_
  intro ds k ⟨hp, hk⟩ hwf
  obtain ⟨v, w, rfl, -⟩ := dest2 hp
  exact ⟨anMost v w, most_vc v w (wf2 hwf).1.1 k hk⟩
end Go.Proofs.Ytgcliogognkdkaa

/- Bags and counters: plain laws. -/
namespace Go.Proofs.Ytgcliogognkdkaa
open Go.Vc

structure GoodL (l : List Tag) : Prop where
  len : l.length ≤ 24
  inn : ∀ t ∈ l, tagIn t = true
  ss : SS l
theorem ss_of_steps : ∀ {l : List Tag}, (∀ j, 0 < j → j < l.length → ltT (l.getD (j - 1) tag0) (l.getD j tag0)) → SS l
  | [], _ => List.Pairwise.nil
  | [x], _ => by simp [SS]
  | x :: y :: l, h => by
    have h1 : SS (y :: l) := ss_of_steps fun j h0 hj => by
      have := h (j + 1) (by omega) (by simpa using hj)
      have e1 : (x :: y :: l).getD (j + 1 - 1) tag0 = (y :: l).getD (j - 1) tag0 := by
        rw [show j + 1 - 1 = (j - 1) + 1 by omega]; rfl
      rw [e1] at this
      exact this
    have h2 : ltT x y := h 1 (by omega) (by simp)
    refine List.pairwise_cons.2 ⟨fun u hu => ?_, h1⟩
    rcases List.mem_cons.1 hu with e | e
    · subst e; exact h2
    · exact ltT_trans h2 ((List.pairwise_cons.1 h1).1 u e)
theorem getD_mem {l : List Tag} {j : Nat} (h : j < l.length) : l.getD j tag0 ∈ l := by
  rw [List.getD_eq_getElem?_getD, List.getElem?_eq_getElem h]; exact List.getElem_mem h
theorem mem_getD {l : List Tag} {t : Tag} (h : t ∈ l) : ∃ j, j < l.length ∧ l.getD j tag0 = t := by
  obtain ⟨j, hj⟩ := List.getElem?_of_mem h
  have := (List.getElem?_eq_some_iff.1 hj).1
  exact ⟨j, this, by rw [List.getD_eq_getElem?_getD, hj]; rfl⟩
theorem tagsF_zero {l : List Tag} : ∀ (f i : Nat), (∀ j, i ≤ j → j < i + f → tagE l j = 0) → tagsF l f i = 0
  | 0, _, _ => rfl
  | f + 1, i, h => by
    unfold tagsF
    rw [if_pos (h i (Nat.le_refl _) (by omega))]
    exact tagsF_zero f (i + 1) fun j h1 h2 => h j (by omega) (by omega)
theorem tagsE_iff {l : List Tag} : tagsE l = 0 ↔ GoodL l := by
  constructor
  · intro h
    have ha := tags_all h
    refine ⟨tags_len h, fun t ht => ?_, ss_of_steps fun j h0 hj => (ha j hj).2 h0⟩
    obtain ⟨j, hj, rfl⟩ := mem_getD ht
    exact (ha j hj).1
  · intro g
    unfold tagsE
    rw [if_neg (by have := g.len; omega)]
    refine tagsF_zero _ _ fun j _ hj => ?_
    have hj : j < l.length := by omega
    unfold tagE
    rw [if_neg (by rw [g.inn _ (getD_mem hj)]; decide), if_neg]
    rintro ⟨h0, h1⟩
    refine cmpT_ge.1 h1 ?_
    have := List.pairwise_iff_getElem.1 g.ss (j - 1) j (by omega) hj (by omega)
    rw [List.getD_eq_getElem?_getD, List.getD_eq_getElem?_getD, List.getElem?_eq_getElem hj, List.getElem?_eq_getElem (show j - 1 < l.length by omega)]
    exact this
theorem idxF_ge {l : List Tag} {t : Tag} : ∀ (f i : Nat), 0 ≤ idxF l t f i ↔ ∃ j, i ≤ j ∧ j < i + f ∧ l.getD j tag0 = t
  | 0, i => by simp [idxF]; omega
  | f + 1, i => by
    unfold idxF
    by_cases h : l.getD i tag0 = t
    · rw [if_pos h]
      exact ⟨fun _ => ⟨i, Nat.le_refl _, by omega, h⟩, fun _ => by omega⟩
    · rw [if_neg h, idxF_ge f (i + 1)]
      constructor
      · rintro ⟨j, h1, h2, h3⟩; exact ⟨j, by omega, by omega, h3⟩
      · rintro ⟨j, h1, h2, h3⟩
        by_cases hj : j = i
        · subst hj; exact absurd h3 h
        · exact ⟨j, by omega, by omega, h3⟩
theorem hasT_iff {l : List Tag} {t : Tag} : hasT l t = true ↔ t ∈ l := by
  unfold hasT idxI
  rw [decide_eq_true_eq, idxF_ge]
  constructor
  · rintro ⟨j, _, h2, h3⟩; rw [← h3]; exact getD_mem (by omega)
  · intro h
    obtain ⟨j, hj, e⟩ := mem_getD h
    exact ⟨j, Nat.zero_le _, by omega, e⟩
theorem idnF_ge {l : List Int} {t : Int} : ∀ (f i : Nat), 0 ≤ idnF l t f i ↔ ∃ j, i ≤ j ∧ j < i + f ∧ l.getD j 0 = t
  | 0, i => by simp [idnF]; omega
  | f + 1, i => by
    unfold idnF
    by_cases h : l.getD i 0 = t
    · rw [if_pos h]
      exact ⟨fun _ => ⟨i, Nat.le_refl _, by omega, h⟩, fun _ => by omega⟩
    · rw [if_neg h, idnF_ge f (i + 1)]
      constructor
      · rintro ⟨j, h1, h2, h3⟩; exact ⟨j, by omega, by omega, h3⟩
      · rintro ⟨j, h1, h2, h3⟩
        by_cases hj : j = i
        · subst hj; exact absurd h3 h
        · exact ⟨j, by omega, by omega, h3⟩
theorem hasI_iff {l : List Int} {t : Int} : hasI l t = true ↔ t ∈ l := by
  unfold hasI idnI
  rw [decide_eq_true_eq, idnF_ge]
  constructor
  · rintro ⟨j, _, h2, h3⟩
    rw [← h3, List.getD_eq_getElem?_getD, List.getElem?_eq_getElem (show j < l.length by omega)]; exact List.getElem_mem _
  · intro h
    obtain ⟨j, hj⟩ := List.getElem?_of_mem h
    have := (List.getElem?_eq_some_iff.1 hj).1
    exact ⟨j, Nat.zero_le _, by omega, by rw [List.getD_eq_getElem?_getD, hj]; rfl⟩
theorem goneF_iff {b : Bag} : ∀ (f i : Nat), goneF b f i = 0 ↔ ∀ j, i ≤ j → j < i + f → b.2.1.getD j tag0 ∈ b.1
  | 0, i => by simp [goneF]; omega
  | f + 1, i => by
    unfold goneF
    by_cases h : hasT b.1 (b.2.1.getD i tag0) = true
    · rw [if_pos h, goneF_iff f (i + 1)]
      constructor
      · intro h1 j h2 h3
        by_cases hj : j = i
        · subst hj; exact hasT_iff.1 h
        · exact h1 j (by omega) (by omega)
      · intro h1 j h2 h3; exact h1 j (by omega) (by omega)
    · rw [if_neg h]
      exact ⟨fun e => (by cases e), fun h1 => absurd (hasT_iff.2 (h1 i (Nat.le_refl _) (by omega))) h⟩
structure GoodB (b : Bag) : Prop where
  has : GoodL b.1
  gone : GoodL b.2.1
  sub : ∀ t ∈ b.2.1, t ∈ b.1
theorem chk_iff {b : Bag} : chkB b = 0 ↔ GoodB b := by
  constructor
  · intro h
    obtain ⟨h1, h2, h3⟩ := chk_parts h
    refine ⟨tagsE_iff.1 h1, tagsE_iff.1 h2, fun t ht => ?_⟩
    obtain ⟨j, hj, rfl⟩ := mem_getD ht
    exact (goneF_iff _ _).1 h3 j (Nat.zero_le _) (by omega)
  · intro g
    unfold chkB
    rw [if_pos (tagsE_iff.2 g.has), if_pos (tagsE_iff.2 g.gone)]
    exact (goneF_iff _ _).2 fun j _ hj => g.sub _ (getD_mem (by omega))
theorem ss_sub_len : ∀ {m l : List Tag}, SS l → SS m → (∀ t ∈ l, t ∈ m) → l.length ≤ m.length
  | _, [], _, _, _ => Nat.zero_le _
  | [], x :: l, _, _, h => absurd (h x (List.mem_cons_self ..)) (by simp)
  | y :: m, x :: l, hl, hm, h => by
    obtain ⟨hl1, hl2⟩ := List.pairwise_cons.1 hl
    obtain ⟨hm1, hm2⟩ := List.pairwise_cons.1 hm
    have key : ∀ t ∈ l, t ∈ m := by
      intro t ht
      rcases List.mem_cons.1 (h t (List.mem_cons_of_mem _ ht)) with e | e
      · subst e
        rcases List.mem_cons.1 (h x (List.mem_cons_self ..)) with e2 | e2
        · subst e2; exact absurd (hl1 _ ht) (ltT_irrefl _)
        · exact absurd (hl1 _ ht) (ltT_asymm (hm1 x e2))
      · exact e
    have := ss_sub_len hl2 hm2 key
    simp only [List.length_cons]; omega
theorem joinE_iff {a b : Bag} : joinE a b = 0 ↔ GoodB a ∧ GoodB b ∧ (srt (a.1 ++ b.1)).length ≤ 24 := by
  rw [← chk_iff, ← chk_iff]
  unfold joinE
  by_cases h1 : chkB a = 0
  · rw [if_pos h1]
    by_cases h2 : chkB b = 0
    · rw [if_pos h2]
      by_cases h3 : 24 < (srt (a.1 ++ b.1)).length
      · rw [if_pos h3]
        exact ⟨fun e => (by cases e), fun ⟨_, _, e⟩ => by omega⟩
      · rw [if_neg h3]
        exact ⟨fun _ => ⟨h1, h2, by omega⟩, fun _ => rfl⟩
    · rw [if_neg h2]
      exact ⟨fun e => absurd e h2, fun ⟨_, e, _⟩ => absurd e h2⟩
  · rw [if_neg h1]
    exact ⟨fun e => absurd e h1, fun ⟨e, _⟩ => absurd e h1⟩
theorem joinB_eq {a b : Bag} (h : joinE a b = 0) : joinB a b = (srt (a.1 ++ b.1), srt (a.2.1 ++ b.2.1), ()) := by unfold joinB; rw [if_pos h]
theorem goodL_srt {l : List Tag} (h : ∀ t ∈ l, tagIn t = true) (hl : (srt l).length ≤ 24) : GoodL (srt l) := ⟨hl, fun t ht => h t (mem_srt.1 ht), ss_srt l⟩
theorem join_good {a b : Bag} (h : joinE a b = 0) : GoodB (joinB a b) := by
  obtain ⟨ga, gb, hl⟩ := joinE_iff.1 h
  rw [joinB_eq h]
  have hsub : ∀ t ∈ srt (a.2.1 ++ b.2.1), t ∈ srt (a.1 ++ b.1) := fun t ht => by
    rw [mem_srt, List.mem_append] at ht ⊢
    exact ht.imp (ga.sub t) (gb.sub t)
  refine ⟨goodL_srt (fun t ht => (List.mem_append.1 ht).elim (ga.has.inn t) (gb.has.inn t)) hl, goodL_srt (fun t ht => (List.mem_append.1 ht).elim (ga.gone.inn t) (gb.gone.inn t)) ?_, hsub⟩
  have := ss_sub_len (ss_srt _) (ss_srt _) hsub
  omega
theorem srt_ext {l m : List Tag} (h : ∀ t, t ∈ l ↔ t ∈ m) : srt l = srt m := srt_eq (ss_srt m) fun t => mem_srt.trans (h t).symm
theorem srt_self {l : List Tag} (h : SS l) : srt l = l := srt_eq h fun _ => Iff.rfl

theorem join_comm {a b : Bag} : (joinE a b = 0 ↔ joinE b a = 0) ∧ (joinE a b = 0 → joinB a b = joinB b a) := by
  have e : srt (a.1 ++ b.1) = srt (b.1 ++ a.1) := srt_ext fun t => by simp [or_comm]
  have h : joinE a b = 0 ↔ joinE b a = 0 := by
    rw [joinE_iff, joinE_iff, e]
    exact ⟨fun ⟨x, y, z⟩ => ⟨y, x, z⟩, fun ⟨x, y, z⟩ => ⟨y, x, z⟩⟩
  refine ⟨h, fun hj => ?_⟩
  rw [joinB_eq hj, joinB_eq (h.1 hj), e]
  congr 2
  exact srt_ext fun t => by simp [or_comm]
theorem join_again {a b : Bag} (h : joinE a b = 0) : joinE (joinB a b) a = 0 ∧ joinB (joinB a b) a = joinB a b := by
  obtain ⟨ga, gb, hl⟩ := joinE_iff.1 h
  have hg := join_good h
  have e := joinB_eq h
  have e1 : srt ((joinB a b).1 ++ a.1) = (joinB a b).1 := by
    rw [e]
    exact srt_eq (ss_srt _) fun t => by simp [mem_srt]; exact fun h => .inl h
  have e2 : srt ((joinB a b).2.1 ++ a.2.1) = (joinB a b).2.1 := by
    rw [e]
    exact srt_eq (ss_srt _) fun t => by simp [mem_srt]; exact fun h => .inl h
  have h2 : joinE (joinB a b) a = 0 := joinE_iff.2 ⟨hg, ga, by rw [e1]; exact hg.has.len⟩
  refine ⟨h2, ?_⟩
  rw [joinB_eq h2, e1, e2]
theorem join_assoc {a b c : Bag} (h : joinE a b = 0) (h2 : joinE (joinB a b) c = 0) : joinE b c = 0 ∧ joinE a (joinB b c) = 0 ∧ joinB (joinB a b) c = joinB a (joinB b c) := by
  obtain ⟨ga, gb, hl⟩ := joinE_iff.1 h
  obtain ⟨_, gc, hl2⟩ := joinE_iff.1 h2
  have e := joinB_eq h
  have h3 : joinE b c = 0 := by
    refine joinE_iff.2 ⟨gb, gc, Nat.le_trans (ss_sub_len (ss_srt _) (ss_srt _) fun t ht => ?_) hl2⟩
    rw [e]
    rw [mem_srt, List.mem_append] at ht ⊢
    rcases ht with ht | ht
    · exact .inl (mem_srt.2 (List.mem_append.2 (.inr ht)))
    · exact .inr ht
  have e3 := joinB_eq h3
  have k1 : srt ((joinB a b).1 ++ c.1) = srt (a.1 ++ (joinB b c).1) := by
    rw [e, e3]; exact srt_ext fun t => by simp [mem_srt, or_assoc]
  have k2 : srt ((joinB a b).2.1 ++ c.2.1) = srt (a.2.1 ++ (joinB b c).2.1) := by
    rw [e, e3]; exact srt_ext fun t => by simp [mem_srt, or_assoc]
  have h4 : joinE a (joinB b c) = 0 := joinE_iff.2 ⟨ga, join_good h3, by rw [← k1]; exact hl2⟩
  refine ⟨h3, h4, ?_⟩
  rw [joinB_eq h2, joinB_eq h4, k1, k2]

/-! What is added, and dropped. -/
theorem elems_iff {b : Bag} (h : chkB b = 0) {e : Int} : e ∈ elems b ↔ ∃ t ∈ b.1, t ∉ b.2.1 ∧ t.1 = e := by
  unfold elems
  rw [if_pos h]
  have key : ∀ n, n ≤ b.1.length → (e ∈ elemsU b n ↔ ∃ t ∈ b.1.take n, t ∉ b.2.1 ∧ t.1 = e) := by
    intro n
    induction n with
    | zero => intro _; simp [elemsU]
    | succ n ih =>
      intro hn
      have ih := ih (by omega)
      have e1 : b.1.take (n + 1) = b.1.take n ++ [b.1.getD n tag0] := by
        rw [List.take_succ_eq_append_getElem (show n < b.1.length by omega), List.getD_eq_getElem?_getD, List.getElem?_eq_getElem (show n < b.1.length by omega)]; rfl
      rw [e1, elemsU]
      generalize b.1.getD n tag0 = x
      have hx : (∃ t ∈ b.1.take n ++ [x], t ∉ b.2.1 ∧ t.1 = e) ↔ (∃ t ∈ b.1.take n, t ∉ b.2.1 ∧ t.1 = e) ∨ (x ∉ b.2.1 ∧ x.1 = e) := by
        constructor
        · rintro ⟨t, ht, h2⟩
          rcases List.mem_append.1 ht with h | h
          · exact .inl ⟨t, h, h2⟩
          · rw [List.mem_singleton] at h; subst h; exact .inr h2
        · rintro (⟨t, ht, h2⟩ | h2)
          · exact ⟨t, List.mem_append.2 (.inl ht), h2⟩
          · exact ⟨x, List.mem_append.2 (.inr (List.mem_singleton.2 rfl)), h2⟩
      rw [hx, ← ih]
      cases h1 : hasT b.2.1 x with
      | true =>
        rw [if_neg (by simp)]
        have := hasT_iff.1 h1
        exact ⟨.inl, fun h => h.elim id fun h => absurd this h.1⟩
      | false =>
        have h1' : x ∉ b.2.1 := fun h => by rw [hasT_iff.2 h] at h1; cases h1
        cases h2 : hasI (elemsU b n) x.1 with
        | true =>
          rw [if_neg (by simp)]
          have := hasI_iff.1 h2
          exact ⟨.inl, fun h => h.elim id fun h => h.2 ▸ this⟩
        | false =>
          rw [if_pos (by rfl), List.mem_append, List.mem_singleton]
          exact ⟨fun h => h.imp id fun h => ⟨h1', h.symm⟩, fun h => h.imp id fun h => h.2.symm⟩
  rw [key _ (Nat.le_refl _), List.take_length]
theorem maxC_ge {l : List Tag} {node : Int} : ∀ n, n ≤ l.length → ∀ j, j < n → (l.getD j tag0).2.1 = node → (l.getD j tag0).2.2.1 ≤ maxC l node n
  | 0, _, j, hj, _ => by omega
  | n + 1, hn, j, hj, he => by
    unfold maxC
    by_cases hjn : j = n
    · subst hjn; rw [if_pos he]; omega
    · have := maxC_ge n (by omega) j (by omega) he
      split <;> omega
theorem addE_iff {b : Bag} {e n : Int} : addE b e n = 0 ↔ GoodB b ∧ (0 ≤ e ∧ e ≤ 9) ∧ (0 ≤ n ∧ n ≤ 4) ∧ b.1.length ≠ 24 ∧ maxC b.1 n b.1.length ≠ 1000000 := by
  rw [← chk_iff]
  unfold addE inB
  by_cases h1 : chkB b = 0
  · rw [if_pos h1]
    by_cases h2 : (decide (0 ≤ e) && decide (e ≤ 9) && (decide (0 ≤ n) && decide (n ≤ 4))) = true
    · rw [if_pos h2]
      simp only [Bool.and_eq_true, decide_eq_true_eq] at h2
      by_cases h3 : b.1.length = 24 ∨ maxC b.1 n b.1.length = 1000000
      · rw [if_pos h3]
        exact ⟨fun e => (by cases e), fun ⟨_, _, _, e1, e2⟩ => h3.elim (fun h => absurd h e1) (fun h => absurd h e2)⟩
      · rw [if_neg h3]
        exact ⟨fun _ => ⟨h1, h2.1, h2.2, fun h => h3 (.inl h), fun h => h3 (.inr h)⟩, fun _ => rfl⟩
    · rw [if_neg h2]
      simp only [Bool.and_eq_true, decide_eq_true_eq] at h2
      exact ⟨fun e => (by cases e), fun ⟨_, e1, e2, _⟩ => absurd ⟨e1, e2⟩ h2⟩
  · rw [if_neg h1]
    exact ⟨fun e => absurd e h1, fun ⟨e, _⟩ => absurd e h1⟩
theorem dropE_iff {b : Bag} {e : Int} : dropE b e = 0 ↔ GoodB b ∧ 0 ≤ e ∧ e ≤ 9 := by
  rw [← chk_iff]
  unfold dropE inB
  by_cases h1 : chkB b = 0
  · rw [if_pos h1]
    by_cases h2 : (decide (0 ≤ e) && decide (e ≤ 9)) = true
    · rw [if_pos h2]
      simp only [Bool.and_eq_true, decide_eq_true_eq] at h2
      exact ⟨fun _ => ⟨h1, h2⟩, fun _ => rfl⟩
    · rw [if_neg h2]
      simp only [Bool.and_eq_true, decide_eq_true_eq] at h2
      exact ⟨fun e => (by cases e), fun e => absurd e.2 h2⟩
  · rw [if_neg h1]
    exact ⟨fun e => absurd e h1, fun ⟨e, _⟩ => absurd e h1⟩
theorem adds {a : Bag} {e n : Int} (h : addE a e n = 0) :
    dropE a e = 0 ∧ chkB a = 0 ∧ chkB (addB a e n) = 0 ∧ chkB (dropB a e) = 0 ∧ joinE (addB a e n) (dropB a e) = 0 ∧ chkB (joinB (addB a e n) (dropB a e)) = 0 ∧
    e ∈ elems (addB a e n) ∧ e ∉ elems (dropB a e) ∧ e ∈ elems (joinB (addB a e n) (dropB a e)) ∧
    ∀ o, o ≠ e → (o ∈ elems (addB a e n) ↔ o ∈ elems a) ∧ (o ∈ elems (dropB a e) ↔ o ∈ elems a) ∧ (o ∈ elems (joinB (addB a e n) (dropB a e)) ↔ o ∈ elems a) := by
  obtain ⟨g, he, hn, hl, hm⟩ := addE_iff.1 h
  have hd : dropE a e = 0 := dropE_iff.2 ⟨g, he⟩
  have hc := chk_iff.2 g
  have hmi := maxC_in (tagsE_iff.2 g.has) n a.1.length (Nat.le_refl _)
  obtain ⟨T, hT⟩ : ∃ T : Tag, T = (e, n, maxC a.1 n a.1.length + 1, ()) := ⟨_, rfl⟩
  have eA : addB a e n = (srt (a.1 ++ [T]), a.2.1, ()) := by unfold addB; rw [if_pos h, hT]
  have eD : dropB a e = (a.1, srt (a.2.1 ++ ofE a.1 e), ()) := by unfold dropB; rw [if_pos hd]
  have hTa : T ∉ a.1 := by
    intro hm
    obtain ⟨j, hj, e⟩ := mem_getD hm
    have := maxC_ge (l := a.1) (node := n) a.1.length (Nat.le_refl _) j hj (by rw [e, hT])
    rw [e, hT] at this
    simp only at this; omega
  have hTin : tagIn T = true := by rw [tagIn_iff, hT]; simp only; omega
  have hTe : T.1 = e := by rw [hT]
  have hlen : a.1.length ≤ 23 := by have := g.has.len; omega
  have hlA : (srt (a.1 ++ [T])).length ≤ 24 := by
    have := srt_len (a.1 ++ [T])
    rw [List.length_append] at this
    simp only [List.length_cons, List.length_nil] at this; omega
  have hof : ∀ t, t ∈ ofE a.1 e ↔ t ∈ a.1 ∧ t.1 = e := fun t => by unfold ofE; simp
  have gA : GoodB (addB a e n) := by
    rw [eA]
    refine ⟨goodL_srt (fun t ht => ?_) hlA, g.gone, fun t ht => mem_srt.2 (List.mem_append.2 (.inl (g.sub t ht)))⟩
    rcases List.mem_append.1 ht with h | h
    · exact g.has.inn t h
    · rw [List.mem_singleton] at h; subst h; exact hTin
  have hsubD : ∀ t ∈ srt (a.2.1 ++ ofE a.1 e), t ∈ a.1 := fun t ht => by
    rw [mem_srt, List.mem_append, hof] at ht
    exact ht.elim (g.sub t) fun h => h.1
  have gD : GoodB (dropB a e) := by
    rw [eD]
    refine ⟨g.has, goodL_srt (fun t ht => ?_) ?_, hsubD⟩
    · rcases List.mem_append.1 ht with h | h
      · exact g.gone.inn t h
      · exact g.has.inn t ((hof t).1 h).1
    · have := ss_sub_len (ss_srt _) g.has.ss hsubD
      omega
  have hJ : joinE (addB a e n) (dropB a e) = 0 := by
    refine joinE_iff.2 ⟨gA, gD, Nat.le_trans (ss_sub_len (ss_srt _) (ss_srt (a.1 ++ [T])) fun t ht => ?_) hlA⟩
    rw [eA, eD] at ht
    rw [mem_srt, List.mem_append] at ht
    exact ht.elim id fun h => mem_srt.2 (List.mem_append.2 (.inl h))
  have eJ : joinB (addB a e n) (dropB a e) = (srt (srt (a.1 ++ [T]) ++ a.1), srt (a.2.1 ++ srt (a.2.1 ++ ofE a.1 e)), ()) := by rw [joinB_eq hJ, eA, eD]
  have gJ := join_good hJ
  have cA := chk_iff.2 gA
  have cD := chk_iff.2 gD
  have cJ := chk_iff.2 gJ
  have mJ1 : ∀ t, t ∈ srt (srt (a.1 ++ [T]) ++ a.1) ↔ t ∈ a.1 ∨ t = T := fun t => by
    rw [mem_srt, List.mem_append, mem_srt, List.mem_append, List.mem_singleton]
    exact ⟨fun h => h.elim id .inl, .inl⟩
  have mJ2 : ∀ t, t ∈ srt (a.2.1 ++ srt (a.2.1 ++ ofE a.1 e)) ↔ t ∈ a.2.1 ∨ (t ∈ a.1 ∧ t.1 = e) := fun t => by
    rw [mem_srt, List.mem_append, mem_srt, List.mem_append, hof]
    exact ⟨fun h => h.elim .inl id, .inr⟩
  have mA : ∀ t, t ∈ srt (a.1 ++ [T]) ↔ t ∈ a.1 ∨ t = T := fun t => by rw [mem_srt, List.mem_append, List.mem_singleton]
  have mD : ∀ t, t ∈ srt (a.2.1 ++ ofE a.1 e) ↔ t ∈ a.2.1 ∨ (t ∈ a.1 ∧ t.1 = e) := fun t => by rw [mem_srt, List.mem_append, hof]
  have iA : ∀ o, o ∈ elems (addB a e n) ↔ ∃ t, (t ∈ a.1 ∨ t = T) ∧ t ∉ a.2.1 ∧ t.1 = o := fun o => by
    rw [elems_iff cA, eA]
    exact ⟨fun ⟨t, h1, h2⟩ => ⟨t, (mA t).1 h1, h2⟩, fun ⟨t, h1, h2⟩ => ⟨t, (mA t).2 h1, h2⟩⟩
  have iD : ∀ o, o ∈ elems (dropB a e) ↔ ∃ t ∈ a.1, ¬ (t ∈ a.2.1 ∨ (t ∈ a.1 ∧ t.1 = e)) ∧ t.1 = o := fun o => by
    rw [elems_iff cD, eD]
    exact ⟨fun ⟨t, h1, h2, h3⟩ => ⟨t, h1, fun h => h2 ((mD t).2 h), h3⟩, fun ⟨t, h1, h2, h3⟩ => ⟨t, h1, fun h => h2 ((mD t).1 h), h3⟩⟩
  have iJ : ∀ o, o ∈ elems (joinB (addB a e n) (dropB a e)) ↔ ∃ t, (t ∈ a.1 ∨ t = T) ∧ ¬ (t ∈ a.2.1 ∨ (t ∈ a.1 ∧ t.1 = e)) ∧ t.1 = o := fun o => by
    rw [elems_iff cJ, eJ]
    exact ⟨fun ⟨t, h1, h2, h3⟩ => ⟨t, (mJ1 t).1 h1, fun h => h2 ((mJ2 t).2 h), h3⟩, fun ⟨t, h1, h2, h3⟩ => ⟨t, (mJ1 t).2 h1, fun h => h2 ((mJ2 t).1 h), h3⟩⟩
  refine ⟨hd, hc, cA, cD, hJ, cJ, (iA e).2 ⟨T, .inr rfl, fun h => hTa (g.sub T h), hTe⟩, fun h => ?_, (iJ e).2 ⟨T, .inr rfl, ?_, hTe⟩, fun o ho => ⟨?_, ?_, ?_⟩⟩
  · obtain ⟨t, h1, h2, h3⟩ := (iD e).1 h
    exact h2 (.inr ⟨h1, h3⟩)
  · rintro (h | h)
    · exact hTa (g.sub T h)
    · exact hTa h.1
  · rw [iA, elems_iff hc]
    constructor
    · rintro ⟨t, h1 | h1, h2, h3⟩
      · exact ⟨t, h1, h2, h3⟩
      · subst h1; exact absurd (h3.symm.trans hTe) ho
    · rintro ⟨t, h1, h2, h3⟩; exact ⟨t, .inl h1, h2, h3⟩
  · rw [iD, elems_iff hc]
    constructor
    · rintro ⟨t, h1, h2, h3⟩; exact ⟨t, h1, fun h => h2 (.inl h), h3⟩
    · rintro ⟨t, h1, h2, h3⟩
      exact ⟨t, h1, fun h => h.elim h2 fun h => ho (h3.symm.trans h.2), h3⟩
  · rw [iJ, elems_iff hc]
    constructor
    · rintro ⟨t, h1 | h1, h2, h3⟩
      · exact ⟨t, h1, fun h => h2 (.inl h), h3⟩
      · subst h1; exact absurd (h3.symm.trans hTe) ho
    · rintro ⟨t, h1, h2, h3⟩
      exact ⟨t, .inl h1, fun h => h.elim h2 fun h => ho (h3.symm.trans h.2), h3⟩
end Go.Proofs.Ytgcliogognkdkaa

/- Bags and counters: the laws. -/
namespace Go.Proofs.Ytgcliogognkdkaa
open Go.Vc
def cFactM : Ctr := cdet [] True [⟨.bool, true⟩]
def cLawJ : Ctr := cdet [tB, tB, tB] (fun _ _ _ => True) (fun _ _ _ => [⟨.bool, true⟩])
def cLawA : Ctr := cdet [tB, I, I, I] (fun _ _ _ _ => True) (fun _ _ _ _ => [⟨.bool, true⟩])
def cLawC : Ctr := cdet [.sl I, .sl I, I] (fun _ _ _ => True) (fun _ _ _ => [⟨.bool, true⟩])
def anHas (l : List Int) (t : Int) : Ann := [joinAll, loopAt 2 Nat [] (fun st i => St.at (St.only st [0, 1]) [(5, .d I (i : Int))]) (fun _ i => idnI l t = idnF l t (l.length - i) i ∧ i ≤ l.length) (fun i => l.length - i)]
def smL (l : List Int) : Nat → Int
  | 0 => 0
  | i + 1 => smL l i + l.getD i 0
def cSum : Ctr := cdet [.sl I] (fun (l : List Int) => l.length ≤ 1000 ∧ ∀ i, i < l.length → 0 ≤ l.getD i 0 ∧ l.getD i 0 ≤ 1000000) (fun l => [⟨I, smL l l.length⟩])
def anSum (l : List Int) : Ann := [joinAll, loopAt 3 Nat [] (fun st i => St.at (St.only st [0]) [(3, .d I (smL l i)), (4, .d I (i : Int))]) (fun _ i => i ≤ l.length ∧ True) (fun i => l.length - i)]
def anLawC (v w : List Int) : Ann := [joinAll, loopAt 11 Nat [] (fun st i => St.at (St.only st [0, 1, 2, 8]) [(12, .d I (i : Int))]) (fun _ i => i ≤ (mostR v w).length ∧ mostE v w = 0) (fun i => (mostR v w).length - i)]
end Go.Proofs.Ytgcliogognkdkaa

/- What the functions of this seat have to satisfy, by program: each verification condition in plain words. -/
namespace Go.Proofs.Ytgcliogognkdkaa
open Go.Vc
set_option linter.unusedVariables false
theorem vcHas (l : List Int) (t : Int) (k : List Dat → Prop) : vcF ⟨Eb, [], [], [], []⟩ (anHas l t) (Try.f17.body.getD .skip) Try.f17.ntmps [(.tmp 4, .bool)] [⟨.sl I, l⟩, ⟨I, t⟩] k = (
  (∃ (x : Nat), (idnI l t = idnF l t (l.length - x) x ∧ x ≤ l.length) ∧ (l = l ∧ t = t ∧ (0 : Int) = (↑x : Int) ∧ True) ∧ True ∧ True) ∧ ∀ (x : Nat), idnI l t = idnF l t (l.length - x) x ∧ x ≤ l.length → (decide ((↑x : Int) < (↑l.length : Int)) = true → (0 : Int) ≤ (↑x : Int) ∧ (↑x : Int) < (↑l.length : Int) ∧ (decide (l.getD (↑x : Int).toNat (0 : Int) = t) = true → k [Dat.mk Ty.bool true]) ∧ (decide (l.getD (↑x : Int).toNat (0 : Int) = t) = false → inK IntKind.i64 ((↑x : Int) + (1 : Int)) ∧ ∃ (x_1 : Nat), (idnI l t = idnF l t (l.length - x_1) x_1 ∧ x_1 ≤ l.length) ∧ l.length - x_1 < l.length - x ∧ (l = l ∧ t = t ∧ (↑x : Int) + (1 : Int) = (↑x_1 : Int) ∧ True) ∧ True ∧ True)) ∧ (decide ((↑x : Int) < (↑l.length : Int)) = false → k [Dat.mk Ty.bool false])) := by kernel_rfl
theorem vcSum (l : List Int) (k : List Dat → Prop) : vcF ⟨Eb, [], [], [], []⟩ (anSum l) (Try.f21.body.getD .skip) Try.f21.ntmps [(.tmp 2, I)] [⟨.sl I, l⟩] k = (
  (∃ (x : Nat), (x ≤ l.length ∧ True) ∧ (l = l ∧ (0 : Int) = smL l x ∧ (0 : Int) = (↑x : Int) ∧ True) ∧ True ∧ True) ∧ ∀ (x : Nat), x ≤ l.length ∧ True → (decide ((↑x : Int) < (↑l.length : Int)) = true → (0 : Int) ≤ (↑x : Int) ∧ (↑x : Int) < (↑l.length : Int) ∧ inK IntKind.i64 (smL l x + l.getD (↑x : Int).toNat (0 : Int)) ∧ inK IntKind.i64 ((↑x : Int) + (1 : Int)) ∧ ∃ (x_1 : Nat), (x_1 ≤ l.length ∧ True) ∧ l.length - x_1 < l.length - x ∧ (l = l ∧ smL l x + l.getD (↑x : Int).toNat (0 : Int) = smL l x_1 ∧ (↑x : Int) + (1 : Int) = (↑x_1 : Int) ∧ True) ∧ True ∧ True) ∧ (decide ((↑x : Int) < (↑l.length : Int)) = false → k [Dat.mk (I) (smL l x)])) := by kernel_rfl
theorem vcFactM (k : List Dat → Prop) : vcF ⟨Eb, [(11, cJoin), (14, cAdd), (15, cDrop), (16, cElems), (19, cInts)], [], [], []⟩ [joinAll] (Try.f10.body.getD .skip) Try.f10.ntmps [(.tmp 0, .bool)] [] k = (
  True ∧ True ∧ True ∧ True ∧ True ∧ (decide (addE ([], [], ()) (3 : Int) (0 : Int) = (0 : Int)) = true → (decide (dropE (addB ([], [], ()) (3 : Int) (0 : Int)) (3 : Int) = (0 : Int)) = true → (decide (addE (addB ([], [], ()) (3 : Int) (0 : Int)) (3 : Int) (1 : Int) = (0 : Int)) = true → (decide (joinE (dropB (addB ([], [], ()) (3 : Int) (0 : Int)) (3 : Int)) (addB (addB ([], [], ()) (3 : Int) (0 : Int)) (3 : Int) (1 : Int)) = (0 : Int)) = true → (decide (chkB (joinB (dropB (addB ([], [], ()) (3 : Int) (0 : Int)) (3 : Int)) (addB (addB ([], [], ()) (3 : Int) (0 : Int)) (3 : Int) (1 : Int))) = (0 : Int)) = true → (decide ((↑(srt ([] ++ ofE (srt ([] ++ [((3 : Int), (0 : Int), maxC [] (0 : Int) ([] : List Int).length + (1 : Int), ())])) (3 : Int))).length : Int) = (1 : Int)) = true → True ∧ k [Dat.mk Ty.bool (decide (elems (joinB (dropB (addB ([], [], ()) (3 : Int) (0 : Int)) (3 : Int)) (addB (addB ([], [], ()) (3 : Int) (0 : Int)) (3 : Int) (1 : Int))) = (List.replicate (1 : Nat) (0 : Int)).set (0 : Nat) (3 : Int)))]) ∧ (decide ((↑(srt ([] ++ ofE (srt ([] ++ [((3 : Int), (0 : Int), maxC [] (0 : Int) ([] : List Int).length + (1 : Int), ())])) (3 : Int))).length : Int) = (1 : Int)) = false → k [Dat.mk Ty.bool false])) ∧ (decide (chkB (joinB (dropB (addB ([], [], ()) (3 : Int) (0 : Int)) (3 : Int)) (addB (addB ([], [], ()) (3 : Int) (0 : Int)) (3 : Int) (1 : Int))) = (0 : Int)) = false → k [Dat.mk Ty.bool false])) ∧ (decide (joinE (dropB (addB ([], [], ()) (3 : Int) (0 : Int)) (3 : Int)) (addB (addB ([], [], ()) (3 : Int) (0 : Int)) (3 : Int) (1 : Int)) = (0 : Int)) = false → k [Dat.mk Ty.bool false])) ∧ (decide (addE (addB ([], [], ()) (3 : Int) (0 : Int)) (3 : Int) (1 : Int) = (0 : Int)) = false → k [Dat.mk Ty.bool false])) ∧ (decide (dropE (addB ([], [], ()) (3 : Int) (0 : Int)) (3 : Int) = (0 : Int)) = false → k [Dat.mk Ty.bool false])) ∧ (decide (addE ([], [], ()) (3 : Int) (0 : Int) = (0 : Int)) = false → k [Dat.mk Ty.bool false])) := by kernel_rfl
theorem vcLawJ (a b c : Bag) (k : List Dat → Prop) : vcF ⟨Eb, [(10, cFactM), (11, cJoin), (12, cSameB), (13, cCheck)], [], [], []⟩ [joinAll] (Try.f3.body.getD .skip) Try.f3.ntmps [(.tmp 6, .bool)] [⟨tB, a⟩, ⟨tB, b⟩, ⟨tB, c⟩] k = (
  True ∧ ((!true) = true → k [Dat.mk Ty.bool false]) ∧ ((!true) = false → True ∧ True ∧ ((!decide (joinE a b = (0 : Int))) = true → ((!decide (joinE a b = (0 : Int))) = true → k [Dat.mk Ty.bool !decide (joinE b a = (0 : Int))]) ∧ ((!decide (joinE a b = (0 : Int))) = false → k [Dat.mk Ty.bool false])) ∧ ((!decide (joinE a b = (0 : Int))) = false → ((!decide (joinE b a = (0 : Int))) = true → ((!decide (joinE a b = (0 : Int))) = true → k [Dat.mk Ty.bool !decide (joinE b a = (0 : Int))]) ∧ ((!decide (joinE a b = (0 : Int))) = false → k [Dat.mk Ty.bool false])) ∧ ((!decide (joinE b a = (0 : Int))) = false → True ∧ True ∧ ((!(decide ((joinB a b).fst = (joinB b a).fst) && decide ((joinB a b).snd.fst = (joinB b a).snd.fst))) = true → k [Dat.mk Ty.bool false]) ∧ ((!(decide ((joinB a b).fst = (joinB b a).fst) && decide ((joinB a b).snd.fst = (joinB b a).snd.fst))) = false → ((!decide (joinE (joinB a b) a = (0 : Int))) = true → k [Dat.mk Ty.bool false]) ∧ ((!decide (joinE (joinB a b) a = (0 : Int))) = false → True ∧ ((!(decide ((joinB (joinB a b) a).fst = (joinB a b).fst) && decide ((joinB (joinB a b) a).snd.fst = (joinB a b).snd.fst))) = true → k [Dat.mk Ty.bool false]) ∧ ((!(decide ((joinB (joinB a b) a).fst = (joinB a b).fst) && decide ((joinB (joinB a b) a).snd.fst = (joinB a b).snd.fst))) = false → True ∧ ((!decide (chkB (joinB a b) = (0 : Int))) = true → k [Dat.mk Ty.bool false]) ∧ ((!decide (chkB (joinB a b) = (0 : Int))) = false → True ∧ True ∧ ((!decide (joinE (joinB a b) c = (0 : Int))) = true → k [Dat.mk Ty.bool !decide (joinE (joinB a b) c = (0 : Int))]) ∧ ((!decide (joinE (joinB a b) c = (0 : Int))) = false → ((!decide (joinE b c = (0 : Int))) = true → k [Dat.mk Ty.bool !decide (joinE (joinB a b) c = (0 : Int))]) ∧ ((!decide (joinE b c = (0 : Int))) = false → True ∧ (decide (joinE a (joinB b c) = (0 : Int)) = true → True ∧ k [Dat.mk Ty.bool (decide ((joinB (joinB a b) c).fst = (joinB a (joinB b c)).fst) && decide ((joinB (joinB a b) c).snd.fst = (joinB a (joinB b c)).snd.fst))]) ∧ (decide (joinE a (joinB b c) = (0 : Int)) = false → k [Dat.mk Ty.bool false]))))))))))) := by kernel_rfl
theorem vcLawA (a : Bag) (e n o : Int) (k : List Dat → Prop) : vcF ⟨Eb, [(10, cFactM), (11, cJoin), (14, cAdd), (15, cDrop), (16, cElems), (17, cHasI)], [], [], []⟩ [joinAll] (Try.f4.body.getD .skip) Try.f4.ntmps [(.tmp 8, .bool)] [⟨tB, a⟩, ⟨I, e⟩, ⟨I, n⟩, ⟨I, o⟩] k = (
  True ∧ ((!true) = true → k [Dat.mk Ty.bool false]) ∧ ((!true) = false → True ∧ True ∧ ((!decide (addE a e n = (0 : Int))) = true → k [Dat.mk Ty.bool !decide (addE a e n = (0 : Int))]) ∧ ((!decide (addE a e n = (0 : Int))) = false → ((!decide (dropE a e = (0 : Int))) = true → k [Dat.mk Ty.bool !decide (addE a e n = (0 : Int))]) ∧ ((!decide (dropE a e = (0 : Int))) = false → True ∧ True ∧ True ∧ True ∧ True ∧ ((!decide (chkB (addB a e n) = (0 : Int))) = true → k [Dat.mk Ty.bool false]) ∧ ((!decide (chkB (addB a e n) = (0 : Int))) = false → ((!decide (chkB (dropB a e) = (0 : Int))) = true → k [Dat.mk Ty.bool false]) ∧ ((!decide (chkB (dropB a e) = (0 : Int))) = false → ((!decide (joinE (addB a e n) (dropB a e) = (0 : Int))) = true → k [Dat.mk Ty.bool false]) ∧ ((!decide (joinE (addB a e n) (dropB a e) = (0 : Int))) = false → ((!decide (chkB (joinB (addB a e n) (dropB a e)) = (0 : Int))) = true → k [Dat.mk Ty.bool false]) ∧ ((!decide (chkB (joinB (addB a e n) (dropB a e)) = (0 : Int))) = false → ((!decide (chkB a = (0 : Int))) = true → k [Dat.mk Ty.bool false]) ∧ ((!decide (chkB a = (0 : Int))) = false → True ∧ (hasI (elems (addB a e n)) e = true → True ∧ ((!hasI (elems (dropB a e)) e) = true → True ∧ (hasI (elems (joinB (addB a e n) (dropB a e))) e = true → (decide (o = e) = true → k [Dat.mk Ty.bool true]) ∧ (decide (o = e) = false → True ∧ True ∧ ((hasI (elems (addB a e n)) o == hasI (elems a) o) = true → True ∧ True ∧ ((hasI (elems (dropB a e)) o == hasI (elems a) o) = true → True ∧ True ∧ k [Dat.mk Ty.bool (hasI (elems (joinB (addB a e n) (dropB a e))) o == hasI (elems a) o)]) ∧ ((hasI (elems (dropB a e)) o == hasI (elems a) o) = false → k [Dat.mk Ty.bool false])) ∧ ((hasI (elems (addB a e n)) o == hasI (elems a) o) = false → k [Dat.mk Ty.bool false]))) ∧ (hasI (elems (joinB (addB a e n) (dropB a e))) e = false → k [Dat.mk Ty.bool false])) ∧ ((!hasI (elems (dropB a e)) e) = false → k [Dat.mk Ty.bool false])) ∧ (hasI (elems (addB a e n)) e = false → k [Dat.mk Ty.bool false])))))))))) := by kernel_rfl
theorem vcLawC (v w : List Int) (n : Int) (k : List Dat → Prop) : vcF ⟨Eb, [(10, cFactM), (18, cMost), (19, cInts), (20, cUp), (21, cSum)], [], [], []⟩ (anLawC v w) (Try.f5.body.getD .skip) Try.f5.ntmps [(.tmp 6, .bool)] [⟨.sl I, v⟩, ⟨.sl I, w⟩, ⟨I, n⟩] k = (
  True ∧ ((!true) = true → k [Dat.mk Ty.bool false]) ∧ ((!true) = false → True ∧ True ∧ ((!decide (mostE v w = (0 : Int))) = true → ((!decide (mostE v w = (0 : Int))) = true → k [Dat.mk Ty.bool !decide (mostE w v = (0 : Int))]) ∧ ((!decide (mostE v w = (0 : Int))) = false → k [Dat.mk Ty.bool false])) ∧ ((!decide (mostE v w = (0 : Int))) = false → ((!decide (mostE w v = (0 : Int))) = true → ((!decide (mostE v w = (0 : Int))) = true → k [Dat.mk Ty.bool !decide (mostE w v = (0 : Int))]) ∧ ((!decide (mostE v w = (0 : Int))) = false → k [Dat.mk Ty.bool false])) ∧ ((!decide (mostE w v = (0 : Int))) = false → True ∧ ((!decide (mostR v w = mostR w v)) = true → k [Dat.mk Ty.bool false]) ∧ ((!decide (mostR v w = mostR w v)) = false → ((!decide ((↑(mostR v w).length : Int) = (↑v.length : Int))) = true → k [Dat.mk Ty.bool false]) ∧ ((!decide ((↑(mostR v w).length : Int) = (↑v.length : Int))) = false → ((!decide ((↑(mostR v w).length : Int) = (↑w.length : Int))) = true → k [Dat.mk Ty.bool false]) ∧ ((!decide ((↑(mostR v w).length : Int) = (↑w.length : Int))) = false → (∃ (x : Nat), (x ≤ (mostR v w).length ∧ mostE v w = (0 : Int)) ∧ (v = v ∧ w = w ∧ n = n ∧ mostR v w = mostR v w ∧ (0 : Int) = (↑x : Int) ∧ True) ∧ True ∧ True) ∧ ∀ (x : Nat), x ≤ (mostR v w).length ∧ mostE v w = (0 : Int) → (decide ((↑x : Int) < (↑(mostR v w).length : Int)) = true → ((0 : Int) ≤ (↑x : Int) ∧ (↑x : Int) < (↑(mostR v w).length : Int) ∧ (0 : Int) ≤ (↑x : Int) ∧ (↑x : Int) < (↑v.length : Int) ∧ (decide ((mostR v w).getD (↑x : Int).toNat (0 : Int) < v.getD (↑x : Int).toNat (0 : Int)) = true → True) ∧ (decide ((mostR v w).getD (↑x : Int).toNat (0 : Int) < v.getD (↑x : Int).toNat (0 : Int)) = false → (0 : Int) ≤ (↑x : Int) ∧ (↑x : Int) < (↑(mostR v w).length : Int) ∧ (0 : Int) ≤ (↑x : Int) ∧ (↑x : Int) < (↑w.length : Int) ∧ (decide ((mostR v w).getD (↑x : Int).toNat (0 : Int) < w.getD (↑x : Int).toNat (0 : Int)) = true → True) ∧ (decide ((mostR v w).getD (↑x : Int).toNat (0 : Int) < w.getD (↑x : Int).toNat (0 : Int)) = false → (0 : Int) ≤ (↑x : Int) ∧ (↑x : Int) < (↑(mostR v w).length : Int) ∧ (0 : Int) ≤ (↑x : Int) ∧ (↑x : Int) < (↑v.length : Int) ∧ ((!decide ((mostR v w).getD (↑x : Int).toNat (0 : Int) = v.getD (↑x : Int).toNat (0 : Int))) = true → (0 : Int) ≤ (↑x : Int) ∧ (↑x : Int) < (↑(mostR v w).length : Int) ∧ (0 : Int) ≤ (↑x : Int) ∧ (↑x : Int) < (↑w.length : Int) ∧ True) ∧ ((!decide ((mostR v w).getD (↑x : Int).toNat (0 : Int) = v.getD (↑x : Int).toNat (0 : Int))) = false → True)))) ∧ ((decide ((mostR v w).getD (↑x : Int).toNat (0 : Int) < v.getD (↑x : Int).toNat (0 : Int)) || (decide ((mostR v w).getD (↑x : Int).toNat (0 : Int) < w.getD (↑x : Int).toNat (0 : Int)) || !decide ((mostR v w).getD (↑x : Int).toNat (0 : Int) = v.getD (↑x : Int).toNat (0 : Int)) && !decide ((mostR v w).getD (↑x : Int).toNat (0 : Int) = w.getD (↑x : Int).toNat (0 : Int)))) = true → k [Dat.mk Ty.bool false]) ∧ ((decide ((mostR v w).getD (↑x : Int).toNat (0 : Int) < v.getD (↑x : Int).toNat (0 : Int)) || (decide ((mostR v w).getD (↑x : Int).toNat (0 : Int) < w.getD (↑x : Int).toNat (0 : Int)) || !decide ((mostR v w).getD (↑x : Int).toNat (0 : Int) = v.getD (↑x : Int).toNat (0 : Int)) && !decide ((mostR v w).getD (↑x : Int).toNat (0 : Int) = w.getD (↑x : Int).toNat (0 : Int)))) = false → inK IntKind.i64 ((↑x : Int) + (1 : Int)) ∧ ∃ (x_1 : Nat), (x_1 ≤ (mostR v w).length ∧ mostE v w = (0 : Int)) ∧ (mostR v w).length - x_1 < (mostR v w).length - x ∧ (v = v ∧ w = w ∧ n = n ∧ mostR v w = mostR v w ∧ (↑x : Int) + (1 : Int) = (↑x_1 : Int) ∧ True) ∧ True ∧ True)) ∧ (decide ((↑x : Int) < (↑(mostR v w).length : Int)) = false → True ∧ ((!decide (upE v n = (0 : Int))) = true → k [Dat.mk Ty.bool (decide ((↑(upR v n).length : Int) = (0 : Int)))]) ∧ ((!decide (upE v n = (0 : Int))) = false → True ∧ (decide (mostE (upR v n) v = (0 : Int)) = true → True ∧ (decide (mostR (upR v n) v = upR v n) = true → ((upR v n).length ≤ (1000 : Nat) ∧ ∀ (i : Nat), i < (upR v n).length → (0 : Int) ≤ (upR v n).getD i (0 : Int) ∧ (upR v n).getD i (0 : Int) ≤ (1000000 : Int)) ∧ (v.length ≤ (1000 : Nat) ∧ ∀ (i : Nat), i < v.length → (0 : Int) ≤ v.getD i (0 : Int) ∧ v.getD i (0 : Int) ≤ (1000000 : Int)) ∧ inK IntKind.i64 (smL v v.length + (1 : Int)) ∧ k [Dat.mk Ty.bool (decide (smL (upR v n) (upR v n).length = smL v v.length + (1 : Int)))]) ∧ (decide (mostR (upR v n) v = upR v n) = false → k [Dat.mk Ty.bool false])) ∧ (decide (mostE (upR v n) v = (0 : Int)) = false → k [Dat.mk Ty.bool false])))))))))) := by kernel_rfl
end Go.Proofs.Ytgcliogognkdkaa

/- Bags and counters: the laws hold. -/
namespace Go.Proofs.Ytgcliogognkdkaa
open Go.Vc

theorem has_vc (l : List Int) (t : Int) (hl : l.length ≤ maxLen) (k : List Dat → Prop) (hk : k [⟨.bool, hasI l t⟩]) : vcF ⟨Eb, [], [], [], []⟩ (anHas l t) (Try.f17.body.getD .skip) Try.f17.ntmps [(.tmp 4, .bool)] [⟨.sl I, l⟩, ⟨I, t⟩] k := by
  rw [vcHas]
  have hml : maxLen ≤ 9223372036854775807 := by decide
  have ret : ∀ x : Bool, hasI l t = x → k [⟨.bool, x⟩] := by rintro _ rfl; exact hk
  simp only [decide_eq_true_eq, decide_eq_false_iff_not, true_and, and_true, Int.toNat_natCast, inK_i64]
  refine ⟨⟨0, ⟨rfl, Nat.zero_le _⟩, rfl⟩, fun x ⟨ho, hx⟩ => ⟨fun hlt => ?_, fun hge => ret _ ?_⟩⟩
  · have hxl : x < l.length := by omega
    have hs : idnF l t (l.length - x) x = if l.getD x 0 = t then (x : Int) else idnF l t (l.length - (x + 1)) (x + 1) := by
      rw [show l.length - x = (l.length - (x + 1)) + 1 by omega]; rfl
    refine ⟨by omega, hlt, fun he => ret _ ?_, fun hne => ⟨by omega, x + 1, ⟨?_, by omega⟩, by omega, by omega⟩⟩
    · unfold hasI; rw [ho, hs, if_pos he]; exact decide_eq_true (by omega)
    · rw [ho, hs, if_neg hne]
  · have : x = l.length := by omega
    unfold hasI
    rw [ho, this, Nat.sub_self]; rfl
theorem okHas : PlainOk Try.prog [] 17 cHasI := by
  refine plain_of (CxOk.mk' Eb_ok (by kernel_rfl) mixed (gl := []) GOk.nil GoOk.nil noIt) Try.func17 (c := Try.f17.body.getD .skip) (rvs := [(.tmp 4, .bool)]) (by kernel_rfl) (by kernel_rfl) (by kernel_rfl) ?_
  intro ds k ⟨hp, hk⟩ hwf
  obtain ⟨l, t, rfl, -⟩ := dest2 hp
  exact ⟨anHas l t, has_vc l t (wf2 hwf).1.1 k hk⟩

theorem smL_in {l : List Int} (h : ∀ i, i < l.length → 0 ≤ l.getD i 0 ∧ l.getD i 0 ≤ 1000000) : ∀ n, n ≤ l.length → 0 ≤ smL l n ∧ smL l n ≤ 1000000 * (n : Int)
  | 0, _ => ⟨Int.le_refl _, Int.le_refl _⟩
  | n + 1, hn => by
    have h1 := smL_in h n (by omega)
    have h2 := h n (by omega)
    unfold smL
    omega
theorem sum_vc (l : List Int) (hl : l.length ≤ 1000) (hb : ∀ i, i < l.length → 0 ≤ l.getD i 0 ∧ l.getD i 0 ≤ 1000000) (k : List Dat → Prop) (hk : k [⟨I, smL l l.length⟩]) : vcF ⟨Eb, [], [], [], []⟩ (anSum l) (Try.f21.body.getD .skip) Try.f21.ntmps [(.tmp 2, I)] [⟨.sl I, l⟩] k := by
  rw [vcSum]
  simp only [decide_eq_true_eq, decide_eq_false_iff_not, true_and, and_true, Int.toNat_natCast, inK_i64]
  refine ⟨⟨0, Nat.zero_le _, rfl, rfl⟩, fun x hx => ⟨fun hlt => ?_, fun hge => ?_⟩⟩
  · have h1 := smL_in hb x hx
    have h2 := hb x (by omega)
    exact ⟨by omega, hlt, by omega, by omega, x + 1, by omega, by omega, rfl, by omega⟩
  · have : x = l.length := by omega
    rw [this]; exact hk
theorem okSum : PlainOk Try.prog [] 21 cSum := by
  refine plain_of (CxOk.mk' Eb_ok (by kernel_rfl) mixed (gl := []) GOk.nil GoOk.nil noIt) Try.func21 (c := Try.f21.body.getD .skip) (rvs := [(.tmp 2, I)]) (by kernel_rfl) (by kernel_rfl) (by kernel_rfl) ?_
  intro ds k ⟨hp, hk⟩ hwf
  obtain ⟨l, rfl, h1, h2⟩ := dest1 hp
  exact ⟨anSum l, sum_vc l h1 h2 k hk⟩

theorem factM_vc (k : List Dat → Prop) (hk : k [⟨.bool, true⟩]) : vcF ⟨Eb, [(11, cJoin), (14, cAdd), (15, cDrop), (16, cElems), (19, cInts)], [], [], []⟩ [joinAll] (Try.f10.body.getD .skip) Try.f10.ntmps [(.tmp 0, .bool)] [] k := by
  rw [vcFactM]
  have e1 : addE ([], [], ()) 3 0 = 0 := by decide
  have e2 : dropE (addB ([], [], ()) 3 0) 3 = 0 := by decide
  have e3 : addE (addB ([], [], ()) 3 0) 3 1 = 0 := by decide
  have e4 : joinE (dropB (addB ([], [], ()) 3 0) 3) (addB (addB ([], [], ()) 3 0) 3 1) = 0 := by decide
  have e5 : chkB (joinB (dropB (addB ([], [], ()) 3 0) 3) (addB (addB ([], [], ()) 3 0) 3 1)) = 0 := by decide
  have e6 : elems (joinB (dropB (addB ([], [], ()) 3 0) 3) (addB (addB ([], [], ()) 3 0) 3 1)) = [3] := by decide
  have e7 : (srt (([] : List Tag) ++ ofE (srt (([] : List Tag) ++ [(3, 0, maxC [] 0 ([] : List Int).length + 1, ())])) 3)).length = 1 := by decide
  simp only [decide_eq_true_eq, decide_eq_false_iff_not, e1, e2, e3, e4, e5, e6, e7, not_true_eq_false, false_implies, forall_const, and_true, true_and]
  refine ⟨fun _ => hk, fun h => absurd rfl h⟩
theorem okFactM : PlainOk Try.prog [] 10 cFactM := by
  refine plain_of (CxOk.mk' Eb_ok (by kernel_rfl) mixed (gl := []) (GOk.cons okJoin Try.func11 (by kernel_rfl) (by kernel_rfl) (GOk.cons okAdd Try.func14 (by kernel_rfl) (by kernel_rfl) (GOk.cons okDrop Try.func15 (by kernel_rfl) (by kernel_rfl) (GOk.cons okElems Try.func16 (by kernel_rfl) (by kernel_rfl) (GOk.cons okInts Try.func19 (by kernel_rfl) (by kernel_rfl) GOk.nil))))) GoOk.nil noIt) Try.func10 (c := Try.f10.body.getD .skip) (rvs := [(.tmp 0, .bool)]) (by kernel_rfl) (by kernel_rfl) (by kernel_rfl) ?_
  intro ds k ⟨hp, hk⟩ hwf
  obtain ⟨rfl, -⟩ := dest0 hp
  exact ⟨[joinAll], factM_vc k hk⟩

theorem lawJ_vc (a b c : Bag) (k : List Dat → Prop) (hk : k [⟨.bool, true⟩]) : vcF ⟨Eb, [(10, cFactM), (11, cJoin), (12, cSameB), (13, cCheck)], [], [], []⟩ [joinAll] (Try.f3.body.getD .skip) Try.f3.ntmps [(.tmp 6, .bool)] [⟨tB, a⟩, ⟨tB, b⟩, ⟨tB, c⟩] k := by
  rw [vcLawJ]
  have ret : ∀ x : Bool, x = true → k [⟨.bool, x⟩] := by rintro _ rfl; exact hk
  obtain ⟨c1, c2⟩ := join_comm (a := a) (b := b)
  by_cases h : joinE a b = 0
  · have h1 := c1.1 h
    have h2 := c2 h
    obtain ⟨h3, h4⟩ := join_again h
    have h5 := chk_iff.2 (join_good h)
    have e1 : (joinB b a).1 = (joinB a b).1 := by rw [h2]
    have e2 : (joinB b a).2.1 = (joinB a b).2.1 := by rw [h2]
    simp only [h, h1, h3, h4, h5, e1, e2, decide_true, Bool.not_true, Bool.false_eq_true, false_implies, forall_const, true_and, Bool.and_self, Bool.not_eq_true', Bool.not_eq_false', decide_eq_true_eq, decide_eq_false_iff_not]
    refine ⟨fun h6 => ret _ (by simp [h6]), fun h6 => ?_⟩
    obtain ⟨a1, a2, a3⟩ := join_assoc h h6
    simp only [a1, a2, a3, decide_true, not_true_eq_false, false_implies, forall_const, true_and, and_true, Bool.and_self]
    exact hk
  · have h1 : ¬ joinE b a = 0 := fun e => h (c1.2 e)
    simp only [h, h1, decide_false, Bool.not_false, Bool.not_true, Bool.true_eq_false, Bool.false_eq_true, false_implies, forall_const, true_and, and_true]
    exact hk
theorem okLawJ : PlainOk Try.prog [] 3 cLawJ := by
  refine plain_of (CxOk.mk' Eb_ok (by kernel_rfl) mixed (gl := []) (GOk.cons okFactM Try.func10 (by kernel_rfl) (by kernel_rfl) (GOk.cons okJoin Try.func11 (by kernel_rfl) (by kernel_rfl) (GOk.cons okSameB Try.func12 (by kernel_rfl) (by kernel_rfl) (GOk.cons okCheck Try.func13 (by kernel_rfl) (by kernel_rfl) GOk.nil)))) GoOk.nil noIt) Try.func3 (c := Try.f3.body.getD .skip) (rvs := [(.tmp 6, .bool)]) (by kernel_rfl) (by kernel_rfl) (by kernel_rfl) ?_
  intro ds k ⟨hp, hk⟩ hwf
  obtain ⟨a, b, c, rfl, -⟩ := dest3 hp
  exact ⟨[joinAll], lawJ_vc a b c k hk⟩

theorem lawA_vc (a : Bag) (e n o : Int) (k : List Dat → Prop) (hk : k [⟨.bool, true⟩]) : vcF ⟨Eb, [(10, cFactM), (11, cJoin), (14, cAdd), (15, cDrop), (16, cElems), (17, cHasI)], [], [], []⟩ [joinAll] (Try.f4.body.getD .skip) Try.f4.ntmps [(.tmp 8, .bool)] [⟨tB, a⟩, ⟨I, e⟩, ⟨I, n⟩, ⟨I, o⟩] k := by
  rw [vcLawA]
  by_cases h : addE a e n = 0
  · obtain ⟨a1, a2, a3, a4, a5, a6, a7, a8, a9, a10⟩ := adds h
    have b7 := hasI_iff.2 a7
    have b9 := hasI_iff.2 a9
    have b8 : hasI (elems (dropB a e)) e = false := by
      cases hq : hasI (elems (dropB a e)) e with
      | false => rfl
      | true => exact absurd (hasI_iff.1 hq) a8
    simp only [h, a1, a2, a3, a4, a5, a6, b7, b8, b9, decide_true, Bool.not_true, Bool.not_false, Bool.false_eq_true, Bool.true_eq_false, false_implies, forall_const, true_and, and_true, decide_eq_true_eq, decide_eq_false_iff_not]
    refine ⟨fun _ => hk, fun ho => ?_⟩
    obtain ⟨i1, i2, i3⟩ := a10 o ho
    have key : ∀ {l m : List Int}, (o ∈ l ↔ o ∈ m) → hasI l o = hasI m o := fun {l m} h => by
      rw [Bool.eq_iff_iff, hasI_iff, hasI_iff]; exact h
    simp only [key i1, key i2, key i3, beq_self_eq_true, Bool.true_eq_false, forall_const, false_implies, and_true]
    exact hk
  · simp only [h, decide_false, Bool.not_false, Bool.not_true, Bool.true_eq_false, Bool.false_eq_true, false_implies, forall_const, true_and, and_true]
    exact hk
theorem okLawA : PlainOk Try.prog [] 4 cLawA := by
  refine plain_of (CxOk.mk' Eb_ok (by kernel_rfl) mixed (gl := []) (GOk.cons okFactM Try.func10 (by kernel_rfl) (by kernel_rfl) (GOk.cons okJoin Try.func11 (by kernel_rfl) (by kernel_rfl) (GOk.cons okAdd Try.func14 (by kernel_rfl) (by kernel_rfl) (GOk.cons okDrop Try.func15 (by kernel_rfl) (by kernel_rfl) (GOk.cons okElems Try.func16 (by kernel_rfl) (by kernel_rfl) (GOk.cons okHas Try.func17 (by kernel_rfl) (by kernel_rfl) GOk.nil)))))) GoOk.nil noIt) Try.func4 (c := Try.f4.body.getD .skip) (rvs := [(.tmp 8, .bool)]) (by kernel_rfl) (by kernel_rfl) (by kernel_rfl) ?_
  intro ds k ⟨hp, hk⟩ hwf
  obtain ⟨a, e, n, o, rfl, -⟩ := dest4 hp
  exact ⟨[joinAll], lawA_vc a e n o k hk⟩

/-! Counters. -/
theorem cntF_zero {l : List Int} : ∀ (f i : Nat), (∀ j, i ≤ j → j < i + f → 0 ≤ l.getD j 0 ∧ l.getD j 0 ≤ 1000000) → cntF l f i = 0
  | 0, _, _ => rfl
  | f + 1, i, h => by
    unfold cntF
    rw [if_pos (by have := h i (Nat.le_refl _) (by omega); unfold inB; rw [decide_eq_true this.1, decide_eq_true this.2]; rfl)]
    exact cntF_zero f (i + 1) fun j h1 h2 => h j (by omega) (by omega)
theorem cnt_mk {l : List Int} (h1 : 1 ≤ l.length) (h2 : l.length ≤ 5) (h : ∀ j, j < l.length → 0 ≤ l.getD j 0 ∧ l.getD j 0 ≤ 1000000) : cntE l = 0 := by
  unfold cntE
  rw [if_neg (by omega), if_neg (by omega)]
  exact cntF_zero _ _ fun j _ hj => h j (by omega)
theorem mostE_iff {v w : List Int} : mostE v w = 0 ↔ cntE v = 0 ∧ cntE w = 0 ∧ v.length = w.length := by
  unfold mostE
  by_cases h1 : cntE v = 0
  · rw [if_pos h1]
    by_cases h2 : cntE w = 0
    · rw [if_pos h2]
      by_cases h3 : v.length = w.length
      · rw [if_pos h3]; exact ⟨fun _ => ⟨h1, h2, h3⟩, fun _ => rfl⟩
      · rw [if_neg h3]; exact ⟨fun e => (by cases e), fun e => absurd e.2.2 h3⟩
    · rw [if_neg h2]; exact ⟨fun e => absurd e h2, fun e => absurd e.2.1 h2⟩
  · rw [if_neg h1]; exact ⟨fun e => absurd e h1, fun e => absurd e.1 h1⟩
theorem getD_set_eq {α : Type} (l : List α) (i : Nat) (x d : α) (h : i < l.length) : (l.set i x).getD i d = x := by
  rw [List.getD_eq_getElem?_getD, List.getElem?_set_self h]; rfl
theorem mostU_get {v w : List Int} : ∀ n, n ≤ v.length → ∀ j, j < v.length → (mostU v w n).getD j 0 = if j < n then max (v.getD j 0) (w.getD j 0) else v.getD j 0
  | 0, _, j, _ => by simp [mostU]
  | n + 1, hn, j, hj => by
    have ih := mostU_get (v := v) (w := w) n (by omega)
    unfold mostU
    by_cases hjn : n = j
    · subst hjn
      rw [getD_set_eq _ _ _ _ (by rw [mostU_len]; omega), ih n hj, if_neg (by omega), if_pos (by omega)]
    · rw [getD_set_of _ _ _ _ _ hjn, ih j hj]
      by_cases hlt : j < n
      · rw [if_pos hlt, if_pos (by omega)]
      · rw [if_neg hlt, if_neg (by omega)]
theorem list_ext0 {l m : List Int} (h : l.length = m.length) (he : ∀ j, j < l.length → l.getD j 0 = m.getD j 0) : l = m := by
  apply List.ext_getElem h
  intro j h1 h2
  have := he j h1
  rwa [List.getD_eq_getElem?_getD, List.getD_eq_getElem?_getD, List.getElem?_eq_getElem h1, List.getElem?_eq_getElem h2] at this
theorem mostR_len {v w : List Int} (h : mostE v w = 0) : (mostR v w).length = v.length := by unfold mostR; rw [if_pos h, mostU_len]
theorem mostR_get {v w : List Int} (h : mostE v w = 0) {j : Nat} (hj : j < v.length) : (mostR v w).getD j 0 = max (v.getD j 0) (w.getD j 0) := by
  have hl := (mostE_iff.1 h).2.2
  unfold mostR
  rw [if_pos h, mostU_get w.length (by omega) j hj, if_pos (by omega)]
theorem smL_set {v : List Int} {n : Nat} (hn : n < v.length) : ∀ m, m ≤ v.length → smL (v.set n (v.getD n 0 + 1)) m = if n < m then smL v m + 1 else smL v m
  | 0, _ => rfl
  | m + 1, hm => by
    have ih := smL_set (v := v) hn m (by omega)
    unfold smL
    rw [ih]
    by_cases h : n = m
    · subst h
      rw [if_neg (by omega), if_pos (by omega), getD_set_eq _ _ _ _ hn]; omega
    · rw [getD_set_of _ _ _ _ _ h]
      by_cases h2 : n < m
      · rw [if_pos h2, if_pos (by omega)]; omega
      · rw [if_neg h2, if_neg (by omega)]
theorem ups {v : List Int} {n : Int} (h : upE v n = 0) : cntE v = 0 ∧ (0 ≤ n ∧ n < (v.length : Int)) ∧ upR v n = v.set n.toNat (v.getD n.toNat 0 + 1) ∧ v.getD n.toNat 0 ≠ 1000000 := by
  have hR : upR v n = v.set n.toNat (v.getD n.toNat 0 + 1) := by unfold upR; rw [if_pos h]
  unfold upE at h
  by_cases h1 : cntE v = 0
  · rw [if_pos h1] at h
    by_cases h2 : inB n 0 ((v.length : Int) - 1) = true
    · rw [if_pos h2] at h
      have hn : 0 ≤ n ∧ n < (v.length : Int) := by
        unfold inB at h2
        simp only [Bool.and_eq_true, decide_eq_true_eq] at h2; omega
      by_cases h3 : v.getD n.toNat 0 = 1000000
      · rw [if_pos h3] at h; cases h
      · exact ⟨h1, hn, hR, h3⟩
    · rw [if_neg h2] at h; cases h
  · rw [if_neg h1] at h; exact absurd h h1

theorem lawC_vc (v w : List Int) (n : Int) (k : List Dat → Prop) (hk : k [⟨.bool, true⟩]) : vcF ⟨Eb, [(10, cFactM), (18, cMost), (19, cInts), (20, cUp), (21, cSum)], [], [], []⟩ (anLawC v w) (Try.f5.body.getD .skip) Try.f5.ntmps [(.tmp 6, .bool)] [⟨.sl I, v⟩, ⟨.sl I, w⟩, ⟨I, n⟩] k := by
  rw [vcLawC]
  have ret : ∀ x : Bool, x = true → k [⟨.bool, x⟩] := by rintro _ rfl; exact hk
  by_cases h : mostE v w = 0
  · obtain ⟨h1, h2, h3⟩ := mostE_iff.1 h
    have h4 : mostE w v = 0 := mostE_iff.2 ⟨h2, h1, h3.symm⟩
    have hl1 := mostR_len h
    have hl2 := mostR_len h4
    have he : mostR v w = mostR w v := by
      refine list_ext0 (by omega) fun j hj => ?_
      rw [mostR_get h (by omega), mostR_get h4 (by omega)]; omega
    have hcl := cnt_len h1
    have e1 : (((mostR v w).length : Nat) : Int) = (v.length : Int) := by omega
    have e2 : (((mostR v w).length : Nat) : Int) = (w.length : Int) := by omega
    have e3 : decide ((v.length : Int) = (w.length : Int)) = true := decide_eq_true (by omega)
    simp only [h, h4, ← he, hl1, e3, decide_true, Bool.not_true, Bool.false_eq_true, Bool.true_eq_false, false_implies, forall_const, true_and, and_true, decide_eq_true_eq, decide_eq_false_iff_not, Int.toNat_natCast, inK_i64, Bool.not_eq_true', Bool.not_eq_false']
    refine ⟨⟨0, Nat.zero_le _, rfl⟩, fun x hx => ⟨fun hlt => ?_, fun hge => ?_⟩⟩
    · have hg := mostR_get h (j := x) (by omega)
      have hb : (decide ((mostR v w).getD x 0 < v.getD x 0) || (decide ((mostR v w).getD x 0 < w.getD x 0) || !decide ((mostR v w).getD x 0 = v.getD x 0) && !decide ((mostR v w).getD x 0 = w.getD x 0))) = false := by
        rw [hg, decide_eq_false (by omega), decide_eq_false (by omega)]
        rcases Int.le_total (v.getD x 0) (w.getD x 0) with hq | hq
        · rw [decide_eq_true (p := max _ _ = w.getD x 0) (by omega)]; simp
        · rw [decide_eq_true (p := max _ _ = v.getD x 0) (by omega)]; simp
      refine ⟨⟨by omega, by omega, by omega, by omega, fun _ => trivial, fun _ => ⟨by omega, by omega, by omega, by omega, fun _ => trivial, fun _ => ⟨by omega, by omega, by omega, by omega, fun _ => ⟨by omega, by omega, by omega, by omega⟩, fun _ => trivial⟩⟩⟩, fun hq => ?_, fun _ => ⟨by omega, x + 1, by omega, by omega, by omega⟩⟩
      rw [hb] at hq; cases hq
    · refine ⟨fun hu => ret _ ?_, fun hu => ?_⟩
      · unfold upR; rw [if_neg hu]; rfl
      · obtain ⟨u1, u2, u3, u4⟩ := ups hu
        have hv := cnt_all u1
        have hul : (upR v n).length = v.length := by rw [u3, List.length_set]
        have hug : ∀ j, j < v.length → (upR v n).getD j 0 = if j = n.toNat then v.getD j 0 + 1 else v.getD j 0 := fun j hj => by
          rw [u3]
          by_cases hjn : n.toNat = j
          · subst hjn; rw [getD_set_eq _ _ _ _ hj, if_pos rfl]
          · rw [getD_set_of _ _ _ _ _ hjn, if_neg (fun e => hjn e.symm)]
        have hub : ∀ j, j < (upR v n).length → 0 ≤ (upR v n).getD j 0 ∧ (upR v n).getD j 0 ≤ 1000000 := fun j hj => by
          rw [hul] at hj
          rw [hug j hj]
          have := hv j hj
          split
          · rename_i e
            have : v.getD j 0 ≠ 1000000 := by rw [e]; exact u4
            omega
          · omega
        have uc : cntE (upR v n) = 0 := cnt_mk (by omega) (by omega) hub
        have um : mostE (upR v n) v = 0 := mostE_iff.2 ⟨uc, u1, hul⟩
        have ur : mostR (upR v n) v = upR v n := by
          refine list_ext0 (mostR_len um) fun j hj => ?_
          rw [mostR_len um] at hj
          rw [mostR_get um hj, hug j (by omega)]
          split <;> omega
        have us : smL (upR v n) v.length = smL v v.length + 1 := by
          rw [u3, smL_set (by omega) v.length (Nat.le_refl _), if_pos (by omega)]
        have hs := smL_in hv v.length (Nat.le_refl _)
        simp only [um, ur, hul, us, decide_true, forall_const, Bool.true_eq_false, not_true_eq_false, false_implies, and_true]
        refine ⟨⟨by omega, fun j hj => hub j (by omega)⟩, ⟨by omega, hv⟩, by omega, hk⟩
  · have h1 : ¬ mostE w v = 0 := fun e => h (by obtain ⟨a, b, c⟩ := mostE_iff.1 e; exact mostE_iff.2 ⟨b, a, c.symm⟩)
    simp only [h, h1, decide_false, Bool.not_false, Bool.not_true, Bool.true_eq_false, Bool.false_eq_true, false_implies, forall_const, true_and, and_true]
    exact hk
theorem okLawC : PlainOk Try.prog [] 5 cLawC := by
  refine plain_of (CxOk.mk' Eb_ok (by kernel_rfl) mixed (gl := []) (GOk.cons okFactM Try.func10 (by kernel_rfl) (by kernel_rfl) (GOk.cons okMost Try.func18 (by kernel_rfl) (by kernel_rfl) (GOk.cons okInts Try.func19 (by kernel_rfl) (by kernel_rfl) (GOk.cons okUp Try.func20 (by kernel_rfl) (by kernel_rfl) (GOk.cons okSum Try.func21 (by kernel_rfl) (by kernel_rfl) GOk.nil))))) GoOk.nil noIt) Try.func5 (c := Try.f5.body.getD .skip) (rvs := [(.tmp 6, .bool)]) (by kernel_rfl) (by kernel_rfl) (by kernel_rfl) ?_
  intro ds k ⟨hp, hk⟩ hwf
  obtain ⟨v, w, n, rfl, -⟩ := dest3 hp
  exact ⟨anLawC v w, lawC_vc v w n k hk⟩
end Go.Proofs.Ytgcliogognkdkaa
