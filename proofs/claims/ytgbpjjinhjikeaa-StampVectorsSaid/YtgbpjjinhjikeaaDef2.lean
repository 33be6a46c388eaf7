/- Traces: what happened before what. -/
import Derived.Test.YtgbpjjinhjikeaaDef
namespace Go.Proofs.Ytgbpjjinhjikeaa
open Go.Vc
def bst (l : List Ev) : Nat → List Nat × List Nat
  | 0 => (List.replicate l.length 0, List.replicate 5 0)
  | i + 1 =>
    ((bst l i).1.set i (if 0 ≤ (l.getD i (0, 0, ())).2.1 then (bst l i).2.getD (l.getD i (0, 0, ())).1.toNat 0 ||| ((bst l i).1.getD (l.getD i (0, 0, ())).2.1.toNat 0 ||| 2 ^ (l.getD i (0, 0, ())).2.1.toNat) else (bst l i).2.getD (l.getD i (0, 0, ())).1.toNat 0),
     (bst l i).2.set (l.getD i (0, 0, ())).1.toNat ((if 0 ≤ (l.getD i (0, 0, ())).2.1 then (bst l i).2.getD (l.getD i (0, 0, ())).1.toNat 0 ||| ((bst l i).1.getD (l.getD i (0, 0, ())).2.1.toNat 0 ||| 2 ^ (l.getD i (0, 0, ())).2.1.toNat) else (bst l i).2.getD (l.getD i (0, 0, ())).1.toNat 0) ||| 2 ^ i))
def ints (l : List Nat) : List Int := l.map fun (n : Nat) => (n : Int)
/-- of each event all that happened before it -/
def befN (t : Tr) : List Nat := (bst t.2.1 t.2.1.length).1
def bef (t : Tr) : List Int := if chk t = 0 then ints (befN t) else []
def cBefore : Ctr := cdet [tTr] (fun _ => True) (fun t => [⟨.sl I, bef t⟩, ⟨tErr, chk t⟩])
def anBefore (t : Tr) : Ann := an1 Nat 7 (fun st i => { St.at st [(21, .d I (i : Int)), (7, .any), (8, .any)] with ob := (st.ob.set 1 (.row 3 I (ints (bst t.2.1 i).1))).set 2 (.var 55 (.ar 5 I) (ints (bst t.2.1 i).2)) }) (fun i => i ≤ t.2.1.length ∧ chk t = 0) (fun i => t.2.1.length - i)
end Go.Proofs.Ytgbpjjinhjikeaa
