/- Clocks that look at the time: the loops of the laws. -/
import Derived.Test.YtgbpjjinhjikeaaDef5
namespace Go.Proofs.Ytgbpjjinhjikeaa
open Go.Vc
def rightP (t : Tr) (ts : List Int) (i : Nat) (k : Nat) (r : Bool) : Prop := r = true → ∀ m, m < k → bitB ((bef t).getD i 0) (m : Int) = true → ts.getD m 0 < ts.getD i 0
def anTrue (t : Tr) (ts : List Int) : Ann :=
  [joinAll,
   loopAt 11 Nat [] (fun st i => St.at (St.only st [0, 1, 2, 6, 8]) [(10, .d I (i : Int))]) (fun _ i => i ≤ t.2.1.length ∧ True) (fun i => t.2.1.length - i),
   loopAt 15 (Nat × Bool) [] (fun st x => St.at (St.only st [0, 1, 2, 6, 8, 10]) [(11, .d .bool x.2), (12, .d I (x.1 : Int))]) (fun st x => (x.1 : Int) ≤ st.i 10 ∧ rightP t ts (st.i 10).toNat x.1 x.2) (fun x => t.2.1.length - x.1)]
def lessB (a b : Stp) : Bool := decide (a.1 < b.1) || decide (a.1 = b.1) && decide (a.2.1 < b.2.1)
def cLess : Ctr := cdet [tSt, tSt] (fun _ _ => True) (fun a b => [⟨.bool, lessB a b⟩])
def popN : Nat → Nat → Nat
  | 0, _ => 0
  | f + 1, a => if a = 0 then 0 else a % 2 + popN f (a / 2)
def pop (a : Int) : Int := ((popN a.toNat a.toNat : Nat) : Int)
def cMany : Ctr := cdet [I] (fun _ => True) (fun a => [⟨I, pop a⟩])
def anMany (a : Int) : Ann := an1 (Int × Int) 2 (fun st x => St.at st [(0, .d I x.1), (3, .d I x.2)]) (fun x => pop a = pop x.1 + x.2 ∧ 0 ≤ x.2 ∧ inK .i64 x.1) (fun x => x.1.toNat)
def mostP (t : Tr) (ts : List Int) (i : Int) (k : Nat) (m : Int) : Prop :=
  ts.getD i.toNat 0 ≤ m ∧ (∀ q, q < k → bitB ((bef t).getD i.toNat 0) (q : Int) = true → ts.getD q 0 ≤ m) ∧ (m = ts.getD i.toNat 0 ∨ ∃ q, q < t.2.1.length ∧ bitB ((bef t).getD i.toNat 0) (q : Int) = true ∧ m = ts.getD q 0)
def anHBef (t : Tr) (ts : List Int) (i : Int) : Ann :=
  [joinAll,
   loopAt 14 (Nat × Int) [] (fun st x => St.at (St.only st [0, 1, 2, 3, 4, 10, 12]) [(14, .d I x.2), (15, .d I (x.1 : Int))]) (fun _ x => x.1 ≤ t.2.1.length ∧ mostP t ts i x.1 x.2) (fun x => t.2.1.length - x.1)]
end Go.Proofs.Ytgbpjjinhjikeaa
