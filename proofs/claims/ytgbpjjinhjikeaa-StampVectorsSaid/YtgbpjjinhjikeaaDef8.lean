/- Clocks that count: which vector is below, the small trace, the laws' loops. -/
import Derived.Test.YtgbpjjinhjikeaaDef7
import Derived.Test.YtgbpjjinhjikeaaDef4
namespace Go.Proofs.Ytgbpjjinhjikeaa
open Go.Vc
def cEqual : Ctr := cdet [.sl I, .sl I] (fun _ _ => True) (fun (a b : List Int) => [⟨.bool, a == b⟩])
def anEqual (a b : List Int) : Ann := an1 Nat 4 (fun st i => St.at (St.only st [0, 1, 12]) [(13, .d I (i : Int))]) (fun i => i ≤ a.length ∧ a.take i = b.take i) (fun i => a.length - i)
def allLe (v w : List Int) : Bool := (List.range v.length).all fun i => decide (v.getD i 0 ≤ w.getD i 0)
def blwB (v w : List Int) : Bool := decide (v.length = w.length) && (allLe v w && !(v == w))
def blwE (v w : List Int) : Int := if v.length = w.length then 0 else 3
def cBelow : Ctr := cdet [.sl I, .sl I] (fun _ _ => True) (fun (a b : List Int) => [⟨.bool, blwB a b⟩, ⟨tErr, blwE a b⟩])
def anBelow (v w : List Int) : Ann := an1 Nat 4 (fun st i => St.at (St.only st [0, 1, 14]) [(15, .d I (i : Int))]) (fun i => i ≤ v.length ∧ ∀ j, j < i → v.getD j 0 ≤ w.getD j 0) (fun i => v.length - i)
def cRows : Ctr := cdet [.sl (.sl I), .sl (.sl I)] (fun _ _ => True) (fun (a b : List (List Int)) => [⟨.bool, a == b⟩])
def anRows (a b : List (List Int)) : Ann := an1 Nat 4 (fun st i => St.at (St.only st [0, 1]) [(5, .d I (i : Int))]) (fun i => i ≤ a.length ∧ a.take i = b.take i) (fun i => a.length - i)
def cSFact : Ctr := cdet [] True [⟨.bool, true⟩]
def anSP (t : Tr) (i : Int) : Ann :=
  [joinAll, loopAt 15 Nat [] (fun st k => St.at (St.only st [0, 1, 2, 3, 8, 10]) [(12, .d I (k : Int))])
    (fun _ k => k ≤ t.2.1.length ∧ ∀ m, m < k → ¬ (bitB ((bef t).getD i.toNat 0) (m : Int) = true ∧ (plain t).getD m 0 + 1 = (plain t).getD i.toNat 0)) (fun k => t.2.1.length - k)]
end Go.Proofs.Ytgbpjjinhjikeaa
