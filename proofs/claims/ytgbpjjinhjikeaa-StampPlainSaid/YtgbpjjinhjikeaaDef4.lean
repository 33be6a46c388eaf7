/- Traces: the law that what happened before is the least order. -/
import Derived.Test.YtgbpjjinhjikeaaDef3
namespace Go.Proofs.Ytgbpjjinhjikeaa
open Go.Vc
/-- one is to be behind the other one: it is ahead of it at its process, or it heard of it -/
def mustP (t : Tr) (i j : Nat) : Prop := (t.2.1.getD j (0, 0, ())).1 = (t.2.1.getD i (0, 0, ())).1 ∨ (t.2.1.getD i (0, 0, ())).2.1 = (j : Int)
def pairP (t : Tr) (o : List Int) (i j : Nat) : Prop :=
  0 ≤ o.getD i 0 ∧ (mustP t i j → bitB (o.getD i 0) j = true) ∧ (bitB (o.getD i 0) j = true → subB (o.getD j 0) (o.getD i 0) = true)
def goodP (t : Tr) (o : List Int) (g : Bool) (i j : Nat) : Prop :=
  g = true → o.length = t.2.1.length ∧ (∀ a b, a < i → b < a → pairP t o a b) ∧ ∀ b, b < j → pairP t o i b
def anLaw (t : Tr) (o : List Int) : Ann :=
  [loopAt 12 (Nat × Bool) [] (fun st x => St.at (St.only st [0, 1, 2, 3, 6, 8]) [(9, .d .bool x.2), (10, .d I (x.1 : Int))]) (fun _ x => x.1 ≤ t.2.1.length ∧ goodP t o x.2 x.1 0) (fun x => t.2.1.length - x.1),
   loopAt 17 (Nat × Bool) [] (fun st x => St.at (St.only st [0, 1, 2, 3, 6, 8, 10]) [(9, .d .bool x.2), (11, .d I (x.1 : Int))]) (fun st x => (x.1 : Int) ≤ st.i 10 ∧ goodP t o x.2 (st.i 10).toNat x.1) (fun x => t.2.1.length - x.1),
   loopAt 24 Nat [] (fun st x => St.at (St.only st [0, 1, 2, 3, 6, 8, 9]) [(13, .d I (x : Int))]) (fun _ x => x ≤ t.2.1.length ∧ True) (fun x => t.2.1.length - x)]
end Go.Proofs.Ytgbpjjinhjikeaa
