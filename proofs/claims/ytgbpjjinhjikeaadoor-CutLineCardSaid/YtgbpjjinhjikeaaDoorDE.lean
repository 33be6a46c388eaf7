/- Cuts: of a trace and a cut: of each process its events. -/
import Derived.Test.YtgbpjjinhjikeaaDoorDA
namespace Go.Proofs.YtgbpjjinhjikeaaDoor
open Go.Vc
/-- the places of a process's events among the first k -/
def ofU (l : List Ev) (p : Int) (k : Nat) : List Int := ((List.range k).filter fun i => decide ((l.getD i (0, 0, ())).1 = p)).map fun (i : Nat) => (i : Int)
def ofT (t : Tr) (p : Int) : List Int := ofU t.2.1 p t.2.1.length
def ofE (t : Tr) (p : Int) : Int := if chk t = 0 then (if inB p 0 (t.1 - 1) = true then 0 else 1) else chk t
def cOf : Ctr := cdet [tTr, I] (fun _ _ => True) (fun t p => [⟨.sl I, if ofE t p = 0 then ofT t p else []⟩, ⟨tErr, ofE t p⟩])
def anOf (t : Tr) (p : Int) : Ann :=
  [joinAll, loopAt 8 Nat [(7, 3, I)] (fun st i => { St.at (St.only st [0, 1, 2, 4, 5, 7, 23, 24]) [(25, .d I (i : Int))] with ob := st.ob.set 1 (.row 3 I (ofU t.2.1 p i)) }) (fun _ i => i ≤ t.2.1.length ∧ chk t = 0) (fun i => t.2.1.length - i)]
/-- of each process its events -/
def rowsT (t : Tr) (k : Nat) : List (List Int) := (List.range k).map fun (p : Nat) => ofT t (p : Int)
/-- is each number within its row? -/
def cutOk (t : Tr) (c : List Int) : Bool := (List.range c.length).all fun p => inB (c.getD p 0) 0 ((ofT t (p : Int)).length : Int)
def cutE (t : Tr) (c : List Int) : Int := if chk t = 0 then (if (c.length : Int) = t.1 then (if cutOk t c = true then 0 else 1) else 3) else chk t
def cOfs : Ctr := cdet [tTr, .sl I] (fun _ _ => True) (fun t c => [⟨.sl (.sl I), if cutE t c = 0 then rowsT t t.1.toNat else []⟩, ⟨tErr, cutE t c⟩])
def anOfs (t : Tr) (c : List Int) : Ann :=
  [joinAll, loopAt 3 Nat [(6, 30, .sl I)] (fun st i => { St.at (St.only st [0, 1, 2, 4, 5, 6, 14]) [(15, .d I (i : Int))] with ob := st.ob.set 1 (.row 30 (.sl I) (rowsT t i)) }) (fun _ i => ((i : Int) ≤ t.1 ∨ i = 0) ∧ (0 < t.1 → chk t = 0 ∨ i = 0)) (fun i => t.1.toNat - i),
   loopAt 16 Nat [] (fun st i => St.at (St.only st [0, 1, 2, 4, 5, 6, 43, 44]) [(45, .d I (i : Int))]) (fun _ i => i ≤ c.length ∧ chk t = 0 ∧ (c.length : Int) = t.1 ∧ ∀ p, p < i → inB (c.getD p 0) 0 ((ofT t (p : Int)).length : Int) = true) (fun i => c.length - i)]
end Go.Proofs.YtgbpjjinhjikeaaDoor

/- Cuts: the events of a cut, and whether it is whole. -/
namespace Go.Proofs.YtgbpjjinhjikeaaDoor
open Go.Vc
/-- a set and some places -/
def orB (s : Nat) (l : List Int) : Nat := l.foldl (fun a i => a ||| 2 ^ i.toNat) s
/-- the first ones of a process's events that a cut has -/
def takeC (t : Tr) (c : List Int) (p : Nat) : List Int := (ofT t (p : Int)).take (c.getD p 0).toNat
def setK (t : Tr) (c : List Int) (k : Nat) : Nat := (List.range k).foldl (fun s p => orB s (takeC t c p)) 0
def setN (t : Tr) (c : List Int) : Nat := setK t c c.length
def setE (t : Tr) (c : List Int) : Int := if cutE t c = 0 then (setN t c : Int) else 0
def cEvents : Ctr := cdet [tTr, .sl I] (fun _ _ => True) (fun t c => [⟨I, setE t c⟩, ⟨tErr, cutE t c⟩])
def anEvents (t : Tr) (c : List Int) : Ann :=
  [joinAll, loopAt 6 Nat [] (fun st i => St.at (St.only st [0, 1, 2, 4, 5, 6, 22, 23]) [(24, .d I (i : Int)), (8, .d I (setK t c i : Int))]) (fun _ i => i ≤ c.length ∧ cutE t c = 0) (fun i => c.length - i),
   loopAt 9 Nat [] (fun st i => St.at (St.only st [0, 1, 2, 4, 5, 6, 22, 23, 24, 34, 35]) [(36, .d I (i : Int)), (8, .d I (orB (setK t c (st.i 24).toNat) ((takeC t c (st.i 24).toNat).take i) : Int))])
     (fun st i => i ≤ (takeC t c (st.i 24).toNat).length ∧ True) (fun i => c.length + t.2.1.length - i)]
def cHas : Ctr := cdet [I, I] (fun (s i : Int) => (0 ≤ s ∧ 0 ≤ i ∧ i < 64) ∧ True) (fun (s i : Int) => [⟨.bool, s.toNat.testBit i.toNat⟩])
def cBitsF : Ctr := cdet [I] (fun _ => True) (fun (s : Int) => [⟨tF, some (some s, ())⟩])
/-- is a set of events closed: does it hold of what each of its events heard? -/
def heard (l : List Ev) (N : Nat) (i : Int) : Bool := decide ((l.getD i.toNat (0, 0, ())).2.1 < 0) || N.testBit (l.getD i.toNat (0, 0, ())).2.1.toNat
def wholeB (t : Tr) (c : List Int) : Bool := (bitsOf (setN t c : Int)).all (heard t.2.1 (setN t c))
def cIs : Ctr := cdet [tTr, .sl I] (fun _ _ => True) (fun t c => [⟨.bool, if cutE t c = 0 then wholeB t c else false⟩, ⟨tErr, cutE t c⟩])
def anIs (t : Tr) (c : List Int) : Ann :=
  [joinAll, rangeAt 6 I (List Int) id (fun st _ => St.only st [2, 4, 5, 6, 20]) (fun _ l => cutE t c = 0 ∧ ∀ y ∈ l, heard t.2.1 (setN t c) y = true)]
def anBits : Ann := [freezeAt 1 [1]]
end Go.Proofs.YtgbpjjinhjikeaaDoor

/- Cuts: the line in a cut. -/
namespace Go.Proofs.YtgbpjjinhjikeaaDoor
open Go.Vc
def wholeP (t : Tr) (c : List Int) : Prop := cutE t c = 0 ∧ wholeB t c = true
/-- is one cut in the other one? -/
def leC (c d : List Int) : Prop := c.length = d.length ∧ ∀ p, p < c.length → c.getD p 0 ≤ d.getD p 0
/-- what the line in a cut is, as long as it is sought: in the cut, and no whole cut in it goes beyond -/
def lnP (t : Tr) (c l : List Int) : Prop := cutE t l = 0 ∧ leC l c ∧ ∀ d, wholeP t d → leC d c → leC d l
def lineP (t : Tr) (c l : List Int) : Prop := lnP t c l ∧ wholeB t l = true
def cLine : Ctr := cgen [tTr, .sl I] fun t c (k : List Dat → Prop) => ∀ l : List Int, (cutE t c = 0 → lineP t c l) → (cutE t c ≠ 0 → l = []) → k [⟨.sl I, l⟩, ⟨tErr, cutE t c⟩]
def sumC (l : List Int) : Nat := (l.map Int.toNat).sum
def rowOf (st : St) : Option (List Int) :=
  match st.ob.getD 1 .dead with
  | .row _ (.int .i64) l => some l
  | _ => none
/-- of the first processes all heard is in the set -/
def fineP (t : Tr) (l : List Int) (i : Nat) : Prop := ∀ p, p < i → ∀ y ∈ takeC t l p, heard t.2.1 (setN t l) y = true
def inLine (t : Tr) (c l0 : List Int) (x : Nat × Bool × List Int) : Prop :=
  x.1 ≤ c.length ∧ lnP t c x.2.2 ∧ leC x.2.2 l0 ∧ (x.2.1 = false → x.2.2 = l0 ∧ fineP t l0 x.1) ∧ (x.2.1 = true → sumC x.2.2 < sumC l0)
def inRow (t : Tr) (N : Nat) (l : List Int) (p n : Nat) : Prop := n ≤ (takeC t l p).length ∧ ∀ y ∈ (takeC t l p).take n, heard t.2.1 N y = true
def anLine (t : Tr) (c : List Int) : Ann :=
  [joinAll,
   loopAt 5 (List Int) [] (fun st l => { St.only st [0, 1, 2, 4, 5, 6, 8] with ob := st.ob.set 1 (.row 3 I l) }) (fun _ l => lnP t c l ∧ cutE t c = 0) sumC,
   loopAt 10 (Nat × Bool × List Int) [] (fun st x => { St.at (St.only st [0, 1, 2, 4, 5, 6, 8, 9, 37]) [(38, .d I (x.1 : Int)), (11, .d .bool x.2.1)] with ob := st.ob.set 1 (.row 3 I x.2.2) })
     (fun st x => match rowOf st with
       | some l0 => inLine t c l0 x
       | none => False) (fun x => c.length - x.1),
   loopAt 13 Nat [] (fun st n => St.at (St.only st [0, 1, 2, 4, 5, 6, 8, 9, 11, 12, 37, 38, 49, 50]) [(51, .d I (n : Int))])
     (fun st n => match rowOf st with
       | some l => inRow t (st.i 9).toNat l (st.i 38).toNat n
       | none => False) (fun n => c.length + t.2.1.length - n)]
end Go.Proofs.YtgbpjjinhjikeaaDoor

/- Cuts: the three laws. -/
namespace Go.Proofs.YtgbpjjinhjikeaaDoor
open Go.Vc
abbrev cTrue2 : Ctr := cdet [tTr, .sl I] (fun _ _ => True) (fun _ _ => [⟨.bool, true⟩])
abbrev cTrue3 : Ctr := cdet [tTr, .sl I, .sl I] (fun _ _ _ => True) (fun _ _ _ => [⟨.bool, true⟩])
def allW (t : Tr) (c : List Int) (k : Nat) : Bool := (List.range k).all fun i => !bitB (setE t c) (i : Int) || subB ((bef t).getD i 0) (setE t c)
def anCW (t : Tr) (c : List Int) : Ann :=
  [joinAll, loopAt 13 Nat [] (fun st i => St.at (St.only st [0, 1, 2, 6, 8, 10]) [(12, .d .bool (allW t c i)), (13, .d I (i : Int))]) (fun _ i => i ≤ t.2.1.length ∧ cutE t c = 0) (fun i => t.2.1.length - i)]
def ofO (st : St) (i : Nat) : Option (List Int) :=
  match st.tm.getD i .any with
  | .d (.sl (.int .i64)) l => some l
  | _ => none
/-- the greater numbers of two -/
def mostC (x y : List Int) (k : Nat) : List Int := (List.range k).map fun p => if x.getD p 0 < y.getD p 0 then y.getD p 0 else x.getD p 0
def leastC (x y : List Int) (k : Nat) : List Int := (List.range k).map fun p => if x.getD p 0 < y.getD p 0 then x.getD p 0 else y.getD p 0
def anCL : Ann :=
  [joinAll, loopAt 12 (Nat × List Int × List Int) [(12, 3, I), (13, 3, I)] (fun st x => { St.at (St.only st [0, 1, 2, 3, 8, 10, 12, 13]) [(14, .d I (x.1 : Int))] with ob := (st.ob.set 1 (.row 3 I x.2.1)).set 2 (.row 3 I x.2.2) })
    (fun st x => match ofO st 8, ofO st 10 with
      | some a, some b => x.1 ≤ a.length ∧ a.length ≤ 5 ∧ a.length = b.length ∧ x.2.1 = mostC a b x.1 ∧ x.2.2 = leastC a b x.1
      | _, _ => False) (fun x => 5 - x.1)]
def anCN : Ann :=
  [joinAll, loopAt 11 Nat [] (fun st i => St.at (St.only st [0, 1, 2, 3, 8]) [(12, .d I (i : Int))]) (fun st i => match ofO st 8 with
      | some a => i ≤ a.length
      | _ => False) (fun i => 5 - i),
   loopAt 19 Nat [] (fun st i => St.at (St.only st [0, 1, 2, 3, 8]) [(15, .d I (i : Int))]) (fun st i => match ofO st 2, ofO st 1 with
      | some d, some c => i ≤ d.length ∧ ∀ p, p < i → d.getD p 0 ≤ c.getD p 0
      | _, _ => False) (fun i => 5 - i),
   loopAt 24 Nat [] (fun st i => St.at (St.only st [0, 1, 2, 3, 8]) [(16, .d I (i : Int))]) (fun st i => match ofO st 2 with
      | some d => i ≤ d.length
      | _ => False) (fun i => 5 - i)]
end Go.Proofs.YtgbpjjinhjikeaaDoor
