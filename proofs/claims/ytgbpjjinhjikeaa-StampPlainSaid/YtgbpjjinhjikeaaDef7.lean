/- Clocks that count: what the functions answer. -/
import Derived.Test.YtgbpjjinhjikeaaDef3
namespace Go.Proofs.Ytgbpjjinhjikeaa
open Go.Vc
def Ev5 : Env := { tys := [(3, .int .i64), (4, .bool), (5, .int .u8), (9, .str), (22, .sl (.pr I (.pr I .un))), (24, .pr I (.pr (.sl (.pr I (.pr I .un))) .un)), (25, .sl I), (28, .err 71), (33, .pr I (.pr I .un)), (48, .sl (.sl I)), (55, .ar 5 I), (68, .ar 5 (.ar 5 I)), (69, .sl (.ar 5 I))], errT := 71, eqs := [], els := [(22, 33), (25, 3), (48, 25), (69, 55)] }
theorem Ev5_ok : EnvOk Try.prog Ev5 := EnvOk.of_list (by kernel_rfl) (by kernel_rfl) (by kernel_rfl)
def cClone : Ctr := cdet [.sl I] (fun (l : List Int) => l.length ≤ 1000000000 ∧ True) (fun (l : List Int) => [⟨.sl I, l⟩])
/-- the plain clocks -/
def plst (l : List Ev) : Nat → List Int × List Int
  | 0 => ([], List.replicate 5 0)
  | i + 1 =>
    ((plst l i).1 ++ [(if 0 ≤ (l.getD i (0, 0, ())).2.1 then max ((plst l i).2.getD (l.getD i (0, 0, ())).1.toNat 0) ((plst l i).1.getD (l.getD i (0, 0, ())).2.1.toNat 0) else (plst l i).2.getD (l.getD i (0, 0, ())).1.toNat 0) + 1],
     (plst l i).2.set (l.getD i (0, 0, ())).1.toNat ((if 0 ≤ (l.getD i (0, 0, ())).2.1 then max ((plst l i).2.getD (l.getD i (0, 0, ())).1.toNat 0) ((plst l i).1.getD (l.getD i (0, 0, ())).2.1.toNat 0) else (plst l i).2.getD (l.getD i (0, 0, ())).1.toNat 0) + 1))
def plain (t : Tr) : List Int := if chk t = 0 then (plst t.2.1 t.2.1.length).1 else []
def cPlain : Ctr := cdet [tTr] (fun _ => True) (fun t => [⟨.sl I, plain t⟩, ⟨tErr, chk t⟩])
def anPlain (t : Tr) : Ann :=
  [loopAt 7 Nat [(6, 3, I)] (fun st i => { St.at st [(18, .d I (i : Int)), (8, .any), (9, .any)] with ob := (st.ob.set 1 (.var 55 (.ar 5 I) (plst t.2.1 i).2)).set 2 (.row 3 I (plst t.2.1 i).1) }) (fun _ i => i ≤ t.2.1.length ∧ True) (fun i => t.2.1.length - i)]
/-- the vectors: one that is joined with another one, from place p on; one event more at a process -/
def vjoin (v w : List Int) (p : Nat) : List Int := (List.range 5).map fun q => if q < p then max (v.getD q 0) (w.getD q 0) else v.getD q 0
def vmore (v : List Int) (p : Nat) : List Int := v.set p (v.getD p 0 + 1)
def vst (l : List Ev) : Nat → List (List Int) × List (List Int)
  | 0 => ([], List.replicate 5 (List.replicate 5 0))
  | i + 1 =>
    ((vst l i).1 ++ [vmore (if 0 ≤ (l.getD i (0, 0, ())).2.1 then vjoin ((vst l i).2.getD (l.getD i (0, 0, ())).1.toNat []) ((vst l i).1.getD (l.getD i (0, 0, ())).2.1.toNat []) 5 else (vst l i).2.getD (l.getD i (0, 0, ())).1.toNat []) (l.getD i (0, 0, ())).1.toNat],
     (vst l i).2.set (l.getD i (0, 0, ())).1.toNat (vmore (if 0 ≤ (l.getD i (0, 0, ())).2.1 then vjoin ((vst l i).2.getD (l.getD i (0, 0, ())).1.toNat []) ((vst l i).1.getD (l.getD i (0, 0, ())).2.1.toNat []) 5 else (vst l i).2.getD (l.getD i (0, 0, ())).1.toNat []) (l.getD i (0, 0, ())).1.toNat))
def vecs (t : Tr) : List (List Int) := if chk t = 0 then (vst t.2.1 t.2.1.length).1.map (fun v => v.take t.1.toNat) else []
def cVecs : Ctr := cdet [tTr] (fun _ => True) (fun t => [⟨.sl (.sl I), vecs t⟩, ⟨tErr, chk t⟩])
def anVecs (t : Tr) : Ann :=
  [freezeAt 20 [10],
   loopAt 8 Nat [(6, 55, .ar 5 I), (7, 25, .sl I)] (fun st i => { St.at (St.only st [1, 5, 6, 7, 19, 20]) [(21, .d I (i : Int))] with ob := ((st.ob.set 1 (.var 68 (.ar 5 (.ar 5 I)) (vst t.2.1 i).2)).set 2 (.row 55 (.ar 5 I) (vst t.2.1 i).1)).set 3 (.row 25 (.sl I) ((vst t.2.1 i).1.map fun v => v.take t.1.toNat)) }) (fun _ i => i ≤ t.2.1.length ∧ True) (fun i => t.2.1.length - i),
   loopAt 13 Nat [] (fun st p => { St.at (St.only st [1, 5, 6, 7, 9, 10, 19, 20, 21, 36]) [(37, .d I (p : Int))] with ob := st.ob.set 5 (.var 55 (.ar 5 I) (vjoin ((vst t.2.1 (st.i 21).toNat).2.getD (t.2.1.getD (st.i 21).toNat (0, 0, ())).1.toNat []) ((vst t.2.1 (st.i 21).toNat).1.getD (t.2.1.getD (st.i 21).toNat (0, 0, ())).2.1.toNat []) p)) }) (fun _ p => p ≤ 5 ∧ True) (fun p => 5 - p)]
end Go.Proofs.Ytgbpjjinhjikeaa
