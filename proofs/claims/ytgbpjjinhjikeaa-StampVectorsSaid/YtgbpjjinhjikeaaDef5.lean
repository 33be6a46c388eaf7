/- Clocks that count and look at the time: what the functions answer. -/
import Derived.Test.YtgbpjjinhjikeaaDef3
namespace Go.Proofs.Ytgbpjjinhjikeaa
open Go.Vc
abbrev tSt : Ty := .pr I (.pr I .un)
abbrev Stp := Int × Int × Unit
def Eh : Env := { tys := [(3, .int .i64), (4, .bool), (5, .int .u8), (9, .str), (22, .sl (.pr I (.pr I .un))), (24, .pr I (.pr (.sl (.pr I (.pr I .un))) .un)), (25, .sl I), (28, .err 71), (33, .pr I (.pr I .un)), (39, .sl (.pr I (.pr I .un))), (43, .pr I (.pr I .un)), (55, .ar 5 I), (65, .ar 5 (.pr I (.pr I .un)))], errT := 71, eqs := [43], els := [(22, 33), (25, 3), (39, 43)] }
theorem Eh_ok : EnvOk Try.prog Eh := EnvOk.of_list (by kernel_rfl) (by kernel_rfl) (by kernel_rfl)
def timeB (n : Int) : Bool := inB n 0 1000000
/-- what is wrong with a trace and its times -/
def hchk (t : Tr) (ts : List Int) : Int := if chk t = 0 then (if ts.length = t.2.1.length then (if ts.all timeB then 0 else 1) else 3) else chk t
def cHChk : Ctr := cdet [tTr, .sl I] (fun _ _ => True) (fun t ts => [⟨tErr, hchk t ts⟩])
def small (n : Int) : Prop := 0 ≤ n ∧ n ≤ 1000
def nextS (a b : Stp) (now : Int) : Stp :=
  (max (max a.1 b.1) now,
   if max (max a.1 b.1) now = b.1 then max (if max (max a.1 b.1) now = a.1 then a.2.1 + 1 else 0) (b.2.1 + 1) else if max (max a.1 b.1) now = a.1 then a.2.1 + 1 else 0, ())
def cNext : Ctr := cdet [tSt, tSt, I] (fun (a b : Stp) _ => small a.2.1 ∧ small b.2.1 ∧ True) (fun a b (n : Int) => [⟨tSt, nextS a b n⟩])
def noS : Stp := (-1, 0, ())
def sst (l : List Ev) (ts : List Int) : Nat → List Stp × List Stp
  | 0 => ([], List.replicate 5 noS)
  | i + 1 =>
    ((sst l ts i).1 ++ [nextS ((sst l ts i).2.getD (l.getD i (0, 0, ())).1.toNat (0, 0, ())) (if 0 ≤ (l.getD i (0, 0, ())).2.1 then (sst l ts i).1.getD (l.getD i (0, 0, ())).2.1.toNat (0, 0, ()) else noS) (ts.getD i 0)],
     (sst l ts i).2.set (l.getD i (0, 0, ())).1.toNat (nextS ((sst l ts i).2.getD (l.getD i (0, 0, ())).1.toNat (0, 0, ())) (if 0 ≤ (l.getD i (0, 0, ())).2.1 then (sst l ts i).1.getD (l.getD i (0, 0, ())).2.1.toNat (0, 0, ()) else noS) (ts.getD i 0)))
def stamps (t : Tr) (ts : List Int) : List Stp := if hchk t ts = 0 then (sst t.2.1 ts t.2.1.length).1 else []
def cStamps : Ctr := cdet [tTr, .sl I] (fun _ _ => True) (fun t ts => [⟨.sl tSt, stamps t ts⟩, ⟨tErr, hchk t ts⟩])
def cSame : Ctr := cdet [.sl tSt, .sl tSt] (fun _ _ => True) (fun (a b : List Stp) => [⟨.bool, decide (a = b)⟩])
def cHFact : Ctr := cdet [] True [⟨.bool, true⟩]
-- the loops
def anHChk (t : Tr) (ts : List Int) : Ann := an1 Nat 7 (fun st i => St.at st [(22, .d I (i : Int)), (7, .any)]) (fun i => i ≤ ts.length ∧ (ts.take i).all timeB = true) (fun i => ts.length - i)
def anStamps (t : Tr) (ts : List Int) : Ann :=
  [loopAt 6 Nat [] (fun st i => { St.at st [(19, .d I (i : Int)), (8, .any)] with ob := st.ob.set 1 (.var 65 (.ar 5 tSt) (List.replicate i noS ++ List.replicate (5 - i) (0, 0, ()))) }) (fun _ i => i ≤ 5 ∧ True) (fun i => 5 - i),
   loopAt 12 Nat [(9, 43, tSt)] (fun st i => { St.at st [(29, .d I (i : Int)), (10, .any), (11, .any), (12, .any)] with ob := (st.ob.set 1 (.var 65 (.ar 5 tSt) (sst t.2.1 ts i).2)).set 2 (.row 43 tSt (sst t.2.1 ts i).1) }) (fun _ i => i ≤ t.2.1.length ∧ True) (fun i => t.2.1.length - i)]
def anSame (a b : List Stp) : Ann := an1 Nat 4 (fun st i => St.at st [(5, .d I (i : Int))]) (fun i => i ≤ a.length ∧ a.take i = b.take i) (fun i => a.length - i)
def lateL (ts : List Int) (by_ : Int) (i : Nat) : List Int := (ts.take i).map fun n => n + by_
def anLate (t : Tr) (ts : List Int) (by_ : Int) : Ann :=
  [joinAll, freezeAt 14 [10],
   loopAt 11 Nat [(10, 3, I)] (fun st i => { St.at (St.only st [0, 1, 2, 3, 6, 8, 10]) [(11, .d I (i : Int))] with ob := st.ob.set 1 (.row 3 I (lateL ts by_ i)) }) (fun _ i => i ≤ ts.length ∧ True) (fun i => ts.length - i),
   loopAt 17 Nat [] (fun st i => St.at (St.only st [0, 1, 2, 3, 6, 8, 10, 12]) [(14, .d I (i : Int))]) (fun _ i => i ≤ ts.length ∧ ∀ j, j < i → ts.getD j 0 + by_ ≤ 1000000) (fun i => ts.length - i),
   loopAt 25 Nat [] (fun st i => St.at (St.only st [0, 1, 2, 3, 6, 8, 10, 12]) [(15, .d I (i : Int))]) (fun _ i => i ≤ t.2.1.length ∧ True) (fun i => t.2.1.length - i)]
end Go.Proofs.Ytgbpjjinhjikeaa
