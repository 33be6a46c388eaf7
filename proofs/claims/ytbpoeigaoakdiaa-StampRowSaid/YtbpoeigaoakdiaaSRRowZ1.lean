/- Own texts, merged: GI, GDef, GDef2, GDef3, KDef, CDef, RDef, GV, GOk, KV, KOk, GOk2, GV2, GOk3, GV3, GOk4, GDef4, GM, GM2, GM3, KOk2, KM, KOk3, RM, LDef, LV, RV, CV, COk, LSort, ROk, LOk. -/
import Derived.Test.YtbpoeigaoakdiaaRows
import Derived.Test.YtbpoeigaoakdiaaVcQ
import Derived.Test.YtbpoeigaoakdiaaVcSO
import Derived.Test.YtbpoeigaoakdiaaChecked
/- Integers, and the errors of this seat. -/
namespace Go.Proofs.Ytbpoeigaoakdiaa
open Go.Vc
abbrev I : Ty := .int .i64
abbrev tErr : Ty := .err 55
end Go.Proofs.Ytbpoeigaoakdiaa

/- Traces: what the program's functions answer. -/
namespace Go.Proofs.Ytbpoeigaoakdiaa
open Go.Vc
abbrev tEv : Ty := .pr I (.pr I .un)
abbrev tTr : Ty := .pr I (.pr (.sl tEv) .un)
abbrev Ev := Int × Int × Unit
abbrev Tr := Int × List Ev × Unit
def Et : Env := { tys := [(3, I), (4, .bool), (5, .int .u8), (22, .sl tEv), (24, tTr), (28, tErr), (26, .sl I), (43, tEv), (45, .ar 5 I), (35, .sl (.sl I))], errT := 55, eqs := [], els := [(22, 43), (26, 3), (35, 26)] }
def an1 (α : Type) (r : Nat) (st : St → α → St) (ok : α → Prop) (mu : α → Nat) : Ann := [loopAt r α [] st (fun _ => ok) mu]
theorem Et_ok : EnvOk Try.prog Et := EnvOk.of_list (by kernel_rfl) (by kernel_rfl) (by kernel_rfl)
def inB (n lo hi : Int) : Bool := decide (lo ≤ n) && decide (n ≤ hi)
def cWithin : Ctr := cdet [I, I, I] (fun _ _ _ => True) (fun a b c => [⟨.bool, inB a b c⟩])
def cPow2 : Ctr := cdet [I] (fun (n : Int) => n ≤ 61 ∧ True) (fun (n : Int) => [⟨I, (2 : Int) ^ n.toNat⟩])
def bitB (s i : Int) : Bool := decide (0 ≤ s) && s.toNat.testBit i.toNat
def cBit : Ctr := cdet [I, I] (fun _ _ => True) (fun s i => [⟨.bool, bitB s i⟩])
def subN : Nat → Nat → Int → Bool
  | 0, _, _ => true
  | f + 1, a, b => if a = 0 then true else if a % 2 = 1 ∧ b.tmod 2 = 0 then false else subN f (a / 2) (b.tdiv 2)
/-- are all things of the one set in the other one? -/
def subB (a b : Int) : Bool := subN a.toNat a.toNat b
def cSub : Ctr := cdet [I, I] (fun _ _ => True) (fun a b => [⟨.bool, subB a b⟩])
/-- what is wrong with an event -/
def evErr (p : Int) (l : List Ev) (i : Nat) : Int :=
  if (inB (l.getD i (0, 0, ())).1 0 (p - 1) && inB (l.getD i (0, 0, ())).2.1 (-1) ((i : Int) - 1)) = false then 1
  else if 0 ≤ (l.getD i (0, 0, ())).2.1 ∧ (l.getD (l.getD i (0, 0, ())).2.1.toNat (0, 0, ())).1 = (l.getD i (0, 0, ())).1 then 6 else 0
def evsErr (p : Int) (l : List Ev) : Nat → Nat → Int
  | 0, _ => 0
  | f + 1, i => if evErr p l i = 0 then evsErr p l f (i + 1) else evErr p l i
def chk (t : Tr) : Int := if inB t.1 1 5 = false then 1 else if 24 < t.2.1.length then 4 else evsErr t.1 t.2.1 t.2.1.length 0
def cCheck : Ctr := cdet [tTr] (fun _ => True) (fun t => [⟨tErr, chk t⟩])
-- the loops
def anPow2 (n : Int) : Ann := an1 Nat 3 (fun st i => St.at st [(3, .d I ((2 : Int) ^ i)), (4, .d I (i : Int))]) (fun i => i ≤ n.toNat ∧ True) (fun i => n.toNat - i)
def anBit (s i : Int) : Ann := an1 Nat 2 (fun st k => St.at st [(0, .d I (s.tdiv (2 ^ k))), (5, .d I (k : Int))]) (fun k => k ≤ i.toNat ∧ True) (fun k => i.toNat - k)
def anSub (a b : Int) : Ann := an1 (Int × Int) 1 (fun st x => St.at st [(0, .d I x.1), (1, .d I x.2)]) (fun x => subB a b = subB x.1 x.2 ∧ inK .i64 x.1 ∧ inK .i64 x.2) (fun x => x.1.toNat)
def anCheck (t : Tr) : Ann := an1 Nat 6 (fun st i => St.at st [(18, .d I (i : Int)), (3, .any), (4, .any)]) (fun i => chk t = evsErr t.1 t.2.1 (t.2.1.length - i) i ∧ i ≤ t.2.1.length) (fun i => t.2.1.length - i)
end Go.Proofs.Ytbpoeigaoakdiaa

/- Traces: what happened before what. -/
namespace Go.Proofs.Ytbpoeigaoakdiaa
open Go.Vc
def bst (l : List Ev) : Nat → List Nat × List Nat
  | 0 => (List.replicate l.length 0, List.replicate 5 0)
  | i + 1 =>
    ((bst l i).1.set i (if 0 ≤ (l.getD i (0, 0, ())).2.1 then (bst l i).2.getD (l.getD i (0, 0, ())).1.toNat 0 ||| ((bst l i).1.getD (l.getD i (0, 0, ())).2.1.toNat 0 ||| 2 ^ (l.getD i (0, 0, ())).2.1.toNat) else (bst l i).2.getD (l.getD i (0, 0, ())).1.toNat 0),
     (bst l i).2.set (l.getD i (0, 0, ())).1.toNat ((if 0 ≤ (l.getD i (0, 0, ())).2.1 then (bst l i).2.getD (l.getD i (0, 0, ())).1.toNat 0 ||| ((bst l i).1.getD (l.getD i (0, 0, ())).2.1.toNat 0 ||| 2 ^ (l.getD i (0, 0, ())).2.1.toNat) else (bst l i).2.getD (l.getD i (0, 0, ())).1.toNat 0) ||| 2 ^ i))
def ints (l : List Nat) : List Int := l.map fun (n : Nat) => (n : Int)
/-- of each event all that happened before it -/
def befN (t : Tr) : List Nat := (bst t.2.1 t.2.1.length).1
def bef (t : Tr) : List Int := if chk t = 0 then ints (befN t) else []
def cBefore : Ctr := cdet [tTr] (fun _ => True) (fun t => [⟨.sl I, bef t⟩, ⟨tErr, chk t⟩])
def anBefore (t : Tr) : Ann := an1 Nat 7 (fun st i => { St.at st [(21, .d I (i : Int)), (7, .any), (8, .any)] with ob := (st.ob.set 1 (.row 3 I (ints (bst t.2.1 i).1))).set 2 (.var 45 (.ar 5 I) (ints (bst t.2.1 i).2)) }) (fun i => i ≤ t.2.1.length ∧ chk t = 0) (fun i => t.2.1.length - i)
end Go.Proofs.Ytbpoeigaoakdiaa

/- Traces: the small trace that the laws try first. -/
namespace Go.Proofs.Ytbpoeigaoakdiaa
open Go.Vc
def talkT : Tr := (2, [(0, -1, ()), (1, 0, ()), (0, -1, ())], ())
def cTalk : Ctr := cdet [] True [⟨tTr, talkT⟩]
def cInts : Ctr := cdet [.sl I, .sl I] (fun _ _ => True) (fun (a b : List Int) => [⟨.bool, a == b⟩])
def cFact : Ctr := cdet [] True [⟨.bool, true⟩]
def anInts (a b : List Int) : Ann := an1 Nat 4 (fun st i => St.at st [(5, .d I (i : Int))]) (fun i => i ≤ a.length ∧ a.take i = b.take i) (fun i => a.length - i)
end Go.Proofs.Ytbpoeigaoakdiaa

/- Clocks that count: what the functions answer. -/
namespace Go.Proofs.Ytbpoeigaoakdiaa
open Go.Vc
def Ev5 : Env := { tys := [(3, I), (4, .bool), (5, .int .u8), (9, .str), (22, .sl tEv), (24, tTr), (26, .sl I), (28, tErr), (43, tEv), (35, .sl (.sl I)), (45, .ar 5 I), (47, .ar 5 (.ar 5 I)), (48, .sl (.ar 5 I))], errT := 55, eqs := [], els := [(22, 43), (26, 3), (35, 26), (48, 45)] }
theorem Ev5_ok : EnvOk Try.prog Ev5 := EnvOk.of_list (by kernel_rfl) (by kernel_rfl) (by kernel_rfl)
def cClone : Ctr := cdet [.sl I] (fun (l : List Int) => l.length ≤ 1000000000 ∧ True) (fun (l : List Int) => [⟨.sl I, l⟩])
/-- the plain clocks -/
def plst (l : List Ev) : Nat → List Int × List Int
  | 0 => ([], List.replicate 5 0)
  | i + 1 =>
    ((plst l i).1 ++ [(if 0 ≤ (l.getD i (0, 0, ())).2.1 then max ((plst l i).2.getD (l.getD i (0, 0, ())).1.toNat 0) ((plst l i).1.getD (l.getD i (0, 0, ())).2.1.toNat 0) else (plst l i).2.getD (l.getD i (0, 0, ())).1.toNat 0) + 1],
     (plst l i).2.set (l.getD i (0, 0, ())).1.toNat ((if 0 ≤ (l.getD i (0, 0, ())).2.1 then max ((plst l i).2.getD (l.getD i (0, 0, ())).1.toNat 0) ((plst l i).1.getD (l.getD i (0, 0, ())).2.1.toNat 0) else (plst l i).2.getD (l.getD i (0, 0, ())).1.toNat 0) + 1))
def plain (t : Tr) : List Int := if chk t = 0 then (plst t.2.1 t.2.1.length).1 else []
def cPlain : Ctr := cdet [tTr] (fun _ => True) (fun t => [⟨.sl I, plain t⟩, ⟨tErr, chk t⟩])
def anPlain (t : Tr) : Ann :=
  [loopAt 7 Nat [(6, 3, I)] (fun st i => { St.at st [(18, .d I (i : Int)), (8, .any), (9, .any)] with ob := (st.ob.set 1 (.var 45 (.ar 5 I) (plst t.2.1 i).2)).set 2 (.row 3 I (plst t.2.1 i).1) }) (fun _ i => i ≤ t.2.1.length ∧ True) (fun i => t.2.1.length - i)]
/-- the vectors: one that is joined with another one, from place p on; one event more at a process -/
def vjoin (v w : List Int) (p : Nat) : List Int := (List.range 5).map fun q => if q < p then max (v.getD q 0) (w.getD q 0) else v.getD q 0
def vmore (v : List Int) (p : Nat) : List Int := v.set p (v.getD p 0 + 1)
def vst (l : List Ev) : Nat → List (List Int) × List (List Int)
  | 0 => ([], List.replicate 5 (List.replicate 5 0))
  | i + 1 =>
    ((vst l i).1 ++ [vmore (if 0 ≤ (l.getD i (0, 0, ())).2.1 then vjoin ((vst l i).2.getD (l.getD i (0, 0, ())).1.toNat []) ((vst l i).1.getD (l.getD i (0, 0, ())).2.1.toNat []) 5 else (vst l i).2.getD (l.getD i (0, 0, ())).1.toNat []) (l.getD i (0, 0, ())).1.toNat],
     (vst l i).2.set (l.getD i (0, 0, ())).1.toNat (vmore (if 0 ≤ (l.getD i (0, 0, ())).2.1 then vjoin ((vst l i).2.getD (l.getD i (0, 0, ())).1.toNat []) ((vst l i).1.getD (l.getD i (0, 0, ())).2.1.toNat []) 5 else (vst l i).2.getD (l.getD i (0, 0, ())).1.toNat []) (l.getD i (0, 0, ())).1.toNat))
def vecs (t : Tr) : List (List Int) := if chk t = 0 then (vst t.2.1 t.2.1.length).1.map (fun v => v.take t.1.toNat) else []
def cVecs : Ctr := cdet [tTr] (fun _ => True) (fun t => [⟨.sl (.sl I), vecs t⟩, ⟨tErr, chk t⟩])
def anVecs (t : Tr) : Ann :=
  [freezeAt 20 [10],
   loopAt 8 Nat [(6, 45, Ty.ar 5 I), (7, 26, Ty.sl I)] (fun st i => { St.at (St.only st [1, 5, 6, 7, 19, 20]) [(21, .d I (i : Int))] with ob := ((st.ob.set 1 (.var 47 (.ar 5 (.ar 5 I)) (vst t.2.1 i).2)).set 2 (.row 45 (.ar 5 I) (vst t.2.1 i).1)).set 3 (.row 26 (.sl I) ((vst t.2.1 i).1.map fun v => v.take t.1.toNat)) }) (fun _ i => i ≤ t.2.1.length ∧ True) (fun i => t.2.1.length - i),
   loopAt 13 Nat [] (fun st p => { St.at (St.only st [1, 5, 6, 7, 9, 10, 19, 20, 21, 36]) [(37, .d I (p : Int))] with ob := st.ob.set 5 (.var 45 (.ar 5 I) (vjoin ((vst t.2.1 (st.i 21).toNat).2.getD (t.2.1.getD (st.i 21).toNat (0, 0, ())).1.toNat []) ((vst t.2.1 (st.i 21).toNat).1.getD (t.2.1.getD (st.i 21).toNat (0, 0, ())).2.1.toNat []) p)) }) (fun _ p => p ≤ 5 ∧ True) (fun p => 5 - p)]
def cRows : Ctr := cdet [.sl (.sl I), .sl (.sl I)] (fun _ _ => True) (fun (a b : List (List Int)) => [⟨.bool, a == b⟩])
def anRows (a b : List (List Int)) : Ann := an1 Nat 4 (fun st i => St.at (St.only st [0, 1]) [(5, .d I (i : Int))]) (fun i => i ≤ a.length ∧ a.take i = b.take i) (fun i => a.length - i)
def cSFact : Ctr := cdet [] True [⟨.bool, true⟩]
end Go.Proofs.Ytbpoeigaoakdiaa

/- How two events are set in a row: which is less. -/
namespace Go.Proofs.Ytbpoeigaoakdiaa
open Go.Vc
def Ec : Env := { tys := [(3, I), (4, .bool), (5, .int .u8), (9, .str), (22, .sl tEv), (24, tTr), (26, .sl I), (28, tErr), (43, tEv)], errT := 55, eqs := [], els := [(22, 43), (26, 3)] }
theorem Ec_ok : EnvOk Try.prog Ec := EnvOk.of_list (by kernel_rfl) (by kernel_rfl) (by kernel_rfl)
def cNaN : Ctr := cdet [I] (fun _ => True) (fun _ => [⟨.bool, false⟩])
def cmpI (a b : Int) : Int := if a < b then -1 else if b < a then 1 else 0
def cCmp : Ctr := cdet [I, I] (fun _ _ => True) (fun a b => [⟨I, cmpI a b⟩])
def orI : List Int → Int
  | [] => 0
  | x :: r => if x = 0 then orI r else x
def cOr : Ctr := cdet [.sl I] (fun _ => True) (fun l => [⟨I, orI l⟩])
def anOr (l : List Int) : Ann := [loopAt 3 Nat [] (fun st i => St.at (St.only st [3, 6, 7]) [(8, .d I (i : Int))]) (fun _ i => i ≤ l.length ∧ orI l = orI (l.drop i)) (fun i => l.length - i)]
/-- by clock, and then by process -/
def cmpR (l : List Int) (t : Tr) (i j : Int) : Int :=
  orI [cmpI (l.getD i.toNat 0) (l.getD j.toNat 0), cmpI (t.2.1.getD i.toNat (0, 0, ())).1 (t.2.1.getD j.toNat (0, 0, ())).1]
abbrev tCa : Ty := .pr (.ptr (.sl I)) (.pr (.ptr tTr) .un)
def inR (l : List Int) (t : Tr) (i : Int) : Prop := 0 ≤ i ∧ i < (l.length : Int) ∧ i < (t.2.1.length : Int)
def cCls : Ctr := cgen [I, I, .ptr (.sl I), .ptr tTr] (fun (i j : Int) (l : Option (List Int)) (t : Option Tr) k => match l, t with
  | some l, some t => inR l t i ∧ inR l t j ∧ k [⟨I, cmpR l t i j⟩]
  | _, _ => False)
end Go.Proofs.Ytbpoeigaoakdiaa

/- The row of all events: its contract, and that of the sort. -/
namespace Go.Proofs.Ytbpoeigaoakdiaa
open Go.Vc
def Er : Env := { tys := [(3, I), (4, .bool), (5, .int .u8), (9, .str), (22, .sl tEv), (24, tTr), (26, .sl I), (28, tErr), (32, .fn 16 tCa), (43, tEv), (45, .ar 5 I)], errT := 55, eqs := [], els := [(22, 43), (26, 3)] }
theorem Er_ok : EnvOk Try.prog Er := EnvOk.of_list (by kernel_rfl) (by kernel_rfl) (by kernel_rfl)
/-- sorted, by clock and process -/
def srtP (l : List Int) (t : Tr) (xs ys : List Int) : Prop := ys.Perm xs ∧ ys.Pairwise fun a b => 0 ≤ cmpR l t b a
def oSort : OCtr := fun args ob k =>
  match args, ob with
  | [.os 0, .d (.fn 16 (.pr (.ptr (.sl (.int .i64))) (.pr (.ptr (.pr (.int .i64) (.pr (.sl (.pr (.int .i64) (.pr (.int .i64) .un))) .un))) .un))) (some (some l, some t, _))], [.row 3 (.int .i64) xs] =>
    (∀ x ∈ (xs : List Int), inR l t x) ∧ (xs : List Int).length ≤ 1000000000 ∧ ∀ ys : List Int, srtP l t xs ys → k (.tp []) [.row 3 I ys]
  | _, _ => False
def iota (n : Nat) : List Int := (List.range n).map fun (i : Nat) => (i : Int)
def rowP (t : Tr) (r : List Int) : Prop := srtP (plain t) t (iota t.2.1.length) r
def cRow : Ctr := cgen [tTr] (fun (t : Tr) k => (chk t ≠ 0 → ∀ r : List Int, r = [] → k [⟨.sl I, r⟩, ⟨tErr, chk t⟩]) ∧ (chk t = 0 → ∀ r : List Int, rowP t r → k [⟨.sl I, r⟩, ⟨tErr, (0 : Int)⟩]))
def anRow (t : Tr) : Ann :=
  [joinAll, freezeAt 10 [4, 1], loopAt 6 Nat [(6, 3, I)] (fun st i => { St.at (St.only st [1, 4, 6, 17]) [(18, .d I (i : Int))] with ob := [.var 24 tTr t, .var 26 (.sl I) (plain t), .row 3 I (iota i)] }) (fun _ i => i ≤ (plain t).length ∧ True) (fun i => (plain t).length - i)]
end Go.Proofs.Ytbpoeigaoakdiaa

/- What the functions of this seat have to satisfy, by program: each verification condition in plain words. -/
namespace Go.Proofs.Ytbpoeigaoakdiaa
open Go.Vc
set_option linter.unusedVariables false
theorem vcWithin (a b c : Int) (k : List Dat → Prop) : vcF ⟨Et, [], [], [], []⟩ [] (Try.f25.body.getD .skip) Try.f25.ntmps [(.tmp 6, .bool)] [⟨I, a⟩, ⟨I, b⟩, ⟨I, c⟩] k = (
  (decide (b ≤ a) = true → k [Dat.mk Ty.bool (decide (a ≤ c))]) ∧ (decide (b ≤ a) = false → k [Dat.mk Ty.bool false])) := by kernel_rfl
theorem vcPow2 (n : Int) (k : List Dat → Prop) : vcF ⟨Et, [], [], [], []⟩ (anPow2 n) (Try.f20.body.getD .skip) Try.f20.ntmps [(.tmp 2, I)] [⟨I, n⟩] k = (
  (∃ (x : Nat), (x ≤ n.toNat ∧ True) ∧ (n = n ∧ (0 : Int) = (0 : Int) ∧ (1 : Int) = (2 : Int) ^ x ∧ (0 : Int) = (↑x : Int) ∧ True) ∧ True ∧ True) ∧ ∀ (x : Nat), x ≤ n.toNat ∧ True → (decide ((↑x : Int) < n) = true → inK IntKind.i64 ((2 : Int) ^ x * (2 : Int)) ∧ inK IntKind.i64 ((↑x : Int) + (1 : Int)) ∧ ∃ (x_1 : Nat), (x_1 ≤ n.toNat ∧ True) ∧ n.toNat - x_1 < n.toNat - x ∧ (n = n ∧ (0 : Int) = (0 : Int) ∧ (2 : Int) ^ x * (2 : Int) = (2 : Int) ^ x_1 ∧ (↑x : Int) + (1 : Int) = (↑x_1 : Int) ∧ True) ∧ True ∧ True) ∧ (decide ((↑x : Int) < n) = false → k [Dat.mk (I) ((2 : Int) ^ x)])) := by kernel_rfl
theorem vcBit (s i : Int) (k : List Dat → Prop) : vcF ⟨Et, [], [], [], []⟩ (anBit s i) (Try.f7.body.getD .skip) Try.f7.ntmps [(.tmp 4, .bool)] [⟨I, s⟩, ⟨I, i⟩] k = (
  (∃ (x : Nat), (x ≤ i.toNat ∧ True) ∧ (s = s.tdiv ((2 : Int) ^ x) ∧ i = i ∧ false = false ∧ (0 : Int) = (↑x : Int) ∧ True) ∧ True ∧ True) ∧ ∀ (x : Nat), x ≤ i.toNat ∧ True → (decide ((↑x : Int) < i) = true → ((!decide (s.tdiv ((2 : Int) ^ x) = (0 : Int))) = true → (2 : Int) ≠ (0 : Int) ∧ inK IntKind.i64 ((s.tdiv ((2 : Int) ^ x)).tdiv (2 : Int)) ∧ inK IntKind.i64 ((↑x : Int) + (1 : Int)) ∧ ∃ (x_1 : Nat), (x_1 ≤ i.toNat ∧ True) ∧ i.toNat - x_1 < i.toNat - x ∧ ((s.tdiv ((2 : Int) ^ x)).tdiv (2 : Int) = s.tdiv ((2 : Int) ^ x_1) ∧ i = i ∧ false = false ∧ (↑x : Int) + (1 : Int) = (↑x_1 : Int) ∧ True) ∧ True ∧ True) ∧ ((!decide (s.tdiv ((2 : Int) ^ x) = (0 : Int))) = false → (2 : Int) ≠ (0 : Int) ∧ inK IntKind.i64 ((s.tdiv ((2 : Int) ^ x)).tmod (2 : Int)) ∧ k [Dat.mk Ty.bool (decide ((s.tdiv ((2 : Int) ^ x)).tmod (2 : Int) = (1 : Int)))])) ∧ (decide ((↑x : Int) < i) = false → (2 : Int) ≠ (0 : Int) ∧ inK IntKind.i64 ((s.tdiv ((2 : Int) ^ x)).tmod (2 : Int)) ∧ k [Dat.mk Ty.bool (decide ((s.tdiv ((2 : Int) ^ x)).tmod (2 : Int) = (1 : Int)))])) := by kernel_rfl
theorem vcSub (a b : Int) (k : List Dat → Prop) : vcF ⟨Et, [], [], [], []⟩ (anSub a b) (Try.f8.body.getD .skip) Try.f8.ntmps [(.tmp 4, .bool)] [⟨I, a⟩, ⟨I, b⟩] k = (
  (∃ (x : Int × Int), (subB a b = subB x.fst x.snd ∧ inK IntKind.i64 x.fst ∧ inK IntKind.i64 x.snd) ∧ (a = x.fst ∧ b = x.snd ∧ false = false ∧ True) ∧ True ∧ True) ∧ ∀ (x : Int × Int), subB a b = subB x.fst x.snd ∧ inK IntKind.i64 x.fst ∧ inK IntKind.i64 x.snd → (decide ((0 : Int) < x.fst) = true → (2 : Int) ≠ (0 : Int) ∧ inK IntKind.i64 (x.fst.tmod (2 : Int)) ∧ (decide (x.fst.tmod (2 : Int) = (1 : Int)) = true → (2 : Int) ≠ (0 : Int) ∧ inK IntKind.i64 (x.snd.tmod (2 : Int)) ∧ (decide (x.snd.tmod (2 : Int) = (0 : Int)) = true → k [Dat.mk Ty.bool false]) ∧ (decide (x.snd.tmod (2 : Int) = (0 : Int)) = false → (2 : Int) ≠ (0 : Int) ∧ inK IntKind.i64 (x.fst.tdiv (2 : Int)) ∧ (2 : Int) ≠ (0 : Int) ∧ inK IntKind.i64 (x.snd.tdiv (2 : Int)) ∧ ∃ (x_1 : Int × Int), (subB a b = subB x_1.fst x_1.snd ∧ inK IntKind.i64 x_1.fst ∧ inK IntKind.i64 x_1.snd) ∧ x_1.fst.toNat < x.fst.toNat ∧ (x.fst.tdiv (2 : Int) = x_1.fst ∧ x.snd.tdiv (2 : Int) = x_1.snd ∧ false = false ∧ True) ∧ True ∧ True)) ∧ (decide (x.fst.tmod (2 : Int) = (1 : Int)) = false → (2 : Int) ≠ (0 : Int) ∧ inK IntKind.i64 (x.fst.tdiv (2 : Int)) ∧ (2 : Int) ≠ (0 : Int) ∧ inK IntKind.i64 (x.snd.tdiv (2 : Int)) ∧ ∃ (x_1 : Int × Int), (subB a b = subB x_1.fst x_1.snd ∧ inK IntKind.i64 x_1.fst ∧ inK IntKind.i64 x_1.snd) ∧ x_1.fst.toNat < x.fst.toNat ∧ (x.fst.tdiv (2 : Int) = x_1.fst ∧ x.snd.tdiv (2 : Int) = x_1.snd ∧ false = false ∧ True) ∧ True ∧ True)) ∧ (decide ((0 : Int) < x.fst) = false → k [Dat.mk Ty.bool true])) := by kernel_rfl
theorem vcCheck (t : Tr) (k : List Dat → Prop) : vcF ⟨Et, [(25, cWithin)], [], [], []⟩ (anCheck t) (Try.f19.body.getD .skip) Try.f19.ntmps [(.tmp 2, tErr)] [⟨tTr, t⟩] k = (
  True ∧ ((!inB t.fst (1 : Int) (5 : Int)) = true → (1 : Int) ≠ (0 : Int) ∧ k [Dat.mk (Ty.err (55 : Nat)) (1 : Int)]) ∧ ((!inB t.fst (1 : Int) (5 : Int)) = false → (decide ((24 : Int) < (↑(List.length t.snd.fst) : Int)) = true → (4 : Int) ≠ (0 : Int) ∧ k [Dat.mk (Ty.err (55 : Nat)) (4 : Int)]) ∧ (decide ((24 : Int) < (↑(List.length t.snd.fst) : Int)) = false → (∃ (x : Nat), (chk t = evsErr t.fst t.snd.fst (t.snd.fst.length - x) x ∧ x ≤ t.snd.fst.length) ∧ (t = t ∧ ([] : List Nat) = [] ∧ (0 : Int) = (0 : Int) ∧ [] ++ [(0 : Nat)] = [] ++ [(0 : Nat)] ∧ t.fst = t.fst ∧ inB t.fst (1 : Int) (5 : Int) = inB t.fst (1 : Int) (5 : Int) ∧ (!inB t.fst (1 : Int) (5 : Int)) = !inB t.fst (1 : Int) (5 : Int) ∧ [] ++ [(1 : Nat)] = [] ++ [(1 : Nat)] ∧ t.snd.fst = t.snd.fst ∧ (↑(List.length t.snd.fst) : Int) = (↑(List.length t.snd.fst) : Int) ∧ decide ((24 : Int) < (↑(List.length t.snd.fst) : Int)) = decide ((24 : Int) < (↑(List.length t.snd.fst) : Int)) ∧ [] ++ [(1 : Nat)] = [] ++ [(1 : Nat)] ∧ t.snd.fst = t.snd.fst ∧ (↑(List.length t.snd.fst) : Int) = (↑(List.length t.snd.fst) : Int) ∧ (0 : Int) = (↑x : Int) ∧ True) ∧ (((24 : Nat) = (24 : Nat) ∧ t = t) ∧ True) ∧ True) ∧ ∀ (x : Nat), chk t = evsErr t.fst t.snd.fst (t.snd.fst.length - x) x ∧ x ≤ t.snd.fst.length → (decide ((↑x : Int) < (↑(List.length t.snd.fst) : Int)) = true → (0 : Int) ≤ (↑x : Int) ∧ (↑x : Int) < (↑(List.length t.snd.fst) : Int) ∧ inK IntKind.i64 (t.fst - (1 : Int)) ∧ True ∧ ((!inB (List.getD t.snd.fst (↑x : Int).toNat ((0 : Int), (0 : Int), ())).fst (0 : Int) (t.fst - (1 : Int))) = true → (1 : Int) ≠ (0 : Int) ∧ k [Dat.mk (Ty.err (55 : Nat)) (1 : Int)]) ∧ ((!inB (List.getD t.snd.fst (↑x : Int).toNat ((0 : Int), (0 : Int), ())).fst (0 : Int) (t.fst - (1 : Int))) = false → inK IntKind.i64 ((↑x : Int) - (1 : Int)) ∧ True ∧ ((!inB (List.getD t.snd.fst (↑x : Int).toNat ((0 : Int), (0 : Int), ())).snd.fst (-1 : Int) ((↑x : Int) - (1 : Int))) = true → (1 : Int) ≠ (0 : Int) ∧ k [Dat.mk (Ty.err (55 : Nat)) (1 : Int)]) ∧ ((!inB (List.getD t.snd.fst (↑x : Int).toNat ((0 : Int), (0 : Int), ())).snd.fst (-1 : Int) ((↑x : Int) - (1 : Int))) = false → (decide ((0 : Int) ≤ (List.getD t.snd.fst (↑x : Int).toNat ((0 : Int), (0 : Int), ())).snd.fst) = true → (0 : Int) ≤ (List.getD t.snd.fst (↑x : Int).toNat ((0 : Int), (0 : Int), ())).snd.fst ∧ (List.getD t.snd.fst (↑x : Int).toNat ((0 : Int), (0 : Int), ())).snd.fst < (↑(List.length t.snd.fst) : Int) ∧ (decide ((List.getD t.snd.fst (Int.toNat (List.getD t.snd.fst (↑x : Int).toNat ((0 : Int), (0 : Int), ())).snd.fst) ((0 : Int), (0 : Int), ())).fst = (List.getD t.snd.fst (↑x : Int).toNat ((0 : Int), (0 : Int), ())).fst) = true → (6 : Int) ≠ (0 : Int) ∧ k [Dat.mk (Ty.err (55 : Nat)) (6 : Int)]) ∧ (decide ((List.getD t.snd.fst (Int.toNat (List.getD t.snd.fst (↑x : Int).toNat ((0 : Int), (0 : Int), ())).snd.fst) ((0 : Int), (0 : Int), ())).fst = (List.getD t.snd.fst (↑x : Int).toNat ((0 : Int), (0 : Int), ())).fst) = false → inK IntKind.i64 ((↑x : Int) + (1 : Int)) ∧ ∃ (x_1 : Nat), (chk t = evsErr t.fst t.snd.fst (t.snd.fst.length - x_1) x_1 ∧ x_1 ≤ t.snd.fst.length) ∧ t.snd.fst.length - x_1 < t.snd.fst.length - x ∧ (t = t ∧ ([] : List Nat) = [] ∧ (0 : Int) = (0 : Int) ∧ [] ++ [(0 : Nat)] = [] ++ [(0 : Nat)] ∧ t.fst = t.fst ∧ inB t.fst (1 : Int) (5 : Int) = inB t.fst (1 : Int) (5 : Int) ∧ (!inB t.fst (1 : Int) (5 : Int)) = !inB t.fst (1 : Int) (5 : Int) ∧ [] ++ [(1 : Nat)] = [] ++ [(1 : Nat)] ∧ t.snd.fst = t.snd.fst ∧ (↑(List.length t.snd.fst) : Int) = (↑(List.length t.snd.fst) : Int) ∧ decide ((24 : Int) < (↑(List.length t.snd.fst) : Int)) = decide ((24 : Int) < (↑(List.length t.snd.fst) : Int)) ∧ [] ++ [(1 : Nat)] = [] ++ [(1 : Nat)] ∧ t.snd.fst = t.snd.fst ∧ (↑(List.length t.snd.fst) : Int) = (↑(List.length t.snd.fst) : Int) ∧ (↑x : Int) + (1 : Int) = (↑x_1 : Int) ∧ True) ∧ (((24 : Nat) = (24 : Nat) ∧ t = t) ∧ True) ∧ True)) ∧ (decide ((0 : Int) ≤ (List.getD t.snd.fst (↑x : Int).toNat ((0 : Int), (0 : Int), ())).snd.fst) = false → inK IntKind.i64 ((↑x : Int) + (1 : Int)) ∧ ∃ (x_1 : Nat), (chk t = evsErr t.fst t.snd.fst (t.snd.fst.length - x_1) x_1 ∧ x_1 ≤ t.snd.fst.length) ∧ t.snd.fst.length - x_1 < t.snd.fst.length - x ∧ (t = t ∧ ([] : List Nat) = [] ∧ (0 : Int) = (0 : Int) ∧ [] ++ [(0 : Nat)] = [] ++ [(0 : Nat)] ∧ t.fst = t.fst ∧ inB t.fst (1 : Int) (5 : Int) = inB t.fst (1 : Int) (5 : Int) ∧ (!inB t.fst (1 : Int) (5 : Int)) = !inB t.fst (1 : Int) (5 : Int) ∧ [] ++ [(1 : Nat)] = [] ++ [(1 : Nat)] ∧ t.snd.fst = t.snd.fst ∧ (↑(List.length t.snd.fst) : Int) = (↑(List.length t.snd.fst) : Int) ∧ decide ((24 : Int) < (↑(List.length t.snd.fst) : Int)) = decide ((24 : Int) < (↑(List.length t.snd.fst) : Int)) ∧ [] ++ [(1 : Nat)] = [] ++ [(1 : Nat)] ∧ t.snd.fst = t.snd.fst ∧ (↑(List.length t.snd.fst) : Int) = (↑(List.length t.snd.fst) : Int) ∧ (↑x : Int) + (1 : Int) = (↑x_1 : Int) ∧ True) ∧ (((24 : Nat) = (24 : Nat) ∧ t = t) ∧ True) ∧ True)))) ∧ (decide ((↑x : Int) < (↑(List.length t.snd.fst) : Int)) = false → k [Dat.mk (Ty.err (55 : Nat)) (0 : Int)])))) := by kernel_rfl
end Go.Proofs.Ytbpoeigaoakdiaa

/- Traces: the small functions keep their contracts. -/
namespace Go.Proofs.Ytbpoeigaoakdiaa
open Go.Vc

theorem mixed : Try.prog.follows .mixedOrders = true := by kernel_rfl

theorem okWithin : PlainOk Try.prog [] 25 cWithin := by
  refine plain_of (CxOk.mk' Et_ok rfl mixed (gl := []) GOk.nil GoOk.nil noIt) Try.func25 (c := Try.f25.body.getD .skip) (rvs := [(.tmp 6, .bool)]) (by kernel_rfl) (by kernel_rfl) (by kernel_rfl) ?_
  intro ds k ⟨hp, hk⟩ hwf
  obtain ⟨a, b, c, rfl, -⟩ := dest3 hp
  have hk : k [⟨.bool, inB a b c⟩] := hk
  refine ⟨[], ?_⟩
  rw [vcWithin]
  unfold inB at hk
  refine ⟨fun h => ?_, fun h => ?_⟩ <;> simpa [h] using hk

theorem two_pow_le {n : Nat} (h : n ≤ 62) : (2 : Int) ^ n ≤ 4611686018427387904 := by
  have : 2 ^ n ≤ 2 ^ 62 := Nat.pow_le_pow_right (by decide) h
  have h2 : ((2 ^ n : Nat) : Int) ≤ ((2 ^ 62 : Nat) : Int) := Int.ofNat_le.2 this
  rw [Int.natCast_pow] at h2
  exact h2
theorem two_pow_pos (n : Nat) : (0 : Int) < (2 : Int) ^ n := Int.pow_pos (by decide)

theorem okPow2 : PlainOk Try.prog [] 20 cPow2 := by
  refine plain_of (CxOk.mk' Et_ok rfl mixed (gl := []) GOk.nil GoOk.nil noIt) Try.func20 (c := Try.f20.body.getD .skip) (rvs := [(.tmp 2, I)]) (by kernel_rfl) (by kernel_rfl) (by kernel_rfl) ?_
  intro ds k ⟨hp, hk⟩ hwf
  obtain ⟨n, rfl, hn, -⟩ := dest1 hp
  have hk : k [⟨I, (2 : Int) ^ n.toNat⟩] := hk
  refine ⟨anPow2 n, ?_⟩
  rw [vcPow2]
  simp only [decide_eq_true_eq, decide_eq_false_iff_not, inK_i64, and_true, true_and]
  refine ⟨⟨0, by omega, rfl, rfl⟩, fun x hx => ⟨fun h => ?_, fun h => ?_⟩⟩
  · have h1 := two_pow_le (n := x + 1) (by omega)
    have h2 := two_pow_pos (x + 1)
    rw [Int.pow_succ] at h1 h2
    refine ⟨by omega, by omega, x + 1, by omega, by omega, by rw [Int.pow_succ], by omega⟩
  · have : x = n.toNat := by omega
    rw [this]; exact hk

theorem tdivN (n x : Nat) : (n : Int).tdiv ((2 : Int) ^ x) = ((n / 2 ^ x : Nat) : Int) := by
  rw [show (2 : Int) ^ x = ((2 ^ x : Nat) : Int) by rw [Int.natCast_pow]; rfl, ← Int.ofNat_tdiv]
theorem tdiv_pow (s : Int) (x : Nat) : (s.tdiv ((2 : Int) ^ x)).tdiv 2 = s.tdiv ((2 : Int) ^ (x + 1)) := by
  have key : ∀ n : Nat, ((n : Int).tdiv ((2 : Int) ^ x)).tdiv 2 = (n : Int).tdiv ((2 : Int) ^ (x + 1)) := by
    intro n
    rw [tdivN, tdivN, Nat.pow_succ, ← Nat.div_div_eq_div_mul]
    have := tdivN (n / 2 ^ x) 1
    simpa using this
  rcases Int.le_total 0 s with h | h
  · obtain ⟨n, rfl⟩ := Int.eq_ofNat_of_zero_le h
    exact key n
  · obtain ⟨n, hn⟩ := Int.eq_ofNat_of_zero_le (show 0 ≤ -s by omega)
    have e : s = -(n : Int) := by omega
    rw [e, Int.neg_tdiv, Int.neg_tdiv, Int.neg_tdiv, key]

theorem bit_of {s : Int} {x : Nat} : decide ((s.tdiv ((2 : Int) ^ x)).tmod 2 = 1) = bitB s x := by
  unfold bitB
  by_cases h : 0 ≤ s
  · obtain ⟨n, rfl⟩ := Int.eq_ofNat_of_zero_le h
    have e : ((n : Int).tdiv ((2 : Int) ^ x)).tmod 2 = ((n / 2 ^ x % 2 : Nat) : Int) := by
      rw [show (2 : Int) ^ x = ((2 ^ x : Nat) : Int) by rw [Int.natCast_pow]; rfl, ← Int.ofNat_tdiv]
      exact (Int.ofNat_tmod _ 2).symm
    rw [e]
    simp only [h, decide_true, Bool.true_and, Int.toNat_natCast]
    rw [Nat.testBit_eq_decide_div_mod_eq]
    apply decide_eq_decide.2
    exact ⟨fun h => by exact_mod_cast h, fun h => by exact_mod_cast h⟩
  · have hd : decide (0 ≤ s) = false := by simpa using h
    rw [hd, Bool.false_and]
    have hle : s.tdiv ((2 : Int) ^ x) ≤ 0 := by
      have := Int.tdiv_nonneg (a := -s) (b := (2 : Int) ^ x) (by omega) (Int.le_of_lt (two_pow_pos x))
      rw [Int.neg_tdiv] at this; omega
    simp only [decide_eq_false_iff_not]
    intro hc
    have h2 := Int.tmod_nonneg (a := -(s.tdiv ((2 : Int) ^ x))) 2 (by omega)
    rw [Int.neg_tmod] at h2
    omega

theorem tdiv_in {s : Int} (h : inK .i64 s) (x : Nat) : inK .i64 (s.tdiv ((2 : Int) ^ x)) ∧ inK .i64 ((s.tdiv ((2 : Int) ^ x)).tmod 2) := by
  rw [inK_i64] at h
  have key : ∀ n : Nat, ((n : Int).tdiv ((2 : Int) ^ x)) ≤ n ∧ 0 ≤ ((n : Int).tdiv ((2 : Int) ^ x)) := by
    intro n
    rw [tdivN]
    have h := Nat.div_le_self n (2 ^ x)
    generalize n / 2 ^ x = q at h
    omega
  have hb : -9223372036854775808 ≤ s.tdiv ((2 : Int) ^ x) ∧ s.tdiv ((2 : Int) ^ x) ≤ 9223372036854775807 := by
    rcases Int.le_total 0 s with h0 | h0
    · obtain ⟨n, rfl⟩ := Int.eq_ofNat_of_zero_le h0
      have := key n; omega
    · obtain ⟨n, hn⟩ := Int.eq_ofNat_of_zero_le (show 0 ≤ -s by omega)
      have e : s = -(n : Int) := by omega
      have := key n
      rw [e, Int.neg_tdiv]; omega
  refine ⟨inK_i64.2 hb, inK_i64.2 ?_⟩
  generalize s.tdiv ((2 : Int) ^ x) = q at hb
  have := Int.tmod_two_eq q
  omega

theorem okBit : PlainOk Try.prog [] 7 cBit := by
  refine plain_of (CxOk.mk' Et_ok rfl mixed (gl := []) GOk.nil GoOk.nil noIt) Try.func7 (c := Try.f7.body.getD .skip) (rvs := [(.tmp 4, .bool)]) (by kernel_rfl) (by kernel_rfl) (by kernel_rfl) ?_
  intro ds k ⟨hp, hk⟩ hwf
  obtain ⟨s, i, rfl, -⟩ := dest2 hp
  have hk : k [⟨.bool, bitB s i⟩] := hk
  have hs : inK .i64 s := (wf2 hwf).1
  have hi := inK_i64.1 ((wf2 hwf).2 : inK .i64 i)
  refine ⟨anBit s i, ?_⟩
  rw [vcBit]
  simp only [decide_eq_true_eq, decide_eq_false_iff_not, and_true, true_and, Bool.not_eq_true', Bool.not_eq_false', ne_eq]
  have ret : ∀ x : Nat, bitB s x = bitB s i → k [⟨.bool, decide ((s.tdiv ((2 : Int) ^ x)).tmod 2 = 1)⟩] := by
    intro x hx; rw [bit_of, hx]; exact hk
  refine ⟨⟨0, by omega, by simp, rfl⟩, fun x hx => ⟨fun h => ⟨fun h0 => ⟨by decide, ?_, by rw [inK_i64]; omega, x + 1, by omega, by omega, tdiv_pow s x, by omega⟩, fun h0 => ⟨by decide, (tdiv_in hs x).2, ret x ?_⟩⟩, fun h => ⟨by decide, (tdiv_in hs x).2, ret x ?_⟩⟩⟩
  · rw [tdiv_pow]; exact (tdiv_in hs (x + 1)).1
  · unfold bitB
    by_cases hs0 : 0 ≤ s
    · obtain ⟨n, hn⟩ := Int.eq_ofNat_of_zero_le hs0
      rw [hn, tdivN] at h0
      have h0' : n / 2 ^ x = 0 := by exact_mod_cast h0
      have hlt : n < 2 ^ x := by
        rcases Nat.lt_or_ge n (2 ^ x) with h | h
        · exact h
        · have := Nat.div_pos h (Nat.two_pow_pos x); omega
      have hf : ∀ j, x ≤ j → n.testBit j = false := fun j hj => Nat.testBit_lt_two_pow (Nat.lt_of_lt_of_le hlt (Nat.pow_le_pow_right (by decide) hj))
      have e1 : s.toNat = n := by rw [hn]; rfl
      rw [e1, hf _ (by rw [Int.toNat_natCast]; exact Nat.le_refl _), hf _ (by omega)]
    · have : decide (0 ≤ s) = false := by simpa using hs0
      rw [this]; rfl
  · have : (x : Int).toNat = i.toNat := by omega
    unfold bitB; rw [this]
end Go.Proofs.Ytbpoeigaoakdiaa

/- What the functions of this seat have to satisfy, by program: each verification condition in plain words. -/
namespace Go.Proofs.Ytbpoeigaoakdiaa
open Go.Vc
set_option linter.unusedVariables false
theorem vcClone (l : List Int) (k : List Dat → Prop) : vcF ⟨Ev5, [], [], [], []⟩ [] (Try.f21.body.getD .skip) Try.f21.ntmps [(.tmp 2, .sl I)] [⟨.sl I, l⟩] k = (
  ∀ (b : Bool), (b = true → l = []) → (b = true → k [Dat.mk (I).sl []]) ∧ (b = false → ([] : List Int).length + l.length ≤ (1000000000 : Nat) ∧ k [Dat.mk (I).sl l])) := by kernel_rfl
theorem vcPlain (t : Tr) (k : List Dat → Prop) : vcF ⟨Ev5, [(19, cCheck)], [], [], []⟩ (anPlain t) (Try.f10.body.getD .skip) Try.f10.ntmps [(.tmp 2, .sl I), (.tmp 3, tErr)] [⟨tTr, t⟩] k = (
  True ∧ ((!decide (chk t = (0 : Int))) = true → k [Dat.mk (I).sl [], Dat.mk (Ty.err (55 : Nat)) (chk t)]) ∧ ((!decide (chk t = (0 : Int))) = false → (∃ (x : Nat), (x ≤ t.snd.fst.length ∧ True) ∧ (t = t ∧ ([] : List Nat) = [] ∧ True ∧ (0 : Int) = (0 : Int) ∧ chk t = chk t ∧ ([] : List Nat) = [] ∧ True ∧ t = t ∧ chk t = chk t ∧ chk t = chk t ∧ (!decide (chk t = (0 : Int))) = !decide (chk t = (0 : Int)) ∧ [] ++ [(1 : Nat)] = [] ++ [(1 : Nat)] ∧ t.snd.fst = t.snd.fst ∧ (↑(List.length t.snd.fst) : Int) = (↑(List.length t.snd.fst) : Int) ∧ (0 : Int) = (↑x : Int) ∧ True) ∧ (((24 : Nat) = (24 : Nat) ∧ t = t) ∧ ((45 : Nat) = (45 : Nat) ∧ List.replicate (5 : Nat) (0 : Int) = (plst t.snd.fst x).snd) ∧ ((3 : Nat) = (3 : Nat) ∧ [] = (plst t.snd.fst x).fst) ∧ True) ∧ True) ∧ ∀ (x : Nat), x ≤ t.snd.fst.length ∧ True → (decide ((↑x : Int) < (↑(List.length t.snd.fst) : Int)) = true → (0 : Int) ≤ (↑x : Int) ∧ (↑x : Int) < (↑(List.length t.snd.fst) : Int) ∧ (0 : Int) ≤ (List.getD t.snd.fst (↑x : Int).toNat ((0 : Int), (0 : Int), ())).fst ∧ (List.getD t.snd.fst (↑x : Int).toNat ((0 : Int), (0 : Int), ())).fst < (↑(5 : Nat) : Int) ∧ (decide ((0 : Int) ≤ (List.getD t.snd.fst (↑x : Int).toNat ((0 : Int), (0 : Int), ())).snd.fst) = true → (0 : Int) ≤ (List.getD t.snd.fst (↑x : Int).toNat ((0 : Int), (0 : Int), ())).snd.fst ∧ (List.getD t.snd.fst (↑x : Int).toNat ((0 : Int), (0 : Int), ())).snd.fst < (↑(plst t.snd.fst x).fst.length : Int) ∧ inK IntKind.i64 (max ((plst t.snd.fst x).snd.getD (Int.toNat (List.getD t.snd.fst (↑x : Int).toNat ((0 : Int), (0 : Int), ())).fst) (0 : Int)) ((plst t.snd.fst x).fst.getD (Int.toNat (List.getD t.snd.fst (↑x : Int).toNat ((0 : Int), (0 : Int), ())).snd.fst) (0 : Int)) + (1 : Int)) ∧ (plst t.snd.fst x).fst.length + ((List.replicate (1 : Nat) (0 : Int)).set (0 : Nat) (max ((plst t.snd.fst x).snd.getD (Int.toNat (List.getD t.snd.fst (↑x : Int).toNat ((0 : Int), (0 : Int), ())).fst) (0 : Int)) ((plst t.snd.fst x).fst.getD (Int.toNat (List.getD t.snd.fst (↑x : Int).toNat ((0 : Int), (0 : Int), ())).snd.fst) (0 : Int)) + (1 : Int))).length ≤ (1000000000 : Nat) ∧ inK IntKind.i64 (max ((plst t.snd.fst x).snd.getD (Int.toNat (List.getD t.snd.fst (↑x : Int).toNat ((0 : Int), (0 : Int), ())).fst) (0 : Int)) ((plst t.snd.fst x).fst.getD (Int.toNat (List.getD t.snd.fst (↑x : Int).toNat ((0 : Int), (0 : Int), ())).snd.fst) (0 : Int)) + (1 : Int)) ∧ (0 : Int) ≤ (List.getD t.snd.fst (↑x : Int).toNat ((0 : Int), (0 : Int), ())).fst ∧ (List.getD t.snd.fst (↑x : Int).toNat ((0 : Int), (0 : Int), ())).fst < (↑(5 : Nat) : Int) ∧ inK IntKind.i64 ((↑x : Int) + (1 : Int)) ∧ ∃ (x_1 : Nat), (x_1 ≤ t.snd.fst.length ∧ True) ∧ t.snd.fst.length - x_1 < t.snd.fst.length - x ∧ (t = t ∧ ([] : List Nat) = [] ∧ True ∧ (0 : Int) = (0 : Int) ∧ chk t = chk t ∧ ([] : List Nat) = [] ∧ True ∧ t = t ∧ chk t = chk t ∧ chk t = chk t ∧ (!decide (chk t = (0 : Int))) = !decide (chk t = (0 : Int)) ∧ [] ++ [(1 : Nat)] = [] ++ [(1 : Nat)] ∧ t.snd.fst = t.snd.fst ∧ (↑(List.length t.snd.fst) : Int) = (↑(List.length t.snd.fst) : Int) ∧ (↑x : Int) + (1 : Int) = (↑x_1 : Int) ∧ True) ∧ (((24 : Nat) = (24 : Nat) ∧ t = t) ∧ ((45 : Nat) = (45 : Nat) ∧ (plst t.snd.fst x).snd.set (Int.toNat (List.getD t.snd.fst (↑x : Int).toNat ((0 : Int), (0 : Int), ())).fst) (max ((plst t.snd.fst x).snd.getD (Int.toNat (List.getD t.snd.fst (↑x : Int).toNat ((0 : Int), (0 : Int), ())).fst) (0 : Int)) ((plst t.snd.fst x).fst.getD (Int.toNat (List.getD t.snd.fst (↑x : Int).toNat ((0 : Int), (0 : Int), ())).snd.fst) (0 : Int)) + (1 : Int)) = (plst t.snd.fst x_1).snd) ∧ ((3 : Nat) = (3 : Nat) ∧ (plst t.snd.fst x).fst.append ((List.replicate (1 : Nat) (0 : Int)).set (0 : Nat) (max ((plst t.snd.fst x).snd.getD (Int.toNat (List.getD t.snd.fst (↑x : Int).toNat ((0 : Int), (0 : Int), ())).fst) (0 : Int)) ((plst t.snd.fst x).fst.getD (Int.toNat (List.getD t.snd.fst (↑x : Int).toNat ((0 : Int), (0 : Int), ())).snd.fst) (0 : Int)) + (1 : Int))) = (plst t.snd.fst x_1).fst) ∧ True) ∧ True) ∧ (decide ((0 : Int) ≤ (List.getD t.snd.fst (↑x : Int).toNat ((0 : Int), (0 : Int), ())).snd.fst) = false → inK IntKind.i64 ((plst t.snd.fst x).snd.getD (Int.toNat (List.getD t.snd.fst (↑x : Int).toNat ((0 : Int), (0 : Int), ())).fst) (0 : Int) + (1 : Int)) ∧ (plst t.snd.fst x).fst.length + ((List.replicate (1 : Nat) (0 : Int)).set (0 : Nat) ((plst t.snd.fst x).snd.getD (Int.toNat (List.getD t.snd.fst (↑x : Int).toNat ((0 : Int), (0 : Int), ())).fst) (0 : Int) + (1 : Int))).length ≤ (1000000000 : Nat) ∧ inK IntKind.i64 ((plst t.snd.fst x).snd.getD (Int.toNat (List.getD t.snd.fst (↑x : Int).toNat ((0 : Int), (0 : Int), ())).fst) (0 : Int) + (1 : Int)) ∧ (0 : Int) ≤ (List.getD t.snd.fst (↑x : Int).toNat ((0 : Int), (0 : Int), ())).fst ∧ (List.getD t.snd.fst (↑x : Int).toNat ((0 : Int), (0 : Int), ())).fst < (↑(5 : Nat) : Int) ∧ inK IntKind.i64 ((↑x : Int) + (1 : Int)) ∧ ∃ (x_1 : Nat), (x_1 ≤ t.snd.fst.length ∧ True) ∧ t.snd.fst.length - x_1 < t.snd.fst.length - x ∧ (t = t ∧ ([] : List Nat) = [] ∧ True ∧ (0 : Int) = (0 : Int) ∧ chk t = chk t ∧ ([] : List Nat) = [] ∧ True ∧ t = t ∧ chk t = chk t ∧ chk t = chk t ∧ (!decide (chk t = (0 : Int))) = !decide (chk t = (0 : Int)) ∧ [] ++ [(1 : Nat)] = [] ++ [(1 : Nat)] ∧ t.snd.fst = t.snd.fst ∧ (↑(List.length t.snd.fst) : Int) = (↑(List.length t.snd.fst) : Int) ∧ (↑x : Int) + (1 : Int) = (↑x_1 : Int) ∧ True) ∧ (((24 : Nat) = (24 : Nat) ∧ t = t) ∧ ((45 : Nat) = (45 : Nat) ∧ (plst t.snd.fst x).snd.set (Int.toNat (List.getD t.snd.fst (↑x : Int).toNat ((0 : Int), (0 : Int), ())).fst) ((plst t.snd.fst x).snd.getD (Int.toNat (List.getD t.snd.fst (↑x : Int).toNat ((0 : Int), (0 : Int), ())).fst) (0 : Int) + (1 : Int)) = (plst t.snd.fst x_1).snd) ∧ ((3 : Nat) = (3 : Nat) ∧ (plst t.snd.fst x).fst.append ((List.replicate (1 : Nat) (0 : Int)).set (0 : Nat) ((plst t.snd.fst x).snd.getD (Int.toNat (List.getD t.snd.fst (↑x : Int).toNat ((0 : Int), (0 : Int), ())).fst) (0 : Int) + (1 : Int))) = (plst t.snd.fst x_1).fst) ∧ True) ∧ True)) ∧ (decide ((↑x : Int) < (↑(List.length t.snd.fst) : Int)) = false → k [Dat.mk (I).sl (plst t.snd.fst x).fst, Dat.mk (Ty.err (55 : Nat)) (0 : Int)]))) := by kernel_rfl
theorem vcVecs (t : Tr) (k : List Dat → Prop) : vcF ⟨Ev5, [(19, cCheck), (21, cClone)], [], [], []⟩ (anVecs t) (Try.f12.body.getD .skip) Try.f12.ntmps [(.tmp 2, .sl (.sl I)), (.tmp 3, tErr)] [⟨tTr, t⟩] k = (
  True ∧ ((!decide (chk t = (0 : Int))) = true → k [Dat.mk (I).sl.sl [], Dat.mk (Ty.err (55 : Nat)) (chk t)]) ∧ ((!decide (chk t = (0 : Int))) = false → (∃ (x : Nat), (x ≤ t.snd.fst.length ∧ True) ∧ (([] : List Nat) = [] ∧ ([] : List Nat) = [] ∧ True ∧ True ∧ t.snd.fst = t.snd.fst ∧ (↑(List.length t.snd.fst) : Int) = (↑(List.length t.snd.fst) : Int) ∧ (0 : Int) = (↑x : Int) ∧ True) ∧ (((24 : Nat) = (24 : Nat) ∧ t = t) ∧ ((47 : Nat) = (47 : Nat) ∧ List.replicate (5 : Nat) (List.replicate (5 : Nat) (0 : Int)) = (vst t.snd.fst x).snd) ∧ ((45 : Nat) = (45 : Nat) ∧ [] = (vst t.snd.fst x).fst) ∧ ((26 : Nat) = (26 : Nat) ∧ [] = List.map (fun (v : List Int) => List.take t.fst.toNat v) (vst t.snd.fst x).fst) ∧ True) ∧ True) ∧ ∀ (x : Nat), x ≤ t.snd.fst.length ∧ True → (decide ((↑x : Int) < (↑(List.length t.snd.fst) : Int)) = true → (0 : Int) ≤ (↑x : Int) ∧ (↑x : Int) < (↑(List.length t.snd.fst) : Int) ∧ (0 : Int) ≤ (List.getD t.snd.fst (↑x : Int).toNat ((0 : Int), (0 : Int), ())).fst ∧ (List.getD t.snd.fst (↑x : Int).toNat ((0 : Int), (0 : Int), ())).fst < (↑(5 : Nat) : Int) ∧ (decide ((0 : Int) ≤ (List.getD t.snd.fst (↑x : Int).toNat ((0 : Int), (0 : Int), ())).snd.fst) = true → (0 : Int) ≤ (List.getD t.snd.fst (↑x : Int).toNat ((0 : Int), (0 : Int), ())).snd.fst ∧ (List.getD t.snd.fst (↑x : Int).toNat ((0 : Int), (0 : Int), ())).snd.fst < (↑(vst t.snd.fst x).fst.length : Int) ∧ (∃ (x_1 : Nat), (x_1 ≤ (5 : Nat) ∧ True) ∧ (([] : List Nat) = [] ∧ ([] : List Nat) = [] ∧ True ∧ True ∧ ([] : List Nat) = [] ∧ ([] : List Nat) = [] ∧ t.snd.fst = t.snd.fst ∧ (↑(List.length t.snd.fst) : Int) = (↑(List.length t.snd.fst) : Int) ∧ (↑x : Int) = (↑x : Int) ∧ (vst t.snd.fst x).fst.getD (Int.toNat (List.getD t.snd.fst (↑x : Int).toNat ((0 : Int), (0 : Int), ())).snd.fst) (List.replicate (5 : Nat) (0 : Int)) = (vst t.snd.fst x).fst.getD (Int.toNat (List.getD t.snd.fst (↑x : Int).toNat ((0 : Int), (0 : Int), ())).snd.fst) (List.replicate (5 : Nat) (0 : Int)) ∧ (0 : Int) = (↑x_1 : Int) ∧ True) ∧ (((24 : Nat) = (24 : Nat) ∧ t = t) ∧ ((47 : Nat) = (47 : Nat) ∧ (vst t.snd.fst x).snd = (vst t.snd.fst x).snd) ∧ ((45 : Nat) = (45 : Nat) ∧ (vst t.snd.fst x).fst = (vst t.snd.fst x).fst) ∧ ((26 : Nat) = (26 : Nat) ∧ List.map (fun (v : List Int) => List.take t.fst.toNat v) (vst t.snd.fst x).fst = List.map (fun (v : List Int) => List.take t.fst.toNat v) (vst t.snd.fst x).fst) ∧ ((43 : Nat) = (43 : Nat) ∧ List.getD t.snd.fst (↑x : Int).toNat ((0 : Int), (0 : Int), ()) = List.getD t.snd.fst (↑x : Int).toNat ((0 : Int), (0 : Int), ())) ∧ ((45 : Nat) = (45 : Nat) ∧ (vst t.snd.fst x).snd.getD (Int.toNat (List.getD t.snd.fst (↑x : Int).toNat ((0 : Int), (0 : Int), ())).fst) (List.replicate (5 : Nat) (0 : Int)) = vjoin ((vst t.snd.fst (↑x : Int).toNat).snd.getD (t.snd.fst.getD (↑x : Int).toNat ((0 : Int), (0 : Int), ())).fst.toNat []) ((vst t.snd.fst (↑x : Int).toNat).fst.getD (t.snd.fst.getD (↑x : Int).toNat ((0 : Int), (0 : Int), ())).snd.fst.toNat []) x_1) ∧ True) ∧ True) ∧ ∀ (x_1 : Nat), x_1 ≤ (5 : Nat) ∧ True → (decide ((↑x_1 : Int) < (5 : Int)) = true → (0 : Int) ≤ (↑x_1 : Int) ∧ (↑x_1 : Int) < (↑(5 : Nat) : Int) ∧ (0 : Int) ≤ (↑x_1 : Int) ∧ (↑x_1 : Int) < (↑(5 : Nat) : Int) ∧ (0 : Int) ≤ (↑x_1 : Int) ∧ (↑x_1 : Int) < (↑(5 : Nat) : Int) ∧ inK IntKind.i64 ((↑x_1 : Int) + (1 : Int)) ∧ ∃ (x_2 : Nat), (x_2 ≤ (5 : Nat) ∧ True) ∧ (5 : Nat) - x_2 < (5 : Nat) - x_1 ∧ (([] : List Nat) = [] ∧ ([] : List Nat) = [] ∧ True ∧ True ∧ ([] : List Nat) = [] ∧ ([] : List Nat) = [] ∧ t.snd.fst = t.snd.fst ∧ (↑(List.length t.snd.fst) : Int) = (↑(List.length t.snd.fst) : Int) ∧ (↑x : Int) = (↑x : Int) ∧ (vst t.snd.fst x).fst.getD (Int.toNat (List.getD t.snd.fst (↑x : Int).toNat ((0 : Int), (0 : Int), ())).snd.fst) (List.replicate (5 : Nat) (0 : Int)) = (vst t.snd.fst x).fst.getD (Int.toNat (List.getD t.snd.fst (↑x : Int).toNat ((0 : Int), (0 : Int), ())).snd.fst) (List.replicate (5 : Nat) (0 : Int)) ∧ (↑x_1 : Int) + (1 : Int) = (↑x_2 : Int) ∧ True) ∧ (((24 : Nat) = (24 : Nat) ∧ t = t) ∧ ((47 : Nat) = (47 : Nat) ∧ (vst t.snd.fst x).snd = (vst t.snd.fst x).snd) ∧ ((45 : Nat) = (45 : Nat) ∧ (vst t.snd.fst x).fst = (vst t.snd.fst x).fst) ∧ ((26 : Nat) = (26 : Nat) ∧ List.map (fun (v : List Int) => List.take t.fst.toNat v) (vst t.snd.fst x).fst = List.map (fun (v : List Int) => List.take t.fst.toNat v) (vst t.snd.fst x).fst) ∧ ((43 : Nat) = (43 : Nat) ∧ List.getD t.snd.fst (↑x : Int).toNat ((0 : Int), (0 : Int), ()) = List.getD t.snd.fst (↑x : Int).toNat ((0 : Int), (0 : Int), ())) ∧ ((45 : Nat) = (45 : Nat) ∧ (vjoin ((vst t.snd.fst (↑x : Int).toNat).snd.getD (t.snd.fst.getD (↑x : Int).toNat ((0 : Int), (0 : Int), ())).fst.toNat []) ((vst t.snd.fst (↑x : Int).toNat).fst.getD (t.snd.fst.getD (↑x : Int).toNat ((0 : Int), (0 : Int), ())).snd.fst.toNat []) x_1).set (↑x_1 : Int).toNat (max ((vjoin ((vst t.snd.fst (↑x : Int).toNat).snd.getD (t.snd.fst.getD (↑x : Int).toNat ((0 : Int), (0 : Int), ())).fst.toNat []) ((vst t.snd.fst (↑x : Int).toNat).fst.getD (t.snd.fst.getD (↑x : Int).toNat ((0 : Int), (0 : Int), ())).snd.fst.toNat []) x_1).getD (↑x_1 : Int).toNat (0 : Int)) (((vst t.snd.fst x).fst.getD (Int.toNat (List.getD t.snd.fst (↑x : Int).toNat ((0 : Int), (0 : Int), ())).snd.fst) (List.replicate (5 : Nat) (0 : Int))).getD (↑x_1 : Int).toNat (0 : Int))) = vjoin ((vst t.snd.fst (↑x : Int).toNat).snd.getD (t.snd.fst.getD (↑x : Int).toNat ((0 : Int), (0 : Int), ())).fst.toNat []) ((vst t.snd.fst (↑x : Int).toNat).fst.getD (t.snd.fst.getD (↑x : Int).toNat ((0 : Int), (0 : Int), ())).snd.fst.toNat []) x_2) ∧ True) ∧ True) ∧ (decide ((↑x_1 : Int) < (5 : Int)) = false → (0 : Int) ≤ (List.getD t.snd.fst (↑x : Int).toNat ((0 : Int), (0 : Int), ())).fst ∧ (List.getD t.snd.fst (↑x : Int).toNat ((0 : Int), (0 : Int), ())).fst < (↑(5 : Nat) : Int) ∧ inK IntKind.i64 ((vjoin ((vst t.snd.fst (↑x : Int).toNat).snd.getD (t.snd.fst.getD (↑x : Int).toNat ((0 : Int), (0 : Int), ())).fst.toNat []) ((vst t.snd.fst (↑x : Int).toNat).fst.getD (t.snd.fst.getD (↑x : Int).toNat ((0 : Int), (0 : Int), ())).snd.fst.toNat []) x_1).getD (Int.toNat (List.getD t.snd.fst (↑x : Int).toNat ((0 : Int), (0 : Int), ())).fst) (0 : Int) + (1 : Int)) ∧ (0 : Int) ≤ (List.getD t.snd.fst (↑x : Int).toNat ((0 : Int), (0 : Int), ())).fst ∧ (List.getD t.snd.fst (↑x : Int).toNat ((0 : Int), (0 : Int), ())).fst < (↑(5 : Nat) : Int) ∧ (0 : Int) ≤ (List.getD t.snd.fst (↑x : Int).toNat ((0 : Int), (0 : Int), ())).fst ∧ (List.getD t.snd.fst (↑x : Int).toNat ((0 : Int), (0 : Int), ())).fst < (↑(5 : Nat) : Int) ∧ (vst t.snd.fst x).fst.length + ((List.replicate (1 : Nat) (List.replicate (5 : Nat) (0 : Int))).set (0 : Nat) ((vjoin ((vst t.snd.fst (↑x : Int).toNat).snd.getD (t.snd.fst.getD (↑x : Int).toNat ((0 : Int), (0 : Int), ())).fst.toNat []) ((vst t.snd.fst (↑x : Int).toNat).fst.getD (t.snd.fst.getD (↑x : Int).toNat ((0 : Int), (0 : Int), ())).snd.fst.toNat []) x_1).set (Int.toNat (List.getD t.snd.fst (↑x : Int).toNat ((0 : Int), (0 : Int), ())).fst) ((vjoin ((vst t.snd.fst (↑x : Int).toNat).snd.getD (t.snd.fst.getD (↑x : Int).toNat ((0 : Int), (0 : Int), ())).fst.toNat []) ((vst t.snd.fst (↑x : Int).toNat).fst.getD (t.snd.fst.getD (↑x : Int).toNat ((0 : Int), (0 : Int), ())).snd.fst.toNat []) x_1).getD (Int.toNat (List.getD t.snd.fst (↑x : Int).toNat ((0 : Int), (0 : Int), ())).fst) (0 : Int) + (1 : Int)))).length ≤ (1000000000 : Nat) ∧ (0 : Int) ≤ (0 : Int) ∧ (0 : Int) ≤ t.fst ∧ t.fst ≤ (↑(5 : Nat) : Int) ∧ ((List.drop (Int.toNat (0 : Int)) (List.take (Int.toNat t.fst) ((vjoin ((vst t.snd.fst (↑x : Int).toNat).snd.getD (t.snd.fst.getD (↑x : Int).toNat ((0 : Int), (0 : Int), ())).fst.toNat []) ((vst t.snd.fst (↑x : Int).toNat).fst.getD (t.snd.fst.getD (↑x : Int).toNat ((0 : Int), (0 : Int), ())).snd.fst.toNat []) x_1).set (Int.toNat (List.getD t.snd.fst (↑x : Int).toNat ((0 : Int), (0 : Int), ())).fst) ((vjoin ((vst t.snd.fst (↑x : Int).toNat).snd.getD (t.snd.fst.getD (↑x : Int).toNat ((0 : Int), (0 : Int), ())).fst.toNat []) ((vst t.snd.fst (↑x : Int).toNat).fst.getD (t.snd.fst.getD (↑x : Int).toNat ((0 : Int), (0 : Int), ())).snd.fst.toNat []) x_1).getD (Int.toNat (List.getD t.snd.fst (↑x : Int).toNat ((0 : Int), (0 : Int), ())).fst) (0 : Int) + (1 : Int))))).length ≤ (1000000000 : Nat) ∧ True) ∧ (List.map (fun (v : List Int) => List.take t.fst.toNat v) (vst t.snd.fst x).fst).length + ((List.replicate (1 : Nat) []).set (0 : Nat) (List.drop (Int.toNat (0 : Int)) (List.take (Int.toNat t.fst) ((vjoin ((vst t.snd.fst (↑x : Int).toNat).snd.getD (t.snd.fst.getD (↑x : Int).toNat ((0 : Int), (0 : Int), ())).fst.toNat []) ((vst t.snd.fst (↑x : Int).toNat).fst.getD (t.snd.fst.getD (↑x : Int).toNat ((0 : Int), (0 : Int), ())).snd.fst.toNat []) x_1).set (Int.toNat (List.getD t.snd.fst (↑x : Int).toNat ((0 : Int), (0 : Int), ())).fst) ((vjoin ((vst t.snd.fst (↑x : Int).toNat).snd.getD (t.snd.fst.getD (↑x : Int).toNat ((0 : Int), (0 : Int), ())).fst.toNat []) ((vst t.snd.fst (↑x : Int).toNat).fst.getD (t.snd.fst.getD (↑x : Int).toNat ((0 : Int), (0 : Int), ())).snd.fst.toNat []) x_1).getD (Int.toNat (List.getD t.snd.fst (↑x : Int).toNat ((0 : Int), (0 : Int), ())).fst) (0 : Int) + (1 : Int)))))).length ≤ (1000000000 : Nat) ∧ inK IntKind.i64 ((↑x : Int) + (1 : Int)) ∧ ∃ (x_2 : Nat), (x_2 ≤ t.snd.fst.length ∧ True) ∧ t.snd.fst.length - x_2 < t.snd.fst.length - x ∧ (([] : List Nat) = [] ∧ ([] : List Nat) = [] ∧ True ∧ True ∧ t.snd.fst = t.snd.fst ∧ (↑(List.length t.snd.fst) : Int) = (↑(List.length t.snd.fst) : Int) ∧ (↑x : Int) + (1 : Int) = (↑x_2 : Int) ∧ True) ∧ (((24 : Nat) = (24 : Nat) ∧ t = t) ∧ ((47 : Nat) = (47 : Nat) ∧ (vst t.snd.fst x).snd.set (Int.toNat (List.getD t.snd.fst (↑x : Int).toNat ((0 : Int), (0 : Int), ())).fst) ((vjoin ((vst t.snd.fst (↑x : Int).toNat).snd.getD (t.snd.fst.getD (↑x : Int).toNat ((0 : Int), (0 : Int), ())).fst.toNat []) ((vst t.snd.fst (↑x : Int).toNat).fst.getD (t.snd.fst.getD (↑x : Int).toNat ((0 : Int), (0 : Int), ())).snd.fst.toNat []) x_1).set (Int.toNat (List.getD t.snd.fst (↑x : Int).toNat ((0 : Int), (0 : Int), ())).fst) ((vjoin ((vst t.snd.fst (↑x : Int).toNat).snd.getD (t.snd.fst.getD (↑x : Int).toNat ((0 : Int), (0 : Int), ())).fst.toNat []) ((vst t.snd.fst (↑x : Int).toNat).fst.getD (t.snd.fst.getD (↑x : Int).toNat ((0 : Int), (0 : Int), ())).snd.fst.toNat []) x_1).getD (Int.toNat (List.getD t.snd.fst (↑x : Int).toNat ((0 : Int), (0 : Int), ())).fst) (0 : Int) + (1 : Int))) = (vst t.snd.fst x_2).snd) ∧ ((45 : Nat) = (45 : Nat) ∧ (vst t.snd.fst x).fst.append ((List.replicate (1 : Nat) (List.replicate (5 : Nat) (0 : Int))).set (0 : Nat) ((vjoin ((vst t.snd.fst (↑x : Int).toNat).snd.getD (t.snd.fst.getD (↑x : Int).toNat ((0 : Int), (0 : Int), ())).fst.toNat []) ((vst t.snd.fst (↑x : Int).toNat).fst.getD (t.snd.fst.getD (↑x : Int).toNat ((0 : Int), (0 : Int), ())).snd.fst.toNat []) x_1).set (Int.toNat (List.getD t.snd.fst (↑x : Int).toNat ((0 : Int), (0 : Int), ())).fst) ((vjoin ((vst t.snd.fst (↑x : Int).toNat).snd.getD (t.snd.fst.getD (↑x : Int).toNat ((0 : Int), (0 : Int), ())).fst.toNat []) ((vst t.snd.fst (↑x : Int).toNat).fst.getD (t.snd.fst.getD (↑x : Int).toNat ((0 : Int), (0 : Int), ())).snd.fst.toNat []) x_1).getD (Int.toNat (List.getD t.snd.fst (↑x : Int).toNat ((0 : Int), (0 : Int), ())).fst) (0 : Int) + (1 : Int)))) = (vst t.snd.fst x_2).fst) ∧ ((26 : Nat) = (26 : Nat) ∧ (List.map (fun (v : List Int) => List.take t.fst.toNat v) (vst t.snd.fst x).fst).append ((List.replicate (1 : Nat) []).set (0 : Nat) (List.drop (Int.toNat (0 : Int)) (List.take (Int.toNat t.fst) ((vjoin ((vst t.snd.fst (↑x : Int).toNat).snd.getD (t.snd.fst.getD (↑x : Int).toNat ((0 : Int), (0 : Int), ())).fst.toNat []) ((vst t.snd.fst (↑x : Int).toNat).fst.getD (t.snd.fst.getD (↑x : Int).toNat ((0 : Int), (0 : Int), ())).snd.fst.toNat []) x_1).set (Int.toNat (List.getD t.snd.fst (↑x : Int).toNat ((0 : Int), (0 : Int), ())).fst) ((vjoin ((vst t.snd.fst (↑x : Int).toNat).snd.getD (t.snd.fst.getD (↑x : Int).toNat ((0 : Int), (0 : Int), ())).fst.toNat []) ((vst t.snd.fst (↑x : Int).toNat).fst.getD (t.snd.fst.getD (↑x : Int).toNat ((0 : Int), (0 : Int), ())).snd.fst.toNat []) x_1).getD (Int.toNat (List.getD t.snd.fst (↑x : Int).toNat ((0 : Int), (0 : Int), ())).fst) (0 : Int) + (1 : Int)))))) = List.map (fun (v : List Int) => List.take t.fst.toNat v) (vst t.snd.fst x_2).fst) ∧ True) ∧ True)) ∧ (decide ((0 : Int) ≤ (List.getD t.snd.fst (↑x : Int).toNat ((0 : Int), (0 : Int), ())).snd.fst) = false → (0 : Int) ≤ (List.getD t.snd.fst (↑x : Int).toNat ((0 : Int), (0 : Int), ())).fst ∧ (List.getD t.snd.fst (↑x : Int).toNat ((0 : Int), (0 : Int), ())).fst < (↑(5 : Nat) : Int) ∧ inK IntKind.i64 (((vst t.snd.fst x).snd.getD (Int.toNat (List.getD t.snd.fst (↑x : Int).toNat ((0 : Int), (0 : Int), ())).fst) (List.replicate (5 : Nat) (0 : Int))).getD (Int.toNat (List.getD t.snd.fst (↑x : Int).toNat ((0 : Int), (0 : Int), ())).fst) (0 : Int) + (1 : Int)) ∧ (0 : Int) ≤ (List.getD t.snd.fst (↑x : Int).toNat ((0 : Int), (0 : Int), ())).fst ∧ (List.getD t.snd.fst (↑x : Int).toNat ((0 : Int), (0 : Int), ())).fst < (↑(5 : Nat) : Int) ∧ (0 : Int) ≤ (List.getD t.snd.fst (↑x : Int).toNat ((0 : Int), (0 : Int), ())).fst ∧ (List.getD t.snd.fst (↑x : Int).toNat ((0 : Int), (0 : Int), ())).fst < (↑(5 : Nat) : Int) ∧ (vst t.snd.fst x).fst.length + ((List.replicate (1 : Nat) (List.replicate (5 : Nat) (0 : Int))).set (0 : Nat) (((vst t.snd.fst x).snd.getD (Int.toNat (List.getD t.snd.fst (↑x : Int).toNat ((0 : Int), (0 : Int), ())).fst) (List.replicate (5 : Nat) (0 : Int))).set (Int.toNat (List.getD t.snd.fst (↑x : Int).toNat ((0 : Int), (0 : Int), ())).fst) (((vst t.snd.fst x).snd.getD (Int.toNat (List.getD t.snd.fst (↑x : Int).toNat ((0 : Int), (0 : Int), ())).fst) (List.replicate (5 : Nat) (0 : Int))).getD (Int.toNat (List.getD t.snd.fst (↑x : Int).toNat ((0 : Int), (0 : Int), ())).fst) (0 : Int) + (1 : Int)))).length ≤ (1000000000 : Nat) ∧ (0 : Int) ≤ (0 : Int) ∧ (0 : Int) ≤ t.fst ∧ t.fst ≤ (↑(5 : Nat) : Int) ∧ ((List.drop (Int.toNat (0 : Int)) (List.take (Int.toNat t.fst) (((vst t.snd.fst x).snd.getD (Int.toNat (List.getD t.snd.fst (↑x : Int).toNat ((0 : Int), (0 : Int), ())).fst) (List.replicate (5 : Nat) (0 : Int))).set (Int.toNat (List.getD t.snd.fst (↑x : Int).toNat ((0 : Int), (0 : Int), ())).fst) (((vst t.snd.fst x).snd.getD (Int.toNat (List.getD t.snd.fst (↑x : Int).toNat ((0 : Int), (0 : Int), ())).fst) (List.replicate (5 : Nat) (0 : Int))).getD (Int.toNat (List.getD t.snd.fst (↑x : Int).toNat ((0 : Int), (0 : Int), ())).fst) (0 : Int) + (1 : Int))))).length ≤ (1000000000 : Nat) ∧ True) ∧ (List.map (fun (v : List Int) => List.take t.fst.toNat v) (vst t.snd.fst x).fst).length + ((List.replicate (1 : Nat) []).set (0 : Nat) (List.drop (Int.toNat (0 : Int)) (List.take (Int.toNat t.fst) (((vst t.snd.fst x).snd.getD (Int.toNat (List.getD t.snd.fst (↑x : Int).toNat ((0 : Int), (0 : Int), ())).fst) (List.replicate (5 : Nat) (0 : Int))).set (Int.toNat (List.getD t.snd.fst (↑x : Int).toNat ((0 : Int), (0 : Int), ())).fst) (((vst t.snd.fst x).snd.getD (Int.toNat (List.getD t.snd.fst (↑x : Int).toNat ((0 : Int), (0 : Int), ())).fst) (List.replicate (5 : Nat) (0 : Int))).getD (Int.toNat (List.getD t.snd.fst (↑x : Int).toNat ((0 : Int), (0 : Int), ())).fst) (0 : Int) + (1 : Int)))))).length ≤ (1000000000 : Nat) ∧ inK IntKind.i64 ((↑x : Int) + (1 : Int)) ∧ ∃ (x_1 : Nat), (x_1 ≤ t.snd.fst.length ∧ True) ∧ t.snd.fst.length - x_1 < t.snd.fst.length - x ∧ (([] : List Nat) = [] ∧ ([] : List Nat) = [] ∧ True ∧ True ∧ t.snd.fst = t.snd.fst ∧ (↑(List.length t.snd.fst) : Int) = (↑(List.length t.snd.fst) : Int) ∧ (↑x : Int) + (1 : Int) = (↑x_1 : Int) ∧ True) ∧ (((24 : Nat) = (24 : Nat) ∧ t = t) ∧ ((47 : Nat) = (47 : Nat) ∧ (vst t.snd.fst x).snd.set (Int.toNat (List.getD t.snd.fst (↑x : Int).toNat ((0 : Int), (0 : Int), ())).fst) (((vst t.snd.fst x).snd.getD (Int.toNat (List.getD t.snd.fst (↑x : Int).toNat ((0 : Int), (0 : Int), ())).fst) (List.replicate (5 : Nat) (0 : Int))).set (Int.toNat (List.getD t.snd.fst (↑x : Int).toNat ((0 : Int), (0 : Int), ())).fst) (((vst t.snd.fst x).snd.getD (Int.toNat (List.getD t.snd.fst (↑x : Int).toNat ((0 : Int), (0 : Int), ())).fst) (List.replicate (5 : Nat) (0 : Int))).getD (Int.toNat (List.getD t.snd.fst (↑x : Int).toNat ((0 : Int), (0 : Int), ())).fst) (0 : Int) + (1 : Int))) = (vst t.snd.fst x_1).snd) ∧ ((45 : Nat) = (45 : Nat) ∧ (vst t.snd.fst x).fst.append ((List.replicate (1 : Nat) (List.replicate (5 : Nat) (0 : Int))).set (0 : Nat) (((vst t.snd.fst x).snd.getD (Int.toNat (List.getD t.snd.fst (↑x : Int).toNat ((0 : Int), (0 : Int), ())).fst) (List.replicate (5 : Nat) (0 : Int))).set (Int.toNat (List.getD t.snd.fst (↑x : Int).toNat ((0 : Int), (0 : Int), ())).fst) (((vst t.snd.fst x).snd.getD (Int.toNat (List.getD t.snd.fst (↑x : Int).toNat ((0 : Int), (0 : Int), ())).fst) (List.replicate (5 : Nat) (0 : Int))).getD (Int.toNat (List.getD t.snd.fst (↑x : Int).toNat ((0 : Int), (0 : Int), ())).fst) (0 : Int) + (1 : Int)))) = (vst t.snd.fst x_1).fst) ∧ ((26 : Nat) = (26 : Nat) ∧ (List.map (fun (v : List Int) => List.take t.fst.toNat v) (vst t.snd.fst x).fst).append ((List.replicate (1 : Nat) []).set (0 : Nat) (List.drop (Int.toNat (0 : Int)) (List.take (Int.toNat t.fst) (((vst t.snd.fst x).snd.getD (Int.toNat (List.getD t.snd.fst (↑x : Int).toNat ((0 : Int), (0 : Int), ())).fst) (List.replicate (5 : Nat) (0 : Int))).set (Int.toNat (List.getD t.snd.fst (↑x : Int).toNat ((0 : Int), (0 : Int), ())).fst) (((vst t.snd.fst x).snd.getD (Int.toNat (List.getD t.snd.fst (↑x : Int).toNat ((0 : Int), (0 : Int), ())).fst) (List.replicate (5 : Nat) (0 : Int))).getD (Int.toNat (List.getD t.snd.fst (↑x : Int).toNat ((0 : Int), (0 : Int), ())).fst) (0 : Int) + (1 : Int)))))) = List.map (fun (v : List Int) => List.take t.fst.toNat v) (vst t.snd.fst x_1).fst) ∧ True) ∧ True)) ∧ (decide ((↑x : Int) < (↑(List.length t.snd.fst) : Int)) = false → k [Dat.mk (I).sl.sl (List.map (fun (v : List Int) => List.take t.fst.toNat v) (vst t.snd.fst x).fst), Dat.mk (Ty.err (55 : Nat)) (0 : Int)]))) := by kernel_rfl
theorem vcRows (a b : List (List Int)) (k : List Dat → Prop) : vcF ⟨Ev5, [(13, cInts)], [], [], []⟩ (anRows a b) (Try.f14.body.getD .skip) Try.f14.ntmps [(.tmp 4, .bool)] [⟨.sl (.sl I), a⟩, ⟨.sl (.sl I), b⟩] k = (
  ((!decide ((↑a.length : Int) = (↑b.length : Int))) = true → k [Dat.mk Ty.bool false]) ∧ ((!decide ((↑a.length : Int) = (↑b.length : Int))) = false → (∃ (x : Nat), (x ≤ a.length ∧ List.take x a = List.take x b) ∧ (a = a ∧ b = b ∧ (0 : Int) = (↑x : Int) ∧ True) ∧ True ∧ True) ∧ ∀ (x : Nat), x ≤ a.length ∧ List.take x a = List.take x b → (decide ((↑x : Int) < (↑a.length : Int)) = true → (0 : Int) ≤ (↑x : Int) ∧ (↑x : Int) < (↑a.length : Int) ∧ (0 : Int) ≤ (↑x : Int) ∧ (↑x : Int) < (↑b.length : Int) ∧ True ∧ ((!a.getD (↑x : Int).toNat [] == b.getD (↑x : Int).toNat []) = true → k [Dat.mk Ty.bool false]) ∧ ((!a.getD (↑x : Int).toNat [] == b.getD (↑x : Int).toNat []) = false → inK IntKind.i64 ((↑x : Int) + (1 : Int)) ∧ ∃ (x_1 : Nat), (x_1 ≤ a.length ∧ List.take x_1 a = List.take x_1 b) ∧ a.length - x_1 < a.length - x ∧ (a = a ∧ b = b ∧ (↑x : Int) + (1 : Int) = (↑x_1 : Int) ∧ True) ∧ True ∧ True)) ∧ (decide ((↑x : Int) < (↑a.length : Int)) = false → k [Dat.mk Ty.bool true]))) := by kernel_rfl
theorem vcSFact (k : List Dat → Prop) : vcF ⟨Ev5, [(11, cTalk), (10, cPlain), (12, cVecs), (13, cInts), (14, cRows)], [], [], []⟩ [joinAll] (Try.f4.body.getD .skip) Try.f4.ntmps [(.tmp 0, .bool)] [] k = (
  True ∧ True ∧ True ∧ True ∧ (decide (chk talkT = (0 : Int)) = true → (decide (chk talkT = (0 : Int)) = true → True ∧ ((plain talkT == (((List.replicate (3 : Nat) (0 : Int)).set (0 : Nat) (1 : Int)).set (1 : Nat) (2 : Int)).set (2 : Nat) (2 : Int)) = true → True ∧ k [Dat.mk Ty.bool (vecs talkT == (((List.replicate (3 : Nat) []).set (0 : Nat) (((List.replicate (2 : Nat) (0 : Int)).set (0 : Nat) (1 : Int)).set (1 : Nat) (0 : Int))).set (1 : Nat) (((List.replicate (2 : Nat) (0 : Int)).set (0 : Nat) (1 : Int)).set (1 : Nat) (1 : Int))).set (2 : Nat) (((List.replicate (2 : Nat) (0 : Int)).set (0 : Nat) (2 : Int)).set (1 : Nat) (0 : Int)))]) ∧ ((plain talkT == (((List.replicate (3 : Nat) (0 : Int)).set (0 : Nat) (1 : Int)).set (1 : Nat) (2 : Int)).set (2 : Nat) (2 : Int)) = false → k [Dat.mk Ty.bool false])) ∧ (decide (chk talkT = (0 : Int)) = false → k [Dat.mk Ty.bool false])) ∧ (decide (chk talkT = (0 : Int)) = false → k [Dat.mk Ty.bool false])) := by kernel_rfl
end Go.Proofs.Ytbpoeigaoakdiaa

/- Clocks that count: the functions keep their contracts. -/
namespace Go.Proofs.Ytbpoeigaoakdiaa
open Go.Vc

theorem getD_app {α : Type} (l : List α) (s z : α) (j : Nat) : (l ++ [s]).getD j z = if j = l.length then s else l.getD j z := by
  rw [List.getD_eq_getElem?_getD, List.getD_eq_getElem?_getD]
  split
  · rename_i h; subst h; simp
  · rename_i h
    by_cases hj : j < l.length
    · rw [List.getElem?_append_left hj]
    · rw [List.getElem?_eq_none (by simp; omega), List.getElem?_eq_none (by omega)]
theorem getD_set' {α : Type} (l : List α) (s z : α) (i j : Nat) : (l.set i s).getD j z = if i = j ∧ i < l.length then s else l.getD j z := by
  rw [List.getD_eq_getElem?_getD, List.getD_eq_getElem?_getD, List.getElem?_set]
  split
  · rename_i h; subst h
    split
    · rename_i h; rw [if_pos ⟨rfl, h⟩]; rfl
    · rename_i h; rw [if_neg (by omega), List.getElem?_eq_none (by omega)]
  · rename_i h; rw [if_neg (by omega)]


theorem okClone : PlainOk Try.prog [] 21 cClone := by
  refine plain_of (CxOk.mk' Ev5_ok (by kernel_rfl) mixed (gl := []) GOk.nil GoOk.nil noIt) Try.func21 (c := Try.f21.body.getD .skip) (rvs := [(.tmp 2, .sl I)]) (by kernel_rfl) (by kernel_rfl) (by kernel_rfl) ?_
  intro ds k ⟨hp, hk⟩ hwf
  obtain ⟨l, rfl, hl, -⟩ := dest1 hp
  clear hp hwf
  revert hk hl
  revert l
  intro (l : List Int) hk hl
  have hk : k [⟨.sl I, l⟩] := hk
  have hl : l.length ≤ 1000000000 := hl
  refine ⟨[], ?_⟩
  rw [vcClone]
  intro b hb
  refine ⟨fun h => ?_, fun _ => ⟨by simpa using hl, hk⟩⟩
  have := hb h
  subst this
  exact hk
end Go.Proofs.Ytbpoeigaoakdiaa

/- Traces: sets in sets; what is wrong with a trace. -/
namespace Go.Proofs.Ytbpoeigaoakdiaa
open Go.Vc

theorem subN_fuel : ∀ (f g a : Nat) (b : Int), a ≤ f → a ≤ g → subN f a b = subN g a b := by
  intro f
  induction f with
  | zero =>
    intro g a b h1 h2
    have : a = 0 := by omega
    subst this
    cases g <;> simp [subN]
  | succ f ih =>
    intro g a b h1 h2
    cases g with
    | zero =>
      have : a = 0 := by omega
      subst this
      simp [subN]
    | succ g =>
      unfold subN
      by_cases h : a = 0
      · simp [h]
      · rw [if_neg h, if_neg h, ih g (a / 2) (b.tdiv 2) (by omega) (by omega)]

theorem subB_pos {a b : Int} (h : 0 < a) : subB a b = if a.tmod 2 = 1 ∧ b.tmod 2 = 0 then false else subB (a.tdiv 2) (b.tdiv 2) := by
  obtain ⟨n, rfl⟩ := Int.eq_ofNat_of_zero_le (Int.le_of_lt h)
  have hn : 0 < n := by omega
  have e1 : ((n : Int).tdiv 2) = ((n / 2 : Nat) : Int) := by simp
  have e2 : ((n : Int).tmod 2 = 1) ↔ n % 2 = 1 := by
    have : (n : Int).tmod 2 = ((n % 2 : Nat) : Int) := (Int.ofNat_tmod n 2).symm
    rw [this]; omega
  rw [e1]
  unfold subB
  simp only [Int.toNat_natCast, e2]
  obtain ⟨m, rfl⟩ : ∃ m, n = m + 1 := ⟨n - 1, by omega⟩
  rw [subN, if_neg (by omega)]
  rw [subN_fuel m ((m + 1) / 2) ((m + 1) / 2) _ (by omega) (Nat.le_refl _)]

theorem subB_neg {a b : Int} (h : ¬ 0 < a) : subB a b = true := by
  unfold subB
  have : a.toNat = 0 := by omega
  rw [this]; rfl

theorem half_in {q : Int} (h : inK .i64 q) : inK .i64 (q.tmod 2) ∧ inK .i64 (q.tdiv 2) := by
  have h1 := tdiv_in h 0
  have h2 := tdiv_in h 1
  simp only [Int.pow_zero, Int.tdiv_one] at h1
  rw [Int.pow_succ, Int.pow_zero, Int.one_mul] at h2
  exact ⟨h1.2, h2.1⟩

theorem okSub : PlainOk Try.prog [] 8 cSub := by
  refine plain_of (CxOk.mk' Et_ok rfl mixed (gl := []) GOk.nil GoOk.nil noIt) Try.func8 (c := Try.f8.body.getD .skip) (rvs := [(.tmp 4, .bool)]) (by kernel_rfl) (by kernel_rfl) (by kernel_rfl) ?_
  intro ds k ⟨hp, hk⟩ hwf
  obtain ⟨a, b, rfl, -⟩ := dest2 hp
  have hk : k [⟨.bool, subB a b⟩] := hk
  have ha : inK .i64 a := (wf2 hwf).1
  have hb : inK .i64 b := (wf2 hwf).2
  refine ⟨anSub a b, ?_⟩
  rw [vcSub]
  simp only [decide_eq_true_eq, decide_eq_false_iff_not, and_true, true_and, ne_eq]
  have ret : ∀ x : Bool, subB a b = x → k [⟨.bool, x⟩] := by rintro _ rfl; exact hk
  have h20 : ¬ (2 : Int) = 0 := by decide
  refine ⟨⟨(a, b), ⟨rfl, ha, hb⟩, rfl, rfl⟩, fun x ⟨h1, h2, h3⟩ => ⟨fun h => ?_, fun h => ret _ (by rw [h1, subB_neg h])⟩⟩
  have hst := subB_pos (b := x.2) h
  have hlt : (x.1.tdiv 2).toNat < x.1.toNat := by
    obtain ⟨n, hn⟩ := Int.eq_ofNat_of_zero_le (Int.le_of_lt h)
    have e1 : (x.1.tdiv 2) = ((n / 2 : Nat) : Int) := by rw [hn]; simp
    rw [e1]; omega
  refine ⟨h20, (half_in h2).1, fun h4 => ⟨h20, (half_in h3).1, fun h5 => ret _ (by rw [h1, hst, if_pos ⟨h4, h5⟩]), fun h5 => ⟨h20, (half_in h2).2, h20, (half_in h3).2, (x.1.tdiv 2, x.2.tdiv 2), ⟨by rw [h1, hst, if_neg (fun h => h5 h.2)], (half_in h2).2, (half_in h3).2⟩, hlt, rfl, rfl⟩⟩,
    fun h4 => ⟨h20, (half_in h2).2, h20, (half_in h3).2, (x.1.tdiv 2, x.2.tdiv 2), ⟨by rw [h1, hst, if_neg (fun h => h4 h.1)], (half_in h2).2, (half_in h3).2⟩, hlt, rfl, rfl⟩⟩

theorem okCheck : PlainOk Try.prog [] 19 cCheck := by
  refine plain_of (CxOk.mk' Et_ok rfl mixed (gl := []) (GOk.cons okWithin Try.func25 (by kernel_rfl) (by kernel_rfl) GOk.nil) GoOk.nil noIt) Try.func19 (c := Try.f19.body.getD .skip) (rvs := [(.tmp 2, tErr)]) (by kernel_rfl) (by kernel_rfl) (by kernel_rfl) ?_
  intro ds k ⟨hp, hk⟩ hwf
  obtain ⟨t, rfl, -⟩ := dest1 hp
  revert hk hwf
  revert t
  intro (t : Tr) _ hk hwf
  have hk : k [⟨tErr, chk t⟩] := hk
  have ht : inK .i64 t.1 := (wf1 hwf).1
  refine ⟨anCheck t, ?_⟩
  rw [vcCheck]
  have ret : ∀ x : Int, chk t = x → k [⟨tErr, x⟩] := by rintro _ rfl; exact hk
  simp only [decide_eq_true_eq, decide_eq_false_iff_not, and_true, true_and, ne_eq, Bool.not_eq_true', Bool.not_eq_false', Int.toNat_natCast]
  have h10 : ¬ (1 : Int) = 0 := by decide
  have h40 : ¬ (4 : Int) = 0 := by decide
  have h60 : ¬ (6 : Int) = 0 := by decide
  refine ⟨fun h => ⟨h10, ret _ (by unfold chk; rw [if_pos h])⟩, fun h => ⟨fun g => ⟨h40, ret _ (by unfold chk; rw [if_neg (by rw [h]; decide), if_pos (by omega)])⟩, fun g => ?_⟩⟩
  have hp : 1 ≤ t.1 ∧ t.1 ≤ 5 := by simpa [inB] using h
  have hlen : t.2.1.length ≤ 24 := by omega
  have hc0 : chk t = evsErr t.1 t.2.1 t.2.1.length 0 := by
    unfold chk; rw [if_neg (by rw [h]; decide), if_neg (by omega)]
  have hstep : ∀ x, x < t.2.1.length → evsErr t.1 t.2.1 (t.2.1.length - x) x = if evErr t.1 t.2.1 x = 0 then evsErr t.1 t.2.1 (t.2.1.length - (x + 1)) (x + 1) else evErr t.1 t.2.1 x := by
    intro x hx
    rw [show t.2.1.length - x = (t.2.1.length - (x + 1)) + 1 by omega]
    rfl
  refine ⟨⟨0, ⟨hc0, Nat.zero_le _⟩, rfl⟩, fun x ⟨hx, hxl⟩ => ⟨fun hlt => ?_, fun hge => ret _ ?_⟩⟩
  · have hst := hstep x (by omega)
    have bad : ∀ n, evErr t.1 t.2.1 x = n → n ≠ 0 → k [⟨tErr, n⟩] := fun n h1 h2 => ret n (by rw [hx, hst, if_neg (by rw [h1]; exact h2), h1])
    have good : evErr t.1 t.2.1 x = 0 → inK IntKind.i64 ((x : Int) + 1) ∧ ∃ x', (chk t = evsErr t.1 t.2.1 (t.2.1.length - x') x' ∧ x' ≤ t.2.1.length) ∧ t.2.1.length - x' < t.2.1.length - x ∧ (x : Int) + 1 = (x' : Int) := fun h1 =>
      ⟨inK_i64.2 (by omega), x + 1, ⟨by rw [hx, hst, if_pos h1], by omega⟩, by omega, by omega⟩
    refine ⟨by omega, hlt, inK_i64.2 (by omega), fun h1 => ⟨h10, bad 1 ?_ h10⟩, fun h1 => ⟨inK_i64.2 (by omega), fun h2 => ⟨h10, bad 1 ?_ h10⟩, fun h2 => ⟨fun h3 => ⟨h3, ?_, fun h4 => ⟨h60, bad 6 ?_ h60⟩, fun h4 => good ?_⟩, fun h3 => good ?_⟩⟩⟩
    · unfold evErr; rw [if_pos (by rw [h1]; rfl)]
    · unfold evErr; rw [if_pos (by rw [h1, h2]; rfl)]
    · have : (t.2.1.getD x (0, 0, ())).2.1 ≤ (x : Int) - 1 := by
        simp only [inB, Bool.and_eq_true, decide_eq_true_eq] at h2; exact h2.2
      omega
    · unfold evErr; rw [if_neg (by rw [h1, h2]; decide), if_pos ⟨h3, h4⟩]
    · unfold evErr; rw [if_neg (by rw [h1, h2]; decide), if_neg (fun h => h4 h.2)]
    · unfold evErr; rw [if_neg (by rw [h1, h2]; decide), if_neg (fun h => h3 h.1)]
  · have : x = t.2.1.length := by omega
    rw [hx, this, Nat.sub_self]; rfl
end Go.Proofs.Ytbpoeigaoakdiaa

/- What the functions of this seat have to satisfy, by program: each verification condition in plain words. -/
namespace Go.Proofs.Ytbpoeigaoakdiaa
open Go.Vc
set_option linter.unusedVariables false
theorem vcBefore (t : Tr) (k : List Dat → Prop) : vcF ⟨Et, [(19, cCheck)], [], [], []⟩ (anBefore t) (Try.f6.body.getD .skip) Try.f6.ntmps [(.tmp 2, .sl I), (.tmp 3, tErr)] [⟨tTr, t⟩] k = (
  True ∧ ((!decide (chk t = (0 : Int))) = true → k [Dat.mk (I).sl [], Dat.mk (Ty.err (55 : Nat)) (chk t)]) ∧ ((!decide (chk t = (0 : Int))) = false → (0 : Int) ≤ (↑(List.length t.snd.fst) : Int) ∧ (↑(List.length t.snd.fst) : Int) ≤ (↑(List.length t.snd.fst) : Int) ∧ (↑(List.length t.snd.fst) : Int) ≤ (1000000000 : Int) ∧ (∃ (x : Nat), (x ≤ t.snd.fst.length ∧ chk t = (0 : Int)) ∧ (t = t ∧ ([] : List Nat) = [] ∧ True ∧ (0 : Int) = (0 : Int) ∧ chk t = chk t ∧ True ∧ ([] : List Nat) = [] ∧ t = t ∧ chk t = chk t ∧ chk t = chk t ∧ (!decide (chk t = (0 : Int))) = !decide (chk t = (0 : Int)) ∧ [] ++ [(1 : Nat)] = [] ++ [(1 : Nat)] ∧ t.snd.fst = t.snd.fst ∧ (↑(List.length t.snd.fst) : Int) = (↑(List.length t.snd.fst) : Int) ∧ True ∧ [] ++ [(1 : Nat)] = [] ++ [(1 : Nat)] ∧ t.snd.fst = t.snd.fst ∧ (↑(List.length t.snd.fst) : Int) = (↑(List.length t.snd.fst) : Int) ∧ (0 : Int) = (↑x : Int) ∧ True) ∧ (((24 : Nat) = (24 : Nat) ∧ t = t) ∧ ((3 : Nat) = (3 : Nat) ∧ List.replicate (↑(List.length t.snd.fst) : Int).toNat (0 : Int) = ints (bst t.snd.fst x).fst) ∧ ((45 : Nat) = (45 : Nat) ∧ List.replicate (5 : Nat) (0 : Int) = ints (bst t.snd.fst x).snd) ∧ True) ∧ True) ∧ ∀ (x : Nat), x ≤ t.snd.fst.length ∧ chk t = (0 : Int) → (decide ((↑x : Int) < (↑(List.length t.snd.fst) : Int)) = true → (0 : Int) ≤ (↑x : Int) ∧ (↑x : Int) < (↑(List.length t.snd.fst) : Int) ∧ (0 : Int) ≤ (List.getD t.snd.fst (↑x : Int).toNat ((0 : Int), (0 : Int), ())).fst ∧ (List.getD t.snd.fst (↑x : Int).toNat ((0 : Int), (0 : Int), ())).fst < (↑(5 : Nat) : Int) ∧ (0 : Int) ≤ (↑x : Int) ∧ (↑x : Int) < (↑(ints (bst t.snd.fst x).fst).length : Int) ∧ (decide ((0 : Int) ≤ (List.getD t.snd.fst (↑x : Int).toNat ((0 : Int), (0 : Int), ())).snd.fst) = true → (0 : Int) ≤ (↑x : Int) ∧ (↑x : Int) < (↑((ints (bst t.snd.fst x).fst).set (↑x : Int).toNat ((ints (bst t.snd.fst x).snd).getD (Int.toNat (List.getD t.snd.fst (↑x : Int).toNat ((0 : Int), (0 : Int), ())).fst) (0 : Int))).length : Int) ∧ (0 : Int) ≤ (List.getD t.snd.fst (↑x : Int).toNat ((0 : Int), (0 : Int), ())).snd.fst ∧ (List.getD t.snd.fst (↑x : Int).toNat ((0 : Int), (0 : Int), ())).snd.fst < (↑((ints (bst t.snd.fst x).fst).set (↑x : Int).toNat ((ints (bst t.snd.fst x).snd).getD (Int.toNat (List.getD t.snd.fst (↑x : Int).toNat ((0 : Int), (0 : Int), ())).fst) (0 : Int))).length : Int) ∧ (0 : Int) ≤ (List.getD t.snd.fst (↑x : Int).toNat ((0 : Int), (0 : Int), ())).snd.fst ∧ (List.getD t.snd.fst (↑x : Int).toNat ((0 : Int), (0 : Int), ())).snd.fst < (64 : Int) ∧ IntKind.i64.bits = (64 : Nat) ∧ inK IntKind.i64 ((1 : Int) * (2 : Int) ^ Int.toNat (List.getD t.snd.fst (↑x : Int).toNat ((0 : Int), (0 : Int), ())).snd.fst) ∧ (0 : Int) ≤ ((ints (bst t.snd.fst x).fst).set (↑x : Int).toNat ((ints (bst t.snd.fst x).snd).getD (Int.toNat (List.getD t.snd.fst (↑x : Int).toNat ((0 : Int), (0 : Int), ())).fst) (0 : Int))).getD (Int.toNat (List.getD t.snd.fst (↑x : Int).toNat ((0 : Int), (0 : Int), ())).snd.fst) (0 : Int) ∧ (0 : Int) ≤ (1 : Int) * (2 : Int) ^ Int.toNat (List.getD t.snd.fst (↑x : Int).toNat ((0 : Int), (0 : Int), ())).snd.fst ∧ (0 : Int) ≤ ((ints (bst t.snd.fst x).fst).set (↑x : Int).toNat ((ints (bst t.snd.fst x).snd).getD (Int.toNat (List.getD t.snd.fst (↑x : Int).toNat ((0 : Int), (0 : Int), ())).fst) (0 : Int))).getD (↑x : Int).toNat (0 : Int) ∧ (0 : Int) ≤ (↑((((ints (bst t.snd.fst x).fst).set (↑x : Int).toNat ((ints (bst t.snd.fst x).snd).getD (Int.toNat (List.getD t.snd.fst (↑x : Int).toNat ((0 : Int), (0 : Int), ())).fst) (0 : Int))).getD (Int.toNat (List.getD t.snd.fst (↑x : Int).toNat ((0 : Int), (0 : Int), ())).snd.fst) (0 : Int)).toNat ||| ((1 : Int) * (2 : Int) ^ Int.toNat (List.getD t.snd.fst (↑x : Int).toNat ((0 : Int), (0 : Int), ())).snd.fst).toNat) : Int) ∧ (0 : Int) ≤ (↑x : Int) ∧ (↑x : Int) < (↑((ints (bst t.snd.fst x).fst).set (↑x : Int).toNat ((ints (bst t.snd.fst x).snd).getD (Int.toNat (List.getD t.snd.fst (↑x : Int).toNat ((0 : Int), (0 : Int), ())).fst) (0 : Int))).length : Int) ∧ (0 : Int) ≤ (↑x : Int) ∧ (↑x : Int) < (↑(((ints (bst t.snd.fst x).fst).set (↑x : Int).toNat ((ints (bst t.snd.fst x).snd).getD (Int.toNat (List.getD t.snd.fst (↑x : Int).toNat ((0 : Int), (0 : Int), ())).fst) (0 : Int))).set (↑x : Int).toNat (↑((((ints (bst t.snd.fst x).fst).set (↑x : Int).toNat ((ints (bst t.snd.fst x).snd).getD (Int.toNat (List.getD t.snd.fst (↑x : Int).toNat ((0 : Int), (0 : Int), ())).fst) (0 : Int))).getD (↑x : Int).toNat (0 : Int)).toNat ||| (↑((((ints (bst t.snd.fst x).fst).set (↑x : Int).toNat ((ints (bst t.snd.fst x).snd).getD (Int.toNat (List.getD t.snd.fst (↑x : Int).toNat ((0 : Int), (0 : Int), ())).fst) (0 : Int))).getD (Int.toNat (List.getD t.snd.fst (↑x : Int).toNat ((0 : Int), (0 : Int), ())).snd.fst) (0 : Int)).toNat ||| ((1 : Int) * (2 : Int) ^ Int.toNat (List.getD t.snd.fst (↑x : Int).toNat ((0 : Int), (0 : Int), ())).snd.fst).toNat) : Int).toNat) : Int)).length : Int) ∧ (0 : Int) ≤ (↑x : Int) ∧ (↑x : Int) < (64 : Int) ∧ IntKind.i64.bits = (64 : Nat) ∧ inK IntKind.i64 ((1 : Int) * (2 : Int) ^ (↑x : Int).toNat) ∧ (0 : Int) ≤ (((ints (bst t.snd.fst x).fst).set (↑x : Int).toNat ((ints (bst t.snd.fst x).snd).getD (Int.toNat (List.getD t.snd.fst (↑x : Int).toNat ((0 : Int), (0 : Int), ())).fst) (0 : Int))).set (↑x : Int).toNat (↑((((ints (bst t.snd.fst x).fst).set (↑x : Int).toNat ((ints (bst t.snd.fst x).snd).getD (Int.toNat (List.getD t.snd.fst (↑x : Int).toNat ((0 : Int), (0 : Int), ())).fst) (0 : Int))).getD (↑x : Int).toNat (0 : Int)).toNat ||| (↑((((ints (bst t.snd.fst x).fst).set (↑x : Int).toNat ((ints (bst t.snd.fst x).snd).getD (Int.toNat (List.getD t.snd.fst (↑x : Int).toNat ((0 : Int), (0 : Int), ())).fst) (0 : Int))).getD (Int.toNat (List.getD t.snd.fst (↑x : Int).toNat ((0 : Int), (0 : Int), ())).snd.fst) (0 : Int)).toNat ||| ((1 : Int) * (2 : Int) ^ Int.toNat (List.getD t.snd.fst (↑x : Int).toNat ((0 : Int), (0 : Int), ())).snd.fst).toNat) : Int).toNat) : Int)).getD (↑x : Int).toNat (0 : Int) ∧ (0 : Int) ≤ (1 : Int) * (2 : Int) ^ (↑x : Int).toNat ∧ (0 : Int) ≤ (List.getD t.snd.fst (↑x : Int).toNat ((0 : Int), (0 : Int), ())).fst ∧ (List.getD t.snd.fst (↑x : Int).toNat ((0 : Int), (0 : Int), ())).fst < (↑(5 : Nat) : Int) ∧ inK IntKind.i64 ((↑x : Int) + (1 : Int)) ∧ ∃ (x_1 : Nat), (x_1 ≤ t.snd.fst.length ∧ chk t = (0 : Int)) ∧ t.snd.fst.length - x_1 < t.snd.fst.length - x ∧ (t = t ∧ ([] : List Nat) = [] ∧ True ∧ (0 : Int) = (0 : Int) ∧ chk t = chk t ∧ True ∧ ([] : List Nat) = [] ∧ t = t ∧ chk t = chk t ∧ chk t = chk t ∧ (!decide (chk t = (0 : Int))) = !decide (chk t = (0 : Int)) ∧ [] ++ [(1 : Nat)] = [] ++ [(1 : Nat)] ∧ t.snd.fst = t.snd.fst ∧ (↑(List.length t.snd.fst) : Int) = (↑(List.length t.snd.fst) : Int) ∧ True ∧ [] ++ [(1 : Nat)] = [] ++ [(1 : Nat)] ∧ t.snd.fst = t.snd.fst ∧ (↑(List.length t.snd.fst) : Int) = (↑(List.length t.snd.fst) : Int) ∧ (↑x : Int) + (1 : Int) = (↑x_1 : Int) ∧ True) ∧ (((24 : Nat) = (24 : Nat) ∧ t = t) ∧ ((3 : Nat) = (3 : Nat) ∧ ((ints (bst t.snd.fst x).fst).set (↑x : Int).toNat ((ints (bst t.snd.fst x).snd).getD (Int.toNat (List.getD t.snd.fst (↑x : Int).toNat ((0 : Int), (0 : Int), ())).fst) (0 : Int))).set (↑x : Int).toNat (↑((((ints (bst t.snd.fst x).fst).set (↑x : Int).toNat ((ints (bst t.snd.fst x).snd).getD (Int.toNat (List.getD t.snd.fst (↑x : Int).toNat ((0 : Int), (0 : Int), ())).fst) (0 : Int))).getD (↑x : Int).toNat (0 : Int)).toNat ||| (↑((((ints (bst t.snd.fst x).fst).set (↑x : Int).toNat ((ints (bst t.snd.fst x).snd).getD (Int.toNat (List.getD t.snd.fst (↑x : Int).toNat ((0 : Int), (0 : Int), ())).fst) (0 : Int))).getD (Int.toNat (List.getD t.snd.fst (↑x : Int).toNat ((0 : Int), (0 : Int), ())).snd.fst) (0 : Int)).toNat ||| ((1 : Int) * (2 : Int) ^ Int.toNat (List.getD t.snd.fst (↑x : Int).toNat ((0 : Int), (0 : Int), ())).snd.fst).toNat) : Int).toNat) : Int) = ints (bst t.snd.fst x_1).fst) ∧ ((45 : Nat) = (45 : Nat) ∧ (ints (bst t.snd.fst x).snd).set (Int.toNat (List.getD t.snd.fst (↑x : Int).toNat ((0 : Int), (0 : Int), ())).fst) (↑(((((ints (bst t.snd.fst x).fst).set (↑x : Int).toNat ((ints (bst t.snd.fst x).snd).getD (Int.toNat (List.getD t.snd.fst (↑x : Int).toNat ((0 : Int), (0 : Int), ())).fst) (0 : Int))).set (↑x : Int).toNat (↑((((ints (bst t.snd.fst x).fst).set (↑x : Int).toNat ((ints (bst t.snd.fst x).snd).getD (Int.toNat (List.getD t.snd.fst (↑x : Int).toNat ((0 : Int), (0 : Int), ())).fst) (0 : Int))).getD (↑x : Int).toNat (0 : Int)).toNat ||| (↑((((ints (bst t.snd.fst x).fst).set (↑x : Int).toNat ((ints (bst t.snd.fst x).snd).getD (Int.toNat (List.getD t.snd.fst (↑x : Int).toNat ((0 : Int), (0 : Int), ())).fst) (0 : Int))).getD (Int.toNat (List.getD t.snd.fst (↑x : Int).toNat ((0 : Int), (0 : Int), ())).snd.fst) (0 : Int)).toNat ||| ((1 : Int) * (2 : Int) ^ Int.toNat (List.getD t.snd.fst (↑x : Int).toNat ((0 : Int), (0 : Int), ())).snd.fst).toNat) : Int).toNat) : Int)).getD (↑x : Int).toNat (0 : Int)).toNat ||| ((1 : Int) * (2 : Int) ^ (↑x : Int).toNat).toNat) : Int) = ints (bst t.snd.fst x_1).snd) ∧ True) ∧ True) ∧ (decide ((0 : Int) ≤ (List.getD t.snd.fst (↑x : Int).toNat ((0 : Int), (0 : Int), ())).snd.fst) = false → (0 : Int) ≤ (↑x : Int) ∧ (↑x : Int) < (↑((ints (bst t.snd.fst x).fst).set (↑x : Int).toNat ((ints (bst t.snd.fst x).snd).getD (Int.toNat (List.getD t.snd.fst (↑x : Int).toNat ((0 : Int), (0 : Int), ())).fst) (0 : Int))).length : Int) ∧ (0 : Int) ≤ (↑x : Int) ∧ (↑x : Int) < (64 : Int) ∧ IntKind.i64.bits = (64 : Nat) ∧ inK IntKind.i64 ((1 : Int) * (2 : Int) ^ (↑x : Int).toNat) ∧ (0 : Int) ≤ ((ints (bst t.snd.fst x).fst).set (↑x : Int).toNat ((ints (bst t.snd.fst x).snd).getD (Int.toNat (List.getD t.snd.fst (↑x : Int).toNat ((0 : Int), (0 : Int), ())).fst) (0 : Int))).getD (↑x : Int).toNat (0 : Int) ∧ (0 : Int) ≤ (1 : Int) * (2 : Int) ^ (↑x : Int).toNat ∧ (0 : Int) ≤ (List.getD t.snd.fst (↑x : Int).toNat ((0 : Int), (0 : Int), ())).fst ∧ (List.getD t.snd.fst (↑x : Int).toNat ((0 : Int), (0 : Int), ())).fst < (↑(5 : Nat) : Int) ∧ inK IntKind.i64 ((↑x : Int) + (1 : Int)) ∧ ∃ (x_1 : Nat), (x_1 ≤ t.snd.fst.length ∧ chk t = (0 : Int)) ∧ t.snd.fst.length - x_1 < t.snd.fst.length - x ∧ (t = t ∧ ([] : List Nat) = [] ∧ True ∧ (0 : Int) = (0 : Int) ∧ chk t = chk t ∧ True ∧ ([] : List Nat) = [] ∧ t = t ∧ chk t = chk t ∧ chk t = chk t ∧ (!decide (chk t = (0 : Int))) = !decide (chk t = (0 : Int)) ∧ [] ++ [(1 : Nat)] = [] ++ [(1 : Nat)] ∧ t.snd.fst = t.snd.fst ∧ (↑(List.length t.snd.fst) : Int) = (↑(List.length t.snd.fst) : Int) ∧ True ∧ [] ++ [(1 : Nat)] = [] ++ [(1 : Nat)] ∧ t.snd.fst = t.snd.fst ∧ (↑(List.length t.snd.fst) : Int) = (↑(List.length t.snd.fst) : Int) ∧ (↑x : Int) + (1 : Int) = (↑x_1 : Int) ∧ True) ∧ (((24 : Nat) = (24 : Nat) ∧ t = t) ∧ ((3 : Nat) = (3 : Nat) ∧ (ints (bst t.snd.fst x).fst).set (↑x : Int).toNat ((ints (bst t.snd.fst x).snd).getD (Int.toNat (List.getD t.snd.fst (↑x : Int).toNat ((0 : Int), (0 : Int), ())).fst) (0 : Int)) = ints (bst t.snd.fst x_1).fst) ∧ ((45 : Nat) = (45 : Nat) ∧ (ints (bst t.snd.fst x).snd).set (Int.toNat (List.getD t.snd.fst (↑x : Int).toNat ((0 : Int), (0 : Int), ())).fst) (↑((((ints (bst t.snd.fst x).fst).set (↑x : Int).toNat ((ints (bst t.snd.fst x).snd).getD (Int.toNat (List.getD t.snd.fst (↑x : Int).toNat ((0 : Int), (0 : Int), ())).fst) (0 : Int))).getD (↑x : Int).toNat (0 : Int)).toNat ||| ((1 : Int) * (2 : Int) ^ (↑x : Int).toNat).toNat) : Int) = ints (bst t.snd.fst x_1).snd) ∧ True) ∧ True)) ∧ (decide ((↑x : Int) < (↑(List.length t.snd.fst) : Int)) = false → k [Dat.mk (I).sl (ints (bst t.snd.fst x).fst), Dat.mk (Ty.err (55 : Nat)) (0 : Int)]))) := by kernel_rfl
end Go.Proofs.Ytbpoeigaoakdiaa

/- Traces: Before keeps its contract. -/
namespace Go.Proofs.Ytbpoeigaoakdiaa
open Go.Vc

theorem ints_getD (l : List Nat) (j : Nat) : (ints l).getD j (0 : Int) = ((l.getD j 0 : Nat) : Int) := by
  simp only [ints, List.getD_eq_getElem?_getD, List.getElem?_map]
  cases l[j]? <;> rfl
theorem ints_set (l : List Nat) (j n : Nat) : (ints l).set j (n : Int) = ints (l.set j n) := by simp [ints, List.map_set]
theorem ints_len (l : List Nat) : (ints l).length = l.length := by simp [ints]
theorem ints_rep (n : Nat) : List.replicate n (0 : Int) = ints (List.replicate n 0) := by simp [ints]
theorem one_shl (n : Nat) : (1 : Int) * (2 : Int) ^ n = ((2 ^ n : Nat) : Int) := by rw [Int.one_mul, Int.natCast_pow]; rfl

/-- A trace with which nothing is wrong. -/
structure Good (t : Tr) : Prop where
  procs : 1 ≤ t.1 ∧ t.1 ≤ 5
  len : t.2.1.length ≤ 24
  ev : ∀ i, i < t.2.1.length → 0 ≤ (t.2.1.getD i (0, 0, ())).1 ∧ (t.2.1.getD i (0, 0, ())).1 ≤ t.1 - 1 ∧ -1 ≤ (t.2.1.getD i (0, 0, ())).2.1 ∧ (t.2.1.getD i (0, 0, ())).2.1 ≤ (i : Int) - 1 ∧
    (0 ≤ (t.2.1.getD i (0, 0, ())).2.1 → (t.2.1.getD (t.2.1.getD i (0, 0, ())).2.1.toNat (0, 0, ())).1 ≠ (t.2.1.getD i (0, 0, ())).1)

theorem evsErr_zero {p : Int} {l : List Ev} : ∀ {f i : Nat}, evsErr p l f i = 0 → ∀ j, i ≤ j → j < i + f → evErr p l j = 0 := by
  intro f
  induction f with
  | zero => intro i _ j h1 h2; omega
  | succ f ih =>
    intro i h j h1 h2
    unfold evsErr at h
    split at h
    · rename_i h0
      by_cases hj : j = i
      · rw [hj]; exact h0
      · exact ih h j (by omega) (by omega)
    · rename_i h0; exact absurd h h0

theorem good_of {t : Tr} (h : chk t = 0) : Good t := by
  unfold chk at h
  split at h
  · cases h
  · rename_i h1
    split at h
    · cases h
    · rename_i h2
      have hp : 1 ≤ t.1 ∧ t.1 ≤ 5 := by simpa [inB] using h1
      refine ⟨hp, by omega, fun i hi => ?_⟩
      have he := evsErr_zero h i (Nat.zero_le _) (by omega)
      unfold evErr at he
      split at he
      · cases he
      · rename_i h3
        split at he
        · cases he
        · rename_i h4
          have h3' : (0 ≤ (t.2.1.getD i (0, 0, ())).1 ∧ (t.2.1.getD i (0, 0, ())).1 ≤ t.1 - 1) ∧ -1 ≤ (t.2.1.getD i (0, 0, ())).2.1 ∧ (t.2.1.getD i (0, 0, ())).2.1 ≤ (i : Int) - 1 := by
            simpa only [inB, Bool.not_eq_false, Bool.and_eq_true, decide_eq_true_eq] using h3
          exact ⟨h3'.1.1, h3'.1.2, h3'.2.1, h3'.2.2, fun h0 hc => h4 ⟨h0, hc⟩⟩

theorem bst_len (l : List Ev) : ∀ i, (bst l i).1.length = l.length ∧ (bst l i).2.length = 5
  | 0 => by simp [bst]
  | i + 1 => by
    have := bst_len l i
    simp [bst, this.1, this.2]

theorem getD_set_self {l : List Nat} {i n : Nat} (h : i < l.length) : (l.set i n).getD i 0 = n := by
  simp [List.getD_eq_getElem?_getD, h]
theorem getD_set_ne {l : List Nat} {i j n : Nat} (h : i ≠ j) : (l.set i n).getD j 0 = l.getD j 0 := by
  simp [List.getD_eq_getElem?_getD, List.getElem?_set_ne h]

theorem before_vc (t : Tr) (k : List Dat → Prop) (hk : k [⟨.sl I, bef t⟩, ⟨tErr, chk t⟩]) : vcF ⟨Et, [(19, cCheck)], [], [], []⟩ (anBefore t) (Try.f6.body.getD .skip) Try.f6.ntmps [(.tmp 2, .sl I), (.tmp 3, tErr)] [⟨tTr, t⟩] k := by
  rw [vcBefore]
  simp only [decide_eq_true_eq, decide_eq_false_iff_not, and_true, true_and, Bool.not_eq_true', Bool.not_eq_false', Int.toNat_natCast, one_shl, ints_rep, ints_getD, ints_set, ints_len, List.length_set]
  refine ⟨fun h => ?_, fun h => ?_⟩
  · have : bef t = [] := by unfold bef; rw [if_neg h]
    rw [← this]; exact hk
  · have g := good_of h
    have hl := g.len
    have hshl : ∀ j : Nat, j ≤ 61 → inK .i64 ((2 ^ j : Nat) : Int) := by
      intro j hj
      have h1 := two_pow_le (n := j) (by omega)
      have h2 := two_pow_pos j
      have e : ((2 ^ j : Nat) : Int) = (2 : Int) ^ j := by rw [Int.natCast_pow]; rfl
      rw [e, inK_i64]
      omega
    have hN : ∀ n : Nat, (0 : Int) ≤ (n : Int) := fun n => Int.natCast_nonneg n
    have hb0 : befN t = (bst t.2.1 t.2.1.length).1 := rfl
    refine ⟨by omega, Int.le_refl _, by omega, ⟨0, ⟨by omega, h⟩, rfl, rfl, rfl⟩, fun x ⟨hx, _⟩ => ⟨fun hlt => ?_, fun hge => ?_⟩⟩
    · obtain ⟨b1, b2⟩ := bst_len t.2.1 x
      obtain ⟨p0, p1, f0, f1, _⟩ := g.ev x (by omega)
      have hpr := g.procs
      have h5 : ((5 : Nat) : Int) = 5 := rfl
      refine ⟨hN _, hlt, p0, by omega, hN _, by omega, fun h0 => ?_, fun h0 => ?_⟩
      · have hfl : (t.2.1.getD x (0, 0, ())).2.1.toNat < x := by omega
        refine ⟨hN _, by omega, h0, by omega, h0, by omega, rfl, hshl _ (by omega), hN _, hN _, hN _, hN _, hN _, by omega, hN _, by omega, hN _, by omega, rfl, hshl _ (by omega), hN _, hN _, p0, by omega, inK_i64.2 (by omega), x + 1, ⟨by omega, h⟩, by omega, by omega, ?_, ?_⟩
        · rw [List.set_set, getD_set_self (by omega), getD_set_ne (by omega)]
          simp only [bst, if_pos h0]
        · rw [getD_set_self (by rw [List.length_set]; omega), getD_set_self (by omega), getD_set_ne (by omega)]
          simp only [bst, if_pos h0]
      · refine ⟨hN _, by omega, hN _, by omega, rfl, hshl _ (by omega), hN _, hN _, p0, by omega, inK_i64.2 (by omega), x + 1, ⟨by omega, h⟩, by omega, by omega, ?_, ?_⟩
        · simp only [bst, if_neg h0]
        · rw [getD_set_self (by omega)]
          simp only [bst, if_neg h0]
    · have : x = t.2.1.length := by omega
      rw [this]
      have e : bef t = ints (bst t.2.1 t.2.1.length).1 := by unfold bef; rw [if_pos h, hb0]
      rw [← e]
      rw [h] at hk
      exact hk

theorem okBefore : PlainOk Try.prog [] 6 cBefore := by
  refine plain_of (CxOk.mk' Et_ok rfl mixed (gl := []) (GOk.cons okCheck Try.func19 (by kernel_rfl) (by kernel_rfl) GOk.nil) GoOk.nil noIt) Try.func6 (c := Try.f6.body.getD .skip) (rvs := [(.tmp 2, .sl I), (.tmp 3, tErr)]) (by kernel_rfl) (by kernel_rfl) (by kernel_rfl) ?_
  intro ds k ⟨hp, hk⟩ hwf
  obtain ⟨t, rfl, -⟩ := dest1 hp
  exact ⟨anBefore t, before_vc t k hk⟩
end Go.Proofs.Ytbpoeigaoakdiaa

/- What the functions of this seat have to satisfy, by program: each verification condition in plain words. -/
namespace Go.Proofs.Ytbpoeigaoakdiaa
open Go.Vc
set_option linter.unusedVariables false
theorem vcTalk (k : List Dat → Prop) : vcF ⟨Et, [], [], [], []⟩ [] (Try.f11.body.getD .skip) Try.f11.ntmps [(.cell 0 24, tTr)] [] k = (
  k [Dat.mk (tTr) ((2 : Int), (((List.replicate (3 : Nat) ((0 : Int), (0 : Int), ())).set (0 : Nat) ((0 : Int), (-1 : Int), ())).set (1 : Nat) ((1 : Int), (0 : Int), ())).set (2 : Nat) ((0 : Int), (-1 : Int), ()), ())]) := by kernel_rfl
theorem vcInts (a b : List Int) (k : List Dat → Prop) : vcF ⟨Et, [], [], [], []⟩ (anInts a b) (Try.f13.body.getD .skip) Try.f13.ntmps [(.tmp 4, .bool)] [⟨.sl I, a⟩, ⟨.sl I, b⟩] k = (
  ((!decide ((↑a.length : Int) = (↑b.length : Int))) = true → k [Dat.mk Ty.bool false]) ∧ ((!decide ((↑a.length : Int) = (↑b.length : Int))) = false → (∃ (x : Nat), (x ≤ a.length ∧ List.take x a = List.take x b) ∧ (a = a ∧ b = b ∧ false = false ∧ (0 : Int) = (↑x : Int) ∧ a = a ∧ (↑a.length : Int) = (↑a.length : Int) ∧ b = b ∧ (↑b.length : Int) = (↑b.length : Int) ∧ (!decide ((↑a.length : Int) = (↑b.length : Int))) = !decide ((↑a.length : Int) = (↑b.length : Int)) ∧ True) ∧ True ∧ True) ∧ ∀ (x : Nat), x ≤ a.length ∧ List.take x a = List.take x b → (decide ((↑x : Int) < (↑a.length : Int)) = true → (0 : Int) ≤ (↑x : Int) ∧ (↑x : Int) < (↑a.length : Int) ∧ (0 : Int) ≤ (↑x : Int) ∧ (↑x : Int) < (↑b.length : Int) ∧ ((!decide (a.getD (↑x : Int).toNat (0 : Int) = b.getD (↑x : Int).toNat (0 : Int))) = true → k [Dat.mk Ty.bool false]) ∧ ((!decide (a.getD (↑x : Int).toNat (0 : Int) = b.getD (↑x : Int).toNat (0 : Int))) = false → inK IntKind.i64 ((↑x : Int) + (1 : Int)) ∧ ∃ (x_1 : Nat), (x_1 ≤ a.length ∧ List.take x_1 a = List.take x_1 b) ∧ a.length - x_1 < a.length - x ∧ (a = a ∧ b = b ∧ false = false ∧ (↑x : Int) + (1 : Int) = (↑x_1 : Int) ∧ a = a ∧ (↑a.length : Int) = (↑a.length : Int) ∧ b = b ∧ (↑b.length : Int) = (↑b.length : Int) ∧ (!decide ((↑a.length : Int) = (↑b.length : Int))) = !decide ((↑a.length : Int) = (↑b.length : Int)) ∧ True) ∧ True ∧ True)) ∧ (decide ((↑x : Int) < (↑a.length : Int)) = false → k [Dat.mk Ty.bool true]))) := by kernel_rfl
end Go.Proofs.Ytbpoeigaoakdiaa

/- Traces: the small trace that the laws try first. -/
namespace Go.Proofs.Ytbpoeigaoakdiaa
open Go.Vc

theorem okTalk : PlainOk Try.prog [] 11 cTalk := by
  refine plain_of (CxOk.mk' Et_ok rfl mixed (gl := []) GOk.nil GoOk.nil noIt) Try.func11 (c := Try.f11.body.getD .skip) (rvs := [(.cell 0 24, tTr)]) (by kernel_rfl) (by kernel_rfl) (by kernel_rfl) ?_
  intro ds k ⟨hp, hk⟩ hwf
  obtain ⟨rfl, -⟩ := dest0 hp
  refine ⟨[], ?_⟩
  rw [vcTalk]
  exact hk

theorem ints_vc (a b : List Int) (k : List Dat → Prop) (hl : a.length ≤ maxLen) (hk : k [⟨.bool, a == b⟩]) : vcF ⟨Et, [], [], [], []⟩ (anInts a b) (Try.f13.body.getD .skip) Try.f13.ntmps [(.tmp 4, .bool)] [⟨.sl I, a⟩, ⟨.sl I, b⟩] k := by
  rw [vcInts]
  have hml : maxLen ≤ 9223372036854775807 := by decide
  simp only [decide_eq_true_eq, decide_eq_false_iff_not, and_true, true_and, Bool.not_eq_true', Bool.not_eq_false', Int.toNat_natCast, inK_i64]
  have ret : ∀ x : Bool, (a == b) = x → k [⟨.bool, x⟩] := by rintro _ rfl; exact hk
  refine ⟨fun h => ret _ ?_, fun h => ⟨⟨0, ⟨by omega, rfl⟩, rfl⟩, fun x ⟨hx, ht⟩ => ⟨fun hlt => ⟨by omega, hlt, by omega, by omega, fun hne => ret _ ?_, fun he => ⟨by omega, x + 1, ⟨by omega, ?_⟩, by omega, by omega⟩⟩, fun hge => ret _ ?_⟩⟩⟩
  · simp only [beq_eq_false_iff_ne, ne_eq]; intro he; exact h (by rw [he])
  · simp only [beq_eq_false_iff_ne, ne_eq]; intro h; exact hne (by rw [h])
  · have h1 : x < a.length := by omega
    have h2 : x < b.length := by omega
    rw [List.take_add_one, List.take_add_one, ht]
    rw [List.getD_eq_getElem?_getD, List.getD_eq_getElem?_getD, List.getElem?_eq_getElem h1, List.getElem?_eq_getElem h2] at he
    rw [List.getElem?_eq_getElem h1, List.getElem?_eq_getElem h2]
    simp only [Option.getD_some] at he
    rw [he]
  · have h1 : x = a.length := by omega
    rw [h1, List.take_length, List.take_of_length_le (by omega)] at ht
    simp [ht]

theorem okInts : PlainOk Try.prog [] 13 cInts := by
  refine plain_of (CxOk.mk' Et_ok rfl mixed (gl := []) GOk.nil GoOk.nil noIt) Try.func13 (c := Try.f13.body.getD .skip) (rvs := [(.tmp 4, .bool)]) (by kernel_rfl) (by kernel_rfl) (by kernel_rfl) ?_
  intro ds k ⟨hp, hk⟩ hwf
  obtain ⟨a, b, rfl, -⟩ := dest2 hp
  exact ⟨anInts a b, ints_vc a b k (wf2 hwf).1.1 hk⟩

end Go.Proofs.Ytbpoeigaoakdiaa

/- Traces: the law that what happened before is the least order. -/
namespace Go.Proofs.Ytbpoeigaoakdiaa
open Go.Vc
/-- one is to be behind the other one: it is ahead of it at its process, or it heard of it -/
def mustP (t : Tr) (i j : Nat) : Prop := (t.2.1.getD j (0, 0, ())).1 = (t.2.1.getD i (0, 0, ())).1 ∨ (t.2.1.getD i (0, 0, ())).2.1 = (j : Int)
def pairP (t : Tr) (o : List Int) (i j : Nat) : Prop :=
  0 ≤ o.getD i 0 ∧ (mustP t i j → bitB (o.getD i 0) j = true) ∧ (bitB (o.getD i 0) j = true → subB (o.getD j 0) (o.getD i 0) = true)
def goodP (t : Tr) (o : List Int) (g : Bool) (i j : Nat) : Prop :=
  g = true → o.length = t.2.1.length ∧ (∀ a b, a < i → b < a → pairP t o a b) ∧ ∀ b, b < j → pairP t o i b
end Go.Proofs.Ytbpoeigaoakdiaa

/- What happened before what, as sets of numbers: the facts that the laws of traces ask. -/
namespace Go.Proofs.Ytbpoeigaoakdiaa
open Go.Vc

/-- what happened before event i -/
def bB (l : List Ev) (i : Nat) : Nat := (bst l (i + 1)).1.getD i 0
def prc (l : List Ev) (i : Nat) : Nat := (l.getD i (0, 0, ())).1.toNat
def frm (l : List Ev) (i : Nat) : Int := (l.getD i (0, 0, ())).2.1

theorem bst_keep (l : List Ev) {i : Nat} (hi : i < l.length) : ∀ m, i < m → (bst l m).1.getD i 0 = bB l i := by
  intro m
  induction m with
  | zero => intro h; omega
  | succ m ih =>
    intro h
    by_cases hm : i = m
    · subst hm; rfl
    · rw [← ih (by omega)]
      simp only [bst]
      rw [getD_set_ne (fun e => hm e.symm)]

theorem bB_eq (l : List Ev) {i : Nat} (hi : i < l.length) (hf : frm l i < (i : Int)) :
    bB l i = if 0 ≤ frm l i then (bst l i).2.getD (prc l i) 0 ||| (bB l (frm l i).toNat ||| 2 ^ (frm l i).toNat) else (bst l i).2.getD (prc l i) 0 := by
  have hl := (bst_len l i).1
  unfold bB
  simp only [bst]
  rw [getD_set_self (by omega)]
  show (if 0 ≤ frm l i then _ else _) = _
  split
  · rename_i h
    rw [show (bst l i).1.getD (l.getD i (0, 0, ())).2.1.toNat 0 = bB l (frm l i).toNat from bst_keep l (by show (frm l i).toNat < _; omega) i (by show (frm l i).toNat < _; omega)]
    rfl
  · rfl

/-- the last event of a process -/
theorem last_of (l : List Ev) (hp : ∀ i, i < l.length → prc l i < 5) : ∀ m, m ≤ l.length → ∀ p, p < 5 →
    ((bst l m).2.getD p 0 = 0 ∧ ∀ j, j < m → prc l j ≠ p) ∨ ∃ j, j < m ∧ prc l j = p ∧ (∀ j', j < j' → j' < m → prc l j' ≠ p) ∧ (bst l m).2.getD p 0 = bB l j ||| 2 ^ j := by
  intro m
  induction m with
  | zero =>
    intro _ p hp5
    refine .inl ⟨?_, fun j hj => by omega⟩
    simp only [bst, List.getD_eq_getElem?_getD, List.getElem?_replicate]
    split <;> rfl
  | succ m ih =>
    intro hm p hp5
    have hl := (bst_len l m)
    have hstep : (bst l (m + 1)).2 = (bst l m).2.set (prc l m) (bB l m ||| 2 ^ m) := by
      have : bB l m = (if 0 ≤ (l.getD m (0, 0, ())).2.1 then (bst l m).2.getD (l.getD m (0, 0, ())).1.toNat 0 ||| ((bst l m).1.getD (l.getD m (0, 0, ())).2.1.toNat 0 ||| 2 ^ (l.getD m (0, 0, ())).2.1.toNat) else (bst l m).2.getD (l.getD m (0, 0, ())).1.toNat 0) := by
        unfold bB
        simp only [bst]
        rw [getD_set_self (by omega)]
      rw [this]; rfl
    rw [hstep]
    by_cases h : prc l m = p
    · refine .inr ⟨m, by omega, h, fun j' h1 h2 => by omega, ?_⟩
      rw [h, getD_set_self (by omega)]
    · rw [getD_set_ne h]
      rcases ih (by omega) p hp5 with ⟨h1, h2⟩ | ⟨j, h1, h2, h3, h4⟩
      · refine .inl ⟨h1, fun j hj => ?_⟩
        by_cases hjm : j = m
        · rw [hjm]; exact h
        · exact h2 j (by omega)
      · refine .inr ⟨j, by omega, h2, fun j' hj1 hj2 => ?_, h4⟩
        by_cases hjm : j' = m
        · rw [hjm]; exact h
        · exact h3 j' hj1 (by omega)

/-- is it one of those straight ahead of the other? -/
def justB (l : List Ev) (i j : Nat) : Prop := j < i ∧ ((prc l j = prc l i ∧ ∀ j', j < j' → j' < i → prc l j' ≠ prc l i) ∨ frm l i = (j : Int))

theorem bit_or2 {a j k : Nat} : (a ||| 2 ^ j).testBit k = true ↔ a.testBit k = true ∨ k = j := by
  rw [Nat.testBit_or, Nat.testBit_two_pow, Bool.or_eq_true, decide_eq_true_eq]
  exact ⟨fun h => h.imp id Eq.symm, fun h => h.imp id Eq.symm⟩

theorem bB_bit {l : List Ev} (hp : ∀ i, i < l.length → prc l i < 5) (hf : ∀ i, i < l.length → frm l i < (i : Int)) {i : Nat} (hi : i < l.length) (k : Nat) :
    (bB l i).testBit k = true ↔ ∃ j, justB l i j ∧ ((bB l j).testBit k = true ∨ k = j) := by
  have hlast := last_of l hp i (by omega) (prc l i) (hp i hi)
  have hbit : ((bst l i).2.getD (prc l i) 0).testBit k = true ↔ ∃ j, (j < i ∧ prc l j = prc l i ∧ ∀ j', j < j' → j' < i → prc l j' ≠ prc l i) ∧ ((bB l j).testBit k = true ∨ k = j) := by
    rcases hlast with ⟨h1, h2⟩ | ⟨j, h1, h2, h3, h4⟩
    · rw [h1]
      constructor
      · intro h; simp at h
      · rintro ⟨j, ⟨h3, h4, _⟩, _⟩; exact absurd h4 (h2 j h3)
    · rw [h4, bit_or2]
      constructor
      · intro h; exact ⟨j, ⟨h1, h2, h3⟩, h⟩
      · rintro ⟨j', ⟨k1, k2, k3⟩, h⟩
        have : j' = j := by
          rcases Nat.lt_trichotomy j' j with h | h | h
          · exact absurd h2 (k3 j h h1)
          · exact h
          · exact absurd k2 (h3 j' h k1)
        rw [this] at h; exact h
  rw [bB_eq l hi (hf i hi)]
  split
  · rename_i h0
    rw [Nat.testBit_or, Bool.or_eq_true, hbit, bit_or2]
    constructor
    · rintro (⟨j, ⟨h1, h2, h3⟩, h⟩ | h)
      · exact ⟨j, ⟨h1, .inl ⟨h2, h3⟩⟩, h⟩
      · exact ⟨(frm l i).toNat, ⟨by have := hf i hi; omega, .inr (by omega)⟩, h⟩
    · rintro ⟨j, ⟨h1, h2 | h2⟩, h⟩
      · exact .inl ⟨j, ⟨h1, h2.1, h2.2⟩, h⟩
      · have : (frm l i).toNat = j := by omega
        rw [this]; exact .inr h
  · rename_i h0
    rw [hbit]
    constructor
    · rintro ⟨j, ⟨h1, h2, h3⟩, h⟩
      exact ⟨j, ⟨h1, .inl ⟨h2, h3⟩⟩, h⟩
    · rintro ⟨j, ⟨h1, h2 | h2⟩, h⟩
      · exact ⟨j, ⟨h1, h2.1, h2.2⟩, h⟩
      · omega

section
variable {l : List Ev} (hp : ∀ i, i < l.length → prc l i < 5) (hf : ∀ i, i < l.length → frm l i < (i : Int))
include hp hf

theorem bB_less {i : Nat} (hi : i < l.length) {k : Nat} (h : (bB l i).testBit k = true) : k < i := by
  induction i using Nat.strongRecOn with
  | _ i ih =>
    obtain ⟨j, hj, h⟩ := (bB_bit hp hf hi k).1 h
    rcases h with h | h
    · have := ih j hj.1 (by have := hj.1; omega) h
      have := hj.1; omega
    · have := hj.1; omega

theorem bB_lt {i : Nat} (hi : i < l.length) : bB l i < 2 ^ i := by
  apply Nat.lt_pow_two_of_testBit
  intro k hk
  cases h : (bB l i).testBit k with
  | false => rfl
  | true => have := bB_less hp hf hi h; omega

theorem bB_must {i j : Nat} (hi : i < l.length) (hj : j < i) (h : prc l j = prc l i ∨ frm l i = (j : Int)) : (bB l i).testBit j = true := by
  rcases h with h | h
  · -- the last one of its process
    have key : ∀ d j, i - j = d → j < i → prc l j = prc l i → (bB l i).testBit j = true := by
      intro d
      induction d using Nat.strongRecOn with
      | _ d ihd =>
        intro j hd hj h
        by_cases hc : ∃ j', j < j' ∧ j' < i ∧ prc l j' = prc l i
        · obtain ⟨j1, h1, h2, h3⟩ := hc
          -- the first one behind j: take any; by induction on i inside
          have hb1 := ihd (i - j1) (by omega) j1 rfl h2 h3
          have hin : (bB l j1).testBit j = true := by
            have : ∀ i', i' < i → j < i' → i' < l.length → prc l j = prc l i' → (bB l i').testBit j = true := by
              intro i'
              induction i' using Nat.strongRecOn with
              | _ i' ih' =>
                intro a1 a2 a3 a4
                by_cases hc' : ∃ j', j < j' ∧ j' < i' ∧ prc l j' = prc l i' ∧ ∀ j'', j' < j'' → j'' < i' → prc l j'' ≠ prc l i'
                · obtain ⟨j2, b1, b2, b3, b4⟩ := hc'
                  refine (bB_bit hp hf a3 j).2 ⟨j2, ⟨b2, .inl ⟨b3, b4⟩⟩, .inl (ih' j2 b2 (by omega) b1 (by omega) (by rw [b3]; exact a4))⟩
                · refine (bB_bit hp hf a3 j).2 ⟨j, ⟨a2, .inl ⟨a4, ?_⟩⟩, .inr rfl⟩
                  intro j' c1 c2 c3
                  -- then there is a last one
                  have : ∃ j', j < j' ∧ j' < i' ∧ prc l j' = prc l i' ∧ ∀ j'', j' < j'' → j'' < i' → prc l j'' ≠ prc l i' := by
                    have hmax : ∀ d j', i' - j' = d → j < j' → j' < i' → prc l j' = prc l i' → ∃ j', j < j' ∧ j' < i' ∧ prc l j' = prc l i' ∧ ∀ j'', j' < j'' → j'' < i' → prc l j'' ≠ prc l i' := by
                      intro d
                      induction d using Nat.strongRecOn with
                      | _ d ihm =>
                        intro j' e0 e1 e2 e3
                        by_cases hx : ∃ j'', j' < j'' ∧ j'' < i' ∧ prc l j'' = prc l i'
                        · obtain ⟨j'', f1, f2, f3⟩ := hx
                          exact ihm (i' - j'') (by omega) j'' rfl (by omega) f2 f3
                        · exact ⟨j', e1, e2, e3, fun j'' g1 g2 g3 => hx ⟨j'', g1, g2, g3⟩⟩
                    exact hmax _ j' rfl c1 c2 c3
                  exact hc' this
            exact this j1 h2 h1 (by omega) (by rw [h, h3])
          have trans : ∀ i', i' ≤ i → i' < l.length → ∀ k m, (bB l i').testBit k = true → (bB l k).testBit m = true → (bB l i').testBit m = true := by
            intro i'
            induction i' using Nat.strongRecOn with
            | _ i' ih' =>
              intro a1 a2 k m hk hm
              obtain ⟨q, hq, hk'⟩ := (bB_bit hp hf a2 k).1 hk
              rcases hk' with hk' | hk'
              · exact (bB_bit hp hf a2 m).2 ⟨q, hq, .inl (ih' q hq.1 (by have := hq.1; omega) (by have := hq.1; omega) k m hk' hm)⟩
              · subst hk'
                exact (bB_bit hp hf a2 m).2 ⟨k, hq, .inl hm⟩
          exact trans i (Nat.le_refl _) hi j1 j hb1 hin
        · exact (bB_bit hp hf hi j).2 ⟨j, ⟨hj, .inl ⟨h, fun j' h1 h2 h3 => hc ⟨j', h1, h2, h3⟩⟩⟩, .inr rfl⟩
    exact key _ j rfl hj h
  · exact (bB_bit hp hf hi j).2 ⟨j, ⟨hj, .inr h⟩, .inr rfl⟩

theorem bB_trans {i : Nat} (hi : i < l.length) {k m : Nat} (hk : (bB l i).testBit k = true) (hm : (bB l k).testBit m = true) : (bB l i).testBit m = true := by
  induction i using Nat.strongRecOn with
  | _ i ih =>
    obtain ⟨q, hq, hk'⟩ := (bB_bit hp hf hi k).1 hk
    rcases hk' with hk' | hk'
    · exact (bB_bit hp hf hi m).2 ⟨q, hq, .inl (ih q hq.1 (by have := hq.1; omega) hk')⟩
    · subst hk'
      exact (bB_bit hp hf hi m).2 ⟨k, hq, .inl hm⟩
end
end Go.Proofs.Ytbpoeigaoakdiaa

/- Sets in sets, bit by bit. -/
namespace Go.Proofs.Ytbpoeigaoakdiaa
open Go.Vc

theorem tb_succ (a k : Nat) : a.testBit (k + 1) = (a / 2).testBit k := Nat.testBit_succ a k
theorem tb_zero (a : Nat) : a.testBit 0 = decide (a % 2 = 1) := Nat.testBit_zero a

theorem subN_iff : ∀ (f a b : Nat), a ≤ f → (subN f a (b : Int) = true ↔ ∀ k, a.testBit k = true → b.testBit k = true) := by
  intro f
  induction f with
  | zero =>
    intro a b h
    have : a = 0 := by omega
    subst this
    simp [subN]
  | succ f ih =>
    intro a b h
    unfold subN
    by_cases h0 : a = 0
    · subst h0; simp
    · rw [if_neg h0]
      have e1 : (b : Int).tmod 2 = ((b % 2 : Nat) : Int) := (Int.ofNat_tmod b 2).symm
      have e2 : (b : Int).tdiv 2 = ((b / 2 : Nat) : Int) := (Int.ofNat_tdiv b 2).symm
      rw [e1, e2]
      by_cases hc : a % 2 = 1 ∧ ((b % 2 : Nat) : Int) = 0
      · rw [if_pos hc]
        simp only [Bool.false_eq_true, false_iff]
        intro hall
        have := hall 0 (by rw [tb_zero]; simp [hc.1])
        rw [tb_zero, decide_eq_true_eq] at this
        have := hc.2
        omega
      · rw [if_neg hc, ih (a / 2) (b / 2) (by omega)]
        constructor
        · intro hall k hk
          cases k with
          | zero =>
            rw [tb_zero, decide_eq_true_eq] at hk
            rw [tb_zero, decide_eq_true_eq]
            rcases Nat.mod_two_eq_zero_or_one b with hb | hb
            · exact absurd ⟨hk, by rw [hb]; rfl⟩ hc
            · exact hb
          | succ k => rw [tb_succ] at hk ⊢; exact hall k hk
        · intro hall k hk
          rw [← tb_succ] at hk ⊢
          exact hall (k + 1) hk

theorem subB_iff (a b : Nat) : subB (a : Int) (b : Int) = true ↔ ∀ k, a.testBit k = true → b.testBit k = true := subN_iff a a b (Nat.le_refl _)
theorem bitB_nat (a k : Nat) : bitB (a : Int) (k : Int) = a.testBit k := by
  unfold bitB
  simp
end Go.Proofs.Ytbpoeigaoakdiaa

/- Whatever else goes so has it all: the last step of the law of the least order. -/
namespace Go.Proofs.Ytbpoeigaoakdiaa
open Go.Vc

theorem good_prc {t : Tr} (g : Good t) : ∀ i, i < t.2.1.length → prc t.2.1 i < 5 := by
  intro i hi
  have := g.ev i hi
  have := g.procs
  unfold prc
  omega
theorem good_frm {t : Tr} (g : Good t) : ∀ i, i < t.2.1.length → frm t.2.1 i < (i : Int) := by
  intro i hi
  have := g.ev i hi
  unfold frm
  omega
theorem prc_eq {t : Tr} (g : Good t) {i j : Nat} (hi : i < t.2.1.length) (hj : j < t.2.1.length) : prc t.2.1 j = prc t.2.1 i ↔ (t.2.1.getD j (0, 0, ())).1 = (t.2.1.getD i (0, 0, ())).1 := by
  have h1 := g.ev i hi
  have h2 := g.ev j hj
  unfold prc
  omega
theorem befN_at {t : Tr} {i : Nat} (hi : i < t.2.1.length) : (befN t).getD i 0 = bB t.2.1 i := bst_keep t.2.1 hi t.2.1.length hi
theorem bef_at {t : Tr} (h : chk t = 0) {i : Nat} (hi : i < t.2.1.length) : (bef t).getD i (0 : Int) = ((bB t.2.1 i : Nat) : Int) := by
  unfold bef
  rw [if_pos h, ints_getD, befN_at hi]
theorem bef_len {t : Tr} (h : chk t = 0) : (bef t).length = t.2.1.length := by
  unfold bef
  rw [if_pos h, ints_len]
  exact (bst_len _ _).1

theorem must_bit {t : Tr} (g : Good t) {i j : Nat} (hi : i < t.2.1.length) (hj : j < i) (h : mustP t i j) : bitB ((bB t.2.1 i : Nat) : Int) (j : Int) = true := by
  rw [bitB_nat]
  refine bB_must (good_prc g) (good_frm g) hi hj (h.imp ?_ id)
  exact (prc_eq g hi (by omega)).2

theorem bit_sub {t : Tr} (g : Good t) {i j : Nat} (hi : i < t.2.1.length) (h : bitB ((bB t.2.1 i : Nat) : Int) (j : Int) = true) : subB ((bB t.2.1 j : Nat) : Int) ((bB t.2.1 i : Nat) : Int) = true := by
  rw [bitB_nat] at h
  rw [subB_iff]
  intro k hk
  exact bB_trans (good_prc g) (good_frm g) hi h hk

theorem bB_bound {t : Tr} (g : Good t) {i : Nat} (hi : i < t.2.1.length) : ((bB t.2.1 i : Nat) : Int) < (2 : Int) ^ i := by
  have := bB_lt (good_prc g) (good_frm g) hi
  have e : (2 : Int) ^ i = ((2 ^ i : Nat) : Int) := by rw [Int.natCast_pow]; rfl
  rw [e]
  exact Int.ofNat_lt.2 this

theorem good_all {t : Tr} (g : Good t) {o : List Int} (h : goodP t o true t.2.1.length 0) : ∀ i, i < t.2.1.length → subB ((bB t.2.1 i : Nat) : Int) (o.getD i 0) = true := by
  obtain ⟨hl, hp, -⟩ := h rfl
  intro i
  induction i using Nat.strongRecOn with
  | _ i ih =>
    intro hi
    cases i with
    | zero =>
      have := bB_lt (good_prc g) (good_frm g) hi
      have : bB t.2.1 0 = 0 := by simpa using this
      rw [this]
      rfl
    | succ m =>
      obtain ⟨h0, -, -⟩ := hp (m + 1) 0 hi (by omega)
      obtain ⟨n, hn⟩ := Int.eq_ofNat_of_zero_le h0
      rw [hn, subB_iff]
      intro k hk
      obtain ⟨j, hj, hjk⟩ := (bB_bit (good_prc g) (good_frm g) hi k).1 hk
      have hjl : j < m + 1 := hj.1
      obtain ⟨-, h2, h3⟩ := hp (m + 1) j hi hjl
      have hb := h2 (hj.2.imp (fun h => (prc_eq g hi (by omega)).1 h.1) id)
      have hs := h3 hb
      rw [hn, bitB_nat] at hb
      rcases hjk with hjk | hjk
      · have hsub := ih j hjl (by omega)
        cases j with
        | zero =>
          have := bB_lt (good_prc g) (good_frm g) (i := 0) (by omega)
          have : bB t.2.1 0 = 0 := by simpa using this
          rw [this] at hjk
          simp at hjk
        | succ q =>
          obtain ⟨h0', -, -⟩ := hp (q + 1) 0 (by omega) (by omega)
          obtain ⟨n', hn'⟩ := Int.eq_ofNat_of_zero_le h0'
          rw [hn', subB_iff] at hsub
          rw [hn', hn, subB_iff] at hs
          exact hs k (hsub k hjk)
      · rw [hjk]; exact hb
end Go.Proofs.Ytbpoeigaoakdiaa

/- Clocks that count: plain clocks and vectors keep their contracts. -/
namespace Go.Proofs.Ytbpoeigaoakdiaa
open Go.Vc

theorem plst_len (l : List Ev) : ∀ i, (plst l i).1.length = i ∧ (plst l i).2.length = 5
  | 0 => ⟨rfl, rfl⟩
  | i + 1 => by
    obtain ⟨h1, h2⟩ := plst_len l i
    simp only [plst, List.length_append, List.length_cons, List.length_nil, List.length_set]
    exact ⟨by omega, h2⟩
theorem plst_bd (l : List Ev) : ∀ i j, (0 ≤ (plst l i).1.getD j 0 ∧ (plst l i).1.getD j 0 ≤ (i : Int)) ∧ (0 ≤ (plst l i).2.getD j 0 ∧ (plst l i).2.getD j 0 ≤ (i : Int))
  | 0, j => by
    refine ⟨⟨by simp [plst], by simp [plst]⟩, ?_⟩
    simp only [plst, List.getD_eq_getElem?_getD, List.getElem?_replicate]
    split <;> simp
  | i + 1, j => by
    have ih := plst_bd l i
    have h1 := ih (l.getD i (0, 0, ())).1.toNat
    have h2 := ih (l.getD i (0, 0, ())).2.1.toNat
    have h3 := ih j
    simp only [plst, getD_app, getD_set']
    refine ⟨?_, ?_⟩
    · split
      · split <;> omega
      · omega
    · split
      · split <;> omega
      · omega

theorem plain_vc (t : Tr) (k : List Dat → Prop) (hk : k [⟨.sl I, plain t⟩, ⟨tErr, chk t⟩]) : vcF ⟨Ev5, [(19, cCheck)], [], [], []⟩ (anPlain t) (Try.f10.body.getD .skip) Try.f10.ntmps [(.tmp 2, .sl I), (.tmp 3, tErr)] [⟨tTr, t⟩] k := by
  rw [vcPlain]
  simp only [decide_eq_true_eq, decide_eq_false_iff_not, and_true, true_and, Bool.not_eq_true', Bool.not_eq_false', Int.toNat_natCast, eq_self, inK_i64, List.replicate, List.set_cons_zero, List.length_cons, List.length_nil]
  refine ⟨fun h => ?_, fun h => ⟨⟨0, Nat.zero_le _, rfl, rfl, rfl⟩, fun x hx => ⟨fun hlt => ?_, fun hge => ?_⟩⟩⟩
  · have : plain t = [] := by unfold plain; rw [if_neg h]
    rw [← this]; exact hk
  · have g := good_of h
    have hlen := g.len
    have hpr := g.procs
    have hxl : x < t.2.1.length := by omega
    obtain ⟨p0, p1, f0, f1, _⟩ := g.ev x hxl
    obtain ⟨l1, l2⟩ := plst_len t.2.1 x
    have b1 := plst_bd t.2.1 x (t.2.1.getD x (0, 0, ())).1.toNat
    have b2 := plst_bd t.2.1 x (t.2.1.getD x (0, 0, ())).2.1.toNat
    refine ⟨by omega, hlt, p0, by omega, fun hf => ?_, fun hf => ?_⟩
    · refine ⟨hf, by omega, by omega, by omega, by omega, p0, by omega, by omega, x + 1, by omega, by omega, by omega, ?_, ?_⟩
      · simp only [plst, if_pos hf]
      · simp only [plst, if_pos hf]; rfl
    · refine ⟨by omega, by omega, by omega, p0, by omega, by omega, x + 1, by omega, by omega, by omega, ?_, ?_⟩
      · simp only [plst, if_neg hf]
      · simp only [plst, if_neg hf]; rfl
  · have hy2 : x = t.2.1.length := by omega
    subst hy2
    have : plain t = (plst t.2.1 t.2.1.length).1 := by unfold plain; rw [if_pos h]
    rw [← this]
    rw [h] at hk
    exact hk

theorem okPlain : PlainOk Try.prog [] 10 cPlain := by
  refine plain_of (CxOk.mk' Ev5_ok (by kernel_rfl) mixed (gl := []) (GOk.cons okCheck Try.func19 (by kernel_rfl) (by kernel_rfl) GOk.nil) GoOk.nil noIt) Try.func10 (c := Try.f10.body.getD .skip) (rvs := [(.tmp 2, .sl I), (.tmp 3, tErr)]) (by kernel_rfl) (by kernel_rfl) (by kernel_rfl) ?_
  intro ds k ⟨hp, hk⟩ hwf
  obtain ⟨t, rfl, -⟩ := dest1 hp
  exact ⟨anPlain t, plain_vc t k hk⟩

theorem vst_len (l : List Ev) : ∀ i, (vst l i).1.length = i ∧ (vst l i).2.length = 5
  | 0 => ⟨rfl, rfl⟩
  | i + 1 => by
    obtain ⟨h1, h2⟩ := vst_len l i
    simp only [vst, List.length_append, List.length_cons, List.length_nil, List.length_set]
    exact ⟨by omega, h2⟩
def Vok (n : Nat) (v : List Int) : Prop := v.length = 5 ∧ ∀ q, 0 ≤ v.getD q 0 ∧ v.getD q 0 ≤ (n : Int)
theorem vjoin_len (v w : List Int) (p : Nat) : (vjoin v w p).length = 5 := by simp [vjoin]
theorem vjoin_at (v w : List Int) (p q : Nat) : (vjoin v w p).getD q 0 = if q < 5 then (if q < p then max (v.getD q 0) (w.getD q 0) else v.getD q 0) else 0 := by
  unfold vjoin
  rw [List.getD_eq_getElem?_getD, List.getElem?_map]
  by_cases h : q < 5
  · rw [if_pos h, List.getElem?_range h]; rfl
  · rw [if_neg h, List.getElem?_eq_none (by simp; omega)]; rfl
theorem list_ext {v w : List Int} {n : Nat} (hv : v.length = n) (hw : w.length = n) (h : ∀ q, q < n → v.getD q 0 = w.getD q 0) : v = w := by
  apply List.ext_getElem (by omega)
  intro i h1 h2
  have := h i (by omega)
  rw [List.getD_eq_getElem?_getD, List.getD_eq_getElem?_getD, List.getElem?_eq_getElem h1, List.getElem?_eq_getElem h2] at this
  exact this
theorem vjoin_zero {v w : List Int} (hv : v.length = 5) : vjoin v w 0 = v := by
  refine list_ext (vjoin_len v w 0) hv fun q hq => ?_
  rw [vjoin_at, if_pos hq, if_neg (by omega)]
theorem vjoin_step {v w : List Int} {p : Nat} (hp : p < 5) : (vjoin v w p).set p (max ((vjoin v w p).getD p 0) (w.getD p 0)) = vjoin v w (p + 1) := by
  refine list_ext (by rw [List.length_set, vjoin_len]) (vjoin_len v w (p + 1)) fun q hq => ?_
  rw [getD_set', vjoin_len, vjoin_at v w (p + 1) q, vjoin_at v w p p, vjoin_at v w p q, if_pos hp, if_pos hq, if_pos hq, if_neg (Nat.lt_irrefl p)]
  by_cases h : p = q
  · subst h
    rw [if_pos ⟨rfl, hp⟩, if_pos (by omega)]
  · rw [if_neg (fun e => h e.1)]
    by_cases h2 : q < p
    · rw [if_pos h2, if_pos (by omega)]
    · rw [if_neg h2, if_neg (by omega)]
theorem vjoin_ok {n : Nat} {v w : List Int} (hv : Vok n v) (hw : Vok n w) (p : Nat) : Vok n (vjoin v w p) := by
  refine ⟨vjoin_len v w p, fun q => ?_⟩
  rw [vjoin_at]
  have h1 := hv.2 q
  have h2 := hw.2 q
  split
  · split <;> omega
  · omega
theorem vmore_ok {n : Nat} {v : List Int} (hv : Vok n v) (p : Nat) : Vok (n + 1) (vmore v p) := by
  refine ⟨by unfold vmore; rw [List.length_set]; exact hv.1, fun q => ?_⟩
  unfold vmore
  rw [getD_set']
  have h1 := hv.2 q
  have h2 := hv.2 p
  split <;> omega
theorem Vok.mono {n : Nat} {v : List Int} (hv : Vok n v) : Vok (n + 1) v := ⟨hv.1, fun q => by have := hv.2 q; omega⟩
theorem getD_any {α : Type} {l : List α} {i : Nat} {a b : α} (h : i < l.length) : l.getD i a = l.getD i b := by
  rw [List.getD_eq_getElem?_getD, List.getD_eq_getElem?_getD, List.getElem?_eq_getElem h]; rfl
/-- the vector of event i -/
def vec (l : List Ev) (i : Nat) : List Int := (vst l (i + 1)).1.getD i []
def vpre (l : List Ev) (i : Nat) : List Int :=
  if 0 ≤ frm l i then vjoin ((vst l i).2.getD (prc l i) []) ((vst l i).1.getD (frm l i).toNat []) 5 else (vst l i).2.getD (prc l i) []
theorem vst_succ (l : List Ev) (i : Nat) : vst l (i + 1) = ((vst l i).1 ++ [vmore (vpre l i) (prc l i)], (vst l i).2.set (prc l i) (vmore (vpre l i) (prc l i))) := rfl
theorem vec_eq (l : List Ev) (i : Nat) : vec l i = vmore (vpre l i) (prc l i) := by
  unfold vec
  rw [vst_succ]
  simp only [getD_app, (vst_len l i).1, if_true]
theorem vst_ok (l : List Ev) (hp : ∀ i, i < l.length → prc l i < 5) (hf : ∀ i, i < l.length → frm l i < (i : Int)) : ∀ m, m ≤ l.length →
    (∀ i, i < m → Vok m ((vst l m).1.getD i [])) ∧ (∀ p, p < 5 → Vok m ((vst l m).2.getD p []))
  | 0, _ => by
    refine ⟨fun i hi => absurd hi (Nat.not_lt_zero _), fun p hp => ?_⟩
    have : (vst l 0).2.getD p [] = List.replicate 5 (0 : Int) := by
      show (List.replicate 5 (List.replicate 5 (0 : Int))).getD p [] = _
      rw [List.getD_eq_getElem?_getD, List.getElem?_replicate, if_pos hp]; rfl
    rw [this]
    refine ⟨rfl, fun q => ?_⟩
    rw [List.getD_eq_getElem?_getD, List.getElem?_replicate]
    split <;> simp
  | m + 1, hm => by
    obtain ⟨h1, h2⟩ := vst_ok l hp hf m (by omega)
    obtain ⟨l1, l2⟩ := vst_len l m
    have hpm := hp m (by omega)
    have hfm := hf m (by omega)
    have hpre : Vok m (vpre l m) := by
      unfold vpre
      split
      · exact vjoin_ok (h2 _ hpm) (h1 _ (by omega)) 5
      · exact h2 _ hpm
    have hmo := vmore_ok hpre (prc l m)
    rw [vst_succ]
    refine ⟨fun i hi => ?_, fun p hp5 => ?_⟩
    · simp only [getD_app, l1]
      split
      · exact hmo
      · exact (h1 i (by omega)).mono
    · simp only [getD_set']
      split
      · exact hmo
      · exact (h2 p hp5).mono

theorem vecs_vc (t : Tr) (k : List Dat → Prop) (hk : k [⟨.sl (.sl I), vecs t⟩, ⟨tErr, chk t⟩]) : vcF ⟨Ev5, [(19, cCheck), (21, cClone)], [], [], []⟩ (anVecs t) (Try.f12.body.getD .skip) Try.f12.ntmps [(.tmp 2, .sl (.sl I)), (.tmp 3, tErr)] [⟨tTr, t⟩] k := by
  rw [vcVecs]
  simp only [decide_eq_true_eq, decide_eq_false_iff_not, and_true, true_and, Bool.not_eq_true', Bool.not_eq_false', Int.toNat_natCast, eq_self, inK_i64, List.replicate, List.set_cons_zero, List.length_cons, List.length_nil, List.length_map, Int.toNat_zero, List.drop_zero]
  refine ⟨fun h => ?_, fun h => ⟨⟨0, Nat.zero_le _, rfl, rfl, rfl, rfl⟩, fun x hx => ⟨fun hlt => ?_, fun hge => ?_⟩⟩⟩
  · have : vecs t = [] := by unfold vecs; rw [if_neg h]
    rw [← this]; exact hk
  · have g := good_of h
    have hlen := g.len
    have hpr := g.procs
    have hxl : x < t.2.1.length := by omega
    have he := g.ev x hxl
    have hpp := good_prc g x hxl
    have hff := good_frm g x hxl
    obtain ⟨l1, l2⟩ := vst_len t.2.1 x
    obtain ⟨o1, o2⟩ := vst_ok t.2.1 (good_prc g) (good_frm g) x (by omega)
    have hsuc := vst_succ t.2.1 x
    have e1 : (t.2.1.getD x (0, 0, ())).1.toNat = prc t.2.1 x := rfl
    have e2 : (t.2.1.getD x (0, 0, ())).2.1 = frm t.2.1 x := rfl
    have e3 : (t.2.1.getD x (0, 0, ())).1 = (prc t.2.1 x : Int) := by unfold prc; omega
    simp only [e1, e2] at he ⊢
    simp only [e3] at he ⊢
    have d1 : ∀ a, (vst t.2.1 x).2.getD (prc t.2.1 x) a = (vst t.2.1 x).2.getD (prc t.2.1 x) [] := fun a => getD_any (by omega)
    have d2 : ∀ a, 0 ≤ frm t.2.1 x → (vst t.2.1 x).1.getD (frm t.2.1 x).toNat a = (vst t.2.1 x).1.getD (frm t.2.1 x).toNat [] := fun a h0 => getD_any (by omega)
    have fin : ∀ w, w = vpre t.2.1 x → (vst t.2.1 x).2.set (prc t.2.1 x) (w.set (prc t.2.1 x) (w.getD (prc t.2.1 x) 0 + 1)) = (vst t.2.1 (x + 1)).2 ∧ (vst t.2.1 x).1.append [w.set (prc t.2.1 x) (w.getD (prc t.2.1 x) 0 + 1)] = (vst t.2.1 (x + 1)).1 ∧
        ((vst t.2.1 x).1.map fun v => v.take t.1.toNat).append [(w.set (prc t.2.1 x) (w.getD (prc t.2.1 x) 0 + 1)).take t.1.toNat] = (vst t.2.1 (x + 1)).1.map fun v => v.take t.1.toNat := by
      rintro w rfl
      rw [hsuc]
      refine ⟨rfl, rfl, ?_⟩
      rw [List.map_append]
      rfl
    have hpre : Vok x (vpre t.2.1 x) := by
      unfold vpre
      split
      · exact vjoin_ok (o2 _ hpp) (o1 _ (by omega)) 5
      · exact o2 _ hpp
    have hvl := (o2 _ hpp).1
    have hb := hpre.2 (prc t.2.1 x)
    simp only [d1, Int.toNat_natCast]
    refine ⟨by omega, hlt, by omega, by omega, fun hf => ?_, fun hf => ?_⟩
    · simp only [d2 _ hf]
      refine ⟨hf, by omega, ⟨0, by omega, by omega, ?_⟩, fun y hy => ⟨fun hy5 => ?_, fun hy5 => ?_⟩⟩
      · exact (vjoin_zero hvl).symm
      · exact ⟨by omega, by omega, by omega, by omega, by omega, by omega, by omega, y + 1, by omega, by omega, by omega, vjoin_step (by omega)⟩
      · have hy2 : y = 5 := by omega
        subst hy2
        have hw : vjoin ((vst t.2.1 x).2.getD (prc t.2.1 x) []) ((vst t.2.1 x).1.getD (frm t.2.1 x).toNat []) 5 = vpre t.2.1 x := by unfold vpre; rw [if_pos hf]
        simp only [hw]
        obtain ⟨f1, f2, f3⟩ := fin _ rfl
        have hle : ∀ w : List Int, w.length = 5 → (w.take t.1.toNat).length ≤ 1000000000 := fun w hw => by rw [List.length_take]; omega
        exact ⟨by omega, by omega, by omega, by omega, by omega, by omega, by omega, by omega, by omega, by omega, by omega, hle _ (by rw [List.length_set]; exact hpre.1), by omega, by omega, x + 1, by omega, by omega, by omega, f1, f2, f3⟩
    · have hw : (vst t.2.1 x).2.getD (prc t.2.1 x) [] = vpre t.2.1 x := by unfold vpre; rw [if_neg hf]
      simp only [hw]
      obtain ⟨f1, f2, f3⟩ := fin _ rfl
      have hle : ∀ w : List Int, w.length = 5 → (w.take t.1.toNat).length ≤ 1000000000 := fun w hw => by rw [List.length_take]; omega
      exact ⟨by omega, by omega, by omega, by omega, by omega, by omega, by omega, by omega, by omega, by omega, by omega, hle _ (by rw [List.length_set]; exact hpre.1), by omega, by omega, x + 1, by omega, by omega, by omega, f1, f2, f3⟩
  · have hy2 : x = t.2.1.length := by omega
    subst hy2
    have : vecs t = (vst t.2.1 t.2.1.length).1.map (fun v => v.take t.1.toNat) := by unfold vecs; rw [if_pos h]
    rw [← this]
    rw [h] at hk
    exact hk

theorem okVecs : PlainOk Try.prog [] 12 cVecs := by
  refine plain_of (CxOk.mk' Ev5_ok (by kernel_rfl) mixed (gl := []) (GOk.cons okCheck Try.func19 (by kernel_rfl) (by kernel_rfl) (GOk.cons okClone Try.func21 (by kernel_rfl) (by kernel_rfl) GOk.nil)) GoOk.nil noIt) Try.func12 (c := Try.f12.body.getD .skip) (rvs := [(.tmp 2, .sl (.sl I)), (.tmp 3, tErr)]) (by kernel_rfl) (by kernel_rfl) (by kernel_rfl) ?_
  intro ds k ⟨hp, hk⟩ hwf
  obtain ⟨t, rfl, -⟩ := dest1 hp
  exact ⟨anVecs t, vecs_vc t k hk⟩
end Go.Proofs.Ytbpoeigaoakdiaa

/- Clocks that count: each comes from that of the one ahead at its process and that of the one it heard of; who is below is before. -/
namespace Go.Proofs.Ytbpoeigaoakdiaa
open Go.Vc

theorem last_gen {α : Type} (l : List Ev) (z z0 : α) (val : Nat → α) (st : Nat → List α) (hp : ∀ i, i < l.length → prc l i < 5) (hl : ∀ m, (st m).length = 5)
    (h0 : ∀ p, p < 5 → (st 0).getD p z = z0) (hs : ∀ m, st (m + 1) = (st m).set (prc l m) (val m)) : ∀ m, m ≤ l.length → ∀ p, p < 5 →
    ((st m).getD p z = z0 ∧ ∀ j, j < m → prc l j ≠ p) ∨ ∃ j, j < m ∧ prc l j = p ∧ (∀ j', j < j' → j' < m → prc l j' ≠ p) ∧ (st m).getD p z = val j := by
  intro m
  induction m with
  | zero => exact fun _ p hp5 => .inl ⟨h0 p hp5, fun j hj => by omega⟩
  | succ m ih =>
    intro hm p hp5
    rw [hs, getD_set', hl]
    by_cases h : prc l m = p
    · rw [if_pos ⟨h, by rw [h]; exact hp5⟩]
      exact .inr ⟨m, by omega, h, fun j' h1 h2 => by omega, rfl⟩
    · rw [if_neg (fun e => h e.1)]
      rcases ih (by omega) p hp5 with ⟨h1, h2⟩ | ⟨j, h1, h2, h3, h4⟩
      · refine .inl ⟨h1, fun j hj => ?_⟩
        by_cases hjm : j = m
        · rw [hjm]; exact h
        · exact h2 j (by omega)
      · refine .inr ⟨j, by omega, h2, fun j' hj1 hj2 => ?_, h4⟩
        by_cases hjm : j' = m
        · rw [hjm]; exact h
        · exact h3 j' hj1 (by omega)

theorem keep_gen {α : Type} (z : α) (val : Nat → α) (st : Nat → List α) (hl : ∀ m, (st m).length = m) (hs : ∀ m, st (m + 1) = st m ++ [val m]) {i : Nat} : ∀ m, i < m → (st m).getD i z = val i := by
  intro m
  induction m with
  | zero => intro h; omega
  | succ m ih =>
    intro h
    rw [hs, getD_app, hl]
    by_cases hm : i = m
    · rw [if_pos hm, hm]
    · rw [if_neg hm]; exact ih (by omega)

/-- the plain clock of event i -/
def pl (l : List Ev) (i : Nat) : Int := (if 0 ≤ frm l i then max ((plst l i).2.getD (prc l i) 0) ((plst l i).1.getD (frm l i).toNat 0) else (plst l i).2.getD (prc l i) 0) + 1
theorem plst_succ (l : List Ev) (i : Nat) : plst l (i + 1) = ((plst l i).1 ++ [pl l i], (plst l i).2.set (prc l i) (pl l i)) := rfl
theorem pl_keep (l : List Ev) {i m : Nat} (h : i < m) : (plst l m).1.getD i 0 = pl l i :=
  keep_gen 0 (pl l) (fun m => (plst l m).1) (fun m => (plst_len l m).1) (fun m => by rw [plst_succ]) m h

theorem pl_rec {l : List Ev} (hp : ∀ i, i < l.length → prc l i < 5) (hf : ∀ i, i < l.length → frm l i < (i : Int)) {i : Nat} (hi : i < l.length) :
    ∃ a b, pl l i = max a b + 1 ∧ (a = 0 ∨ ∃ j, justB l i j ∧ a = pl l j) ∧ (b = 0 ∨ ∃ j, justB l i j ∧ b = pl l j) ∧ ∀ j, justB l i j → a = pl l j ∨ b = pl l j := by
  have hlast := last_gen l (0 : Int) 0 (pl l) (fun m => (plst l m).2) hp (fun m => (plst_len l m).2) (fun p hp5 => by
    show (List.replicate 5 (0 : Int)).getD p 0 = 0
    rw [List.getD_eq_getElem?_getD, List.getElem?_replicate, if_pos hp5]; rfl) (fun m => by rw [plst_succ]) i (by omega) (prc l i) (hp i hi)
  have hb := (plst_bd l i (prc l i)).2
  refine ⟨(plst l i).2.getD (prc l i) 0, if 0 ≤ frm l i then (plst l i).1.getD (frm l i).toNat 0 else 0, ?_, ?_, ?_, ?_⟩
  · unfold pl
    split
    · rfl
    · congr 1; omega
  · rcases hlast with ⟨h1, _⟩ | ⟨j, h1, h2, h3, h4⟩
    · exact .inl h1
    · exact .inr ⟨j, ⟨h1, .inl ⟨h2, h3⟩⟩, h4⟩
  · split
    · rename_i h0
      have := hf i hi
      exact .inr ⟨(frm l i).toNat, ⟨by omega, .inr (by omega)⟩, pl_keep l (by omega)⟩
    · exact .inl rfl
  · intro j hj
    rcases hj with ⟨hji, ⟨h1, h2⟩ | h1⟩
    · left
      rcases hlast with ⟨_, k2⟩ | ⟨j', k1, k2, k3, k4⟩
      · exact absurd h1 (k2 j hji)
      · have : j = j' := by
          rcases Nat.lt_trichotomy j j' with h | h | h
          · exact absurd k2 (h2 j' h k1)
          · exact h
          · exact absurd h1 (k3 j h hji)
        rw [this]; exact k4
    · right
      rw [if_pos (by omega), show (frm l i).toNat = j by omega]
      exact pl_keep l hji
theorem pl_pos (l : List Ev) (i : Nat) : 1 ≤ pl l i := by
  have h1 := (plst_bd l i (prc l i)).2
  unfold pl
  split <;> omega
theorem pl_le (l : List Ev) (i : Nat) : pl l i ≤ (i : Int) + 1 := by
  have h1 := (plst_bd l i (prc l i)).2
  have h2 := (plst_bd l i (frm l i).toNat).1
  unfold pl
  split <;> omega
theorem pl_less {l : List Ev} (hp : ∀ i, i < l.length → prc l i < 5) (hf : ∀ i, i < l.length → frm l i < (i : Int)) {i : Nat} (hi : i < l.length) {k : Nat} (hk : (bB l i).testBit k = true) : pl l k < pl l i := by
  induction i using Nat.strongRecOn with
  | _ i ih =>
    obtain ⟨a, b, hS, c1, c2, hall⟩ := pl_rec hp hf hi
    clear c1 c2
    obtain ⟨j, hj, hkj⟩ := (bB_bit hp hf hi k).1 hk
    have hji := hj.1
    have h1 : pl l j < pl l i := by
      rcases hall j hj with h | h <;> omega
    rcases hkj with h | h
    · have := ih j hji (by omega) h
      omega
    · rw [h]; exact h1
theorem pl_near {l : List Ev} (hp : ∀ i, i < l.length → prc l i < 5) (hf : ∀ i, i < l.length → frm l i < (i : Int)) {i : Nat} (hi : i < l.length) :
    (∃ k, (bB l i).testBit k = true ∧ pl l k + 1 = pl l i) ∨ (pl l i = 1 ∧ bB l i = 0) := by
  obtain ⟨a, b, hS, ha, hb, hall⟩ := pl_rec hp hf hi
  have bit : ∀ j, justB l i j → (bB l i).testBit j = true := fun j hj => (bB_bit hp hf hi j).2 ⟨j, hj, .inr rfl⟩
  have zero : a = 0 → b = 0 → pl l i = 1 ∧ bB l i = 0 := by
    clear ha hb
    intro h1 h2
    refine ⟨by omega, Nat.eq_of_testBit_eq fun k => ?_⟩
    rw [Nat.zero_testBit]
    cases hq : (bB l i).testBit k with
    | false => rfl
    | true =>
      obtain ⟨j, hj, _⟩ := (bB_bit hp hf hi k).1 hq
      have := pl_pos l j
      rcases hall j hj with h | h <;> omega
  rcases ha with ha | ⟨j, hj, ha⟩ <;> rcases hb with hb | ⟨j', hj', hb⟩
  · exact .inr (zero ha hb)
  · have := pl_pos l j'
    exact .inl ⟨j', bit j' hj', by omega⟩
  · have := pl_pos l j
    exact .inl ⟨j, bit j hj, by omega⟩
  · by_cases h : a ≤ b
    · exact .inl ⟨j', bit j' hj', by omega⟩
    · exact .inl ⟨j, bit j hj, by omega⟩

/-! Vectors. -/
def V (l : List Ev) (i q : Nat) : Int := (vec l i).getD q 0
theorem vec_keep (l : List Ev) {i m : Nat} (h : i < m) : (vst l m).1.getD i [] = vec l i :=
  keep_gen [] (vec l) (fun m => (vst l m).1) (fun m => (vst_len l m).1) (fun m => by rw [vst_succ, vec_eq]) m h

theorem vec_rec {l : List Ev} (hp : ∀ i, i < l.length → prc l i < 5) (hf : ∀ i, i < l.length → frm l i < (i : Int)) {i : Nat} (hi : i < l.length) :
    ∃ a b : Nat → Int, (∀ q, q < 5 → V l i q = max (a q) (b q) + (if prc l i = q then 1 else 0)) ∧ (a = (fun _ => 0) ∨ ∃ j, justB l i j ∧ a = V l j) ∧ (b = (fun _ => 0) ∨ ∃ j, justB l i j ∧ b = V l j) ∧ ∀ j, justB l i j → a = V l j ∨ b = V l j := by
  have hlast := last_gen l ([] : List Int) (List.replicate 5 0) (vec l) (fun m => (vst l m).2) hp (fun m => (vst_len l m).2) (fun p hp5 => by
    show (List.replicate 5 (List.replicate 5 (0 : Int))).getD p [] = _
    rw [List.getD_eq_getElem?_getD, List.getElem?_replicate, if_pos hp5]; rfl) (fun m => by rw [vst_succ, vec_eq]) i (by omega) (prc l i) (hp i hi)
  obtain ⟨o1, o2⟩ := vst_ok l hp hf i (by omega)
  have hb := o2 (prc l i) (hp i hi)
  have z5 : ∀ q, (List.replicate 5 (0 : Int)).getD q 0 = 0 := by
    intro q
    rw [List.getD_eq_getElem?_getD, List.getElem?_replicate]
    split <;> rfl
  refine ⟨fun q => ((vst l i).2.getD (prc l i) []).getD q 0, if 0 ≤ frm l i then (fun q => ((vst l i).1.getD (frm l i).toNat []).getD q 0) else (fun _ => 0), ?_, ?_, ?_, ?_⟩
  · intro q hq
    have hlen : (vpre l i).length = 5 := by
      unfold vpre
      split
      · exact vjoin_len ..
      · exact hb.1
    have hat : (vpre l i).getD q 0 = max (((vst l i).2.getD (prc l i) []).getD q 0) ((if 0 ≤ frm l i then (fun q => ((vst l i).1.getD (frm l i).toNat []).getD q 0) else (fun _ => 0)) q) := by
      unfold vpre
      split
      · rw [vjoin_at, if_pos hq, if_pos hq]
      · have := hb.2 q
        show ((vst l i).2.getD (prc l i) []).getD q 0 = max _ 0
        omega
    unfold V
    rw [vec_eq]
    unfold vmore
    rw [getD_set', hlen]
    by_cases h : prc l i = q
    · subst h
      rw [if_pos ⟨rfl, hp i hi⟩, if_pos rfl, hat]
    · rw [if_neg (fun e => h e.1), if_neg h, hat, Int.add_zero]
  · rcases hlast with ⟨h1, _⟩ | ⟨j, h1, h2, h3, h4⟩
    · left
      funext q
      rw [h1]; exact z5 q
    · refine .inr ⟨j, ⟨h1, .inl ⟨h2, h3⟩⟩, ?_⟩
      funext q
      rw [h4]; rfl
  · split
    · rename_i h0
      have := hf i hi
      refine .inr ⟨(frm l i).toNat, ⟨by omega, .inr (by omega)⟩, ?_⟩
      funext q
      rw [vec_keep l (by omega)]; rfl
    · exact .inl rfl
  · intro j hj
    rcases hj with ⟨hji, ⟨h1, h2⟩ | h1⟩
    · left
      rcases hlast with ⟨_, k2⟩ | ⟨j', k1, k2, k3, k4⟩
      · exact absurd h1 (k2 j hji)
      · have : j = j' := by
          rcases Nat.lt_trichotomy j j' with h | h | h
          · exact absurd k2 (h2 j' h k1)
          · exact h
          · exact absurd h1 (k3 j h hji)
        funext q
        rw [this, k4]; rfl
    · right
      rw [if_pos (by omega), show (frm l i).toNat = j by omega]
      funext q
      rw [vec_keep l hji]; rfl

theorem V_nonneg {l : List Ev} (hp : ∀ i, i < l.length → prc l i < 5) (hf : ∀ i, i < l.length → frm l i < (i : Int)) {i : Nat} (hi : i < l.length) (q : Nat) : 0 ≤ V l i q := by
  have := ((vst_ok l hp hf (i + 1) (by omega)).1 i (by omega)).2 q
  exact this.1
/-- A: who is before has no more. -/
theorem V_mono {l : List Ev} (hp : ∀ i, i < l.length → prc l i < 5) (hf : ∀ i, i < l.length → frm l i < (i : Int)) {i : Nat} (hi : i < l.length) {k : Nat} (hk : (bB l i).testBit k = true) {q : Nat} (hq : q < 5) : V l k q + (if prc l i = q then 1 else 0) ≤ V l i q := by
  induction i using Nat.strongRecOn with
  | _ i ih =>
    obtain ⟨a, b, hS, _, _, hall⟩ := vec_rec hp hf hi
    obtain ⟨j, hj, hkj⟩ := (bB_bit hp hf hi k).1 hk
    have hji := hj.1
    have h1 : V l j q + (if prc l i = q then 1 else 0) ≤ V l i q := by
      rw [hS q hq]
      rcases hall j hj with h | h <;> rw [h] <;> omega
    rcases hkj with h | h
    · have := ih j hji (by omega) h
      split at this <;> omega
    · rw [h]; exact h1
/-- B: what one knows of a process comes from an event there. -/
theorem V_from {l : List Ev} (hp : ∀ i, i < l.length → prc l i < 5) (hf : ∀ i, i < l.length → frm l i < (i : Int)) {i : Nat} (hi : i < l.length) {q : Nat} (hq : q < 5) :
    V l i q = 0 ∨ ∃ k, k < l.length ∧ prc l k = q ∧ (k = i ∨ (bB l i).testBit k = true) ∧ V l k q = V l i q := by
  induction i using Nat.strongRecOn with
  | _ i ih =>
    obtain ⟨a, b, hS, ha, hb, _⟩ := vec_rec hp hf hi
    by_cases hpq : prc l i = q
    · exact .inr ⟨i, hi, hpq, .inl rfl, rfl⟩
    · have e := hS q hq
      rw [if_neg hpq] at e
      have one : ∀ c : Nat → Int, (c = (fun _ => 0) ∨ ∃ j, justB l i j ∧ c = V l j) → c q = V l i q → V l i q = 0 ∨ ∃ k, k < l.length ∧ prc l k = q ∧ (k = i ∨ (bB l i).testBit k = true) ∧ V l k q = V l i q := by
        intro c hc hq'
        rcases hc with rfl | ⟨j, hj, rfl⟩
        · exact .inl hq'.symm
        · have hji := hj.1
          rcases ih j hji (by omega) with h | ⟨k, h1, h2, h3, h4⟩
          · exact .inl (by omega)
          · exact .inr ⟨k, h1, h2, .inr ((bB_bit hp hf hi k).2 ⟨j, hj, h3.symm⟩), by omega⟩
      by_cases hab : a q ≤ b q
      · exact one b hb (by omega)
      · exact one a ha (by omega)
theorem V_own {l : List Ev} (hp : ∀ i, i < l.length → prc l i < 5) (hf : ∀ i, i < l.length → frm l i < (i : Int)) {i : Nat} (hi : i < l.length) : 1 ≤ V l i (prc l i) := by
  obtain ⟨a, b, hS, ha, hb, _⟩ := vec_rec hp hf hi
  have e := hS _ (hp i hi)
  rw [if_pos rfl] at e
  have h0 : 0 ≤ a (prc l i) := by
    rcases ha with rfl | ⟨j, hj, rfl⟩
    · exact Int.le_refl 0
    · have := hj.1
      exact V_nonneg hp hf (by omega) _
  omega
/-- One knows of as many of the other one's process just if it is that one, or that one is before it. -/
theorem V_iff {l : List Ev} (hp : ∀ i, i < l.length → prc l i < 5) (hf : ∀ i, i < l.length → frm l i < (i : Int)) {i j : Nat} (hi : i < l.length) (hj : j < l.length) :
    V l i (prc l i) ≤ V l j (prc l i) ↔ (i = j ∨ (bB l j).testBit i = true) := by
  constructor
  · intro h
    have h1 := V_own hp hf hi
    rcases V_from hp hf hj (hp i hi) with h0 | ⟨k, hk, hkp, hkj, hV⟩
    · omega
    · have hik : ¬ k < i := by
        intro hlt
        have := V_mono hp hf hi (bB_must hp hf hi hlt (.inl hkp)) (hp i hi)
        rw [if_pos rfl] at this
        omega
      by_cases he : i = k
      · rw [he]
        rcases hkj with h | h
        · exact .inl h
        · exact .inr h
      · have hb := bB_must hp hf hk (j := i) (by omega) (.inl hkp.symm)
        rcases hkj with h | h
        · right; rw [← h]; exact hb
        · right; exact bB_trans hp hf hj h hb
  · rintro (rfl | h)
    · exact Int.le_refl _
    · have := V_mono hp hf hj h (hp i hi)
      split at this <;> omega
end Go.Proofs.Ytbpoeigaoakdiaa

/- Clocks that count: rows alike; the closed fact. -/
namespace Go.Proofs.Ytbpoeigaoakdiaa
open Go.Vc

theorem take_nextL {a b : List (List Int)} {x : Nat} (ha : x < a.length) (hb : x < b.length) (h : a.take x = b.take x) (e : a.getD x [] = b.getD x []) : a.take (x + 1) = b.take (x + 1) := by
  rw [List.take_add_one, List.take_add_one, h]
  rw [List.getD_eq_getElem?_getD, List.getD_eq_getElem?_getD, List.getElem?_eq_getElem ha, List.getElem?_eq_getElem hb] at e
  rw [List.getElem?_eq_getElem ha, List.getElem?_eq_getElem hb]
  simp only [Option.getD_some] at e
  rw [e]
theorem rows_vc (a b : List (List Int)) (k : List Dat → Prop) (hl : a.length ≤ maxLen) (hk : k [⟨.bool, a == b⟩]) : vcF ⟨Ev5, [(13, cInts)], [], [], []⟩ (anRows a b) (Try.f14.body.getD .skip) Try.f14.ntmps [(.tmp 4, .bool)] [⟨.sl (.sl I), a⟩, ⟨.sl (.sl I), b⟩] k := by
  rw [vcRows]
  have hml : maxLen ≤ 9223372036854775807 := by decide
  simp only [decide_eq_true_eq, decide_eq_false_iff_not, and_true, true_and, Bool.not_eq_true', Bool.not_eq_false', Int.toNat_natCast, inK_i64, eq_self]
  have ret : ∀ x : Bool, (a == b) = x → k [⟨.bool, x⟩] := by rintro _ rfl; exact hk
  refine ⟨fun h => ret _ ?_, fun h => ⟨⟨0, ⟨by omega, rfl⟩, rfl⟩, fun x ⟨hx, ht⟩ => ⟨fun hlt => ⟨by omega, hlt, by omega, by omega, fun hne => ret _ ?_, fun he => ⟨by omega, x + 1, ⟨by omega, take_nextL (by omega) (by omega) ht (by simpa using he)⟩, by omega, by omega⟩⟩, fun hge => ret _ ?_⟩⟩⟩
  · rw [beq_eq_false_iff_ne]; intro he; exact h (by rw [he])
  · rw [beq_eq_false_iff_ne]; intro he; rw [he] at hne; simp at hne
  · have h1 : x = a.length := by omega
    rw [h1, List.take_length, List.take_of_length_le (by omega)] at ht
    rw [ht]; exact beq_self_eq_true b
theorem okRows : PlainOk Try.prog [] 14 cRows := by
  refine plain_of (CxOk.mk' Ev5_ok (by kernel_rfl) mixed (gl := []) (GOk.cons okInts Try.func13 (by kernel_rfl) (by kernel_rfl) GOk.nil) GoOk.nil noIt) Try.func14 (c := Try.f14.body.getD .skip) (rvs := [(.tmp 4, .bool)]) (by kernel_rfl) (by kernel_rfl) (by kernel_rfl) ?_
  intro ds k ⟨hp, hk⟩ hwf
  obtain ⟨a, b, rfl, -⟩ := dest2 hp
  exact ⟨anRows a b, rows_vc a b k (wf2 hwf).1.1 hk⟩

theorem okSFact : PlainOk Try.prog [] 4 cSFact := by
  refine plain_of (CxOk.mk' Ev5_ok (by kernel_rfl) mixed (gl := []) (GOk.cons okTalk Try.func11 (by kernel_rfl) (by kernel_rfl) (GOk.cons okPlain Try.func10 (by kernel_rfl) (by kernel_rfl) (GOk.cons okVecs Try.func12 (by kernel_rfl) (by kernel_rfl) (GOk.cons okInts Try.func13 (by kernel_rfl) (by kernel_rfl) (GOk.cons okRows Try.func14 (by kernel_rfl) (by kernel_rfl) GOk.nil))))) GoOk.nil noIt) Try.func4 (c := Try.f4.body.getD .skip) (rvs := [(.tmp 0, .bool)]) (by kernel_rfl) (by kernel_rfl) (by kernel_rfl) ?_
  intro ds k ⟨hp, hk⟩ hwf
  obtain ⟨rfl, -⟩ := dest0 hp
  have hk : k [⟨.bool, true⟩] := hk
  refine ⟨[joinAll], ?_⟩
  rw [vcSFact]
  have e1 : decide (chk talkT = 0) = true := by decide +kernel
  have e2 : (plain talkT == (((List.replicate 3 (0 : Int)).set 0 1).set 1 2).set 2 2) = true := by decide +kernel
  have e3 : (vecs talkT == (((List.replicate 3 ([] : List Int)).set 0 (((List.replicate 2 (0 : Int)).set 0 1).set 1 0)).set 1 (((List.replicate 2 (0 : Int)).set 0 1).set 1 1)).set 2 (((List.replicate 2 (0 : Int)).set 0 2).set 1 0)) = true := by decide +kernel
  simp only [e1, e2, e3, true_and, and_true, forall_const, reduceCtorEq, false_implies]
  exact hk

theorem plain_len {t : Tr} (h : chk t = 0) : (plain t).length = t.2.1.length := by
  unfold plain; rw [if_pos h]; exact (plst_len _ _).1
theorem plain_at {t : Tr} (h : chk t = 0) {i : Nat} (hi : i < t.2.1.length) : (plain t).getD i 0 = pl t.2.1 i := by
  unfold plain; rw [if_pos h]; exact pl_keep _ hi

end Go.Proofs.Ytbpoeigaoakdiaa

/- The row of all events: each stands behind all that happened before it; plainly. -/
namespace Go.Proofs.Ytbpoeigaoakdiaa
open Go.Vc

/-- the set of some numbers -/
def setN : List Int → Nat
  | [] => 0
  | x :: r => setN r ||| 2 ^ x.toNat
theorem setN_bit (l : List Int) (j : Nat) : (setN l).testBit j = true ↔ ∃ x ∈ l, x.toNat = j := by
  induction l with
  | nil => simp [setN]
  | cons x r ih =>
    simp only [setN]
    rw [Nat.testBit_or, Bool.or_eq_true, ih, Nat.testBit_two_pow, decide_eq_true_eq]
    constructor
    · rintro (⟨y, hy, e⟩ | e)
      · exact ⟨y, List.mem_cons_of_mem _ hy, e⟩
      · exact ⟨x, List.mem_cons_self .., e⟩
    · rintro ⟨y, hy, e⟩
      rcases List.mem_cons.1 hy with rfl | hy
      · exact .inr e
      · exact .inl ⟨y, hy, e⟩
theorem setN_lt (l : List Int) {n : Nat} (h : ∀ x ∈ l, x.toNat < n) : setN l < 2 ^ n := by
  refine Nat.lt_pow_two_of_testBit _ fun j hj => ?_
  cases hb : (setN l).testBit j with
  | false => rfl
  | true =>
    obtain ⟨x, hx, e⟩ := (setN_bit l j).1 hb
    have := h x hx
    omega
theorem setN_app (l : List Int) (x : Int) : setN (l ++ [x]) = setN l ||| 2 ^ x.toNat := by
  apply Nat.eq_of_testBit_eq
  intro j
  rw [Bool.eq_iff_iff, setN_bit, Nat.testBit_or, Bool.or_eq_true, setN_bit, Nat.testBit_two_pow, decide_eq_true_eq]
  constructor
  · rintro ⟨y, hy, e⟩
    rcases List.mem_append.1 hy with h | h
    · exact .inl ⟨y, h, e⟩
    · rw [List.mem_singleton] at h; subst h; exact .inr e
  · rintro (⟨y, hy, e⟩ | e)
    · exact ⟨y, List.mem_append.2 (.inl hy), e⟩
    · exact ⟨x, List.mem_append.2 (.inr (List.mem_singleton.2 rfl)), e⟩

theorem iota_len (n : Nat) : (iota n).length = n := by simp [iota]
theorem iota_mem {n : Nat} {x : Int} : x ∈ iota n ↔ 0 ≤ x ∧ x < (n : Int) := by
  unfold iota
  rw [List.mem_map]
  constructor
  · rintro ⟨i, hi, rfl⟩
    have := List.mem_range.1 hi
    omega
  · rintro ⟨h1, h2⟩
    exact ⟨x.toNat, List.mem_range.2 (by omega), by omega⟩
theorem iota_nodup (n : Nat) : (iota n).Nodup := by
  unfold iota
  rw [List.nodup_iff_pairwise_ne, List.pairwise_map]
  exact List.Pairwise.imp (fun h e => h (by omega)) List.nodup_range
theorem iota_succ (n : Nat) : iota (n + 1) = iota n ++ [(n : Int)] := by
  unfold iota
  rw [List.range_succ, List.map_append]; rfl

theorem cmpR_less {l : List Int} {t : Tr} {i j : Int} (h : l.getD i.toNat 0 < l.getD j.toNat 0) : cmpR l t i j < 0 := by
  unfold cmpR cmpI
  rw [if_pos h]
  show (if (-1 : Int) = 0 then _ else (-1 : Int)) < 0
  rw [if_neg (by decide)]; decide

theorem row_len {t : Tr} {r : List Int} (hr : rowP t r) : r.length = t.2.1.length := by rw [hr.1.length_eq, iota_len]
theorem row_mem {t : Tr} {r : List Int} (hr : rowP t r) {x : Int} : x ∈ r ↔ 0 ≤ x ∧ x < (t.2.1.length : Int) := by rw [hr.1.mem_iff, iota_mem]
theorem row_at {t : Tr} {r : List Int} (hr : rowP t r) {k : Nat} (hk : k < t.2.1.length) : 0 ≤ r.getD k 0 ∧ r.getD k 0 < (t.2.1.length : Int) := by
  rw [← row_mem hr]
  have hk' : k < r.length := by rw [row_len hr]; exact hk
  rw [List.getD_eq_getElem?_getD, List.getElem?_eq_getElem hk']
  exact List.getElem_mem hk'

/-- what one finds when one comes to place k -/
theorem row_step {t : Tr} {r : List Int} (h : chk t = 0) (hr : rowP t r) {k : Nat} (hk : k < t.2.1.length) : (setN (r.take k)).testBit (r.getD k 0).toNat = false ∧ ∀ j, (bB t.2.1 (r.getD k 0).toNat).testBit j = true → (setN (r.take k)).testBit j = true := by
  have g := good_of h
  have hl := row_len hr
  have hk' : k < r.length := by omega
  obtain ⟨a1, a2⟩ := row_at hr hk
  have hnd : r.Nodup := hr.1.nodup_iff.2 (iota_nodup _)
  have hek : r[k]? = some (r.getD k 0) := by rw [List.getD_eq_getElem?_getD, List.getElem?_eq_getElem hk']; rfl
  constructor
  · cases hb : (setN (r.take k)).testBit (r.getD k 0).toNat with
    | false => rfl
    | true =>
      obtain ⟨x, hx, e⟩ := (setN_bit _ _).1 hb
      obtain ⟨m, hm⟩ := List.getElem?_of_mem hx
      have hmk : m < k := by
        have := (List.getElem?_eq_some_iff.1 hm).1
        rw [List.length_take] at this; omega
      rw [List.getElem?_take_of_lt hmk] at hm
      have hx0 := (row_mem hr).1 (List.mem_of_getElem? hm)
      have : x = r.getD k 0 := by omega
      subst this
      have hml := (List.getElem?_eq_some_iff.1 hm)
      have hkl := (List.getElem?_eq_some_iff.1 hek)
      have := (List.nodup_iff_pairwise_ne.1 hnd)
      rw [List.pairwise_iff_getElem] at this
      exact absurd (hml.2.trans hkl.2.symm) (this m k hml.1 hkl.1 hmk)
  · intro j hj
    have hi : (r.getD k 0).toNat < t.2.1.length := by omega
    have hjl := bB_less (good_prc g) (good_frm g) hi hj
    have hpl := pl_less (good_prc g) (good_frm g) hi hj
    have hjm : (j : Int) ∈ r := (row_mem hr).2 ⟨by omega, by omega⟩
    obtain ⟨m, hm⟩ := List.getElem?_of_mem hjm
    have hml := (List.getElem?_eq_some_iff.1 hm)
    have hp1 := plain_at h (i := j) (by omega)
    have hp2 := plain_at h hi
    have hmk : m < k := by
      rcases Nat.lt_trichotomy m k with hlt | heq | hgt
      · exact hlt
      · subst heq
        rw [hek] at hm
        injection hm with hm
        rw [hm] at hpl
        simp at hpl
      · have hp := hr.2
        rw [List.pairwise_iff_getElem] at hp
        have hkl := (List.getElem?_eq_some_iff.1 hek)
        have := hp k m hkl.1 hml.1 hgt
        rw [hml.2, hkl.2] at this
        have hlt := cmpR_less (l := plain t) (t := t) (i := (j : Int)) (j := r.getD k 0) (by rw [Int.toNat_natCast, hp1, hp2]; exact hpl)
        omega
    refine (setN_bit _ _).2 ⟨(j : Int), ?_, by simp⟩
    rw [List.mem_iff_getElem?]
    exact ⟨m, by rw [List.getElem?_take_of_lt hmk]; exact hm⟩

theorem take_row {r : List Int} {k : Nat} (h : k < r.length) : setN (r.take (k + 1)) = setN (r.take k) ||| 2 ^ (r.getD k 0).toNat := by
  rw [List.take_add_one, List.getElem?_eq_getElem h, List.getD_eq_getElem?_getD, List.getElem?_eq_getElem h]
  exact setN_app _ _
end Go.Proofs.Ytbpoeigaoakdiaa

/- The row of all events: the law's loop. -/
namespace Go.Proofs.Ytbpoeigaoakdiaa
open Go.Vc
/-- with the integers in a slot -/
def withL (st : St) (j : Nat) (f : List Int → St) : St :=
  match st.tm.getD j .any with
  | .d (.sl (.int .i64)) xs => f xs
  | _ => st
def setP (a : Int) : Prop := 0 ≤ a ∧ a < 1152921504606846976
def cWith : Ctr := cdet [I, I] (fun (a i : Int) => setP a ∧ 0 ≤ i ∧ i ≤ 59) (fun (a i : Int) => [⟨I, ((a.toNat ||| 2 ^ i.toNat : Nat) : Int)⟩])
def anSR (t : Tr) : Ann :=
  [joinAll, loopAt 12 Nat [] (fun st k => withL st 4 fun r => St.at (St.only st [1, 4, 6]) [(8, .d I (setN (r.take k) : Int)), (9, .d I (k : Int))]) (fun _ k => k ≤ t.2.1.length ∧ True) (fun k => t.2.1.length - k)]
end Go.Proofs.Ytbpoeigaoakdiaa

/- What the functions of this seat have to satisfy, by program: each verification condition in plain words. -/
namespace Go.Proofs.Ytbpoeigaoakdiaa
open Go.Vc
set_option linter.unusedVariables false
theorem vcWith (a i : Int) (k : List Dat → Prop) : vcF ⟨Er, [(7, cBit), (20, cPow2)], [], [], []⟩ [] (Try.f9.body.getD .skip) Try.f9.ntmps [(.tmp 4, I)] [⟨I, a⟩, ⟨I, i⟩] k = (
  True ∧ (bitB a i = true → k [Dat.mk (I) a]) ∧ (bitB a i = false → (i ≤ (61 : Int) ∧ True) ∧ inK IntKind.i64 (a + (2 : Int) ^ i.toNat) ∧ k [Dat.mk (I) (a + (2 : Int) ^ i.toNat)])) := by kernel_rfl
theorem vcSR (t : Tr) (k : List Dat → Prop) : vcF ⟨Er, [(4, cSFact), (5, cRow), (6, cBefore), (7, cBit), (8, cSub), (9, cWith)], [], [], []⟩ (anSR t) (Try.f3.body.getD .skip) Try.f3.ntmps [(.tmp 2, .bool)] [⟨tTr, t⟩] k = (
  True ∧ ((!true) = true → k [Dat.mk Ty.bool false]) ∧ ((!true) = false → (chk t ≠ (0 : Int) → ∀ (r : List Int), r = [] → True ∧ ((!decide (chk t = (0 : Int))) = true → ((!decide (chk t = (0 : Int))) = true → k [Dat.mk Ty.bool !decide (chk t = (0 : Int))]) ∧ ((!decide (chk t = (0 : Int))) = false → k [Dat.mk Ty.bool false])) ∧ ((!decide (chk t = (0 : Int))) = false → ((!decide (chk t = (0 : Int))) = true → ((!decide (chk t = (0 : Int))) = true → k [Dat.mk Ty.bool !decide (chk t = (0 : Int))]) ∧ ((!decide (chk t = (0 : Int))) = false → k [Dat.mk Ty.bool false])) ∧ ((!decide (chk t = (0 : Int))) = false → ((!decide ((↑r.length : Int) = (↑(bef t).length : Int))) = true → k [Dat.mk Ty.bool false]) ∧ ((!decide ((↑r.length : Int) = (↑(bef t).length : Int))) = false → (∃ (x : Nat), (x ≤ t.snd.fst.length ∧ True) ∧ (([] : List Nat) = [] ∧ r = r ∧ bef t = bef t ∧ (0 : Int) = (↑(setN (List.take x r)) : Int) ∧ (0 : Int) = (↑x : Int) ∧ True) ∧ (((24 : Nat) = (24 : Nat) ∧ t = t) ∧ True) ∧ True) ∧ ∀ (x : Nat), x ≤ t.snd.fst.length ∧ True → (decide ((↑x : Int) < (↑r.length : Int)) = true → (0 : Int) ≤ (↑x : Int) ∧ (↑x : Int) < (↑r.length : Int) ∧ (decide (r.getD (↑x : Int).toNat (0 : Int) < (0 : Int)) = true → k [Dat.mk Ty.bool false]) ∧ (decide (r.getD (↑x : Int).toNat (0 : Int) < (0 : Int)) = false → (0 : Int) ≤ (↑x : Int) ∧ (↑x : Int) < (↑r.length : Int) ∧ (decide ((↑(bef t).length : Int) ≤ r.getD (↑x : Int).toNat (0 : Int)) = true → k [Dat.mk Ty.bool false]) ∧ (decide ((↑(bef t).length : Int) ≤ r.getD (↑x : Int).toNat (0 : Int)) = false → (0 : Int) ≤ (↑x : Int) ∧ (↑x : Int) < (↑r.length : Int) ∧ True ∧ (bitB (↑(setN (List.take x r)) : Int) (r.getD (↑x : Int).toNat (0 : Int)) = true → k [Dat.mk Ty.bool false]) ∧ (bitB (↑(setN (List.take x r)) : Int) (r.getD (↑x : Int).toNat (0 : Int)) = false → (0 : Int) ≤ (↑x : Int) ∧ (↑x : Int) < (↑r.length : Int) ∧ (0 : Int) ≤ r.getD (↑x : Int).toNat (0 : Int) ∧ r.getD (↑x : Int).toNat (0 : Int) < (↑(bef t).length : Int) ∧ True ∧ ((!subB ((bef t).getD (r.getD (↑x : Int).toNat (0 : Int)).toNat (0 : Int)) (↑(setN (List.take x r)) : Int)) = true → k [Dat.mk Ty.bool false]) ∧ ((!subB ((bef t).getD (r.getD (↑x : Int).toNat (0 : Int)).toNat (0 : Int)) (↑(setN (List.take x r)) : Int)) = false → (0 : Int) ≤ (↑x : Int) ∧ (↑x : Int) < (↑r.length : Int) ∧ (setP (↑(setN (List.take x r)) : Int) ∧ (0 : Int) ≤ r.getD (↑x : Int).toNat (0 : Int) ∧ r.getD (↑x : Int).toNat (0 : Int) ≤ (59 : Int)) ∧ inK IntKind.i64 ((↑x : Int) + (1 : Int)) ∧ ∃ (x_1 : Nat), (x_1 ≤ t.snd.fst.length ∧ True) ∧ t.snd.fst.length - x_1 < t.snd.fst.length - x ∧ (([] : List Nat) = [] ∧ r = r ∧ bef t = bef t ∧ (↑((↑(setN (List.take x r)) : Int).toNat ||| (2 : Nat) ^ (r.getD (↑x : Int).toNat (0 : Int)).toNat) : Int) = (↑(setN (List.take x_1 r)) : Int) ∧ (↑x : Int) + (1 : Int) = (↑x_1 : Int) ∧ True) ∧ (((24 : Nat) = (24 : Nat) ∧ t = t) ∧ True) ∧ True))))) ∧ (decide ((↑x : Int) < (↑r.length : Int)) = false → k [Dat.mk Ty.bool true]))))) ∧ (chk t = (0 : Int) → ∀ (r : List Int), rowP t r → True ∧ ((!decide ((0 : Int) = (0 : Int))) = true → ((!decide ((0 : Int) = (0 : Int))) = true → k [Dat.mk Ty.bool !decide (chk t = (0 : Int))]) ∧ ((!decide ((0 : Int) = (0 : Int))) = false → k [Dat.mk Ty.bool false])) ∧ ((!decide ((0 : Int) = (0 : Int))) = false → ((!decide (chk t = (0 : Int))) = true → ((!decide ((0 : Int) = (0 : Int))) = true → k [Dat.mk Ty.bool !decide (chk t = (0 : Int))]) ∧ ((!decide ((0 : Int) = (0 : Int))) = false → k [Dat.mk Ty.bool false])) ∧ ((!decide (chk t = (0 : Int))) = false → ((!decide ((↑r.length : Int) = (↑(bef t).length : Int))) = true → k [Dat.mk Ty.bool false]) ∧ ((!decide ((↑r.length : Int) = (↑(bef t).length : Int))) = false → (∃ (x : Nat), (x ≤ t.snd.fst.length ∧ True) ∧ (([] : List Nat) = [] ∧ r = r ∧ bef t = bef t ∧ (0 : Int) = (↑(setN (List.take x r)) : Int) ∧ (0 : Int) = (↑x : Int) ∧ True) ∧ (((24 : Nat) = (24 : Nat) ∧ t = t) ∧ True) ∧ True) ∧ ∀ (x : Nat), x ≤ t.snd.fst.length ∧ True → (decide ((↑x : Int) < (↑r.length : Int)) = true → (0 : Int) ≤ (↑x : Int) ∧ (↑x : Int) < (↑r.length : Int) ∧ (decide (r.getD (↑x : Int).toNat (0 : Int) < (0 : Int)) = true → k [Dat.mk Ty.bool false]) ∧ (decide (r.getD (↑x : Int).toNat (0 : Int) < (0 : Int)) = false → (0 : Int) ≤ (↑x : Int) ∧ (↑x : Int) < (↑r.length : Int) ∧ (decide ((↑(bef t).length : Int) ≤ r.getD (↑x : Int).toNat (0 : Int)) = true → k [Dat.mk Ty.bool false]) ∧ (decide ((↑(bef t).length : Int) ≤ r.getD (↑x : Int).toNat (0 : Int)) = false → (0 : Int) ≤ (↑x : Int) ∧ (↑x : Int) < (↑r.length : Int) ∧ True ∧ (bitB (↑(setN (List.take x r)) : Int) (r.getD (↑x : Int).toNat (0 : Int)) = true → k [Dat.mk Ty.bool false]) ∧ (bitB (↑(setN (List.take x r)) : Int) (r.getD (↑x : Int).toNat (0 : Int)) = false → (0 : Int) ≤ (↑x : Int) ∧ (↑x : Int) < (↑r.length : Int) ∧ (0 : Int) ≤ r.getD (↑x : Int).toNat (0 : Int) ∧ r.getD (↑x : Int).toNat (0 : Int) < (↑(bef t).length : Int) ∧ True ∧ ((!subB ((bef t).getD (r.getD (↑x : Int).toNat (0 : Int)).toNat (0 : Int)) (↑(setN (List.take x r)) : Int)) = true → k [Dat.mk Ty.bool false]) ∧ ((!subB ((bef t).getD (r.getD (↑x : Int).toNat (0 : Int)).toNat (0 : Int)) (↑(setN (List.take x r)) : Int)) = false → (0 : Int) ≤ (↑x : Int) ∧ (↑x : Int) < (↑r.length : Int) ∧ (setP (↑(setN (List.take x r)) : Int) ∧ (0 : Int) ≤ r.getD (↑x : Int).toNat (0 : Int) ∧ r.getD (↑x : Int).toNat (0 : Int) ≤ (59 : Int)) ∧ inK IntKind.i64 ((↑x : Int) + (1 : Int)) ∧ ∃ (x_1 : Nat), (x_1 ≤ t.snd.fst.length ∧ True) ∧ t.snd.fst.length - x_1 < t.snd.fst.length - x ∧ (([] : List Nat) = [] ∧ r = r ∧ bef t = bef t ∧ (↑((↑(setN (List.take x r)) : Int).toNat ||| (2 : Nat) ^ (r.getD (↑x : Int).toNat (0 : Int)).toNat) : Int) = (↑(setN (List.take x_1 r)) : Int) ∧ (↑x : Int) + (1 : Int) = (↑x_1 : Int) ∧ True) ∧ (((24 : Nat) = (24 : Nat) ∧ t = t) ∧ True) ∧ True))))) ∧ (decide ((↑x : Int) < (↑r.length : Int)) = false → k [Dat.mk Ty.bool true]))))))) := by kernel_rfl
end Go.Proofs.Ytbpoeigaoakdiaa

/- What the functions of this seat have to satisfy, by program: each verification condition in plain words. -/
namespace Go.Proofs.Ytbpoeigaoakdiaa
open Go.Vc
set_option linter.unusedVariables false
theorem vcRow (t : Tr) (k : List Dat → Prop) : vcF ⟨Er, [(10, cPlain)], [], [], [(15, oSort)]⟩ (anRow t) (Try.f5.body.getD .skip) Try.f5.ntmps [(.tmp 2, .sl I), (.tmp 3, tErr)] [⟨tTr, t⟩] k = (
  True ∧ ((!decide (chk t = (0 : Int))) = true → k [Dat.mk (I).sl [], Dat.mk (Ty.err (55 : Nat)) (chk t)]) ∧ ((!decide (chk t = (0 : Int))) = false → (∃ (x : Nat), (x ≤ (plain t).length ∧ True) ∧ (([] : List Nat) = [] ∧ ([] : List Nat) = [] ∧ True ∧ (↑(plain t).length : Int) = (↑(plain t).length : Int) ∧ (0 : Int) = (↑x : Int) ∧ True) ∧ (((24 : Nat) = (24 : Nat) ∧ t = t) ∧ ((26 : Nat) = (26 : Nat) ∧ plain t = plain t) ∧ ((3 : Nat) = (3 : Nat) ∧ [] = iota x) ∧ True) ∧ True) ∧ ∀ (x : Nat), x ≤ (plain t).length ∧ True → (decide ((↑x : Int) < (↑(plain t).length : Int)) = true → (iota x).length + ((List.replicate (1 : Nat) (0 : Int)).set (0 : Nat) (↑x : Int)).length ≤ (1000000000 : Nat) ∧ inK IntKind.i64 ((↑x : Int) + (1 : Int)) ∧ ∃ (x_1 : Nat), (x_1 ≤ (plain t).length ∧ True) ∧ (plain t).length - x_1 < (plain t).length - x ∧ (([] : List Nat) = [] ∧ ([] : List Nat) = [] ∧ True ∧ (↑(plain t).length : Int) = (↑(plain t).length : Int) ∧ (↑x : Int) + (1 : Int) = (↑x_1 : Int) ∧ True) ∧ (((24 : Nat) = (24 : Nat) ∧ t = t) ∧ ((26 : Nat) = (26 : Nat) ∧ plain t = plain t) ∧ ((3 : Nat) = (3 : Nat) ∧ (iota x).append ((List.replicate (1 : Nat) (0 : Int)).set (0 : Nat) (↑x : Int)) = iota x_1) ∧ True) ∧ True) ∧ (decide ((↑x : Int) < (↑(plain t).length : Int)) = false → (∀ (x_1 : Int), x_1 ∈ iota x → inR (plain t) t x_1) ∧ (iota x).length ≤ (1000000000 : Nat) ∧ ∀ (ys : List Int), srtP (plain t) t (iota x) ys → k [Dat.mk (I).sl ys, Dat.mk (Ty.err (55 : Nat)) (0 : Int)]))) := by kernel_rfl
end Go.Proofs.Ytbpoeigaoakdiaa

/- What the functions of this seat have to satisfy, by program: each verification condition in plain words. -/
namespace Go.Proofs.Ytbpoeigaoakdiaa
open Go.Vc
set_option linter.unusedVariables false
theorem vcNaN (a : Int) (k : List Dat → Prop) : vcF ⟨Ec, [], [], [], []⟩ [] (Try.f24.body.getD .skip) Try.f24.ntmps [(.tmp 2, .bool)] [⟨I, a⟩] k = (
  k [Dat.mk Ty.bool !decide (a = a)]) := by kernel_rfl
theorem vcCmp (a b : Int) (k : List Dat → Prop) : vcF ⟨Ec, [(24, cNaN)], [], [], []⟩ [joinAll] (Try.f18.body.getD .skip) Try.f18.ntmps [(.tmp 4, I)] [⟨I, a⟩, ⟨I, b⟩] k = (
  True ∧ True ∧ (false = true → (false = true → k [Dat.mk (I) (0 : Int)]) ∧ (false = false → k [Dat.mk (I) (-1 : Int)])) ∧ (false = false → (false = true → k [Dat.mk (I) (1 : Int)]) ∧ (false = false → (decide (a < b) = true → k [Dat.mk (I) (-1 : Int)]) ∧ (decide (a < b) = false → (decide (b < a) = true → k [Dat.mk (I) (1 : Int)]) ∧ (decide (b < a) = false → k [Dat.mk (I) (0 : Int)]))))) := by kernel_rfl
theorem vcOr (l : List Int) (k : List Dat → Prop) : vcF ⟨Ec, [], [], [], []⟩ (anOr l) (Try.f17.body.getD .skip) Try.f17.ntmps [(.tmp 2, I)] [⟨.sl I, l⟩] k = (
  (∃ (x : Nat), (x ≤ l.length ∧ orI l = orI (List.drop x l)) ∧ ((0 : Int) = (0 : Int) ∧ l = l ∧ (↑l.length : Int) = (↑l.length : Int) ∧ (0 : Int) = (↑x : Int) ∧ True) ∧ True ∧ True) ∧ ∀ (x : Nat), x ≤ l.length ∧ orI l = orI (List.drop x l) → (decide ((↑x : Int) < (↑l.length : Int)) = true → (0 : Int) ≤ (↑x : Int) ∧ (↑x : Int) < (↑l.length : Int) ∧ ((!decide (l.getD (↑x : Int).toNat (0 : Int) = (0 : Int))) = true → k [Dat.mk (I) (l.getD (↑x : Int).toNat (0 : Int))]) ∧ ((!decide (l.getD (↑x : Int).toNat (0 : Int) = (0 : Int))) = false → inK IntKind.i64 ((↑x : Int) + (1 : Int)) ∧ ∃ (x_1 : Nat), (x_1 ≤ l.length ∧ orI l = orI (List.drop x_1 l)) ∧ l.length - x_1 < l.length - x ∧ ((0 : Int) = (0 : Int) ∧ l = l ∧ (↑l.length : Int) = (↑l.length : Int) ∧ (↑x : Int) + (1 : Int) = (↑x_1 : Int) ∧ True) ∧ True ∧ True)) ∧ (decide ((↑x : Int) < (↑l.length : Int)) = false → k [Dat.mk (I) (0 : Int)])) := by kernel_rfl
theorem vcCls (i j : Int) (l : List Int) (t : Tr) (k : List Dat → Prop) : vcF ⟨Ec, [(18, cCmp), (17, cOr)], [], [], []⟩ [joinAll] (Try.f16.body.getD .skip) Try.f16.ntmps [(.tmp 6, I)] [⟨I, i⟩, ⟨I, j⟩, ⟨.ptr (.sl I), some l⟩, ⟨.ptr tTr, some t⟩] k = (
  ((0 : Int) ≤ i ∧ i < (↑l.length : Int) ∧ (0 : Int) ≤ j ∧ j < (↑l.length : Int) ∧ True ∧ (0 : Int) ≤ i ∧ i < (↑(List.length t.snd.fst) : Int) ∧ (0 : Int) ≤ j ∧ j < (↑(List.length t.snd.fst) : Int) ∧ True ∧ True ∧ True) ∧ k [Dat.mk (I) (orI (((List.replicate (2 : Nat) (0 : Int)).set (0 : Nat) (cmpI (l.getD i.toNat (0 : Int)) (l.getD j.toNat (0 : Int)))).set (1 : Nat) (cmpI (List.getD t.snd.fst i.toNat ((0 : Int), (0 : Int), ())).fst (List.getD t.snd.fst j.toNat ((0 : Int), (0 : Int), ())).fst)))]) := by kernel_rfl
end Go.Proofs.Ytbpoeigaoakdiaa

/- How two events are set in a row: the functions keep their contracts, whether or not it is counted what is drawn. -/
namespace Go.Proofs.Ytbpoeigaoakdiaa
open Go.Vc

theorem okNaN [Dn] : PlainOk Try.prog [] 24 cNaN := by
  refine plain_of (CxOk.mk' Ec_ok (by kernel_rfl) mixed (gl := []) GOk.nil GoOk.nil noIt) Try.func24 (c := Try.f24.body.getD .skip) (rvs := [(.tmp 2, .bool)]) (by kernel_rfl) (by kernel_rfl) (by kernel_rfl) ?_
  intro ds k ⟨hp, hk⟩ hwf
  obtain ⟨a, rfl, -⟩ := dest1 hp
  refine ⟨[], ?_⟩
  rw [vcNaN]
  have hk : k [⟨.bool, false⟩] := hk
  simpa using hk

theorem okCmp [Dn] : PlainOk Try.prog [] 18 cCmp := by
  refine plain_of (CxOk.mk' Ec_ok (by kernel_rfl) mixed (gl := []) (GOk.cons okNaN Try.func24 (by kernel_rfl) (by kernel_rfl) GOk.nil) GoOk.nil noIt) Try.func18 (c := Try.f18.body.getD .skip) (rvs := [(.tmp 4, I)]) (by kernel_rfl) (by kernel_rfl) (by kernel_rfl) ?_
  intro ds k ⟨hp, hk⟩ hwf
  obtain ⟨a, b, rfl, -⟩ := dest2 hp
  refine ⟨[joinAll], ?_⟩
  rw [vcCmp]
  have ret : ∀ x : Int, cmpI a b = x → k [⟨I, x⟩] := by rintro _ rfl; exact hk
  simp only [decide_eq_true_eq, decide_eq_false_iff_not, true_and, forall_const, reduceCtorEq, false_implies]
  refine ⟨fun h => ret _ (by unfold cmpI; rw [if_pos h]), fun h => ⟨fun h2 => ret _ (by unfold cmpI; rw [if_neg h, if_pos h2]), fun h2 => ret _ (by unfold cmpI; rw [if_neg h, if_neg h2])⟩⟩

theorem or_vc (l : List Int) (hl : l.length ≤ maxLen) (k : List Dat → Prop) (hk : k [⟨I, orI l⟩]) : vcF ⟨Ec, [], [], [], []⟩ (anOr l) (Try.f17.body.getD .skip) Try.f17.ntmps [(.tmp 2, I)] [⟨.sl I, l⟩] k := by
  rw [vcOr]
  have hml : maxLen ≤ 9223372036854775807 := by decide
  have ret : ∀ x : Int, orI l = x → k [⟨I, x⟩] := by rintro _ rfl; exact hk
  simp only [decide_eq_true_eq, decide_eq_false_iff_not, true_and, and_true, Bool.not_eq_true', Bool.not_eq_false', Int.toNat_natCast, inK_i64]
  refine ⟨⟨0, ⟨Nat.zero_le _, by rw [List.drop_zero]⟩, rfl⟩, fun x ⟨hx, ho⟩ => ⟨fun hlt => ?_, fun hge => ret _ ?_⟩⟩
  · have hxl : x < l.length := by omega
    have hd : orI (l.drop x) = if l.getD x 0 = 0 then orI (l.drop (x + 1)) else l.getD x 0 := by
      rw [List.drop_eq_getElem_cons hxl, List.getD_eq_getElem?_getD, List.getElem?_eq_getElem hxl]; rfl
    refine ⟨by omega, hlt, fun hne => ret _ ?_, fun he => ⟨by omega, x + 1, ⟨by omega, ?_⟩, by omega, by omega⟩⟩
    · rw [ho, hd, if_neg hne]
    · rw [ho, hd, if_pos he]
  · rw [ho, List.drop_of_length_le (by omega)]; rfl

theorem okOr [Dn] : PlainOk Try.prog [] 17 cOr := by
  refine plain_of (CxOk.mk' Ec_ok (by kernel_rfl) mixed (gl := []) GOk.nil GoOk.nil noIt) Try.func17 (c := Try.f17.body.getD .skip) (rvs := [(.tmp 2, I)]) (by kernel_rfl) (by kernel_rfl) (by kernel_rfl) ?_
  intro ds k ⟨hp, hk⟩ hwf
  obtain ⟨l, rfl, -⟩ := dest1 hp
  exact ⟨anOr l, or_vc l (wf1 hwf).1 k hk⟩

theorem okCls [Dn] : PlainOk Try.prog [] 16 cCls := by
  refine plain_of (CxOk.mk' Ec_ok (by kernel_rfl) mixed (gl := []) (GOk.cons okCmp Try.func18 (by kernel_rfl) (by kernel_rfl) (GOk.cons okOr Try.func17 (by kernel_rfl) (by kernel_rfl) GOk.nil)) GoOk.nil noIt) Try.func16 (c := Try.f16.body.getD .skip) (rvs := [(.tmp 6, I)]) (by kernel_rfl) (by kernel_rfl) (by kernel_rfl) ?_
  intro ds k hk hwf
  obtain ⟨i, j, l, t, rfl, hk⟩ := gdest4 hk
  refine ⟨[joinAll], ?_⟩
  cases l with
  | none => exact hk.elim
  | some l =>
    cases t with
    | none => exact hk.elim
    | some t =>
      obtain ⟨hi, hj, hk⟩ := hk
      rw [vcCls]
      obtain ⟨h1, h2, h3⟩ := hi
      obtain ⟨g1, g2, g3⟩ := hj
      exact ⟨⟨h1, h2, g1, g2, trivial, h1, h3, g1, g3, trivial, trivial, trivial⟩, hk⟩
end Go.Proofs.Ytbpoeigaoakdiaa

/- slices.SortFunc and all that it reaches, as this program bears them: the shelf's structure, filled by program. -/
namespace Go.Proofs.Ytbpoeigaoakdiaa
open Go.Shelf Go.Proofs
def laidRen : Go.Shelf.Ren := ⟨fun | 6 => 15 | 15 => 23 | 14 => 22 | 28 => 34 | 29 => 35 | 20 => 26 | 21 => 27 | 22 => 28 | 23 => 29 | 24 => 30 | 25 => 31 | 26 => 32 | 27 => 33 | 46 => 36 | 47 => 37 | 48 => 38 | 49 => 39 | 50 => 40 | 57 => 41 | n => n, fun | 22 => 26 | 24 => 3 | 25 => 32 | 3 => 3 | 39 => 52 | 0 => 0 | 53 => 65 | 55 => 67 | 4 => 4 | 46 => 58 | 45 => 57 | 50 => 62 | 5 => 5 | 9 => 9 | 66 => 68 | 70 => 72 | 76 => 74 | 77 => 75 | n => n, fun | n => n⟩
theorem laidSort : Go.Proofs.SlLaysF.n6 Try.prog laidRen where
  mixed := by kernel_rfl
  f6 := ⟨ "slices.SortFunc[[]int,int]", by decide, Try.func15.trans (congrArg some (by kernel_rfl))⟩
  f14 := ⟨ "slices.pdqsortCmpFunc[int]", by decide, Try.func22.trans (congrArg some (by kernel_rfl))⟩
  f15 := Try.func23.trans (congrArg some (by kernel_rfl))
  f20 := ⟨ "slices.insertionSortCmpFunc[int]", by decide, Try.func26.trans (congrArg some (by kernel_rfl))⟩
  f21 := ⟨ "slices.heapSortCmpFunc[int]", by decide, Try.func27.trans (congrArg some (by kernel_rfl))⟩
  f22 := ⟨ "slices.breakPatternsCmpFunc[int]", by decide, Try.func28.trans (congrArg some (by kernel_rfl))⟩
  f23 := ⟨ "slices.choosePivotCmpFunc[int]", by decide, Try.func29.trans (congrArg some (by kernel_rfl))⟩
  f24 := ⟨ "slices.reverseRangeCmpFunc[int]", by decide, Try.func30.trans (congrArg some (by kernel_rfl))⟩
  f25 := ⟨ "slices.partialInsertionSortCmpFunc[int]", by decide, Try.func31.trans (congrArg some (by kernel_rfl))⟩
  f26 := ⟨ "slices.partitionEqualCmpFunc[int]", by decide, Try.func32.trans (congrArg some (by kernel_rfl))⟩
  f27 := ⟨ "slices.partitionCmpFunc[int]", by decide, Try.func33.trans (congrArg some (by kernel_rfl))⟩
  f28 := Try.func34.trans (congrArg some (by kernel_rfl))
  f29 := Try.func35.trans (congrArg some (by kernel_rfl))
  f46 := ⟨ "slices.siftDownCmpFunc[int]", by decide, Try.func36.trans (congrArg some (by kernel_rfl))⟩
  f47 := Try.func37.trans (congrArg some (by kernel_rfl))
  f48 := Try.func38.trans (congrArg some (by kernel_rfl))
  f49 := ⟨ "slices.medianAdjacentCmpFunc[int]", by decide, Try.func39.trans (congrArg some (by kernel_rfl))⟩
  f50 := ⟨ "slices.medianCmpFunc[int]", by decide, Try.func40.trans (congrArg some (by kernel_rfl))⟩
  f57 := ⟨ "slices.order2CmpFunc[int]", by decide, Try.func41.trans (congrArg some (by kernel_rfl))⟩
  t0 := Try.underlying0
  a0 := Try.isAgg0
  z0 := Try.sizeOf0
  v0 := Try.zeroValue0
  t3 := Try.underlying3
  a3 := Try.isAgg3
  z3 := Try.sizeOf3
  v3 := Try.zeroValue3
  t4 := Try.underlying4
  a4 := Try.isAgg4
  z4 := Try.sizeOf4
  v4 := Try.zeroValue4
  t5 := Try.underlying5
  a5 := Try.isAgg5
  z5 := Try.sizeOf5
  v5 := Try.zeroValue5
  t9 := Try.underlying9
  a9 := Try.isAgg9
  z9 := Try.sizeOf9
  v9 := Try.zeroValue9
  t22 := Try.underlying26
  a22 := Try.isAgg26
  z22 := Try.sizeOf26
  v22 := Try.zeroValue26
  a24 := Try.isAgg3
  z24 := Try.sizeOf3
  t25 := Try.underlying32
  a25 := Try.isAgg32
  z25 := Try.sizeOf32
  v25 := Try.zeroValue32
  t39 := Try.underlying52
  a39 := Try.isAgg52
  z39 := Try.sizeOf52
  v39 := Try.zeroValue52
  t45 := Try.underlying57
  a45 := Try.isAgg57
  z45 := Try.sizeOf57
  v45 := Try.zeroValue57
  t46 := Try.underlying58
  a46 := Try.isAgg58
  z46 := Try.sizeOf58
  v46 := Try.zeroValue58
  t50 := Try.underlying62
  a50 := Try.isAgg62
  z50 := Try.sizeOf62
  v50 := Try.zeroValue62
  t53 := Try.underlying65
  a53 := Try.isAgg65
  z53 := Try.sizeOf65
  v53 := Try.zeroValue65
  t55 := Try.underlying67
  a55 := Try.isAgg67
  z55 := Try.sizeOf67
  v55 := Try.zeroValue67
  t66 := Try.underlying68
  a66 := Try.isAgg68
  z66 := Try.sizeOf68
  v66 := Try.zeroValue68
  t70 := Try.underlying72
  a70 := Try.isAgg72
  z70 := Try.sizeOf72
  v70 := Try.zeroValue72
  t76 := Try.underlying74
  a76 := Try.isAgg74
  z76 := Try.sizeOf74
  v76 := Try.zeroValue74
  t77 := Try.underlying75
  a77 := Try.isAgg75
  z77 := Try.sizeOf75
  v77 := Try.zeroValue75
end Go.Proofs.Ytbpoeigaoakdiaa

/- The row of all events: the sort and the row keep their contracts. -/
namespace Go.Proofs.Ytbpoeigaoakdiaa
open Go.Vc

theorem cmpR_iff (l : List Int) (t : Tr) (i j : Int) : cmpR l t i j < 0 ↔ l.getD i.toNat 0 < l.getD j.toNat 0 ∨ l.getD i.toNat 0 = l.getD j.toNat 0 ∧ (t.2.1.getD i.toNat (0, 0, ())).1 < (t.2.1.getD j.toNat (0, 0, ())).1 := by
  unfold cmpR cmpI
  generalize l.getD i.toNat 0 = a
  generalize l.getD j.toNat 0 = b
  generalize (t.2.1.getD i.toNat (0, 0, ())).1 = p
  generalize (t.2.1.getD j.toNat (0, 0, ())).1 = q
  simp only [orI]
  by_cases h1 : a < b
  · simp [h1]
  · by_cases h2 : b < a
    · simp [h1, h2]; omega
    · have : a = b := by omega
      subst this
      by_cases h3 : p < q
      · simp [h3]
      · by_cases h4 : q < p
        · simp [h3, h4]
        · simp [h3, h4]

theorem cmpR_swo (l : List Int) (t : Tr) : SWOn (inR l t) (cmpR l t) := by
  refine ⟨fun x _ => ?_, fun x y z _ _ _ => ?_, fun x y z _ _ _ => ?_⟩ <;> simp only [cmpR_iff] <;> omega

theorem ownSort : OwnOk Try.prog [] 15 oSort := by
  refine own_sort1 laidSort (e := 3) (t := I) rfl (g := 16) ⟨_, Try.func16, by kernel_rfl, by kernel_rfl⟩ (tc := tCa) rfl (c := cCls) (@okCls ⟨true⟩)
    (va := fun v x => match v with
      | (some l, some t, _) => inR l t x
      | _ => False)
    (cmp := fun v x y => match v with
      | (some l, some t, _) => cmpR l t x y
      | _ => 0) ?_ ?_
  · rintro ⟨l, t, u⟩ x y hx hy k hk
    cases l with
    | none => exact hx.elim
    | some l =>
      cases t with
      | none => exact hx.elim
      | some t => exact ⟨hx, hy, hk⟩
  · intro args ob k h
    unfold oSort at h
    split at h
    · rename_i l t u xs
      obtain ⟨h1, h2, h3⟩ := h
      exact ⟨(some l, some t, u), xs, rfl, rfl, h1, cmpR_swo l t, h2, fun ys p q => h3 ys ⟨p, q⟩⟩
    · exact h.elim

theorem row_vc (t : Tr) (k : List Dat → Prop) (h1 : chk t ≠ 0 → ∀ r : List Int, r = [] → k [⟨.sl I, r⟩, ⟨tErr, chk t⟩]) (h2 : chk t = 0 → ∀ r : List Int, rowP t r → k [⟨.sl I, r⟩, ⟨tErr, (0 : Int)⟩]) : vcF ⟨Er, [(10, cPlain)], [], [], [(15, oSort)]⟩ (anRow t) (Try.f5.body.getD .skip) Try.f5.ntmps [(.tmp 2, .sl I), (.tmp 3, tErr)] [⟨tTr, t⟩] k := by
  rw [vcRow]
  simp only [decide_eq_true_eq, decide_eq_false_iff_not, true_and, and_true, Bool.not_eq_true', Bool.not_eq_false', Int.toNat_natCast, inK_i64, eq_self, List.length_set, List.length_replicate]
  refine ⟨fun h => h1 h [] rfl, fun h => ?_⟩
  have g := good_of h
  have hlen := g.len
  have hpl := plain_len h
  have hil := iota_len
  refine ⟨⟨0, Nat.zero_le _, rfl, rfl⟩, fun x hx => ⟨fun hlt => ⟨by rw [hil]; omega, by omega, x + 1, by omega, by omega, by omega, (iota_succ x).symm⟩, fun hge => ⟨fun y hy => ?_, by rw [hil]; omega, fun ys hys => ?_⟩⟩⟩
  · obtain ⟨a, b⟩ := iota_mem.1 hy
    exact ⟨a, by omega, by omega⟩
  · have hxe : x = t.2.1.length := by omega
    subst hxe
    exact h2 h ys hys

theorem okRow : PlainOk Try.prog [] 5 cRow := by
  refine plain_of (CxOk.mk' Er_ok (by kernel_rfl) mixed (gl := []) (GOk.cons okPlain Try.func10 (by kernel_rfl) (by kernel_rfl) GOk.nil) (GoOk.cons ownSort Try.func15 (by kernel_rfl) (by kernel_rfl) GoOk.nil) noIt) Try.func5 (c := Try.f5.body.getD .skip) (rvs := [(.tmp 2, .sl I), (.tmp 3, tErr)]) (by kernel_rfl) (by kernel_rfl) (by kernel_rfl) ?_
  intro ds k hk hwf
  obtain ⟨t, rfl, h1, h2⟩ := gdest1 hk
  exact ⟨anRow t, row_vc t k h1 h2⟩
end Go.Proofs.Ytbpoeigaoakdiaa

/- The row of all events: the law. -/
namespace Go.Proofs.Ytbpoeigaoakdiaa
open Go.Vc

theorem or_and_add (a : Nat) : ∀ b : Nat, (a ||| b) + (a &&& b) = a + b := by
  induction a using Nat.strongRecOn with
  | _ a ih =>
    intro b
    by_cases ha : a = 0
    · subst ha; simp
    · have h := ih (a / 2) (by omega) (b / 2)
      have h1 : (a ||| b) / 2 = a / 2 ||| b / 2 := Nat.or_div_two
      have h2 : (a &&& b) / 2 = a / 2 &&& b / 2 := Nat.and_div_two
      have h3 : (a ||| b) % 2 = 1 ↔ a % 2 = 1 ∨ b % 2 = 1 := Nat.or_mod_two_eq_one
      have h4 : (a &&& b) % 2 = 1 ↔ a % 2 = 1 ∧ b % 2 = 1 := Nat.and_mod_two_eq_one
      omega
theorem or_pow_in {s i : Nat} (h : s.testBit i = true) : s ||| 2 ^ i = s := by
  refine Nat.eq_of_testBit_eq fun k => ?_
  rw [Nat.testBit_or, Nat.testBit_two_pow]
  by_cases hk : i = k
  · subst hk; rw [h]; rfl
  · simp [hk]
theorem or_pow_out {s i : Nat} (h : s.testBit i = false) : s ||| 2 ^ i = s + 2 ^ i := by
  have h1 := or_and_add s (2 ^ i)
  have h2 : s &&& 2 ^ i = 0 := by
    refine Nat.eq_of_testBit_eq fun k => ?_
    rw [Nat.testBit_and, Nat.testBit_two_pow, Nat.zero_testBit]
    by_cases hk : i = k
    · subst hk; rw [h]; rfl
    · simp [hk]
  omega

theorem okWith : PlainOk Try.prog [] 9 cWith := by
  refine plain_of (CxOk.mk' Er_ok (by kernel_rfl) mixed (gl := []) (GOk.cons okBit Try.func7 (by kernel_rfl) (by kernel_rfl) (GOk.cons okPow2 Try.func20 (by kernel_rfl) (by kernel_rfl) GOk.nil)) GoOk.nil noIt) Try.func9 (c := Try.f9.body.getD .skip) (rvs := [(.tmp 4, I)]) (by kernel_rfl) (by kernel_rfl) (by kernel_rfl) ?_
  intro ds k ⟨hp, hk⟩ hwf
  obtain ⟨a, i, rfl, ⟨ha, ha'⟩, hi, hi'⟩ := dest2 hp
  have hk : k [⟨I, ((a.toNat ||| 2 ^ i.toNat : Nat) : Int)⟩] := hk
  obtain ⟨m, rfl⟩ := Int.eq_ofNat_of_zero_le ha
  obtain ⟨n, rfl⟩ := Int.eq_ofNat_of_zero_le hi
  simp only [Int.toNat_natCast] at hk
  refine ⟨[], ?_⟩
  rw [vcWith, bitB_nat]
  have h2 := two_pow_le (n := n) (by omega)
  have h3 := two_pow_pos n
  refine ⟨trivial, fun h => ?_, fun h => ⟨⟨by omega, trivial⟩, ?_, ?_⟩⟩
  · rw [or_pow_in h] at hk; exact hk
  · rw [Int.toNat_natCast, inK_i64]; omega
  · rw [or_pow_out h, Int.natCast_add, Int.natCast_pow] at hk; exact hk

theorem sr_vc (t : Tr) (k : List Dat → Prop) (hk : k [⟨.bool, true⟩]) : vcF ⟨Er, [(4, cSFact), (5, cRow), (6, cBefore), (7, cBit), (8, cSub), (9, cWith)], [], [], []⟩ (anSR t) (Try.f3.body.getD .skip) Try.f3.ntmps [(.tmp 2, .bool)] [⟨tTr, t⟩] k := by
  rw [vcSR]
  have ret : ∀ x : Bool, x = true → k [⟨.bool, x⟩] := by rintro _ rfl; exact hk
  simp only [decide_eq_true_eq, decide_eq_false_iff_not, and_true, true_and, Bool.not_eq_true', Bool.not_eq_false', Int.toNat_natCast, implies_true, eq_self, inK_i64, ne_eq]
  refine ⟨(fun h => by cases h), fun _ => ⟨fun h r hr => ⟨fun _ => ⟨fun _ => ret _ (by simp [h]), fun h2 => absurd h2 h⟩, fun h2 => absurd h2 h⟩, fun h r hr => ⟨fun h2 => absurd trivial h2, fun _ => ⟨fun h2 => absurd h h2, fun _ => ?_⟩⟩⟩⟩
  have g := good_of h
  have hlen := g.len
  have hrl := row_len hr
  have hbl := bef_len h
  refine ⟨fun h2 => absurd (by omega) h2, fun _ => ⟨⟨0, Nat.zero_le _, rfl, rfl⟩, fun x hx => ⟨fun hlt => ?_, fun _ => hk⟩⟩⟩
  have hxl : x < t.2.1.length := by omega
  obtain ⟨a1, a2⟩ := row_at hr hxl
  obtain ⟨s1, s2⟩ := row_step h hr hxl
  have hst := take_row (r := r) (k := x) (by omega)
  generalize hy : r.getD x 0 = y at *
  obtain ⟨p, rfl⟩ := Int.eq_ofNat_of_zero_le a1
  simp only [Int.toNat_natCast] at s1 s2 hst ⊢
  have hpl : p < t.2.1.length := by omega
  have hbp := bef_at h hpl
  have hsub : subB ((bef t).getD p 0) ((setN (r.take x) : Nat) : Int) = true := by rw [hbp, subB_iff]; exact s2
  have hbit : bitB ((setN (r.take x) : Nat) : Int) (p : Int) = false := by rw [bitB_nat]; exact s1
  have hsl : setN (r.take x) < 2 ^ 24 := setN_lt _ fun z hz => by
    have := (row_mem hr).1 (List.mem_of_mem_take hz)
    omega
  have hsn : ((setN (r.take x) : Nat) : Int) < 16777216 := by
    have : (2 : Nat) ^ 24 = 16777216 := by decide
    omega
  refine ⟨by omega, hlt, fun h2 => by omega, fun _ => ⟨by omega, hlt, fun h2 => by omega, fun _ => ⟨by omega, hlt, fun h2 => (by rw [hbit] at h2; cases h2), fun _ => ⟨by omega, hlt, by omega, by omega, fun h2 => (by rw [hsub] at h2; cases h2), fun _ => ⟨by omega, hlt, ⟨⟨by omega, by omega⟩, by omega, by omega⟩, by omega, x + 1, by omega, by omega, by rw [hst], by omega⟩⟩⟩⟩⟩

def cSR : Ctr := cdet [tTr] (fun _ => True) (fun _ => [⟨.bool, true⟩])
theorem okSR : PlainOk Try.prog [] 3 cSR := by
  refine plain_of (CxOk.mk' Er_ok (by kernel_rfl) mixed (gl := []) (GOk.cons okSFact Try.func4 (by kernel_rfl) (by kernel_rfl) (GOk.cons okRow Try.func5 (by kernel_rfl) (by kernel_rfl) (GOk.cons okBefore Try.func6 (by kernel_rfl) (by kernel_rfl) (GOk.cons okBit Try.func7 (by kernel_rfl) (by kernel_rfl) (GOk.cons okSub Try.func8 (by kernel_rfl) (by kernel_rfl) (GOk.cons okWith Try.func9 (by kernel_rfl) (by kernel_rfl) GOk.nil)))))) GoOk.nil noIt) Try.func3 (c := Try.f3.body.getD .skip) (rvs := [(.tmp 2, .bool)]) (by kernel_rfl) (by kernel_rfl) (by kernel_rfl) ?_
  intro ds k ⟨hp, hk⟩ hwf
  obtain ⟨t, rfl, -⟩ := dest1 hp
  exact ⟨anSR t, sr_vc t k hk⟩
end Go.Proofs.Ytbpoeigaoakdiaa
