/- Votes: what the program's functions answer. -/
import Derived.Test.YtjgdpblaghhfhaaRows
import Derived.Test.YtjgdpblaghhfhaaVcQ
namespace Go.Proofs.Ytjgdpblaghhfhaa
open Go.Vc
abbrev I : Ty := .int .i64
abbrev tA : Ty := .pr I (.pr I (.pr I .un))
abbrev tErr : Ty := .err 61
abbrev Act3 := Int × Int × Int × Unit
abbrev tPoll : Ty := .pr I (.pr I (.pr (.sl I) (.pr .bool (.pr .bool .un))))
def Ev : Env := { tys := [(3, I), (4, .bool), (22, .sl tA), (26, tErr), (29, .sl .bool), (31, tA), (35, .sl I), (63, tPoll)], errT := 61, eqs := [], els := [(22, 31), (29, 4), (35, 3)] }
theorem Ev_ok : EnvOk Try.prog Ev := EnvOk.of_list (by kernel_rfl) (by kernel_rfl) (by kernel_rfl)
def inB (n lo hi : Int) : Bool := decide (lo ≤ n) && decide (n ≤ hi)
def cWithin : Ctr := cdet [I, I, I] (fun _ _ _ => True) (fun a b c => [⟨.bool, inB a b c⟩])
/-- a poll -/
structure Pl where
  n : Int
  yes : Int
  ends : List Int
  dec : Bool
  res : Bool
def Pl.ob (p : Pl) : List Ob := [.st 63 [.d I p.n, .d I p.yes, .os 1, .d .bool p.dec, .d .bool p.res], .row 3 I p.ends]
def newP (n : Int) : Pl := ⟨n, 0, List.replicate n.toNat 0, false, false⟩
/-- what happens: what is refused, and the poll behind it -/
def doP (p : Pl) (a : Act3) : Int × Pl :=
  if (inB a.1 0 3 && inB a.2.2.1 0 1) = false then (1, p)
  else if a.1 = 1 then (if p.dec = true then (7, p) else (0, { p with dec := true, res := decide (p.yes = 2 ^ p.n.toNat - 1) }))
  else if inB a.2.1 0 (p.n - 1) = false then (1, p)
  else if a.1 = 0 then
    if p.ends.getD a.2.1.toNat 0 = 0 then
      if a.2.2.1 = 1 then (0, { p with yes := ((p.yes.toNat ||| (2 ^ a.2.1.toNat) : Nat) : Int), ends := p.ends.set a.2.1.toNat 1 })
      else (0, { p with ends := p.ends.set a.2.1.toNat 3 })
    else (7, p)
  else if a.1 = 2 then
    if p.dec = true then (0, { p with ends := p.ends.set a.2.1.toNat (if p.res = true then 2 else 3) }) else (5, p)
  else if p.ends.getD a.2.1.toNat 0 = 0 then (0, { p with ends := p.ends.set a.2.1.toNat 3 }) else (0, p)
def memP (p : Pl) (i : Int) : Int := if inB i 0 (p.n - 1) = true then p.ends.getD i.toNat 0 else -1
/-- of a poll that is one -/
def Pl.ok (p : Pl) : Prop := 1 ≤ p.n ∧ p.n ≤ 8 ∧ (p.ends.length : Int) = p.n ∧ 0 ≤ p.yes ∧ p.yes < 2 ^ p.n.toNat
/-- a contract over a poll -/
def onPoll (f : Pl → List SV → (SV → Pl → Prop) → Prop) : OCtr := fun args ob k =>
  match args, ob with
  | .ps 0 :: r, [.st 63 [.d (.int .i64) n, .d (.int .i64) y, .os 1, .d .bool dc, .d .bool rs], .row 3 (.int .i64) l] => f ⟨n, y, l, dc, rs⟩ r fun s p => k s p.ob
  | _, _ => False
def cNew : OCtr := fun args ob k =>
  match args, ob with
  | [.d (.int .i64) n], [] => (inB n 1 8 = true → k (.tp [.ps 0, .d tErr (0 : Int)]) (newP n).ob) ∧ (inB n 1 8 = false → k (.tp [.nilp, .d tErr (1 : Int)]) [])
  | _, _ => False
def cDo : OCtr := onPoll fun p r k => match r with
  | [.d (.pr (.int .i64) (.pr (.int .i64) (.pr (.int .i64) .un))) a] => p.ok ∧ ∀ e q, (e, q) = doP p a → k (.d tErr e) q
  | _ => False
def cMem : OCtr := onPoll fun p r k => match r with
  | [.d (.int .i64) i] => p.ok ∧ k (.d I (memP p i)) p
  | _ => False
def cStuck : OCtr := onPoll fun p r k => match r with
  | [] => p.ends = [1] ∧ p.dec = false ∧ k (.d I (1 : Int)) p
  | _ => False
def cFact : Ctr := cdet [] True [⟨.bool, true⟩]
/-- the poll that a state holds -/
def plOf (st : St) : Option Pl :=
  match st.ob.getD 0 .dead with
  | .st _ [.d (.int .i64) n, .d (.int .i64) y, .os i, .d .bool dc, .d .bool rs] => match st.ob.getD i .dead with
    | .row _ (.int .i64) l => some ⟨n, y, l, dc, rs⟩
    | _ => none
  | _ => none
def ysOf (st : St) : Option (List Bool) :=
  match st.ob.getD 2 .dead with
  | .row _ .bool l => some l
  | _ => none
def wsOf (st : St) : Option (List Int) :=
  match st.ob.getD 2 .dead with
  | .row _ (.int .i64) l => some l
  | _ => none
def anyB (l : List Int) (k : Nat) (v : Int) : Bool := (l.take k).any fun e => decide (e = v)
def allB (y : List Bool) (k : Nat) : Bool := (y.take k).all id
/-- what holds of a poll at all times -/
def Pl.inv (p : Pl) : Prop := p.ok ∧ ∀ k, k < p.n.toNat → (0 ≤ p.ends.getD k 0 ∧ p.ends.getD k 0 ≤ 3) ∧ (p.yes.toNat.testBit k = true → p.ends.getD k 0 ≠ 0) ∧
  (p.yes.toNat.testBit k = true → p.ends.getD k 0 = 3 → p.dec = true ∧ p.res = false) ∧ (p.ends.getD k 0 = 2 → p.dec = true ∧ p.res = true) ∧ (p.ends.getD k 0 = 1 → p.yes.toNat.testBit k = true) ∧
  (p.dec = true → p.res = true → p.yes.toNat.testBit k = true)
def linkY (p : Pl) (y : List Bool) : Prop := (y.length : Int) = p.n ∧ ∀ k, k < p.n.toNat → y.getD k false = p.yes.toNat.testBit k
def inAll (p : Pl) (y : List Bool) (x : Nat × Bool × Bool × Bool) : Prop := (x.1 : Int) ≤ p.n ∧ x.2.1 = anyB p.ends x.1 2 ∧ x.2.2.1 = anyB p.ends x.1 3 ∧ x.2.2.2 = allB y x.1
/-- who said yes behind what happened -/
def yesAfter (n : Int) (a : Act3) (e : Int) (y : List Bool) : List Bool := if e = 0 ∧ a.1 = 0 ∧ 0 ≤ a.2.1 ∧ a.2.1 < n then y.set a.2.1.toNat (decide (a.2.2.1 = 1)) else y
def anAll (n : Int) (l : List Act3) : Ann := [joinAll,
  loopAt 9 (Nat × Pl × List Bool) [] (fun st x => ⟨(St.at (St.only st [0, 1, 4, 6, 8]) [(9, .d I (x.1 : Int))]).tm, x.2.1.ob ++ [.row 4 .bool x.2.2], st.gs⟩) (fun _ x => x.1 ≤ l.length ∧ x.2.1.n = n ∧ x.2.1.inv ∧ linkY x.2.1 x.2.2) (fun x => l.length - x.1),
  meetAt 15 (List Bool) [] (fun st y => ⟨(St.only st [0, 1, 4, 6, 8, 9]).tm, st.ob.set 2 (.row 4 .bool y), st.gs⟩) (fun st y => match ysOf st, st.tm.getD 11 .any with
      | some y0, .d (.err _) e => y = yesAfter n (l.getD (st.i 9).toNat (0, 0, 0, ())) e y0
      | _, _ => False),
  loopAt 19 (Nat × Bool × Bool × Bool) [] (fun st x => St.at (St.only st [0, 1, 4, 6, 8, 9]) [(15, .d I (x.1 : Int)), (12, .d .bool x.2.1), (13, .d .bool x.2.2.1), (14, .d .bool x.2.2.2)])
    (fun st x => match plOf st, ysOf st with
      | some p, some y => inAll p y x
      | _, _ => False) (fun x => n.toNat - x.1)]
/-- how one went on -/
def stays (w e : Int) : Prop := (2 ≤ w → e = w) ∧ (w = 1 → e ≠ 0)
def inStays (p : Pl) (n : Int) (w0 : List Int) (x : Nat × List Int) : Prop := (x.1 : Int) ≤ n ∧ (x.2.length : Int) = n ∧ (∀ k, k < x.1 → x.2.getD k 0 = p.ends.getD k 0) ∧ ∀ k, x.1 ≤ k → x.2.getD k 0 = w0.getD k 0
def linkW (p : Pl) (w : List Int) : Prop := (w.length : Int) = p.n ∧ ∀ k, k < p.n.toNat → w.getD k 0 = p.ends.getD k 0
def anStays (n : Int) (l : List Act3) : Ann := [joinAll,
  loopAt 9 (Nat × Pl × List Int) [] (fun st x => ⟨(St.at (St.only st [0, 1, 4, 6, 8]) [(9, .d I (x.1 : Int))]).tm, x.2.1.ob ++ [.row 3 I x.2.2], st.gs⟩) (fun _ x => x.1 ≤ l.length ∧ x.2.1.n = n ∧ x.2.1.inv ∧ linkW x.2.1 x.2.2) (fun x => l.length - x.1),
  loopAt 13 (Nat × List Int) [] (fun st x => ⟨(St.at (St.only st [0, 1, 4, 6, 8, 9]) [(10, .d I (x.1 : Int))]).tm, st.ob.set 2 (.row 3 I x.2), st.gs⟩)
    (fun st x => match plOf st, wsOf st with
      | some p, some w => inStays p n w x
      | _, _ => False) (fun x => n.toNat - x.1)]
def anStuck : Ann := [joinAll, loopAt 3 Nat [] (fun st i => St.at st [(11, .d I (i : Int)), (3, .d I (i : Int)), (4, .any), (5, .any)]) (fun _ i => i ≤ 1) (fun i => 1 - i)]
abbrev X0 : Cx := ⟨Ev, [], [], [], []⟩
abbrev X1 : Cx := ⟨Ev, [(29, cWithin)], [], [], []⟩
abbrev X2 : Cx := ⟨Ev, [(29, cWithin)], [], [], [(11, cNew), (12, cDo), (13, cMem), (28, cStuck)]⟩
abbrev X3 : Cx := ⟨Ev, [(29, cWithin), (10, cFact)], [], [], [(11, cNew), (12, cDo), (13, cMem)]⟩
/-- a poll's objects where it begins -/
def pob (n y : Int) (l : List Int) (dc rs : Bool) : List Ob := [.st 63 [.d I n, .d I y, .os 1, .d .bool dc, .d .bool rs], .row 3 I l]
end Go.Proofs.Ytjgdpblaghhfhaa
