/- Traces: what the program's functions answer. -/
import Derived.Test.YtgbpjjinhjikeaaRows
import Derived.Test.YtgbpjjinhjikeaaVcQ
namespace Go.Proofs.Ytgbpjjinhjikeaa
open Go.Vc
abbrev I : Ty := .int .i64
abbrev tEv : Ty := .pr I (.pr I .un)
abbrev tTr : Ty := .pr I (.pr (.sl tEv) .un)
abbrev tErr : Ty := .err 71
abbrev Ev := Int × Int × Unit
abbrev Tr := Int × List Ev × Unit
def Et : Env := { tys := [(3, .int .i64), (4, .bool), (5, .int .u8), (9, .str), (22, .sl (.pr I (.pr I .un))), (24, .pr I (.pr (.sl (.pr I (.pr I .un))) .un)), (25, .sl I), (28, .err 71), (33, .pr I (.pr I .un)), (55, .ar 5 I)], errT := 71, eqs := [], els := [(22, 33), (25, 3)] }
theorem Et_ok : EnvOk Try.prog Et := EnvOk.of_list (by kernel_rfl) (by kernel_rfl) (by kernel_rfl)
def inB (n lo hi : Int) : Bool := decide (lo ≤ n) && decide (n ≤ hi)
def cWithin : Ctr := cdet [I, I, I] (fun _ _ _ => True) (fun a b c => [⟨.bool, inB a b c⟩])
def cPow2 : Ctr := cdet [I] (fun (n : Int) => n ≤ 61 ∧ True) (fun (n : Int) => [⟨I, (2 : Int) ^ n.toNat⟩])
def bitB (s i : Int) : Bool := decide (0 ≤ s) && s.toNat.testBit i.toNat
def cBit : Ctr := cdet [I, I] (fun _ _ => True) (fun s i => [⟨.bool, bitB s i⟩])
def subN : Nat → Nat → Int → Bool
  | 0, _, _ => true
  | f + 1, a, b => if a = 0 then true else if a % 2 = 1 ∧ b.tmod 2 = 0 then false else subN f (a / 2) (b.tdiv 2)
/-- are all things of the one set in the other one? -/
def subB (a b : Int) : Bool := subN a.toNat a.toNat b
def cSub : Ctr := cdet [I, I] (fun _ _ => True) (fun a b => [⟨.bool, subB a b⟩])
/-- what is wrong with an event -/
def evErr (p : Int) (l : List Ev) (i : Nat) : Int :=
  if (inB (l.getD i (0, 0, ())).1 0 (p - 1) && inB (l.getD i (0, 0, ())).2.1 (-1) ((i : Int) - 1)) = false then 1
  else if 0 ≤ (l.getD i (0, 0, ())).2.1 ∧ (l.getD (l.getD i (0, 0, ())).2.1.toNat (0, 0, ())).1 = (l.getD i (0, 0, ())).1 then 6 else 0
def evsErr (p : Int) (l : List Ev) : Nat → Nat → Int
  | 0, _ => 0
  | f + 1, i => if evErr p l i = 0 then evsErr p l f (i + 1) else evErr p l i
def chk (t : Tr) : Int := if inB t.1 1 5 = false then 1 else if 24 < t.2.1.length then 4 else evsErr t.1 t.2.1 t.2.1.length 0
def cCheck : Ctr := cdet [tTr] (fun _ => True) (fun t => [⟨tErr, chk t⟩])
-- the loops
def anPow2 (n : Int) : Ann := an1 Nat 3 (fun st i => St.at st [(3, .d I ((2 : Int) ^ i)), (4, .d I (i : Int))]) (fun i => i ≤ n.toNat ∧ True) (fun i => n.toNat - i)
def anBit (s i : Int) : Ann := an1 Nat 2 (fun st k => St.at st [(0, .d I (s.tdiv (2 ^ k))), (5, .d I (k : Int))]) (fun k => k ≤ i.toNat ∧ True) (fun k => i.toNat - k)
def anSub (a b : Int) : Ann := an1 (Int × Int) 1 (fun st x => St.at st [(0, .d I x.1), (1, .d I x.2)]) (fun x => subB a b = subB x.1 x.2 ∧ inK .i64 x.1 ∧ inK .i64 x.2) (fun x => x.1.toNat)
def anCheck (t : Tr) : Ann := an1 Nat 6 (fun st i => St.at st [(18, .d I (i : Int)), (3, .any), (4, .any)]) (fun i => chk t = evsErr t.1 t.2.1 (t.2.1.length - i) i ∧ i ≤ t.2.1.length) (fun i => t.2.1.length - i)
end Go.Proofs.Ytgbpjjinhjikeaa
