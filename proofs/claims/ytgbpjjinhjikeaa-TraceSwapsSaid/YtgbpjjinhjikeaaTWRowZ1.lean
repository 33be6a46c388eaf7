/- Own texts, merged: GI, GDef, GV, GOk, GOk2, GDef2, GV2, GOk3, GDef3, GV3, GOk4, GDef4, GM, SDef, SM, SV, SOk, WDef, WV, WLaw. -/
import Derived.Test.YtgbpjjinhjikeaaRows
import Derived.Test.YtgbpjjinhjikeaaVcQ
/- Integers, and the errors of this seat. -/
namespace Go.Proofs.Ytgbpjjinhjikeaa
open Go.Vc
abbrev I : Ty := .int .i64
abbrev tErr : Ty := .err 71
end Go.Proofs.Ytgbpjjinhjikeaa

/- Traces: what the program's functions answer. -/
namespace Go.Proofs.Ytgbpjjinhjikeaa
open Go.Vc
abbrev tEv : Ty := .pr I (.pr I .un)
abbrev tTr : Ty := .pr I (.pr (.sl tEv) .un)
abbrev Ev := Int × Int × Unit
abbrev Tr := Int × List Ev × Unit
def Et : Env := { tys := [(3, I), (4, .bool), (5, .int .u8), (22, .sl tEv), (24, tTr), (28, tErr), (25, .sl I), (33, tEv), (55, .ar 5 I), (48, .sl (.sl I))], errT := 71, eqs := [], els := [(22, 33), (25, 3), (48, 25)] }
def an1 (α : Type) (r : Nat) (st : St → α → St) (ok : α → Prop) (mu : α → Nat) : Ann := [loopAt r α [] st (fun _ => ok) mu]
theorem Et_ok : EnvOk Try.prog Et := EnvOk.of_list (by kernel_rfl) (by kernel_rfl) (by kernel_rfl)
def inB (n lo hi : Int) : Bool := decide (lo ≤ n) && decide (n ≤ hi)
def cWithin : Ctr := cdet [I, I, I] (fun _ _ _ => True) (fun a b c => [⟨.bool, inB a b c⟩])
def cPow2 : Ctr := cdet [I] (fun (n : Int) => n ≤ 61 ∧ True) (fun (n : Int) => [⟨I, (2 : Int) ^ n.toNat⟩])
def bitB (s i : Int) : Bool := decide (0 ≤ s) && s.toNat.testBit i.toNat
def cBit : Ctr := cdet [I, I] (fun _ _ => True) (fun s i => [⟨.bool, bitB s i⟩])
def subN : Nat → Nat → Int → Bool
  | 0, _, _ => true
  | f + 1, a, b => if a = 0 then true else if a % 2 = 1 ∧ b.tmod 2 = 0 then false else subN f (a / 2) (b.tdiv 2)
/-- are all things of the one set in the other one? -/
def subB (a b : Int) : Bool := subN a.toNat a.toNat b
def cSub : Ctr := cdet [I, I] (fun _ _ => True) (fun a b => [⟨.bool, subB a b⟩])
/-- what is wrong with an event -/
def evErr (p : Int) (l : List Ev) (i : Nat) : Int :=
  if (inB (l.getD i (0, 0, ())).1 0 (p - 1) && inB (l.getD i (0, 0, ())).2.1 (-1) ((i : Int) - 1)) = false then 1
  else if 0 ≤ (l.getD i (0, 0, ())).2.1 ∧ (l.getD (l.getD i (0, 0, ())).2.1.toNat (0, 0, ())).1 = (l.getD i (0, 0, ())).1 then 6 else 0
def evsErr (p : Int) (l : List Ev) : Nat → Nat → Int
  | 0, _ => 0
  | f + 1, i => if evErr p l i = 0 then evsErr p l f (i + 1) else evErr p l i
def chk (t : Tr) : Int := if inB t.1 1 5 = false then 1 else if 24 < t.2.1.length then 4 else evsErr t.1 t.2.1 t.2.1.length 0
def cCheck : Ctr := cdet [tTr] (fun _ => True) (fun t => [⟨tErr, chk t⟩])
-- the loops
def anPow2 (n : Int) : Ann := an1 Nat 3 (fun st i => St.at st [(3, .d I ((2 : Int) ^ i)), (4, .d I (i : Int))]) (fun i => i ≤ n.toNat ∧ True) (fun i => n.toNat - i)
def anBit (s i : Int) : Ann := an1 Nat 2 (fun st k => St.at st [(0, .d I (s.tdiv (2 ^ k))), (5, .d I (k : Int))]) (fun k => k ≤ i.toNat ∧ True) (fun k => i.toNat - k)
def anSub (a b : Int) : Ann := an1 (Int × Int) 1 (fun st x => St.at st [(0, .d I x.1), (1, .d I x.2)]) (fun x => subB a b = subB x.1 x.2 ∧ inK .i64 x.1 ∧ inK .i64 x.2) (fun x => x.1.toNat)
def anCheck (t : Tr) : Ann := an1 Nat 6 (fun st i => St.at st [(18, .d I (i : Int)), (3, .any), (4, .any)]) (fun i => chk t = evsErr t.1 t.2.1 (t.2.1.length - i) i ∧ i ≤ t.2.1.length) (fun i => t.2.1.length - i)
end Go.Proofs.Ytgbpjjinhjikeaa

/- What the functions of this seat have to satisfy, by program: each verification condition in plain words. -/
namespace Go.Proofs.Ytgbpjjinhjikeaa
open Go.Vc
set_option linter.unusedVariables false
theorem vcWithin (a b c : Int) (k : List Dat → Prop) : vcF ⟨Et, [], [], [], []⟩ [] (Try.f34.body.getD .skip) Try.f34.ntmps [(.tmp 6, .bool)] [⟨I, a⟩, ⟨I, b⟩, ⟨I, c⟩] k = (
  (decide (b ≤ a) = true → k [Dat.mk Ty.bool (decide (a ≤ c))]) ∧ (decide (b ≤ a) = false → k [Dat.mk Ty.bool false])) := by kernel_rfl
theorem vcPow2 (n : Int) (k : List Dat → Prop) : vcF ⟨Et, [], [], [], []⟩ (anPow2 n) (Try.f12.body.getD .skip) Try.f12.ntmps [(.tmp 2, I)] [⟨I, n⟩] k = (
  (∃ (x : Nat), (x ≤ n.toNat ∧ True) ∧ (n = n ∧ (0 : Int) = (0 : Int) ∧ (1 : Int) = (2 : Int) ^ x ∧ (0 : Int) = (↑x : Int) ∧ True) ∧ True ∧ True) ∧ ∀ (x : Nat), x ≤ n.toNat ∧ True → (decide ((↑x : Int) < n) = true → inK IntKind.i64 ((2 : Int) ^ x * (2 : Int)) ∧ inK IntKind.i64 ((↑x : Int) + (1 : Int)) ∧ ∃ (x_1 : Nat), (x_1 ≤ n.toNat ∧ True) ∧ n.toNat - x_1 < n.toNat - x ∧ (n = n ∧ (0 : Int) = (0 : Int) ∧ (2 : Int) ^ x * (2 : Int) = (2 : Int) ^ x_1 ∧ (↑x : Int) + (1 : Int) = (↑x_1 : Int) ∧ True) ∧ True ∧ True) ∧ (decide ((↑x : Int) < n) = false → k [Dat.mk (I) ((2 : Int) ^ x)])) := by kernel_rfl
theorem vcBit (s i : Int) (k : List Dat → Prop) : vcF ⟨Et, [], [], [], []⟩ (anBit s i) (Try.f13.body.getD .skip) Try.f13.ntmps [(.tmp 4, .bool)] [⟨I, s⟩, ⟨I, i⟩] k = (
  (∃ (x : Nat), (x ≤ i.toNat ∧ True) ∧ (s = s.tdiv ((2 : Int) ^ x) ∧ i = i ∧ false = false ∧ (0 : Int) = (↑x : Int) ∧ True) ∧ True ∧ True) ∧ ∀ (x : Nat), x ≤ i.toNat ∧ True → (decide ((↑x : Int) < i) = true → ((!decide (s.tdiv ((2 : Int) ^ x) = (0 : Int))) = true → (2 : Int) ≠ (0 : Int) ∧ inK IntKind.i64 ((s.tdiv ((2 : Int) ^ x)).tdiv (2 : Int)) ∧ inK IntKind.i64 ((↑x : Int) + (1 : Int)) ∧ ∃ (x_1 : Nat), (x_1 ≤ i.toNat ∧ True) ∧ i.toNat - x_1 < i.toNat - x ∧ ((s.tdiv ((2 : Int) ^ x)).tdiv (2 : Int) = s.tdiv ((2 : Int) ^ x_1) ∧ i = i ∧ false = false ∧ (↑x : Int) + (1 : Int) = (↑x_1 : Int) ∧ True) ∧ True ∧ True) ∧ ((!decide (s.tdiv ((2 : Int) ^ x) = (0 : Int))) = false → (2 : Int) ≠ (0 : Int) ∧ inK IntKind.i64 ((s.tdiv ((2 : Int) ^ x)).tmod (2 : Int)) ∧ k [Dat.mk Ty.bool (decide ((s.tdiv ((2 : Int) ^ x)).tmod (2 : Int) = (1 : Int)))])) ∧ (decide ((↑x : Int) < i) = false → (2 : Int) ≠ (0 : Int) ∧ inK IntKind.i64 ((s.tdiv ((2 : Int) ^ x)).tmod (2 : Int)) ∧ k [Dat.mk Ty.bool (decide ((s.tdiv ((2 : Int) ^ x)).tmod (2 : Int) = (1 : Int)))])) := by kernel_rfl
theorem vcSub (a b : Int) (k : List Dat → Prop) : vcF ⟨Et, [], [], [], []⟩ (anSub a b) (Try.f14.body.getD .skip) Try.f14.ntmps [(.tmp 4, .bool)] [⟨I, a⟩, ⟨I, b⟩] k = (
  (∃ (x : Int × Int), (subB a b = subB x.fst x.snd ∧ inK IntKind.i64 x.fst ∧ inK IntKind.i64 x.snd) ∧ (a = x.fst ∧ b = x.snd ∧ false = false ∧ True) ∧ True ∧ True) ∧ ∀ (x : Int × Int), subB a b = subB x.fst x.snd ∧ inK IntKind.i64 x.fst ∧ inK IntKind.i64 x.snd → (decide ((0 : Int) < x.fst) = true → (2 : Int) ≠ (0 : Int) ∧ inK IntKind.i64 (x.fst.tmod (2 : Int)) ∧ (decide (x.fst.tmod (2 : Int) = (1 : Int)) = true → (2 : Int) ≠ (0 : Int) ∧ inK IntKind.i64 (x.snd.tmod (2 : Int)) ∧ (decide (x.snd.tmod (2 : Int) = (0 : Int)) = true → k [Dat.mk Ty.bool false]) ∧ (decide (x.snd.tmod (2 : Int) = (0 : Int)) = false → (2 : Int) ≠ (0 : Int) ∧ inK IntKind.i64 (x.fst.tdiv (2 : Int)) ∧ (2 : Int) ≠ (0 : Int) ∧ inK IntKind.i64 (x.snd.tdiv (2 : Int)) ∧ ∃ (x_1 : Int × Int), (subB a b = subB x_1.fst x_1.snd ∧ inK IntKind.i64 x_1.fst ∧ inK IntKind.i64 x_1.snd) ∧ x_1.fst.toNat < x.fst.toNat ∧ (x.fst.tdiv (2 : Int) = x_1.fst ∧ x.snd.tdiv (2 : Int) = x_1.snd ∧ false = false ∧ True) ∧ True ∧ True)) ∧ (decide (x.fst.tmod (2 : Int) = (1 : Int)) = false → (2 : Int) ≠ (0 : Int) ∧ inK IntKind.i64 (x.fst.tdiv (2 : Int)) ∧ (2 : Int) ≠ (0 : Int) ∧ inK IntKind.i64 (x.snd.tdiv (2 : Int)) ∧ ∃ (x_1 : Int × Int), (subB a b = subB x_1.fst x_1.snd ∧ inK IntKind.i64 x_1.fst ∧ inK IntKind.i64 x_1.snd) ∧ x_1.fst.toNat < x.fst.toNat ∧ (x.fst.tdiv (2 : Int) = x_1.fst ∧ x.snd.tdiv (2 : Int) = x_1.snd ∧ false = false ∧ True) ∧ True ∧ True)) ∧ (decide ((0 : Int) < x.fst) = false → k [Dat.mk Ty.bool true])) := by kernel_rfl
theorem vcCheck (t : Tr) (k : List Dat → Prop) : vcF ⟨Et, [(34, cWithin)], [], [], []⟩ (anCheck t) (Try.f26.body.getD .skip) Try.f26.ntmps [(.tmp 2, tErr)] [⟨tTr, t⟩] k = (
  True ∧ ((!inB t.fst (1 : Int) (5 : Int)) = true → (1 : Int) ≠ (0 : Int) ∧ k [Dat.mk (Ty.err (71 : Nat)) (1 : Int)]) ∧ ((!inB t.fst (1 : Int) (5 : Int)) = false → (decide ((24 : Int) < (↑(List.length t.snd.fst) : Int)) = true → (4 : Int) ≠ (0 : Int) ∧ k [Dat.mk (Ty.err (71 : Nat)) (4 : Int)]) ∧ (decide ((24 : Int) < (↑(List.length t.snd.fst) : Int)) = false → (∃ (x : Nat), (chk t = evsErr t.fst t.snd.fst (t.snd.fst.length - x) x ∧ x ≤ t.snd.fst.length) ∧ (t = t ∧ ([] : List Nat) = [] ∧ (0 : Int) = (0 : Int) ∧ [] ++ [(0 : Nat)] = [] ++ [(0 : Nat)] ∧ t.fst = t.fst ∧ inB t.fst (1 : Int) (5 : Int) = inB t.fst (1 : Int) (5 : Int) ∧ (!inB t.fst (1 : Int) (5 : Int)) = !inB t.fst (1 : Int) (5 : Int) ∧ [] ++ [(1 : Nat)] = [] ++ [(1 : Nat)] ∧ t.snd.fst = t.snd.fst ∧ (↑(List.length t.snd.fst) : Int) = (↑(List.length t.snd.fst) : Int) ∧ decide ((24 : Int) < (↑(List.length t.snd.fst) : Int)) = decide ((24 : Int) < (↑(List.length t.snd.fst) : Int)) ∧ [] ++ [(1 : Nat)] = [] ++ [(1 : Nat)] ∧ t.snd.fst = t.snd.fst ∧ (↑(List.length t.snd.fst) : Int) = (↑(List.length t.snd.fst) : Int) ∧ (0 : Int) = (↑x : Int) ∧ True) ∧ (((24 : Nat) = (24 : Nat) ∧ t = t) ∧ True) ∧ True) ∧ ∀ (x : Nat), chk t = evsErr t.fst t.snd.fst (t.snd.fst.length - x) x ∧ x ≤ t.snd.fst.length → (decide ((↑x : Int) < (↑(List.length t.snd.fst) : Int)) = true → (0 : Int) ≤ (↑x : Int) ∧ (↑x : Int) < (↑(List.length t.snd.fst) : Int) ∧ inK IntKind.i64 (t.fst - (1 : Int)) ∧ True ∧ ((!inB (List.getD t.snd.fst (↑x : Int).toNat ((0 : Int), (0 : Int), ())).fst (0 : Int) (t.fst - (1 : Int))) = true → (1 : Int) ≠ (0 : Int) ∧ k [Dat.mk (Ty.err (71 : Nat)) (1 : Int)]) ∧ ((!inB (List.getD t.snd.fst (↑x : Int).toNat ((0 : Int), (0 : Int), ())).fst (0 : Int) (t.fst - (1 : Int))) = false → inK IntKind.i64 ((↑x : Int) - (1 : Int)) ∧ True ∧ ((!inB (List.getD t.snd.fst (↑x : Int).toNat ((0 : Int), (0 : Int), ())).snd.fst (-1 : Int) ((↑x : Int) - (1 : Int))) = true → (1 : Int) ≠ (0 : Int) ∧ k [Dat.mk (Ty.err (71 : Nat)) (1 : Int)]) ∧ ((!inB (List.getD t.snd.fst (↑x : Int).toNat ((0 : Int), (0 : Int), ())).snd.fst (-1 : Int) ((↑x : Int) - (1 : Int))) = false → (decide ((0 : Int) ≤ (List.getD t.snd.fst (↑x : Int).toNat ((0 : Int), (0 : Int), ())).snd.fst) = true → (0 : Int) ≤ (List.getD t.snd.fst (↑x : Int).toNat ((0 : Int), (0 : Int), ())).snd.fst ∧ (List.getD t.snd.fst (↑x : Int).toNat ((0 : Int), (0 : Int), ())).snd.fst < (↑(List.length t.snd.fst) : Int) ∧ (decide ((List.getD t.snd.fst (Int.toNat (List.getD t.snd.fst (↑x : Int).toNat ((0 : Int), (0 : Int), ())).snd.fst) ((0 : Int), (0 : Int), ())).fst = (List.getD t.snd.fst (↑x : Int).toNat ((0 : Int), (0 : Int), ())).fst) = true → (6 : Int) ≠ (0 : Int) ∧ k [Dat.mk (Ty.err (71 : Nat)) (6 : Int)]) ∧ (decide ((List.getD t.snd.fst (Int.toNat (List.getD t.snd.fst (↑x : Int).toNat ((0 : Int), (0 : Int), ())).snd.fst) ((0 : Int), (0 : Int), ())).fst = (List.getD t.snd.fst (↑x : Int).toNat ((0 : Int), (0 : Int), ())).fst) = false → inK IntKind.i64 ((↑x : Int) + (1 : Int)) ∧ ∃ (x_1 : Nat), (chk t = evsErr t.fst t.snd.fst (t.snd.fst.length - x_1) x_1 ∧ x_1 ≤ t.snd.fst.length) ∧ t.snd.fst.length - x_1 < t.snd.fst.length - x ∧ (t = t ∧ ([] : List Nat) = [] ∧ (0 : Int) = (0 : Int) ∧ [] ++ [(0 : Nat)] = [] ++ [(0 : Nat)] ∧ t.fst = t.fst ∧ inB t.fst (1 : Int) (5 : Int) = inB t.fst (1 : Int) (5 : Int) ∧ (!inB t.fst (1 : Int) (5 : Int)) = !inB t.fst (1 : Int) (5 : Int) ∧ [] ++ [(1 : Nat)] = [] ++ [(1 : Nat)] ∧ t.snd.fst = t.snd.fst ∧ (↑(List.length t.snd.fst) : Int) = (↑(List.length t.snd.fst) : Int) ∧ decide ((24 : Int) < (↑(List.length t.snd.fst) : Int)) = decide ((24 : Int) < (↑(List.length t.snd.fst) : Int)) ∧ [] ++ [(1 : Nat)] = [] ++ [(1 : Nat)] ∧ t.snd.fst = t.snd.fst ∧ (↑(List.length t.snd.fst) : Int) = (↑(List.length t.snd.fst) : Int) ∧ (↑x : Int) + (1 : Int) = (↑x_1 : Int) ∧ True) ∧ (((24 : Nat) = (24 : Nat) ∧ t = t) ∧ True) ∧ True)) ∧ (decide ((0 : Int) ≤ (List.getD t.snd.fst (↑x : Int).toNat ((0 : Int), (0 : Int), ())).snd.fst) = false → inK IntKind.i64 ((↑x : Int) + (1 : Int)) ∧ ∃ (x_1 : Nat), (chk t = evsErr t.fst t.snd.fst (t.snd.fst.length - x_1) x_1 ∧ x_1 ≤ t.snd.fst.length) ∧ t.snd.fst.length - x_1 < t.snd.fst.length - x ∧ (t = t ∧ ([] : List Nat) = [] ∧ (0 : Int) = (0 : Int) ∧ [] ++ [(0 : Nat)] = [] ++ [(0 : Nat)] ∧ t.fst = t.fst ∧ inB t.fst (1 : Int) (5 : Int) = inB t.fst (1 : Int) (5 : Int) ∧ (!inB t.fst (1 : Int) (5 : Int)) = !inB t.fst (1 : Int) (5 : Int) ∧ [] ++ [(1 : Nat)] = [] ++ [(1 : Nat)] ∧ t.snd.fst = t.snd.fst ∧ (↑(List.length t.snd.fst) : Int) = (↑(List.length t.snd.fst) : Int) ∧ decide ((24 : Int) < (↑(List.length t.snd.fst) : Int)) = decide ((24 : Int) < (↑(List.length t.snd.fst) : Int)) ∧ [] ++ [(1 : Nat)] = [] ++ [(1 : Nat)] ∧ t.snd.fst = t.snd.fst ∧ (↑(List.length t.snd.fst) : Int) = (↑(List.length t.snd.fst) : Int) ∧ (↑x : Int) + (1 : Int) = (↑x_1 : Int) ∧ True) ∧ (((24 : Nat) = (24 : Nat) ∧ t = t) ∧ True) ∧ True)))) ∧ (decide ((↑x : Int) < (↑(List.length t.snd.fst) : Int)) = false → k [Dat.mk (Ty.err (71 : Nat)) (0 : Int)])))) := by kernel_rfl
end Go.Proofs.Ytgbpjjinhjikeaa

/- Traces: the small functions keep their contracts. -/
namespace Go.Proofs.Ytgbpjjinhjikeaa
open Go.Vc

theorem mixed : Try.prog.follows .mixedOrders = true := by kernel_rfl

theorem okWithin : PlainOk Try.prog [] 34 cWithin := by
  refine plain_of (CxOk.mk' Et_ok rfl mixed (gl := []) GOk.nil GoOk.nil noIt) Try.func34 (c := Try.f34.body.getD .skip) (rvs := [(.tmp 6, .bool)]) (by kernel_rfl) (by kernel_rfl) (by kernel_rfl) ?_
  intro ds k ⟨hp, hk⟩ hwf
  obtain ⟨a, b, c, rfl, -⟩ := dest3 hp
  have hk : k [⟨.bool, inB a b c⟩] := hk
  refine ⟨[], ?_⟩
  rw [vcWithin]
  unfold inB at hk
  refine ⟨fun h => ?_, fun h => ?_⟩ <;> simpa [h] using hk

theorem two_pow_le {n : Nat} (h : n ≤ 62) : (2 : Int) ^ n ≤ 4611686018427387904 := by
  have : 2 ^ n ≤ 2 ^ 62 := Nat.pow_le_pow_right (by decide) h
  have h2 : ((2 ^ n : Nat) : Int) ≤ ((2 ^ 62 : Nat) : Int) := Int.ofNat_le.2 this
  rw [Int.natCast_pow] at h2
  exact h2
theorem two_pow_pos (n : Nat) : (0 : Int) < (2 : Int) ^ n := Int.pow_pos (by decide)

theorem okPow2 : PlainOk Try.prog [] 12 cPow2 := by
  refine plain_of (CxOk.mk' Et_ok rfl mixed (gl := []) GOk.nil GoOk.nil noIt) Try.func12 (c := Try.f12.body.getD .skip) (rvs := [(.tmp 2, I)]) (by kernel_rfl) (by kernel_rfl) (by kernel_rfl) ?_
  intro ds k ⟨hp, hk⟩ hwf
  obtain ⟨n, rfl, hn, -⟩ := dest1 hp
  have hk : k [⟨I, (2 : Int) ^ n.toNat⟩] := hk
  refine ⟨anPow2 n, ?_⟩
  rw [vcPow2]
  simp only [decide_eq_true_eq, decide_eq_false_iff_not, inK_i64, and_true, true_and]
  refine ⟨⟨0, by omega, rfl, rfl⟩, fun x hx => ⟨fun h => ?_, fun h => ?_⟩⟩
  · have h1 := two_pow_le (n := x + 1) (by omega)
    have h2 := two_pow_pos (x + 1)
    rw [Int.pow_succ] at h1 h2
    refine ⟨by omega, by omega, x + 1, by omega, by omega, by rw [Int.pow_succ], by omega⟩
  · have : x = n.toNat := by omega
    rw [this]; exact hk

theorem tdivN (n x : Nat) : (n : Int).tdiv ((2 : Int) ^ x) = ((n / 2 ^ x : Nat) : Int) := by
  rw [show (2 : Int) ^ x = ((2 ^ x : Nat) : Int) by rw [Int.natCast_pow]; rfl, ← Int.ofNat_tdiv]
theorem tdiv_pow (s : Int) (x : Nat) : (s.tdiv ((2 : Int) ^ x)).tdiv 2 = s.tdiv ((2 : Int) ^ (x + 1)) := by
  have key : ∀ n : Nat, ((n : Int).tdiv ((2 : Int) ^ x)).tdiv 2 = (n : Int).tdiv ((2 : Int) ^ (x + 1)) := by
    intro n
    rw [tdivN, tdivN, Nat.pow_succ, ← Nat.div_div_eq_div_mul]
    have := tdivN (n / 2 ^ x) 1
    simpa using this
  rcases Int.le_total 0 s with h | h
  · obtain ⟨n, rfl⟩ := Int.eq_ofNat_of_zero_le h
    exact key n
  · obtain ⟨n, hn⟩ := Int.eq_ofNat_of_zero_le (show 0 ≤ -s by omega)
    have e : s = -(n : Int) := by omega
    rw [e, Int.neg_tdiv, Int.neg_tdiv, Int.neg_tdiv, key]

theorem bit_of {s : Int} {x : Nat} : decide ((s.tdiv ((2 : Int) ^ x)).tmod 2 = 1) = bitB s x := by
  unfold bitB
  by_cases h : 0 ≤ s
  · obtain ⟨n, rfl⟩ := Int.eq_ofNat_of_zero_le h
    have e : ((n : Int).tdiv ((2 : Int) ^ x)).tmod 2 = ((n / 2 ^ x % 2 : Nat) : Int) := by
      rw [show (2 : Int) ^ x = ((2 ^ x : Nat) : Int) by rw [Int.natCast_pow]; rfl, ← Int.ofNat_tdiv]
      exact (Int.ofNat_tmod _ 2).symm
    rw [e]
    simp only [h, decide_true, Bool.true_and, Int.toNat_natCast]
    rw [Nat.testBit_eq_decide_div_mod_eq]
    apply decide_eq_decide.2
    exact ⟨fun h => by exact_mod_cast h, fun h => by exact_mod_cast h⟩
  · have hd : decide (0 ≤ s) = false := by simpa using h
    rw [hd, Bool.false_and]
    have hle : s.tdiv ((2 : Int) ^ x) ≤ 0 := by
      have := Int.tdiv_nonneg (a := -s) (b := (2 : Int) ^ x) (by omega) (Int.le_of_lt (two_pow_pos x))
      rw [Int.neg_tdiv] at this; omega
    simp only [decide_eq_false_iff_not]
    intro hc
    have h2 := Int.tmod_nonneg (a := -(s.tdiv ((2 : Int) ^ x))) 2 (by omega)
    rw [Int.neg_tmod] at h2
    omega

theorem tdiv_in {s : Int} (h : inK .i64 s) (x : Nat) : inK .i64 (s.tdiv ((2 : Int) ^ x)) ∧ inK .i64 ((s.tdiv ((2 : Int) ^ x)).tmod 2) := by
  rw [inK_i64] at h
  have key : ∀ n : Nat, ((n : Int).tdiv ((2 : Int) ^ x)) ≤ n ∧ 0 ≤ ((n : Int).tdiv ((2 : Int) ^ x)) := by
    intro n
    rw [tdivN]
    have h := Nat.div_le_self n (2 ^ x)
    generalize n / 2 ^ x = q at h
    omega
  have hb : -9223372036854775808 ≤ s.tdiv ((2 : Int) ^ x) ∧ s.tdiv ((2 : Int) ^ x) ≤ 9223372036854775807 := by
    rcases Int.le_total 0 s with h0 | h0
    · obtain ⟨n, rfl⟩ := Int.eq_ofNat_of_zero_le h0
      have := key n; omega
    · obtain ⟨n, hn⟩ := Int.eq_ofNat_of_zero_le (show 0 ≤ -s by omega)
      have e : s = -(n : Int) := by omega
      have := key n
      rw [e, Int.neg_tdiv]; omega
  refine ⟨inK_i64.2 hb, inK_i64.2 ?_⟩
  generalize s.tdiv ((2 : Int) ^ x) = q at hb
  have := Int.tmod_two_eq q
  omega

theorem okBit : PlainOk Try.prog [] 13 cBit := by
  refine plain_of (CxOk.mk' Et_ok rfl mixed (gl := []) GOk.nil GoOk.nil noIt) Try.func13 (c := Try.f13.body.getD .skip) (rvs := [(.tmp 4, .bool)]) (by kernel_rfl) (by kernel_rfl) (by kernel_rfl) ?_
  intro ds k ⟨hp, hk⟩ hwf
  obtain ⟨s, i, rfl, -⟩ := dest2 hp
  have hk : k [⟨.bool, bitB s i⟩] := hk
  have hs : inK .i64 s := (wf2 hwf).1
  have hi := inK_i64.1 ((wf2 hwf).2 : inK .i64 i)
  refine ⟨anBit s i, ?_⟩
  rw [vcBit]
  simp only [decide_eq_true_eq, decide_eq_false_iff_not, and_true, true_and, Bool.not_eq_true', Bool.not_eq_false', ne_eq]
  have ret : ∀ x : Nat, bitB s x = bitB s i → k [⟨.bool, decide ((s.tdiv ((2 : Int) ^ x)).tmod 2 = 1)⟩] := by
    intro x hx; rw [bit_of, hx]; exact hk
  refine ⟨⟨0, by omega, by simp, rfl⟩, fun x hx => ⟨fun h => ⟨fun h0 => ⟨by decide, ?_, by rw [inK_i64]; omega, x + 1, by omega, by omega, tdiv_pow s x, by omega⟩, fun h0 => ⟨by decide, (tdiv_in hs x).2, ret x ?_⟩⟩, fun h => ⟨by decide, (tdiv_in hs x).2, ret x ?_⟩⟩⟩
  · rw [tdiv_pow]; exact (tdiv_in hs (x + 1)).1
  · unfold bitB
    by_cases hs0 : 0 ≤ s
    · obtain ⟨n, hn⟩ := Int.eq_ofNat_of_zero_le hs0
      rw [hn, tdivN] at h0
      have h0' : n / 2 ^ x = 0 := by exact_mod_cast h0
      have hlt : n < 2 ^ x := by
        rcases Nat.lt_or_ge n (2 ^ x) with h | h
        · exact h
        · have := Nat.div_pos h (Nat.two_pow_pos x); omega
      have hf : ∀ j, x ≤ j → n.testBit j = false := fun j hj => Nat.testBit_lt_two_pow (Nat.lt_of_lt_of_le hlt (Nat.pow_le_pow_right (by decide) hj))
      have e1 : s.toNat = n := by rw [hn]; rfl
      rw [e1, hf _ (by rw [Int.toNat_natCast]; exact Nat.le_refl _), hf _ (by omega)]
    · have : decide (0 ≤ s) = false := by simpa using hs0
      rw [this]; rfl
  · have : (x : Int).toNat = i.toNat := by omega
    unfold bitB; rw [this]
end Go.Proofs.Ytgbpjjinhjikeaa

/- Traces: sets in sets; what is wrong with a trace. -/
namespace Go.Proofs.Ytgbpjjinhjikeaa
open Go.Vc

theorem subN_fuel : ∀ (f g a : Nat) (b : Int), a ≤ f → a ≤ g → subN f a b = subN g a b := by
  intro f
  induction f with
  | zero =>
    intro g a b h1 h2
    have : a = 0 := by omega
    subst this
    cases g <;> simp [subN]
  | succ f ih =>
    intro g a b h1 h2
    cases g with
    | zero =>
      have : a = 0 := by omega
      subst this
      simp [subN]
    | succ g =>
      unfold subN
      by_cases h : a = 0
      · simp [h]
      · rw [if_neg h, if_neg h, ih g (a / 2) (b.tdiv 2) (by omega) (by omega)]

theorem subB_pos {a b : Int} (h : 0 < a) : subB a b = if a.tmod 2 = 1 ∧ b.tmod 2 = 0 then false else subB (a.tdiv 2) (b.tdiv 2) := by
  obtain ⟨n, rfl⟩ := Int.eq_ofNat_of_zero_le (Int.le_of_lt h)
  have hn : 0 < n := by omega
  have e1 : ((n : Int).tdiv 2) = ((n / 2 : Nat) : Int) := by simp
  have e2 : ((n : Int).tmod 2 = 1) ↔ n % 2 = 1 := by
    have : (n : Int).tmod 2 = ((n % 2 : Nat) : Int) := (Int.ofNat_tmod n 2).symm
    rw [this]; omega
  rw [e1]
  unfold subB
  simp only [Int.toNat_natCast, e2]
  obtain ⟨m, rfl⟩ : ∃ m, n = m + 1 := ⟨n - 1, by omega⟩
  rw [subN, if_neg (by omega)]
  rw [subN_fuel m ((m + 1) / 2) ((m + 1) / 2) _ (by omega) (Nat.le_refl _)]

theorem subB_neg {a b : Int} (h : ¬ 0 < a) : subB a b = true := by
  unfold subB
  have : a.toNat = 0 := by omega
  rw [this]; rfl

theorem half_in {q : Int} (h : inK .i64 q) : inK .i64 (q.tmod 2) ∧ inK .i64 (q.tdiv 2) := by
  have h1 := tdiv_in h 0
  have h2 := tdiv_in h 1
  simp only [Int.pow_zero, Int.tdiv_one] at h1
  rw [Int.pow_succ, Int.pow_zero, Int.one_mul] at h2
  exact ⟨h1.2, h2.1⟩

theorem okSub : PlainOk Try.prog [] 14 cSub := by
  refine plain_of (CxOk.mk' Et_ok rfl mixed (gl := []) GOk.nil GoOk.nil noIt) Try.func14 (c := Try.f14.body.getD .skip) (rvs := [(.tmp 4, .bool)]) (by kernel_rfl) (by kernel_rfl) (by kernel_rfl) ?_
  intro ds k ⟨hp, hk⟩ hwf
  obtain ⟨a, b, rfl, -⟩ := dest2 hp
  have hk : k [⟨.bool, subB a b⟩] := hk
  have ha : inK .i64 a := (wf2 hwf).1
  have hb : inK .i64 b := (wf2 hwf).2
  refine ⟨anSub a b, ?_⟩
  rw [vcSub]
  simp only [decide_eq_true_eq, decide_eq_false_iff_not, and_true, true_and, ne_eq]
  have ret : ∀ x : Bool, subB a b = x → k [⟨.bool, x⟩] := by rintro _ rfl; exact hk
  have h20 : ¬ (2 : Int) = 0 := by decide
  refine ⟨⟨(a, b), ⟨rfl, ha, hb⟩, rfl, rfl⟩, fun x ⟨h1, h2, h3⟩ => ⟨fun h => ?_, fun h => ret _ (by rw [h1, subB_neg h])⟩⟩
  have hst := subB_pos (b := x.2) h
  have hlt : (x.1.tdiv 2).toNat < x.1.toNat := by
    obtain ⟨n, hn⟩ := Int.eq_ofNat_of_zero_le (Int.le_of_lt h)
    have e1 : (x.1.tdiv 2) = ((n / 2 : Nat) : Int) := by rw [hn]; simp
    rw [e1]; omega
  refine ⟨h20, (half_in h2).1, fun h4 => ⟨h20, (half_in h3).1, fun h5 => ret _ (by rw [h1, hst, if_pos ⟨h4, h5⟩]), fun h5 => ⟨h20, (half_in h2).2, h20, (half_in h3).2, (x.1.tdiv 2, x.2.tdiv 2), ⟨by rw [h1, hst, if_neg (fun h => h5 h.2)], (half_in h2).2, (half_in h3).2⟩, hlt, rfl, rfl⟩⟩,
    fun h4 => ⟨h20, (half_in h2).2, h20, (half_in h3).2, (x.1.tdiv 2, x.2.tdiv 2), ⟨by rw [h1, hst, if_neg (fun h => h4 h.1)], (half_in h2).2, (half_in h3).2⟩, hlt, rfl, rfl⟩⟩

theorem okCheck : PlainOk Try.prog [] 26 cCheck := by
  refine plain_of (CxOk.mk' Et_ok rfl mixed (gl := []) (GOk.cons okWithin Try.func34 (by kernel_rfl) (by kernel_rfl) GOk.nil) GoOk.nil noIt) Try.func26 (c := Try.f26.body.getD .skip) (rvs := [(.tmp 2, tErr)]) (by kernel_rfl) (by kernel_rfl) (by kernel_rfl) ?_
  intro ds k ⟨hp, hk⟩ hwf
  obtain ⟨t, rfl, -⟩ := dest1 hp
  revert hk hwf
  revert t
  intro (t : Tr) _ hk hwf
  have hk : k [⟨tErr, chk t⟩] := hk
  have ht : inK .i64 t.1 := (wf1 hwf).1
  refine ⟨anCheck t, ?_⟩
  rw [vcCheck]
  have ret : ∀ x : Int, chk t = x → k [⟨tErr, x⟩] := by rintro _ rfl; exact hk
  simp only [decide_eq_true_eq, decide_eq_false_iff_not, and_true, true_and, ne_eq, Bool.not_eq_true', Bool.not_eq_false', Int.toNat_natCast]
  have h10 : ¬ (1 : Int) = 0 := by decide
  have h40 : ¬ (4 : Int) = 0 := by decide
  have h60 : ¬ (6 : Int) = 0 := by decide
  refine ⟨fun h => ⟨h10, ret _ (by unfold chk; rw [if_pos h])⟩, fun h => ⟨fun g => ⟨h40, ret _ (by unfold chk; rw [if_neg (by rw [h]; decide), if_pos (by omega)])⟩, fun g => ?_⟩⟩
  have hp : 1 ≤ t.1 ∧ t.1 ≤ 5 := by simpa [inB] using h
  have hlen : t.2.1.length ≤ 24 := by omega
  have hc0 : chk t = evsErr t.1 t.2.1 t.2.1.length 0 := by
    unfold chk; rw [if_neg (by rw [h]; decide), if_neg (by omega)]
  have hstep : ∀ x, x < t.2.1.length → evsErr t.1 t.2.1 (t.2.1.length - x) x = if evErr t.1 t.2.1 x = 0 then evsErr t.1 t.2.1 (t.2.1.length - (x + 1)) (x + 1) else evErr t.1 t.2.1 x := by
    intro x hx
    rw [show t.2.1.length - x = (t.2.1.length - (x + 1)) + 1 by omega]
    rfl
  refine ⟨⟨0, ⟨hc0, Nat.zero_le _⟩, rfl⟩, fun x ⟨hx, hxl⟩ => ⟨fun hlt => ?_, fun hge => ret _ ?_⟩⟩
  · have hst := hstep x (by omega)
    have bad : ∀ n, evErr t.1 t.2.1 x = n → n ≠ 0 → k [⟨tErr, n⟩] := fun n h1 h2 => ret n (by rw [hx, hst, if_neg (by rw [h1]; exact h2), h1])
    have good : evErr t.1 t.2.1 x = 0 → inK IntKind.i64 ((x : Int) + 1) ∧ ∃ x', (chk t = evsErr t.1 t.2.1 (t.2.1.length - x') x' ∧ x' ≤ t.2.1.length) ∧ t.2.1.length - x' < t.2.1.length - x ∧ (x : Int) + 1 = (x' : Int) := fun h1 =>
      ⟨inK_i64.2 (by omega), x + 1, ⟨by rw [hx, hst, if_pos h1], by omega⟩, by omega, by omega⟩
    refine ⟨by omega, hlt, inK_i64.2 (by omega), fun h1 => ⟨h10, bad 1 ?_ h10⟩, fun h1 => ⟨inK_i64.2 (by omega), fun h2 => ⟨h10, bad 1 ?_ h10⟩, fun h2 => ⟨fun h3 => ⟨h3, ?_, fun h4 => ⟨h60, bad 6 ?_ h60⟩, fun h4 => good ?_⟩, fun h3 => good ?_⟩⟩⟩
    · unfold evErr; rw [if_pos (by rw [h1]; rfl)]
    · unfold evErr; rw [if_pos (by rw [h1, h2]; rfl)]
    · have : (t.2.1.getD x (0, 0, ())).2.1 ≤ (x : Int) - 1 := by
        simp only [inB, Bool.and_eq_true, decide_eq_true_eq] at h2; exact h2.2
      omega
    · unfold evErr; rw [if_neg (by rw [h1, h2]; decide), if_pos ⟨h3, h4⟩]
    · unfold evErr; rw [if_neg (by rw [h1, h2]; decide), if_neg (fun h => h4 h.2)]
    · unfold evErr; rw [if_neg (by rw [h1, h2]; decide), if_neg (fun h => h3 h.1)]
  · have : x = t.2.1.length := by omega
    rw [hx, this, Nat.sub_self]; rfl
end Go.Proofs.Ytgbpjjinhjikeaa

/- Traces: what happened before what. -/
namespace Go.Proofs.Ytgbpjjinhjikeaa
open Go.Vc
def bst (l : List Ev) : Nat → List Nat × List Nat
  | 0 => (List.replicate l.length 0, List.replicate 5 0)
  | i + 1 =>
    ((bst l i).1.set i (if 0 ≤ (l.getD i (0, 0, ())).2.1 then (bst l i).2.getD (l.getD i (0, 0, ())).1.toNat 0 ||| ((bst l i).1.getD (l.getD i (0, 0, ())).2.1.toNat 0 ||| 2 ^ (l.getD i (0, 0, ())).2.1.toNat) else (bst l i).2.getD (l.getD i (0, 0, ())).1.toNat 0),
     (bst l i).2.set (l.getD i (0, 0, ())).1.toNat ((if 0 ≤ (l.getD i (0, 0, ())).2.1 then (bst l i).2.getD (l.getD i (0, 0, ())).1.toNat 0 ||| ((bst l i).1.getD (l.getD i (0, 0, ())).2.1.toNat 0 ||| 2 ^ (l.getD i (0, 0, ())).2.1.toNat) else (bst l i).2.getD (l.getD i (0, 0, ())).1.toNat 0) ||| 2 ^ i))
def ints (l : List Nat) : List Int := l.map fun (n : Nat) => (n : Int)
/-- of each event all that happened before it -/
def befN (t : Tr) : List Nat := (bst t.2.1 t.2.1.length).1
def bef (t : Tr) : List Int := if chk t = 0 then ints (befN t) else []
def cBefore : Ctr := cdet [tTr] (fun _ => True) (fun t => [⟨.sl I, bef t⟩, ⟨tErr, chk t⟩])
def anBefore (t : Tr) : Ann := an1 Nat 7 (fun st i => { St.at st [(21, .d I (i : Int)), (7, .any), (8, .any)] with ob := (st.ob.set 1 (.row 3 I (ints (bst t.2.1 i).1))).set 2 (.var 55 (.ar 5 I) (ints (bst t.2.1 i).2)) }) (fun i => i ≤ t.2.1.length ∧ chk t = 0) (fun i => t.2.1.length - i)
end Go.Proofs.Ytgbpjjinhjikeaa

/- What the functions of this seat have to satisfy, by program: each verification condition in plain words. -/
namespace Go.Proofs.Ytgbpjjinhjikeaa
open Go.Vc
set_option linter.unusedVariables false
theorem vcBefore (t : Tr) (k : List Dat → Prop) : vcF ⟨Et, [(26, cCheck)], [], [], []⟩ (anBefore t) (Try.f11.body.getD .skip) Try.f11.ntmps [(.tmp 2, .sl I), (.tmp 3, tErr)] [⟨tTr, t⟩] k = (
  True ∧ ((!decide (chk t = (0 : Int))) = true → k [Dat.mk (I).sl [], Dat.mk (Ty.err (71 : Nat)) (chk t)]) ∧ ((!decide (chk t = (0 : Int))) = false → (0 : Int) ≤ (↑(List.length t.snd.fst) : Int) ∧ (↑(List.length t.snd.fst) : Int) ≤ (↑(List.length t.snd.fst) : Int) ∧ (↑(List.length t.snd.fst) : Int) ≤ (1000000000 : Int) ∧ (∃ (x : Nat), (x ≤ t.snd.fst.length ∧ chk t = (0 : Int)) ∧ (t = t ∧ ([] : List Nat) = [] ∧ True ∧ (0 : Int) = (0 : Int) ∧ chk t = chk t ∧ True ∧ ([] : List Nat) = [] ∧ t = t ∧ chk t = chk t ∧ chk t = chk t ∧ (!decide (chk t = (0 : Int))) = !decide (chk t = (0 : Int)) ∧ [] ++ [(1 : Nat)] = [] ++ [(1 : Nat)] ∧ t.snd.fst = t.snd.fst ∧ (↑(List.length t.snd.fst) : Int) = (↑(List.length t.snd.fst) : Int) ∧ True ∧ [] ++ [(1 : Nat)] = [] ++ [(1 : Nat)] ∧ t.snd.fst = t.snd.fst ∧ (↑(List.length t.snd.fst) : Int) = (↑(List.length t.snd.fst) : Int) ∧ (0 : Int) = (↑x : Int) ∧ True) ∧ (((24 : Nat) = (24 : Nat) ∧ t = t) ∧ ((3 : Nat) = (3 : Nat) ∧ List.replicate (↑(List.length t.snd.fst) : Int).toNat (0 : Int) = ints (bst t.snd.fst x).fst) ∧ ((55 : Nat) = (55 : Nat) ∧ List.replicate (5 : Nat) (0 : Int) = ints (bst t.snd.fst x).snd) ∧ True) ∧ True) ∧ ∀ (x : Nat), x ≤ t.snd.fst.length ∧ chk t = (0 : Int) → (decide ((↑x : Int) < (↑(List.length t.snd.fst) : Int)) = true → (0 : Int) ≤ (↑x : Int) ∧ (↑x : Int) < (↑(List.length t.snd.fst) : Int) ∧ (0 : Int) ≤ (List.getD t.snd.fst (↑x : Int).toNat ((0 : Int), (0 : Int), ())).fst ∧ (List.getD t.snd.fst (↑x : Int).toNat ((0 : Int), (0 : Int), ())).fst < (↑(5 : Nat) : Int) ∧ (0 : Int) ≤ (↑x : Int) ∧ (↑x : Int) < (↑(ints (bst t.snd.fst x).fst).length : Int) ∧ (decide ((0 : Int) ≤ (List.getD t.snd.fst (↑x : Int).toNat ((0 : Int), (0 : Int), ())).snd.fst) = true → (0 : Int) ≤ (↑x : Int) ∧ (↑x : Int) < (↑((ints (bst t.snd.fst x).fst).set (↑x : Int).toNat ((ints (bst t.snd.fst x).snd).getD (Int.toNat (List.getD t.snd.fst (↑x : Int).toNat ((0 : Int), (0 : Int), ())).fst) (0 : Int))).length : Int) ∧ (0 : Int) ≤ (List.getD t.snd.fst (↑x : Int).toNat ((0 : Int), (0 : Int), ())).snd.fst ∧ (List.getD t.snd.fst (↑x : Int).toNat ((0 : Int), (0 : Int), ())).snd.fst < (↑((ints (bst t.snd.fst x).fst).set (↑x : Int).toNat ((ints (bst t.snd.fst x).snd).getD (Int.toNat (List.getD t.snd.fst (↑x : Int).toNat ((0 : Int), (0 : Int), ())).fst) (0 : Int))).length : Int) ∧ (0 : Int) ≤ (List.getD t.snd.fst (↑x : Int).toNat ((0 : Int), (0 : Int), ())).snd.fst ∧ (List.getD t.snd.fst (↑x : Int).toNat ((0 : Int), (0 : Int), ())).snd.fst < (64 : Int) ∧ IntKind.i64.bits = (64 : Nat) ∧ inK IntKind.i64 ((1 : Int) * (2 : Int) ^ Int.toNat (List.getD t.snd.fst (↑x : Int).toNat ((0 : Int), (0 : Int), ())).snd.fst) ∧ (0 : Int) ≤ ((ints (bst t.snd.fst x).fst).set (↑x : Int).toNat ((ints (bst t.snd.fst x).snd).getD (Int.toNat (List.getD t.snd.fst (↑x : Int).toNat ((0 : Int), (0 : Int), ())).fst) (0 : Int))).getD (Int.toNat (List.getD t.snd.fst (↑x : Int).toNat ((0 : Int), (0 : Int), ())).snd.fst) (0 : Int) ∧ (0 : Int) ≤ (1 : Int) * (2 : Int) ^ Int.toNat (List.getD t.snd.fst (↑x : Int).toNat ((0 : Int), (0 : Int), ())).snd.fst ∧ (0 : Int) ≤ ((ints (bst t.snd.fst x).fst).set (↑x : Int).toNat ((ints (bst t.snd.fst x).snd).getD (Int.toNat (List.getD t.snd.fst (↑x : Int).toNat ((0 : Int), (0 : Int), ())).fst) (0 : Int))).getD (↑x : Int).toNat (0 : Int) ∧ (0 : Int) ≤ (↑((((ints (bst t.snd.fst x).fst).set (↑x : Int).toNat ((ints (bst t.snd.fst x).snd).getD (Int.toNat (List.getD t.snd.fst (↑x : Int).toNat ((0 : Int), (0 : Int), ())).fst) (0 : Int))).getD (Int.toNat (List.getD t.snd.fst (↑x : Int).toNat ((0 : Int), (0 : Int), ())).snd.fst) (0 : Int)).toNat ||| ((1 : Int) * (2 : Int) ^ Int.toNat (List.getD t.snd.fst (↑x : Int).toNat ((0 : Int), (0 : Int), ())).snd.fst).toNat) : Int) ∧ (0 : Int) ≤ (↑x : Int) ∧ (↑x : Int) < (↑((ints (bst t.snd.fst x).fst).set (↑x : Int).toNat ((ints (bst t.snd.fst x).snd).getD (Int.toNat (List.getD t.snd.fst (↑x : Int).toNat ((0 : Int), (0 : Int), ())).fst) (0 : Int))).length : Int) ∧ (0 : Int) ≤ (↑x : Int) ∧ (↑x : Int) < (↑(((ints (bst t.snd.fst x).fst).set (↑x : Int).toNat ((ints (bst t.snd.fst x).snd).getD (Int.toNat (List.getD t.snd.fst (↑x : Int).toNat ((0 : Int), (0 : Int), ())).fst) (0 : Int))).set (↑x : Int).toNat (↑((((ints (bst t.snd.fst x).fst).set (↑x : Int).toNat ((ints (bst t.snd.fst x).snd).getD (Int.toNat (List.getD t.snd.fst (↑x : Int).toNat ((0 : Int), (0 : Int), ())).fst) (0 : Int))).getD (↑x : Int).toNat (0 : Int)).toNat ||| (↑((((ints (bst t.snd.fst x).fst).set (↑x : Int).toNat ((ints (bst t.snd.fst x).snd).getD (Int.toNat (List.getD t.snd.fst (↑x : Int).toNat ((0 : Int), (0 : Int), ())).fst) (0 : Int))).getD (Int.toNat (List.getD t.snd.fst (↑x : Int).toNat ((0 : Int), (0 : Int), ())).snd.fst) (0 : Int)).toNat ||| ((1 : Int) * (2 : Int) ^ Int.toNat (List.getD t.snd.fst (↑x : Int).toNat ((0 : Int), (0 : Int), ())).snd.fst).toNat) : Int).toNat) : Int)).length : Int) ∧ (0 : Int) ≤ (↑x : Int) ∧ (↑x : Int) < (64 : Int) ∧ IntKind.i64.bits = (64 : Nat) ∧ inK IntKind.i64 ((1 : Int) * (2 : Int) ^ (↑x : Int).toNat) ∧ (0 : Int) ≤ (((ints (bst t.snd.fst x).fst).set (↑x : Int).toNat ((ints (bst t.snd.fst x).snd).getD (Int.toNat (List.getD t.snd.fst (↑x : Int).toNat ((0 : Int), (0 : Int), ())).fst) (0 : Int))).set (↑x : Int).toNat (↑((((ints (bst t.snd.fst x).fst).set (↑x : Int).toNat ((ints (bst t.snd.fst x).snd).getD (Int.toNat (List.getD t.snd.fst (↑x : Int).toNat ((0 : Int), (0 : Int), ())).fst) (0 : Int))).getD (↑x : Int).toNat (0 : Int)).toNat ||| (↑((((ints (bst t.snd.fst x).fst).set (↑x : Int).toNat ((ints (bst t.snd.fst x).snd).getD (Int.toNat (List.getD t.snd.fst (↑x : Int).toNat ((0 : Int), (0 : Int), ())).fst) (0 : Int))).getD (Int.toNat (List.getD t.snd.fst (↑x : Int).toNat ((0 : Int), (0 : Int), ())).snd.fst) (0 : Int)).toNat ||| ((1 : Int) * (2 : Int) ^ Int.toNat (List.getD t.snd.fst (↑x : Int).toNat ((0 : Int), (0 : Int), ())).snd.fst).toNat) : Int).toNat) : Int)).getD (↑x : Int).toNat (0 : Int) ∧ (0 : Int) ≤ (1 : Int) * (2 : Int) ^ (↑x : Int).toNat ∧ (0 : Int) ≤ (List.getD t.snd.fst (↑x : Int).toNat ((0 : Int), (0 : Int), ())).fst ∧ (List.getD t.snd.fst (↑x : Int).toNat ((0 : Int), (0 : Int), ())).fst < (↑(5 : Nat) : Int) ∧ inK IntKind.i64 ((↑x : Int) + (1 : Int)) ∧ ∃ (x_1 : Nat), (x_1 ≤ t.snd.fst.length ∧ chk t = (0 : Int)) ∧ t.snd.fst.length - x_1 < t.snd.fst.length - x ∧ (t = t ∧ ([] : List Nat) = [] ∧ True ∧ (0 : Int) = (0 : Int) ∧ chk t = chk t ∧ True ∧ ([] : List Nat) = [] ∧ t = t ∧ chk t = chk t ∧ chk t = chk t ∧ (!decide (chk t = (0 : Int))) = !decide (chk t = (0 : Int)) ∧ [] ++ [(1 : Nat)] = [] ++ [(1 : Nat)] ∧ t.snd.fst = t.snd.fst ∧ (↑(List.length t.snd.fst) : Int) = (↑(List.length t.snd.fst) : Int) ∧ True ∧ [] ++ [(1 : Nat)] = [] ++ [(1 : Nat)] ∧ t.snd.fst = t.snd.fst ∧ (↑(List.length t.snd.fst) : Int) = (↑(List.length t.snd.fst) : Int) ∧ (↑x : Int) + (1 : Int) = (↑x_1 : Int) ∧ True) ∧ (((24 : Nat) = (24 : Nat) ∧ t = t) ∧ ((3 : Nat) = (3 : Nat) ∧ ((ints (bst t.snd.fst x).fst).set (↑x : Int).toNat ((ints (bst t.snd.fst x).snd).getD (Int.toNat (List.getD t.snd.fst (↑x : Int).toNat ((0 : Int), (0 : Int), ())).fst) (0 : Int))).set (↑x : Int).toNat (↑((((ints (bst t.snd.fst x).fst).set (↑x : Int).toNat ((ints (bst t.snd.fst x).snd).getD (Int.toNat (List.getD t.snd.fst (↑x : Int).toNat ((0 : Int), (0 : Int), ())).fst) (0 : Int))).getD (↑x : Int).toNat (0 : Int)).toNat ||| (↑((((ints (bst t.snd.fst x).fst).set (↑x : Int).toNat ((ints (bst t.snd.fst x).snd).getD (Int.toNat (List.getD t.snd.fst (↑x : Int).toNat ((0 : Int), (0 : Int), ())).fst) (0 : Int))).getD (Int.toNat (List.getD t.snd.fst (↑x : Int).toNat ((0 : Int), (0 : Int), ())).snd.fst) (0 : Int)).toNat ||| ((1 : Int) * (2 : Int) ^ Int.toNat (List.getD t.snd.fst (↑x : Int).toNat ((0 : Int), (0 : Int), ())).snd.fst).toNat) : Int).toNat) : Int) = ints (bst t.snd.fst x_1).fst) ∧ ((55 : Nat) = (55 : Nat) ∧ (ints (bst t.snd.fst x).snd).set (Int.toNat (List.getD t.snd.fst (↑x : Int).toNat ((0 : Int), (0 : Int), ())).fst) (↑(((((ints (bst t.snd.fst x).fst).set (↑x : Int).toNat ((ints (bst t.snd.fst x).snd).getD (Int.toNat (List.getD t.snd.fst (↑x : Int).toNat ((0 : Int), (0 : Int), ())).fst) (0 : Int))).set (↑x : Int).toNat (↑((((ints (bst t.snd.fst x).fst).set (↑x : Int).toNat ((ints (bst t.snd.fst x).snd).getD (Int.toNat (List.getD t.snd.fst (↑x : Int).toNat ((0 : Int), (0 : Int), ())).fst) (0 : Int))).getD (↑x : Int).toNat (0 : Int)).toNat ||| (↑((((ints (bst t.snd.fst x).fst).set (↑x : Int).toNat ((ints (bst t.snd.fst x).snd).getD (Int.toNat (List.getD t.snd.fst (↑x : Int).toNat ((0 : Int), (0 : Int), ())).fst) (0 : Int))).getD (Int.toNat (List.getD t.snd.fst (↑x : Int).toNat ((0 : Int), (0 : Int), ())).snd.fst) (0 : Int)).toNat ||| ((1 : Int) * (2 : Int) ^ Int.toNat (List.getD t.snd.fst (↑x : Int).toNat ((0 : Int), (0 : Int), ())).snd.fst).toNat) : Int).toNat) : Int)).getD (↑x : Int).toNat (0 : Int)).toNat ||| ((1 : Int) * (2 : Int) ^ (↑x : Int).toNat).toNat) : Int) = ints (bst t.snd.fst x_1).snd) ∧ True) ∧ True) ∧ (decide ((0 : Int) ≤ (List.getD t.snd.fst (↑x : Int).toNat ((0 : Int), (0 : Int), ())).snd.fst) = false → (0 : Int) ≤ (↑x : Int) ∧ (↑x : Int) < (↑((ints (bst t.snd.fst x).fst).set (↑x : Int).toNat ((ints (bst t.snd.fst x).snd).getD (Int.toNat (List.getD t.snd.fst (↑x : Int).toNat ((0 : Int), (0 : Int), ())).fst) (0 : Int))).length : Int) ∧ (0 : Int) ≤ (↑x : Int) ∧ (↑x : Int) < (64 : Int) ∧ IntKind.i64.bits = (64 : Nat) ∧ inK IntKind.i64 ((1 : Int) * (2 : Int) ^ (↑x : Int).toNat) ∧ (0 : Int) ≤ ((ints (bst t.snd.fst x).fst).set (↑x : Int).toNat ((ints (bst t.snd.fst x).snd).getD (Int.toNat (List.getD t.snd.fst (↑x : Int).toNat ((0 : Int), (0 : Int), ())).fst) (0 : Int))).getD (↑x : Int).toNat (0 : Int) ∧ (0 : Int) ≤ (1 : Int) * (2 : Int) ^ (↑x : Int).toNat ∧ (0 : Int) ≤ (List.getD t.snd.fst (↑x : Int).toNat ((0 : Int), (0 : Int), ())).fst ∧ (List.getD t.snd.fst (↑x : Int).toNat ((0 : Int), (0 : Int), ())).fst < (↑(5 : Nat) : Int) ∧ inK IntKind.i64 ((↑x : Int) + (1 : Int)) ∧ ∃ (x_1 : Nat), (x_1 ≤ t.snd.fst.length ∧ chk t = (0 : Int)) ∧ t.snd.fst.length - x_1 < t.snd.fst.length - x ∧ (t = t ∧ ([] : List Nat) = [] ∧ True ∧ (0 : Int) = (0 : Int) ∧ chk t = chk t ∧ True ∧ ([] : List Nat) = [] ∧ t = t ∧ chk t = chk t ∧ chk t = chk t ∧ (!decide (chk t = (0 : Int))) = !decide (chk t = (0 : Int)) ∧ [] ++ [(1 : Nat)] = [] ++ [(1 : Nat)] ∧ t.snd.fst = t.snd.fst ∧ (↑(List.length t.snd.fst) : Int) = (↑(List.length t.snd.fst) : Int) ∧ True ∧ [] ++ [(1 : Nat)] = [] ++ [(1 : Nat)] ∧ t.snd.fst = t.snd.fst ∧ (↑(List.length t.snd.fst) : Int) = (↑(List.length t.snd.fst) : Int) ∧ (↑x : Int) + (1 : Int) = (↑x_1 : Int) ∧ True) ∧ (((24 : Nat) = (24 : Nat) ∧ t = t) ∧ ((3 : Nat) = (3 : Nat) ∧ (ints (bst t.snd.fst x).fst).set (↑x : Int).toNat ((ints (bst t.snd.fst x).snd).getD (Int.toNat (List.getD t.snd.fst (↑x : Int).toNat ((0 : Int), (0 : Int), ())).fst) (0 : Int)) = ints (bst t.snd.fst x_1).fst) ∧ ((55 : Nat) = (55 : Nat) ∧ (ints (bst t.snd.fst x).snd).set (Int.toNat (List.getD t.snd.fst (↑x : Int).toNat ((0 : Int), (0 : Int), ())).fst) (↑((((ints (bst t.snd.fst x).fst).set (↑x : Int).toNat ((ints (bst t.snd.fst x).snd).getD (Int.toNat (List.getD t.snd.fst (↑x : Int).toNat ((0 : Int), (0 : Int), ())).fst) (0 : Int))).getD (↑x : Int).toNat (0 : Int)).toNat ||| ((1 : Int) * (2 : Int) ^ (↑x : Int).toNat).toNat) : Int) = ints (bst t.snd.fst x_1).snd) ∧ True) ∧ True)) ∧ (decide ((↑x : Int) < (↑(List.length t.snd.fst) : Int)) = false → k [Dat.mk (I).sl (ints (bst t.snd.fst x).fst), Dat.mk (Ty.err (71 : Nat)) (0 : Int)]))) := by kernel_rfl
end Go.Proofs.Ytgbpjjinhjikeaa

/- Traces: Before keeps its contract. -/
namespace Go.Proofs.Ytgbpjjinhjikeaa
open Go.Vc

theorem ints_getD (l : List Nat) (j : Nat) : (ints l).getD j (0 : Int) = ((l.getD j 0 : Nat) : Int) := by
  simp only [ints, List.getD_eq_getElem?_getD, List.getElem?_map]
  cases l[j]? <;> rfl
theorem ints_set (l : List Nat) (j n : Nat) : (ints l).set j (n : Int) = ints (l.set j n) := by simp [ints, List.map_set]
theorem ints_len (l : List Nat) : (ints l).length = l.length := by simp [ints]
theorem ints_rep (n : Nat) : List.replicate n (0 : Int) = ints (List.replicate n 0) := by simp [ints]
theorem one_shl (n : Nat) : (1 : Int) * (2 : Int) ^ n = ((2 ^ n : Nat) : Int) := by rw [Int.one_mul, Int.natCast_pow]; rfl

/-- A trace with which nothing is wrong. -/
structure Good (t : Tr) : Prop where
  procs : 1 ≤ t.1 ∧ t.1 ≤ 5
  len : t.2.1.length ≤ 24
  ev : ∀ i, i < t.2.1.length → 0 ≤ (t.2.1.getD i (0, 0, ())).1 ∧ (t.2.1.getD i (0, 0, ())).1 ≤ t.1 - 1 ∧ -1 ≤ (t.2.1.getD i (0, 0, ())).2.1 ∧ (t.2.1.getD i (0, 0, ())).2.1 ≤ (i : Int) - 1 ∧
    (0 ≤ (t.2.1.getD i (0, 0, ())).2.1 → (t.2.1.getD (t.2.1.getD i (0, 0, ())).2.1.toNat (0, 0, ())).1 ≠ (t.2.1.getD i (0, 0, ())).1)

theorem evsErr_zero {p : Int} {l : List Ev} : ∀ {f i : Nat}, evsErr p l f i = 0 → ∀ j, i ≤ j → j < i + f → evErr p l j = 0 := by
  intro f
  induction f with
  | zero => intro i _ j h1 h2; omega
  | succ f ih =>
    intro i h j h1 h2
    unfold evsErr at h
    split at h
    · rename_i h0
      by_cases hj : j = i
      · rw [hj]; exact h0
      · exact ih h j (by omega) (by omega)
    · rename_i h0; exact absurd h h0

theorem good_of {t : Tr} (h : chk t = 0) : Good t := by
  unfold chk at h
  split at h
  · cases h
  · rename_i h1
    split at h
    · cases h
    · rename_i h2
      have hp : 1 ≤ t.1 ∧ t.1 ≤ 5 := by simpa [inB] using h1
      refine ⟨hp, by omega, fun i hi => ?_⟩
      have he := evsErr_zero h i (Nat.zero_le _) (by omega)
      unfold evErr at he
      split at he
      · cases he
      · rename_i h3
        split at he
        · cases he
        · rename_i h4
          have h3' : (0 ≤ (t.2.1.getD i (0, 0, ())).1 ∧ (t.2.1.getD i (0, 0, ())).1 ≤ t.1 - 1) ∧ -1 ≤ (t.2.1.getD i (0, 0, ())).2.1 ∧ (t.2.1.getD i (0, 0, ())).2.1 ≤ (i : Int) - 1 := by
            simpa only [inB, Bool.not_eq_false, Bool.and_eq_true, decide_eq_true_eq] using h3
          exact ⟨h3'.1.1, h3'.1.2, h3'.2.1, h3'.2.2, fun h0 hc => h4 ⟨h0, hc⟩⟩

theorem bst_len (l : List Ev) : ∀ i, (bst l i).1.length = l.length ∧ (bst l i).2.length = 5
  | 0 => by simp [bst]
  | i + 1 => by
    have := bst_len l i
    simp [bst, this.1, this.2]

theorem getD_set_self {l : List Nat} {i n : Nat} (h : i < l.length) : (l.set i n).getD i 0 = n := by
  simp [List.getD_eq_getElem?_getD, h]
theorem getD_set_ne {l : List Nat} {i j n : Nat} (h : i ≠ j) : (l.set i n).getD j 0 = l.getD j 0 := by
  simp [List.getD_eq_getElem?_getD, List.getElem?_set_ne h]

theorem before_vc (t : Tr) (k : List Dat → Prop) (hk : k [⟨.sl I, bef t⟩, ⟨tErr, chk t⟩]) : vcF ⟨Et, [(26, cCheck)], [], [], []⟩ (anBefore t) (Try.f11.body.getD .skip) Try.f11.ntmps [(.tmp 2, .sl I), (.tmp 3, tErr)] [⟨tTr, t⟩] k := by
  rw [vcBefore]
  simp only [decide_eq_true_eq, decide_eq_false_iff_not, and_true, true_and, Bool.not_eq_true', Bool.not_eq_false', Int.toNat_natCast, one_shl, ints_rep, ints_getD, ints_set, ints_len, List.length_set]
  refine ⟨fun h => ?_, fun h => ?_⟩
  · have : bef t = [] := by unfold bef; rw [if_neg h]
    rw [← this]; exact hk
  · have g := good_of h
    have hl := g.len
    have hshl : ∀ j : Nat, j ≤ 61 → inK .i64 ((2 ^ j : Nat) : Int) := by
      intro j hj
      have h1 := two_pow_le (n := j) (by omega)
      have h2 := two_pow_pos j
      have e : ((2 ^ j : Nat) : Int) = (2 : Int) ^ j := by rw [Int.natCast_pow]; rfl
      rw [e, inK_i64]
      omega
    have hN : ∀ n : Nat, (0 : Int) ≤ (n : Int) := fun n => Int.natCast_nonneg n
    have hb0 : befN t = (bst t.2.1 t.2.1.length).1 := rfl
    refine ⟨by omega, Int.le_refl _, by omega, ⟨0, ⟨by omega, h⟩, rfl, rfl, rfl⟩, fun x ⟨hx, _⟩ => ⟨fun hlt => ?_, fun hge => ?_⟩⟩
    · obtain ⟨b1, b2⟩ := bst_len t.2.1 x
      obtain ⟨p0, p1, f0, f1, _⟩ := g.ev x (by omega)
      have hpr := g.procs
      have h5 : ((5 : Nat) : Int) = 5 := rfl
      refine ⟨hN _, hlt, p0, by omega, hN _, by omega, fun h0 => ?_, fun h0 => ?_⟩
      · have hfl : (t.2.1.getD x (0, 0, ())).2.1.toNat < x := by omega
        refine ⟨hN _, by omega, h0, by omega, h0, by omega, rfl, hshl _ (by omega), hN _, hN _, hN _, hN _, hN _, by omega, hN _, by omega, hN _, by omega, rfl, hshl _ (by omega), hN _, hN _, p0, by omega, inK_i64.2 (by omega), x + 1, ⟨by omega, h⟩, by omega, by omega, ?_, ?_⟩
        · rw [List.set_set, getD_set_self (by omega), getD_set_ne (by omega)]
          simp only [bst, if_pos h0]
        · rw [getD_set_self (by rw [List.length_set]; omega), getD_set_self (by omega), getD_set_ne (by omega)]
          simp only [bst, if_pos h0]
      · refine ⟨hN _, by omega, hN _, by omega, rfl, hshl _ (by omega), hN _, hN _, p0, by omega, inK_i64.2 (by omega), x + 1, ⟨by omega, h⟩, by omega, by omega, ?_, ?_⟩
        · simp only [bst, if_neg h0]
        · rw [getD_set_self (by omega)]
          simp only [bst, if_neg h0]
    · have : x = t.2.1.length := by omega
      rw [this]
      have e : bef t = ints (bst t.2.1 t.2.1.length).1 := by unfold bef; rw [if_pos h, hb0]
      rw [← e]
      rw [h] at hk
      exact hk

theorem okBefore : PlainOk Try.prog [] 11 cBefore := by
  refine plain_of (CxOk.mk' Et_ok rfl mixed (gl := []) (GOk.cons okCheck Try.func26 (by kernel_rfl) (by kernel_rfl) GOk.nil) GoOk.nil noIt) Try.func11 (c := Try.f11.body.getD .skip) (rvs := [(.tmp 2, .sl I), (.tmp 3, tErr)]) (by kernel_rfl) (by kernel_rfl) (by kernel_rfl) ?_
  intro ds k ⟨hp, hk⟩ hwf
  obtain ⟨t, rfl, -⟩ := dest1 hp
  exact ⟨anBefore t, before_vc t k hk⟩
end Go.Proofs.Ytgbpjjinhjikeaa

/- Traces: the small trace that the laws try first. -/
namespace Go.Proofs.Ytgbpjjinhjikeaa
open Go.Vc
def talkT : Tr := (2, [(0, -1, ()), (1, 0, ()), (0, -1, ())], ())
def cTalk : Ctr := cdet [] True [⟨tTr, talkT⟩]
def cInts : Ctr := cdet [.sl I, .sl I] (fun _ _ => True) (fun (a b : List Int) => [⟨.bool, a == b⟩])
def cFact : Ctr := cdet [] True [⟨.bool, true⟩]
def anInts (a b : List Int) : Ann := an1 Nat 4 (fun st i => St.at st [(5, .d I (i : Int))]) (fun i => i ≤ a.length ∧ a.take i = b.take i) (fun i => a.length - i)
end Go.Proofs.Ytgbpjjinhjikeaa

/- What the functions of this seat have to satisfy, by program: each verification condition in plain words. -/
namespace Go.Proofs.Ytgbpjjinhjikeaa
open Go.Vc
set_option linter.unusedVariables false
theorem vcTalk (k : List Dat → Prop) : vcF ⟨Et, [], [], [], []⟩ [] (Try.f24.body.getD .skip) Try.f24.ntmps [(.cell 0 24, tTr)] [] k = (
  k [Dat.mk (tTr) ((2 : Int), (((List.replicate (3 : Nat) ((0 : Int), (0 : Int), ())).set (0 : Nat) ((0 : Int), (-1 : Int), ())).set (1 : Nat) ((1 : Int), (0 : Int), ())).set (2 : Nat) ((0 : Int), (-1 : Int), ()), ())]) := by kernel_rfl
theorem vcInts (a b : List Int) (k : List Dat → Prop) : vcF ⟨Et, [], [], [], []⟩ (anInts a b) (Try.f25.body.getD .skip) Try.f25.ntmps [(.tmp 4, .bool)] [⟨.sl I, a⟩, ⟨.sl I, b⟩] k = (
  ((!decide ((↑a.length : Int) = (↑b.length : Int))) = true → k [Dat.mk Ty.bool false]) ∧ ((!decide ((↑a.length : Int) = (↑b.length : Int))) = false → (∃ (x : Nat), (x ≤ a.length ∧ List.take x a = List.take x b) ∧ (a = a ∧ b = b ∧ false = false ∧ (0 : Int) = (↑x : Int) ∧ a = a ∧ (↑a.length : Int) = (↑a.length : Int) ∧ b = b ∧ (↑b.length : Int) = (↑b.length : Int) ∧ (!decide ((↑a.length : Int) = (↑b.length : Int))) = !decide ((↑a.length : Int) = (↑b.length : Int)) ∧ True) ∧ True ∧ True) ∧ ∀ (x : Nat), x ≤ a.length ∧ List.take x a = List.take x b → (decide ((↑x : Int) < (↑a.length : Int)) = true → (0 : Int) ≤ (↑x : Int) ∧ (↑x : Int) < (↑a.length : Int) ∧ (0 : Int) ≤ (↑x : Int) ∧ (↑x : Int) < (↑b.length : Int) ∧ ((!decide (a.getD (↑x : Int).toNat (0 : Int) = b.getD (↑x : Int).toNat (0 : Int))) = true → k [Dat.mk Ty.bool false]) ∧ ((!decide (a.getD (↑x : Int).toNat (0 : Int) = b.getD (↑x : Int).toNat (0 : Int))) = false → inK IntKind.i64 ((↑x : Int) + (1 : Int)) ∧ ∃ (x_1 : Nat), (x_1 ≤ a.length ∧ List.take x_1 a = List.take x_1 b) ∧ a.length - x_1 < a.length - x ∧ (a = a ∧ b = b ∧ false = false ∧ (↑x : Int) + (1 : Int) = (↑x_1 : Int) ∧ a = a ∧ (↑a.length : Int) = (↑a.length : Int) ∧ b = b ∧ (↑b.length : Int) = (↑b.length : Int) ∧ (!decide ((↑a.length : Int) = (↑b.length : Int))) = !decide ((↑a.length : Int) = (↑b.length : Int)) ∧ True) ∧ True ∧ True)) ∧ (decide ((↑x : Int) < (↑a.length : Int)) = false → k [Dat.mk Ty.bool true]))) := by kernel_rfl
end Go.Proofs.Ytgbpjjinhjikeaa

/- Traces: the small trace that the laws try first. -/
namespace Go.Proofs.Ytgbpjjinhjikeaa
open Go.Vc

theorem okTalk : PlainOk Try.prog [] 24 cTalk := by
  refine plain_of (CxOk.mk' Et_ok rfl mixed (gl := []) GOk.nil GoOk.nil noIt) Try.func24 (c := Try.f24.body.getD .skip) (rvs := [(.cell 0 24, tTr)]) (by kernel_rfl) (by kernel_rfl) (by kernel_rfl) ?_
  intro ds k ⟨hp, hk⟩ hwf
  obtain ⟨rfl, -⟩ := dest0 hp
  refine ⟨[], ?_⟩
  rw [vcTalk]
  exact hk

theorem ints_vc (a b : List Int) (k : List Dat → Prop) (hl : a.length ≤ maxLen) (hk : k [⟨.bool, a == b⟩]) : vcF ⟨Et, [], [], [], []⟩ (anInts a b) (Try.f25.body.getD .skip) Try.f25.ntmps [(.tmp 4, .bool)] [⟨.sl I, a⟩, ⟨.sl I, b⟩] k := by
  rw [vcInts]
  have hml : maxLen ≤ 9223372036854775807 := by decide
  simp only [decide_eq_true_eq, decide_eq_false_iff_not, and_true, true_and, Bool.not_eq_true', Bool.not_eq_false', Int.toNat_natCast, inK_i64]
  have ret : ∀ x : Bool, (a == b) = x → k [⟨.bool, x⟩] := by rintro _ rfl; exact hk
  refine ⟨fun h => ret _ ?_, fun h => ⟨⟨0, ⟨by omega, rfl⟩, rfl⟩, fun x ⟨hx, ht⟩ => ⟨fun hlt => ⟨by omega, hlt, by omega, by omega, fun hne => ret _ ?_, fun he => ⟨by omega, x + 1, ⟨by omega, ?_⟩, by omega, by omega⟩⟩, fun hge => ret _ ?_⟩⟩⟩
  · simp only [beq_eq_false_iff_ne, ne_eq]; intro he; exact h (by rw [he])
  · simp only [beq_eq_false_iff_ne, ne_eq]; intro h; exact hne (by rw [h])
  · have h1 : x < a.length := by omega
    have h2 : x < b.length := by omega
    rw [List.take_add_one, List.take_add_one, ht]
    rw [List.getD_eq_getElem?_getD, List.getD_eq_getElem?_getD, List.getElem?_eq_getElem h1, List.getElem?_eq_getElem h2] at he
    rw [List.getElem?_eq_getElem h1, List.getElem?_eq_getElem h2]
    simp only [Option.getD_some] at he
    rw [he]
  · have h1 : x = a.length := by omega
    rw [h1, List.take_length, List.take_of_length_le (by omega)] at ht
    simp [ht]

theorem okInts : PlainOk Try.prog [] 25 cInts := by
  refine plain_of (CxOk.mk' Et_ok rfl mixed (gl := []) GOk.nil GoOk.nil noIt) Try.func25 (c := Try.f25.body.getD .skip) (rvs := [(.tmp 4, .bool)]) (by kernel_rfl) (by kernel_rfl) (by kernel_rfl) ?_
  intro ds k ⟨hp, hk⟩ hwf
  obtain ⟨a, b, rfl, -⟩ := dest2 hp
  exact ⟨anInts a b, ints_vc a b k (wf2 hwf).1.1 hk⟩

end Go.Proofs.Ytgbpjjinhjikeaa

/- Traces: the law that what happened before is the least order. -/
namespace Go.Proofs.Ytgbpjjinhjikeaa
open Go.Vc
/-- one is to be behind the other one: it is ahead of it at its process, or it heard of it -/
def mustP (t : Tr) (i j : Nat) : Prop := (t.2.1.getD j (0, 0, ())).1 = (t.2.1.getD i (0, 0, ())).1 ∨ (t.2.1.getD i (0, 0, ())).2.1 = (j : Int)
def pairP (t : Tr) (o : List Int) (i j : Nat) : Prop :=
  0 ≤ o.getD i 0 ∧ (mustP t i j → bitB (o.getD i 0) j = true) ∧ (bitB (o.getD i 0) j = true → subB (o.getD j 0) (o.getD i 0) = true)
def goodP (t : Tr) (o : List Int) (g : Bool) (i j : Nat) : Prop :=
  g = true → o.length = t.2.1.length ∧ (∀ a b, a < i → b < a → pairP t o a b) ∧ ∀ b, b < j → pairP t o i b
end Go.Proofs.Ytgbpjjinhjikeaa

/- What happened before what, as sets of numbers: the facts that the laws of traces ask. -/
namespace Go.Proofs.Ytgbpjjinhjikeaa
open Go.Vc

/-- what happened before event i -/
def bB (l : List Ev) (i : Nat) : Nat := (bst l (i + 1)).1.getD i 0
def prc (l : List Ev) (i : Nat) : Nat := (l.getD i (0, 0, ())).1.toNat
def frm (l : List Ev) (i : Nat) : Int := (l.getD i (0, 0, ())).2.1

theorem bst_keep (l : List Ev) {i : Nat} (hi : i < l.length) : ∀ m, i < m → (bst l m).1.getD i 0 = bB l i := by
  intro m
  induction m with
  | zero => intro h; omega
  | succ m ih =>
    intro h
    by_cases hm : i = m
    · subst hm; rfl
    · rw [← ih (by omega)]
      simp only [bst]
      rw [getD_set_ne (fun e => hm e.symm)]

theorem bB_eq (l : List Ev) {i : Nat} (hi : i < l.length) (hf : frm l i < (i : Int)) :
    bB l i = if 0 ≤ frm l i then (bst l i).2.getD (prc l i) 0 ||| (bB l (frm l i).toNat ||| 2 ^ (frm l i).toNat) else (bst l i).2.getD (prc l i) 0 := by
  have hl := (bst_len l i).1
  unfold bB
  simp only [bst]
  rw [getD_set_self (by omega)]
  show (if 0 ≤ frm l i then _ else _) = _
  split
  · rename_i h
    rw [show (bst l i).1.getD (l.getD i (0, 0, ())).2.1.toNat 0 = bB l (frm l i).toNat from bst_keep l (by show (frm l i).toNat < _; omega) i (by show (frm l i).toNat < _; omega)]
    rfl
  · rfl

/-- the last event of a process -/
theorem last_of (l : List Ev) (hp : ∀ i, i < l.length → prc l i < 5) : ∀ m, m ≤ l.length → ∀ p, p < 5 →
    ((bst l m).2.getD p 0 = 0 ∧ ∀ j, j < m → prc l j ≠ p) ∨ ∃ j, j < m ∧ prc l j = p ∧ (∀ j', j < j' → j' < m → prc l j' ≠ p) ∧ (bst l m).2.getD p 0 = bB l j ||| 2 ^ j := by
  intro m
  induction m with
  | zero =>
    intro _ p hp5
    refine .inl ⟨?_, fun j hj => by omega⟩
    simp only [bst, List.getD_eq_getElem?_getD, List.getElem?_replicate]
    split <;> rfl
  | succ m ih =>
    intro hm p hp5
    have hl := (bst_len l m)
    have hstep : (bst l (m + 1)).2 = (bst l m).2.set (prc l m) (bB l m ||| 2 ^ m) := by
      have : bB l m = (if 0 ≤ (l.getD m (0, 0, ())).2.1 then (bst l m).2.getD (l.getD m (0, 0, ())).1.toNat 0 ||| ((bst l m).1.getD (l.getD m (0, 0, ())).2.1.toNat 0 ||| 2 ^ (l.getD m (0, 0, ())).2.1.toNat) else (bst l m).2.getD (l.getD m (0, 0, ())).1.toNat 0) := by
        unfold bB
        simp only [bst]
        rw [getD_set_self (by omega)]
      rw [this]; rfl
    rw [hstep]
    by_cases h : prc l m = p
    · refine .inr ⟨m, by omega, h, fun j' h1 h2 => by omega, ?_⟩
      rw [h, getD_set_self (by omega)]
    · rw [getD_set_ne h]
      rcases ih (by omega) p hp5 with ⟨h1, h2⟩ | ⟨j, h1, h2, h3, h4⟩
      · refine .inl ⟨h1, fun j hj => ?_⟩
        by_cases hjm : j = m
        · rw [hjm]; exact h
        · exact h2 j (by omega)
      · refine .inr ⟨j, by omega, h2, fun j' hj1 hj2 => ?_, h4⟩
        by_cases hjm : j' = m
        · rw [hjm]; exact h
        · exact h3 j' hj1 (by omega)

/-- is it one of those straight ahead of the other? -/
def justB (l : List Ev) (i j : Nat) : Prop := j < i ∧ ((prc l j = prc l i ∧ ∀ j', j < j' → j' < i → prc l j' ≠ prc l i) ∨ frm l i = (j : Int))

theorem bit_or2 {a j k : Nat} : (a ||| 2 ^ j).testBit k = true ↔ a.testBit k = true ∨ k = j := by
  rw [Nat.testBit_or, Nat.testBit_two_pow, Bool.or_eq_true, decide_eq_true_eq]
  exact ⟨fun h => h.imp id Eq.symm, fun h => h.imp id Eq.symm⟩

theorem bB_bit {l : List Ev} (hp : ∀ i, i < l.length → prc l i < 5) (hf : ∀ i, i < l.length → frm l i < (i : Int)) {i : Nat} (hi : i < l.length) (k : Nat) :
    (bB l i).testBit k = true ↔ ∃ j, justB l i j ∧ ((bB l j).testBit k = true ∨ k = j) := by
  have hlast := last_of l hp i (by omega) (prc l i) (hp i hi)
  have hbit : ((bst l i).2.getD (prc l i) 0).testBit k = true ↔ ∃ j, (j < i ∧ prc l j = prc l i ∧ ∀ j', j < j' → j' < i → prc l j' ≠ prc l i) ∧ ((bB l j).testBit k = true ∨ k = j) := by
    rcases hlast with ⟨h1, h2⟩ | ⟨j, h1, h2, h3, h4⟩
    · rw [h1]
      constructor
      · intro h; simp at h
      · rintro ⟨j, ⟨h3, h4, _⟩, _⟩; exact absurd h4 (h2 j h3)
    · rw [h4, bit_or2]
      constructor
      · intro h; exact ⟨j, ⟨h1, h2, h3⟩, h⟩
      · rintro ⟨j', ⟨k1, k2, k3⟩, h⟩
        have : j' = j := by
          rcases Nat.lt_trichotomy j' j with h | h | h
          · exact absurd h2 (k3 j h h1)
          · exact h
          · exact absurd k2 (h3 j' h k1)
        rw [this] at h; exact h
  rw [bB_eq l hi (hf i hi)]
  split
  · rename_i h0
    rw [Nat.testBit_or, Bool.or_eq_true, hbit, bit_or2]
    constructor
    · rintro (⟨j, ⟨h1, h2, h3⟩, h⟩ | h)
      · exact ⟨j, ⟨h1, .inl ⟨h2, h3⟩⟩, h⟩
      · exact ⟨(frm l i).toNat, ⟨by have := hf i hi; omega, .inr (by omega)⟩, h⟩
    · rintro ⟨j, ⟨h1, h2 | h2⟩, h⟩
      · exact .inl ⟨j, ⟨h1, h2.1, h2.2⟩, h⟩
      · have : (frm l i).toNat = j := by omega
        rw [this]; exact .inr h
  · rename_i h0
    rw [hbit]
    constructor
    · rintro ⟨j, ⟨h1, h2, h3⟩, h⟩
      exact ⟨j, ⟨h1, .inl ⟨h2, h3⟩⟩, h⟩
    · rintro ⟨j, ⟨h1, h2 | h2⟩, h⟩
      · exact ⟨j, ⟨h1, h2.1, h2.2⟩, h⟩
      · omega

section
variable {l : List Ev} (hp : ∀ i, i < l.length → prc l i < 5) (hf : ∀ i, i < l.length → frm l i < (i : Int))
include hp hf

theorem bB_less {i : Nat} (hi : i < l.length) {k : Nat} (h : (bB l i).testBit k = true) : k < i := by
  induction i using Nat.strongRecOn with
  | _ i ih =>
    obtain ⟨j, hj, h⟩ := (bB_bit hp hf hi k).1 h
    rcases h with h | h
    · have := ih j hj.1 (by have := hj.1; omega) h
      have := hj.1; omega
    · have := hj.1; omega

theorem bB_lt {i : Nat} (hi : i < l.length) : bB l i < 2 ^ i := by
  apply Nat.lt_pow_two_of_testBit
  intro k hk
  cases h : (bB l i).testBit k with
  | false => rfl
  | true => have := bB_less hp hf hi h; omega

theorem bB_must {i j : Nat} (hi : i < l.length) (hj : j < i) (h : prc l j = prc l i ∨ frm l i = (j : Int)) : (bB l i).testBit j = true := by
  rcases h with h | h
  · -- the last one of its process
    have key : ∀ d j, i - j = d → j < i → prc l j = prc l i → (bB l i).testBit j = true := by
      intro d
      induction d using Nat.strongRecOn with
      | _ d ihd =>
        intro j hd hj h
        by_cases hc : ∃ j', j < j' ∧ j' < i ∧ prc l j' = prc l i
        · obtain ⟨j1, h1, h2, h3⟩ := hc
          -- the first one behind j: take any; by induction on i inside
          have hb1 := ihd (i - j1) (by omega) j1 rfl h2 h3
          have hin : (bB l j1).testBit j = true := by
            have : ∀ i', i' < i → j < i' → i' < l.length → prc l j = prc l i' → (bB l i').testBit j = true := by
              intro i'
              induction i' using Nat.strongRecOn with
              | _ i' ih' =>
                intro a1 a2 a3 a4
                by_cases hc' : ∃ j', j < j' ∧ j' < i' ∧ prc l j' = prc l i' ∧ ∀ j'', j' < j'' → j'' < i' → prc l j'' ≠ prc l i'
                · obtain ⟨j2, b1, b2, b3, b4⟩ := hc'
                  refine (bB_bit hp hf a3 j).2 ⟨j2, ⟨b2, .inl ⟨b3, b4⟩⟩, .inl (ih' j2 b2 (by omega) b1 (by omega) (by rw [b3]; exact a4))⟩
                · refine (bB_bit hp hf a3 j).2 ⟨j, ⟨a2, .inl ⟨a4, ?_⟩⟩, .inr rfl⟩
                  intro j' c1 c2 c3
                  -- then there is a last one
                  have : ∃ j', j < j' ∧ j' < i' ∧ prc l j' = prc l i' ∧ ∀ j'', j' < j'' → j'' < i' → prc l j'' ≠ prc l i' := by
                    have hmax : ∀ d j', i' - j' = d → j < j' → j' < i' → prc l j' = prc l i' → ∃ j', j < j' ∧ j' < i' ∧ prc l j' = prc l i' ∧ ∀ j'', j' < j'' → j'' < i' → prc l j'' ≠ prc l i' := by
                      intro d
                      induction d using Nat.strongRecOn with
                      | _ d ihm =>
                        intro j' e0 e1 e2 e3
                        by_cases hx : ∃ j'', j' < j'' ∧ j'' < i' ∧ prc l j'' = prc l i'
                        · obtain ⟨j'', f1, f2, f3⟩ := hx
                          exact ihm (i' - j'') (by omega) j'' rfl (by omega) f2 f3
                        · exact ⟨j', e1, e2, e3, fun j'' g1 g2 g3 => hx ⟨j'', g1, g2, g3⟩⟩
                    exact hmax _ j' rfl c1 c2 c3
                  exact hc' this
            exact this j1 h2 h1 (by omega) (by rw [h, h3])
          have trans : ∀ i', i' ≤ i → i' < l.length → ∀ k m, (bB l i').testBit k = true → (bB l k).testBit m = true → (bB l i').testBit m = true := by
            intro i'
            induction i' using Nat.strongRecOn with
            | _ i' ih' =>
              intro a1 a2 k m hk hm
              obtain ⟨q, hq, hk'⟩ := (bB_bit hp hf a2 k).1 hk
              rcases hk' with hk' | hk'
              · exact (bB_bit hp hf a2 m).2 ⟨q, hq, .inl (ih' q hq.1 (by have := hq.1; omega) (by have := hq.1; omega) k m hk' hm)⟩
              · subst hk'
                exact (bB_bit hp hf a2 m).2 ⟨k, hq, .inl hm⟩
          exact trans i (Nat.le_refl _) hi j1 j hb1 hin
        · exact (bB_bit hp hf hi j).2 ⟨j, ⟨hj, .inl ⟨h, fun j' h1 h2 h3 => hc ⟨j', h1, h2, h3⟩⟩⟩, .inr rfl⟩
    exact key _ j rfl hj h
  · exact (bB_bit hp hf hi j).2 ⟨j, ⟨hj, .inr h⟩, .inr rfl⟩

theorem bB_trans {i : Nat} (hi : i < l.length) {k m : Nat} (hk : (bB l i).testBit k = true) (hm : (bB l k).testBit m = true) : (bB l i).testBit m = true := by
  induction i using Nat.strongRecOn with
  | _ i ih =>
    obtain ⟨q, hq, hk'⟩ := (bB_bit hp hf hi k).1 hk
    rcases hk' with hk' | hk'
    · exact (bB_bit hp hf hi m).2 ⟨q, hq, .inl (ih q hq.1 (by have := hq.1; omega) hk')⟩
    · subst hk'
      exact (bB_bit hp hf hi m).2 ⟨k, hq, .inl hm⟩
end
end Go.Proofs.Ytgbpjjinhjikeaa

/- Traces told in another order: events by their names. -/
namespace Go.Proofs.Ytgbpjjinhjikeaa
open Go.Vc
abbrev tNa : Ty := .ar 2 I
abbrev tNE : Ty := .pr (.ar 2 I) (.pr tEv .un)
abbrev NE := List Int × Ev × Unit
def Em : Env := { tys := [(3, I), (4, .bool), (5, .int .u8), (22, .sl tEv), (24, tTr), (28, tErr), (25, .sl I), (33, tEv), (55, .ar 5 I), (59, .ar 2 I), (61, tNE), (57, .sl tNE), (56, .nm)], errT := 71, eqs := [33], els := [(22, 33), (25, 3), (57, 61)], mps := [(56, (59, 33))] }
theorem Em_ok : EnvOk Try.prog Em := EnvOk.of_list (by kernel_rfl) (by kernel_rfl) (by kernel_rfl)
/-- the events by their names, of the first i; how many of each process came -/
def namU (l : List Ev) : Nat → List NE × List Int
  | 0 => ([], List.replicate 5 0)
  | i + 1 =>
    ((namU l i).1 ++ [([(l.getD i (0, 0, ())).1, (namU l i).2.getD (l.getD i (0, 0, ())).1.toNat 0],
        (if 0 ≤ (l.getD i (0, 0, ())).2.1 then (((namU l i).1.getD (l.getD i (0, 0, ())).2.1.toNat ([0, 0], (0, 0, ()), ())).1.getD 0 0, ((namU l i).1.getD (l.getD i (0, 0, ())).2.1.toNat ([0, 0], (0, 0, ()), ())).1.getD 1 0, ()) else (-1, -1, ())), ())],
     (namU l i).2.set (l.getD i (0, 0, ())).1.toNat ((namU l i).2.getD (l.getD i (0, 0, ())).1.toNat 0 + 1))
def nmd (l : List Ev) : List NE := (namU l l.length).1
def cNamed : Ctr := cdet [tTr] (fun (t : Tr) => chk t = 0 ∧ True) (fun (t : Tr) => [⟨.sl tNE, nmd t.2.1⟩])
def anNamed (t : Tr) : Ann :=
  [loopAt 4 Nat [(4, 61, tNE)] (fun st i => { St.at (St.only st [1, 3, 4, 9, 10]) [(11, .d I (i : Int))] with ob := [.var 24 tTr t, .var 55 (.ar 5 I) (namU t.2.1 i).2, .row 61 tNE (namU t.2.1 i).1] }) (fun _ i => i ≤ t.2.1.length ∧ True) (fun i => t.2.1.length - i)]
/-- what each name heard of, of the first i -/
def putU (l : List NE) (i : Nat) : List (List Int × Ev) := (l.take i).foldl (fun m x => mpPut m x.1 x.2.1) []
def mapT (l : List Ev) : List (List Int × Ev) := putU (nmd l) l.length
def sameB (t u : Tr) : Bool := decide (t.1 = u.1) && (decide (t.2.1.length = u.2.1.length) && (nmd u.2.1).all fun x => decide (mpGet (mapT t.2.1) x.1 = some x.2.1))
def smErr (t u : Tr) : Int := if chk t = 0 then chk u else chk t
def smR (t u : Tr) : Bool := decide (smErr t u = 0) && sameB t u
def cSame2 : Ctr := cdet [tTr, tTr] (fun _ _ => True) (fun t u => [⟨.bool, smR t u⟩, ⟨tErr, smErr t u⟩])
def anSame2 (t u : Tr) : Ann :=
  [joinAll, loopAt 11 Nat [] (fun st i => { St.at (St.only st [2, 3, 8, 41, 42]) [(43, .d I (i : Int))] with ob := [.var 24 tTr t, .var 24 tTr u, .mp 2 tEv (putU (nmd t.2.1) i)] }) (fun _ i => i ≤ t.2.1.length ∧ True) (fun i => t.2.1.length - i),
   loopAt 16 Nat [] (fun st i => { St.at (St.only st [2, 3, 8, 54, 55]) [(56, .d I (i : Int))] with ob := [.var 24 tTr t, .var 24 tTr u, .mp 2 tEv (mapT t.2.1)] }) (fun _ i => i ≤ u.2.1.length ∧ ∀ j, j < i → mpGet (mapT t.2.1) ((nmd u.2.1).getD j ([0, 0], (0, 0, ()), ())).1 = some ((nmd u.2.1).getD j ([0, 0], (0, 0, ()), ())).2.1) (fun i => u.2.1.length - i)]
end Go.Proofs.Ytgbpjjinhjikeaa

/- Traces told in another order: names of events, plainly; two that are told the other way round. -/
namespace Go.Proofs.Ytgbpjjinhjikeaa
open Go.Vc

/-- how many of the first i events are of a process -/
def cntP (l : List Ev) (p : Nat) : Nat → Nat
  | 0 => 0
  | i + 1 => if prc l i = p then cntP l p i + 1 else cntP l p i
theorem cntP_le (l : List Ev) (p : Nat) : ∀ i, cntP l p i ≤ i
  | 0 => Nat.le_refl _
  | i + 1 => by
    have := cntP_le l p i
    simp only [cntP]; split <;> omega
theorem cntP_mono (l : List Ev) (p : Nat) {i j : Nat} (h : i ≤ j) : cntP l p i ≤ cntP l p j := by
  induction j with
  | zero => have : i = 0 := by omega
            subst this; exact Nat.le_refl _
  | succ j ih =>
    by_cases hj : i = j + 1
    · subst hj; exact Nat.le_refl _
    · refine Nat.le_trans (ih (by omega)) ?_
      simp only [cntP]; split <;> omega
/-- the name of an event; what it heard of, by its name -/
def nmE (l : List Ev) (i : Nat) : List Int := [(l.getD i (0, 0, ())).1, (cntP l (prc l i) i : Int)]
def hrE (l : List Ev) (i : Nat) : Ev :=
  if 0 ≤ frm l i then ((l.getD (frm l i).toNat (0, 0, ())).1, (cntP l (prc l (frm l i).toNat) (frm l i).toNat : Int), ()) else (-1, -1, ())
def neE (l : List Ev) (i : Nat) : NE := (nmE l i, hrE l i, ())

theorem namU_len (l : List Ev) : ∀ i, (namU l i).1.length = i ∧ (namU l i).2.length = 5
  | 0 => ⟨rfl, rfl⟩
  | i + 1 => by
    obtain ⟨h1, h2⟩ := namU_len l i
    simp only [namU, List.length_append, List.length_cons, List.length_nil, List.length_set]
    exact ⟨by omega, h2⟩
theorem getDI_set {l : List Int} {i j : Nat} {v : Int} (h : i < l.length) : (l.set i v).getD j 0 = if i = j then v else l.getD j 0 := by
  rw [List.getD_eq_getElem?_getD, List.getD_eq_getElem?_getD, List.getElem?_set]
  by_cases hij : i = j
  · subst hij; simp [h]
  · simp [hij]
theorem getDA_app {α : Type} (l : List α) (y z : α) (j : Nat) : (l ++ [y]).getD j z = if j = l.length then y else l.getD j z := by
  rw [List.getD_eq_getElem?_getD, List.getD_eq_getElem?_getD]
  by_cases h : j < l.length
  · rw [List.getElem?_append_left h, if_neg (by omega)]
  · rw [List.getElem?_append_right (by omega)]
    by_cases h2 : j = l.length
    · subst h2; simp
    · rw [if_neg h2, List.getElem?_eq_none (by simp; omega), List.getElem?_eq_none (by omega)]
theorem namU_cnt (l : List Ev) (hp : ∀ i, i < l.length → prc l i < 5) : ∀ i, i ≤ l.length → ∀ p, p < 5 → (namU l i).2.getD p 0 = (cntP l p i : Int)
  | 0, _, p, h5 => by
    show (List.replicate 5 (0 : Int)).getD p 0 = 0
    rw [List.getD_eq_getElem?_getD, List.getElem?_replicate, if_pos h5]; rfl
  | i + 1, hi, p, h5 => by
    have ih := namU_cnt l hp i (by omega)
    have hpi := hp i (by omega)
    have e1 : (l.getD i (0, 0, ())).1.toNat = prc l i := rfl
    simp only [namU, e1]
    rw [getDI_set (by rw [(namU_len l i).2]; exact hpi), ih _ hpi]
    simp only [cntP]
    by_cases h : prc l i = p
    · subst h; rw [if_pos rfl, if_pos rfl]; omega
    · rw [if_neg h, if_neg h]; exact ih p h5
theorem namU_at (l : List Ev) (hp : ∀ i, i < l.length → prc l i < 5) (hf : ∀ i, i < l.length → frm l i < (i : Int)) : ∀ m, m ≤ l.length → ∀ i, i < m → ∀ z, (namU l m).1.getD i z = neE l i
  | 0, _, i, h, _ => absurd h (Nat.not_lt_zero _)
  | m + 1, hm, i, h, z => by
    have ih := namU_at l hp hf m (by omega)
    have hl := (namU_len l m).1
    have hpm := hp m (by omega)
    have hfm := hf m (by omega)
    have hc := namU_cnt l hp m (by omega)
    simp only [namU]
    rw [getDA_app, hl]
    by_cases hi : i = m
    · subst hi
      rw [if_pos rfl]
      have e1 : (l.getD i (0, 0, ())).1.toNat = prc l i := rfl
      have e2 : (l.getD i (0, 0, ())).2.1 = frm l i := rfl
      simp only [e1, e2, hc _ hpm]
      unfold neE nmE hrE
      by_cases h0 : 0 ≤ frm l i
      · rw [if_pos h0, if_pos h0, ih (frm l i).toNat (by omega)]
        rfl
      · rw [if_neg h0, if_neg h0]
    · rw [if_neg hi]; exact ih i (by omega) z
theorem nmd_len (l : List Ev) : (nmd l).length = l.length := (namU_len l _).1
theorem nmd_at {l : List Ev} (hp : ∀ i, i < l.length → prc l i < 5) (hf : ∀ i, i < l.length → frm l i < (i : Int)) {i : Nat} (hi : i < l.length) (z : NE) : (nmd l).getD i z = neE l i := namU_at l hp hf l.length (Nat.le_refl _) i hi z

/-- names part the events -/
theorem nmE_inj {l : List Ev} {i j : Nat} (hij : i < j) : nmE l i ≠ nmE l j := by
  intro h
  simp only [nmE, List.cons.injEq, and_true] at h
  obtain ⟨h1, h2⟩ := h
  have hp : prc l i = prc l j := by unfold prc; rw [h1]
  rw [hp] at h2
  have h3 : cntP l (prc l j) (i + 1) = cntP l (prc l j) i + 1 := by simp only [cntP]; rw [if_pos hp]
  have h4 := cntP_mono l (prc l j) (i := i + 1) (j := j) (by omega)
  omega

theorem mpGet_put {β : Type} (m : List (List Int × β)) (k : List Int) (y : β) (q : List Int) : mpGet (mpPut m k y) q = if k = q then some y else mpGet m q := by
  induction m with
  | nil => simp only [mpPut, mpGet]
  | cons e r ih =>
    simp only [mpPut]
    by_cases h : e.1 = k
    · rw [if_pos h]
      simp only [mpGet]
      by_cases h2 : k = q
      · rw [if_pos h2, if_pos h2]
      · rw [if_neg h2, if_neg h2, if_neg (by rw [h]; exact h2)]
    · rw [if_neg h]
      simp only [mpGet]
      by_cases h2 : e.1 = q
      · rw [if_pos h2, if_pos h2, if_neg (fun e2 => h (h2.trans e2.symm))]
      · rw [if_neg h2, if_neg h2]; exact ih
theorem putU_succ (L : List NE) {i : Nat} (h : i < L.length) (z : NE) : putU L (i + 1) = mpPut (putU L i) (L.getD i z).1 (L.getD i z).2.1 := by
  unfold putU
  rw [List.take_add_one, List.getElem?_eq_getElem h, List.foldl_append, List.getD_eq_getElem?_getD, List.getElem?_eq_getElem h]
  rfl
theorem putU_get (L : List NE) (z : NE) (hd : ∀ i j, i < j → j < L.length → (L.getD i z).1 ≠ (L.getD j z).1) : ∀ m, m ≤ L.length → ∀ j, j < m → mpGet (putU L m) (L.getD j z).1 = some (L.getD j z).2.1
  | 0, _, j, h => absurd h (Nat.not_lt_zero _)
  | m + 1, hm, j, h => by
    rw [putU_succ L (by omega) z, mpGet_put]
    by_cases hj : j = m
    · subst hj; rw [if_pos rfl]
    · rw [if_neg (fun e => hd j m (by omega) (by omega) e.symm)]
      exact putU_get L z hd m (by omega) j (by omega)

theorem good_prc' {t : Tr} (g : Good t) : ∀ i, i < t.2.1.length → prc t.2.1 i < 5 := by
  intro i hi
  have := g.ev i hi
  have := g.procs
  unfold prc
  omega
theorem good_frm' {t : Tr} (g : Good t) : ∀ i, i < t.2.1.length → frm t.2.1 i < (i : Int) := by
  intro i hi
  have := (g.ev i hi).2.2.2.1
  show (t.2.1.getD i (0, 0, ())).2.1 < _
  omega
theorem mapT_at {t : Tr} (g : Good t) {i : Nat} (hi : i < t.2.1.length) : mpGet (mapT t.2.1) (nmE t.2.1 i) = some (hrE t.2.1 i) := by
  have hat := fun i (hi : i < t.2.1.length) => nmd_at (good_prc' g) (good_frm' g) hi ([0, 0], (0, 0, ()), ())
  have := putU_get (nmd t.2.1) ([0, 0], (0, 0, ()), ()) (fun i j hij hj => by
    rw [nmd_len] at hj
    rw [hat i (by omega), hat j hj]
    exact nmE_inj hij) t.2.1.length (by rw [nmd_len]; exact Nat.le_refl _) i hi
  rw [hat i hi] at this
  exact this
theorem nmd_mem {t : Tr} (g : Good t) {x : NE} (h : x ∈ nmd t.2.1) : ∃ i, i < t.2.1.length ∧ x = neE t.2.1 i := by
  obtain ⟨i, hi⟩ := List.getElem?_of_mem h
  obtain ⟨h1, h2⟩ := List.getElem?_eq_some_iff.1 hi
  rw [nmd_len] at h1
  refine ⟨i, h1, ?_⟩
  rw [← nmd_at (good_prc' g) (good_frm' g) h1 x, List.getD_eq_getElem?_getD, hi]; rfl
/-- two traces whose events have the same names and heard of the same -/
theorem same_of {t u : Tr} (gt : Good t) (gu : Good u) (hp : t.1 = u.1) (hl : t.2.1.length = u.2.1.length) (h : ∀ k, k < u.2.1.length → ∃ j, j < t.2.1.length ∧ neE u.2.1 k = neE t.2.1 j) : sameB t u = true := by
  unfold sameB
  rw [Bool.and_eq_true, Bool.and_eq_true, decide_eq_true_eq, decide_eq_true_eq, List.all_eq_true]
  refine ⟨hp, hl, fun x hx => ?_⟩
  obtain ⟨k, hk, rfl⟩ := nmd_mem gu hx
  obtain ⟨j, hj, e⟩ := h k hk
  rw [e, decide_eq_true_eq]
  exact mapT_at gt hj

/-! Two events told the other way round. -/

def sgN (i k : Nat) : Nat := if k + 1 = i then i else if k = i then i - 1 else k
def sgI (i : Nat) (f : Int) : Int := if f = (i : Int) then (i : Int) - 1 else if f = (i : Int) - 1 then (i : Int) else f
def swE (l : List Ev) (i k : Nat) : Ev := ((l.getD (sgN i k) (0, 0, ())).1, sgI i (l.getD (sgN i k) (0, 0, ())).2.1, ())
def swU (l : List Ev) (i n : Nat) : List Ev := (List.range n).map (swE l i)
def swT (t : Tr) (i : Nat) : Tr := (t.1, swU t.2.1 i t.2.1.length, ())
theorem swU_len (l : List Ev) (i n : Nat) : (swU l i n).length = n := by simp [swU]
theorem swU_at (l : List Ev) (i : Nat) {n k : Nat} (h : k < n) (z : Ev) : (swU l i n).getD k z = swE l i k := by
  unfold swU
  rw [List.getD_eq_getElem?_getD, List.getElem?_map, List.getElem?_range h]; rfl
theorem sgN_lt {i k n : Nat} (h0 : 0 < i) (hi : i < n) (hk : k < n) : sgN i k < n := by unfold sgN; split <;> (try split) <;> omega
theorem sgN_sg {i k : Nat} (h0 : 0 < i) : sgN i (sgN i k) = k := by unfold sgN; split <;> split <;> (try split) <;> omega
theorem sgI_nat {i : Nat} {f : Int} (h0 : 0 < i) (hf : 0 ≤ f) : sgI i f = (sgN i f.toNat : Int) := by
  unfold sgI sgN
  by_cases a : f = (i : Int)
  · rw [if_pos a, if_neg (by omega), if_pos (by omega)]; omega
  · by_cases b : f = (i : Int) - 1
    · rw [if_neg a, if_pos b, if_pos (by omega)]
    · rw [if_neg a, if_neg b, if_neg (by omega), if_neg (by omega)]; omega
theorem sgI_neg {i : Nat} {f : Int} (h0 : 0 < i) (hf : f < 0) : sgI i f = f := by unfold sgI; split <;> (try split) <;> omega

theorem sw_good {t : Tr} {i : Nat} (g : Good t) (h0 : 0 < i) (hi : i < t.2.1.length) (hfr : (t.2.1.getD i (0, 0, ())).2.1 ≠ (i : Int) - 1) : Good (swT t i) := by
  have hlen : (swT t i).2.1.length = t.2.1.length := swU_len _ _ _
  refine ⟨g.procs, by rw [hlen]; exact g.len, fun k hk => ?_⟩
  rw [hlen] at hk
  have hat : ∀ k, k < t.2.1.length → (swT t i).2.1.getD k (0, 0, ()) = swE t.2.1 i k := fun k hk => swU_at t.2.1 i hk _
  have hs := sgN_lt h0 hi hk
  obtain ⟨a1, a2, a3, a4, a5⟩ := g.ev (sgN i k) hs
  rw [hat k hk]
  generalize hq : t.2.1.getD (sgN i k) (0, 0, ()) = e at *
  have he : swE t.2.1 i k = (e.1, sgI i e.2.1, ()) := by unfold swE; rw [hq]
  rw [he]
  show 0 ≤ e.1 ∧ e.1 ≤ t.1 - 1 ∧ -1 ≤ sgI i e.2.1 ∧ sgI i e.2.1 ≤ (k : Int) - 1 ∧ (0 ≤ sgI i e.2.1 → ((swT t i).2.1.getD (sgI i e.2.1).toNat (0, 0, ())).1 ≠ e.1)
  by_cases hf : 0 ≤ e.2.1
  · have hb : (e.2.1.toNat : Int) = e.2.1 := Int.toNat_of_nonneg hf
    have hsg := sgI_nat h0 hf
    have hlt : sgN i e.2.1.toNat < k := by
      have hk2 : sgN i k = i → e.2.1 ≠ (i : Int) - 1 := fun h => by rw [h] at hq; rw [← hq]; exact hfr
      unfold sgN at hk2 a4 ⊢
      split at a4 <;> (try split at a4) <;> split <;> (try split) <;> simp_all <;> omega
    rw [hsg]
    refine ⟨a1, a2, by omega, by omega, fun _ => ?_⟩
    rw [Int.toNat_natCast, hat _ (by omega)]
    show (t.2.1.getD (sgN i (sgN i e.2.1.toNat)) (0, 0, ())).1 ≠ e.1
    rw [sgN_sg h0]
    exact a5 hf
  · rw [sgI_neg h0 (by omega)]
    exact ⟨a1, a2, a3, by omega, fun h => absurd h hf⟩

theorem sw_prc {t : Tr} {i : Nat} {k : Nat} (hk : k < t.2.1.length) : prc (swT t i).2.1 k = prc t.2.1 (sgN i k) := by
  unfold prc
  rw [show (swT t i).2.1.getD k (0, 0, ()) = swE t.2.1 i k from swU_at t.2.1 i hk _]; rfl
theorem sw_frm {t : Tr} {i : Nat} {k : Nat} (hk : k < t.2.1.length) : frm (swT t i).2.1 k = sgI i (frm t.2.1 (sgN i k)) := by
  unfold frm
  rw [show (swT t i).2.1.getD k (0, 0, ()) = swE t.2.1 i k from swU_at t.2.1 i hk _]; rfl

theorem sw_cnt {t : Tr} {i : Nat} (h0 : 0 < i) (p : Nat) : ∀ k, k ≤ t.2.1.length → cntP (swT t i).2.1 p k = if k = i then (if prc t.2.1 i = p then cntP t.2.1 p (i - 1) + 1 else cntP t.2.1 p (i - 1)) else cntP t.2.1 p k
  | 0, _ => by rw [if_neg (by omega)]; rfl
  | k + 1, hk => by
    have ih := sw_cnt (t := t) h0 p k (by omega)
    have hs := sw_prc (t := t) (i := i) (k := k) (by omega)
    have hstep : cntP (swT t i).2.1 p (k + 1) = if prc t.2.1 (sgN i k) = p then cntP (swT t i).2.1 p k + 1 else cntP (swT t i).2.1 p k := by simp only [cntP, hs]
    rw [hstep, ih]
    clear hstep ih hs
    by_cases h1 : k + 1 = i
    · have e1 : sgN i k = i := by unfold sgN; rw [if_pos h1]
      have e2 : i - 1 = k := by omega
      have hki : ¬ k = i := by omega
      simp only [if_pos h1, if_neg hki, e1, e2]
    · rw [if_neg h1]
      by_cases h2 : k = i
      · subst h2
        have e1 : sgN k k = k - 1 := by unfold sgN; rw [if_neg (by omega), if_pos rfl]
        obtain ⟨m, rfl⟩ : ∃ m, k = m + 1 := ⟨k - 1, by omega⟩
        rw [if_pos rfl, e1, Nat.add_sub_cancel]
        simp only [cntP]
        split <;> split <;> omega
      · have e1 : sgN i k = k := by unfold sgN; rw [if_neg h1, if_neg h2]
        rw [if_neg h2, e1]
        simp only [cntP]

theorem sw_cnt_at {t : Tr} {i : Nat} (g : Good t) (h0 : 0 < i) (hi : i < t.2.1.length) (hpr : (t.2.1.getD i (0, 0, ())).1 ≠ (t.2.1.getD (i - 1) (0, 0, ())).1) {k : Nat} (hk : k < t.2.1.length) : cntP (swT t i).2.1 (prc t.2.1 (sgN i k)) k = cntP t.2.1 (prc t.2.1 (sgN i k)) (sgN i k) := by
  rw [sw_cnt h0 _ k (by omega)]
  have hne : prc t.2.1 i ≠ prc t.2.1 (i - 1) := by
    have a1 := (g.ev i hi).1
    have a2 := (g.ev (i - 1) (by omega)).1
    unfold prc
    omega
  obtain ⟨m, rfl⟩ : ∃ m, i = m + 1 := ⟨i - 1, by omega⟩
  by_cases h1 : k + 1 = m + 1
  · have e1 : sgN (m + 1) k = m + 1 := by unfold sgN; rw [if_pos h1]
    have e2 : k = m := by omega
    subst e2
    rw [if_neg (by omega), e1]
    simp only [cntP]
    rw [if_neg (fun e => hne (by simpa using e.symm))]
  · by_cases h2 : k = m + 1
    · subst h2
      have e1 : sgN (m + 1) (m + 1) = m := by unfold sgN; rw [if_neg (by omega), if_pos rfl]; rfl
      rw [if_pos rfl, e1, if_neg (by simpa using hne)]
      rfl
    · have e1 : sgN (m + 1) k = k := by unfold sgN; rw [if_neg h1, if_neg h2]
      rw [if_neg h2, e1]

theorem sw_ne {t : Tr} {i : Nat} (g : Good t) (h0 : 0 < i) (hi : i < t.2.1.length) (hpr : (t.2.1.getD i (0, 0, ())).1 ≠ (t.2.1.getD (i - 1) (0, 0, ())).1) {k : Nat} (hk : k < t.2.1.length) : neE (swT t i).2.1 k = neE t.2.1 (sgN i k) := by
  have hs := sgN_lt h0 hi hk
  have hat : ∀ k, k < t.2.1.length → (swT t i).2.1.getD k (0, 0, ()) = swE t.2.1 i k := fun k hk => swU_at t.2.1 i hk _
  have h1 : nmE (swT t i).2.1 k = nmE t.2.1 (sgN i k) := by
    unfold nmE
    rw [hat k hk, sw_prc hk, sw_cnt_at g h0 hi hpr hk]; rfl
  have h2 : hrE (swT t i).2.1 k = hrE t.2.1 (sgN i k) := by
    unfold hrE
    rw [sw_frm hk]
    by_cases hf : 0 ≤ frm t.2.1 (sgN i k)
    · have hlt := good_frm' g (sgN i k) hs
      have hfl : (frm t.2.1 (sgN i k)).toNat < t.2.1.length := by omega
      have hsl := sgN_lt h0 hi hfl
      rw [sgI_nat h0 hf, if_pos hf, if_pos (by omega), Int.toNat_natCast, hat _ hsl, sw_prc hsl, sw_cnt_at g h0 hi hpr hsl]
      unfold swE
      rw [sgN_sg h0]
    · rw [sgI_neg h0 (by omega), if_neg hf, if_neg hf]
  unfold neE
  rw [h1, h2]

theorem sw_same {t : Tr} {i : Nat} (g : Good t) (h0 : 0 < i) (hi : i < t.2.1.length) (hpr : (t.2.1.getD i (0, 0, ())).1 ≠ (t.2.1.getD (i - 1) (0, 0, ())).1) (hfr : (t.2.1.getD i (0, 0, ())).2.1 ≠ (i : Int) - 1) : sameB t (swT t i) = true ∧ sameB (swT t i) t = true := by
  have gu := sw_good g h0 hi hfr
  have hlen : (swT t i).2.1.length = t.2.1.length := swU_len _ _ _
  refine ⟨same_of g gu rfl hlen.symm fun k hk => ?_, same_of gu g rfl hlen fun k hk => ?_⟩
  · rw [hlen] at hk
    exact ⟨sgN i k, sgN_lt h0 hi hk, sw_ne g h0 hi hpr hk⟩
  · refine ⟨sgN i k, by rw [hlen]; exact sgN_lt h0 hi hk, ?_⟩
    rw [sw_ne g h0 hi hpr (sgN_lt h0 hi hk), sgN_sg h0]

theorem same_self {t : Tr} (g : Good t) : sameB t t = true := same_of g g rfl rfl fun k hk => ⟨k, hk, rfl⟩

/-- a trace all of whose events are right is right -/
theorem chk_of {t : Tr} (g : Good t) : chk t = 0 := by
  have h1 : inB t.1 1 5 = true := by simp [inB, g.procs.1, g.procs.2]
  have h2 : ∀ i, i < t.2.1.length → evErr t.1 t.2.1 i = 0 := by
    intro i hi
    obtain ⟨a1, a2, a3, a4, a5⟩ := g.ev i hi
    unfold evErr
    have hb : (inB (t.2.1.getD i (0, 0, ())).1 0 (t.1 - 1) && inB (t.2.1.getD i (0, 0, ())).2.1 (-1) ((i : Int) - 1)) = true := by
      simp only [inB, Bool.and_eq_true, decide_eq_true_eq]; exact ⟨⟨a1, a2⟩, a3, a4⟩
    rw [if_neg (by rw [hb]; decide), if_neg]
    rintro ⟨b1, b2⟩
    exact a5 b1 b2
  have h3 : ∀ f i, i + f ≤ t.2.1.length → evsErr t.1 t.2.1 f i = 0 := by
    intro f
    induction f with
    | zero => intro i _; rfl
    | succ f ih =>
      intro i hi
      simp only [evsErr]
      rw [if_pos (h2 i (by omega))]
      exact ih (i + 1) (by omega)
  unfold chk
  rw [if_neg (by rw [h1]; decide), if_neg (by have := g.len; omega)]
  exact h3 _ 0 (by omega)
end Go.Proofs.Ytgbpjjinhjikeaa

/- What the functions of this seat have to satisfy, by program: each verification condition in plain words. -/
namespace Go.Proofs.Ytgbpjjinhjikeaa
open Go.Vc
set_option linter.unusedVariables false
theorem vcNamed (t : Tr) (k : List Dat → Prop) : vcF ⟨Em, [], [], [], []⟩ (anNamed t) (Try.f27.body.getD .skip) Try.f27.ntmps [(.tmp 2, .sl tNE)] [⟨tTr, t⟩] k = (
  (∃ (x : Nat), (x ≤ t.snd.fst.length ∧ True) ∧ (([] : List Nat) = [] ∧ ([] : List Nat) = [] ∧ True ∧ t.snd.fst = t.snd.fst ∧ (↑(List.length t.snd.fst) : Int) = (↑(List.length t.snd.fst) : Int) ∧ (0 : Int) = (↑x : Int) ∧ True) ∧ (((24 : Nat) = (24 : Nat) ∧ t = t) ∧ ((55 : Nat) = (55 : Nat) ∧ List.replicate (5 : Nat) (0 : Int) = (namU t.snd.fst x).snd) ∧ ((61 : Nat) = (61 : Nat) ∧ [] = (namU t.snd.fst x).fst) ∧ True) ∧ True) ∧ ∀ (x : Nat), x ≤ t.snd.fst.length ∧ True → (decide ((↑x : Int) < (↑(List.length t.snd.fst) : Int)) = true → (0 : Int) ≤ (↑x : Int) ∧ (↑x : Int) < (↑(List.length t.snd.fst) : Int) ∧ (0 : Int) ≤ (List.getD t.snd.fst (↑x : Int).toNat ((0 : Int), (0 : Int), ())).fst ∧ (List.getD t.snd.fst (↑x : Int).toNat ((0 : Int), (0 : Int), ())).fst < (↑(5 : Nat) : Int) ∧ (0 : Int) ≤ (List.getD t.snd.fst (↑x : Int).toNat ((0 : Int), (0 : Int), ())).fst ∧ (List.getD t.snd.fst (↑x : Int).toNat ((0 : Int), (0 : Int), ())).fst < (↑(5 : Nat) : Int) ∧ (SV.pv (tTr) (0 : Nat) [] = SV.pv (tTr) (0 : Nat) [] ∧ SV.pv (Ty.ar (5 : Nat) (I)) (1 : Nat) [] = SV.pv (Ty.ar (5 : Nat) (I)) (1 : Nat) [] ∧ SV.os (2 : Nat) = SV.os (2 : Nat) ∧ SV.pv (tEv) (3 : Nat) [] = SV.pv (tEv) (3 : Nat) [] ∧ t.snd.fst = t.snd.fst ∧ (↑(List.length t.snd.fst) : Int) = (↑(List.length t.snd.fst) : Int) ∧ (↑x : Int) = (↑x : Int) ∧ decide ((↑x : Int) < (↑(List.length t.snd.fst) : Int)) = decide ((↑x : Int) < (↑(List.length t.snd.fst) : Int)) ∧ SV.ra (tEv) (List.getD t.snd.fst (↑x : Int).toNat ((0 : Int), (0 : Int), ())) = SV.ra (tEv) (List.getD t.snd.fst (↑x : Int).toNat ((0 : Int), (0 : Int), ())) ∧ List.getD t.snd.fst (↑x : Int).toNat ((0 : Int), (0 : Int), ()) = List.getD t.snd.fst (↑x : Int).toNat ((0 : Int), (0 : Int), ()) ∧ SV.pv (tEv) (3 : Nat) ([] ++ [(0 : Nat)]) = SV.pv (tEv) (3 : Nat) ([] ++ [(0 : Nat)]) ∧ (List.getD t.snd.fst (↑x : Int).toNat ((0 : Int), (0 : Int), ())).fst = (List.getD t.snd.fst (↑x : Int).toNat ((0 : Int), (0 : Int), ())).fst ∧ SV.pv (tEv) (3 : Nat) ([] ++ [(0 : Nat)]) = SV.pv (tEv) (3 : Nat) ([] ++ [(0 : Nat)]) ∧ (List.getD t.snd.fst (↑x : Int).toNat ((0 : Int), (0 : Int), ())).fst = (List.getD t.snd.fst (↑x : Int).toNat ((0 : Int), (0 : Int), ())).fst ∧ SV.pv (Ty.ar (5 : Nat) (I)) (1 : Nat) ([] ++ [Int.toNat (List.getD t.snd.fst (↑x : Int).toNat ((0 : Int), (0 : Int), ())).fst]) = SV.pv (Ty.ar (5 : Nat) (I)) (1 : Nat) ([] ++ [Int.toNat (List.getD t.snd.fst (↑x : Int).toNat ((0 : Int), (0 : Int), ())).fst]) ∧ (namU t.snd.fst x).snd.getD (Int.toNat (List.getD t.snd.fst (↑x : Int).toNat ((0 : Int), (0 : Int), ())).fst) (0 : Int) = (namU t.snd.fst x).snd.getD (Int.toNat (List.getD t.snd.fst (↑x : Int).toNat ((0 : Int), (0 : Int), ())).fst) (0 : Int) ∧ ((List.replicate (2 : Nat) (0 : Int)).set (0 : Nat) (List.getD t.snd.fst (↑x : Int).toNat ((0 : Int), (0 : Int), ())).fst).set (1 : Nat) ((namU t.snd.fst x).snd.getD (Int.toNat (List.getD t.snd.fst (↑x : Int).toNat ((0 : Int), (0 : Int), ())).fst) (0 : Int)) = ((List.replicate (2 : Nat) (0 : Int)).set (0 : Nat) (List.getD t.snd.fst (↑x : Int).toNat ((0 : Int), (0 : Int), ())).fst).set (1 : Nat) ((namU t.snd.fst x).snd.getD (Int.toNat (List.getD t.snd.fst (↑x : Int).toNat ((0 : Int), (0 : Int), ())).fst) (0 : Int)) ∧ ((-1 : Int), (-1 : Int), ()) = ((-1 : Int), (-1 : Int), ()) ∧ (((List.replicate (2 : Nat) (0 : Int)).set (0 : Nat) (List.getD t.snd.fst (↑x : Int).toNat ((0 : Int), (0 : Int), ())).fst).set (1 : Nat) ((namU t.snd.fst x).snd.getD (Int.toNat (List.getD t.snd.fst (↑x : Int).toNat ((0 : Int), (0 : Int), ())).fst) (0 : Int)), ((-1 : Int), (-1 : Int), ()), ()) = (((List.replicate (2 : Nat) (0 : Int)).set (0 : Nat) (List.getD t.snd.fst (↑x : Int).toNat ((0 : Int), (0 : Int), ())).fst).set (1 : Nat) ((namU t.snd.fst x).snd.getD (Int.toNat (List.getD t.snd.fst (↑x : Int).toNat ((0 : Int), (0 : Int), ())).fst) (0 : Int)), ((-1 : Int), (-1 : Int), ()), ()) ∧ True) ∧ (decide ((0 : Int) ≤ (List.getD t.snd.fst (↑x : Int).toNat ((0 : Int), (0 : Int), ())).snd.fst) = true → (0 : Int) ≤ (List.getD t.snd.fst (↑x : Int).toNat ((0 : Int), (0 : Int), ())).snd.fst ∧ (List.getD t.snd.fst (↑x : Int).toNat ((0 : Int), (0 : Int), ())).snd.fst < (↑(namU t.snd.fst x).fst.length : Int) ∧ (0 : Int) ≤ (0 : Int) ∧ (0 : Int) < (↑(2 : Nat) : Int) ∧ (0 : Int) ≤ (List.getD t.snd.fst (↑x : Int).toNat ((0 : Int), (0 : Int), ())).snd.fst ∧ (List.getD t.snd.fst (↑x : Int).toNat ((0 : Int), (0 : Int), ())).snd.fst < (↑(namU t.snd.fst x).fst.length : Int) ∧ (0 : Int) ≤ (1 : Int) ∧ (1 : Int) < (↑(2 : Nat) : Int) ∧ (0 : Int) ≤ (List.getD t.snd.fst (↑x : Int).toNat ((0 : Int), (0 : Int), ())).fst ∧ (List.getD t.snd.fst (↑x : Int).toNat ((0 : Int), (0 : Int), ())).fst < (↑(5 : Nat) : Int) ∧ inK IntKind.i64 ((namU t.snd.fst x).snd.getD (Int.toNat (List.getD t.snd.fst (↑x : Int).toNat ((0 : Int), (0 : Int), ())).fst) (0 : Int) + (1 : Int)) ∧ (0 : Int) ≤ (List.getD t.snd.fst (↑x : Int).toNat ((0 : Int), (0 : Int), ())).fst ∧ (List.getD t.snd.fst (↑x : Int).toNat ((0 : Int), (0 : Int), ())).fst < (↑(5 : Nat) : Int) ∧ (namU t.snd.fst x).fst.length + ((List.replicate (1 : Nat) (List.replicate (2 : Nat) (0 : Int), ((0 : Int), (0 : Int), ()), ())).set (0 : Nat) (((List.replicate (2 : Nat) (0 : Int)).set (0 : Nat) (List.getD t.snd.fst (↑x : Int).toNat ((0 : Int), (0 : Int), ())).fst).set (1 : Nat) ((namU t.snd.fst x).snd.getD (Int.toNat (List.getD t.snd.fst (↑x : Int).toNat ((0 : Int), (0 : Int), ())).fst) (0 : Int)), (List.getD ((namU t.snd.fst x).fst.getD (Int.toNat (List.getD t.snd.fst (↑x : Int).toNat ((0 : Int), (0 : Int), ())).snd.fst) (List.replicate (2 : Nat) (0 : Int), ((0 : Int), (0 : Int), ()), ())).fst (Int.toNat (0 : Int)) (0 : Int), List.getD ((namU t.snd.fst x).fst.getD (Int.toNat (List.getD t.snd.fst (↑x : Int).toNat ((0 : Int), (0 : Int), ())).snd.fst) (List.replicate (2 : Nat) (0 : Int), ((0 : Int), (0 : Int), ()), ())).fst (Int.toNat (1 : Int)) (0 : Int), ()), ())).length ≤ (1000000000 : Nat) ∧ inK IntKind.i64 ((↑x : Int) + (1 : Int)) ∧ ∃ (x_1 : Nat), (x_1 ≤ t.snd.fst.length ∧ True) ∧ t.snd.fst.length - x_1 < t.snd.fst.length - x ∧ (([] : List Nat) = [] ∧ ([] : List Nat) = [] ∧ True ∧ t.snd.fst = t.snd.fst ∧ (↑(List.length t.snd.fst) : Int) = (↑(List.length t.snd.fst) : Int) ∧ (↑x : Int) + (1 : Int) = (↑x_1 : Int) ∧ True) ∧ (((24 : Nat) = (24 : Nat) ∧ t = t) ∧ ((55 : Nat) = (55 : Nat) ∧ (namU t.snd.fst x).snd.set (Int.toNat (List.getD t.snd.fst (↑x : Int).toNat ((0 : Int), (0 : Int), ())).fst) ((namU t.snd.fst x).snd.getD (Int.toNat (List.getD t.snd.fst (↑x : Int).toNat ((0 : Int), (0 : Int), ())).fst) (0 : Int) + (1 : Int)) = (namU t.snd.fst x_1).snd) ∧ ((61 : Nat) = (61 : Nat) ∧ (namU t.snd.fst x).fst.append ((List.replicate (1 : Nat) (List.replicate (2 : Nat) (0 : Int), ((0 : Int), (0 : Int), ()), ())).set (0 : Nat) (((List.replicate (2 : Nat) (0 : Int)).set (0 : Nat) (List.getD t.snd.fst (↑x : Int).toNat ((0 : Int), (0 : Int), ())).fst).set (1 : Nat) ((namU t.snd.fst x).snd.getD (Int.toNat (List.getD t.snd.fst (↑x : Int).toNat ((0 : Int), (0 : Int), ())).fst) (0 : Int)), (List.getD ((namU t.snd.fst x).fst.getD (Int.toNat (List.getD t.snd.fst (↑x : Int).toNat ((0 : Int), (0 : Int), ())).snd.fst) (List.replicate (2 : Nat) (0 : Int), ((0 : Int), (0 : Int), ()), ())).fst (Int.toNat (0 : Int)) (0 : Int), List.getD ((namU t.snd.fst x).fst.getD (Int.toNat (List.getD t.snd.fst (↑x : Int).toNat ((0 : Int), (0 : Int), ())).snd.fst) (List.replicate (2 : Nat) (0 : Int), ((0 : Int), (0 : Int), ()), ())).fst (Int.toNat (1 : Int)) (0 : Int), ()), ())) = (namU t.snd.fst x_1).fst) ∧ True) ∧ True) ∧ (decide ((0 : Int) ≤ (List.getD t.snd.fst (↑x : Int).toNat ((0 : Int), (0 : Int), ())).snd.fst) = false → (0 : Int) ≤ (List.getD t.snd.fst (↑x : Int).toNat ((0 : Int), (0 : Int), ())).fst ∧ (List.getD t.snd.fst (↑x : Int).toNat ((0 : Int), (0 : Int), ())).fst < (↑(5 : Nat) : Int) ∧ inK IntKind.i64 ((namU t.snd.fst x).snd.getD (Int.toNat (List.getD t.snd.fst (↑x : Int).toNat ((0 : Int), (0 : Int), ())).fst) (0 : Int) + (1 : Int)) ∧ (0 : Int) ≤ (List.getD t.snd.fst (↑x : Int).toNat ((0 : Int), (0 : Int), ())).fst ∧ (List.getD t.snd.fst (↑x : Int).toNat ((0 : Int), (0 : Int), ())).fst < (↑(5 : Nat) : Int) ∧ (namU t.snd.fst x).fst.length + ((List.replicate (1 : Nat) (List.replicate (2 : Nat) (0 : Int), ((0 : Int), (0 : Int), ()), ())).set (0 : Nat) (((List.replicate (2 : Nat) (0 : Int)).set (0 : Nat) (List.getD t.snd.fst (↑x : Int).toNat ((0 : Int), (0 : Int), ())).fst).set (1 : Nat) ((namU t.snd.fst x).snd.getD (Int.toNat (List.getD t.snd.fst (↑x : Int).toNat ((0 : Int), (0 : Int), ())).fst) (0 : Int)), ((-1 : Int), (-1 : Int), ()), ())).length ≤ (1000000000 : Nat) ∧ inK IntKind.i64 ((↑x : Int) + (1 : Int)) ∧ ∃ (x_1 : Nat), (x_1 ≤ t.snd.fst.length ∧ True) ∧ t.snd.fst.length - x_1 < t.snd.fst.length - x ∧ (([] : List Nat) = [] ∧ ([] : List Nat) = [] ∧ True ∧ t.snd.fst = t.snd.fst ∧ (↑(List.length t.snd.fst) : Int) = (↑(List.length t.snd.fst) : Int) ∧ (↑x : Int) + (1 : Int) = (↑x_1 : Int) ∧ True) ∧ (((24 : Nat) = (24 : Nat) ∧ t = t) ∧ ((55 : Nat) = (55 : Nat) ∧ (namU t.snd.fst x).snd.set (Int.toNat (List.getD t.snd.fst (↑x : Int).toNat ((0 : Int), (0 : Int), ())).fst) ((namU t.snd.fst x).snd.getD (Int.toNat (List.getD t.snd.fst (↑x : Int).toNat ((0 : Int), (0 : Int), ())).fst) (0 : Int) + (1 : Int)) = (namU t.snd.fst x_1).snd) ∧ ((61 : Nat) = (61 : Nat) ∧ (namU t.snd.fst x).fst.append ((List.replicate (1 : Nat) (List.replicate (2 : Nat) (0 : Int), ((0 : Int), (0 : Int), ()), ())).set (0 : Nat) (((List.replicate (2 : Nat) (0 : Int)).set (0 : Nat) (List.getD t.snd.fst (↑x : Int).toNat ((0 : Int), (0 : Int), ())).fst).set (1 : Nat) ((namU t.snd.fst x).snd.getD (Int.toNat (List.getD t.snd.fst (↑x : Int).toNat ((0 : Int), (0 : Int), ())).fst) (0 : Int)), ((-1 : Int), (-1 : Int), ()), ())) = (namU t.snd.fst x_1).fst) ∧ True) ∧ True)) ∧ (decide ((↑x : Int) < (↑(List.length t.snd.fst) : Int)) = false → k [Dat.mk ((Ty.ar (2 : Nat) (I)).pr ((tEv).pr Ty.un)).sl (namU t.snd.fst x).fst])) := by kernel_rfl
theorem vcSame2 (t u : Tr) (k : List Dat → Prop) : vcF ⟨Em, [(26, cCheck), (27, cNamed)], [], [], []⟩ (anSame2 t u) (Try.f15.body.getD .skip) Try.f15.ntmps [(.tmp 4, .bool), (.tmp 5, tErr)] [⟨tTr, t⟩, ⟨tTr, u⟩] k = (
  True ∧ ((!decide (chk t = (0 : Int))) = true → k [Dat.mk Ty.bool false, Dat.mk (Ty.err (71 : Nat)) (chk t)]) ∧ ((!decide (chk t = (0 : Int))) = false → True ∧ ((!decide (chk u = (0 : Int))) = true → k [Dat.mk Ty.bool false, Dat.mk (Ty.err (71 : Nat)) (chk u)]) ∧ ((!decide (chk u = (0 : Int))) = false → ((!decide (t.fst = u.fst)) = true → k [Dat.mk Ty.bool false, Dat.mk (Ty.err (71 : Nat)) (0 : Int)]) ∧ ((!decide (t.fst = u.fst)) = false → ((!decide ((↑(List.length t.snd.fst) : Int) = (↑(List.length u.snd.fst) : Int))) = true → k [Dat.mk Ty.bool false, Dat.mk (Ty.err (71 : Nat)) (0 : Int)]) ∧ ((!decide ((↑(List.length t.snd.fst) : Int) = (↑(List.length u.snd.fst) : Int))) = false → (chk t = (0 : Int) ∧ True) ∧ (∃ (x : Nat), (x ≤ t.snd.fst.length ∧ True) ∧ (([] : List Nat) = [] ∧ ([] : List Nat) = [] ∧ True ∧ nmd t.snd.fst = nmd t.snd.fst ∧ (↑(nmd t.snd.fst).length : Int) = (↑(nmd t.snd.fst).length : Int) ∧ (0 : Int) = (↑x : Int) ∧ True) ∧ (((24 : Nat) = (24 : Nat) ∧ t = t) ∧ ((24 : Nat) = (24 : Nat) ∧ u = u) ∧ ((2 : Nat) = (2 : Nat) ∧ [] = putU (nmd t.snd.fst) x) ∧ True) ∧ True) ∧ ∀ (x : Nat), x ≤ t.snd.fst.length ∧ True → (decide ((↑x : Int) < (↑(nmd t.snd.fst).length : Int)) = true → (0 : Int) ≤ (↑x : Int) ∧ (↑x : Int) < (↑(nmd t.snd.fst).length : Int) ∧ inK IntKind.i64 ((↑x : Int) + (1 : Int)) ∧ ∃ (x_1 : Nat), (x_1 ≤ t.snd.fst.length ∧ True) ∧ t.snd.fst.length - x_1 < t.snd.fst.length - x ∧ (([] : List Nat) = [] ∧ ([] : List Nat) = [] ∧ True ∧ nmd t.snd.fst = nmd t.snd.fst ∧ (↑(nmd t.snd.fst).length : Int) = (↑(nmd t.snd.fst).length : Int) ∧ (↑x : Int) + (1 : Int) = (↑x_1 : Int) ∧ True) ∧ (((24 : Nat) = (24 : Nat) ∧ t = t) ∧ ((24 : Nat) = (24 : Nat) ∧ u = u) ∧ ((2 : Nat) = (2 : Nat) ∧ mpPut (putU (nmd t.snd.fst) x) ((nmd t.snd.fst).getD (↑x : Int).toNat (List.replicate (2 : Nat) (0 : Int), ((0 : Int), (0 : Int), ()), ())).fst ((nmd t.snd.fst).getD (↑x : Int).toNat (List.replicate (2 : Nat) (0 : Int), ((0 : Int), (0 : Int), ()), ())).snd.fst = putU (nmd t.snd.fst) x_1) ∧ True) ∧ True) ∧ (decide ((↑x : Int) < (↑(nmd t.snd.fst).length : Int)) = false → (chk u = (0 : Int) ∧ True) ∧ (∃ (x_1 : Nat), (x_1 ≤ u.snd.fst.length ∧ ∀ (j : Nat), j < x_1 → mpGet (mapT t.snd.fst) ((nmd u.snd.fst).getD j ([(0 : Int), (0 : Int)], ((0 : Int), (0 : Int), ()), ())).fst = some ((nmd u.snd.fst).getD j ([(0 : Int), (0 : Int)], ((0 : Int), (0 : Int), ()), ())).snd.fst) ∧ (([] : List Nat) = [] ∧ ([] : List Nat) = [] ∧ True ∧ nmd u.snd.fst = nmd u.snd.fst ∧ (↑(nmd u.snd.fst).length : Int) = (↑(nmd u.snd.fst).length : Int) ∧ (0 : Int) = (↑x_1 : Int) ∧ True) ∧ (((24 : Nat) = (24 : Nat) ∧ t = t) ∧ ((24 : Nat) = (24 : Nat) ∧ u = u) ∧ ((2 : Nat) = (2 : Nat) ∧ putU (nmd t.snd.fst) x = mapT t.snd.fst) ∧ True) ∧ True) ∧ ∀ (x : Nat), (x ≤ u.snd.fst.length ∧ ∀ (j : Nat), j < x → mpGet (mapT t.snd.fst) ((nmd u.snd.fst).getD j ([(0 : Int), (0 : Int)], ((0 : Int), (0 : Int), ()), ())).fst = some ((nmd u.snd.fst).getD j ([(0 : Int), (0 : Int)], ((0 : Int), (0 : Int), ()), ())).snd.fst) → (decide ((↑x : Int) < (↑(nmd u.snd.fst).length : Int)) = true → (0 : Int) ≤ (↑x : Int) ∧ (↑x : Int) < (↑(nmd u.snd.fst).length : Int) ∧ ((!(mpGet (mapT t.snd.fst) ((nmd u.snd.fst).getD (↑x : Int).toNat (List.replicate (2 : Nat) (0 : Int), ((0 : Int), (0 : Int), ()), ())).fst).isSome) = true → k [Dat.mk Ty.bool false, Dat.mk (Ty.err (71 : Nat)) (0 : Int)]) ∧ ((!(mpGet (mapT t.snd.fst) ((nmd u.snd.fst).getD (↑x : Int).toNat (List.replicate (2 : Nat) (0 : Int), ((0 : Int), (0 : Int), ()), ())).fst).isSome) = false → ((!(decide ((match mpGet (mapT t.snd.fst) ((nmd u.snd.fst).getD (↑x : Int).toNat (List.replicate (2 : Nat) (0 : Int), ((0 : Int), (0 : Int), ()), ())).fst with | some x => x | none => ((0 : Int), (0 : Int), ())).fst = ((nmd u.snd.fst).getD (↑x : Int).toNat (List.replicate (2 : Nat) (0 : Int), ((0 : Int), (0 : Int), ()), ())).snd.fst.fst) && (decide ((match mpGet (mapT t.snd.fst) ((nmd u.snd.fst).getD (↑x : Int).toNat (List.replicate (2 : Nat) (0 : Int), ((0 : Int), (0 : Int), ()), ())).fst with | some x => x | none => ((0 : Int), (0 : Int), ())).snd.fst = ((nmd u.snd.fst).getD (↑x : Int).toNat (List.replicate (2 : Nat) (0 : Int), ((0 : Int), (0 : Int), ()), ())).snd.fst.snd.fst) && true))) = true → k [Dat.mk Ty.bool false, Dat.mk (Ty.err (71 : Nat)) (0 : Int)]) ∧ ((!(decide ((match mpGet (mapT t.snd.fst) ((nmd u.snd.fst).getD (↑x : Int).toNat (List.replicate (2 : Nat) (0 : Int), ((0 : Int), (0 : Int), ()), ())).fst with | some x => x | none => ((0 : Int), (0 : Int), ())).fst = ((nmd u.snd.fst).getD (↑x : Int).toNat (List.replicate (2 : Nat) (0 : Int), ((0 : Int), (0 : Int), ()), ())).snd.fst.fst) && (decide ((match mpGet (mapT t.snd.fst) ((nmd u.snd.fst).getD (↑x : Int).toNat (List.replicate (2 : Nat) (0 : Int), ((0 : Int), (0 : Int), ()), ())).fst with | some x => x | none => ((0 : Int), (0 : Int), ())).snd.fst = ((nmd u.snd.fst).getD (↑x : Int).toNat (List.replicate (2 : Nat) (0 : Int), ((0 : Int), (0 : Int), ()), ())).snd.fst.snd.fst) && true))) = false → inK IntKind.i64 ((↑x : Int) + (1 : Int)) ∧ ∃ (x_1 : Nat), (x_1 ≤ u.snd.fst.length ∧ ∀ (j : Nat), j < x_1 → mpGet (mapT t.snd.fst) ((nmd u.snd.fst).getD j ([(0 : Int), (0 : Int)], ((0 : Int), (0 : Int), ()), ())).fst = some ((nmd u.snd.fst).getD j ([(0 : Int), (0 : Int)], ((0 : Int), (0 : Int), ()), ())).snd.fst) ∧ u.snd.fst.length - x_1 < u.snd.fst.length - x ∧ (([] : List Nat) = [] ∧ ([] : List Nat) = [] ∧ True ∧ nmd u.snd.fst = nmd u.snd.fst ∧ (↑(nmd u.snd.fst).length : Int) = (↑(nmd u.snd.fst).length : Int) ∧ (↑x : Int) + (1 : Int) = (↑x_1 : Int) ∧ True) ∧ (((24 : Nat) = (24 : Nat) ∧ t = t) ∧ ((24 : Nat) = (24 : Nat) ∧ u = u) ∧ ((2 : Nat) = (2 : Nat) ∧ mapT t.snd.fst = mapT t.snd.fst) ∧ True) ∧ True))) ∧ (decide ((↑x : Int) < (↑(nmd u.snd.fst).length : Int)) = false → k [Dat.mk Ty.bool true, Dat.mk (Ty.err (71 : Nat)) (0 : Int)]))))))) := by kernel_rfl
end Go.Proofs.Ytgbpjjinhjikeaa

/- Traces told in another order: names, and whether two traces are one: the functions keep their contracts. -/
namespace Go.Proofs.Ytgbpjjinhjikeaa
open Go.Vc

theorem named_vc (t : Tr) (h : chk t = 0) (k : List Dat → Prop) (hk : k [⟨.sl tNE, nmd t.2.1⟩]) : vcF ⟨Em, [], [], [], []⟩ (anNamed t) (Try.f27.body.getD .skip) Try.f27.ntmps [(.tmp 2, .sl tNE)] [⟨tTr, t⟩] k := by
  rw [vcNamed]
  have g := good_of h
  have hlen := g.len
  have hpr := g.procs
  simp only [decide_eq_true_eq, decide_eq_false_iff_not, and_true, true_and, Int.toNat_natCast, eq_self, inK_i64, List.set_cons_zero, List.length_cons, List.length_nil, List.length_set, List.length_replicate]
  refine ⟨⟨0, Nat.zero_le _, rfl, rfl, rfl⟩, fun x hx => ⟨fun hlt => ?_, fun hge => ?_⟩⟩
  · have hxl : x < t.2.1.length := by omega
    obtain ⟨p0, p1, f0, f1, _⟩ := g.ev x hxl
    obtain ⟨l1, l2⟩ := namU_len t.2.1 x
    have hp5 : (t.2.1.getD x (0, 0, ())).1.toNat < 5 := by omega
    have hc := namU_cnt t.2.1 (good_prc' g) x (by omega) _ hp5
    have hcl := cntP_le t.2.1 (t.2.1.getD x (0, 0, ())).1.toNat x
    have e5 : ((5 : Nat) : Int) = 5 := rfl
    have e2 : ((2 : Nat) : Int) = 2 := rfl
    simp only [e5, e2]
    refine ⟨by omega, hlt, p0, by omega, p0, by omega, fun hf => ?_, fun hf => ?_⟩
    · refine ⟨hf, by omega, by omega, by omega, hf, by omega, by omega, by omega, p0, by omega, by omega, p0, by omega, by omega, by omega, x + 1, by omega, by omega, by omega, rfl, ?_⟩
      simp only [namU, if_pos hf]
      rfl
    · refine ⟨p0, by omega, by omega, p0, by omega, by omega, by omega, x + 1, by omega, by omega, by omega, rfl, ?_⟩
      simp only [namU, if_neg hf]
      rfl
  · have : x = t.2.1.length := by omega
    subst this
    exact hk
theorem okNamed : PlainOk Try.prog [] 27 cNamed := by
  refine plain_of (CxOk.mk' Em_ok (by kernel_rfl) mixed (gl := []) GOk.nil GoOk.nil noIt) Try.func27 (c := Try.f27.body.getD .skip) (rvs := [(.tmp 2, .sl tNE)]) (by kernel_rfl) (by kernel_rfl) (by kernel_rfl) ?_
  intro ds k ⟨hp, hk⟩ hwf
  obtain ⟨t, rfl, h, -⟩ := dest1 hp
  exact ⟨anNamed t, named_vc t h k hk⟩

theorem ev_eq {a b : Ev} (h1 : a.1 = b.1) (h2 : a.2.1 = b.2.1) : a = b := by
  obtain ⟨x1, x2, x3⟩ := a
  obtain ⟨b1, b2, b3⟩ := b
  simp only at h1 h2
  subst h1; subst h2; rfl

theorem same2_vc (t u : Tr) (k : List Dat → Prop) (hk : k [⟨.bool, smR t u⟩, ⟨tErr, smErr t u⟩]) : vcF ⟨Em, [(26, cCheck), (27, cNamed)], [], [], []⟩ (anSame2 t u) (Try.f15.body.getD .skip) Try.f15.ntmps [(.tmp 4, .bool), (.tmp 5, tErr)] [⟨tTr, t⟩, ⟨tTr, u⟩] k := by
  rw [vcSame2]
  have ret : ∀ (b : Bool) (e : Int), smErr t u = e → smR t u = b → k [⟨.bool, b⟩, ⟨tErr, e⟩] := by rintro _ _ rfl rfl; exact hk
  simp only [decide_eq_true_eq, decide_eq_false_iff_not, and_true, true_and, Int.toNat_natCast, eq_self, inK_i64, Bool.not_eq_true', Bool.not_eq_false', Bool.and_true, forall_const]
  refine ⟨fun h => ret _ _ (by unfold smErr; rw [if_neg h]) (by unfold smR smErr; rw [if_neg h, decide_eq_false h]; rfl), fun h => ⟨fun h2 => ret _ _ (by unfold smErr; rw [if_pos h]) (by unfold smR smErr; rw [if_pos h, decide_eq_false h2]; rfl), fun h2 => ?_⟩⟩
  have hE : smErr t u = 0 := by unfold smErr; rw [if_pos h]; exact h2
  have hR : smR t u = sameB t u := by unfold smR; rw [hE]; rfl
  have gt := good_of h
  have gu := good_of h2
  have l1 := nmd_len t.2.1
  have l2 := nmd_len u.2.1
  have b1 := gt.len
  have b2 := gu.len
  refine ⟨fun h3 => ret _ _ hE (by rw [hR]; unfold sameB; rw [decide_eq_false h3]; rfl), fun h3 => ⟨fun h4 => ret _ _ hE (by rw [hR]; unfold sameB; rw [decide_eq_true h3, decide_eq_false (by omega)]; rfl), fun h4 => ⟨h, ⟨0, Nat.zero_le _, rfl, rfl⟩, fun x hx => ⟨fun hlt => ?_, fun hge => ?_⟩⟩⟩⟩
  · exact ⟨by omega, hlt, by omega, x + 1, by omega, by omega, by omega, (putU_succ _ (by omega) _).symm⟩
  · have hxe : x = t.2.1.length := by omega
    subst hxe
    refine ⟨h2, ⟨0, ⟨Nat.zero_le _, fun j hj => absurd hj (Nat.not_lt_zero _)⟩, rfl, rfl⟩, fun y ⟨hy, hall⟩ => ⟨fun hlt => ?_, fun hge => ret _ _ hE ?_⟩⟩
    · have hyl : y < (nmd u.2.1).length := by omega
      have hmem : ∀ z, (nmd u.2.1).getD y z ∈ nmd u.2.1 := fun z => by
        rw [List.getD_eq_getElem?_getD, List.getElem?_eq_getElem hyl]; exact List.getElem_mem hyl
      have bad : mpGet (mapT t.2.1) ((nmd u.2.1).getD y (List.replicate 2 0, (0, 0, ()), ())).1 ≠ some ((nmd u.2.1).getD y (List.replicate 2 0, (0, 0, ()), ())).2.1 → smR t u = false := by
        intro hne
        rw [hR]
        cases hs : sameB t u with
        | false => rfl
        | true =>
          unfold sameB at hs
          rw [Bool.and_eq_true, Bool.and_eq_true, List.all_eq_true] at hs
          have := hs.2.2 _ (hmem (List.replicate 2 0, (0, 0, ()), ()))
          rw [decide_eq_true_eq] at this
          exact absurd this hne
      refine ⟨by omega, hlt, fun hn => ret _ _ hE (bad fun e => by rw [e] at hn; cases hn), fun hs => ⟨fun hn => ret _ _ hE (bad fun e => ?_), fun he => ⟨by omega, y + 1, ⟨by omega, fun j hj => ?_⟩, by omega, by omega⟩⟩⟩
      · rw [Bool.and_eq_false_iff, decide_eq_false_iff_not, decide_eq_false_iff_not, e] at hn
        rcases hn with h | h <;> exact h rfl
      · by_cases hj2 : j = y
        · subst hj2
          rw [Bool.and_eq_true, decide_eq_true_eq, decide_eq_true_eq] at he
          obtain ⟨v, hv⟩ := Option.isSome_iff_exists.1 hs
          rw [hv] at he
          exact hv.trans (congrArg some (ev_eq he.1 he.2))
        · exact hall j (by omega)
    · rw [hR]
      have hye : y = u.2.1.length := by omega
      unfold sameB
      rw [Bool.and_eq_true, Bool.and_eq_true, decide_eq_true_eq, decide_eq_true_eq, List.all_eq_true]
      refine ⟨h3, by omega, fun x hx => ?_⟩
      obtain ⟨i, hi⟩ := List.getElem?_of_mem hx
      have hil := (List.getElem?_eq_some_iff.1 hi).1
      have := hall i (by omega)
      rw [List.getD_eq_getElem?_getD, hi] at this
      rw [decide_eq_true_eq]
      exact this

theorem okSame2 : PlainOk Try.prog [] 15 cSame2 := by
  refine plain_of (CxOk.mk' Em_ok (by kernel_rfl) mixed (gl := []) (GOk.cons okCheck Try.func26 (by kernel_rfl) (by kernel_rfl) (GOk.cons okNamed Try.func27 (by kernel_rfl) (by kernel_rfl) GOk.nil)) GoOk.nil noIt) Try.func15 (c := Try.f15.body.getD .skip) (rvs := [(.tmp 4, .bool), (.tmp 5, tErr)]) (by kernel_rfl) (by kernel_rfl) (by kernel_rfl) ?_
  intro ds k ⟨hp, hk⟩ hwf
  obtain ⟨t, u, rfl, -⟩ := dest2 hp
  exact ⟨anSame2 t u, same2_vc t u k hk⟩
end Go.Proofs.Ytgbpjjinhjikeaa

/- Traces told in another order: the law. -/
namespace Go.Proofs.Ytgbpjjinhjikeaa
open Go.Vc
def Ew : Env := { Em with pz := [8], pb := [24] }
theorem Ew_ok : EnvOk Try.prog Ew := EnvOk.of_list (by kernel_rfl) (by kernel_rfl) (by kernel_rfl)
def anSwaps (t : Tr) (i : Int) : Ann :=
  [joinAll, loopAt 13 Nat [(2008, 33, tEv)] (fun st k => { St.at (St.only st [1, 2, 8]) [(9, .d I (k : Int))] with ob := [.var 24 tTr t, .st 24 [.d I t.1, .os 2], .row 33 tEv (swU t.2.1 i.toNat k)] }) (fun _ k => k ≤ t.2.1.length ∧ True) (fun k => t.2.1.length - k)]
end Go.Proofs.Ytgbpjjinhjikeaa

/- What the functions of this seat have to satisfy, by program: each verification condition in plain words. -/
namespace Go.Proofs.Ytgbpjjinhjikeaa
open Go.Vc
set_option linter.unusedVariables false
theorem vcFact (k : List Dat → Prop) : vcF ⟨Et, [(24, cTalk), (11, cBefore), (25, cInts)], [], [], []⟩ [] (Try.f10.body.getD .skip) Try.f10.ntmps [(.tmp 0, .bool)] [] k = (
  True ∧ True ∧ (decide (chk talkT = (0 : Int)) = true → True ∧ k [Dat.mk Ty.bool (bef talkT == (((List.replicate (3 : Nat) (0 : Int)).set (0 : Nat) (0 : Int)).set (1 : Nat) (1 : Int)).set (2 : Nat) (1 : Int))]) ∧ (decide (chk talkT = (0 : Int)) = false → k [Dat.mk Ty.bool false])) := by kernel_rfl
theorem vcSwaps (t : Tr) (i : Int) (k : List Dat → Prop) : vcF ⟨Ew, [(10, cFact), (15, cSame2)], [], [], []⟩ (anSwaps t i) (Try.f4.body.getD .skip) Try.f4.ntmps [(.tmp 4, .bool)] [⟨tTr, t⟩, ⟨I, i⟩] k = (
  True ∧ ((!true) = true → k [Dat.mk Ty.bool false]) ∧ ((!true) = false → True ∧ ((!decide (smErr t t = (0 : Int))) = true → k [Dat.mk Ty.bool !smR t t]) ∧ ((!decide (smErr t t = (0 : Int))) = false → ((!smR t t) = true → k [Dat.mk Ty.bool false]) ∧ ((!smR t t) = false → ((decide (i < (1 : Int)) = true → True) ∧ (decide (i < (1 : Int)) = false → (decide ((↑(List.length t.snd.fst) : Int) ≤ i) = true → True) ∧ (decide ((↑(List.length t.snd.fst) : Int) ≤ i) = false → (0 : Int) ≤ i ∧ i < (↑(List.length t.snd.fst) : Int) ∧ inK IntKind.i64 (i - (1 : Int)) ∧ (0 : Int) ≤ i - (1 : Int) ∧ i - (1 : Int) < (↑(List.length t.snd.fst) : Int) ∧ (decide ((List.getD t.snd.fst i.toNat ((0 : Int), (0 : Int), ())).fst = (List.getD t.snd.fst (i - (1 : Int)).toNat ((0 : Int), (0 : Int), ())).fst) = true → True) ∧ (decide ((List.getD t.snd.fst i.toNat ((0 : Int), (0 : Int), ())).fst = (List.getD t.snd.fst (i - (1 : Int)).toNat ((0 : Int), (0 : Int), ())).fst) = false → (0 : Int) ≤ i ∧ i < (↑(List.length t.snd.fst) : Int) ∧ inK IntKind.i64 (i - (1 : Int)) ∧ True)))) ∧ ((decide (i < (1 : Int)) || (decide ((↑(List.length t.snd.fst) : Int) ≤ i) || (decide ((List.getD t.snd.fst i.toNat ((0 : Int), (0 : Int), ())).fst = (List.getD t.snd.fst (i - (1 : Int)).toNat ((0 : Int), (0 : Int), ())).fst) || decide ((List.getD t.snd.fst i.toNat ((0 : Int), (0 : Int), ())).snd.fst = i - (1 : Int))))) = true → k [Dat.mk Ty.bool true]) ∧ ((decide (i < (1 : Int)) || (decide ((↑(List.length t.snd.fst) : Int) ≤ i) || (decide ((List.getD t.snd.fst i.toNat ((0 : Int), (0 : Int), ())).fst = (List.getD t.snd.fst (i - (1 : Int)).toNat ((0 : Int), (0 : Int), ())).fst) || decide ((List.getD t.snd.fst i.toNat ((0 : Int), (0 : Int), ())).snd.fst = i - (1 : Int))))) = false → (∃ (x : Nat), (x ≤ t.snd.fst.length ∧ True) ∧ (i = i ∧ ([] : List Nat) = [] ∧ True ∧ (0 : Int) = (↑x : Int) ∧ True) ∧ (((24 : Nat) = (24 : Nat) ∧ t = t) ∧ (t.fst = t.fst ∧ True ∧ True) ∧ ((33 : Nat) = (33 : Nat) ∧ [] = swU t.snd.fst i.toNat x) ∧ True) ∧ True) ∧ ∀ (x : Nat), x ≤ t.snd.fst.length ∧ True → (decide ((↑x : Int) < (↑(List.length t.snd.fst) : Int)) = true → (0 : Int) ≤ (↑x : Int) ∧ (↑x : Int) < (↑(List.length t.snd.fst) : Int) ∧ (decide ((↑x : Int) = i) = true → inK IntKind.i64 (i - (1 : Int)) ∧ (0 : Int) ≤ i - (1 : Int) ∧ i - (1 : Int) < (↑(List.length t.snd.fst) : Int) ∧ inK IntKind.i64 (i - (1 : Int)) ∧ (decide ((↑x : Int) = i - (1 : Int)) = true → (0 : Int) ≤ i ∧ i < (↑(List.length t.snd.fst) : Int) ∧ (decide ((List.getD t.snd.fst i.toNat ((0 : Int), (0 : Int), ())).snd.fst = i) = true → inK IntKind.i64 (i - (1 : Int)) ∧ (swU t.snd.fst i.toNat x).length + ((List.replicate (1 : Nat) ((0 : Int), (0 : Int), ())).set (0 : Nat) ((List.getD t.snd.fst i.toNat ((0 : Int), (0 : Int), ())).fst, i - (1 : Int), (List.getD t.snd.fst i.toNat ((0 : Int), (0 : Int), ())).snd.snd)).length ≤ (1000000000 : Nat) ∧ inK IntKind.i64 ((↑x : Int) + (1 : Int)) ∧ ∃ (x_1 : Nat), (x_1 ≤ t.snd.fst.length ∧ True) ∧ t.snd.fst.length - x_1 < t.snd.fst.length - x ∧ (i = i ∧ ([] : List Nat) = [] ∧ True ∧ (↑x : Int) + (1 : Int) = (↑x_1 : Int) ∧ True) ∧ (((24 : Nat) = (24 : Nat) ∧ t = t) ∧ (t.fst = t.fst ∧ True ∧ True) ∧ ((33 : Nat) = (33 : Nat) ∧ (swU t.snd.fst i.toNat x).append ((List.replicate (1 : Nat) ((0 : Int), (0 : Int), ())).set (0 : Nat) ((List.getD t.snd.fst i.toNat ((0 : Int), (0 : Int), ())).fst, i - (1 : Int), (List.getD t.snd.fst i.toNat ((0 : Int), (0 : Int), ())).snd.snd)) = swU t.snd.fst i.toNat x_1) ∧ True) ∧ True) ∧ (decide ((List.getD t.snd.fst i.toNat ((0 : Int), (0 : Int), ())).snd.fst = i) = false → inK IntKind.i64 (i - (1 : Int)) ∧ (decide ((List.getD t.snd.fst i.toNat ((0 : Int), (0 : Int), ())).snd.fst = i - (1 : Int)) = true → (swU t.snd.fst i.toNat x).length + ((List.replicate (1 : Nat) ((0 : Int), (0 : Int), ())).set (0 : Nat) ((List.getD t.snd.fst i.toNat ((0 : Int), (0 : Int), ())).fst, i, (List.getD t.snd.fst i.toNat ((0 : Int), (0 : Int), ())).snd.snd)).length ≤ (1000000000 : Nat) ∧ inK IntKind.i64 ((↑x : Int) + (1 : Int)) ∧ ∃ (x_1 : Nat), (x_1 ≤ t.snd.fst.length ∧ True) ∧ t.snd.fst.length - x_1 < t.snd.fst.length - x ∧ (i = i ∧ ([] : List Nat) = [] ∧ True ∧ (↑x : Int) + (1 : Int) = (↑x_1 : Int) ∧ True) ∧ (((24 : Nat) = (24 : Nat) ∧ t = t) ∧ (t.fst = t.fst ∧ True ∧ True) ∧ ((33 : Nat) = (33 : Nat) ∧ (swU t.snd.fst i.toNat x).append ((List.replicate (1 : Nat) ((0 : Int), (0 : Int), ())).set (0 : Nat) ((List.getD t.snd.fst i.toNat ((0 : Int), (0 : Int), ())).fst, i, (List.getD t.snd.fst i.toNat ((0 : Int), (0 : Int), ())).snd.snd)) = swU t.snd.fst i.toNat x_1) ∧ True) ∧ True) ∧ (decide ((List.getD t.snd.fst i.toNat ((0 : Int), (0 : Int), ())).snd.fst = i - (1 : Int)) = false → (swU t.snd.fst i.toNat x).length + ((List.replicate (1 : Nat) ((0 : Int), (0 : Int), ())).set (0 : Nat) (List.getD t.snd.fst i.toNat ((0 : Int), (0 : Int), ()))).length ≤ (1000000000 : Nat) ∧ inK IntKind.i64 ((↑x : Int) + (1 : Int)) ∧ ∃ (x_1 : Nat), (x_1 ≤ t.snd.fst.length ∧ True) ∧ t.snd.fst.length - x_1 < t.snd.fst.length - x ∧ (i = i ∧ ([] : List Nat) = [] ∧ True ∧ (↑x : Int) + (1 : Int) = (↑x_1 : Int) ∧ True) ∧ (((24 : Nat) = (24 : Nat) ∧ t = t) ∧ (t.fst = t.fst ∧ True ∧ True) ∧ ((33 : Nat) = (33 : Nat) ∧ (swU t.snd.fst i.toNat x).append ((List.replicate (1 : Nat) ((0 : Int), (0 : Int), ())).set (0 : Nat) (List.getD t.snd.fst i.toNat ((0 : Int), (0 : Int), ()))) = swU t.snd.fst i.toNat x_1) ∧ True) ∧ True))) ∧ (decide ((↑x : Int) = i - (1 : Int)) = false → (decide ((List.getD t.snd.fst (i - (1 : Int)).toNat ((0 : Int), (0 : Int), ())).snd.fst = i) = true → inK IntKind.i64 (i - (1 : Int)) ∧ (swU t.snd.fst i.toNat x).length + ((List.replicate (1 : Nat) ((0 : Int), (0 : Int), ())).set (0 : Nat) ((List.getD t.snd.fst (i - (1 : Int)).toNat ((0 : Int), (0 : Int), ())).fst, i - (1 : Int), (List.getD t.snd.fst (i - (1 : Int)).toNat ((0 : Int), (0 : Int), ())).snd.snd)).length ≤ (1000000000 : Nat) ∧ inK IntKind.i64 ((↑x : Int) + (1 : Int)) ∧ ∃ (x_1 : Nat), (x_1 ≤ t.snd.fst.length ∧ True) ∧ t.snd.fst.length - x_1 < t.snd.fst.length - x ∧ (i = i ∧ ([] : List Nat) = [] ∧ True ∧ (↑x : Int) + (1 : Int) = (↑x_1 : Int) ∧ True) ∧ (((24 : Nat) = (24 : Nat) ∧ t = t) ∧ (t.fst = t.fst ∧ True ∧ True) ∧ ((33 : Nat) = (33 : Nat) ∧ (swU t.snd.fst i.toNat x).append ((List.replicate (1 : Nat) ((0 : Int), (0 : Int), ())).set (0 : Nat) ((List.getD t.snd.fst (i - (1 : Int)).toNat ((0 : Int), (0 : Int), ())).fst, i - (1 : Int), (List.getD t.snd.fst (i - (1 : Int)).toNat ((0 : Int), (0 : Int), ())).snd.snd)) = swU t.snd.fst i.toNat x_1) ∧ True) ∧ True) ∧ (decide ((List.getD t.snd.fst (i - (1 : Int)).toNat ((0 : Int), (0 : Int), ())).snd.fst = i) = false → inK IntKind.i64 (i - (1 : Int)) ∧ (decide ((List.getD t.snd.fst (i - (1 : Int)).toNat ((0 : Int), (0 : Int), ())).snd.fst = i - (1 : Int)) = true → (swU t.snd.fst i.toNat x).length + ((List.replicate (1 : Nat) ((0 : Int), (0 : Int), ())).set (0 : Nat) ((List.getD t.snd.fst (i - (1 : Int)).toNat ((0 : Int), (0 : Int), ())).fst, i, (List.getD t.snd.fst (i - (1 : Int)).toNat ((0 : Int), (0 : Int), ())).snd.snd)).length ≤ (1000000000 : Nat) ∧ inK IntKind.i64 ((↑x : Int) + (1 : Int)) ∧ ∃ (x_1 : Nat), (x_1 ≤ t.snd.fst.length ∧ True) ∧ t.snd.fst.length - x_1 < t.snd.fst.length - x ∧ (i = i ∧ ([] : List Nat) = [] ∧ True ∧ (↑x : Int) + (1 : Int) = (↑x_1 : Int) ∧ True) ∧ (((24 : Nat) = (24 : Nat) ∧ t = t) ∧ (t.fst = t.fst ∧ True ∧ True) ∧ ((33 : Nat) = (33 : Nat) ∧ (swU t.snd.fst i.toNat x).append ((List.replicate (1 : Nat) ((0 : Int), (0 : Int), ())).set (0 : Nat) ((List.getD t.snd.fst (i - (1 : Int)).toNat ((0 : Int), (0 : Int), ())).fst, i, (List.getD t.snd.fst (i - (1 : Int)).toNat ((0 : Int), (0 : Int), ())).snd.snd)) = swU t.snd.fst i.toNat x_1) ∧ True) ∧ True) ∧ (decide ((List.getD t.snd.fst (i - (1 : Int)).toNat ((0 : Int), (0 : Int), ())).snd.fst = i - (1 : Int)) = false → (swU t.snd.fst i.toNat x).length + ((List.replicate (1 : Nat) ((0 : Int), (0 : Int), ())).set (0 : Nat) (List.getD t.snd.fst (i - (1 : Int)).toNat ((0 : Int), (0 : Int), ()))).length ≤ (1000000000 : Nat) ∧ inK IntKind.i64 ((↑x : Int) + (1 : Int)) ∧ ∃ (x_1 : Nat), (x_1 ≤ t.snd.fst.length ∧ True) ∧ t.snd.fst.length - x_1 < t.snd.fst.length - x ∧ (i = i ∧ ([] : List Nat) = [] ∧ True ∧ (↑x : Int) + (1 : Int) = (↑x_1 : Int) ∧ True) ∧ (((24 : Nat) = (24 : Nat) ∧ t = t) ∧ (t.fst = t.fst ∧ True ∧ True) ∧ ((33 : Nat) = (33 : Nat) ∧ (swU t.snd.fst i.toNat x).append ((List.replicate (1 : Nat) ((0 : Int), (0 : Int), ())).set (0 : Nat) (List.getD t.snd.fst (i - (1 : Int)).toNat ((0 : Int), (0 : Int), ()))) = swU t.snd.fst i.toNat x_1) ∧ True) ∧ True)))) ∧ (decide ((↑x : Int) = i) = false → inK IntKind.i64 (i - (1 : Int)) ∧ (decide ((↑x : Int) = i - (1 : Int)) = true → (0 : Int) ≤ i ∧ i < (↑(List.length t.snd.fst) : Int) ∧ (decide ((List.getD t.snd.fst i.toNat ((0 : Int), (0 : Int), ())).snd.fst = i) = true → inK IntKind.i64 (i - (1 : Int)) ∧ (swU t.snd.fst i.toNat x).length + ((List.replicate (1 : Nat) ((0 : Int), (0 : Int), ())).set (0 : Nat) ((List.getD t.snd.fst i.toNat ((0 : Int), (0 : Int), ())).fst, i - (1 : Int), (List.getD t.snd.fst i.toNat ((0 : Int), (0 : Int), ())).snd.snd)).length ≤ (1000000000 : Nat) ∧ inK IntKind.i64 ((↑x : Int) + (1 : Int)) ∧ ∃ (x_1 : Nat), (x_1 ≤ t.snd.fst.length ∧ True) ∧ t.snd.fst.length - x_1 < t.snd.fst.length - x ∧ (i = i ∧ ([] : List Nat) = [] ∧ True ∧ (↑x : Int) + (1 : Int) = (↑x_1 : Int) ∧ True) ∧ (((24 : Nat) = (24 : Nat) ∧ t = t) ∧ (t.fst = t.fst ∧ True ∧ True) ∧ ((33 : Nat) = (33 : Nat) ∧ (swU t.snd.fst i.toNat x).append ((List.replicate (1 : Nat) ((0 : Int), (0 : Int), ())).set (0 : Nat) ((List.getD t.snd.fst i.toNat ((0 : Int), (0 : Int), ())).fst, i - (1 : Int), (List.getD t.snd.fst i.toNat ((0 : Int), (0 : Int), ())).snd.snd)) = swU t.snd.fst i.toNat x_1) ∧ True) ∧ True) ∧ (decide ((List.getD t.snd.fst i.toNat ((0 : Int), (0 : Int), ())).snd.fst = i) = false → inK IntKind.i64 (i - (1 : Int)) ∧ (decide ((List.getD t.snd.fst i.toNat ((0 : Int), (0 : Int), ())).snd.fst = i - (1 : Int)) = true → (swU t.snd.fst i.toNat x).length + ((List.replicate (1 : Nat) ((0 : Int), (0 : Int), ())).set (0 : Nat) ((List.getD t.snd.fst i.toNat ((0 : Int), (0 : Int), ())).fst, i, (List.getD t.snd.fst i.toNat ((0 : Int), (0 : Int), ())).snd.snd)).length ≤ (1000000000 : Nat) ∧ inK IntKind.i64 ((↑x : Int) + (1 : Int)) ∧ ∃ (x_1 : Nat), (x_1 ≤ t.snd.fst.length ∧ True) ∧ t.snd.fst.length - x_1 < t.snd.fst.length - x ∧ (i = i ∧ ([] : List Nat) = [] ∧ True ∧ (↑x : Int) + (1 : Int) = (↑x_1 : Int) ∧ True) ∧ (((24 : Nat) = (24 : Nat) ∧ t = t) ∧ (t.fst = t.fst ∧ True ∧ True) ∧ ((33 : Nat) = (33 : Nat) ∧ (swU t.snd.fst i.toNat x).append ((List.replicate (1 : Nat) ((0 : Int), (0 : Int), ())).set (0 : Nat) ((List.getD t.snd.fst i.toNat ((0 : Int), (0 : Int), ())).fst, i, (List.getD t.snd.fst i.toNat ((0 : Int), (0 : Int), ())).snd.snd)) = swU t.snd.fst i.toNat x_1) ∧ True) ∧ True) ∧ (decide ((List.getD t.snd.fst i.toNat ((0 : Int), (0 : Int), ())).snd.fst = i - (1 : Int)) = false → (swU t.snd.fst i.toNat x).length + ((List.replicate (1 : Nat) ((0 : Int), (0 : Int), ())).set (0 : Nat) (List.getD t.snd.fst i.toNat ((0 : Int), (0 : Int), ()))).length ≤ (1000000000 : Nat) ∧ inK IntKind.i64 ((↑x : Int) + (1 : Int)) ∧ ∃ (x_1 : Nat), (x_1 ≤ t.snd.fst.length ∧ True) ∧ t.snd.fst.length - x_1 < t.snd.fst.length - x ∧ (i = i ∧ ([] : List Nat) = [] ∧ True ∧ (↑x : Int) + (1 : Int) = (↑x_1 : Int) ∧ True) ∧ (((24 : Nat) = (24 : Nat) ∧ t = t) ∧ (t.fst = t.fst ∧ True ∧ True) ∧ ((33 : Nat) = (33 : Nat) ∧ (swU t.snd.fst i.toNat x).append ((List.replicate (1 : Nat) ((0 : Int), (0 : Int), ())).set (0 : Nat) (List.getD t.snd.fst i.toNat ((0 : Int), (0 : Int), ()))) = swU t.snd.fst i.toNat x_1) ∧ True) ∧ True))) ∧ (decide ((↑x : Int) = i - (1 : Int)) = false → (decide ((List.getD t.snd.fst (↑x : Int).toNat ((0 : Int), (0 : Int), ())).snd.fst = i) = true → inK IntKind.i64 (i - (1 : Int)) ∧ (swU t.snd.fst i.toNat x).length + ((List.replicate (1 : Nat) ((0 : Int), (0 : Int), ())).set (0 : Nat) ((List.getD t.snd.fst (↑x : Int).toNat ((0 : Int), (0 : Int), ())).fst, i - (1 : Int), (List.getD t.snd.fst (↑x : Int).toNat ((0 : Int), (0 : Int), ())).snd.snd)).length ≤ (1000000000 : Nat) ∧ inK IntKind.i64 ((↑x : Int) + (1 : Int)) ∧ ∃ (x_1 : Nat), (x_1 ≤ t.snd.fst.length ∧ True) ∧ t.snd.fst.length - x_1 < t.snd.fst.length - x ∧ (i = i ∧ ([] : List Nat) = [] ∧ True ∧ (↑x : Int) + (1 : Int) = (↑x_1 : Int) ∧ True) ∧ (((24 : Nat) = (24 : Nat) ∧ t = t) ∧ (t.fst = t.fst ∧ True ∧ True) ∧ ((33 : Nat) = (33 : Nat) ∧ (swU t.snd.fst i.toNat x).append ((List.replicate (1 : Nat) ((0 : Int), (0 : Int), ())).set (0 : Nat) ((List.getD t.snd.fst (↑x : Int).toNat ((0 : Int), (0 : Int), ())).fst, i - (1 : Int), (List.getD t.snd.fst (↑x : Int).toNat ((0 : Int), (0 : Int), ())).snd.snd)) = swU t.snd.fst i.toNat x_1) ∧ True) ∧ True) ∧ (decide ((List.getD t.snd.fst (↑x : Int).toNat ((0 : Int), (0 : Int), ())).snd.fst = i) = false → inK IntKind.i64 (i - (1 : Int)) ∧ (decide ((List.getD t.snd.fst (↑x : Int).toNat ((0 : Int), (0 : Int), ())).snd.fst = i - (1 : Int)) = true → (swU t.snd.fst i.toNat x).length + ((List.replicate (1 : Nat) ((0 : Int), (0 : Int), ())).set (0 : Nat) ((List.getD t.snd.fst (↑x : Int).toNat ((0 : Int), (0 : Int), ())).fst, i, (List.getD t.snd.fst (↑x : Int).toNat ((0 : Int), (0 : Int), ())).snd.snd)).length ≤ (1000000000 : Nat) ∧ inK IntKind.i64 ((↑x : Int) + (1 : Int)) ∧ ∃ (x_1 : Nat), (x_1 ≤ t.snd.fst.length ∧ True) ∧ t.snd.fst.length - x_1 < t.snd.fst.length - x ∧ (i = i ∧ ([] : List Nat) = [] ∧ True ∧ (↑x : Int) + (1 : Int) = (↑x_1 : Int) ∧ True) ∧ (((24 : Nat) = (24 : Nat) ∧ t = t) ∧ (t.fst = t.fst ∧ True ∧ True) ∧ ((33 : Nat) = (33 : Nat) ∧ (swU t.snd.fst i.toNat x).append ((List.replicate (1 : Nat) ((0 : Int), (0 : Int), ())).set (0 : Nat) ((List.getD t.snd.fst (↑x : Int).toNat ((0 : Int), (0 : Int), ())).fst, i, (List.getD t.snd.fst (↑x : Int).toNat ((0 : Int), (0 : Int), ())).snd.snd)) = swU t.snd.fst i.toNat x_1) ∧ True) ∧ True) ∧ (decide ((List.getD t.snd.fst (↑x : Int).toNat ((0 : Int), (0 : Int), ())).snd.fst = i - (1 : Int)) = false → (swU t.snd.fst i.toNat x).length + ((List.replicate (1 : Nat) ((0 : Int), (0 : Int), ())).set (0 : Nat) (List.getD t.snd.fst (↑x : Int).toNat ((0 : Int), (0 : Int), ()))).length ≤ (1000000000 : Nat) ∧ inK IntKind.i64 ((↑x : Int) + (1 : Int)) ∧ ∃ (x_1 : Nat), (x_1 ≤ t.snd.fst.length ∧ True) ∧ t.snd.fst.length - x_1 < t.snd.fst.length - x ∧ (i = i ∧ ([] : List Nat) = [] ∧ True ∧ (↑x : Int) + (1 : Int) = (↑x_1 : Int) ∧ True) ∧ (((24 : Nat) = (24 : Nat) ∧ t = t) ∧ (t.fst = t.fst ∧ True ∧ True) ∧ ((33 : Nat) = (33 : Nat) ∧ (swU t.snd.fst i.toNat x).append ((List.replicate (1 : Nat) ((0 : Int), (0 : Int), ())).set (0 : Nat) (List.getD t.snd.fst (↑x : Int).toNat ((0 : Int), (0 : Int), ()))) = swU t.snd.fst i.toNat x_1) ∧ True) ∧ True))))) ∧ (decide ((↑x : Int) < (↑(List.length t.snd.fst) : Int)) = false → True ∧ True ∧ (decide (smErr t (t.fst, swU t.snd.fst i.toNat x, ()) = (0 : Int)) = true → (smR t (t.fst, swU t.snd.fst i.toNat x, ()) = true → (decide (smErr (t.fst, swU t.snd.fst i.toNat x, ()) t = (0 : Int)) = true → k [Dat.mk Ty.bool (smR (t.fst, swU t.snd.fst i.toNat x, ()) t)]) ∧ (decide (smErr (t.fst, swU t.snd.fst i.toNat x, ()) t = (0 : Int)) = false → k [Dat.mk Ty.bool false])) ∧ (smR t (t.fst, swU t.snd.fst i.toNat x, ()) = false → k [Dat.mk Ty.bool false])) ∧ (decide (smErr t (t.fst, swU t.snd.fst i.toNat x, ()) = (0 : Int)) = false → k [Dat.mk Ty.bool false]))))))) := by kernel_rfl
end Go.Proofs.Ytgbpjjinhjikeaa

/- Traces told in another order: the law. -/
namespace Go.Proofs.Ytgbpjjinhjikeaa
open Go.Vc

theorem okFact : PlainOk Try.prog [] 10 cFact := by
  refine plain_of (CxOk.mk' Et_ok (by kernel_rfl) mixed (gl := []) (GOk.cons okTalk Try.func24 (by kernel_rfl) (by kernel_rfl) (GOk.cons okBefore Try.func11 (by kernel_rfl) (by kernel_rfl) (GOk.cons okInts Try.func25 (by kernel_rfl) (by kernel_rfl) GOk.nil))) GoOk.nil noIt) Try.func10 (c := Try.f10.body.getD .skip) (rvs := [(.tmp 0, .bool)]) (by kernel_rfl) (by kernel_rfl) (by kernel_rfl) ?_
  intro ds k ⟨hp, hk⟩ hwf
  obtain ⟨rfl, -⟩ := dest0 hp
  have hk : k [⟨.bool, true⟩] := hk
  refine ⟨[], ?_⟩
  rw [vcFact]
  have e1 : chk talkT = 0 := by decide +kernel
  have e2 : (bef talkT == ((((List.replicate 3 (0 : Int)).set 0 0).set 1 1).set 2 1)) = true := by decide +kernel
  simp only [e1, e2, decide_true, true_and, and_true, forall_const, reduceCtorEq, false_implies, Bool.not_true, implies_true]
  exact hk

theorem swU_succ (l : List Ev) (i x : Nat) : swU l i (x + 1) = swU l i x ++ [swE l i x] := by
  unfold swU
  rw [List.range_succ, List.map_append]; rfl

theorem swaps_vc (t : Tr) (i : Int) (k : List Dat → Prop) (hk : k [⟨.bool, true⟩]) : vcF ⟨Ew, [(10, cFact), (15, cSame2)], [], [], []⟩ (anSwaps t i) (Try.f4.body.getD .skip) Try.f4.ntmps [(.tmp 4, .bool)] [⟨tTr, t⟩, ⟨I, i⟩] k := by
  rw [vcSwaps]
  have ret : ∀ x : Bool, x = true → k [⟨.bool, x⟩] := by rintro _ rfl; exact hk
  have hsm : smErr t t = chk t := by unfold smErr; split <;> (first | rfl | (rename_i h; exact h.symm) | skip)
  simp only [decide_eq_true_eq, decide_eq_false_iff_not, and_true, true_and, Bool.not_eq_true', Bool.not_eq_false', Int.toNat_natCast, implies_true, eq_self, inK_i64, List.length_set, List.length_replicate, hsm]
  refine ⟨(fun h => by cases h), fun _ => ⟨fun h => ret _ (by unfold smR; rw [hsm, decide_eq_false h]; rfl), fun h => ?_⟩⟩
  have g := good_of h
  have hlen := g.len
  have hse : smR t t = true := by unfold smR; rw [hsm, decide_eq_true h, same_self g]; rfl
  rw [hse]
  refine ⟨(fun h => by cases h), fun _ => ⟨fun h1 => fun h2 => ⟨by omega, by omega, by omega, by omega, by omega, fun _ => ⟨by omega, by omega, by omega⟩⟩, fun _ => hk, fun hno => ?_⟩⟩
  simp only [Bool.or_eq_false_iff, decide_eq_false_iff_not] at hno
  obtain ⟨n1, n2, n3, n4⟩ := hno
  obtain ⟨p, rfl⟩ := Int.eq_ofNat_of_zero_le (show 0 ≤ i by omega)
  have hp0 : 0 < p := by omega
  have hp1 : p < t.2.1.length := by omega
  have ep : ((p : Int) - 1).toNat = p - 1 := by omega
  simp only [Int.toNat_natCast, ep] at n3 n4 ⊢
  refine ⟨⟨0, Nat.zero_le _, rfl, rfl⟩, fun x hx => ⟨fun hlt => ?_, fun hge => ?_⟩⟩
  · have hxl : x < t.2.1.length := by omega
    have key : ∀ e0 : Ev, e0 = t.2.1.getD (sgN p x) (0, 0, ()) → (e0.2.1 = (p : Int) → (e0.1, (p : Int) - 1, e0.2.2) = swE t.2.1 p x) ∧ (¬ e0.2.1 = (p : Int) → e0.2.1 = (p : Int) - 1 → (e0.1, (p : Int), e0.2.2) = swE t.2.1 p x) ∧ (¬ e0.2.1 = (p : Int) → ¬ e0.2.1 = (p : Int) - 1 → e0 = swE t.2.1 p x) := by
      intro e0 he
      unfold swE
      rw [← he]
      refine ⟨fun a => ?_, fun a b => ?_, fun a b => ?_⟩
      · unfold sgI; rw [if_pos a]
      · unfold sgI; rw [if_neg a, if_pos b]
      · unfold sgI; rw [if_neg a, if_neg b]
    have fin : ∀ e : Ev, e = swE t.2.1 p x → (swU t.2.1 p x).length + 1 ≤ 1000000000 ∧ (-9223372036854775808 ≤ (x : Int) + 1 ∧ (x : Int) + 1 ≤ 9223372036854775807) ∧ ∃ x_1 : Nat, x_1 ≤ t.2.1.length ∧ t.2.1.length - x_1 < t.2.1.length - x ∧ (x : Int) + 1 = (x_1 : Int) ∧ (swU t.2.1 p x).append ((List.replicate 1 ((0 : Int), (0 : Int), ())).set 0 e) = swU t.2.1 p x_1 := by
      rintro _ rfl
      refine ⟨by rw [swU_len]; omega, by omega, x + 1, by omega, by omega, by omega, ?_⟩
      rw [swU_succ]; rfl
    have s1 : x = p → sgN p x = p - 1 := fun h => by unfold sgN; rw [if_neg (by omega), if_pos h]
    have s2 : x + 1 = p → sgN p x = p := fun h => by unfold sgN; rw [if_pos h]
    have s3 : x ≠ p → x + 1 ≠ p → sgN p x = x := fun h h2 => by unfold sgN; rw [if_neg h2, if_neg h]
    refine ⟨by omega, hlt, fun a => ⟨by omega, by omega, by omega, by omega, fun b => ?_, fun b => ?_⟩, fun a => ⟨by omega, fun b => ⟨by omega, by omega, ?_⟩, fun b => ?_⟩⟩
    · omega
    · have hs : t.2.1.getD (p - 1) (0, 0, ()) = t.2.1.getD (sgN p x) (0, 0, ()) := by rw [s1 (by omega)]
      exact ⟨fun c => ⟨by omega, fin _ ((key _ hs).1 c)⟩, fun c => ⟨by omega, fun d => fin _ ((key _ hs).2.1 c d), fun d => fin _ ((key _ hs).2.2 c d)⟩⟩
    · have hs : t.2.1.getD p (0, 0, ()) = t.2.1.getD (sgN p x) (0, 0, ()) := by rw [s2 (by omega)]
      exact ⟨fun c => ⟨by omega, fin _ ((key _ hs).1 c)⟩, fun c => ⟨by omega, fun d => fin _ ((key _ hs).2.1 c d), fun d => fin _ ((key _ hs).2.2 c d)⟩⟩
    · have hs : t.2.1.getD x (0, 0, ()) = t.2.1.getD (sgN p x) (0, 0, ()) := by rw [s3 (by omega) (by omega)]
      exact ⟨fun c => ⟨by omega, fin _ ((key _ hs).1 c)⟩, fun c => ⟨by omega, fun d => fin _ ((key _ hs).2.1 c d), fun d => fin _ ((key _ hs).2.2 c d)⟩⟩
  · have hxe : x = t.2.1.length := by omega
    subst hxe
    have gu := sw_good g hp0 hp1 n4
    have hcu := chk_of gu
    obtain ⟨q1, q2⟩ := sw_same g hp0 hp1 n3 n4
    have r1 : smErr t (swT t p) = 0 := by unfold smErr; rw [if_pos h]; exact hcu
    have r2 : smErr (swT t p) t = 0 := by unfold smErr; rw [if_pos hcu]; exact h
    have r3 : smR t (swT t p) = true := by unfold smR; rw [r1, q1]; rfl
    have r4 : smR (swT t p) t = true := by unfold smR; rw [r2, q2]; rfl
    have es : (t.1, swU t.2.1 p t.2.1.length, ()) = swT t p := rfl
    simp only [es, r1, r2, r3, r4]
    exact ⟨fun _ => ⟨fun _ => ⟨fun _ => hk, fun h => absurd trivial h⟩, (fun h => by cases h)⟩, fun h => absurd trivial h⟩
def cSwaps : Ctr := cdet [tTr, I] (fun _ _ => True) (fun _ _ => [⟨.bool, true⟩])
theorem okSwaps : PlainOk Try.prog [] 4 cSwaps := by
  refine plain_of (CxOk.mk' Ew_ok (by kernel_rfl) mixed (gl := []) (GOk.cons okFact Try.func10 (by kernel_rfl) (by kernel_rfl) (GOk.cons okSame2 Try.func15 (by kernel_rfl) (by kernel_rfl) GOk.nil)) GoOk.nil noIt) Try.func4 (c := Try.f4.body.getD .skip) (rvs := [(.tmp 4, .bool)]) (by kernel_rfl) (by kernel_rfl) (by kernel_rfl) ?_
  intro ds k ⟨hp, hk⟩ hwf
  obtain ⟨t, i, rfl, -⟩ := dest2 hp
  exact ⟨anSwaps t i, swaps_vc t i k hk⟩
end Go.Proofs.Ytgbpjjinhjikeaa
