/- Own texts, merged: HV, HOk, HOk2. -/
import Derived.Test.YtbpoeigaoakdiaaDoorTSRowZ1
/- What the functions of this seat have to satisfy, by program: each verification condition in plain words. -/
namespace Go.Proofs.YtbpoeigaoakdiaaDoor
open Go.Vc H
set_option linter.unusedVariables false
theorem vcRIn (a b c : Int) (k : List Dat → Prop) : vcF ⟨Em, [], [], [], []⟩ [joinAll] (Tryd.f42.body.getD .skip) Tryd.f42.ntmps [(.tmp 6, .bool)] [⟨I, a⟩, ⟨I, b⟩, ⟨I, c⟩] k = (
  (decide (b ≤ a) = true → k [Dat.mk Ty.bool (decide (a ≤ c))]) ∧ (decide (b ≤ a) = false → k [Dat.mk Ty.bool false])) := by kernel_rfl
theorem vcRTrace (t : Tr) (k : List Dat → Prop) : vcF ⟨Em, [(42, cWithin)], [], [], []⟩ (anRTrace t) (Tryd.f8.body.getD .skip) Tryd.f8.ntmps [(.tmp 2, I)] [⟨tTr, t⟩] k = (
  True ∧ ((!inB t.fst (1 : Int) (5 : Int)) = true → k [Dat.mk (I) (1 : Int)]) ∧ ((!inB t.fst (1 : Int) (5 : Int)) = false → (decide ((24 : Int) < (↑(List.length t.snd.fst) : Int)) = true → k [Dat.mk (I) (4 : Int)]) ∧ (decide ((24 : Int) < (↑(List.length t.snd.fst) : Int)) = false → (∃ (x : Nat), (chk t = evsErr t.fst t.snd.fst (t.snd.fst.length - x) x ∧ x ≤ t.snd.fst.length) ∧ (([] : List Nat) = [] ∧ (0 : Int) = (↑x : Int) ∧ True) ∧ (((24 : Nat) = (24 : Nat) ∧ t = t) ∧ True) ∧ True) ∧ ∀ (x : Nat), chk t = evsErr t.fst t.snd.fst (t.snd.fst.length - x) x ∧ x ≤ t.snd.fst.length → (decide ((↑x : Int) < (↑(List.length t.snd.fst) : Int)) = true → (0 : Int) ≤ (↑x : Int) ∧ (↑x : Int) < (↑(List.length t.snd.fst) : Int) ∧ inK IntKind.i64 (t.fst - (1 : Int)) ∧ True ∧ ((!inB (List.getD t.snd.fst (↑x : Int).toNat ((0 : Int), (0 : Int), ())).fst (0 : Int) (t.fst - (1 : Int))) = true → k [Dat.mk (I) (1 : Int)]) ∧ ((!inB (List.getD t.snd.fst (↑x : Int).toNat ((0 : Int), (0 : Int), ())).fst (0 : Int) (t.fst - (1 : Int))) = false → inK IntKind.i64 ((↑x : Int) - (1 : Int)) ∧ True ∧ ((!inB (List.getD t.snd.fst (↑x : Int).toNat ((0 : Int), (0 : Int), ())).snd.fst (-1 : Int) ((↑x : Int) - (1 : Int))) = true → k [Dat.mk (I) (1 : Int)]) ∧ ((!inB (List.getD t.snd.fst (↑x : Int).toNat ((0 : Int), (0 : Int), ())).snd.fst (-1 : Int) ((↑x : Int) - (1 : Int))) = false → ((decide ((0 : Int) ≤ (List.getD t.snd.fst (↑x : Int).toNat ((0 : Int), (0 : Int), ())).snd.fst) = true → (0 : Int) ≤ (List.getD t.snd.fst (↑x : Int).toNat ((0 : Int), (0 : Int), ())).snd.fst ∧ (List.getD t.snd.fst (↑x : Int).toNat ((0 : Int), (0 : Int), ())).snd.fst < (↑(List.length t.snd.fst) : Int) ∧ True) ∧ (decide ((0 : Int) ≤ (List.getD t.snd.fst (↑x : Int).toNat ((0 : Int), (0 : Int), ())).snd.fst) = false → True)) ∧ ((decide ((0 : Int) ≤ (List.getD t.snd.fst (↑x : Int).toNat ((0 : Int), (0 : Int), ())).snd.fst) && decide ((List.getD t.snd.fst (Int.toNat (List.getD t.snd.fst (↑x : Int).toNat ((0 : Int), (0 : Int), ())).snd.fst) ((0 : Int), (0 : Int), ())).fst = (List.getD t.snd.fst (↑x : Int).toNat ((0 : Int), (0 : Int), ())).fst)) = true → k [Dat.mk (I) (6 : Int)]) ∧ ((decide ((0 : Int) ≤ (List.getD t.snd.fst (↑x : Int).toNat ((0 : Int), (0 : Int), ())).snd.fst) && decide ((List.getD t.snd.fst (Int.toNat (List.getD t.snd.fst (↑x : Int).toNat ((0 : Int), (0 : Int), ())).snd.fst) ((0 : Int), (0 : Int), ())).fst = (List.getD t.snd.fst (↑x : Int).toNat ((0 : Int), (0 : Int), ())).fst)) = false → inK IntKind.i64 ((↑x : Int) + (1 : Int)) ∧ ∃ (x_1 : Nat), (chk t = evsErr t.fst t.snd.fst (t.snd.fst.length - x_1) x_1 ∧ x_1 ≤ t.snd.fst.length) ∧ t.snd.fst.length - x_1 < t.snd.fst.length - x ∧ (([] : List Nat) = [] ∧ (↑x : Int) + (1 : Int) = (↑x_1 : Int) ∧ True) ∧ (((24 : Nat) = (24 : Nat) ∧ t = t) ∧ True) ∧ True)))) ∧ (decide ((↑x : Int) < (↑(List.length t.snd.fst) : Int)) = false → k [Dat.mk (I) (0 : Int)])))) := by kernel_rfl
theorem vcBoth (a b : Int) (k : List Dat → Prop) : vcF ⟨Em, [], [], [], []⟩ (anBoth a b) (Tryd.f67.body.getD .skip) Tryd.f67.ntmps [(.tmp 4, I)] [⟨I, a⟩, ⟨I, b⟩] k = (
  (∃ (x : Nat), (x ≤ (61 : Nat) ∧ True) ∧ (a = a.tdiv ((2 : Int) ^ x) ∧ b = b.tdiv ((2 : Int) ^ x) ∧ (0 : Int) = (0 : Int) ∧ (0 : Int) = (↑((a.toNat &&& b.toNat) % (2 : Nat) ^ x) : Int) ∧ (1 : Int) = (2 : Int) ^ x ∧ True) ∧ True ∧ True) ∧ ∀ (x : Nat), x ≤ (61 : Nat) ∧ True → (decide ((0 : Int) < a.tdiv ((2 : Int) ^ x)) = true → (decide ((0 : Int) < b.tdiv ((2 : Int) ^ x)) = true → (2 : Int) ≠ (0 : Int) ∧ inK IntKind.i64 ((a.tdiv ((2 : Int) ^ x)).tmod (2 : Int)) ∧ (decide ((a.tdiv ((2 : Int) ^ x)).tmod (2 : Int) = (1 : Int)) = true → (2 : Int) ≠ (0 : Int) ∧ inK IntKind.i64 ((b.tdiv ((2 : Int) ^ x)).tmod (2 : Int)) ∧ (decide ((b.tdiv ((2 : Int) ^ x)).tmod (2 : Int) = (1 : Int)) = true → inK IntKind.i64 ((↑((a.toNat &&& b.toNat) % (2 : Nat) ^ x) : Int) + (2 : Int) ^ x) ∧ (2 : Int) ≠ (0 : Int) ∧ inK IntKind.i64 ((a.tdiv ((2 : Int) ^ x)).tdiv (2 : Int)) ∧ (2 : Int) ≠ (0 : Int) ∧ inK IntKind.i64 ((b.tdiv ((2 : Int) ^ x)).tdiv (2 : Int)) ∧ inK IntKind.i64 ((2 : Int) ^ x * (2 : Int)) ∧ ∃ (x_1 : Nat), (x_1 ≤ (61 : Nat) ∧ True) ∧ (62 : Nat) - x_1 < (62 : Nat) - x ∧ ((a.tdiv ((2 : Int) ^ x)).tdiv (2 : Int) = a.tdiv ((2 : Int) ^ x_1) ∧ (b.tdiv ((2 : Int) ^ x)).tdiv (2 : Int) = b.tdiv ((2 : Int) ^ x_1) ∧ (0 : Int) = (0 : Int) ∧ (↑((a.toNat &&& b.toNat) % (2 : Nat) ^ x) : Int) + (2 : Int) ^ x = (↑((a.toNat &&& b.toNat) % (2 : Nat) ^ x_1) : Int) ∧ (2 : Int) ^ x * (2 : Int) = (2 : Int) ^ x_1 ∧ True) ∧ True ∧ True) ∧ (decide ((b.tdiv ((2 : Int) ^ x)).tmod (2 : Int) = (1 : Int)) = false → (2 : Int) ≠ (0 : Int) ∧ inK IntKind.i64 ((a.tdiv ((2 : Int) ^ x)).tdiv (2 : Int)) ∧ (2 : Int) ≠ (0 : Int) ∧ inK IntKind.i64 ((b.tdiv ((2 : Int) ^ x)).tdiv (2 : Int)) ∧ inK IntKind.i64 ((2 : Int) ^ x * (2 : Int)) ∧ ∃ (x_1 : Nat), (x_1 ≤ (61 : Nat) ∧ True) ∧ (62 : Nat) - x_1 < (62 : Nat) - x ∧ ((a.tdiv ((2 : Int) ^ x)).tdiv (2 : Int) = a.tdiv ((2 : Int) ^ x_1) ∧ (b.tdiv ((2 : Int) ^ x)).tdiv (2 : Int) = b.tdiv ((2 : Int) ^ x_1) ∧ (0 : Int) = (0 : Int) ∧ (↑((a.toNat &&& b.toNat) % (2 : Nat) ^ x) : Int) = (↑((a.toNat &&& b.toNat) % (2 : Nat) ^ x_1) : Int) ∧ (2 : Int) ^ x * (2 : Int) = (2 : Int) ^ x_1 ∧ True) ∧ True ∧ True)) ∧ (decide ((a.tdiv ((2 : Int) ^ x)).tmod (2 : Int) = (1 : Int)) = false → (2 : Int) ≠ (0 : Int) ∧ inK IntKind.i64 ((a.tdiv ((2 : Int) ^ x)).tdiv (2 : Int)) ∧ (2 : Int) ≠ (0 : Int) ∧ inK IntKind.i64 ((b.tdiv ((2 : Int) ^ x)).tdiv (2 : Int)) ∧ inK IntKind.i64 ((2 : Int) ^ x * (2 : Int)) ∧ ∃ (x_1 : Nat), (x_1 ≤ (61 : Nat) ∧ True) ∧ (62 : Nat) - x_1 < (62 : Nat) - x ∧ ((a.tdiv ((2 : Int) ^ x)).tdiv (2 : Int) = a.tdiv ((2 : Int) ^ x_1) ∧ (b.tdiv ((2 : Int) ^ x)).tdiv (2 : Int) = b.tdiv ((2 : Int) ^ x_1) ∧ (0 : Int) = (0 : Int) ∧ (↑((a.toNat &&& b.toNat) % (2 : Nat) ^ x) : Int) = (↑((a.toNat &&& b.toNat) % (2 : Nat) ^ x_1) : Int) ∧ (2 : Int) ^ x * (2 : Int) = (2 : Int) ^ x_1 ∧ True) ∧ True ∧ True)) ∧ (decide ((0 : Int) < b.tdiv ((2 : Int) ^ x)) = false → k [Dat.mk (I) (↑((a.toNat &&& b.toNat) % (2 : Nat) ^ x) : Int)])) ∧ (decide ((0 : Int) < a.tdiv ((2 : Int) ^ x)) = false → k [Dat.mk (I) (↑((a.toNat &&& b.toNat) % (2 : Nat) ^ x) : Int)])) := by kernel_rfl
theorem vcEither (a b : Int) (k : List Dat → Prop) : vcF ⟨Em, [(67, cBoth)], [], [], []⟩ [] (Tryd.f45.body.getD .skip) Tryd.f45.ntmps [(.tmp 4, I)] [⟨I, a⟩, ⟨I, b⟩] k = (
  inK IntKind.i64 (a + b) ∧ (a < (2305843009213693952 : Int) ∧ True) ∧ inK IntKind.i64 (a + b - (↑(a.toNat &&& b.toNat) : Int)) ∧ k [Dat.mk (I) (a + b - (↑(a.toNat &&& b.toNat) : Int))]) := by kernel_rfl
theorem vcWith (a i : Int) (k : List Dat → Prop) : vcF ⟨Em, [(49, cBit), (56, cPow2)], [], [], []⟩ [] (Tryd.f46.body.getD .skip) Tryd.f46.ntmps [(.tmp 4, I)] [⟨I, a⟩, ⟨I, i⟩] k = (
  True ∧ (bitB a i = true → k [Dat.mk (I) a]) ∧ (bitB a i = false → (i ≤ (61 : Int) ∧ True) ∧ inK IntKind.i64 (a + (2 : Int) ^ i.toNat) ∧ k [Dat.mk (I) (a + (2 : Int) ^ i.toNat)])) := by kernel_rfl
theorem vcNth (t : Tr) (i : Int) (k : List Dat → Prop) : vcF ⟨Em, [], [], [], []⟩ (anNth t i) (Tryd.f47.body.getD .skip) Tryd.f47.ntmps [(.tmp 4, I)] [⟨tTr, t⟩, ⟨I, i⟩] k = (
  (∃ (x : Nat), (x ≤ i.toNat ∧ nthU t.snd.fst i.toNat x ≤ x) ∧ (i = i ∧ ([] : List Nat) = [] ∧ (0 : Int) = (↑(nthU t.snd.fst i.toNat x) : Int) ∧ (0 : Int) = (↑x : Int) ∧ True) ∧ (((24 : Nat) = (24 : Nat) ∧ t = t) ∧ True) ∧ True) ∧ ∀ (x : Nat), x ≤ i.toNat ∧ nthU t.snd.fst i.toNat x ≤ x → (decide ((↑x : Int) < i) = true → ((0 : Int) ≤ (↑x : Int) ∧ (↑x : Int) < (↑(List.length t.snd.fst) : Int) ∧ (0 : Int) ≤ i ∧ i < (↑(List.length t.snd.fst) : Int) ∧ True) ∧ (decide ((List.getD t.snd.fst (↑x : Int).toNat ((0 : Int), (0 : Int), ())).fst = (List.getD t.snd.fst i.toNat ((0 : Int), (0 : Int), ())).fst) = true → inK IntKind.i64 ((↑(nthU t.snd.fst i.toNat x) : Int) + (1 : Int)) ∧ inK IntKind.i64 ((↑x : Int) + (1 : Int)) ∧ ∃ (x_1 : Nat), (x_1 ≤ i.toNat ∧ nthU t.snd.fst i.toNat x_1 ≤ x_1) ∧ i.toNat - x_1 < i.toNat - x ∧ (i = i ∧ ([] : List Nat) = [] ∧ (↑(nthU t.snd.fst i.toNat x) : Int) + (1 : Int) = (↑(nthU t.snd.fst i.toNat x_1) : Int) ∧ (↑x : Int) + (1 : Int) = (↑x_1 : Int) ∧ True) ∧ (((24 : Nat) = (24 : Nat) ∧ t = t) ∧ True) ∧ True) ∧ (decide ((List.getD t.snd.fst (↑x : Int).toNat ((0 : Int), (0 : Int), ())).fst = (List.getD t.snd.fst i.toNat ((0 : Int), (0 : Int), ())).fst) = false → inK IntKind.i64 ((↑x : Int) + (1 : Int)) ∧ ∃ (x_1 : Nat), (x_1 ≤ i.toNat ∧ nthU t.snd.fst i.toNat x_1 ≤ x_1) ∧ i.toNat - x_1 < i.toNat - x ∧ (i = i ∧ ([] : List Nat) = [] ∧ (↑(nthU t.snd.fst i.toNat x) : Int) = (↑(nthU t.snd.fst i.toNat x_1) : Int) ∧ (↑x : Int) + (1 : Int) = (↑x_1 : Int) ∧ True) ∧ (((24 : Nat) = (24 : Nat) ∧ t = t) ∧ True) ∧ True)) ∧ (decide ((↑x : Int) < i) = false → k [Dat.mk (I) (↑(nthU t.snd.fst i.toNat x) : Int)])) := by kernel_rfl
theorem vcRBefore (t : Tr) (k : List Dat → Prop) : vcF ⟨Em, [(45, cEither), (46, cWith)], [], [], []⟩ (anRBefore t) (Tryd.f11.body.getD .skip) Tryd.f11.ntmps [(.tmp 2, .sl I)] [⟨tTr, t⟩] k = (
  (∃ (x : Nat), (x ≤ t.snd.fst.length ∧ True) ∧ (([] : List Nat) = [] ∧ True ∧ (0 : Int) = (↑x : Int) ∧ True) ∧ (((24 : Nat) = (24 : Nat) ∧ t = t) ∧ ((3 : Nat) = (3 : Nat) ∧ [] = bBs t.snd.fst x) ∧ True) ∧ True) ∧ ∀ (x : Nat), x ≤ t.snd.fst.length ∧ True → (decide ((↑x : Int) < (↑(List.length t.snd.fst) : Int)) = true → (∃ (x_1 : Nat), (x_1 ≤ (↑x : Int).toNat ∧ True) ∧ (([] : List Nat) = [] ∧ True ∧ (↑x : Int) = (↑x : Int) ∧ (0 : Int) = (↑(setU t.snd.fst (↑x : Int).toNat x_1) : Int) ∧ (0 : Int) = (↑x_1 : Int) ∧ True) ∧ (((24 : Nat) = (24 : Nat) ∧ t = t) ∧ ((3 : Nat) = (3 : Nat) ∧ bBs t.snd.fst x = bBs t.snd.fst x) ∧ True) ∧ True) ∧ ∀ (x_1 : Nat), x_1 ≤ (↑x : Int).toNat ∧ True → (decide ((↑x_1 : Int) < (↑x : Int)) = true → ((0 : Int) ≤ (↑x_1 : Int) ∧ (↑x_1 : Int) < (↑(List.length t.snd.fst) : Int) ∧ (0 : Int) ≤ (↑x : Int) ∧ (↑x : Int) < (↑(List.length t.snd.fst) : Int) ∧ (decide ((List.getD t.snd.fst (↑x_1 : Int).toNat ((0 : Int), (0 : Int), ())).fst = (List.getD t.snd.fst (↑x : Int).toNat ((0 : Int), (0 : Int), ())).fst) = true → True) ∧ (decide ((List.getD t.snd.fst (↑x_1 : Int).toNat ((0 : Int), (0 : Int), ())).fst = (List.getD t.snd.fst (↑x : Int).toNat ((0 : Int), (0 : Int), ())).fst) = false → (0 : Int) ≤ (↑x : Int) ∧ (↑x : Int) < (↑(List.length t.snd.fst) : Int) ∧ True)) ∧ ((decide ((List.getD t.snd.fst (↑x_1 : Int).toNat ((0 : Int), (0 : Int), ())).fst = (List.getD t.snd.fst (↑x : Int).toNat ((0 : Int), (0 : Int), ())).fst) || decide ((List.getD t.snd.fst (↑x : Int).toNat ((0 : Int), (0 : Int), ())).snd.fst = (↑x_1 : Int))) = true → (0 : Int) ≤ (↑x_1 : Int) ∧ (↑x_1 : Int) < (↑(bBs t.snd.fst x).length : Int) ∧ (H.setP ((bBs t.snd.fst x).getD (↑x_1 : Int).toNat (0 : Int)) ∧ (0 : Int) ≤ (↑x_1 : Int) ∧ (↑x_1 : Int) ≤ (59 : Int)) ∧ (H.setP (↑(setU t.snd.fst (↑x : Int).toNat x_1) : Int) ∧ H.setP (↑(((bBs t.snd.fst x).getD (↑x_1 : Int).toNat (0 : Int)).toNat ||| (2 : Nat) ^ (↑x_1 : Int).toNat) : Int)) ∧ inK IntKind.i64 ((↑x_1 : Int) + (1 : Int)) ∧ ∃ (x_2 : Nat), (x_2 ≤ (↑x : Int).toNat ∧ True) ∧ t.snd.fst.length - x_2 < t.snd.fst.length - x_1 ∧ (([] : List Nat) = [] ∧ True ∧ (↑x : Int) = (↑x : Int) ∧ (↑((↑(setU t.snd.fst (↑x : Int).toNat x_1) : Int).toNat ||| (↑(((bBs t.snd.fst x).getD (↑x_1 : Int).toNat (0 : Int)).toNat ||| (2 : Nat) ^ (↑x_1 : Int).toNat) : Int).toNat) : Int) = (↑(setU t.snd.fst (↑x : Int).toNat x_2) : Int) ∧ (↑x_1 : Int) + (1 : Int) = (↑x_2 : Int) ∧ True) ∧ (((24 : Nat) = (24 : Nat) ∧ t = t) ∧ ((3 : Nat) = (3 : Nat) ∧ bBs t.snd.fst x = bBs t.snd.fst x) ∧ True) ∧ True) ∧ ((decide ((List.getD t.snd.fst (↑x_1 : Int).toNat ((0 : Int), (0 : Int), ())).fst = (List.getD t.snd.fst (↑x : Int).toNat ((0 : Int), (0 : Int), ())).fst) || decide ((List.getD t.snd.fst (↑x : Int).toNat ((0 : Int), (0 : Int), ())).snd.fst = (↑x_1 : Int))) = false → inK IntKind.i64 ((↑x_1 : Int) + (1 : Int)) ∧ ∃ (x_2 : Nat), (x_2 ≤ (↑x : Int).toNat ∧ True) ∧ t.snd.fst.length - x_2 < t.snd.fst.length - x_1 ∧ (([] : List Nat) = [] ∧ True ∧ (↑x : Int) = (↑x : Int) ∧ (↑(setU t.snd.fst (↑x : Int).toNat x_1) : Int) = (↑(setU t.snd.fst (↑x : Int).toNat x_2) : Int) ∧ (↑x_1 : Int) + (1 : Int) = (↑x_2 : Int) ∧ True) ∧ (((24 : Nat) = (24 : Nat) ∧ t = t) ∧ ((3 : Nat) = (3 : Nat) ∧ bBs t.snd.fst x = bBs t.snd.fst x) ∧ True) ∧ True)) ∧ (decide ((↑x_1 : Int) < (↑x : Int)) = false → (bBs t.snd.fst x).length + ((List.replicate (1 : Nat) (0 : Int)).set (0 : Nat) (↑(setU t.snd.fst (↑x : Int).toNat x_1) : Int)).length ≤ (1000000000 : Nat) ∧ inK IntKind.i64 ((↑x : Int) + (1 : Int)) ∧ ∃ (x_2 : Nat), (x_2 ≤ t.snd.fst.length ∧ True) ∧ t.snd.fst.length - x_2 < t.snd.fst.length - x ∧ (([] : List Nat) = [] ∧ True ∧ (↑x : Int) + (1 : Int) = (↑x_2 : Int) ∧ True) ∧ (((24 : Nat) = (24 : Nat) ∧ t = t) ∧ ((3 : Nat) = (3 : Nat) ∧ (bBs t.snd.fst x).append ((List.replicate (1 : Nat) (0 : Int)).set (0 : Nat) (↑(setU t.snd.fst (↑x : Int).toNat x_1) : Int)) = bBs t.snd.fst x_2) ∧ True) ∧ True)) ∧ (decide ((↑x : Int) < (↑(List.length t.snd.fst) : Int)) = false → k [Dat.mk (I).sl (bBs t.snd.fst x)])) := by kernel_rfl
theorem vcROf (t : Tr) (p : Int) (k : List Dat → Prop) : vcF ⟨Em, [], [], [], []⟩ (anROf t p) (Tryd.f12.body.getD .skip) Tryd.f12.ntmps [(.tmp 4, .sl I)] [⟨tTr, t⟩, ⟨I, p⟩] k = (
  (∃ (x : Nat), (x ≤ t.snd.fst.length ∧ True) ∧ (p = p ∧ ([] : List Nat) = [] ∧ True ∧ (0 : Int) = (↑x : Int) ∧ True) ∧ (((24 : Nat) = (24 : Nat) ∧ t = t) ∧ ((3 : Nat) = (3 : Nat) ∧ [] = ofU t.snd.fst p x) ∧ True) ∧ True) ∧ ∀ (x : Nat), x ≤ t.snd.fst.length ∧ True → (decide ((↑x : Int) < (↑(List.length t.snd.fst) : Int)) = true → (0 : Int) ≤ (↑x : Int) ∧ (↑x : Int) < (↑(List.length t.snd.fst) : Int) ∧ (decide ((List.getD t.snd.fst (↑x : Int).toNat ((0 : Int), (0 : Int), ())).fst = p) = true → (ofU t.snd.fst p x).length + ((List.replicate (1 : Nat) (0 : Int)).set (0 : Nat) (↑x : Int)).length ≤ (1000000000 : Nat) ∧ inK IntKind.i64 ((↑x : Int) + (1 : Int)) ∧ ∃ (x_1 : Nat), (x_1 ≤ t.snd.fst.length ∧ True) ∧ t.snd.fst.length - x_1 < t.snd.fst.length - x ∧ (p = p ∧ ([] : List Nat) = [] ∧ True ∧ (↑x : Int) + (1 : Int) = (↑x_1 : Int) ∧ True) ∧ (((24 : Nat) = (24 : Nat) ∧ t = t) ∧ ((3 : Nat) = (3 : Nat) ∧ (ofU t.snd.fst p x).append ((List.replicate (1 : Nat) (0 : Int)).set (0 : Nat) (↑x : Int)) = ofU t.snd.fst p x_1) ∧ True) ∧ True) ∧ (decide ((List.getD t.snd.fst (↑x : Int).toNat ((0 : Int), (0 : Int), ())).fst = p) = false → inK IntKind.i64 ((↑x : Int) + (1 : Int)) ∧ ∃ (x_1 : Nat), (x_1 ≤ t.snd.fst.length ∧ True) ∧ t.snd.fst.length - x_1 < t.snd.fst.length - x ∧ (p = p ∧ ([] : List Nat) = [] ∧ True ∧ (↑x : Int) + (1 : Int) = (↑x_1 : Int) ∧ True) ∧ (((24 : Nat) = (24 : Nat) ∧ t = t) ∧ ((3 : Nat) = (3 : Nat) ∧ ofU t.snd.fst p x = ofU t.snd.fst p x_1) ∧ True) ∧ True)) ∧ (decide ((↑x : Int) < (↑(List.length t.snd.fst) : Int)) = false → k [Dat.mk (I).sl (ofU t.snd.fst p x)])) := by kernel_rfl
theorem vcOf (t : Tr) (p : Int) (k : List Dat → Prop) : vcF ⟨Em, [(10, cCheck), (44, cWithin)], [], [], []⟩ (anOf t p) (Tryd.f15.body.getD .skip) Tryd.f15.ntmps [(.tmp 4, .sl I), (.tmp 5, tErr)] [⟨tTr, t⟩, ⟨I, p⟩] k = (
  True ∧ ((!decide (chk t = (0 : Int))) = true → k [Dat.mk (I).sl [], Dat.mk (Ty.err (71 : Nat)) (chk t)]) ∧ ((!decide (chk t = (0 : Int))) = false → inK IntKind.i64 (t.fst - (1 : Int)) ∧ True ∧ ((!inB p (0 : Int) (t.fst - (1 : Int))) = true → (1 : Int) ≠ (0 : Int) ∧ k [Dat.mk (I).sl [], Dat.mk (Ty.err (71 : Nat)) (1 : Int)]) ∧ ((!inB p (0 : Int) (t.fst - (1 : Int))) = false → (∃ (x : Nat), (x ≤ t.snd.fst.length ∧ chk t = (0 : Int)) ∧ (t = t ∧ p = p ∧ ([] : List Nat) = [] ∧ True ∧ (0 : Int) = (0 : Int) ∧ True ∧ t.snd.fst = t.snd.fst ∧ (↑(List.length t.snd.fst) : Int) = (↑(List.length t.snd.fst) : Int) ∧ (0 : Int) = (↑x : Int) ∧ True) ∧ (((24 : Nat) = (24 : Nat) ∧ t = t) ∧ ((3 : Nat) = (3 : Nat) ∧ [] = ofU t.snd.fst p x) ∧ True) ∧ True) ∧ ∀ (x : Nat), x ≤ t.snd.fst.length ∧ chk t = (0 : Int) → (decide ((↑x : Int) < (↑(List.length t.snd.fst) : Int)) = true → (0 : Int) ≤ (↑x : Int) ∧ (↑x : Int) < (↑(List.length t.snd.fst) : Int) ∧ (decide ((List.getD t.snd.fst (↑x : Int).toNat ((0 : Int), (0 : Int), ())).fst = p) = true → (ofU t.snd.fst p x).length + ((List.replicate (1 : Nat) (0 : Int)).set (0 : Nat) (↑x : Int)).length ≤ (1000000000 : Nat) ∧ inK IntKind.i64 ((↑x : Int) + (1 : Int)) ∧ ∃ (x_1 : Nat), (x_1 ≤ t.snd.fst.length ∧ chk t = (0 : Int)) ∧ t.snd.fst.length - x_1 < t.snd.fst.length - x ∧ (t = t ∧ p = p ∧ ([] : List Nat) = [] ∧ True ∧ (0 : Int) = (0 : Int) ∧ True ∧ t.snd.fst = t.snd.fst ∧ (↑(List.length t.snd.fst) : Int) = (↑(List.length t.snd.fst) : Int) ∧ (↑x : Int) + (1 : Int) = (↑x_1 : Int) ∧ True) ∧ (((24 : Nat) = (24 : Nat) ∧ t = t) ∧ ((3 : Nat) = (3 : Nat) ∧ (ofU t.snd.fst p x).append ((List.replicate (1 : Nat) (0 : Int)).set (0 : Nat) (↑x : Int)) = ofU t.snd.fst p x_1) ∧ True) ∧ True) ∧ (decide ((List.getD t.snd.fst (↑x : Int).toNat ((0 : Int), (0 : Int), ())).fst = p) = false → inK IntKind.i64 ((↑x : Int) + (1 : Int)) ∧ ∃ (x_1 : Nat), (x_1 ≤ t.snd.fst.length ∧ chk t = (0 : Int)) ∧ t.snd.fst.length - x_1 < t.snd.fst.length - x ∧ (t = t ∧ p = p ∧ ([] : List Nat) = [] ∧ True ∧ (0 : Int) = (0 : Int) ∧ True ∧ t.snd.fst = t.snd.fst ∧ (↑(List.length t.snd.fst) : Int) = (↑(List.length t.snd.fst) : Int) ∧ (↑x : Int) + (1 : Int) = (↑x_1 : Int) ∧ True) ∧ (((24 : Nat) = (24 : Nat) ∧ t = t) ∧ ((3 : Nat) = (3 : Nat) ∧ ofU t.snd.fst p x = ofU t.snd.fst p x_1) ∧ True) ∧ True)) ∧ (decide ((↑x : Int) < (↑(List.length t.snd.fst) : Int)) = false → k [Dat.mk (I).sl (ofU t.snd.fst p x), Dat.mk (Ty.err (71 : Nat)) (0 : Int)])))) := by kernel_rfl
theorem vcRSame (t u : Tr) (k : List Dat → Prop) : vcF ⟨Em, [(47, cNth)], [], [], []⟩ (anRSame t u) (Tryd.f16.body.getD .skip) Tryd.f16.ntmps [(.tmp 4, .bool)] [⟨tTr, t⟩, ⟨tTr, u⟩] k = (
  ((!decide (t.fst = u.fst)) = true → k [Dat.mk Ty.bool false]) ∧ ((!decide (t.fst = u.fst)) = false → ((!decide ((↑(List.length t.snd.fst) : Int) = (↑(List.length u.snd.fst) : Int))) = true → k [Dat.mk Ty.bool false]) ∧ ((!decide ((↑(List.length t.snd.fst) : Int) = (↑(List.length u.snd.fst) : Int))) = false → (∃ (x : Nat), (x ≤ t.snd.fst.length ∧ ∀ (m : Nat), m < x → foundU t u m u.snd.fst.length = true) ∧ (([] : List Nat) = [] ∧ ([] : List Nat) = [] ∧ (0 : Int) = (↑x : Int) ∧ True) ∧ (((24 : Nat) = (24 : Nat) ∧ t = t) ∧ ((24 : Nat) = (24 : Nat) ∧ u = u) ∧ True) ∧ True) ∧ ∀ (x : Nat), (x ≤ t.snd.fst.length ∧ ∀ (m : Nat), m < x → foundU t u m u.snd.fst.length = true) → (decide ((↑x : Int) < (↑(List.length t.snd.fst) : Int)) = true → (∃ (x_1 : Nat), (x_1 ≤ u.snd.fst.length ∧ True) ∧ (([] : List Nat) = [] ∧ ([] : List Nat) = [] ∧ (↑x : Int) = (↑x : Int) ∧ false = foundU t u (↑x : Int).toNat x_1 ∧ (0 : Int) = (↑x_1 : Int) ∧ True) ∧ (((24 : Nat) = (24 : Nat) ∧ t = t) ∧ ((24 : Nat) = (24 : Nat) ∧ u = u) ∧ True) ∧ True) ∧ ∀ (x_1 : Nat), x_1 ≤ u.snd.fst.length ∧ True → (decide ((↑x_1 : Int) < (↑(List.length u.snd.fst) : Int)) = true → ((0 : Int) ≤ (↑x : Int) ∧ (↑x : Int) < (↑(List.length t.snd.fst) : Int) ∧ (0 : Int) ≤ (↑x_1 : Int) ∧ (↑x_1 : Int) < (↑(List.length u.snd.fst) : Int) ∧ ((!decide ((List.getD t.snd.fst (↑x : Int).toNat ((0 : Int), (0 : Int), ())).fst = (List.getD u.snd.fst (↑x_1 : Int).toNat ((0 : Int), (0 : Int), ())).fst)) = true → True) ∧ ((!decide ((List.getD t.snd.fst (↑x : Int).toNat ((0 : Int), (0 : Int), ())).fst = (List.getD u.snd.fst (↑x_1 : Int).toNat ((0 : Int), (0 : Int), ())).fst)) = false → ((0 : Int) ≤ (↑x : Int) ∧ (↑x : Int) < (↑t.snd.fst.length : Int)) ∧ ((0 : Int) ≤ (↑x_1 : Int) ∧ (↑x_1 : Int) < (↑u.snd.fst.length : Int)) ∧ True)) ∧ ((!decide ((List.getD t.snd.fst (↑x : Int).toNat ((0 : Int), (0 : Int), ())).fst = (List.getD u.snd.fst (↑x_1 : Int).toNat ((0 : Int), (0 : Int), ())).fst) || !decide ((↑(nth t.snd.fst (↑x : Int).toNat) : Int) = (↑(nth u.snd.fst (↑x_1 : Int).toNat) : Int))) = true → inK IntKind.i64 ((↑x_1 : Int) + (1 : Int)) ∧ ∃ (x_2 : Nat), (x_2 ≤ u.snd.fst.length ∧ True) ∧ u.snd.fst.length - x_2 < u.snd.fst.length - x_1 ∧ (([] : List Nat) = [] ∧ ([] : List Nat) = [] ∧ (↑x : Int) = (↑x : Int) ∧ foundU t u (↑x : Int).toNat x_1 = foundU t u (↑x : Int).toNat x_2 ∧ (↑x_1 : Int) + (1 : Int) = (↑x_2 : Int) ∧ True) ∧ (((24 : Nat) = (24 : Nat) ∧ t = t) ∧ ((24 : Nat) = (24 : Nat) ∧ u = u) ∧ True) ∧ True) ∧ ((!decide ((List.getD t.snd.fst (↑x : Int).toNat ((0 : Int), (0 : Int), ())).fst = (List.getD u.snd.fst (↑x_1 : Int).toNat ((0 : Int), (0 : Int), ())).fst) || !decide ((↑(nth t.snd.fst (↑x : Int).toNat) : Int) = (↑(nth u.snd.fst (↑x_1 : Int).toNat) : Int))) = false → (0 : Int) ≤ (↑x : Int) ∧ (↑x : Int) < (↑(List.length t.snd.fst) : Int) ∧ (0 : Int) ≤ (↑x_1 : Int) ∧ (↑x_1 : Int) < (↑(List.length u.snd.fst) : Int) ∧ ((decide ((List.getD t.snd.fst (↑x : Int).toNat ((0 : Int), (0 : Int), ())).snd.fst < (0 : Int)) = true → (decide ((List.getD u.snd.fst (↑x_1 : Int).toNat ((0 : Int), (0 : Int), ())).snd.fst < (0 : Int)) = true → True) ∧ (decide ((List.getD u.snd.fst (↑x_1 : Int).toNat ((0 : Int), (0 : Int), ())).snd.fst < (0 : Int)) = false → (decide ((0 : Int) ≤ (List.getD t.snd.fst (↑x : Int).toNat ((0 : Int), (0 : Int), ())).snd.fst) = true → (decide ((0 : Int) ≤ (List.getD u.snd.fst (↑x_1 : Int).toNat ((0 : Int), (0 : Int), ())).snd.fst) = true → (0 : Int) ≤ (List.getD t.snd.fst (↑x : Int).toNat ((0 : Int), (0 : Int), ())).snd.fst ∧ (List.getD t.snd.fst (↑x : Int).toNat ((0 : Int), (0 : Int), ())).snd.fst < (↑(List.length t.snd.fst) : Int) ∧ (0 : Int) ≤ (List.getD u.snd.fst (↑x_1 : Int).toNat ((0 : Int), (0 : Int), ())).snd.fst ∧ (List.getD u.snd.fst (↑x_1 : Int).toNat ((0 : Int), (0 : Int), ())).snd.fst < (↑(List.length u.snd.fst) : Int) ∧ (decide ((List.getD t.snd.fst (Int.toNat (List.getD t.snd.fst (↑x : Int).toNat ((0 : Int), (0 : Int), ())).snd.fst) ((0 : Int), (0 : Int), ())).fst = (List.getD u.snd.fst (Int.toNat (List.getD u.snd.fst (↑x_1 : Int).toNat ((0 : Int), (0 : Int), ())).snd.fst) ((0 : Int), (0 : Int), ())).fst) = true → ((0 : Int) ≤ (List.getD t.snd.fst (↑x : Int).toNat ((0 : Int), (0 : Int), ())).snd.fst ∧ (List.getD t.snd.fst (↑x : Int).toNat ((0 : Int), (0 : Int), ())).snd.fst < (↑t.snd.fst.length : Int)) ∧ ((0 : Int) ≤ (List.getD u.snd.fst (↑x_1 : Int).toNat ((0 : Int), (0 : Int), ())).snd.fst ∧ (List.getD u.snd.fst (↑x_1 : Int).toNat ((0 : Int), (0 : Int), ())).snd.fst < (↑u.snd.fst.length : Int)) ∧ True) ∧ (decide ((List.getD t.snd.fst (Int.toNat (List.getD t.snd.fst (↑x : Int).toNat ((0 : Int), (0 : Int), ())).snd.fst) ((0 : Int), (0 : Int), ())).fst = (List.getD u.snd.fst (Int.toNat (List.getD u.snd.fst (↑x_1 : Int).toNat ((0 : Int), (0 : Int), ())).snd.fst) ((0 : Int), (0 : Int), ())).fst) = false → True)) ∧ (decide ((0 : Int) ≤ (List.getD u.snd.fst (↑x_1 : Int).toNat ((0 : Int), (0 : Int), ())).snd.fst) = false → True)) ∧ (decide ((0 : Int) ≤ (List.getD t.snd.fst (↑x : Int).toNat ((0 : Int), (0 : Int), ())).snd.fst) = false → True))) ∧ (decide ((List.getD t.snd.fst (↑x : Int).toNat ((0 : Int), (0 : Int), ())).snd.fst < (0 : Int)) = false → (decide ((0 : Int) ≤ (List.getD t.snd.fst (↑x : Int).toNat ((0 : Int), (0 : Int), ())).snd.fst) = true → (decide ((0 : Int) ≤ (List.getD u.snd.fst (↑x_1 : Int).toNat ((0 : Int), (0 : Int), ())).snd.fst) = true → (0 : Int) ≤ (List.getD t.snd.fst (↑x : Int).toNat ((0 : Int), (0 : Int), ())).snd.fst ∧ (List.getD t.snd.fst (↑x : Int).toNat ((0 : Int), (0 : Int), ())).snd.fst < (↑(List.length t.snd.fst) : Int) ∧ (0 : Int) ≤ (List.getD u.snd.fst (↑x_1 : Int).toNat ((0 : Int), (0 : Int), ())).snd.fst ∧ (List.getD u.snd.fst (↑x_1 : Int).toNat ((0 : Int), (0 : Int), ())).snd.fst < (↑(List.length u.snd.fst) : Int) ∧ (decide ((List.getD t.snd.fst (Int.toNat (List.getD t.snd.fst (↑x : Int).toNat ((0 : Int), (0 : Int), ())).snd.fst) ((0 : Int), (0 : Int), ())).fst = (List.getD u.snd.fst (Int.toNat (List.getD u.snd.fst (↑x_1 : Int).toNat ((0 : Int), (0 : Int), ())).snd.fst) ((0 : Int), (0 : Int), ())).fst) = true → ((0 : Int) ≤ (List.getD t.snd.fst (↑x : Int).toNat ((0 : Int), (0 : Int), ())).snd.fst ∧ (List.getD t.snd.fst (↑x : Int).toNat ((0 : Int), (0 : Int), ())).snd.fst < (↑t.snd.fst.length : Int)) ∧ ((0 : Int) ≤ (List.getD u.snd.fst (↑x_1 : Int).toNat ((0 : Int), (0 : Int), ())).snd.fst ∧ (List.getD u.snd.fst (↑x_1 : Int).toNat ((0 : Int), (0 : Int), ())).snd.fst < (↑u.snd.fst.length : Int)) ∧ True) ∧ (decide ((List.getD t.snd.fst (Int.toNat (List.getD t.snd.fst (↑x : Int).toNat ((0 : Int), (0 : Int), ())).snd.fst) ((0 : Int), (0 : Int), ())).fst = (List.getD u.snd.fst (Int.toNat (List.getD u.snd.fst (↑x_1 : Int).toNat ((0 : Int), (0 : Int), ())).snd.fst) ((0 : Int), (0 : Int), ())).fst) = false → True)) ∧ (decide ((0 : Int) ≤ (List.getD u.snd.fst (↑x_1 : Int).toNat ((0 : Int), (0 : Int), ())).snd.fst) = false → True)) ∧ (decide ((0 : Int) ≤ (List.getD t.snd.fst (↑x : Int).toNat ((0 : Int), (0 : Int), ())).snd.fst) = false → True))) ∧ inK IntKind.i64 ((↑x_1 : Int) + (1 : Int)) ∧ ∃ (x_2 : Nat), (x_2 ≤ u.snd.fst.length ∧ True) ∧ u.snd.fst.length - x_2 < u.snd.fst.length - x_1 ∧ (([] : List Nat) = [] ∧ ([] : List Nat) = [] ∧ (↑x : Int) = (↑x : Int) ∧ (bif decide ((List.getD t.snd.fst (↑x : Int).toNat ((0 : Int), (0 : Int), ())).snd.fst < (0 : Int)) then decide ((List.getD u.snd.fst (↑x_1 : Int).toNat ((0 : Int), (0 : Int), ())).snd.fst < (0 : Int)) || decide ((0 : Int) ≤ (List.getD t.snd.fst (↑x : Int).toNat ((0 : Int), (0 : Int), ())).snd.fst) && (decide ((0 : Int) ≤ (List.getD u.snd.fst (↑x_1 : Int).toNat ((0 : Int), (0 : Int), ())).snd.fst) && (decide ((List.getD t.snd.fst (Int.toNat (List.getD t.snd.fst (↑x : Int).toNat ((0 : Int), (0 : Int), ())).snd.fst) ((0 : Int), (0 : Int), ())).fst = (List.getD u.snd.fst (Int.toNat (List.getD u.snd.fst (↑x_1 : Int).toNat ((0 : Int), (0 : Int), ())).snd.fst) ((0 : Int), (0 : Int), ())).fst) && decide ((↑(nth t.snd.fst (Int.toNat (List.getD t.snd.fst (↑x : Int).toNat ((0 : Int), (0 : Int), ())).snd.fst)) : Int) = (↑(nth u.snd.fst (Int.toNat (List.getD u.snd.fst (↑x_1 : Int).toNat ((0 : Int), (0 : Int), ())).snd.fst)) : Int)))) else decide ((0 : Int) ≤ (List.getD t.snd.fst (↑x : Int).toNat ((0 : Int), (0 : Int), ())).snd.fst) && (decide ((0 : Int) ≤ (List.getD u.snd.fst (↑x_1 : Int).toNat ((0 : Int), (0 : Int), ())).snd.fst) && (decide ((List.getD t.snd.fst (Int.toNat (List.getD t.snd.fst (↑x : Int).toNat ((0 : Int), (0 : Int), ())).snd.fst) ((0 : Int), (0 : Int), ())).fst = (List.getD u.snd.fst (Int.toNat (List.getD u.snd.fst (↑x_1 : Int).toNat ((0 : Int), (0 : Int), ())).snd.fst) ((0 : Int), (0 : Int), ())).fst) && decide ((↑(nth t.snd.fst (Int.toNat (List.getD t.snd.fst (↑x : Int).toNat ((0 : Int), (0 : Int), ())).snd.fst)) : Int) = (↑(nth u.snd.fst (Int.toNat (List.getD u.snd.fst (↑x_1 : Int).toNat ((0 : Int), (0 : Int), ())).snd.fst)) : Int))))) = foundU t u (↑x : Int).toNat x_2 ∧ (↑x_1 : Int) + (1 : Int) = (↑x_2 : Int) ∧ True) ∧ (((24 : Nat) = (24 : Nat) ∧ t = t) ∧ ((24 : Nat) = (24 : Nat) ∧ u = u) ∧ True) ∧ True)) ∧ (decide ((↑x_1 : Int) < (↑(List.length u.snd.fst) : Int)) = false → ((!foundU t u (↑x : Int).toNat x_1) = true → k [Dat.mk Ty.bool false]) ∧ ((!foundU t u (↑x : Int).toNat x_1) = false → inK IntKind.i64 ((↑x : Int) + (1 : Int)) ∧ ∃ (x_2 : Nat), (x_2 ≤ t.snd.fst.length ∧ ∀ (m : Nat), m < x_2 → foundU t u m u.snd.fst.length = true) ∧ t.snd.fst.length - x_2 < t.snd.fst.length - x ∧ (([] : List Nat) = [] ∧ ([] : List Nat) = [] ∧ (↑x : Int) + (1 : Int) = (↑x_2 : Int) ∧ True) ∧ (((24 : Nat) = (24 : Nat) ∧ t = t) ∧ ((24 : Nat) = (24 : Nat) ∧ u = u) ∧ True) ∧ True))) ∧ (decide ((↑x : Int) < (↑(List.length t.snd.fst) : Int)) = false → k [Dat.mk Ty.bool true])))) := by kernel_rfl
theorem vcLawT (t u : Tr) (p : Int) (k : List Dat → Prop) : vcF ⟨Em, [(8, cRTrace), (10, cCheck), (9, cError), (11, cRBefore), (12, cROf), (13, cBefore), (14, cInts), (15, cOf), (16, cRSame), (17, cSame2)], glE, [], []⟩ [joinAll] (Tryd.f3.body.getD .skip) Tryd.f3.ntmps [(.tmp 6, .bool)] [⟨tTr, t⟩, ⟨tTr, u⟩, ⟨I, p⟩] k = (
  True ∧ True ∧ (inK IntKind.i64 (chk t) ∧ True) ∧ (decide (chk t = (0 : Int)) = true → (chk t = (0 : Int) ∧ True) ∧ (decide (p < (0 : Int)) = true → True ∧ (inK IntKind.i64 (chk t) ∧ True) ∧ (decide (chk t = chk t) = true → True ∧ True ∧ (inK IntKind.i64 (ofE t p) ∧ True) ∧ (decide (ofE t p = (1 : Int)) = true → True ∧ (decide (chk t = (0 : Int)) = true → True ∧ (decide (chk u = (0 : Int)) = true → (chk t = (0 : Int) ∧ chk u = (0 : Int)) ∧ True ∧ (decide (chk t = chk t) = true → ((bef t == ints (befN t)) = true → (((if ofE t p = (0 : Int) then ofT t p else []) == []) = true → (inK IntKind.i64 (smErr t u) ∧ True) ∧ (decide (smErr t u = chk u) = true → k [Dat.mk Ty.bool (smR t u == sameB t u)]) ∧ (decide (smErr t u = chk u) = false → k [Dat.mk Ty.bool false])) ∧ (((if ofE t p = (0 : Int) then ofT t p else []) == []) = false → k [Dat.mk Ty.bool false])) ∧ ((bef t == ints (befN t)) = false → k [Dat.mk Ty.bool false])) ∧ (decide (chk t = chk t) = false → k [Dat.mk Ty.bool false])) ∧ (decide (chk u = (0 : Int)) = false → True ∧ (decide (chk t = chk t) = true → ((bef t == ints (befN t)) = true → (((if ofE t p = (0 : Int) then ofT t p else []) == []) = true → (inK IntKind.i64 (smErr t u) ∧ True) ∧ (decide (smErr t u = chk u) = true → k [Dat.mk Ty.bool (smR t u == false)]) ∧ (decide (smErr t u = chk u) = false → k [Dat.mk Ty.bool false])) ∧ (((if ofE t p = (0 : Int) then ofT t p else []) == []) = false → k [Dat.mk Ty.bool false])) ∧ ((bef t == ints (befN t)) = false → k [Dat.mk Ty.bool false])) ∧ (decide (chk t = chk t) = false → k [Dat.mk Ty.bool false]))) ∧ (decide (chk t = (0 : Int)) = false → (decide (chk t = (0 : Int)) = true → (chk t = (0 : Int) ∧ chk u = (0 : Int)) ∧ True ∧ (decide (chk t = chk t) = true → ((bef t == ints (befN t)) = true → (((if ofE t p = (0 : Int) then ofT t p else []) == []) = true → (inK IntKind.i64 (smErr t u) ∧ True) ∧ (decide (smErr t u = chk t) = true → k [Dat.mk Ty.bool (smR t u == sameB t u)]) ∧ (decide (smErr t u = chk t) = false → k [Dat.mk Ty.bool false])) ∧ (((if ofE t p = (0 : Int) then ofT t p else []) == []) = false → k [Dat.mk Ty.bool false])) ∧ ((bef t == ints (befN t)) = false → k [Dat.mk Ty.bool false])) ∧ (decide (chk t = chk t) = false → k [Dat.mk Ty.bool false])) ∧ (decide (chk t = (0 : Int)) = false → True ∧ (decide (chk t = chk t) = true → ((bef t == ints (befN t)) = true → (((if ofE t p = (0 : Int) then ofT t p else []) == []) = true → (inK IntKind.i64 (smErr t u) ∧ True) ∧ (decide (smErr t u = chk t) = true → k [Dat.mk Ty.bool (smR t u == false)]) ∧ (decide (smErr t u = chk t) = false → k [Dat.mk Ty.bool false])) ∧ (((if ofE t p = (0 : Int) then ofT t p else []) == []) = false → k [Dat.mk Ty.bool false])) ∧ ((bef t == ints (befN t)) = false → k [Dat.mk Ty.bool false])) ∧ (decide (chk t = chk t) = false → k [Dat.mk Ty.bool false])))) ∧ (decide (ofE t p = (1 : Int)) = false → (decide (chk t = (0 : Int)) = true → True ∧ (decide (chk u = (0 : Int)) = true → (chk t = (0 : Int) ∧ chk u = (0 : Int)) ∧ True ∧ (decide (chk t = chk t) = true → ((bef t == ints (befN t)) = true → k [Dat.mk Ty.bool false]) ∧ ((bef t == ints (befN t)) = false → k [Dat.mk Ty.bool false])) ∧ (decide (chk t = chk t) = false → k [Dat.mk Ty.bool false])) ∧ (decide (chk u = (0 : Int)) = false → True ∧ (decide (chk t = chk t) = true → ((bef t == ints (befN t)) = true → k [Dat.mk Ty.bool false]) ∧ ((bef t == ints (befN t)) = false → k [Dat.mk Ty.bool false])) ∧ (decide (chk t = chk t) = false → k [Dat.mk Ty.bool false]))) ∧ (decide (chk t = (0 : Int)) = false → (decide (chk t = (0 : Int)) = true → (chk t = (0 : Int) ∧ chk u = (0 : Int)) ∧ True ∧ (decide (chk t = chk t) = true → ((bef t == ints (befN t)) = true → k [Dat.mk Ty.bool false]) ∧ ((bef t == ints (befN t)) = false → k [Dat.mk Ty.bool false])) ∧ (decide (chk t = chk t) = false → k [Dat.mk Ty.bool false])) ∧ (decide (chk t = (0 : Int)) = false → True ∧ (decide (chk t = chk t) = true → ((bef t == ints (befN t)) = true → k [Dat.mk Ty.bool false]) ∧ ((bef t == ints (befN t)) = false → k [Dat.mk Ty.bool false])) ∧ (decide (chk t = chk t) = false → k [Dat.mk Ty.bool false]))))) ∧ (decide (chk t = chk t) = false → True ∧ (inK IntKind.i64 (ofE t p) ∧ True) ∧ (decide (ofE t p = (1 : Int)) = true → True ∧ (decide (chk t = (0 : Int)) = true → True ∧ (decide (chk u = (0 : Int)) = true → (chk t = (0 : Int) ∧ chk u = (0 : Int)) ∧ True ∧ (decide (chk t = chk t) = true → k [Dat.mk Ty.bool false]) ∧ (decide (chk t = chk t) = false → k [Dat.mk Ty.bool false])) ∧ (decide (chk u = (0 : Int)) = false → True ∧ (decide (chk t = chk t) = true → k [Dat.mk Ty.bool false]) ∧ (decide (chk t = chk t) = false → k [Dat.mk Ty.bool false]))) ∧ (decide (chk t = (0 : Int)) = false → (decide (chk t = (0 : Int)) = true → (chk t = (0 : Int) ∧ chk u = (0 : Int)) ∧ True ∧ (decide (chk t = chk t) = true → k [Dat.mk Ty.bool false]) ∧ (decide (chk t = chk t) = false → k [Dat.mk Ty.bool false])) ∧ (decide (chk t = (0 : Int)) = false → True ∧ (decide (chk t = chk t) = true → k [Dat.mk Ty.bool false]) ∧ (decide (chk t = chk t) = false → k [Dat.mk Ty.bool false])))) ∧ (decide (ofE t p = (1 : Int)) = false → (decide (chk t = (0 : Int)) = true → True ∧ (decide (chk u = (0 : Int)) = true → (chk t = (0 : Int) ∧ chk u = (0 : Int)) ∧ True ∧ (decide (chk t = chk t) = true → k [Dat.mk Ty.bool false]) ∧ (decide (chk t = chk t) = false → k [Dat.mk Ty.bool false])) ∧ (decide (chk u = (0 : Int)) = false → True ∧ (decide (chk t = chk t) = true → k [Dat.mk Ty.bool false]) ∧ (decide (chk t = chk t) = false → k [Dat.mk Ty.bool false]))) ∧ (decide (chk t = (0 : Int)) = false → (decide (chk t = (0 : Int)) = true → (chk t = (0 : Int) ∧ chk u = (0 : Int)) ∧ True ∧ (decide (chk t = chk t) = true → k [Dat.mk Ty.bool false]) ∧ (decide (chk t = chk t) = false → k [Dat.mk Ty.bool false])) ∧ (decide (chk t = (0 : Int)) = false → True ∧ (decide (chk t = chk t) = true → k [Dat.mk Ty.bool false]) ∧ (decide (chk t = chk t) = false → k [Dat.mk Ty.bool false])))))) ∧ (decide (p < (0 : Int)) = false → (decide (t.fst ≤ p) = true → True ∧ (inK IntKind.i64 (chk t) ∧ True) ∧ (decide (chk t = chk t) = true → True ∧ True ∧ (inK IntKind.i64 (ofE t p) ∧ True) ∧ (decide (ofE t p = (1 : Int)) = true → True ∧ (decide (chk t = (0 : Int)) = true → True ∧ (decide (chk u = (0 : Int)) = true → (chk t = (0 : Int) ∧ chk u = (0 : Int)) ∧ True ∧ (decide (chk t = chk t) = true → ((bef t == ints (befN t)) = true → (((if ofE t p = (0 : Int) then ofT t p else []) == []) = true → (inK IntKind.i64 (smErr t u) ∧ True) ∧ (decide (smErr t u = chk u) = true → k [Dat.mk Ty.bool (smR t u == sameB t u)]) ∧ (decide (smErr t u = chk u) = false → k [Dat.mk Ty.bool false])) ∧ (((if ofE t p = (0 : Int) then ofT t p else []) == []) = false → k [Dat.mk Ty.bool false])) ∧ ((bef t == ints (befN t)) = false → k [Dat.mk Ty.bool false])) ∧ (decide (chk t = chk t) = false → k [Dat.mk Ty.bool false])) ∧ (decide (chk u = (0 : Int)) = false → True ∧ (decide (chk t = chk t) = true → ((bef t == ints (befN t)) = true → (((if ofE t p = (0 : Int) then ofT t p else []) == []) = true → (inK IntKind.i64 (smErr t u) ∧ True) ∧ (decide (smErr t u = chk u) = true → k [Dat.mk Ty.bool (smR t u == false)]) ∧ (decide (smErr t u = chk u) = false → k [Dat.mk Ty.bool false])) ∧ (((if ofE t p = (0 : Int) then ofT t p else []) == []) = false → k [Dat.mk Ty.bool false])) ∧ ((bef t == ints (befN t)) = false → k [Dat.mk Ty.bool false])) ∧ (decide (chk t = chk t) = false → k [Dat.mk Ty.bool false]))) ∧ (decide (chk t = (0 : Int)) = false → (decide (chk t = (0 : Int)) = true → (chk t = (0 : Int) ∧ chk u = (0 : Int)) ∧ True ∧ (decide (chk t = chk t) = true → ((bef t == ints (befN t)) = true → (((if ofE t p = (0 : Int) then ofT t p else []) == []) = true → (inK IntKind.i64 (smErr t u) ∧ True) ∧ (decide (smErr t u = chk t) = true → k [Dat.mk Ty.bool (smR t u == sameB t u)]) ∧ (decide (smErr t u = chk t) = false → k [Dat.mk Ty.bool false])) ∧ (((if ofE t p = (0 : Int) then ofT t p else []) == []) = false → k [Dat.mk Ty.bool false])) ∧ ((bef t == ints (befN t)) = false → k [Dat.mk Ty.bool false])) ∧ (decide (chk t = chk t) = false → k [Dat.mk Ty.bool false])) ∧ (decide (chk t = (0 : Int)) = false → True ∧ (decide (chk t = chk t) = true → ((bef t == ints (befN t)) = true → (((if ofE t p = (0 : Int) then ofT t p else []) == []) = true → (inK IntKind.i64 (smErr t u) ∧ True) ∧ (decide (smErr t u = chk t) = true → k [Dat.mk Ty.bool (smR t u == false)]) ∧ (decide (smErr t u = chk t) = false → k [Dat.mk Ty.bool false])) ∧ (((if ofE t p = (0 : Int) then ofT t p else []) == []) = false → k [Dat.mk Ty.bool false])) ∧ ((bef t == ints (befN t)) = false → k [Dat.mk Ty.bool false])) ∧ (decide (chk t = chk t) = false → k [Dat.mk Ty.bool false])))) ∧ (decide (ofE t p = (1 : Int)) = false → (decide (chk t = (0 : Int)) = true → True ∧ (decide (chk u = (0 : Int)) = true → (chk t = (0 : Int) ∧ chk u = (0 : Int)) ∧ True ∧ (decide (chk t = chk t) = true → ((bef t == ints (befN t)) = true → k [Dat.mk Ty.bool false]) ∧ ((bef t == ints (befN t)) = false → k [Dat.mk Ty.bool false])) ∧ (decide (chk t = chk t) = false → k [Dat.mk Ty.bool false])) ∧ (decide (chk u = (0 : Int)) = false → True ∧ (decide (chk t = chk t) = true → ((bef t == ints (befN t)) = true → k [Dat.mk Ty.bool false]) ∧ ((bef t == ints (befN t)) = false → k [Dat.mk Ty.bool false])) ∧ (decide (chk t = chk t) = false → k [Dat.mk Ty.bool false]))) ∧ (decide (chk t = (0 : Int)) = false → (decide (chk t = (0 : Int)) = true → (chk t = (0 : Int) ∧ chk u = (0 : Int)) ∧ True ∧ (decide (chk t = chk t) = true → ((bef t == ints (befN t)) = true → k [Dat.mk Ty.bool false]) ∧ ((bef t == ints (befN t)) = false → k [Dat.mk Ty.bool false])) ∧ (decide (chk t = chk t) = false → k [Dat.mk Ty.bool false])) ∧ (decide (chk t = (0 : Int)) = false → True ∧ (decide (chk t = chk t) = true → ((bef t == ints (befN t)) = true → k [Dat.mk Ty.bool false]) ∧ ((bef t == ints (befN t)) = false → k [Dat.mk Ty.bool false])) ∧ (decide (chk t = chk t) = false → k [Dat.mk Ty.bool false]))))) ∧ (decide (chk t = chk t) = false → True ∧ (inK IntKind.i64 (ofE t p) ∧ True) ∧ (decide (ofE t p = (1 : Int)) = true → True ∧ (decide (chk t = (0 : Int)) = true → True ∧ (decide (chk u = (0 : Int)) = true → (chk t = (0 : Int) ∧ chk u = (0 : Int)) ∧ True ∧ (decide (chk t = chk t) = true → k [Dat.mk Ty.bool false]) ∧ (decide (chk t = chk t) = false → k [Dat.mk Ty.bool false])) ∧ (decide (chk u = (0 : Int)) = false → True ∧ (decide (chk t = chk t) = true → k [Dat.mk Ty.bool false]) ∧ (decide (chk t = chk t) = false → k [Dat.mk Ty.bool false]))) ∧ (decide (chk t = (0 : Int)) = false → (decide (chk t = (0 : Int)) = true → (chk t = (0 : Int) ∧ chk u = (0 : Int)) ∧ True ∧ (decide (chk t = chk t) = true → k [Dat.mk Ty.bool false]) ∧ (decide (chk t = chk t) = false → k [Dat.mk Ty.bool false])) ∧ (decide (chk t = (0 : Int)) = false → True ∧ (decide (chk t = chk t) = true → k [Dat.mk Ty.bool false]) ∧ (decide (chk t = chk t) = false → k [Dat.mk Ty.bool false])))) ∧ (decide (ofE t p = (1 : Int)) = false → (decide (chk t = (0 : Int)) = true → True ∧ (decide (chk u = (0 : Int)) = true → (chk t = (0 : Int) ∧ chk u = (0 : Int)) ∧ True ∧ (decide (chk t = chk t) = true → k [Dat.mk Ty.bool false]) ∧ (decide (chk t = chk t) = false → k [Dat.mk Ty.bool false])) ∧ (decide (chk u = (0 : Int)) = false → True ∧ (decide (chk t = chk t) = true → k [Dat.mk Ty.bool false]) ∧ (decide (chk t = chk t) = false → k [Dat.mk Ty.bool false]))) ∧ (decide (chk t = (0 : Int)) = false → (decide (chk t = (0 : Int)) = true → (chk t = (0 : Int) ∧ chk u = (0 : Int)) ∧ True ∧ (decide (chk t = chk t) = true → k [Dat.mk Ty.bool false]) ∧ (decide (chk t = chk t) = false → k [Dat.mk Ty.bool false])) ∧ (decide (chk t = (0 : Int)) = false → True ∧ (decide (chk t = chk t) = true → k [Dat.mk Ty.bool false]) ∧ (decide (chk t = chk t) = false → k [Dat.mk Ty.bool false])))))) ∧ (decide (t.fst ≤ p) = false → (chk t = (0 : Int) ∧ True) ∧ True ∧ (inK IntKind.i64 (chk t) ∧ True) ∧ (decide (chk t = chk t) = true → True ∧ True ∧ (inK IntKind.i64 (ofE t p) ∧ True) ∧ (decide (ofE t p = chk t) = true → True ∧ (decide (chk t = (0 : Int)) = true → True ∧ (decide (chk u = (0 : Int)) = true → (chk t = (0 : Int) ∧ chk u = (0 : Int)) ∧ True ∧ (decide (chk t = chk t) = true → ((bef t == ints (befN t)) = true → (((if ofE t p = (0 : Int) then ofT t p else []) == ofT t p) = true → (inK IntKind.i64 (smErr t u) ∧ True) ∧ (decide (smErr t u = chk u) = true → k [Dat.mk Ty.bool (smR t u == sameB t u)]) ∧ (decide (smErr t u = chk u) = false → k [Dat.mk Ty.bool false])) ∧ (((if ofE t p = (0 : Int) then ofT t p else []) == ofT t p) = false → k [Dat.mk Ty.bool false])) ∧ ((bef t == ints (befN t)) = false → k [Dat.mk Ty.bool false])) ∧ (decide (chk t = chk t) = false → k [Dat.mk Ty.bool false])) ∧ (decide (chk u = (0 : Int)) = false → True ∧ (decide (chk t = chk t) = true → ((bef t == ints (befN t)) = true → (((if ofE t p = (0 : Int) then ofT t p else []) == ofT t p) = true → (inK IntKind.i64 (smErr t u) ∧ True) ∧ (decide (smErr t u = chk u) = true → k [Dat.mk Ty.bool (smR t u == false)]) ∧ (decide (smErr t u = chk u) = false → k [Dat.mk Ty.bool false])) ∧ (((if ofE t p = (0 : Int) then ofT t p else []) == ofT t p) = false → k [Dat.mk Ty.bool false])) ∧ ((bef t == ints (befN t)) = false → k [Dat.mk Ty.bool false])) ∧ (decide (chk t = chk t) = false → k [Dat.mk Ty.bool false]))) ∧ (decide (chk t = (0 : Int)) = false → (decide (chk t = (0 : Int)) = true → (chk t = (0 : Int) ∧ chk u = (0 : Int)) ∧ True ∧ (decide (chk t = chk t) = true → ((bef t == ints (befN t)) = true → (((if ofE t p = (0 : Int) then ofT t p else []) == ofT t p) = true → (inK IntKind.i64 (smErr t u) ∧ True) ∧ (decide (smErr t u = chk t) = true → k [Dat.mk Ty.bool (smR t u == sameB t u)]) ∧ (decide (smErr t u = chk t) = false → k [Dat.mk Ty.bool false])) ∧ (((if ofE t p = (0 : Int) then ofT t p else []) == ofT t p) = false → k [Dat.mk Ty.bool false])) ∧ ((bef t == ints (befN t)) = false → k [Dat.mk Ty.bool false])) ∧ (decide (chk t = chk t) = false → k [Dat.mk Ty.bool false])) ∧ (decide (chk t = (0 : Int)) = false → True ∧ (decide (chk t = chk t) = true → ((bef t == ints (befN t)) = true → (((if ofE t p = (0 : Int) then ofT t p else []) == ofT t p) = true → (inK IntKind.i64 (smErr t u) ∧ True) ∧ (decide (smErr t u = chk t) = true → k [Dat.mk Ty.bool (smR t u == false)]) ∧ (decide (smErr t u = chk t) = false → k [Dat.mk Ty.bool false])) ∧ (((if ofE t p = (0 : Int) then ofT t p else []) == ofT t p) = false → k [Dat.mk Ty.bool false])) ∧ ((bef t == ints (befN t)) = false → k [Dat.mk Ty.bool false])) ∧ (decide (chk t = chk t) = false → k [Dat.mk Ty.bool false])))) ∧ (decide (ofE t p = chk t) = false → (decide (chk t = (0 : Int)) = true → True ∧ (decide (chk u = (0 : Int)) = true → (chk t = (0 : Int) ∧ chk u = (0 : Int)) ∧ True ∧ (decide (chk t = chk t) = true → ((bef t == ints (befN t)) = true → k [Dat.mk Ty.bool false]) ∧ ((bef t == ints (befN t)) = false → k [Dat.mk Ty.bool false])) ∧ (decide (chk t = chk t) = false → k [Dat.mk Ty.bool false])) ∧ (decide (chk u = (0 : Int)) = false → True ∧ (decide (chk t = chk t) = true → ((bef t == ints (befN t)) = true → k [Dat.mk Ty.bool false]) ∧ ((bef t == ints (befN t)) = false → k [Dat.mk Ty.bool false])) ∧ (decide (chk t = chk t) = false → k [Dat.mk Ty.bool false]))) ∧ (decide (chk t = (0 : Int)) = false → (decide (chk t = (0 : Int)) = true → (chk t = (0 : Int) ∧ chk u = (0 : Int)) ∧ True ∧ (decide (chk t = chk t) = true → ((bef t == ints (befN t)) = true → k [Dat.mk Ty.bool false]) ∧ ((bef t == ints (befN t)) = false → k [Dat.mk Ty.bool false])) ∧ (decide (chk t = chk t) = false → k [Dat.mk Ty.bool false])) ∧ (decide (chk t = (0 : Int)) = false → True ∧ (decide (chk t = chk t) = true → ((bef t == ints (befN t)) = true → k [Dat.mk Ty.bool false]) ∧ ((bef t == ints (befN t)) = false → k [Dat.mk Ty.bool false])) ∧ (decide (chk t = chk t) = false → k [Dat.mk Ty.bool false]))))) ∧ (decide (chk t = chk t) = false → True ∧ (inK IntKind.i64 (ofE t p) ∧ True) ∧ (decide (ofE t p = chk t) = true → True ∧ (decide (chk t = (0 : Int)) = true → True ∧ (decide (chk u = (0 : Int)) = true → (chk t = (0 : Int) ∧ chk u = (0 : Int)) ∧ True ∧ (decide (chk t = chk t) = true → k [Dat.mk Ty.bool false]) ∧ (decide (chk t = chk t) = false → k [Dat.mk Ty.bool false])) ∧ (decide (chk u = (0 : Int)) = false → True ∧ (decide (chk t = chk t) = true → k [Dat.mk Ty.bool false]) ∧ (decide (chk t = chk t) = false → k [Dat.mk Ty.bool false]))) ∧ (decide (chk t = (0 : Int)) = false → (decide (chk t = (0 : Int)) = true → (chk t = (0 : Int) ∧ chk u = (0 : Int)) ∧ True ∧ (decide (chk t = chk t) = true → k [Dat.mk Ty.bool false]) ∧ (decide (chk t = chk t) = false → k [Dat.mk Ty.bool false])) ∧ (decide (chk t = (0 : Int)) = false → True ∧ (decide (chk t = chk t) = true → k [Dat.mk Ty.bool false]) ∧ (decide (chk t = chk t) = false → k [Dat.mk Ty.bool false])))) ∧ (decide (ofE t p = chk t) = false → (decide (chk t = (0 : Int)) = true → True ∧ (decide (chk u = (0 : Int)) = true → (chk t = (0 : Int) ∧ chk u = (0 : Int)) ∧ True ∧ (decide (chk t = chk t) = true → k [Dat.mk Ty.bool false]) ∧ (decide (chk t = chk t) = false → k [Dat.mk Ty.bool false])) ∧ (decide (chk u = (0 : Int)) = false → True ∧ (decide (chk t = chk t) = true → k [Dat.mk Ty.bool false]) ∧ (decide (chk t = chk t) = false → k [Dat.mk Ty.bool false]))) ∧ (decide (chk t = (0 : Int)) = false → (decide (chk t = (0 : Int)) = true → (chk t = (0 : Int) ∧ chk u = (0 : Int)) ∧ True ∧ (decide (chk t = chk t) = true → k [Dat.mk Ty.bool false]) ∧ (decide (chk t = chk t) = false → k [Dat.mk Ty.bool false])) ∧ (decide (chk t = (0 : Int)) = false → True ∧ (decide (chk t = chk t) = true → k [Dat.mk Ty.bool false]) ∧ (decide (chk t = chk t) = false → k [Dat.mk Ty.bool false])))))))) ∧ (decide (chk t = (0 : Int)) = false → True ∧ (inK IntKind.i64 (chk t) ∧ True) ∧ (decide (chk t = chk t) = true → True ∧ True ∧ (inK IntKind.i64 (ofE t p) ∧ True) ∧ (decide (ofE t p = chk t) = true → True ∧ (decide (chk t = (0 : Int)) = true → True ∧ (decide (chk u = (0 : Int)) = true → (chk t = (0 : Int) ∧ chk u = (0 : Int)) ∧ True ∧ (decide (chk t = chk t) = true → ((bef t == []) = true → (((if ofE t p = (0 : Int) then ofT t p else []) == []) = true → (inK IntKind.i64 (smErr t u) ∧ True) ∧ (decide (smErr t u = chk u) = true → k [Dat.mk Ty.bool (smR t u == sameB t u)]) ∧ (decide (smErr t u = chk u) = false → k [Dat.mk Ty.bool false])) ∧ (((if ofE t p = (0 : Int) then ofT t p else []) == []) = false → k [Dat.mk Ty.bool false])) ∧ ((bef t == []) = false → k [Dat.mk Ty.bool false])) ∧ (decide (chk t = chk t) = false → k [Dat.mk Ty.bool false])) ∧ (decide (chk u = (0 : Int)) = false → True ∧ (decide (chk t = chk t) = true → ((bef t == []) = true → (((if ofE t p = (0 : Int) then ofT t p else []) == []) = true → (inK IntKind.i64 (smErr t u) ∧ True) ∧ (decide (smErr t u = chk u) = true → k [Dat.mk Ty.bool (smR t u == false)]) ∧ (decide (smErr t u = chk u) = false → k [Dat.mk Ty.bool false])) ∧ (((if ofE t p = (0 : Int) then ofT t p else []) == []) = false → k [Dat.mk Ty.bool false])) ∧ ((bef t == []) = false → k [Dat.mk Ty.bool false])) ∧ (decide (chk t = chk t) = false → k [Dat.mk Ty.bool false]))) ∧ (decide (chk t = (0 : Int)) = false → (decide (chk t = (0 : Int)) = true → (chk t = (0 : Int) ∧ chk u = (0 : Int)) ∧ True ∧ (decide (chk t = chk t) = true → ((bef t == []) = true → (((if ofE t p = (0 : Int) then ofT t p else []) == []) = true → (inK IntKind.i64 (smErr t u) ∧ True) ∧ (decide (smErr t u = chk t) = true → k [Dat.mk Ty.bool (smR t u == sameB t u)]) ∧ (decide (smErr t u = chk t) = false → k [Dat.mk Ty.bool false])) ∧ (((if ofE t p = (0 : Int) then ofT t p else []) == []) = false → k [Dat.mk Ty.bool false])) ∧ ((bef t == []) = false → k [Dat.mk Ty.bool false])) ∧ (decide (chk t = chk t) = false → k [Dat.mk Ty.bool false])) ∧ (decide (chk t = (0 : Int)) = false → True ∧ (decide (chk t = chk t) = true → ((bef t == []) = true → (((if ofE t p = (0 : Int) then ofT t p else []) == []) = true → (inK IntKind.i64 (smErr t u) ∧ True) ∧ (decide (smErr t u = chk t) = true → k [Dat.mk Ty.bool (smR t u == false)]) ∧ (decide (smErr t u = chk t) = false → k [Dat.mk Ty.bool false])) ∧ (((if ofE t p = (0 : Int) then ofT t p else []) == []) = false → k [Dat.mk Ty.bool false])) ∧ ((bef t == []) = false → k [Dat.mk Ty.bool false])) ∧ (decide (chk t = chk t) = false → k [Dat.mk Ty.bool false])))) ∧ (decide (ofE t p = chk t) = false → (decide (chk t = (0 : Int)) = true → True ∧ (decide (chk u = (0 : Int)) = true → (chk t = (0 : Int) ∧ chk u = (0 : Int)) ∧ True ∧ (decide (chk t = chk t) = true → ((bef t == []) = true → k [Dat.mk Ty.bool false]) ∧ ((bef t == []) = false → k [Dat.mk Ty.bool false])) ∧ (decide (chk t = chk t) = false → k [Dat.mk Ty.bool false])) ∧ (decide (chk u = (0 : Int)) = false → True ∧ (decide (chk t = chk t) = true → ((bef t == []) = true → k [Dat.mk Ty.bool false]) ∧ ((bef t == []) = false → k [Dat.mk Ty.bool false])) ∧ (decide (chk t = chk t) = false → k [Dat.mk Ty.bool false]))) ∧ (decide (chk t = (0 : Int)) = false → (decide (chk t = (0 : Int)) = true → (chk t = (0 : Int) ∧ chk u = (0 : Int)) ∧ True ∧ (decide (chk t = chk t) = true → ((bef t == []) = true → k [Dat.mk Ty.bool false]) ∧ ((bef t == []) = false → k [Dat.mk Ty.bool false])) ∧ (decide (chk t = chk t) = false → k [Dat.mk Ty.bool false])) ∧ (decide (chk t = (0 : Int)) = false → True ∧ (decide (chk t = chk t) = true → ((bef t == []) = true → k [Dat.mk Ty.bool false]) ∧ ((bef t == []) = false → k [Dat.mk Ty.bool false])) ∧ (decide (chk t = chk t) = false → k [Dat.mk Ty.bool false]))))) ∧ (decide (chk t = chk t) = false → True ∧ (inK IntKind.i64 (ofE t p) ∧ True) ∧ (decide (ofE t p = chk t) = true → True ∧ (decide (chk t = (0 : Int)) = true → True ∧ (decide (chk u = (0 : Int)) = true → (chk t = (0 : Int) ∧ chk u = (0 : Int)) ∧ True ∧ (decide (chk t = chk t) = true → k [Dat.mk Ty.bool false]) ∧ (decide (chk t = chk t) = false → k [Dat.mk Ty.bool false])) ∧ (decide (chk u = (0 : Int)) = false → True ∧ (decide (chk t = chk t) = true → k [Dat.mk Ty.bool false]) ∧ (decide (chk t = chk t) = false → k [Dat.mk Ty.bool false]))) ∧ (decide (chk t = (0 : Int)) = false → (decide (chk t = (0 : Int)) = true → (chk t = (0 : Int) ∧ chk u = (0 : Int)) ∧ True ∧ (decide (chk t = chk t) = true → k [Dat.mk Ty.bool false]) ∧ (decide (chk t = chk t) = false → k [Dat.mk Ty.bool false])) ∧ (decide (chk t = (0 : Int)) = false → True ∧ (decide (chk t = chk t) = true → k [Dat.mk Ty.bool false]) ∧ (decide (chk t = chk t) = false → k [Dat.mk Ty.bool false])))) ∧ (decide (ofE t p = chk t) = false → (decide (chk t = (0 : Int)) = true → True ∧ (decide (chk u = (0 : Int)) = true → (chk t = (0 : Int) ∧ chk u = (0 : Int)) ∧ True ∧ (decide (chk t = chk t) = true → k [Dat.mk Ty.bool false]) ∧ (decide (chk t = chk t) = false → k [Dat.mk Ty.bool false])) ∧ (decide (chk u = (0 : Int)) = false → True ∧ (decide (chk t = chk t) = true → k [Dat.mk Ty.bool false]) ∧ (decide (chk t = chk t) = false → k [Dat.mk Ty.bool false]))) ∧ (decide (chk t = (0 : Int)) = false → (decide (chk t = (0 : Int)) = true → (chk t = (0 : Int) ∧ chk u = (0 : Int)) ∧ True ∧ (decide (chk t = chk t) = true → k [Dat.mk Ty.bool false]) ∧ (decide (chk t = chk t) = false → k [Dat.mk Ty.bool false])) ∧ (decide (chk t = (0 : Int)) = false → True ∧ (decide (chk t = chk t) = true → k [Dat.mk Ty.bool false]) ∧ (decide (chk t = chk t) = false → k [Dat.mk Ty.bool false]))))))) := by kernel_rfl
end Go.Proofs.YtbpoeigaoakdiaaDoor

/- Traces: the document's functions keep their contracts. -/
namespace Go.Proofs.YtbpoeigaoakdiaaDoor.H
open Go.Vc

theorem okRIn : PlainOk Tryd.prog [] 42 cWithin := by
  refine plain_of (CxOk.mk' Em_ok (by kernel_rfl) mixed (gl := []) GOk.nil GoOk.nil noIt) Tryd.func42 (c := Tryd.f42.body.getD .skip) (rvs := [(.tmp 6, .bool)]) (by kernel_rfl) (by kernel_rfl) (by kernel_rfl) ?_
  intro ds k ⟨hp, hk⟩ hwf
  obtain ⟨a, b, c, rfl, -⟩ := dest3 hp
  have hk : k [⟨.bool, inB a b c⟩] := hk
  refine ⟨[joinAll], ?_⟩
  rw [vcRIn]
  unfold inB at hk
  refine ⟨fun h => ?_, fun h => ?_⟩ <;> simpa [h] using hk

theorem rtrace_vc (t : Tr) (ht : inK .i64 t.1) (k : List Dat → Prop) (hk : k [⟨I, chk t⟩]) : vcF ⟨Em, [(42, cWithin)], [], [], []⟩ (anRTrace t) (Tryd.f8.body.getD .skip) Tryd.f8.ntmps [(.tmp 2, I)] [⟨tTr, t⟩] k := by
  rw [vcRTrace]
  have ret : ∀ x : Int, chk t = x → k [⟨I, x⟩] := by rintro _ rfl; exact hk
  simp only [decide_eq_true_eq, decide_eq_false_iff_not, and_true, true_and, ne_eq, Bool.not_eq_true', Bool.not_eq_false', Int.toNat_natCast]
  refine ⟨fun h => ret _ (by unfold chk; rw [if_pos h]), fun h => ⟨fun g => ret _ (by unfold chk; rw [if_neg (by rw [h]; decide), if_pos (by omega)]), fun g => ?_⟩⟩
  have hp : 1 ≤ t.1 ∧ t.1 ≤ 5 := by simpa [inB] using h
  have hlen : t.2.1.length ≤ 24 := by omega
  have hc0 : chk t = evsErr t.1 t.2.1 t.2.1.length 0 := by
    unfold chk; rw [if_neg (by rw [h]; decide), if_neg (by omega)]
  have hstep : ∀ x, x < t.2.1.length → evsErr t.1 t.2.1 (t.2.1.length - x) x = if evErr t.1 t.2.1 x = 0 then evsErr t.1 t.2.1 (t.2.1.length - (x + 1)) (x + 1) else evErr t.1 t.2.1 x := by
    intro x hx
    rw [show t.2.1.length - x = (t.2.1.length - (x + 1)) + 1 by omega]
    rfl
  refine ⟨⟨0, ⟨hc0, Nat.zero_le _⟩, rfl⟩, fun x ⟨hx, hxl⟩ => ⟨fun hlt => ?_, fun hge => ret _ ?_⟩⟩
  · have hst := hstep x (by omega)
    have bad : ∀ n, evErr t.1 t.2.1 x = n → n ≠ 0 → k [⟨I, n⟩] := fun n h1 h2 => ret n (by rw [hx, hst, if_neg (by rw [h1]; exact h2), h1])
    have good : evErr t.1 t.2.1 x = 0 → inK IntKind.i64 ((x : Int) + 1) ∧ ∃ x', (chk t = evsErr t.1 t.2.1 (t.2.1.length - x') x' ∧ x' ≤ t.2.1.length) ∧ t.2.1.length - x' < t.2.1.length - x ∧ (x : Int) + 1 = (x' : Int) := fun h1 =>
      ⟨inK_i64.2 (by omega), x + 1, ⟨by rw [hx, hst, if_pos h1], by omega⟩, by omega, by omega⟩
    have hpi : inK .i64 (t.1 - 1) := inK_i64.2 (by omega)
    refine ⟨by omega, hlt, hpi, fun h1 => bad 1 ?_ (by decide), fun h1 => ⟨inK_i64.2 (by omega), fun h2 => bad 1 ?_ (by decide), fun h2 => ⟨⟨fun h3 => ⟨h3, ?_⟩, fun _ => trivial⟩, fun h4 => bad 6 ?_ (by decide), fun h4 => good ?_⟩⟩⟩
    · unfold evErr; rw [if_pos (by rw [h1]; rfl)]
    · unfold evErr; rw [if_pos (by rw [h1, h2]; rfl)]
    · have : (t.2.1.getD x (0, 0, ())).2.1 ≤ (x : Int) - 1 := by
        simp only [inB, Bool.and_eq_true, decide_eq_true_eq] at h2; exact h2.2
      omega
    · rw [Bool.and_eq_true, decide_eq_true_eq, decide_eq_true_eq] at h4
      unfold evErr; rw [if_neg (by rw [h1, h2]; decide), if_pos h4]
    · unfold evErr; rw [if_neg (by rw [h1, h2]; decide), if_neg]
      rintro ⟨ha, hb⟩
      rw [decide_eq_true ha, decide_eq_true hb] at h4
      cases h4
  · have : x = t.2.1.length := by omega
    rw [hx, this, Nat.sub_self]; rfl

theorem okRTrace : PlainOk Tryd.prog [] 8 cRTrace := by
  refine plain_of (CxOk.mk' Em_ok (by kernel_rfl) mixed (gl := []) (GOk.cons okRIn Tryd.func42 (by kernel_rfl) (by kernel_rfl) GOk.nil) GoOk.nil noIt) Tryd.func8 (c := Tryd.f8.body.getD .skip) (rvs := [(.tmp 2, I)]) (by kernel_rfl) (by kernel_rfl) (by kernel_rfl) ?_
  intro ds k ⟨hp, hk⟩ hwf
  obtain ⟨t, rfl, -⟩ := dest1 hp
  exact ⟨anRTrace t, rtrace_vc t (wf1 hwf).1 k hk⟩

theorem bitB_nat (a k : Nat) : bitB (a : Int) (k : Int) = a.testBit k := by
  unfold bitB
  simp
theorem both_step (a b x : Nat) : (a &&& b) % 2 ^ (x + 1) = (a &&& b) % 2 ^ x + (if a.testBit x = true ∧ b.testBit x = true then 2 ^ x else 0) := by
  have h : (a.testBit x = true ∧ b.testBit x = true) ↔ (a &&& b) / 2 ^ x % 2 = 1 := by
    have := Nat.testBit_and a b x
    rw [Nat.testBit_eq_decide_div_mod_eq] at this
    rw [← Bool.and_eq_true, ← this, decide_eq_true_eq]
  rw [Nat.mod_pow_succ]
  by_cases hb : (a &&& b) / 2 ^ x % 2 = 1
  · rw [if_pos (h.2 hb), hb, Nat.mul_one]
  · have h0 : (a &&& b) / 2 ^ x % 2 = 0 := by omega
    rw [if_neg (fun e => hb (h.1 e)), h0, Nat.mul_zero]

theorem tmod_bit (n x : Nat) : (((n : Int).tdiv ((2 : Int) ^ x)).tmod 2 = 1) ↔ n.testBit x = true := by
  have h := bit_of (s := (n : Int)) (x := x)
  rw [bitB_nat] at h
  constructor
  · intro e; rw [← h]; exact decide_eq_true e
  · intro e; rw [e] at h; exact of_decide_eq_true h

theorem okBoth : PlainOk Tryd.prog [] 67 cBoth := by
  refine plain_of (CxOk.mk' Em_ok (by kernel_rfl) mixed (gl := []) GOk.nil GoOk.nil noIt) Tryd.func67 (c := Tryd.f67.body.getD .skip) (rvs := [(.tmp 4, I)]) (by kernel_rfl) (by kernel_rfl) (by kernel_rfl) ?_
  intro ds k ⟨hp, hk⟩ hwf
  obtain ⟨a, b, rfl, ha61, -⟩ := dest2 hp
  have hk : k [⟨I, ((a.toNat &&& b.toNat : Nat) : Int)⟩] := hk
  have ha : inK .i64 a := (wf2 hwf).1
  have hb : inK .i64 b := (wf2 hwf).2
  have hbi := inK_i64.1 hb
  refine ⟨anBoth a b, ?_⟩
  rw [vcBoth]
  simp only [decide_eq_true_eq, decide_eq_false_iff_not, and_true, true_and, ne_eq]
  have h20 : ¬ (2 : Int) = 0 := by decide
  have fin : ∀ (s : Int) (x : Nat), ¬ 0 < s.tdiv ((2 : Int) ^ x) → s.toNat < 2 ^ x := by
    intro s x h
    by_cases hs : 0 ≤ s
    · obtain ⟨n, rfl⟩ := Int.eq_ofNat_of_zero_le hs
      rw [tdivN] at h
      have h0 : n / 2 ^ x = 0 := by
        generalize n / 2 ^ x = q at h
        omega
      rcases Nat.lt_or_ge n (2 ^ x) with h | h
      · exact h
      · have := Nat.div_pos h (Nat.two_pow_pos x); omega
    · have : s.toNat = 0 := by omega
      rw [this]; exact Nat.two_pow_pos x
  have fink : ∀ x : Nat, (a.toNat &&& b.toNat) < 2 ^ x → k [⟨I, (((a.toNat &&& b.toNat) % 2 ^ x : Nat) : Int)⟩] := by
    intro x h; rw [Nat.mod_eq_of_lt h]; exact hk
  refine ⟨⟨0, by omega, by simp, by simp, by simp [Nat.mod_one], rfl⟩, fun x hx => ⟨fun hA => ⟨fun hB => ?_, fun hB => fink x (Nat.lt_of_le_of_lt Nat.and_le_right (fin b x hB))⟩, fun hA => fink x (Nat.lt_of_le_of_lt Nat.and_le_left (fin a x hA))⟩⟩
  have hpos := two_pow_pos x
  have hapos : 0 ≤ a := by
    refine Int.not_lt.1 fun hneg => ?_
    have := Int.tdiv_nonneg (a := -a) (b := (2 : Int) ^ x) (by omega) (by omega)
    rw [Int.neg_tdiv] at this; omega
  have hbpos : 0 ≤ b := by
    refine Int.not_lt.1 fun hneg => ?_
    have := Int.tdiv_nonneg (a := -b) (b := (2 : Int) ^ x) (by omega) (by omega)
    rw [Int.neg_tdiv] at this; omega
  obtain ⟨m, rfl⟩ := Int.eq_ofNat_of_zero_le hapos
  obtain ⟨n, rfl⟩ := Int.eq_ofNat_of_zero_le hbpos
  simp only [Int.toNat_natCast] at *
  have hx60 : x ≤ 60 := by
    rcases Nat.lt_or_ge x 61 with h | h
    · omega
    · rw [tdivN] at hA
      have h61 : (2 : Nat) ^ 61 = 2305843009213693952 := by decide
      have hpw : 2 ^ 61 ≤ 2 ^ x := Nat.pow_le_pow_right (by decide) h
      have hm61 : m < 2 ^ 61 := by rw [h61]; omega
      have h0 : m / 2 ^ x = 0 := Nat.div_eq_of_lt (Nat.lt_of_lt_of_le hm61 hpw)
      rw [h0] at hA
      exact absurd hA (by decide)
  have hp2 : (2 : Int) ^ x * 2 = 2 ^ (x + 1) := by rw [Int.pow_succ]
  have hple := two_pow_le (n := x + 1) (by omega)
  have hplx : (2 : Int) ^ x ≤ 2 ^ (x + 1) := by rw [← hp2]; omega
  have hcast : ((2 ^ x : Nat) : Int) = (2 : Int) ^ x := by rw [Int.natCast_pow]; rfl
  have hmod : (((m &&& n) % 2 ^ x : Nat) : Int) < (2 : Int) ^ x := by
    rw [← hcast]; exact Int.ofNat_lt.2 (Nat.mod_lt _ (Nat.two_pow_pos x))
  have hst := both_step m n x
  have nxt : ∀ v : Int, (v = (((m &&& n) % 2 ^ (x + 1) : Nat) : Int)) → ¬(2 : Int) = 0 ∧ inK .i64 (((m : Int).tdiv ((2 : Int) ^ x)).tdiv 2) ∧ ¬(2 : Int) = 0 ∧ inK .i64 (((n : Int).tdiv ((2 : Int) ^ x)).tdiv 2) ∧ inK .i64 ((2 : Int) ^ x * 2) ∧ ∃ x_1 : Nat, x_1 ≤ 61 ∧ 62 - x_1 < 62 - x ∧ ((m : Int).tdiv ((2 : Int) ^ x)).tdiv 2 = (m : Int).tdiv ((2 : Int) ^ x_1) ∧
      ((n : Int).tdiv ((2 : Int) ^ x)).tdiv 2 = (n : Int).tdiv ((2 : Int) ^ x_1) ∧ v = (((m &&& n) % 2 ^ x_1 : Nat) : Int) ∧ (2 : Int) ^ x * 2 = 2 ^ x_1 := by
    intro v hv
    refine ⟨h20, by rw [tdiv_pow]; exact (tdiv_in ha (x + 1)).1, h20, by rw [tdiv_pow]; exact (tdiv_in hb (x + 1)).1, inK_i64.2 (by rw [hp2]; omega), x + 1, by omega, by omega, tdiv_pow _ _, tdiv_pow _ _, hv, hp2⟩
  refine ⟨h20, (tdiv_in ha x).2, fun hAb => ⟨h20, (tdiv_in hb x).2, fun hBb => ⟨inK_i64.2 (by omega), nxt _ ?_⟩, fun hBb => nxt _ ?_⟩, fun hAb => nxt _ ?_⟩
  · rw [tmod_bit] at hAb hBb
    rw [hst, if_pos ⟨hAb, hBb⟩]
    omega
  · rw [tmod_bit] at hBb
    rw [hst, if_neg (fun h => hBb h.2)]; rfl
  · rw [tmod_bit] at hAb
    rw [hst, if_neg (fun h => hAb h.1)]; rfl


theorem either_eq (a b : Int) (ha : 0 ≤ a) (hb : 0 ≤ b) : a + b - ((a.toNat &&& b.toNat : Nat) : Int) = ((a.toNat ||| b.toNat : Nat) : Int) ∧ 0 ≤ a + b - ((a.toNat &&& b.toNat : Nat) : Int) ∧ a + b - ((a.toNat &&& b.toNat : Nat) : Int) ≤ a + b := by
  have h := or_and_add a.toNat b.toNat
  generalize a.toNat &&& b.toNat = p at *
  generalize a.toNat ||| b.toNat = q at *
  omega
theorem okEither : PlainOk Tryd.prog [] 45 cEither := by
  refine plain_of (CxOk.mk' Em_ok (by kernel_rfl) mixed (gl := []) (GOk.cons okBoth Tryd.func67 (by kernel_rfl) (by kernel_rfl) GOk.nil) GoOk.nil noIt) Tryd.func45 (c := Tryd.f45.body.getD .skip) (rvs := [(.tmp 4, I)]) (by kernel_rfl) (by kernel_rfl) (by kernel_rfl) ?_
  intro ds k ⟨hp, hk⟩ hwf
  obtain ⟨a, b, rfl, ⟨ha, ha'⟩, hb, hb'⟩ := dest2 hp
  have hk : k [⟨I, ((a.toNat ||| b.toNat : Nat) : Int)⟩] := hk
  refine ⟨[], ?_⟩
  rw [vcEither]
  obtain ⟨he, h1, h2⟩ := either_eq a b ha hb
  have ha'' : a < (1152921504606846976 : Int) := ha'
  have hb'' : b < (1152921504606846976 : Int) := hb'
  refine ⟨inK_i64.2 ⟨by have := Int.add_nonneg ha hb; omega, by have := Int.add_lt_add ha'' hb''; omega⟩, ⟨by omega, trivial⟩, inK_i64.2 ⟨by omega, by have := Int.add_lt_add ha'' hb''; omega⟩, ?_⟩
  rw [he]; exact hk

theorem okWith : PlainOk Tryd.prog [] 46 cWith := by
  refine plain_of (CxOk.mk' Em_ok (by kernel_rfl) mixed (gl := []) (GOk.cons okBit Tryd.func49 (by kernel_rfl) (by kernel_rfl) (GOk.cons okPow2 Tryd.func56 (by kernel_rfl) (by kernel_rfl) GOk.nil)) GoOk.nil noIt) Tryd.func46 (c := Tryd.f46.body.getD .skip) (rvs := [(.tmp 4, I)]) (by kernel_rfl) (by kernel_rfl) (by kernel_rfl) ?_
  intro ds k ⟨hp, hk⟩ hwf
  obtain ⟨a, i, rfl, ⟨ha, ha'⟩, hi, hi'⟩ := dest2 hp
  have hk : k [⟨I, ((a.toNat ||| 2 ^ i.toNat : Nat) : Int)⟩] := hk
  obtain ⟨m, rfl⟩ := Int.eq_ofNat_of_zero_le ha
  obtain ⟨n, rfl⟩ := Int.eq_ofNat_of_zero_le hi
  simp only [Int.toNat_natCast] at hk
  refine ⟨[], ?_⟩
  rw [vcWith, bitB_nat]
  have h2 := two_pow_le (n := n) (by omega)
  have h3 := two_pow_pos n
  refine ⟨trivial, fun h => ?_, fun h => ⟨⟨by omega, trivial⟩, ?_, ?_⟩⟩
  · rw [or_pow_in h] at hk; exact hk
  · rw [Int.toNat_natCast, inK_i64]; omega
  · rw [or_pow_out h, Int.natCast_add, Int.natCast_pow] at hk; exact hk

theorem nth_vc (t : Tr) (i : Int) (hi : 0 ≤ i ∧ i < t.2.1.length) (hl : t.2.1.length ≤ maxLen) (k : List Dat → Prop) (hk : k [⟨I, (nth t.2.1 i.toNat : Int)⟩]) : vcF ⟨Em, [], [], [], []⟩ (anNth t i) (Tryd.f47.body.getD .skip) Tryd.f47.ntmps [(.tmp 4, I)] [⟨tTr, t⟩, ⟨I, i⟩] k := by
  rw [vcNth]
  have hml : maxLen ≤ 9223372036854775807 := by decide
  simp only [decide_eq_true_eq, decide_eq_false_iff_not, and_true, true_and, Int.toNat_natCast, inK_i64]
  refine ⟨⟨0, ⟨Nat.zero_le _, Nat.le_refl _⟩, rfl, rfl⟩, fun x ⟨hx, hn⟩ => ⟨fun hlt => ⟨⟨by omega, by omega, hi.1, hi.2⟩, fun he => ?_, fun he => ?_⟩, fun hge => ?_⟩⟩
  · have e : nthU t.2.1 i.toNat (x + 1) = nthU t.2.1 i.toNat x + 1 := by rw [nthU, if_pos he]
    exact ⟨by omega, by omega, x + 1, ⟨by omega, by omega⟩, by omega, by rw [e]; rfl, rfl⟩
  · have e : nthU t.2.1 i.toNat (x + 1) = nthU t.2.1 i.toNat x := by rw [nthU, if_neg he]
    exact ⟨by omega, x + 1, ⟨by omega, by omega⟩, by omega, by rw [e], rfl⟩
  · have : x = i.toNat := by omega
    rw [this]; exact hk
theorem okNth : PlainOk Tryd.prog [] 47 cNth := by
  refine plain_of (CxOk.mk' Em_ok (by kernel_rfl) mixed (gl := []) GOk.nil GoOk.nil noIt) Tryd.func47 (c := Tryd.f47.body.getD .skip) (rvs := [(.tmp 4, I)]) (by kernel_rfl) (by kernel_rfl) (by kernel_rfl) ?_
  intro ds k ⟨hp, hk⟩ hwf
  obtain ⟨t, i, rfl, hi⟩ := dest2 hp
  exact ⟨anNth t i, nth_vc t i hi (wf2 hwf).1.2.1.1 k hk⟩

theorem small_of {n m : Nat} (h : n < 2 ^ m) (hm : m ≤ 25) : setP (n : Int) := by
  have : 2 ^ m ≤ 2 ^ 25 := Nat.pow_le_pow_right (by decide) hm
  unfold setP
  omega
theorem rbefore_vc (t : Tr) (hc : chk t = 0) (k : List Dat → Prop) (hk : k [⟨.sl I, ints (befN t)⟩]) : vcF ⟨Em, [(45, cEither), (46, cWith)], [], [], []⟩ (anRBefore t) (Tryd.f11.body.getD .skip) Tryd.f11.ntmps [(.tmp 2, .sl I)] [⟨tTr, t⟩] k := by
  rw [vcRBefore]
  have g := gd_of hc
  simp only [decide_eq_true_eq, decide_eq_false_iff_not, and_true, true_and, Int.toNat_natCast, inK_i64, bBs_len]
  have hl := g.len
  refine ⟨⟨0, Nat.zero_le _, rfl, rfl⟩, fun x hx => ⟨fun hlt => ?_, fun hge => ?_⟩⟩
  · have hxl : x < t.2.1.length := by omega
    refine ⟨⟨0, Nat.zero_le _, rfl, rfl⟩, fun y hy => ⟨fun hyx => ?_, fun hyx => ?_⟩⟩
    · have hyx : y < x := by omega
      refine ⟨⟨by omega, by omega, by omega, hlt, fun _ => trivial, fun _ => ⟨by omega, hlt⟩⟩, fun hm => ?_, fun hm => ?_⟩
      · have hm' : mustB t.2.1 x y = true := hm
        have hb := bB_lt g.p g.f (i := y) (by omega)
        have hs := setU_lt g hxl y (by omega)
        rw [bBs_at hyx, Int.toNat_natCast]
        refine ⟨by omega, by omega, ⟨small_of hb (by omega), by omega, by omega⟩, ⟨small_of hs (by omega), small_of (m := y + 1) (Nat.or_lt_two_pow (Nat.lt_trans hb (Nat.pow_lt_pow_right (by decide) (by omega))) (Nat.pow_lt_pow_right (by decide) (by omega))) (by omega)⟩, by omega, y + 1, by omega, by omega, ?_, rfl⟩
        rw [setU, if_pos hm']
      · have hm' : ¬ mustB t.2.1 x y = true := by
          intro h
          unfold mustB at h
          rw [hm] at h
          cases h
        refine ⟨by omega, y + 1, by omega, by omega, ?_, rfl⟩
        rw [setU, if_neg hm']
    · have hyx : y = x := by omega
      subst hyx
      rw [set_eq g hxl]
      refine ⟨by simp; omega, by omega, y + 1, by omega, by omega, rfl, ?_⟩
      rw [bBs_succ]; rfl
  · have : x = t.2.1.length := by omega
    rw [this, bBs_all g]; exact hk
theorem okRBefore : PlainOk Tryd.prog [] 11 cRBefore := by
  refine plain_of (CxOk.mk' Em_ok (by kernel_rfl) mixed (gl := []) (GOk.cons okEither Tryd.func45 (by kernel_rfl) (by kernel_rfl) (GOk.cons okWith Tryd.func46 (by kernel_rfl) (by kernel_rfl) GOk.nil)) GoOk.nil noIt) Tryd.func11 (c := Tryd.f11.body.getD .skip) (rvs := [(.tmp 2, .sl I)]) (by kernel_rfl) (by kernel_rfl) (by kernel_rfl) ?_
  intro ds k ⟨hp, hk⟩ hwf
  obtain ⟨t, rfl, hc, -⟩ := dest1 hp
  exact ⟨anRBefore t, rbefore_vc t hc k hk⟩
end Go.Proofs.YtbpoeigaoakdiaaDoor.H

/- Traces: a process's events, and whether two traces are one: the document's answers; TraceSays' law. -/
namespace Go.Proofs.YtbpoeigaoakdiaaDoor.H
open Go.Vc

theorem ofU_succ (l : List Ev) (p : Int) (k : Nat) : ofU l p (k + 1) = ofU l p k ++ (if (l.getD k (0, 0, ())).1 = p then [(k : Int)] else []) := by
  unfold ofU
  rw [List.range_succ, List.filter_append, List.map_append]
  congr 1
  rw [List.filter_cons]
  by_cases h : (l.getD k (0, 0, ())).1 = p
  · rw [if_pos (decide_eq_true h), if_pos h]; rfl
  · rw [if_neg (by simpa using h), if_neg h]; rfl
theorem ofU_len (l : List Ev) (p : Int) (k : Nat) : (ofU l p k).length ≤ k := by
  unfold ofU
  rw [List.length_map]
  exact Nat.le_trans (List.length_filter_le _ _) (by simp)

theorem rof_vc (t : Tr) (p : Int) (h : chk t = 0) (k : List Dat → Prop) (hk : k [⟨.sl I, ofT t p⟩]) :
    vcF ⟨Em, [], [], [], []⟩ (anROf t p) (Tryd.f12.body.getD .skip) Tryd.f12.ntmps [(.tmp 4, .sl I)] [⟨tTr, t⟩, ⟨I, p⟩] k := by
  rw [vcROf]
  have hl := (good_of h).len
  simp only [decide_eq_true_eq, decide_eq_false_iff_not, and_true, true_and, Int.toNat_natCast]
  refine ⟨⟨0, by omega, rfl, rfl⟩, fun x hx => ⟨fun hlt => ⟨by omega, hlt, fun he => ⟨?_, inK_i64.2 (by omega), x + 1, by omega, by omega, rfl, ?_⟩, fun he => ⟨inK_i64.2 (by omega), x + 1, by omega, by omega, rfl, ?_⟩⟩, fun hge => ?_⟩⟩
  · have := ofU_len t.2.1 p x
    simp only [List.replicate, List.set, List.length_cons, List.length_nil]
    omega
  · rw [ofU_succ, if_pos he]; rfl
  · rw [ofU_succ, if_neg he, List.append_nil]
  · have : x = t.2.1.length := by omega
    subst this
    exact hk
theorem okROf : PlainOk Tryd.prog [] 12 cROf := by
  refine plain_of (CxOk.mk' Em_ok (by kernel_rfl) mixed (gl := []) GOk.nil GoOk.nil noIt) Tryd.func12 (c := Tryd.f12.body.getD .skip) (rvs := [(.tmp 4, .sl I)]) (by kernel_rfl) (by kernel_rfl) (by kernel_rfl) ?_
  intro ds k ⟨hp, hk⟩ hwf
  obtain ⟨t, p, rfl, h, -⟩ := dest2 hp
  exact ⟨anROf t p, rof_vc t p h k hk⟩

theorem of_vc (t : Tr) (p : Int) (k : List Dat → Prop) (hk : k [⟨.sl I, if ofE t p = 0 then ofT t p else []⟩, ⟨tErr, ofE t p⟩]) :
    vcF ⟨Em, [(10, cCheck), (44, cWithin)], [], [], []⟩ (anOf t p) (Tryd.f15.body.getD .skip) Tryd.f15.ntmps [(.tmp 4, .sl I), (.tmp 5, tErr)] [⟨tTr, t⟩, ⟨I, p⟩] k := by
  rw [vcOf]
  simp only [decide_eq_true_eq, decide_eq_false_iff_not, and_true, true_and, Bool.not_eq_true', Bool.not_eq_false', Int.toNat_natCast]
  refine ⟨fun h => ?_, fun h => ?_⟩
  · have e : ofE t p = chk t := by unfold ofE; rw [if_neg h]
    rw [e, if_neg h] at hk; exact hk
  · have g := good_of h
    have hl := g.len
    have hpr := g.procs
    refine ⟨inK_i64.2 (by omega), fun hw => ⟨by decide, ?_⟩, fun hw => ⟨⟨0, ⟨by omega, h⟩, rfl, rfl⟩, fun x ⟨hx, _⟩ => ⟨fun hlt => ⟨by omega, hlt, fun he => ⟨?_, inK_i64.2 (by omega), x + 1, ⟨by omega, h⟩, by omega, rfl, ?_⟩, fun he => ⟨inK_i64.2 (by omega), x + 1, ⟨by omega, h⟩, by omega, rfl, ?_⟩⟩, fun hge => ?_⟩⟩⟩
    · have e : ofE t p = 1 := by unfold ofE; rw [if_pos h, if_neg (by rw [hw]; decide)]
      rw [e] at hk; exact hk
    · have := ofU_len t.2.1 p x
      simp only [List.replicate, List.set, List.length_cons, List.length_nil]
      omega
    · rw [ofU_succ, if_pos he]; rfl
    · rw [ofU_succ, if_neg he, List.append_nil]
    · have : x = t.2.1.length := by omega
      subst this
      have e : ofE t p = 0 := by unfold ofE; rw [if_pos h, if_pos hw]
      rw [e] at hk; exact hk
theorem okOf : PlainOk Tryd.prog [] 15 cOf := by
  refine plain_of (CxOk.mk' Em_ok (by kernel_rfl) mixed (gl := []) (GOk.cons okCheck Tryd.func10 (by kernel_rfl) (by kernel_rfl) (GOk.cons okWithin Tryd.func44 (by kernel_rfl) (by kernel_rfl) GOk.nil)) GoOk.nil noIt) Tryd.func15 (c := Tryd.f15.body.getD .skip) (rvs := [(.tmp 4, .sl I), (.tmp 5, tErr)]) (by kernel_rfl) (by kernel_rfl) (by kernel_rfl) ?_
  intro ds k ⟨hp, hk⟩ hwf
  obtain ⟨t, p, rfl, -⟩ := dest2 hp
  exact ⟨anOf t p, of_vc t p k hk⟩

theorem mt_eq (a b c d p q : Bool) : (bif a then b || c && (d && (p && q)) else c && (d && (p && q))) = ((a && b) || (c && d && p && q)) := by
  cases a <;> cases b <;> cases c <;> cases d <;> cases p <;> cases q <;> rfl
theorem rsame_vc (t u : Tr) (ht : chk t = 0) (hu : chk u = 0) (k : List Dat → Prop) (hk : k [⟨.bool, sameB t u⟩]) :
    vcF ⟨Em, [(47, cNth)], [], [], []⟩ (anRSame t u) (Tryd.f16.body.getD .skip) Tryd.f16.ntmps [(.tmp 4, .bool)] [⟨tTr, t⟩, ⟨tTr, u⟩] k := by
  rw [vcRSame]
  have gt := good_of ht
  have gu := good_of hu
  have hrs := rs_same gt gu (gd_of ht) (gd_of hu)
  have lt := gt.len
  have lu := gu.len
  have no : ¬ (t.1 = u.1 ∧ t.2.1.length = u.2.1.length ∧ ∀ i, i < t.2.1.length → foundU t u i u.2.1.length = true) → k [⟨.bool, false⟩] := fun h => by
    cases e : sameB t u with
    | true => exact absurd (hrs.2 e) h
    | false => rw [e] at hk; exact hk
  have ft := (gd_of ht).f
  have fu := (gd_of hu).f
  simp only [decide_eq_true_eq, decide_eq_false_iff_not, and_true, true_and, Bool.not_eq_true', Bool.not_eq_false', Int.toNat_natCast, Int.natCast_inj, implies_true]
  refine ⟨fun h => no fun e => h e.1, fun h1 => ⟨fun h => no fun e => h e.2.1, fun h2 => ?_⟩⟩
  refine ⟨⟨0, ⟨Nat.zero_le _, fun m hm => absurd hm (Nat.not_lt_zero _)⟩, rfl⟩, fun x ⟨hx, hall⟩ => ⟨fun hlt => ?_, fun hge => ?_⟩⟩
  · have hxl : x < t.2.1.length := by omega
    refine ⟨⟨0, Nat.zero_le _, rfl, rfl⟩, fun y hy => ⟨fun hyl => ?_, fun hyl => ?_⟩⟩
    · have hyu : y < u.2.1.length := by omega
      have h3 := ft x hxl
      have h4 := fu y hyu
      unfold frm at h3 h4
      refine ⟨⟨by omega, hlt, by omega, hyl, fun _ => ⟨by omega, by omega⟩⟩, fun hd => ?_, fun hs => ?_⟩
      · have hn : ¬ sameN t u x y = true := by
          intro h
          unfold sameN evA at h
          rw [Bool.and_eq_true, decide_eq_true_eq, decide_eq_true_eq] at h
          rw [Bool.or_eq_true, Bool.not_eq_true', Bool.not_eq_true', decide_eq_false_iff_not, decide_eq_false_iff_not] at hd
          rcases hd with hd | hd
          · exact hd h.1
          · exact hd h.2
        exact ⟨inK_i64.2 (by omega), y + 1, by omega, by omega, by rw [foundU, if_neg hn], rfl⟩
      · have hn : sameN t u x y = true := by
          unfold sameN evA
          rw [Bool.or_eq_false_iff, Bool.not_eq_false', Bool.not_eq_false'] at hs
          rw [hs.1, hs.2]; rfl
        refine ⟨by omega, hlt, by omega, hyl, ⟨fun a b c d => ?_, fun a c d => ?_⟩, inK_i64.2 (by omega), y + 1, by omega, by omega, ?_, rfl⟩
        · exact ⟨by omega, by omega, by omega, by omega, fun _ => ⟨⟨by omega, by omega⟩, by omega, by omega⟩⟩
        · exact ⟨by omega, by omega, by omega, by omega, fun _ => ⟨⟨by omega, by omega⟩, by omega, by omega⟩⟩
        · rw [foundU, if_pos hn]
          unfold mtB evA
          exact mt_eq _ _ _ _ _ _
    · have hye : y = u.2.1.length := by omega
      subst hye
      refine ⟨fun hf => no fun e => ?_, fun hf => ⟨inK_i64.2 (by omega), x + 1, ⟨by omega, fun m hm => ?_⟩, by omega, rfl⟩⟩
      · rw [e.2.2 x hxl] at hf; cases hf
      · by_cases hmx : m = x
        · subst hmx; exact hf
        · exact hall m (by omega)
  · have hxe : x = t.2.1.length := by omega
    subst hxe
    rw [hrs.1 ⟨h1, h2, hall⟩] at hk
    exact hk
theorem okRSame : PlainOk Tryd.prog [] 16 cRSame := by
  refine plain_of (CxOk.mk' Em_ok (by kernel_rfl) mixed (gl := []) (GOk.cons okNth Tryd.func47 (by kernel_rfl) (by kernel_rfl) GOk.nil) GoOk.nil noIt) Tryd.func16 (c := Tryd.f16.body.getD .skip) (rvs := [(.tmp 4, .bool)]) (by kernel_rfl) (by kernel_rfl) (by kernel_rfl) ?_
  intro ds k ⟨hp, hk⟩ hwf
  obtain ⟨t, u, rfl, ht, hu⟩ := dest2 hp
  exact ⟨anRSame t u, rsame_vc t u ht hu k hk⟩

theorem evsErr_in {p : Int} {l : List Ev} : ∀ (f i : Nat), 0 ≤ evsErr p l f i ∧ evsErr p l f i ≤ 6 := by
  intro f
  induction f with
  | zero => intro i; unfold evsErr; omega
  | succ f ih =>
    intro i
    unfold evsErr
    split
    · exact ih _
    · unfold evErr
      split
      · omega
      · split <;> omega
theorem chk_in (t : Tr) : 0 ≤ chk t ∧ chk t ≤ 6 := by
  unfold chk
  split
  · omega
  · split
    · omega
    · exact evsErr_in _ _
theorem ofE_in (t : Tr) (p : Int) : 0 ≤ ofE t p ∧ ofE t p ≤ 6 := by
  have := chk_in t
  unfold ofE
  split
  · split <;> omega
  · omega
theorem smErr_in (t u : Tr) : 0 ≤ smErr t u ∧ smErr t u ≤ 6 := by
  have := chk_in t
  have := chk_in u
  unfold smErr
  split <;> omega
theorem lawT_vc (t u : Tr) (p : Int) (k : List Dat → Prop) (hk : k [⟨.bool, true⟩]) :
    vcF ⟨Em, [(8, cRTrace), (10, cCheck), (9, cError), (11, cRBefore), (12, cROf), (13, cBefore), (14, cInts), (15, cOf), (16, cRSame), (17, cSame2)], glE, [], []⟩ [joinAll] (Tryd.f3.body.getD .skip) Tryd.f3.ntmps [(.tmp 6, .bool)] [⟨tTr, t⟩, ⟨tTr, u⟩, ⟨I, p⟩] k := by
  rw [vcLawT]
  have i1 : inK .i64 (chk t) := inK_i64.2 (by have := chk_in t; omega)
  have i2 : inK .i64 (ofE t p) := inK_i64.2 (by have := ofE_in t p; omega)
  have i3 : inK .i64 (smErr t u) := inK_i64.2 (by have := smErr_in t u; omega)
  by_cases h : chk t = 0
  · have hb : bef t = ints (befN t) := by unfold bef; rw [if_pos h]
    have hs : smErr t u = chk u := by unfold smErr; rw [if_pos h]
    have hr : chk u = 0 → smR t u = sameB t u := fun e => by unfold smR; rw [hs, e]; rfl
    have hr2 : chk u ≠ 0 → smR t u = false := fun e => by unfold smR; rw [hs, decide_eq_false e]; rfl
    have cu := chk_in u
    by_cases hp : inB p 0 (t.1 - 1) = true
    · have e : ofE t p = 0 := by unfold ofE; rw [if_pos h, if_pos hp]
      have hp' : 0 ≤ p ∧ p ≤ t.1 - 1 := by simpa [inB] using hp
      have n1 : ¬ p < 0 := by omega
      have n2 : ¬ t.1 ≤ p := by omega
      by_cases hu : chk u = 0
      · simp only [h, hu, hb, hs, hr hu, e, n1, n2, decide_true, decide_false, Bool.true_eq_false, Bool.false_eq_true, true_and, and_true, forall_const, false_implies, if_true, beq_self_eq_true, inK_i64]
        exact ⟨by omega, by omega, by omega, by omega, hk⟩
      · simp only [h, hu, hb, hs, hr2 hu, e, n1, n2, decide_true, decide_false, Bool.true_eq_false, Bool.false_eq_true, true_and, and_true, forall_const, false_implies, if_true, beq_self_eq_true, inK_i64]
        exact ⟨by omega, by omega, by omega, by omega, hk⟩
    · have e : ofE t p = 1 := by unfold ofE; rw [if_pos h, if_neg hp]
      have n1 : p < 0 ∨ t.1 ≤ p := by
        refine Decidable.byContradiction fun h2 => hp ?_
        simp [inB]; omega
      have z0 : (if (1 : Int) = 0 then ofT t p else []) = [] := if_neg (by decide)
      by_cases hu : chk u = 0
      · simp only [h, hu, hb, hs, hr hu, e, z0, decide_true, Bool.true_eq_false, true_and, and_true, forall_const, false_implies, beq_self_eq_true, inK_i64, decide_eq_true_eq, decide_eq_false_iff_not]
        exact ⟨by omega, fun _ => ⟨by omega, by omega, by omega, hk⟩, fun a => ⟨fun _ => ⟨by omega, by omega, by omega, hk⟩, fun b => by omega⟩⟩
      · simp only [h, hu, hb, hs, hr2 hu, e, z0, decide_true, decide_false, Bool.true_eq_false, Bool.false_eq_true, true_and, and_true, forall_const, false_implies, beq_self_eq_true, inK_i64, decide_eq_true_eq, decide_eq_false_iff_not]
        exact ⟨by omega, fun _ => ⟨by omega, by omega, by omega, hk⟩, fun a => ⟨fun _ => ⟨by omega, by omega, by omega, hk⟩, fun b => by omega⟩⟩
  · have hs : smErr t u = chk t := by unfold smErr; rw [if_neg h]
    have hb : bef t = [] := by unfold bef; rw [if_neg h]
    have e : ofE t p = chk t := by unfold ofE; rw [if_neg h]
    have hr : smR t u = false := by unfold smR; rw [hs, decide_eq_false h]; rfl
    simp only [h, hb, hs, hr, e, decide_true, decide_false, Bool.true_eq_false, Bool.false_eq_true, true_and, and_true, forall_const, false_implies, if_false, beq_self_eq_true, i1]
    exact hk
theorem lift {f : FuncId} {c : Ctr} {gl : List (Nat × Dat)} (h : PlainOk Tryd.prog [] f c) : PlainOk Tryd.prog gl f c := PlainOk.sub (fun x hx => by cases hx) h
theorem okLawT : PlainOk Tryd.prog glE 3 cLawT := by
  refine plain_of (CxOk.mk' Em_ok (by kernel_rfl) mixed (gl := glE) (GOk.cons (lift okRTrace) Tryd.func8 (by kernel_rfl) (by kernel_rfl) (GOk.cons (lift okCheck) Tryd.func10 (by kernel_rfl) (by kernel_rfl) (GOk.cons okError Tryd.func9 (by kernel_rfl) (by kernel_rfl) (GOk.cons (lift okRBefore) Tryd.func11 (by kernel_rfl) (by kernel_rfl) (GOk.cons (lift okROf) Tryd.func12 (by kernel_rfl) (by kernel_rfl) (GOk.cons (lift okBefore) Tryd.func13 (by kernel_rfl) (by kernel_rfl) (GOk.cons (lift okInts) Tryd.func14 (by kernel_rfl) (by kernel_rfl) (GOk.cons (lift okOf) Tryd.func15 (by kernel_rfl) (by kernel_rfl) (GOk.cons (lift okRSame) Tryd.func16 (by kernel_rfl) (by kernel_rfl) (GOk.cons (lift okSame2) Tryd.func17 (by kernel_rfl) (by kernel_rfl) GOk.nil)))))))))) GoOk.nil noIt) Tryd.func3 (c := Tryd.f3.body.getD .skip) (rvs := [(.tmp 6, .bool)]) (by kernel_rfl) (by kernel_rfl) (by kernel_rfl) ?_
  intro ds k ⟨hp, hk⟩ hwf
  obtain ⟨t, u, p, rfl, -⟩ := dest3 hp
  exact ⟨[joinAll], lawT_vc t u p k hk⟩
theorem glOkT {W : World} (h : laidMetH Tryd.prog Rows.traceSaysRow.laid W) : GlOk glE W fun b => b < W.heap.size := glE_of (.head _) h
end Go.Proofs.YtbpoeigaoakdiaaDoor.H
