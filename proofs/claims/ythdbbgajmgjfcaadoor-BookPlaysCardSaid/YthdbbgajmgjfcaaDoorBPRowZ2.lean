/- Own texts, merged: HV, HOk, HOk2, HM, JDef, JV, JOk, JLaw, BkD, BkS, KV, BkT, As, Er, BkU, KV2, BkV, BkW, BkX. -/
import Derived.Test.YthdbbgajmgjfcaaDoorBPRowZ1
import Derived.Test.YthdbbgajmgjfcaaDoorChecked
import Derived.WalkKit
import Derived.LaidEql
import Derived.Stop.Asserts
import Derived.RowKitTokens
import Derived.Test.YthdbbgajmgjfcaaDoorVcQ
import Derived.Test.YthdbbgajmgjfcaaDoorVcPA
/- What the functions of this seat have to satisfy, by program: each verification condition in plain words. -/
namespace Go.Proofs.YthdbbgajmgjfcaaDoor
open Go.Vc
set_option linter.unusedVariables false
theorem vcRIn5 (a b c : Int) (k : List Dat → Prop) : vcF ⟨Eg, [], [], [], []⟩ [joinAll] (Tryd.f27.body.getD .skip) Tryd.f27.ntmps [(.tmp 6, .bool)] [⟨I, a⟩, ⟨I, b⟩, ⟨I, c⟩] k = (
  (decide (b ≤ a) = true → k [Dat.mk Ty.bool (decide (a ≤ c))]) ∧ (decide (b ≤ a) = false → k [Dat.mk Ty.bool false])) := by kernel_rfl
theorem vcNewR (n : Int) (k : List Dat → Prop) : vcF ⟨Eh [6, 8], [], [], [], []⟩ [joinAll] (Tryd.f6.body.getD .skip) Tryd.f6.ntmps [(.cell 2 32, tRN)] [⟨I, n⟩] k = (
  (inK IntKind.i64 (n * (4 : Int)) ∧ (0 : Int) ≤ n * (4 : Int) ∧ n * (4 : Int) ≤ n * (4 : Int) ∧ n * (4 : Int) ≤ (1000000000 : Int) ∧ (0 : Int) ≤ n ∧ n ≤ n ∧ n ≤ (1000000000 : Int) ∧ True) ∧ k [Dat.mk ((I).pr ((tV).sl.sl.pr ((I).sl.pr Ty.un))) (n, List.replicate (n * (4 : Int)).toNat [], List.replicate n.toNat (0 : Int), ())]) := by kernel_rfl
theorem vcRSaw (v w : Va) (k : List Dat → Prop) : vcF ⟨Eg, [], [], [], []⟩ (anRSaw v w) (Tryd.f45.body.getD .skip) Tryd.f45.ntmps [(.tmp 4, .bool)] [⟨tV, v⟩, ⟨tV, w⟩] k = (
  (∃ (x : Nat), (x ≤ v.fst.length ∧ sawF v.fst w.fst x = true) ∧ (([] : List Nat) = [] ∧ ([] : List Nat) = [] ∧ (0 : Int) = (↑x : Int) ∧ True) ∧ (((63 : Nat) = (63 : Nat) ∧ v = v) ∧ ((63 : Nat) = (63 : Nat) ∧ w = w) ∧ True) ∧ True) ∧ ∀ (x : Nat), x ≤ v.fst.length ∧ sawF v.fst w.fst x = true → (decide ((↑x : Int) < (↑(List.length v.fst) : Int)) = true → ((0 : Int) ≤ (↑x : Int) ∧ (↑x : Int) < (↑(List.length v.fst) : Int) ∧ (0 : Int) ≤ (↑x : Int) ∧ (↑x : Int) < (↑(List.length w.fst) : Int) ∧ True) ∧ (decide (List.getD v.fst (↑x : Int).toNat (0 : Int) < List.getD w.fst (↑x : Int).toNat (0 : Int)) = true → k [Dat.mk Ty.bool false]) ∧ (decide (List.getD v.fst (↑x : Int).toNat (0 : Int) < List.getD w.fst (↑x : Int).toNat (0 : Int)) = false → inK IntKind.i64 ((↑x : Int) + (1 : Int)) ∧ ∃ (x_1 : Nat), (x_1 ≤ v.fst.length ∧ sawF v.fst w.fst x_1 = true) ∧ v.fst.length - x_1 < v.fst.length - x ∧ (([] : List Nat) = [] ∧ ([] : List Nat) = [] ∧ (↑x : Int) + (1 : Int) = (↑x_1 : Int) ∧ True) ∧ (((63 : Nat) = (63 : Nat) ∧ v = v) ∧ ((63 : Nat) = (63 : Nat) ∧ w = w) ∧ True) ∧ True)) ∧ (decide ((↑x : Int) < (↑(List.length v.fst) : Int)) = false → k [Dat.mk Ty.bool true])) := by kernel_rfl
theorem vcRBef (v w : Va) (k : List Dat → Prop) : vcF ⟨Eg, [], [], [], []⟩ (anRBef v w) (Tryd.f46.body.getD .skip) Tryd.f46.ntmps [(.tmp 4, .bool)] [⟨tV, v⟩, ⟨tV, w⟩] k = (
  (∃ (x : Nat), (x ≤ v.fst.length ∧ List.take x v.fst = List.take x w.fst) ∧ (([] : List Nat) = [] ∧ ([] : List Nat) = [] ∧ (0 : Int) = (↑x : Int) ∧ True) ∧ (((63 : Nat) = (63 : Nat) ∧ v = v) ∧ ((63 : Nat) = (63 : Nat) ∧ w = w) ∧ True) ∧ True) ∧ ∀ (x : Nat), x ≤ v.fst.length ∧ List.take x v.fst = List.take x w.fst → (decide ((↑x : Int) < (↑(List.length v.fst) : Int)) = true → ((0 : Int) ≤ (↑x : Int) ∧ (↑x : Int) < (↑(List.length v.fst) : Int) ∧ (0 : Int) ≤ (↑x : Int) ∧ (↑x : Int) < (↑(List.length w.fst) : Int) ∧ True) ∧ ((!decide (List.getD v.fst (↑x : Int).toNat (0 : Int) = List.getD w.fst (↑x : Int).toNat (0 : Int))) = true → ((0 : Int) ≤ (↑x : Int) ∧ (↑x : Int) < (↑(List.length v.fst) : Int) ∧ (0 : Int) ≤ (↑x : Int) ∧ (↑x : Int) < (↑(List.length w.fst) : Int) ∧ True) ∧ k [Dat.mk Ty.bool (decide (List.getD v.fst (↑x : Int).toNat (0 : Int) < List.getD w.fst (↑x : Int).toNat (0 : Int)))]) ∧ ((!decide (List.getD v.fst (↑x : Int).toNat (0 : Int) = List.getD w.fst (↑x : Int).toNat (0 : Int))) = false → inK IntKind.i64 ((↑x : Int) + (1 : Int)) ∧ ∃ (x_1 : Nat), (x_1 ≤ v.fst.length ∧ List.take x_1 v.fst = List.take x_1 w.fst) ∧ v.fst.length - x_1 < v.fst.length - x ∧ (([] : List Nat) = [] ∧ ([] : List Nat) = [] ∧ (↑x : Int) + (1 : Int) = (↑x_1 : Int) ∧ True) ∧ (((63 : Nat) = (63 : Nat) ∧ v = v) ∧ ((63 : Nat) = (63 : Nat) ∧ w = w) ∧ True) ∧ True)) ∧ (decide ((↑x : Int) < (↑(List.length v.fst) : Int)) = false → k [Dat.mk Ty.bool false])) := by kernel_rfl
theorem vcKeep (l : List Va) (v : Va) (k : List Dat → Prop) : vcF ⟨Eg, [(45, cRSaw), (46, cRBef)], [], [], []⟩ (anKeep l v) (Tryd.f29.body.getD .skip) Tryd.f29.ntmps [(.tmp 4, .sl tV)] [⟨.sl tV, l⟩, ⟨tV, v⟩] k = (
  (∃ (x : Nat), (x ≤ l.length ∧ anyS (List.take x l) v = false) ∧ (l = l ∧ ([] : List Nat) = [] ∧ (0 : Int) = (↑x : Int) ∧ True) ∧ (((63 : Nat) = (63 : Nat) ∧ v = v) ∧ True) ∧ True) ∧ ∀ (x : Nat), x ≤ l.length ∧ anyS (List.take x l) v = false → (decide ((↑x : Int) < (↑l.length : Int)) = true → ((0 : Int) ≤ (↑x : Int) ∧ (↑x : Int) < (↑l.length : Int) ∧ (List.length (l.getD (↑x : Int).toNat va0).fst ≤ List.length v.fst ∧ True) ∧ True) ∧ (sawB (l.getD (↑x : Int).toNat va0) v = true → k [Dat.mk (tV).sl l]) ∧ (sawB (l.getD (↑x : Int).toNat va0) v = false → inK IntKind.i64 ((↑x : Int) + (1 : Int)) ∧ ∃ (x_1 : Nat), (x_1 ≤ l.length ∧ anyS (List.take x_1 l) v = false) ∧ l.length - x_1 < l.length - x ∧ (l = l ∧ ([] : List Nat) = [] ∧ (↑x : Int) + (1 : Int) = (↑x_1 : Int) ∧ True) ∧ (((63 : Nat) = (63 : Nat) ∧ v = v) ∧ True) ∧ True)) ∧ (decide ((↑x : Int) < (↑l.length : Int)) = false → (∃ (x : Nat), (x ≤ l.length ∧ anyS l v = false) ∧ (l = l ∧ ([] : List Nat) = [] ∧ True ∧ (0 : Int) = (↑x : Int) ∧ True) ∧ (((63 : Nat) = (63 : Nat) ∧ v = v) ∧ ((63 : Nat) = (63 : Nat) ∧ [] = List.filter (loA v) (List.take x l)) ∧ True) ∧ True) ∧ ∀ (x : Nat), x ≤ l.length ∧ anyS l v = false → (decide ((↑x : Int) < (↑l.length : Int)) = true → ((0 : Int) ≤ (↑x : Int) ∧ (↑x : Int) < (↑l.length : Int) ∧ (List.length v.fst ≤ List.length (l.getD (↑x : Int).toNat va0).fst ∧ True) ∧ ((!sawB v (l.getD (↑x : Int).toNat va0)) = true → (0 : Int) ≤ (↑x : Int) ∧ (↑x : Int) < (↑l.length : Int) ∧ (List.length (l.getD (↑x : Int).toNat va0).fst = List.length v.fst ∧ True) ∧ True) ∧ ((!sawB v (l.getD (↑x : Int).toNat va0)) = false → True)) ∧ ((!sawB v (l.getD (↑x : Int).toNat va0) && befB (l.getD (↑x : Int).toNat va0) v) = true → (0 : Int) ≤ (↑x : Int) ∧ (↑x : Int) < (↑l.length : Int) ∧ (List.filter (loA v) (List.take x l)).length + ((List.replicate (1 : Nat) va0).set (0 : Nat) (l.getD (↑x : Int).toNat va0)).length ≤ (1000000000 : Nat) ∧ inK IntKind.i64 ((↑x : Int) + (1 : Int)) ∧ ∃ (x_1 : Nat), (x_1 ≤ l.length ∧ anyS l v = false) ∧ l.length - x_1 < l.length - x ∧ (l = l ∧ ([] : List Nat) = [] ∧ True ∧ (↑x : Int) + (1 : Int) = (↑x_1 : Int) ∧ True) ∧ (((63 : Nat) = (63 : Nat) ∧ v = v) ∧ ((63 : Nat) = (63 : Nat) ∧ (List.filter (loA v) (List.take x l)).append ((List.replicate (1 : Nat) va0).set (0 : Nat) (l.getD (↑x : Int).toNat va0)) = List.filter (loA v) (List.take x_1 l)) ∧ True) ∧ True) ∧ ((!sawB v (l.getD (↑x : Int).toNat va0) && befB (l.getD (↑x : Int).toNat va0) v) = false → inK IntKind.i64 ((↑x : Int) + (1 : Int)) ∧ ∃ (x_1 : Nat), (x_1 ≤ l.length ∧ anyS l v = false) ∧ l.length - x_1 < l.length - x ∧ (l = l ∧ ([] : List Nat) = [] ∧ True ∧ (↑x : Int) + (1 : Int) = (↑x_1 : Int) ∧ True) ∧ (((63 : Nat) = (63 : Nat) ∧ v = v) ∧ ((63 : Nat) = (63 : Nat) ∧ List.filter (loA v) (List.take x l) = List.filter (loA v) (List.take x_1 l)) ∧ True) ∧ True)) ∧ (decide ((↑x : Int) < (↑l.length : Int)) = false → (List.filter (loA v) (List.take x l)).length + ((List.replicate (1 : Nat) va0).set (0 : Nat) v).length ≤ (1000000000 : Nat) ∧ (∃ (x_1 : Nat), (x_1 ≤ l.length ∧ anyS l v = false) ∧ (l = l ∧ ([] : List Nat) = [] ∧ True ∧ (0 : Int) = (↑x_1 : Int) ∧ True) ∧ (((63 : Nat) = (63 : Nat) ∧ v = v) ∧ ((63 : Nat) = (63 : Nat) ∧ (List.filter (loA v) (List.take x l)).append ((List.replicate (1 : Nat) va0).set (0 : Nat) v) = List.filter (loA v) l ++ [v] ++ List.filter (hiA v) (List.take x_1 l)) ∧ True) ∧ True) ∧ ∀ (x : Nat), x ≤ l.length ∧ anyS l v = false → (decide ((↑x : Int) < (↑l.length : Int)) = true → ((0 : Int) ≤ (↑x : Int) ∧ (↑x : Int) < (↑l.length : Int) ∧ (List.length v.fst ≤ List.length (l.getD (↑x : Int).toNat va0).fst ∧ True) ∧ ((!sawB v (l.getD (↑x : Int).toNat va0)) = true → (0 : Int) ≤ (↑x : Int) ∧ (↑x : Int) < (↑l.length : Int) ∧ (List.length v.fst = List.length (l.getD (↑x : Int).toNat va0).fst ∧ True) ∧ True) ∧ ((!sawB v (l.getD (↑x : Int).toNat va0)) = false → True)) ∧ ((!sawB v (l.getD (↑x : Int).toNat va0) && befB v (l.getD (↑x : Int).toNat va0)) = true → (0 : Int) ≤ (↑x : Int) ∧ (↑x : Int) < (↑l.length : Int) ∧ (List.filter (loA v) l ++ [v] ++ List.filter (hiA v) (List.take x l)).length + ((List.replicate (1 : Nat) va0).set (0 : Nat) (l.getD (↑x : Int).toNat va0)).length ≤ (1000000000 : Nat) ∧ inK IntKind.i64 ((↑x : Int) + (1 : Int)) ∧ ∃ (x_1 : Nat), (x_1 ≤ l.length ∧ anyS l v = false) ∧ l.length - x_1 < l.length - x ∧ (l = l ∧ ([] : List Nat) = [] ∧ True ∧ (↑x : Int) + (1 : Int) = (↑x_1 : Int) ∧ True) ∧ (((63 : Nat) = (63 : Nat) ∧ v = v) ∧ ((63 : Nat) = (63 : Nat) ∧ (List.filter (loA v) l ++ [v] ++ List.filter (hiA v) (List.take x l)).append ((List.replicate (1 : Nat) va0).set (0 : Nat) (l.getD (↑x : Int).toNat va0)) = List.filter (loA v) l ++ [v] ++ List.filter (hiA v) (List.take x_1 l)) ∧ True) ∧ True) ∧ ((!sawB v (l.getD (↑x : Int).toNat va0) && befB v (l.getD (↑x : Int).toNat va0)) = false → inK IntKind.i64 ((↑x : Int) + (1 : Int)) ∧ ∃ (x_1 : Nat), (x_1 ≤ l.length ∧ anyS l v = false) ∧ l.length - x_1 < l.length - x ∧ (l = l ∧ ([] : List Nat) = [] ∧ True ∧ (↑x : Int) + (1 : Int) = (↑x_1 : Int) ∧ True) ∧ (((63 : Nat) = (63 : Nat) ∧ v = v) ∧ ((63 : Nat) = (63 : Nat) ∧ List.filter (loA v) l ++ [v] ++ List.filter (hiA v) (List.take x l) = List.filter (loA v) l ++ [v] ++ List.filter (hiA v) (List.take x_1 l)) ∧ True) ∧ True)) ∧ (decide ((↑x : Int) < (↑l.length : Int)) = false → k [Dat.mk (tV).sl (List.filter (loA v) l ++ [v] ++ List.filter (hiA v) (List.take x l))])))) := by kernel_rfl
theorem vcRow (l : List (List Va)) (i : Int) (x : List Va) (k : List Dat → Prop) : vcF ⟨Eg, [], [], [], []⟩ [joinAll] (Tryd.f28.body.getD .skip) Tryd.f28.ntmps [(.tmp 6, .sl (.sl tV))] [⟨.sl (.sl tV), l⟩, ⟨I, i⟩, ⟨.sl tV, x⟩] k = (
  (0 : Int) ≤ (0 : Int) ∧ (0 : Int) ≤ i ∧ i ≤ (↑l.length : Int) ∧ (List.drop (Int.toNat (0 : Int)) (List.take i.toNat l)).length ≤ (1000000000 : Nat) ∧ (List.drop (Int.toNat (0 : Int)) (List.take i.toNat l)).length + ((List.replicate (1 : Nat) []).set (0 : Nat) x).length ≤ (1000000000 : Nat) ∧ inK IntKind.i64 (i + (1 : Int)) ∧ (0 : Int) ≤ i + (1 : Int) ∧ i + (1 : Int) ≤ (↑l.length : Int) ∧ (↑l.length : Int) ≤ (↑l.length : Int) ∧ ((List.drop (Int.toNat (0 : Int)) (List.take i.toNat l)).append ((List.replicate (1 : Nat) []).set (0 : Nat) x)).length + (List.drop (i + (1 : Int)).toNat (List.take (↑l.length : Int).toNat l)).length ≤ (1000000000 : Nat) ∧ k [Dat.mk (tV).sl.sl (((List.drop (Int.toNat (0 : Int)) (List.take i.toNat l)).append ((List.replicate (1 : Nat) []).set (0 : Nat) x)).append (List.drop (i + (1 : Int)).toNat (List.take (↑l.length : Int).toNat l)))]) := by kernel_rfl
theorem vcRWrite (t : RN) (p q v : Int) (k : List Dat → Prop) : vcF ⟨Eh [], [(27, cWithin), (28, cRow)], [], [], []⟩ (anRWrite t p q v) (Tryd.f15.body.getD .skip) Tryd.f15.ntmps [(.cell 8 32, tRN), (.tmp 9, I)] [⟨tRN, t⟩, ⟨I, p⟩, ⟨I, q⟩, ⟨I, v⟩] k = (
  inK IntKind.i64 (t.fst - (1 : Int)) ∧ True ∧ ((!inB p (0 : Int) (t.fst - (1 : Int))) = true → k [Dat.mk ((I).pr ((tV).sl.sl.pr ((I).sl.pr Ty.un))) t, Dat.mk (I) (1 : Int)]) ∧ ((!inB p (0 : Int) (t.fst - (1 : Int))) = false → True ∧ ((!inB q (0 : Int) (3 : Int)) = true → k [Dat.mk ((I).pr ((tV).sl.sl.pr ((I).sl.pr Ty.un))) t, Dat.mk (I) (1 : Int)]) ∧ ((!inB q (0 : Int) (3 : Int)) = false → True ∧ ((!inB v (0 : Int) (1000000 : Int)) = true → k [Dat.mk ((I).pr ((tV).sl.sl.pr ((I).sl.pr Ty.un))) t, Dat.mk (I) (1 : Int)]) ∧ ((!inB v (0 : Int) (1000000 : Int)) = false → (0 : Int) ≤ p ∧ p < (↑(List.length t.snd.snd.fst) : Int) ∧ (decide ((60 : Int) ≤ List.getD t.snd.snd.fst p.toNat (0 : Int)) = true → k [Dat.mk ((I).pr ((tV).sl.sl.pr ((I).sl.pr Ty.un))) t, Dat.mk (I) (4 : Int)]) ∧ (decide ((60 : Int) ≤ List.getD t.snd.snd.fst p.toNat (0 : Int)) = false → List.length t.snd.snd.fst ≤ (1000000000 : Nat) ∧ (0 : Int) ≤ p ∧ p < (↑(List.length t.snd.snd.fst) : Int) ∧ inK IntKind.i64 (List.getD t.snd.snd.fst p.toNat (0 : Int) + (1 : Int)) ∧ (0 : Int) ≤ p ∧ p < (↑(List.length t.snd.snd.fst) : Int) ∧ (∃ (x : Nat), (x ≤ t.fst.toNat ∧ rWriteE t p q v = (0 : Int)) ∧ (p = p ∧ q = q ∧ v = v ∧ ([] : List Nat) = [] ∧ ([] : List Nat) = [] ∧ List.set t.snd.snd.fst p.toNat (List.getD t.snd.snd.fst p.toNat (0 : Int) + (1 : Int)) = List.set t.snd.snd.fst p.toNat (List.getD t.snd.snd.fst p.toNat (0 : Int) + (1 : Int)) ∧ True ∧ (0 : Int) = (↑x : Int) ∧ True) ∧ (((32 : Nat) = (32 : Nat) ∧ (t.fst, t.snd.fst, List.set t.snd.snd.fst p.toNat (List.getD t.snd.snd.fst p.toNat (0 : Int) + (1 : Int)), t.snd.snd.snd) = (t.fst, t.snd.fst, rUp t p, ())) ∧ ((32 : Nat) = (32 : Nat) ∧ ((0 : Int), [], [], ()) = rn0) ∧ ((3 : Nat) = (3 : Nat) ∧ [] = seenU t p q x) ∧ True) ∧ True) ∧ ∀ (x : Nat), x ≤ t.fst.toNat ∧ rWriteE t p q v = (0 : Int) → (decide ((↑x : Int) < t.fst) = true → inK IntKind.i64 (p * (4 : Int)) ∧ inK IntKind.i64 (p * (4 : Int) + q) ∧ (0 : Int) ≤ p * (4 : Int) + q ∧ p * (4 : Int) + q < (↑t.snd.fst.length : Int) ∧ (∃ (x_1 : Nat), (x_1 ≤ (rAt t p q).length ∧ rWriteE t p q v = (0 : Int)) ∧ (p = p ∧ q = q ∧ v = v ∧ ([] : List Nat) = [] ∧ ([] : List Nat) = [] ∧ List.set t.snd.snd.fst p.toNat (List.getD t.snd.snd.fst p.toNat (0 : Int) + (1 : Int)) = List.set t.snd.snd.fst p.toNat (List.getD t.snd.snd.fst p.toNat (0 : Int) + (1 : Int)) ∧ True ∧ (↑x : Int) = (↑x : Int) ∧ (0 : Int) = mxF (rAt t p q) (↑x : Int).toNat x_1 ∧ t.snd.fst.getD (p * (4 : Int) + q).toNat [] = t.snd.fst.getD (p * (4 : Int) + q).toNat [] ∧ (0 : Int) = (↑x_1 : Int) ∧ True) ∧ (((32 : Nat) = (32 : Nat) ∧ (t.fst, t.snd.fst, rUp t p, ()) = (t.fst, t.snd.fst, rUp t p, ())) ∧ ((32 : Nat) = (32 : Nat) ∧ rn0 = rn0) ∧ ((3 : Nat) = (3 : Nat) ∧ seenU t p q x = seenU t p q x) ∧ True) ∧ True) ∧ ∀ (x_1 : Nat), x_1 ≤ (rAt t p q).length ∧ rWriteE t p q v = (0 : Int) → (decide ((↑x_1 : Int) < (↑(t.snd.fst.getD (p * (4 : Int) + q).toNat []).length : Int)) = true → (0 : Int) ≤ (↑x_1 : Int) ∧ (↑x_1 : Int) < (↑(t.snd.fst.getD (p * (4 : Int) + q).toNat []).length : Int) ∧ (0 : Int) ≤ (↑x : Int) ∧ (↑x : Int) < (↑(List.length ((t.snd.fst.getD (p * (4 : Int) + q).toNat []).getD (↑x_1 : Int).toNat va0).fst) : Int) ∧ (decide (mxF (rAt t p q) (↑x : Int).toNat x_1 < List.getD ((t.snd.fst.getD (p * (4 : Int) + q).toNat []).getD (↑x_1 : Int).toNat va0).fst (↑x : Int).toNat (0 : Int)) = true → (0 : Int) ≤ (↑x_1 : Int) ∧ (↑x_1 : Int) < (↑(t.snd.fst.getD (p * (4 : Int) + q).toNat []).length : Int) ∧ (0 : Int) ≤ (↑x : Int) ∧ (↑x : Int) < (↑(List.length ((t.snd.fst.getD (p * (4 : Int) + q).toNat []).getD (↑x_1 : Int).toNat va0).fst) : Int) ∧ inK IntKind.i64 ((↑x_1 : Int) + (1 : Int)) ∧ ∃ (x_2 : Nat), (x_2 ≤ (rAt t p q).length ∧ rWriteE t p q v = (0 : Int)) ∧ (rAt t p q).length - x_2 < (rAt t p q).length - x_1 ∧ (p = p ∧ q = q ∧ v = v ∧ ([] : List Nat) = [] ∧ ([] : List Nat) = [] ∧ List.set t.snd.snd.fst p.toNat (List.getD t.snd.snd.fst p.toNat (0 : Int) + (1 : Int)) = List.set t.snd.snd.fst p.toNat (List.getD t.snd.snd.fst p.toNat (0 : Int) + (1 : Int)) ∧ True ∧ (↑x : Int) = (↑x : Int) ∧ List.getD ((t.snd.fst.getD (p * (4 : Int) + q).toNat []).getD (↑x_1 : Int).toNat va0).fst (↑x : Int).toNat (0 : Int) = mxF (rAt t p q) (↑x : Int).toNat x_2 ∧ t.snd.fst.getD (p * (4 : Int) + q).toNat [] = t.snd.fst.getD (p * (4 : Int) + q).toNat [] ∧ (↑x_1 : Int) + (1 : Int) = (↑x_2 : Int) ∧ True) ∧ (((32 : Nat) = (32 : Nat) ∧ (t.fst, t.snd.fst, rUp t p, ()) = (t.fst, t.snd.fst, rUp t p, ())) ∧ ((32 : Nat) = (32 : Nat) ∧ rn0 = rn0) ∧ ((3 : Nat) = (3 : Nat) ∧ seenU t p q x = seenU t p q x) ∧ True) ∧ True) ∧ (decide (mxF (rAt t p q) (↑x : Int).toNat x_1 < List.getD ((t.snd.fst.getD (p * (4 : Int) + q).toNat []).getD (↑x_1 : Int).toNat va0).fst (↑x : Int).toNat (0 : Int)) = false → inK IntKind.i64 ((↑x_1 : Int) + (1 : Int)) ∧ ∃ (x_2 : Nat), (x_2 ≤ (rAt t p q).length ∧ rWriteE t p q v = (0 : Int)) ∧ (rAt t p q).length - x_2 < (rAt t p q).length - x_1 ∧ (p = p ∧ q = q ∧ v = v ∧ ([] : List Nat) = [] ∧ ([] : List Nat) = [] ∧ List.set t.snd.snd.fst p.toNat (List.getD t.snd.snd.fst p.toNat (0 : Int) + (1 : Int)) = List.set t.snd.snd.fst p.toNat (List.getD t.snd.snd.fst p.toNat (0 : Int) + (1 : Int)) ∧ True ∧ (↑x : Int) = (↑x : Int) ∧ mxF (rAt t p q) (↑x : Int).toNat x_1 = mxF (rAt t p q) (↑x : Int).toNat x_2 ∧ t.snd.fst.getD (p * (4 : Int) + q).toNat [] = t.snd.fst.getD (p * (4 : Int) + q).toNat [] ∧ (↑x_1 : Int) + (1 : Int) = (↑x_2 : Int) ∧ True) ∧ (((32 : Nat) = (32 : Nat) ∧ (t.fst, t.snd.fst, rUp t p, ()) = (t.fst, t.snd.fst, rUp t p, ())) ∧ ((32 : Nat) = (32 : Nat) ∧ rn0 = rn0) ∧ ((3 : Nat) = (3 : Nat) ∧ seenU t p q x = seenU t p q x) ∧ True) ∧ True)) ∧ (decide ((↑x_1 : Int) < (↑(t.snd.fst.getD (p * (4 : Int) + q).toNat []).length : Int)) = false → (decide ((↑x : Int) = p) = true → (0 : Int) ≤ p ∧ p < (↑(List.set t.snd.snd.fst p.toNat (List.getD t.snd.snd.fst p.toNat (0 : Int) + (1 : Int))).length : Int) ∧ (seenU t p q x).length + ((List.replicate (1 : Nat) (0 : Int)).set (0 : Nat) ((List.set t.snd.snd.fst p.toNat (List.getD t.snd.snd.fst p.toNat (0 : Int) + (1 : Int))).getD p.toNat (0 : Int))).length ≤ (1000000000 : Nat) ∧ inK IntKind.i64 ((↑x : Int) + (1 : Int)) ∧ ∃ (x_2 : Nat), (x_2 ≤ t.fst.toNat ∧ rWriteE t p q v = (0 : Int)) ∧ t.fst.toNat - x_2 < t.fst.toNat - x ∧ (p = p ∧ q = q ∧ v = v ∧ ([] : List Nat) = [] ∧ ([] : List Nat) = [] ∧ List.set t.snd.snd.fst p.toNat (List.getD t.snd.snd.fst p.toNat (0 : Int) + (1 : Int)) = List.set t.snd.snd.fst p.toNat (List.getD t.snd.snd.fst p.toNat (0 : Int) + (1 : Int)) ∧ True ∧ (↑x : Int) + (1 : Int) = (↑x_2 : Int) ∧ True) ∧ (((32 : Nat) = (32 : Nat) ∧ (t.fst, t.snd.fst, rUp t p, ()) = (t.fst, t.snd.fst, rUp t p, ())) ∧ ((32 : Nat) = (32 : Nat) ∧ rn0 = rn0) ∧ ((3 : Nat) = (3 : Nat) ∧ (seenU t p q x).append ((List.replicate (1 : Nat) (0 : Int)).set (0 : Nat) ((List.set t.snd.snd.fst p.toNat (List.getD t.snd.snd.fst p.toNat (0 : Int) + (1 : Int))).getD p.toNat (0 : Int))) = seenU t p q x_2) ∧ True) ∧ True) ∧ (decide ((↑x : Int) = p) = false → (seenU t p q x).length + ((List.replicate (1 : Nat) (0 : Int)).set (0 : Nat) (mxF (rAt t p q) (↑x : Int).toNat x_1)).length ≤ (1000000000 : Nat) ∧ inK IntKind.i64 ((↑x : Int) + (1 : Int)) ∧ ∃ (x_2 : Nat), (x_2 ≤ t.fst.toNat ∧ rWriteE t p q v = (0 : Int)) ∧ t.fst.toNat - x_2 < t.fst.toNat - x ∧ (p = p ∧ q = q ∧ v = v ∧ ([] : List Nat) = [] ∧ ([] : List Nat) = [] ∧ List.set t.snd.snd.fst p.toNat (List.getD t.snd.snd.fst p.toNat (0 : Int) + (1 : Int)) = List.set t.snd.snd.fst p.toNat (List.getD t.snd.snd.fst p.toNat (0 : Int) + (1 : Int)) ∧ True ∧ (↑x : Int) + (1 : Int) = (↑x_2 : Int) ∧ True) ∧ (((32 : Nat) = (32 : Nat) ∧ (t.fst, t.snd.fst, rUp t p, ()) = (t.fst, t.snd.fst, rUp t p, ())) ∧ ((32 : Nat) = (32 : Nat) ∧ rn0 = rn0) ∧ ((3 : Nat) = (3 : Nat) ∧ (seenU t p q x).append ((List.replicate (1 : Nat) (0 : Int)).set (0 : Nat) (mxF (rAt t p q) (↑x : Int).toNat x_1)) = seenU t p q x_2) ∧ True) ∧ True))) ∧ (decide ((↑x : Int) < t.fst) = false → inK IntKind.i64 (p * (4 : Int)) ∧ inK IntKind.i64 (p * (4 : Int) + q) ∧ ((((0 : Int) ≤ p * (4 : Int) + q ∧ p * (4 : Int) + q < (↑t.snd.fst.length : Int)) ∧ t.snd.fst.length ≤ (1000 : Nat)) ∧ True) ∧ k [Dat.mk ((I).pr ((tV).sl.sl.pr ((I).sl.pr Ty.un))) (t.fst, List.take (p * (4 : Int) + q).toNat t.snd.fst ++ [(List.replicate (1 : Nat) va0).set (0 : Nat) (seenU t p q x, v, ())] ++ List.drop ((p * (4 : Int) + q).toNat + (1 : Nat)) t.snd.fst, rUp t p, ()), Dat.mk (I) (0 : Int)])))))) := by kernel_rfl
theorem vcRSync (t : RN) (a b : Int) (k : List Dat → Prop) : vcF ⟨Eh [], [(27, cWithin), (28, cRow), (29, cKeep)], [], [], []⟩ (anRSync t a b) (Tryd.f16.body.getD .skip) Tryd.f16.ntmps [(.cell 6 32, tRN), (.tmp 7, I)] [⟨tRN, t⟩, ⟨I, a⟩, ⟨I, b⟩] k = (
  inK IntKind.i64 (t.fst - (1 : Int)) ∧ True ∧ ((!inB a (0 : Int) (t.fst - (1 : Int))) = true → k [Dat.mk ((I).pr ((tV).sl.sl.pr ((I).sl.pr Ty.un))) t, Dat.mk (I) (1 : Int)]) ∧ ((!inB a (0 : Int) (t.fst - (1 : Int))) = false → inK IntKind.i64 (t.fst - (1 : Int)) ∧ True ∧ ((!inB b (0 : Int) (t.fst - (1 : Int))) = true → k [Dat.mk ((I).pr ((tV).sl.sl.pr ((I).sl.pr Ty.un))) t, Dat.mk (I) (1 : Int)]) ∧ ((!inB b (0 : Int) (t.fst - (1 : Int))) = false → (decide (a = b) = true → k [Dat.mk ((I).pr ((tV).sl.sl.pr ((I).sl.pr Ty.un))) t, Dat.mk (I) (6 : Int)]) ∧ (decide (a = b) = false → (∃ (x : Nat), (x ≤ (4 : Nat) ∧ rSyncE t a b = (0 : Int)) ∧ (a = a ∧ b = b ∧ ([] : List Nat) = [] ∧ ([] : List Nat) = [] ∧ (0 : Int) = (↑x : Int) ∧ True) ∧ (((32 : Nat) = (32 : Nat) ∧ t = rSyncU t a b x) ∧ ((32 : Nat) = (32 : Nat) ∧ ((0 : Int), [], [], ()) = rn0) ∧ True) ∧ True) ∧ ∀ (x : Nat), x ≤ (4 : Nat) ∧ rSyncE t a b = (0 : Int) → (decide ((↑x : Int) < (4 : Int)) = true → inK IntKind.i64 (b * (4 : Int)) ∧ inK IntKind.i64 (b * (4 : Int) + (↑x : Int)) ∧ (0 : Int) ≤ b * (4 : Int) + (↑x : Int) ∧ b * (4 : Int) + (↑x : Int) < (↑(List.length (rSyncU t a b x).snd.fst) : Int) ∧ (∃ (x_1 : Nat), (x_1 ≤ (rAt (rSyncU t a b (↑x : Int).toNat) a (↑x : Int)).length ∧ rSyncE t a b = (0 : Int)) ∧ (a = a ∧ b = b ∧ ([] : List Nat) = [] ∧ ([] : List Nat) = [] ∧ (↑x : Int) = (↑x : Int) ∧ List.getD (rSyncU t a b x).snd.fst (b * (4 : Int) + (↑x : Int)).toNat [] = keepU (rAt (rSyncU t a b (↑x : Int).toNat) b (↑x : Int)) (rAt (rSyncU t a b (↑x : Int).toNat) a (↑x : Int)) x_1 ∧ (0 : Int) = (↑x_1 : Int) ∧ True) ∧ (((32 : Nat) = (32 : Nat) ∧ rSyncU t a b x = rSyncU t a b x) ∧ ((32 : Nat) = (32 : Nat) ∧ rn0 = rn0) ∧ True) ∧ True) ∧ ∀ (x_1 : Nat), x_1 ≤ (rAt (rSyncU t a b (↑x : Int).toNat) a (↑x : Int)).length ∧ rSyncE t a b = (0 : Int) → inK IntKind.i64 (a * (4 : Int)) ∧ inK IntKind.i64 (a * (4 : Int) + (↑x : Int)) ∧ (0 : Int) ≤ a * (4 : Int) + (↑x : Int) ∧ a * (4 : Int) + (↑x : Int) < (↑(List.length (rSyncU t a b x).snd.fst) : Int) ∧ (decide ((↑x_1 : Int) < (↑(List.getD (rSyncU t a b x).snd.fst (a * (4 : Int) + (↑x : Int)).toNat []).length : Int)) = true → inK IntKind.i64 (a * (4 : Int)) ∧ inK IntKind.i64 (a * (4 : Int) + (↑x : Int)) ∧ (0 : Int) ≤ a * (4 : Int) + (↑x : Int) ∧ a * (4 : Int) + (↑x : Int) < (↑(List.length (rSyncU t a b x).snd.fst) : Int) ∧ (0 : Int) ≤ (↑x_1 : Int) ∧ (↑x_1 : Int) < (↑(List.getD (rSyncU t a b x).snd.fst (a * (4 : Int) + (↑x : Int)).toNat []).length : Int) ∧ (((keepU (rAt (rSyncU t a b (↑x : Int).toNat) b (↑x : Int)) (rAt (rSyncU t a b (↑x : Int).toNat) a (↑x : Int)) x_1).length ≤ (1000 : Nat) ∧ ∀ (u : List Int × Int × Unit), u ∈ keepU (rAt (rSyncU t a b (↑x : Int).toNat) b (↑x : Int)) (rAt (rSyncU t a b (↑x : Int).toNat) a (↑x : Int)) x_1 → u.fst.length = ((List.getD (rSyncU t a b x).snd.fst (a * (4 : Int) + (↑x : Int)).toNat []).getD (↑x_1 : Int).toNat va0).fst.length) ∧ True) ∧ inK IntKind.i64 ((↑x_1 : Int) + (1 : Int)) ∧ ∃ (x_2 : Nat), (x_2 ≤ (rAt (rSyncU t a b (↑x : Int).toNat) a (↑x : Int)).length ∧ rSyncE t a b = (0 : Int)) ∧ (2000 : Nat) - x_2 < (2000 : Nat) - x_1 ∧ (a = a ∧ b = b ∧ ([] : List Nat) = [] ∧ ([] : List Nat) = [] ∧ (↑x : Int) = (↑x : Int) ∧ keepF (keepU (rAt (rSyncU t a b (↑x : Int).toNat) b (↑x : Int)) (rAt (rSyncU t a b (↑x : Int).toNat) a (↑x : Int)) x_1) ((List.getD (rSyncU t a b x).snd.fst (a * (4 : Int) + (↑x : Int)).toNat []).getD (↑x_1 : Int).toNat va0) = keepU (rAt (rSyncU t a b (↑x : Int).toNat) b (↑x : Int)) (rAt (rSyncU t a b (↑x : Int).toNat) a (↑x : Int)) x_2 ∧ (↑x_1 : Int) + (1 : Int) = (↑x_2 : Int) ∧ True) ∧ (((32 : Nat) = (32 : Nat) ∧ rSyncU t a b x = rSyncU t a b x) ∧ ((32 : Nat) = (32 : Nat) ∧ rn0 = rn0) ∧ True) ∧ True) ∧ (decide ((↑x_1 : Int) < (↑(List.getD (rSyncU t a b x).snd.fst (a * (4 : Int) + (↑x : Int)).toNat []).length : Int)) = false → inK IntKind.i64 (b * (4 : Int)) ∧ inK IntKind.i64 (b * (4 : Int) + (↑x : Int)) ∧ ((((0 : Int) ≤ b * (4 : Int) + (↑x : Int) ∧ b * (4 : Int) + (↑x : Int) < (↑(List.length (rSyncU t a b x).snd.fst) : Int)) ∧ List.length (rSyncU t a b x).snd.fst ≤ (1000 : Nat)) ∧ True) ∧ inK IntKind.i64 ((↑x : Int) + (1 : Int)) ∧ ∃ (x_2 : Nat), (x_2 ≤ (4 : Nat) ∧ rSyncE t a b = (0 : Int)) ∧ (4 : Nat) - x_2 < (4 : Nat) - x ∧ (a = a ∧ b = b ∧ ([] : List Nat) = [] ∧ ([] : List Nat) = [] ∧ (↑x : Int) + (1 : Int) = (↑x_2 : Int) ∧ True) ∧ (((32 : Nat) = (32 : Nat) ∧ ((rSyncU t a b x).fst, List.take (b * (4 : Int) + (↑x : Int)).toNat (rSyncU t a b x).snd.fst ++ [keepU (rAt (rSyncU t a b (↑x : Int).toNat) b (↑x : Int)) (rAt (rSyncU t a b (↑x : Int).toNat) a (↑x : Int)) x_1] ++ List.drop ((b * (4 : Int) + (↑x : Int)).toNat + (1 : Nat)) (rSyncU t a b x).snd.fst, (rSyncU t a b x).snd.snd) = rSyncU t a b x_2) ∧ ((32 : Nat) = (32 : Nat) ∧ rn0 = rn0) ∧ True) ∧ True)) ∧ (decide ((↑x : Int) < (4 : Int)) = false → k [Dat.mk ((I).pr ((tV).sl.sl.pr ((I).sl.pr Ty.un))) (rSyncU t a b x), Dat.mk (I) (0 : Int)]))))) := by kernel_rfl
end Go.Proofs.YthdbbgajmgjfcaaDoor

/- Nets: the reference's functions keep their contracts. -/
namespace Go.Proofs.YthdbbgajmgjfcaaDoor
open Go.Vc Go.Proofs

theorem okRIn5 : PlainOk Tryd.prog [] 27 cWithin := by
  refine plain_of (CxOk.mk' Eg_ok (by kernel_rfl) mixed (gl := []) GOk.nil GoOk.nil noIt) Tryd.func27 (c := Tryd.f27.body.getD .skip) (rvs := [(.tmp 6, .bool)]) (by kernel_rfl) (by kernel_rfl) (by kernel_rfl) ?_
  intro ds k ⟨hp, hk⟩ hwf
  obtain ⟨a, b, c, rfl, -⟩ := dest3 hp
  refine ⟨[joinAll], ?_⟩
  rw [vcRIn5]
  have ret : ∀ x : Bool, inB a b c = x → k [⟨.bool, x⟩] := by rintro _ rfl; exact hk
  exact ⟨fun h => ret _ (by unfold inB; rw [h]; rfl), fun h => ret _ (by unfold inB; rw [h]; rfl)⟩
theorem okNewR : PlainOk Tryd.prog [] 6 cNewR := by
  refine plain_of (CxOk.mk' (Eh_ok [6, 8]) (by kernel_rfl) mixed (gl := []) GOk.nil GoOk.nil noIt) Tryd.func6 (c := Tryd.f6.body.getD .skip) (rvs := [(.cell 2 32, tRN)]) (by kernel_rfl) (by kernel_rfl) (by kernel_rfl) ?_
  intro ds k ⟨hp, hk⟩ hwf
  obtain ⟨n, rfl, ⟨h0, h5⟩, -⟩ := dest1 hp
  refine ⟨[joinAll], ?_⟩
  rw [vcNewR]
  simp only [inK_i64]
  exact ⟨⟨by omega, by omega, Int.le_refl _, by omega, h0, Int.le_refl _, by omega, trivial⟩, hk⟩
theorem rsaw_vc (v w : Va) (hw : v.1.length ≤ w.1.length) (hl : v.1.length ≤ maxLen) (k : List Dat → Prop) (hk : k [⟨.bool, sawB v w⟩]) : vcF ⟨Eg, [], [], [], []⟩ (anRSaw v w) (Tryd.f45.body.getD .skip) Tryd.f45.ntmps [(.tmp 4, .bool)] [⟨tV, v⟩, ⟨tV, w⟩] k := by
  rw [vcRSaw]
  have hml : maxLen ≤ 9223372036854775807 := by decide
  have ret : ∀ x : Bool, sawB v w = x → k [⟨.bool, x⟩] := by rintro _ rfl; exact hk
  simp only [decide_eq_true_eq, decide_eq_false_iff_not, true_and, and_true, Int.toNat_natCast, inK_i64]
  refine ⟨⟨0, ⟨Nat.zero_le _, rfl⟩, rfl⟩, fun x ⟨hx, hs⟩ => ⟨fun hlt => ?_, fun hge => ret _ ?_⟩⟩
  · have hxl : x < v.1.length := by omega
    refine ⟨⟨by omega, by omega, by omega, by omega⟩, fun hc => ret _ ?_, fun hc => ⟨by omega, x + 1, ⟨by omega, ?_⟩, by omega, by omega⟩⟩
    · cases hq : sawB v w with
      | false => rfl
      | true =>
        have := (sawF_all _).1 hq x hxl
        omega
    · unfold sawF; rw [hs, decide_eq_true (by omega)]; rfl
  · have : x = v.1.length := by omega
    subst this; exact hs
theorem okRSaw : PlainOk Tryd.prog [] 45 cRSaw := by
  refine plain_of (CxOk.mk' Eg_ok (by kernel_rfl) mixed (gl := []) GOk.nil GoOk.nil noIt) Tryd.func45 (c := Tryd.f45.body.getD .skip) (rvs := [(.tmp 4, .bool)]) (by kernel_rfl) (by kernel_rfl) (by kernel_rfl) ?_
  intro ds k ⟨hp, hk⟩ hwf
  obtain ⟨v, w, rfl, hw, -⟩ := dest2 hp
  exact ⟨anRSaw v w, rsaw_vc v w hw (wf2 hwf).1.1.1 k hk⟩
theorem lexL_at : ∀ (i : Nat) (v w : List Int), v.take i = w.take i → i < v.length → i < w.length → v.getD i 0 ≠ w.getD i 0 → (lexL v w < 0 ↔ v.getD i 0 < w.getD i 0)
  | _, [], _, _, h, _, _ => by simp at h
  | _, _ :: _, [], _, _, h, _ => by simp at h
  | 0, x :: a, y :: b, _, _, _, hne => by
    have hne : x ≠ y := hne
    show (if cmpI x y = 0 then lexL a b else cmpI x y) < 0 ↔ x < y
    rw [if_neg fun e => hne (cmpI_z.1 e)]
    exact cmpI_lt
  | i + 1, x :: a, y :: b, ht, h1, h2, hne => by
    have ht' : x :: a.take i = y :: b.take i := ht
    injection ht' with e1 e2
    subst e1
    show (if cmpI x x = 0 then lexL a b else cmpI x x) < 0 ↔ a.getD i 0 < b.getD i 0
    rw [if_pos (cmpI_z.2 rfl)]
    exact lexL_at i a b e2 (by simpa using h1) (by simpa using h2) hne
theorem rbef_vc (v w : Va) (hw : v.1.length = w.1.length) (hl : v.1.length ≤ maxLen) (k : List Dat → Prop) (hk : k [⟨.bool, befB v w⟩]) : vcF ⟨Eg, [], [], [], []⟩ (anRBef v w) (Tryd.f46.body.getD .skip) Tryd.f46.ntmps [(.tmp 4, .bool)] [⟨tV, v⟩, ⟨tV, w⟩] k := by
  rw [vcRBef]
  have hml : maxLen ≤ 9223372036854775807 := by decide
  have ret : ∀ x : Bool, befB v w = x → k [⟨.bool, x⟩] := by rintro _ rfl; exact hk
  simp only [decide_eq_true_eq, decide_eq_false_iff_not, true_and, and_true, Int.toNat_natCast, inK_i64, Bool.not_eq_true', Bool.not_eq_false']
  refine ⟨⟨0, ⟨Nat.zero_le _, by simp⟩, rfl⟩, fun x ⟨hx, hs⟩ => ⟨fun hlt => ?_, fun hge => ret _ ?_⟩⟩
  · have hxl : x < v.1.length := by omega
    refine ⟨⟨by omega, by omega, by omega, by omega⟩, fun hc => ⟨⟨by omega, by omega, by omega, by omega⟩, ret _ ?_⟩, fun hc => ⟨by omega, x + 1, ⟨by omega, take_succ_eq hxl (by omega) hs _ hc⟩, by omega, by omega⟩⟩
    unfold befB
    have := lexL_at x v.1 w.1 hs hxl (by omega) hc
    by_cases h : v.1.getD x 0 < w.1.getD x 0
    · rw [decide_eq_true h, decide_eq_true (this.2 h)]
    · rw [decide_eq_false h, decide_eq_false fun e => h (this.1 e)]
  · have hxl : x = v.1.length := by omega
    rw [hxl, List.take_length, hw, List.take_length] at hs
    unfold befB
    rw [hs, lexL_zero.2 rfl]; rfl
theorem okRBef : PlainOk Tryd.prog [] 46 cRBef := by
  refine plain_of (CxOk.mk' Eg_ok (by kernel_rfl) mixed (gl := []) GOk.nil GoOk.nil noIt) Tryd.func46 (c := Tryd.f46.body.getD .skip) (rvs := [(.tmp 4, .bool)]) (by kernel_rfl) (by kernel_rfl) (by kernel_rfl) ?_
  intro ds k ⟨hp, hk⟩ hwf
  obtain ⟨v, w, rfl, hw, -⟩ := dest2 hp
  exact ⟨anRBef v w, rbef_vc v w hw (wf2 hwf).1.1.1 k hk⟩

theorem filtV_step (l : List Va) (p : Va → Bool) {x : Nat} (h : x < l.length) : (l.take (x + 1)).filter p = (l.take x).filter p ++ (if p (l.getD x va0) = true then [l.getD x va0] else []) := by
  rw [List.take_succ_eq_append_getElem h, List.filter_append, List.getD_eq_getElem?_getD, List.getElem?_eq_getElem h]
  simp only [Option.getD_some, List.filter_cons, List.filter_nil]
theorem filtV_len (l : List Va) (p : Va → Bool) (x : Nat) : ((l.take x).filter p).length ≤ l.length := Nat.le_trans (List.length_filter_le ..) (by rw [List.length_take]; omega)
theorem anyS_step {l : List Va} {v : Va} {x : Nat} (h : x < l.length) (h0 : anyS (l.take x) v = false) : anyS (l.take (x + 1)) v = sawB (l.getD x va0) v := by
  unfold anyS at h0 ⊢
  rw [List.take_succ_eq_append_getElem h, List.any_append, h0, List.getD_eq_getElem?_getD, List.getElem?_eq_getElem h]; simp
theorem anyS_of {l : List Va} {v : Va} {x : Nat} (h : x < l.length) (h1 : sawB (l.getD x va0) v = true) : anyS l v = true := List.any_eq_true.2 ⟨_, getD_memL h, h1⟩
theorem keep_vc (l : List Va) (v : Va) (hl : l.length ≤ 1000) (hs : ∀ u ∈ l, u.1.length = v.1.length) (k : List Dat → Prop) (hk : k [⟨.sl tV, keepF l v⟩]) :
    vcF ⟨Eg, [(45, cRSaw), (46, cRBef)], [], [], []⟩ (anKeep l v) (Tryd.f29.body.getD .skip) Tryd.f29.ntmps [(.tmp 4, .sl tV)] [⟨.sl tV, l⟩, ⟨tV, v⟩] k := by
  rw [vcKeep]
  have e1 : ∀ y : Va, (List.replicate 1 va0).set 0 y = [y] := fun _ => rfl
  have ea : ∀ (m n : List Va), List.append m n = m ++ n := fun _ _ => rfl
  have lo : ∀ u, (!sawB v u && befB u v) = loA v u := fun _ => rfl
  have hi : ∀ u, (!sawB v u && befB v u) = hiA v u := fun _ => rfl
  simp only [e1, ea, lo, hi, decide_eq_true_eq, decide_eq_false_iff_not, true_and, and_true, Int.toNat_natCast, inK_i64, Bool.not_eq_true', Bool.not_eq_false', implies_true]
  have hx' : ∀ x, x < l.length → (l.getD x va0).1.length = v.1.length := fun x hx => hs _ (getD_memL hx)
  have l1 := filtV_len l (loA v)
  have l2 := filtV_len l (hiA v)
  have l1' := l1 l.length
  rw [List.take_length] at l1'
  refine ⟨⟨0, ⟨Nat.zero_le _, rfl⟩, rfl⟩, fun x ⟨hx, hno⟩ => ⟨fun hlt => ?_, fun hge => ?_⟩⟩
  · have hxl : x < l.length := by omega
    have := hx' x hxl
    refine ⟨⟨by omega, hlt, by omega⟩, fun h => ?_, fun h => ⟨by omega, x + 1, ⟨by omega, by rw [anyS_step hxl hno]; exact h⟩, by omega, by omega⟩⟩
    unfold keepF at hk; rw [if_pos (anyS_of hxl h)] at hk; exact hk
  · have hxl : x = l.length := by omega
    rw [hxl, List.take_length] at hno
    unfold keepF at hk; rw [if_neg (by rw [hno]; decide)] at hk
    refine ⟨⟨0, ⟨Nat.zero_le _, hno⟩, rfl, rfl⟩, fun y ⟨hy, _⟩ => ⟨fun hly => ?_, fun hgy => ?_⟩⟩
    · have hyl : y < l.length := by omega
      have hyv := hx' y hyl
      have ll := l1 y
      refine ⟨⟨by omega, hly, by omega, fun _ => ⟨by omega, hly, hyv⟩⟩, fun h => ⟨by omega, hly, ?_, by omega, y + 1, ⟨by omega, hno⟩, by omega, by omega, ?_⟩, fun h => ⟨by omega, y + 1, ⟨by omega, hno⟩, by omega, by omega, ?_⟩⟩
      · simp only [List.length_cons, List.length_nil]; omega
      · rw [filtV_step _ _ hyl, if_pos h]
      · rw [filtV_step _ _ hyl, if_neg (by rw [h]; decide), List.append_nil]
    · have hyl : y = l.length := by omega
      subst hyl
      rw [List.take_length]
      refine ⟨?_, ⟨0, ⟨Nat.zero_le _, hno⟩, rfl, by simp⟩, fun z ⟨hz, _⟩ => ⟨fun hlz => ?_, fun hgz => ?_⟩⟩
      · simp only [List.length_cons, List.length_nil]; omega
      · have hzl : z < l.length := by omega
        have hzv := hx' z hzl
        have ll := l2 z
        refine ⟨⟨by omega, hlz, by omega, fun _ => ⟨by omega, hlz, hzv.symm⟩⟩, fun h => ⟨by omega, hlz, ?_, by omega, z + 1, ⟨by omega, hno⟩, by omega, by omega, ?_⟩, fun h => ⟨by omega, z + 1, ⟨by omega, hno⟩, by omega, by omega, ?_⟩⟩
        · simp only [List.length_append, List.length_cons, List.length_nil]; omega
        · rw [filtV_step _ _ hzl, if_pos h]; simp only [List.append_assoc]
        · rw [filtV_step _ _ hzl, if_neg (by rw [h]; decide), List.append_nil]
      · have hzl : z = l.length := by omega
        subst hzl
        rw [List.take_length]; exact hk
theorem okKeep : PlainOk Tryd.prog [] 29 cKeep := by
  refine plain_of (CxOk.mk' Eg_ok (by kernel_rfl) mixed (gl := []) (GOk.cons okRSaw Tryd.func45 (by kernel_rfl) (by kernel_rfl) (GOk.cons okRBef Tryd.func46 (by kernel_rfl) (by kernel_rfl) GOk.nil)) GoOk.nil noIt) Tryd.func29 (c := Tryd.f29.body.getD .skip) (rvs := [(.tmp 4, .sl tV)]) (by kernel_rfl) (by kernel_rfl) (by kernel_rfl) ?_
  intro ds k ⟨hp, hk⟩ hwf
  obtain ⟨l, v, rfl, ⟨h1, h2⟩, -⟩ := dest2 hp
  exact ⟨anKeep l v, keep_vc l v h1 h2 k hk⟩
theorem okRow : PlainOk Tryd.prog [] 28 cRow := by
  refine plain_of (CxOk.mk' Eg_ok (by kernel_rfl) mixed (gl := []) GOk.nil GoOk.nil noIt) Tryd.func28 (c := Tryd.f28.body.getD .skip) (rvs := [(.tmp 6, .sl (.sl tV))]) (by kernel_rfl) (by kernel_rfl) (by kernel_rfl) ?_
  intro ds k ⟨hp, hk⟩ hwf
  obtain ⟨l, i, x, rfl, ⟨⟨h0, h1⟩, h2⟩, -⟩ := dest3 hp
  refine ⟨[joinAll], ?_⟩
  rw [vcRow]
  have e1 : ∀ y : List Va, (List.replicate 1 ([] : List Va)).set 0 y = [y] := fun _ => rfl
  have ea : ∀ (m n : List (List Va)), List.append m n = m ++ n := fun _ _ => rfl
  have i0 : Int.toNat 0 = 0 := rfl
  have i1 : (i + 1).toNat = i.toNat + 1 := by omega
  have hl : ((l.length : Nat) : Int).toNat = l.length := by omega
  simp only [e1, ea, i0, i1, hl, inK_i64, List.drop_zero, List.take_length, List.length_append, List.length_take, List.length_drop, List.length_cons, List.length_nil]
  exact ⟨Int.le_refl _, h0, by omega, by omega, by omega, by omega, by omega, by omega, by omega, by omega, hk⟩
end Go.Proofs.YthdbbgajmgjfcaaDoor

/- Nets: the reference's writing and telling keep their contracts. -/
namespace Go.Proofs.YthdbbgajmgjfcaaDoor
open Go.Vc Go.Proofs

theorem seenU_len (t : RN) (p q : Int) (i : Nat) : (seenU t p q i).length = i := by unfold seenU; rw [List.length_map, List.length_range]
theorem seenU_succ (t : RN) (p q : Int) (i : Nat) : seenU t p q (i + 1) = seenU t p q i ++ [if (i : Int) = p then (rUp t p).getD p.toNat 0 else mxF (rAt t p q) i (rAt t p q).length] := by
  unfold seenU; rw [List.range_succ, List.map_append]; rfl
theorem mxF_succ (l : List Va) (i k : Nat) : mxF l i (k + 1) = if mxF l i k < (l.getD k va0).1.getD i 0 then (l.getD k va0).1.getD i 0 else mxF l i k := rfl
theorem inB_iff {n a b : Int} : inB n a b = true ↔ a ≤ n ∧ n ≤ b := by unfold inB; rw [Bool.and_eq_true, decide_eq_true_eq, decide_eq_true_eq]
theorem rwrite_vc (t : RN) (p q v : Int) (S : RSh t) (k : List Dat → Prop) (hk : k [⟨tRN, rWriteT t p q v⟩, ⟨I, rWriteE t p q v⟩]) :
    vcF ⟨Eh [], [(27, cWithin), (28, cRow)], [], [], []⟩ (anRWrite t p q v) (Tryd.f15.body.getD .skip) Tryd.f15.ntmps [(.cell 8 32, tRN), (.tmp 9, I)] [⟨tRN, t⟩, ⟨I, p⟩, ⟨I, q⟩, ⟨I, v⟩] k := by
  rw [vcRWrite]
  have eU : List.set t.2.2.1 p.toNat (List.getD t.2.2.1 p.toNat 0 + 1) = rUp t p := rfl
  have eA : List.getD t.2.1 (p * 4 + q).toNat [] = rAt t p q := rfl
  have e1 : ∀ y : Va, (List.replicate 1 va0).set 0 y = [y] := fun _ => rfl
  have e2 : ∀ y : Int, (List.replicate 1 (0 : Int)).set 0 y = [y] := fun _ => rfl
  have ea : ∀ (m n : List Int), List.append m n = m ++ n := fun _ _ => rfl
  have hul : (rUp t p).length = t.2.2.1.length := by unfold rUp; rw [List.length_set]
  have h1 := S.lo
  have h5 := S.hi
  have hh := S.has
  have hw := S.wr
  have hal : (rAt t p q).length ≤ 1000 := S.len _
  have has : ∀ x, x < (rAt t p q).length → (((rAt t p q).getD x va0).1.length : Int) = t.1 := fun x hx => S.seen _ _ (getD_memL hx)
  simp only [eU, eA, e1, e2, ea, hul, seenU_len, decide_eq_true_eq, decide_eq_false_iff_not, true_and, and_true, Int.toNat_natCast, inK_i64, Bool.not_eq_true', Bool.not_eq_false']
  have ret : ∀ e : Int, e ≠ 0 → rWriteE t p q v = e → k [⟨tRN, t⟩, ⟨I, e⟩] := by
    intro e he h
    unfold rWriteT at hk; rw [if_neg (by rw [h]; exact he), h] at hk; exact hk
  refine ⟨by omega, fun h => ret 1 (by decide) (by unfold rWriteE; rw [h]; rfl), fun hp => ⟨fun h => ret 1 (by decide) (by unfold rWriteE; rw [h, Bool.false_and, Bool.and_false]; rfl), fun hq => ⟨fun h => ret 1 (by decide) (by unfold rWriteE; rw [h, Bool.and_false, Bool.and_false]; rfl), fun hv => ?_⟩⟩⟩
  obtain ⟨p0, p1⟩ := inB_iff.1 hp
  obtain ⟨q0, q1⟩ := inB_iff.1 hq
  have hE : rWriteE t p q v = if 60 ≤ t.2.2.1.getD p.toNat 0 then 4 else 0 := by unfold rWriteE; rw [hp, hq, hv]; rfl
  have hc := S.cnt p.toNat (by omega)
  refine ⟨p0, by omega, fun h => ret 4 (by decide) (by rw [hE, if_pos h]), fun h60 => ?_⟩
  have h0 : rWriteE t p q v = 0 := by rw [hE, if_neg h60]
  unfold rWriteT at hk; rw [if_pos h0, h0] at hk
  refine ⟨by omega, p0, by omega, by omega, p0, by omega, ⟨0, ⟨Nat.zero_le _, h0⟩, rfl, rfl, rfl⟩, fun x ⟨hx, _⟩ => ⟨fun hlt => ?_, fun hge => ?_⟩⟩
  · refine ⟨by omega, by omega, by omega, by omega, ⟨0, ⟨Nat.zero_le _, h0⟩, rfl, rfl⟩, fun y ⟨hy, _⟩ => ⟨fun hly => ?_, fun hgy => ?_⟩⟩
    · have hyl : y < (rAt t p q).length := by omega
      have hys := has y hyl
      refine ⟨by omega, hly, by omega, by omega, fun hm => ⟨by omega, hly, by omega, by omega, by omega, y + 1, ⟨by omega, h0⟩, by omega, by rw [mxF_succ, if_pos hm], by omega⟩, fun hm => ⟨by omega, y + 1, ⟨by omega, h0⟩, by omega, by rw [mxF_succ, if_neg hm], by omega⟩⟩
    · have hyl : y = (rAt t p q).length := by omega
      subst hyl
      refine ⟨fun hxp => ⟨p0, by omega, ?_, by omega, x + 1, ⟨by omega, h0⟩, by omega, by omega, by rw [seenU_succ, if_pos hxp]⟩, fun hxp => ⟨?_, by omega, x + 1, ⟨by omega, h0⟩, by omega, by omega, by rw [seenU_succ, if_neg hxp]⟩⟩ <;> simp only [List.length_cons, List.length_nil] <;> omega
  · have hxl : x = t.1.toNat := by omega
    rw [hxl]
    exact ⟨by omega, by omega, ⟨⟨by omega, by omega⟩, by omega⟩, hk⟩
theorem okRWrite : PlainOk Tryd.prog [] 15 cRWrite := by
  refine plain_of (CxOk.mk' (Eh_ok []) (by kernel_rfl) mixed (gl := []) (GOk.cons okRIn5 Tryd.func27 (by kernel_rfl) (by kernel_rfl) (GOk.cons okRow Tryd.func28 (by kernel_rfl) (by kernel_rfl) GOk.nil)) GoOk.nil noIt) Tryd.func15 (c := Tryd.f15.body.getD .skip) (rvs := [(.cell 8 32, tRN), (.tmp 9, I)]) (by kernel_rfl) (by kernel_rfl) (by kernel_rfl) ?_
  intro ds k ⟨hp, hk⟩ hwf
  obtain ⟨t, p, q, v, rfl, S, -⟩ := dest4 hp
  exact ⟨anRWrite t p q v, rwrite_vc t p q v S k hk⟩

/-! Telling. -/
theorem setR_eq {l : List (List Va)} {i : Int} (h0 : 0 ≤ i) (h : i < (l.length : Int)) (x : List Va) : setR l i x = l.set i.toNat x := by
  unfold setR; rw [List.set_eq_take_append_cons_drop, if_pos (by omega)]; simp
theorem rSyncU_has {t : RN} {a b : Int} (h0 : 0 ≤ b) (hb : b * 4 + 3 < (t.2.1.length : Int)) : ∀ k, k ≤ 4 → (rSyncU t a b k).2.1.length = t.2.1.length
  | 0, _ => rfl
  | k + 1, hk => by
    have ih := rSyncU_has (t := t) (a := a) (b := b) h0 hb k (by omega)
    show (setR _ _ _).length = _
    rw [setR_eq (by omega) (by rw [ih]; omega), List.length_set, ih]
theorem rSyncU_1 (t : RN) (a b : Int) : ∀ k, (rSyncU t a b k).1 = t.1
  | 0 => rfl
  | _ + 1 => rfl
theorem rSyncU_3 (t : RN) (a b : Int) : ∀ k, (rSyncU t a b k).2.2.1 = t.2.2.1
  | 0 => rfl
  | _ + 1 => rfl
theorem rAt_sync {t : RN} {a b : Int} (h0 : 0 ≤ b) (hb : b * 4 + 3 < (t.2.1.length : Int)) : ∀ k, k ≤ 4 → ∀ (i j : Nat), j < 4 → rAt (rSyncU t a b k) (i : Int) (j : Int) = if (i : Int) = b ∧ j < k then keepU (rAt (rSyncU t a b j) b (j : Int)) (rAt (rSyncU t a b j) a (j : Int)) (rAt (rSyncU t a b j) a (j : Int)).length else rAt t (i : Int) (j : Int)
  | 0, _, i, j, _ => by rw [if_neg (by omega)]; rfl
  | k + 1, hk, i, j, hj => by
    have ih := rAt_sync (t := t) (a := a) (b := b) h0 hb k (by omega) i j hj
    have hl := rSyncU_has (t := t) (a := a) (b := b) h0 hb k (by omega)
    have e : rAt (rSyncU t a b (k + 1)) (i : Int) (j : Int) = (setR (rSyncU t a b k).2.1 (b * 4 + (k : Int)) (keepU (rAt (rSyncU t a b k) b (k : Int)) (rAt (rSyncU t a b k) a (k : Int)) (rAt (rSyncU t a b k) a (k : Int)).length)).getD ((i : Int) * 4 + (j : Int)).toNat [] := rfl
    rw [e, setR_eq (by omega) (by rw [hl]; omega), getD_setL _ _ _ _ _ (by rw [hl]; omega)]
    by_cases hc : (i : Int) = b ∧ j = k
    · obtain ⟨h1, h2⟩ := hc
      subst h2
      rw [if_pos (by omega), if_pos (by omega)]
    · rw [if_neg (by omega)]
      show rAt (rSyncU t a b k) (i : Int) (j : Int) = _
      rw [ih]
      by_cases hd : (i : Int) = b ∧ j < k
      · rw [if_pos hd, if_pos (by omega)]
      · rw [if_neg hd, if_neg (by omega)]
theorem keepU_succ (l m : List Va) (i : Nat) : keepU l m (i + 1) = keepF (keepU l m i) (m.getD i va0) := rfl
theorem rsync_vc (t : RN) (a b : Int) (S : RSh t) (hY : rSyncE t a b = 0 → SyOk t a b) (k : List Dat → Prop) (hk : k [⟨tRN, rSyncT t a b⟩, ⟨I, rSyncE t a b⟩]) :
    vcF ⟨Eh [], [(27, cWithin), (28, cRow), (29, cKeep)], [], [], []⟩ (anRSync t a b) (Tryd.f16.body.getD .skip) Tryd.f16.ntmps [(.cell 6 32, tRN), (.tmp 7, I)] [⟨tRN, t⟩, ⟨I, a⟩, ⟨I, b⟩] k := by
  rw [vcRSync]
  have h1 := S.lo
  have h5 := S.hi
  have hh := S.has
  have hw := S.wr
  have eA : ∀ (x : RN) (p : Int) (y : Nat), List.getD x.2.1 (p * 4 + (y : Int)).toNat [] = rAt x p (y : Int) := fun _ _ _ => rfl
  simp only [eA, decide_eq_true_eq, decide_eq_false_iff_not, true_and, and_true, Int.toNat_natCast, inK_i64, Bool.not_eq_true', Bool.not_eq_false']
  have ret : ∀ e : Int, e ≠ 0 → rSyncE t a b = e → k [⟨tRN, t⟩, ⟨I, e⟩] := by
    intro e he h
    unfold rSyncT at hk; rw [if_neg (by rw [h]; exact he), h] at hk; exact hk
  refine ⟨by omega, fun h => ret 1 (by decide) (by unfold rSyncE; rw [h]; rfl), fun ha => ⟨by omega, fun h => ret 1 (by decide) (by unfold rSyncE; rw [h, Bool.and_false]; rfl), fun hb => ⟨fun h => ret 6 (by decide) (by unfold rSyncE; rw [ha, hb, Bool.and_true, if_pos rfl, if_pos h]), fun hab => ?_⟩⟩⟩
  have h0 : rSyncE t a b = 0 := by unfold rSyncE; rw [ha, hb, Bool.and_true, if_pos rfl, if_neg hab]
  obtain ⟨a0, a1⟩ := inB_iff.1 ha
  obtain ⟨b0, b1⟩ := inB_iff.1 hb
  have hY := hY h0
  unfold rSyncT at hk; rw [if_pos h0, h0] at hk
  refine ⟨⟨0, ⟨by omega, h0⟩, rfl, rfl, rfl⟩, fun x ⟨hx, _⟩ => ⟨fun hlt => ?_, fun hge => ?_⟩⟩
  · have hx4 : x < 4 := by omega
    have hl := rSyncU_has (t := t) (a := a) (b := b) b0 (by omega) x (by omega)
    have hra : rAt (rSyncU t a b x) a (x : Int) = rAt t a (x : Int) := by
      have := rAt_sync (t := t) (a := a) (b := b) b0 (by omega) x (by omega) a.toNat x hx4
      rw [if_neg (by omega)] at this
      rwa [show ((a.toNat : Nat) : Int) = a by omega] at this
    have hal : (rAt (rSyncU t a b x) a (x : Int)).length ≤ 1000 := by rw [hra]; exact S.len _
    refine ⟨by omega, by omega, by omega, by omega, ⟨0, ⟨Nat.zero_le _, h0⟩, rfl, rfl⟩, fun y ⟨hy, _⟩ => ⟨by omega, by omega, by omega, by omega, fun hly => ?_, fun hgy => ?_⟩⟩
    · have hyl : y < (rAt (rSyncU t a b x) a (x : Int)).length := by omega
      obtain ⟨y1, y2⟩ := hY x hx4 y hy
      have hms : (((rAt (rSyncU t a b x) a (x : Int)).getD y va0).1.length : Int) = t.1 := by
        have hm := getD_memL (d := va0) hyl
        generalize (rAt (rSyncU t a b x) a (x : Int)).getD y va0 = u at hm ⊢
        rw [hra] at hm
        exact S.seen _ _ hm
      exact ⟨by omega, by omega, by omega, by omega, by omega, hly, ⟨y1, fun u hu => by have := y2 u hu; omega⟩, by omega, y + 1, ⟨by omega, h0⟩, by omega, by rw [keepU_succ], by omega⟩
    · have hyl : y = (rAt (rSyncU t a b x) a (x : Int)).length := by omega
      refine ⟨by omega, by omega, ⟨⟨by omega, by omega⟩, by omega⟩, by omega, x + 1, ⟨by omega, h0⟩, by omega, by omega, ?_⟩
      rw [hyl]
      show ((rSyncU t a b x).1, setR (rSyncU t a b x).2.1 (b * 4 + (x : Int)) _, (rSyncU t a b x).2.2.1, ()) = (t.1, setR (rSyncU t a b x).2.1 (b * 4 + (x : Int)) _, t.2.2.1, ())
      rw [rSyncU_1, rSyncU_3]
  · have hxl : x = 4 := by omega
    subst hxl
    exact hk
theorem okRSync : PlainOk Tryd.prog [] 16 cRSync := by
  refine plain_of (CxOk.mk' (Eh_ok []) (by kernel_rfl) mixed (gl := []) (GOk.cons okRIn5 Tryd.func27 (by kernel_rfl) (by kernel_rfl) (GOk.cons okRow Tryd.func28 (by kernel_rfl) (by kernel_rfl) (GOk.cons okKeep Tryd.func29 (by kernel_rfl) (by kernel_rfl) GOk.nil))) GoOk.nil noIt) Tryd.func16 (c := Tryd.f16.body.getD .skip) (rvs := [(.cell 6 32, tRN), (.tmp 7, I)]) (by kernel_rfl) (by kernel_rfl) (by kernel_rfl) ?_
  intro ds k ⟨hp, hk⟩ hwf
  obtain ⟨t, a, b, rfl, ⟨S, hY⟩, -⟩ := dest3 hp
  exact ⟨anRSync t a b, rsync_vc t a b S hY k hk⟩
end Go.Proofs.YthdbbgajmgjfcaaDoor

/- Nets: the reference's net is the program's. -/
namespace Go.Proofs.YthdbbgajmgjfcaaDoor
open Go.Vc

/-! Keeping one value among others. -/
theorem keep_mem {n : Nat} {l : List Va} {v : Va} (hn : ∀ u ∈ l ++ [v], u.1.length = n) (hF : ∀ u ∈ l ++ [v], ∀ w ∈ l ++ [v], u.1 = w.1 → u = w) (hs : SV' l) (ha : ∀ u ∈ l, ∀ w ∈ l, sawB u w = true → u = w) :
    SV' (keepF l v) ∧ ∀ x, x ∈ keepF l v ↔ x ∈ l ++ [v] ∧ ∀ w ∈ l ++ [v], sawB w x = true → w = x := by
  have hv : v ∈ l ++ [v] := List.mem_append_right _ (List.mem_singleton.2 rfl)
  have hl : ∀ {u}, u ∈ l → u ∈ l ++ [v] := fun h => List.mem_append_left _ h
  have tr : ∀ {a b c : Va}, a ∈ l ++ [v] → b ∈ l ++ [v] → sawB a b = true → sawB b c = true → sawB a c = true := fun h1 h2 => saw_trans (by rw [hn _ h1, hn _ h2]; exact Nat.le_refl _)
  have an : ∀ {a b : Va}, a ∈ l ++ [v] → b ∈ l ++ [v] → sawB a b = true → sawB b a = true → a = b := fun h1 h2 h3 h4 => hF _ h1 _ h2 (saw_anti (by rw [hn _ h1, hn _ h2]) h3 h4)
  unfold keepF
  cases hq : anyS l v with
  | true =>
    rw [if_pos rfl]
    obtain ⟨u, hu, huv⟩ := List.any_eq_true.1 hq
    refine ⟨hs, fun x => ⟨fun hx => ⟨hl hx, fun w hw hwx => ?_⟩, fun ⟨hx, hm⟩ => ?_⟩⟩
    · rcases List.mem_append.1 hw with h | h
      · exact ha w h x hx hwx
      · rw [List.mem_singleton] at h; subst h
        have e := ha u hu x hx (tr (hl hu) hw huv hwx)
        subst e
        exact an hw (hl hu) hwx huv
    · rcases List.mem_append.1 hx with h | h
      · exact h
      · rw [List.mem_singleton] at h; subst h
        have := hm u (hl hu) huv
        rw [← this]; exact hu
  | false =>
    rw [if_neg (by decide)]
    have hno : ∀ u ∈ l, sawB u v = false := fun u hu => by
      cases h : sawB u v with
      | false => rfl
      | true =>
        have : anyS l v = true := List.any_eq_true.2 ⟨u, hu, h⟩
        rw [hq] at this; cases this
    have hlo : ∀ u, u ∈ l.filter (loA v) ↔ u ∈ l ∧ sawB v u = false ∧ lexL u.1 v.1 < 0 := fun u => by
      rw [List.mem_filter]; unfold loA befB
      rw [Bool.and_eq_true, Bool.not_eq_true', decide_eq_true_eq]
    have hhi : ∀ u, u ∈ l.filter (hiA v) ↔ u ∈ l ∧ sawB v u = false ∧ lexL v.1 u.1 < 0 := fun u => by
      rw [List.mem_filter]; unfold hiA befB
      rw [Bool.and_eq_true, Bool.not_eq_true', decide_eq_true_eq]
    refine ⟨?_, fun x => ⟨fun hx => ?_, fun ⟨hx, hm⟩ => ?_⟩⟩
    · refine List.pairwise_append.2 ⟨List.pairwise_append.2 ⟨hs.sublist List.filter_sublist, List.pairwise_singleton .., fun a ha b hb => ?_⟩, hs.sublist List.filter_sublist, fun a ha b hb => ?_⟩
      · rw [List.mem_singleton] at hb; subst hb
        exact ((hlo a).1 ha).2.2
      · have hb' := ((hhi b).1 hb).2.2
        rcases List.mem_append.1 ha with h | h
        · exact lexL_trans ((hlo a).1 h).2.2 hb'
        · rw [List.mem_singleton] at h; subst h; exact hb'
    · have key : ∀ y, y ∈ l → sawB v y = false → y ∈ l ++ [v] ∧ ∀ w ∈ l ++ [v], sawB w y = true → w = y := fun y hy hvy => ⟨hl hy, fun w hw hwy => by
        rcases List.mem_append.1 hw with h | h
        · exact ha w h y hy hwy
        · rw [List.mem_singleton] at h; subst h; rw [hvy] at hwy; cases hwy⟩
      rcases List.mem_append.1 hx with h | h
      · rcases List.mem_append.1 h with h | h
        · exact key x ((hlo x).1 h).1 ((hlo x).1 h).2.1
        · rw [List.mem_singleton] at h; subst h
          refine ⟨hv, fun w hw hwx => ?_⟩
          rcases List.mem_append.1 hw with h | h
          · rw [hno w h] at hwx; cases hwx
          · exact List.mem_singleton.1 h
      · exact key x ((hhi x).1 h).1 ((hhi x).1 h).2.1
    · rcases List.mem_append.1 hx with h | h
      · have hvx : sawB v x = false := by
          cases hc : sawB v x with
          | false => rfl
          | true =>
            have e := hm v hv hc
            have := hno x h
            rw [← e, saw_refl] at this; cases this
        have hne : lexL x.1 v.1 ≠ 0 := fun e => by
          have e2 := hF x hx v hv (lexL_zero.1 e)
          have := hno x h
          rw [e2, saw_refl] at this; cases this
        have hneg := lexL_neg x.1 v.1
        by_cases hc : lexL x.1 v.1 < 0
        · exact List.mem_append_left _ (List.mem_append_left _ ((hlo x).2 ⟨h, hvx, hc⟩))
        · exact List.mem_append_right _ ((hhi x).2 ⟨h, hvx, by omega⟩)
      · exact List.mem_append_left _ (List.mem_append_right _ h)
theorem keepF_mrg {n : Nat} {S : List Va} {v : Va} (hn : ∀ u ∈ S ++ [v], u.1.length = n) (hF : ∀ u ∈ S ++ [v], ∀ w ∈ S ++ [v], u.1 = w.1 → u = w) : keepF (mrgV S) v = mrgV (S ++ [v]) := by
  have hS : ∀ {u}, u ∈ S → u ∈ S ++ [v] := fun h => List.mem_append_left _ h
  have hv : v ∈ S ++ [v] := List.mem_append_right _ (List.mem_singleton.2 rfl)
  have hn1 : ∀ u ∈ S, u.1.length = n := fun u h => hn u (hS h)
  have hF1 : ∀ u ∈ S, ∀ w ∈ S, u.1 = w.1 → u = w := fun u h w h' => hF u (hS h) w (hS h')
  have hK : ∀ x, x ∈ mrgV S ↔ _ := fun x => mem_mrgV (v := x) hn1 hF1
  have hKS : ∀ {x}, x ∈ mrgV S ++ [v] → x ∈ S ++ [v] := fun h => (List.mem_append.1 h).elim (fun h => hS ((hK _).1 h).1) fun h => List.mem_append_right _ h
  obtain ⟨h1, h2⟩ := keep_mem (n := n) (l := mrgV S) (v := v) (fun u h => hn u (hKS h)) (fun u h w h' => hF u (hKS h) w (hKS h')) (ss_mrgV S) (fun u hu w hw hs => ((hK w).1 hw).2 u ((hK u).1 hu).1 hs)
  refine SV'.ext h1 (ss_mrgV _) fun x => ?_
  rw [h2, mem_mrgV hn hF]
  constructor
  · rintro ⟨hx, hm⟩
    refine ⟨hKS hx, fun w hw hwx => ?_⟩
    rcases List.mem_append.1 hw with h | h
    · obtain ⟨u, hu, huw⟩ := dom_mrg hn1 hF1 h
      have hus := ((hK u).1 hu).1
      have e := hm u (List.mem_append_left _ hu) (saw_trans (by rw [hn1 u hus, hn w hw]; exact Nat.le_refl _) huw hwx)
      subst e
      exact hF w hw u (hS hus) (saw_anti (by rw [hn w hw, hn1 u hus]) hwx huw)
    · exact hm w (List.mem_append_right _ h) hwx
  · rintro ⟨hx, hm⟩
    refine ⟨?_, fun w hw => hm w (hKS hw)⟩
    rcases List.mem_append.1 hx with h | h
    · exact List.mem_append_left _ ((hK x).2 ⟨h, fun w hw => hm w (hS hw)⟩)
    · exact List.mem_append_right _ h
theorem keepU_eq {n : Nat} {l m : List Va} (hn : ∀ u ∈ l ++ m, u.1.length = n) (hF : ∀ u ∈ l ++ m, ∀ w ∈ l ++ m, u.1 = w.1 → u = w) (hs : SV' l) (ha : ∀ u ∈ l, ∀ w ∈ l, sawB u w = true → u = w) : ∀ i, i ≤ m.length → keepU l m i = mrgV (l ++ m.take i)
  | 0, _ => by
    show l = _
    rw [List.take_zero, List.append_nil]
    have hl : ∀ {u}, u ∈ l → u ∈ l ++ m := fun h => List.mem_append_left _ h
    exact SV'.ext hs (ss_mrgV _) fun x => by
      rw [mem_mrgV (n := n) (fun u h => hn u (hl h)) (fun u h w h' => hF u (hl h) w (hl h'))]
      exact ⟨fun h => ⟨h, fun w hw hwx => ha w hw x h hwx⟩, fun h => h.1⟩
  | i + 1, hi => by
    have hsub : ∀ {u}, u ∈ l ++ m.take i ++ [m[i]] → u ∈ l ++ m := fun h => by
      rcases List.mem_append.1 h with h | h
      · rcases List.mem_append.1 h with h | h
        · exact List.mem_append_left _ h
        · exact List.mem_append_right _ (List.mem_of_mem_take h)
      · rw [List.mem_singleton] at h; subst h
        exact List.mem_append_right _ (List.getElem_mem _)
    rw [keepU_succ, keepU_eq hn hF hs ha i (by omega), List.getD_eq_getElem?_getD, List.getElem?_eq_getElem (show i < m.length by omega), Option.getD_some,
      keepF_mrg (n := n) (fun u h => hn u (hsub h)) (fun u h w h' => hF u (hsub h) w (hsub h')), List.take_succ_eq_append_getElem (show i < m.length by omega), List.append_assoc]

theorem list_ext1 {l m : List Int} (h : l.length = m.length) (he : ∀ j, j < l.length → l.getD j 0 = m.getD j 0) : l = m :=
  List.ext_getElem h fun i h1 h2 => by
    have := he i h1
    rw [List.getD_eq_getElem?_getD, List.getD_eq_getElem?_getD, List.getElem?_eq_getElem h1, List.getElem?_eq_getElem h2] at this
    simpa using this
/-! The two nets. -/
structure Rel (n : Nat) (t : Net) (x : RN) : Prop where
  n1 : x.1 = (n : Int)
  wr : x.2.2.1 = t.2.1
  hl : x.2.1.length = n * 4
  at' : ∀ i k : Nat, i < n → k < 4 → rAt x (i : Int) (k : Int) = vAt t i k
section
variable {n : Nat} {W : Nat → Int → Prop} {H : Nat → Nat → Va → Prop} {t : Net} {x : RN}
theorem Rel.sh (I : NInv n W H t) (R : Rel n t x) : RSh x := by
  have h1 := I.lo
  have h5 := I.hi
  have hat : ∀ i, i < n * 4 → x.2.1.getD i [] = vAt t (i / 4) (i % 4) := fun i hi => by
    rw [← R.at' (i / 4) (i % 4) (by omega) (by omega)]
    show _ = x.2.1.getD (((i / 4 : Nat) : Int) * 4 + ((i % 4 : Nat) : Int)).toNat []
    rw [show (((i / 4 : Nat) : Int) * 4 + ((i % 4 : Nat) : Int)).toNat = i by omega]
  have hout : ∀ i, ¬ i < n * 4 → x.2.1.getD i [] = [] := fun i hi => by
    rw [List.getD_eq_getElem?_getD, List.getElem?_eq_none (by rw [R.hl]; omega)]; rfl
  exact {
    lo := by rw [R.n1]; omega
    hi := by rw [R.n1]; omega
    has := by rw [R.hl, R.n1]; omega
    wr := by rw [R.wr, R.n1, I.wr]
    len := fun i => by
      by_cases h : i < n * 4
      · rw [hat i h]; have := I.few (i / 4) (i % 4); omega
      · rw [hout i h]; exact Nat.zero_le _
    seen := fun i v hv => by
      by_cases h : i < n * 4
      · rw [hat i h] at hv; rw [I.ln hv, R.n1]
      · rw [hout i h] at hv; cases hv
    cnt := by rw [R.wr, I.wr]; exact I.cnt }
theorem Rel.init (n : Nat) : Rel n (newF n) (((n : Int), List.replicate ((n : Int) * 4).toNat [], List.replicate ((n : Int)).toNat 0, ()) : RN) := by
  refine ⟨rfl, by show List.replicate (n : Int).toNat 0 = List.replicate n 0; rw [Int.toNat_natCast], by show (List.replicate _ _).length = _; rw [List.length_replicate]; omega, fun i k hi hk => ?_⟩
  have e1 : rAt (((n : Int), List.replicate ((n : Int) * 4).toNat [], List.replicate ((n : Int)).toNat 0, ()) : RN) (i : Int) (k : Int) = [] := by
    show (List.replicate _ ([] : List Va)).getD _ [] = []
    rcases getD_memD (l := List.replicate ((n : Int) * 4).toNat ([] : List Va)) (i := ((i : Int) * 4 + (k : Int)).toNat) (d := []) with h | ⟨h, -⟩
    · exact (List.mem_replicate.1 h).2
    · exact h
  have e2 : vAt (newF n) i k = [] := by
    have hrow : (List.replicate n (List.replicate 4 ([] : List Va))).getD i (List.replicate 4 []) = List.replicate 4 [] := by
      rcases getD_memD (l := List.replicate n (List.replicate 4 ([] : List Va))) (i := i) (d := List.replicate 4 []) with h | ⟨h, -⟩
      · exact (List.mem_replicate.1 h).2
      · exact h
    unfold vAt newF
    rw [hrow]
    rcases getD_memD (l := (List.replicate 4 [] : List (List Va))) (i := k) (d := ([] : List Va)) with h2 | ⟨h2, -⟩
    · exact (List.mem_replicate.1 h2).2
    · exact h2
  rw [e1, e2]
theorem mxF_acc {vals : List Va} (hn : ∀ v ∈ vals, v.1.length = n) {q : Nat} (hq : q < n) : ∀ k, k ≤ vals.length → mxF vals q k = (accU vals n k).getD q 0
  | 0, _ => by
    unfold accU
    rw [List.getD_eq_getElem?_getD, List.getElem?_replicate, if_pos hq]; rfl
  | k + 1, hk => by
    rw [mxF_succ, accU_succ hn hq (by omega), mxF_acc hn hq k (by omega)]
    split <;> omega
theorem Rel.writeE (I : NInv n W H t) (R : Rel n t x) (p q v : Int) : rWriteE x p q v = Go.Proofs.YthdbbgajmgjfcaaDoor.writeE t p q v := by
  unfold rWriteE Go.Proofs.YthdbbgajmgjfcaaDoor.writeE inNet
  rw [R.n1, I.len, R.wr, Bool.and_assoc]
  by_cases hc : (inB p 0 ((n : Int) - 1) && (inB q 0 3 && inB v 0 1000000)) = true
  · rw [if_pos hc, if_pos hc]
    rw [Bool.and_eq_true] at hc
    have hp := inB_iff.1 hc.1
    have := I.cnt p.toNat (by omega)
    by_cases h : t.2.1.getD p.toNat 0 = 60
    · rw [if_pos h, if_pos (by omega)]
    · rw [if_neg h, if_neg (by omega)]
  · rw [if_neg hc, if_neg hc]
theorem Rel.write (I : NInv n W H t) (R : Rel n t x) (p q v : Int) : Rel n (writeT t p q v) (rWriteT x p q v) := by
  have hE := Rel.writeE I R p q v
  unfold writeT rWriteT
  by_cases hne : ¬ Go.Proofs.YthdbbgajmgjfcaaDoor.writeE t p q v = 0
  · rw [if_neg hne, if_neg (by rw [hE]; exact hne)]; exact R
  have h0 := Decidable.of_not_not hne
  rw [if_pos h0, if_pos (by rw [hE]; exact h0)]
  have hin : inNet t p q = true := by
    unfold Go.Proofs.YthdbbgajmgjfcaaDoor.writeE at h0
    split at h0
    · rename_i hb; rw [Bool.and_eq_true] at hb; exact hb.1
    · cases h0
  obtain ⟨⟨p0, p1⟩, q0, q1⟩ := inNet_iff.1 hin
  rw [I.len] at p1
  have hpl : p.toNat < t.1.length := by rw [I.len]; omega
  have hrow : (t.1.getD p.toNat (List.replicate 4 [])).length = 4 := I.row _ (getD_memL hpl)
  have hra : rAt x p q = vAt t p.toNat q.toNat := by
    have := R.at' p.toNat q.toNat (by omega) (by omega)
    rwa [show ((p.toNat : Nat) : Int) = p by omega, show ((q.toNat : Nat) : Int) = q by omega] at this
  have hup : rUp x p = upW t p := by unfold rUp upW; rw [R.wr]
  have hseen : seenU x p q x.1.toNat = (newV t p q v).1 := by
    have hn : x.1.toNat = n := by rw [R.n1]; omega
    rw [hn]
    have hvals : valsAt t p q = vAt t p.toNat q.toNat := rfl
    have hnl : (newV t p q v).1.length = n := by
      show (List.set _ _ _).length = n
      rw [List.length_set, accU_len, I.len]
    refine list_ext1 (by rw [seenU_len, hnl]) fun j hj => ?_
    rw [seenU_len] at hj
    have e : (newV t p q v).1.getD j 0 = if j = p.toNat then (upW t p).getD p.toNat 0 else (accU (vAt t p.toNat q.toNat) n (vAt t p.toNat q.toNat).length).getD j 0 := by
      show (List.set _ _ _).getD j 0 = _
      rw [getD_setL _ _ _ _ _ (by rw [accU_len, I.len]; omega), hvals, I.len]
    rw [e]
    unfold seenU
    rw [List.getD_eq_getElem?_getD, List.getElem?_map, List.getElem?_range hj]
    show (if (j : Int) = p then _ else _) = _
    by_cases hjp : (j : Int) = p
    · rw [if_pos hjp, if_pos (by omega), hup]
    · rw [if_neg hjp, if_neg (by omega), hra, mxF_acc (fun w h => I.ln h) hj _ (Nat.le_refl _)]
  refine ⟨R.n1, hup, ?_, fun i k hi hk => ?_⟩
  · show (setR _ _ _).length = _
    rw [setR_eq (by omega) (by rw [R.hl]; omega), List.length_set, R.hl]
  · rw [vAt_set hpl (by rw [hrow]; omega)]
    show (setR x.2.1 (p * 4 + q) [(seenU x p q x.1.toNat, v, ())]).getD ((i : Int) * 4 + (k : Int)).toNat [] = _
    rw [setR_eq (by omega) (by rw [R.hl]; omega), getD_setL _ _ _ _ _ (by rw [R.hl]; omega), hseen]
    by_cases hc : i = p.toNat ∧ k = q.toNat
    · rw [if_pos (by omega), if_pos hc]; rfl
    · rw [if_neg (by omega), if_neg hc]; exact R.at' i k hi hk
theorem Rel.syncE (I : NInv n W H t) (R : Rel n t x) (a b : Int) : rSyncE x a b = Go.Proofs.YthdbbgajmgjfcaaDoor.syncE t a b := by
  unfold rSyncE Go.Proofs.YthdbbgajmgjfcaaDoor.syncE inNet
  rw [R.n1, I.len]
  have : inB 0 0 3 = true := by decide
  rw [this, Bool.and_true, Bool.and_true]
theorem Rel.keeps (I : NInv n W H t) (R : Rel n t x) {a b : Int} (h0 : Go.Proofs.YthdbbgajmgjfcaaDoor.syncE t a b = 0) : (0 ≤ a ∧ a < (n : Int)) ∧ (0 ≤ b ∧ b < (n : Int)) ∧ a ≠ b ∧ ∀ k, k < 4 →
    rAt (rSyncU x a b k) b (k : Int) = vAt t b.toNat k ∧ rAt (rSyncU x a b k) a (k : Int) = vAt t a.toNat k ∧ ∀ i, i ≤ (vAt t a.toNat k).length → keepU (vAt t b.toNat k) (vAt t a.toNat k) i = mrgV (vAt t b.toNat k ++ (vAt t a.toNat k).take i) := by
  obtain ⟨ha, hb, hab⟩ : inNet t a 0 = true ∧ inNet t b 0 = true ∧ a ≠ b := by
    unfold Go.Proofs.YthdbbgajmgjfcaaDoor.syncE at h0
    cases ha : inNet t a 0 <;> cases hb : inNet t b 0 <;> simp [ha, hb] at h0
    exact ⟨rfl, rfl, h0⟩
  obtain ⟨⟨a0, a1⟩, -⟩ := inNet_iff.1 ha
  obtain ⟨⟨b0, b1⟩, -⟩ := inNet_iff.1 hb
  rw [I.len] at a1 b1
  refine ⟨⟨a0, a1⟩, ⟨b0, b1⟩, hab, fun k hk => ?_⟩
  have hs := fun (i : Nat) => rAt_sync (t := x) (a := a) (b := b) b0 (by rw [R.hl]; omega) k (by omega) i k hk
  have e1 := hs b.toNat
  have e2 := hs a.toNat
  rw [if_neg (by omega), R.at' _ _ (by omega) hk] at e1
  rw [if_neg (by omega), R.at' _ _ (by omega) hk] at e2
  rw [show ((b.toNat : Nat) : Int) = b by omega] at e1
  rw [show ((a.toNat : Nat) : Int) = a by omega] at e2
  have hm : ∀ v ∈ vAt t b.toNat k ++ vAt t a.toNat k, ∃ p, H k p v := fun v h => (List.mem_append.1 h).elim (fun h => I.mem _ _ _ h) fun h => I.mem _ _ _ h
  exact ⟨e1, e2, keepU_eq (n := n) (fun u h => (hm u h).elim fun p hp => I.hl _ _ _ hp) (fun u h w h' e => by
    obtain ⟨p, hp⟩ := hm u h
    obtain ⟨p', hp'⟩ := hm w h'
    exact I.hf k p u p' w hp hp' e) (I.sv _ _) (fun u hu w hw => I.anti _ _ u w hu hw)⟩
theorem Rel.syOk (I : NInv n W H t) (R : Rel n t x) {a b : Int} (h0 : rSyncE x a b = 0) : SyOk x a b := by
  rw [Rel.syncE I R] at h0
  obtain ⟨-, -, -, hK⟩ := Rel.keeps I R h0
  intro k hk i hi
  obtain ⟨e1, e2, e3⟩ := hK k hk
  rw [e2] at hi
  rw [e1, e2, e3 i hi]
  have f1 := I.few b.toNat k
  have f2 := I.few a.toNat k
  have h5 := I.hi
  have hl := mrgV_len (vAt t b.toNat k ++ (vAt t a.toNat k).take i)
  rw [List.length_append, List.length_take] at hl
  refine ⟨by omega, fun u hu => ?_⟩
  rw [R.n1]
  have hmem : u ∈ vAt t b.toNat k ++ (vAt t a.toNat k).take i := by
    unfold mrgV at hu
    rw [(perm_sortV _).mem_iff] at hu
    obtain ⟨j, hj, e, -⟩ := (mem_outU _).1 hu
    rw [← e]; exact getD_memL hj
  rcases List.mem_append.1 hmem with h | h
  · rw [I.ln h]
  · rw [I.ln (List.mem_of_mem_take h)]
theorem Rel.sync (I : NInv n W H t) (R : Rel n t x) (a b : Int) : Rel n (syncT t a b) (rSyncT x a b) := by
  have hE := Rel.syncE I R a b
  unfold syncT rSyncT
  by_cases hne : ¬ Go.Proofs.YthdbbgajmgjfcaaDoor.syncE t a b = 0
  · rw [if_neg hne, if_neg (by rw [hE]; exact hne)]; exact R
  have h0 := Decidable.of_not_not hne
  rw [if_pos h0, if_pos (by rw [hE]; exact h0)]
  obtain ⟨⟨a0, a1⟩, ⟨b0, b1⟩, hab, hK⟩ := Rel.keeps I R h0
  refine ⟨by rw [rSyncU_1]; exact R.n1, by rw [rSyncU_3, syncU_wr]; exact R.wr, by rw [rSyncU_has b0 (by rw [R.hl]; omega) 4 (Nat.le_refl _)]; exact R.hl, fun i k hi hk => ?_⟩
  rw [vAt_sync I.row (by omega) (by rw [I.len]; omega) i k 4 (Nat.le_refl _), rAt_sync b0 (by rw [R.hl]; omega) 4 (Nat.le_refl _) i k hk]
  by_cases hc : (i : Int) = b
  · rw [if_pos ⟨hc, hk⟩, if_pos (by omega)]
    obtain ⟨e1, e2, e3⟩ := hK k hk
    rw [e1, e2, e3 _ (Nat.le_refl _), List.take_length]
  · rw [if_neg (fun h => hc h.1), if_neg (by omega)]; exact R.at' i k hi hk
end
end Go.Proofs.YthdbbgajmgjfcaaDoor

/- Nets: the law that the program plays as the reference does, its loops. -/
namespace Go.Proofs.YthdbbgajmgjfcaaDoor
open Go.Vc
def stepT (t : Net) (l : List Int) : Net :=
  if l.length = 3 then writeT t (l.getD 0 0) (l.getD 1 0) (l.getD 2 0) else if l.length = 2 then syncT t (l.getD 0 0) (l.getD 1 0) else t
def stepE (t : Net) (l : List Int) : Int :=
  if l.length = 3 then writeE t (l.getD 0 0) (l.getD 1 0) (l.getD 2 0) else if l.length = 2 then syncE t (l.getD 0 0) (l.getD 1 0) else 0
def rStepT (t : RN) (l : List Int) : RN :=
  if l.length = 3 then rWriteT t (l.getD 0 0) (l.getD 1 0) (l.getD 2 0) else if l.length = 2 then rSyncT t (l.getD 0 0) (l.getD 1 0) else t
def playF (n : Nat) (steps : List (List Int)) : Nat → Net
  | 0 => newF n
  | i + 1 => stepT (playF n steps i) (steps.getD i [])
def rplF (n : Int) (steps : List (List Int)) : Nat → RN
  | 0 => (n, List.replicate (n * 4).toNat [], List.replicate n.toNat 0, ())
  | i + 1 => rStepT (rplF n steps i) (steps.getD i [])
def oRead : OCtr := fun args ob k => match args, ob with
  | [.ps 0, .d (.int .i64) p, .d (.int .i64) q], [.st 68 [.os 1, .os 2], .row 74 (.ar 4 (.sl (.pr (.sl (.int .i64)) (.pr (.int .i64) .un)))) nodes, .row 3 (.int .i64) wrote] =>
    NetLen (nodes, wrote, ()) ∧ k (.os 1) [.st 68 [.os 2, .os 3], .row 63 tV (readF (nodes, wrote, ()) p q), .row 74 tRow nodes, .row 3 I wrote]
  | _, _ => False
def anReadO (t : Net) (p k : Int) : Ann := [joinAll, loopAt 5 Nat [(7, 63, tV)] (fun st i => { St.at (St.only st [0, 7, 23, 24]) [(25, .d I (i : Int))] with ob := obNet t ++ [.row 63 tV ((valsAt t p k).take i)] }) (fun _ i => i ≤ (valsAt t p k).length ∧ inNet t p k = true) (fun i => (valsAt t p k).length - i)]
def cLawGP : Ctr := cdet [I, .sl (.sl I)] (fun _ _ => True) (fun _ _ => [⟨.bool, true⟩])
def obGP (n : Int) (s : List (List Int)) (i : Nat) : List Ob := [.st 68 [.os 1, .os 2], .row 74 tRow (playF n.toNat s i).1, .row 3 I (playF n.toNat s i).2.1, .var 32 tRN (rplF n s i)]
def anGP (n : Int) (s : List (List Int)) : Ann := [joinAll,
  loopAt 8 Nat [] (fun st i => { St.at (St.only st [0, 1, 5, 7]) [(8, .d I (i : Int))] with ob := obGP n s i }) (fun _ i => (i ≤ s.length ∧ i ≤ 80) ∧ inB n 1 5 = true) (fun i => 100 - i),
  meetAt 19 Int [] (fun st e => { St.at (St.only st [0, 1, 5, 7, 8]) [(10, .d I e), (11, .d tErr e)] with ob := obGP n s ((st.i 8).toNat + 1) }) (fun _ e => inK .i64 e ∧ inB n 1 5 = true),
  loopAt 22 Nat [] (fun st p => { St.at (St.only st [0, 5, 7]) [(12, .d I (p : Int))] with ob := obGP n s (min s.length 80) }) (fun _ p => p ≤ n.toNat ∧ inB n 1 5 = true) (fun p => n.toNat - p),
  loopAt 25 Nat [] (fun st q => { St.at (St.only st [0, 5, 7, 12]) [(13, .d I (q : Int))] with ob := obGP n s (min s.length 80) }) (fun _ q => q ≤ 4 ∧ inB n 1 5 = true) (fun q => 4 - q)]
end Go.Proofs.YthdbbgajmgjfcaaDoor

/- What the functions of this seat have to satisfy, by program: each verification condition in plain words. -/
namespace Go.Proofs.YthdbbgajmgjfcaaDoor
open Go.Vc
set_option linter.unusedVariables false
theorem vcReadO (nd : List (List (List Va))) (wr : List Int) (p q : Int) (k : SV → List Ob → Prop) : vcO ⟨Eg, [(40, cCloneI), (30, cIs)], [], [], []⟩ (anReadO (nd, wr, ()) p q) (Tryd.f24.body.getD .skip) Tryd.f24.ntmps [(.tmp 6, .un)] [.ps 0, .d I p, .d I q] [.st 68 [.os 1, .os 2], .row 74 tRow nd, .row 3 I wr] k = (
  ((!inNet (nd, wr, ()) p q) = true → k SV.nils [Ob.st (68 : Nat) [SV.os (1 : Nat), SV.os (2 : Nat)], Ob.row (74 : Nat) (Ty.ar (4 : Nat) (tV).sl) nd, Ob.row (3 : Nat) (I) wr]) ∧ ((!inNet (nd, wr, ()) p q) = false → (0 : Int) ≤ p ∧ p < (↑nd.length : Int) ∧ (0 : Int) ≤ q ∧ q < (↑(4 : Nat) : Int) ∧ (∃ (x : Nat), (x ≤ (valsAt (nd, wr, ()) p q).length ∧ inNet (nd, wr, ()) p q = true) ∧ (True ∧ True ∧ (nd.getD p.toNat (List.replicate (4 : Nat) [])).getD q.toNat [] = (nd.getD p.toNat (List.replicate (4 : Nat) [])).getD q.toNat [] ∧ (↑((nd.getD p.toNat (List.replicate (4 : Nat) [])).getD q.toNat []).length : Int) = (↑((nd.getD p.toNat (List.replicate (4 : Nat) [])).getD q.toNat []).length : Int) ∧ (0 : Int) = (↑x : Int) ∧ True) ∧ ((True ∧ True ∧ True) ∧ ((74 : Nat) = (74 : Nat) ∧ nd = nd) ∧ ((3 : Nat) = (3 : Nat) ∧ wr = wr) ∧ ((63 : Nat) = (63 : Nat) ∧ [] = List.take x (valsAt (nd, wr, ()) p q)) ∧ True) ∧ True ∧ p = p ∧ q = q ∧ True) ∧ ∀ (x : Nat), x ≤ (valsAt (nd, wr, ()) p q).length ∧ inNet (nd, wr, ()) p q = true → (decide ((↑x : Int) < (↑((nd.getD p.toNat (List.replicate (4 : Nat) [])).getD q.toNat []).length : Int)) = true → (0 : Int) ≤ (↑x : Int) ∧ (↑x : Int) < (↑((nd.getD p.toNat (List.replicate (4 : Nat) [])).getD q.toNat []).length : Int) ∧ ((List.length (((nd.getD p.toNat (List.replicate (4 : Nat) [])).getD q.toNat []).getD (↑x : Int).toNat va0).fst ≤ (1000000000 : Nat) ∧ True) ∧ True) ∧ (List.take x (valsAt (nd, wr, ()) p q)).length + ((List.replicate (1 : Nat) va0).set (0 : Nat) ((((nd.getD p.toNat (List.replicate (4 : Nat) [])).getD q.toNat []).getD (↑x : Int).toNat va0).fst, (((nd.getD p.toNat (List.replicate (4 : Nat) [])).getD q.toNat []).getD (↑x : Int).toNat va0).snd.fst, ())).length ≤ (1000000000 : Nat) ∧ inK IntKind.i64 ((↑x : Int) + (1 : Int)) ∧ ∃ (x_1 : Nat), (x_1 ≤ (valsAt (nd, wr, ()) p q).length ∧ inNet (nd, wr, ()) p q = true) ∧ (valsAt (nd, wr, ()) p q).length - x_1 < (valsAt (nd, wr, ()) p q).length - x ∧ (True ∧ True ∧ (nd.getD p.toNat (List.replicate (4 : Nat) [])).getD q.toNat [] = (nd.getD p.toNat (List.replicate (4 : Nat) [])).getD q.toNat [] ∧ (↑((nd.getD p.toNat (List.replicate (4 : Nat) [])).getD q.toNat []).length : Int) = (↑((nd.getD p.toNat (List.replicate (4 : Nat) [])).getD q.toNat []).length : Int) ∧ (↑x : Int) + (1 : Int) = (↑x_1 : Int) ∧ True) ∧ ((True ∧ True ∧ True) ∧ ((74 : Nat) = (74 : Nat) ∧ nd = nd) ∧ ((3 : Nat) = (3 : Nat) ∧ wr = wr) ∧ ((63 : Nat) = (63 : Nat) ∧ (List.take x (valsAt (nd, wr, ()) p q)).append ((List.replicate (1 : Nat) va0).set (0 : Nat) ((((nd.getD p.toNat (List.replicate (4 : Nat) [])).getD q.toNat []).getD (↑x : Int).toNat va0).fst, (((nd.getD p.toNat (List.replicate (4 : Nat) [])).getD q.toNat []).getD (↑x : Int).toNat va0).snd.fst, ())) = List.take x_1 (valsAt (nd, wr, ()) p q)) ∧ True) ∧ True ∧ p = p ∧ q = q ∧ True) ∧ (decide ((↑x : Int) < (↑((nd.getD p.toNat (List.replicate (4 : Nat) [])).getD q.toNat []).length : Int)) = false → k (SV.os (1 : Nat)) [Ob.st (68 : Nat) [SV.os (2 : Nat), SV.os (3 : Nat)], Ob.row (63 : Nat) (tV) (List.take x (valsAt (nd, wr, ()) p q)), Ob.row (74 : Nat) (Ty.ar (4 : Nat) (tV).sl) nd, Ob.row (3 : Nat) (I) wr]))) := by kernel_rfl
end Go.Proofs.YthdbbgajmgjfcaaDoor

/- Nets: reading answers a row of the call's own. -/
namespace Go.Vc
open Go.RowKit
theorem OwnOk.sub [Dn] {P : Program} {gl gl' : List (Nat × Dat)} {f : FuncId} {c : OCtr} (hs : ∀ x ∈ gl, x ∈ gl') (h : OwnOk P gl f c) : OwnOk P gl' f c :=
  fun args ob k hc w M R0 A vals hB hrd I => h args ob k hc w M R0 A vals ⟨fun g d hg => hB.gl g d (hs _ hg), hB.lt, hB.me⟩ hrd I
theorem OwnOk.lift [Dn] {P : Program} {gl : List (Nat × Dat)} {f : FuncId} {c : OCtr} (h : OwnOk P [] f c) : OwnOk P gl f c := h.sub fun x hx => by cases hx
/-- A nil slice that comes back may be seen as a row without elements, whatever was handed in; the objects are named by s. -/
theorem own_nilrowK [Dn] {P : Program} {gl : List (Nat × Dat)} {f : FuncId} {oc oc' : OCtr} (h : OwnOk P gl f oc) (e : TypeId) (t : Ty) (σ : List Nat) (hσ : σ.Nodup)
    (h' : ∀ args ob k, oc' args ob k → (∀ i, i < keptN args → σ.getD i 0 = i) ∧ oc args ob (fun s ob' => match s with
      | .nils => keptN args ≤ ob'.length ∧ k (reS σ (.os ob'.length)) (σ.map fun i => reO σ ((ob' ++ [Ob.row e t []]).getD i .dead))
      | s => k s ob')) : OwnOk P gl f oc' := by
  intro args ob k hc w M R0 A vals hB hrd I
  obtain ⟨hs, hc⟩ := h' _ _ _ hc
  refine (h _ _ _ hc w M R0 A vals hB hrd I).mono ?_
  rintro x w' ⟨v, s, ob1, A', rfl, hk, I2, hkeep⟩
  split at hk
  · obtain ⟨hkn, hk⟩ := hk
    have hv : v = .slice none 0 0 := I2.tm 0 .nils rfl
    subst hv
    have hnum : A'.n = ob1.length := I2.num
    have hI := (I2.add none (fun _ => .slice none 0 0) (fun b => (Value.slice none 0 0).ownBlock = some b) (nilOb e (.d t)) (Same.refl w') (fun _ _ _ => rfl) (fun b hb => by simp [Value.ownBlock] at hb) (fun hro =>
          nilOb_ok e (.d t) (Asg.push_η ..) (Asg.push_κ ..))).put (d := some 0) (s := .os ob1.length) (v := .slice none 0 0) ⟨by simp [Asg.pushT, hnum], by rw [← hnum, Asg.push_η]⟩
    refine ⟨.slice none 0 0, _, _, _, rfl, hk, hI.re hσ, fun i hi => ?_⟩
    rw [← hkeep i hi]
    simp only [Asg.re]
    rw [hs i hi]
    simp only [Asg.pushT]
    rw [if_neg (by omega)]
  · exact ⟨v, _, _, A', rfl, hk, I2, hkeep⟩
end Go.Vc
namespace Go.Proofs.YthdbbgajmgjfcaaDoor
open Go.Vc Go.Proofs

theorem readO_vc (nd : List (List (List Va))) (wr : List Int) (p q : Int) (hN : NetLen (nd, wr, ())) (k : SV → List Ob → Prop)
    (h1 : inNet (nd, wr, ()) p q = false → k .nils [.st 68 [.os 1, .os 2], .row 74 tRow nd, .row 3 I wr])
    (h2 : inNet (nd, wr, ()) p q = true → k (.os 1) [.st 68 [.os 2, .os 3], .row 63 tV (valsAt (nd, wr, ()) p q), .row 74 tRow nd, .row 3 I wr]) :
    vcO ⟨Eg, [(40, cCloneI), (30, cIs)], [], [], []⟩ (anReadO (nd, wr, ()) p q) (Tryd.f24.body.getD .skip) Tryd.f24.ntmps [(.tmp 6, .un)] [.ps 0, .d I p, .d I q] [.st 68 [.os 1, .os 2], .row 74 tRow nd, .row 3 I wr] k := by
  rw [vcReadO]
  have e0 : (List.getD nd p.toNat (List.replicate 4 [])).getD q.toNat [] = valsAt (nd, wr, ()) p q := rfl
  have e1 : ∀ y : Va, (List.replicate 1 va0).set 0 y = [y] := fun _ => rfl
  have ea : ∀ (m n : List Va), List.append m n = m ++ n := fun _ _ => rfl
  have e2 : ∀ y : Va, (y.1, y.2.1, ()) = y := fun _ => rfl
  simp only [e0, e1, ea, e2, decide_eq_true_eq, decide_eq_false_iff_not, true_and, and_true, Bool.not_eq_true', Bool.not_eq_false', Int.toNat_natCast, inK_i64]
  refine ⟨h1, fun h => ?_⟩
  have hin := inNet_iff.1 h
  have hin1 : p < (nd.length : Int) := hin.1.2
  have hr : (List.getD nd p.toNat (List.replicate 4 [])) ∈ nd := getD_memL (by omega)
  obtain ⟨hr4, hrl⟩ := hN.1 _ hr
  have hv : valsAt (nd, wr, ()) p q ∈ (List.getD nd p.toNat (List.replicate 4 [])) := getD_memL (by rw [hr4]; omega)
  obtain ⟨hl1, hl2⟩ := hrl _ hv
  refine ⟨hin.1.1, hin1, hin.2.1, by omega, ⟨0, ⟨Nat.zero_le _, h⟩, rfl, rfl⟩, fun x ⟨hx, _⟩ => ⟨fun hlt => ?_, fun hge => ?_⟩⟩
  · have hxl : x < (valsAt (nd, wr, ()) p q).length := by omega
    have := hl2 _ (getD_memL (d := va0) hxl)
    refine ⟨by omega, hlt, by omega, ?_, by omega, x + 1, ⟨by omega, h⟩, by omega, by omega, ?_⟩
    · rw [List.length_take]; simp only [List.length_cons, List.length_nil]; omega
    · rw [List.take_succ_eq_append_getElem hxl, List.getD_eq_getElem?_getD, List.getElem?_eq_getElem hxl]; rfl
  · have : x = (valsAt (nd, wr, ()) p q).length := by omega
    rw [this, List.take_length]; exact h2 h
theorem ownRead : OwnOk Tryd.prog [] 24 oRead := by
  refine own_nilrowK (oc := fun args ob k => ∃ (p q : Int) (nd : List (List (List Va))) (wr : List Int), args = [.ps 0, .d I p, .d I q] ∧ ob = [.st 68 [.os 1, .os 2], .row 74 tRow nd, .row 3 I wr] ∧ NetLen (nd, wr, ()) ∧
      (inNet (nd, wr, ()) p q = false → k .nils [.st 68 [.os 1, .os 2], .row 74 tRow nd, .row 3 I wr]) ∧
      (inNet (nd, wr, ()) p q = true → k (.os 1) [.st 68 [.os 2, .os 3], .row 63 tV (valsAt (nd, wr, ()) p q), .row 74 tRow nd, .row 3 I wr])) ?_ 63 tV [0, 3, 1, 2] (by decide) ?_
  · refine own_of (CxOk.mk' Eg_ok (by kernel_rfl) mixed (gl := []) (GOk.cons okCloneI Tryd.func40 (by kernel_rfl) (by kernel_rfl) (GOk.cons okIs Tryd.func30 (by kernel_rfl) (by kernel_rfl) GOk.nil)) GoOk.nil noIt) Tryd.func24 (c := Tryd.f24.body.getD .skip) (rvs := [(.tmp 6, .un)]) (by kernel_rfl) (by kernel_rfl) (by kernel_rfl) ?_
    rintro args ob k ⟨p, q, nd, wr, rfl, rfl, hN, h1, h2⟩ hwa hwo
    exact ⟨anReadO (nd, wr, ()) p q, readO_vc nd wr p q hN k h1 h2⟩
  · intro args ob k h
    unfold oRead at h
    split at h
    · rename_i p q nd wr
      obtain ⟨hN, hk⟩ := h
      refine ⟨fun i hi => ?_, p, q, nd, wr, rfl, rfl, hN, fun hb => ⟨show 1 ≤ 3 from by decide, ?_⟩, fun hb => ?_⟩
      · have : i < 1 := hi
        have : i = 0 := by omega
        subst this; rfl
      · unfold readF at hk; rw [if_neg (by rw [hb]; decide)] at hk; exact hk
      · unfold readF at hk; rw [if_pos hb] at hk; exact hk
    · exact h.elim

end Go.Proofs.YthdbbgajmgjfcaaDoor

/- Nets: the program plays as the reference does. -/
namespace Go.Proofs.YthdbbgajmgjfcaaDoor
open Go.Vc Go.Proofs

theorem play_succ (n : Nat) (s : List (List Int)) (i : Nat) : playF n s (i + 1) = stepT (playF n s i) (s.getD i []) := rfl
theorem rpl_succ (n : Int) (s : List (List Int)) (i : Nat) : rplF n s (i + 1) = rStepT (rplF n s i) (s.getD i []) := rfl
theorem step3 {t : Net} {l : List Int} (h : l.length = 3) : stepT t l = writeT t (l.getD 0 0) (l.getD 1 0) (l.getD 2 0) := by unfold stepT; rw [if_pos h]
theorem step2 {t : Net} {l : List Int} (h : l.length = 2) : stepT t l = syncT t (l.getD 0 0) (l.getD 1 0) := by unfold stepT; rw [if_neg (by omega), if_pos h]
theorem step0 {t : Net} {l : List Int} (h3 : ¬ l.length = 3) (h2 : ¬ l.length = 2) : stepT t l = t := by unfold stepT; rw [if_neg h3, if_neg h2]
theorem rstep3 {t : RN} {l : List Int} (h : l.length = 3) : rStepT t l = rWriteT t (l.getD 0 0) (l.getD 1 0) (l.getD 2 0) := by unfold rStepT; rw [if_pos h]
theorem rstep2 {t : RN} {l : List Int} (h : l.length = 2) : rStepT t l = rSyncT t (l.getD 0 0) (l.getD 1 0) := by unfold rStepT; rw [if_neg (by omega), if_pos h]
theorem rstep0 {t : RN} {l : List Int} (h3 : ¬ l.length = 3) (h2 : ¬ l.length = 2) : rStepT t l = t := by unfold rStepT; rw [if_neg h3, if_neg h2]
theorem inB5 {n : Int} (h : inB n 1 5 = true) : 1 ≤ n.toNat ∧ n.toNat ≤ 5 ∧ 1 ≤ n ∧ n ≤ 5 := by
  have := inB_iff.1 h; omega
theorem play_rel {n : Int} (hb : inB n 1 5 = true) (s : List (List Int)) : ∀ i, ∃ H, NInv n.toNat (fun _ _ => True) H (playF n.toNat s i) ∧ Rel n.toNat (playF n.toNat s i) (rplF n s i)
  | 0 => by
    obtain ⟨n1, n5, m1, m5⟩ := inB5 hb
    have R := Rel.init n.toNat
    rw [show ((n.toNat : Nat) : Int) = n by omega] at R
    exact ⟨_, NInv.init _ n1 n5, R⟩
  | i + 1 => by
    obtain ⟨H, I, R⟩ := play_rel hb s i
    rw [play_succ, rpl_succ]
    by_cases h3 : (s.getD i []).length = 3
    · rw [step3 h3, rstep3 h3]
      obtain ⟨H', I'⟩ := I.write ((s.getD i []).getD 0 0) ((s.getD i []).getD 1 0) ((s.getD i []).getD 2 0) fun _ => trivial
      exact ⟨H', I', Rel.write I R _ _ _⟩
    · by_cases h2 : (s.getD i []).length = 2
      · rw [step2 h2, rstep2 h2]; exact ⟨H, I.sync _ _, Rel.sync I R _ _⟩
      · rw [step0 h3 h2, rstep0 h3 h2]; exact ⟨H, I, R⟩
theorem writeE_k (t : Net) (p q v : Int) : -9223372036854775808 ≤ writeE t p q v ∧ writeE t p q v ≤ 9223372036854775807 := by
  unfold writeE; split
  · split <;> omega
  · omega
theorem syncE_k (t : Net) (a b : Int) : -9223372036854775808 ≤ syncE t a b ∧ syncE t a b ≤ 9223372036854775807 := by
  unfold syncE; split
  · split <;> omega
  · omega
theorem net_eta (t : Net) : (t.1, t.2.1, ()) = t := rfl
end Go.Proofs.YthdbbgajmgjfcaaDoor

/- Books: their shape; a book's builder written, and read. -/
namespace Go.Proofs.YthdbbgajmgjfcaaDoor
open Go.Vc Go.Proofs Go.RowKit
abbrev tBd : Ty := .pr (.ptr .un) (.pr (.sl (.int .u8)) .un)
abbrev tBk : Ty := .pr (.ptr tNet) (.pr tBd (.pr I .un))
/-- a book of the call's own: its net, what was written down, how many lines -/
def obBk (t : Net) (txt : List UInt8) (m : Int) : List Ob := [.st 53 [.ps 1, .sf 0 1, .os 2, .d I m], .st 68 [.os 3, .os 4], .buf 5 txt, .row 74 tRow t.1, .row 3 I t.2.1]
def oWS : OCtr := fun args ob k => match args, ob with
  | [.pf _ 0 1 [], .d .str x], [.st 53 [.ps 1, .sf 0 1, .os 2, .d (.int .i64) m], .st 68 [.os 3, .os 4], .buf 5 txt, .row 74 (.ar 4 (.sl (.pr (.sl (.int .i64)) (.pr (.int .i64) .un)))) nodes, .row 3 (.int .i64) wrote] =>
    txt.length + x.length ≤ 1000000000 ∧ k (.tp [.d I (x.length : Int), .d tErr (0 : Int)]) (obBk (nodes, wrote, ()) (txt ++ x) m)
  | _, _ => False
def oStr : OCtr := fun args ob k => match args, ob with
  | [.pf _ 0 1 []], [.st 53 [.ps 1, .sf 0 1, .os 2, .d (.int .i64) m], .st 68 [.os 3, .os 4], .buf 5 txt, .row 74 (.ar 4 (.sl (.pr (.sl (.int .i64)) (.pr (.int .i64) .un)))) nodes, .row 3 (.int .i64) wrote] =>
    txt.length ≤ 1000000000 ∧ k (.d .str txt) (obBk (nodes, wrote, ()) txt m)
  | _, _ => False
theorem pf_val {w : World} {ro : Nat → Prop} {A : Asg} {t : Ty} {i o : Nat} {v : Value} (h : SvOk w ro A (.pf t i o []) v) : ∃ g, A.η i = .pointer (some ⟨g, 0, none⟩) ∧ v = .pointer (some ⟨g, o, none⟩) := by
  obtain ⟨_, g, o', t', e1, e2, _, e3⟩ := h
  rw [off_nil] at e2
  injection e2 with e2; injection e2 with e2
  subst e2
  exact ⟨g, e1, e3⟩
theorem str_val {w : World} {ro : Nat → Prop} {A : Asg} {x : List UInt8} {v : Value} (h : SvOk w ro A (.d .str x) v) : v = .string ⟨x.toArray⟩ ∧ x.length ≤ maxLen := by
  have h' : [v] = [Value.string ⟨x.toArray⟩] ∧ x.length ≤ maxLen := h
  exact ⟨by simpa using h'.1, h'.2⟩
theorem vals1 {vals : Array Value} (h : vals.size = 1) : vals = #[vals.getD 0 undef] := by
  apply Array.ext (by simp [h])
  intro k h1 h2
  have : k = 0 := by omega
  subst this
  simp [h]
theorem vals2 {vals : Array Value} (h : vals.size = 2) : vals = #[vals.getD 0 undef, vals.getD 1 undef] := by
  apply Array.ext (by simp [h])
  intro k h1 h2
  have : k = 0 ∨ k = 1 := by omega
  rcases this with rfl | rfl <;> simp [h]
theorem ownWS [Dn] : OwnOk Tryd.prog [] 32 oWS := by
  intro args ob k h w M R0 A vals hB hrd IV
  unfold oWS at h
  split at h
  · rename_i t x m txt nodes wrote
    obtain ⟨hl, hk⟩ := h
    obtain ⟨g, e1, e2⟩ := pf_val (IV.tm 0 _ rfl)
    obtain ⟨e3, hxl⟩ := str_val (IV.tm 1 _ rfl)
    have hv := vals2 (show vals.size = 2 from IV.len)
    rw [e2, e3] at hv
    rw [hv]
    rw [hv] at IV
    refine (ws_inv IV (i := 0) (j := 2) (o := 1) rfl rfl rfl rfl rfl (by decide) (by decide) (by kernel_rfl) x (by omega) e1).mono ?_
    rintro e w' ⟨rfl, κ, F, I'⟩
    have hn : inK .i64 (x.length : Int) := inK_len hxl
    have hs : ∀ ro, SvOk w' ro (A.pushT κ F) (.tp [.d I (x.length : Int), .d tErr (0 : Int)]) (.tuple #[.int .i64 x.length, .nilIface]) := by
      refine fun ro => ⟨_, rfl, rfl, fun j sv v h1 h2 => ?_⟩
      match j with
      | 0 => simp at h1 h2; subst h1; subst h2; exact ⟨rfl, hn⟩
      | 1 => simp at h1 h2; subst h1; subst h2; exact .inl ⟨rfl, rfl⟩
      | j + 2 => simp at h1
    have I2 := I'.out (M' := M) rfl (σ := [0, 1, 5, 3, 4]) (by decide) (hs _)
    refine ⟨_, _, _, _, rfl, hk, I2, fun i hi => ?_⟩
    have hi : i < 1 := hi
    have : i = 0 := by omega
    subst this
    exact (A.push_le κ F).η 0 (by rw [show A.n = 5 from IV.num]; decide)
  · exact h.elim
theorem ownStr [Dn] : OwnOk Tryd.prog [] 22 oStr := by
  intro args ob k h w M R0 A vals hB hrd IV
  unfold oStr at h
  split at h
  · rename_i t m txt nodes wrote
    obtain ⟨hl, hk⟩ := h
    obtain ⟨g, e1, e2⟩ := pf_val (IV.tm 0 _ rfl)
    have hv := vals1 (show vals.size = 1 from IV.len)
    rw [e2] at hv
    rw [hv]
    rw [hv] at IV
    refine (st_inv IV (i := 0) (j := 2) (o := 1) rfl rfl rfl rfl rfl (by decide) e1).mono ?_
    rintro e w' ⟨rfl, I'⟩
    have hs : ∀ ro, SvOk w' ro A (.d .str txt) (.string ⟨txt.toArray⟩) := fun ro => ⟨rfl, Nat.le_trans hl (by decide)⟩
    have I2 := I'.out (M' := M) rfl (σ := [0, 1, 2, 3, 4]) (by decide) (hs _)
    refine ⟨_, _, _, _, rfl, hk, I2, fun i hi => ?_⟩
    have hi : i < 1 := hi
    have : i = 0 := by omega
    subst this
    rfl
  · exact h.elim
end Go.Proofs.YthdbbgajmgjfcaaDoor

/- Books: sums and digits of a line, of the program and of the reference; a line put down. -/
namespace Go.Proofs.YthdbbgajmgjfcaaDoor
open Go.Vc Go.Proofs Go.RowKit
def Es : Env := { tys := [(3, I), (4, .bool), (9, .str), (5, .int .u8), (49, .sl (.int .u8)), (25, tErr), (30, .sl I), (53, tBk), (23, .ptr tBk)], errT := 54, eqs := [], els := [] }
theorem Es_ok : EnvOk Tryd.prog Es := EnvOk.of_list (by kernel_rfl) (by kernel_rfl) (by kernel_rfl)
/-- each byte so often as it stands far, of the first k -/
def sumN (s : List UInt8) : Nat → Nat
  | 0 => 0
  | k + 1 => sumN s k + (k + 1) * (s.getD k 0).toNat
def sumF (s : List UInt8) : Int := ((sumN s s.length : Nat) : Int) % 9973
theorem sumN_le (s : List UInt8) : ∀ k, sumN s k ≤ k * k * 255
  | 0 => Nat.le_refl _
  | k + 1 => by
    have h1 := sumN_le s k
    have h2 : (s.getD k 0).toNat ≤ 255 := by have := (s.getD k 0).toNat_lt; omega
    have h3 : (k + 1) * (s.getD k 0).toNat ≤ (k + 1) * 255 := Nat.mul_le_mul_left _ h2
    have h4 : (k + 1) * (k + 1) = k * k + k + (k + 1) := by rw [Nat.mul_succ, Nat.succ_mul]
    simp only [sumN]
    rw [h4]
    omega
theorem sumN_mono (s : List UInt8) {j k : Nat} (h : j ≤ k) : sumN s j ≤ sumN s k := by
  induction k with
  | zero => have : j = 0 := by omega
            subst this; exact Nat.le_refl _
  | succ k ih =>
    by_cases hj : j = k + 1
    · subst hj; exact Nat.le_refl _
    · exact Nat.le_trans (ih (by omega)) (Nat.le_add_right _ _)
structure SumOk (s : List UInt8) : Prop where
  le : s.length ≤ 1000000
def cSum : Ctr := cdet [.str] (fun s => SumOk s) (fun s => [⟨I, sumF s⟩])
def anSumB (s : List UInt8) : Ann := [joinAll, loopAt 3 Nat [] (fun st i => St.at (St.only st [7, 8]) [(3, .d I ((sumN s i : Nat) : Int)), (9, .d I (i : Int))]) (fun _ i => i ≤ s.length) (fun i => s.length - i)]
def anSumR (s : List UInt8) : Ann := [joinAll, loopAt 3 Nat [] (fun st j => St.at (St.only st [0]) [(3, .d I ((sumN s s.length : Nat) - (sumN s j : Nat) : Int)), (4, .d I ((j : Int) - 1))]) (fun _ j => j ≤ s.length) (fun j => j)]
def cDig (d : Nat) : Ctr := cdet [I] (fun (n : Int) => 0 ≤ n ∧ n.toNat < d) (fun (n : Int) => [⟨.str, Lib.decDigits n.toNat⟩])
structure DigOk (n : Int) : Prop where
  nn : 0 ≤ n
def cDigits : Ctr := cdet [I] (fun (n : Int) => DigOk n) (fun (n : Int) => [⟨.str, Lib.decDigits n.toNat⟩])
/-- a word and numbers -/
def putS (word : List UInt8) (l : List Int) : List UInt8 := l.foldl (fun s n => List.append s (List.append [32] (Lib.itoa n))) word
def lineF (word : List UInt8) (l : List Int) : List UInt8 := List.append (List.append (List.append (putS word l) [32]) (Lib.itoa (sumF (putS word l)))) [10]
def oPut : OCtr := fun args ob k => match args, ob with
  | [.ps 0, .d .str word, .d (.sl (.int .i64)) l], [.st 53 [.ps 1, .sf 0 1, .os 2, .d (.int .i64) m], .st 68 [.os 3, .os 4], .buf 5 txt, .row 74 (.ar 4 (.sl (.pr (.sl (.int .i64)) (.pr (.int .i64) .un)))) nodes, .row 3 (.int .i64) wrote] =>
    (txt.length ≤ 900000000 ∧ (0 ≤ m ∧ m ≤ 1000) ∧ word.length ≤ 10 ∧ (l : List Int).length ≤ 10) ∧ k (.tp []) (obBk (nodes, wrote, ()) (List.append txt (lineF word l)) ((m : Int) + 1))
  | _, _ => False
def anPut (word : List UInt8) (l : List Int) : Ann := [joinAll, loopAt 2 Nat [] (fun st i => St.at (St.only st [0, 10, 11]) [(6, .d .str (putS word (l.take i))), (12, .d I (i : Int))]) (fun _ i => i ≤ l.length ∧ l.length ≤ 10) (fun i => l.length - i)]
end Go.Proofs.YthdbbgajmgjfcaaDoor

/- What the functions of this seat have to satisfy, by program: each verification condition in plain words. -/
namespace Go.Proofs.YthdbbgajmgjfcaaDoor
open Go.Vc
set_option linter.unusedVariables false
theorem vcSumB (s : List UInt8) (k : List Dat → Prop) : vcF ⟨Es, [], [], [], []⟩ (anSumB s) (Tryd.f33.body.getD .skip) Tryd.f33.ntmps [(.tmp 2, I)] [⟨.str, s⟩] k = (
  (∃ (x : Nat), x.le s.length ∧ ((0 : Int) = (↑(sumN s x) : Int) ∧ sbyt s = sbyt s ∧ (↑(sbyt s).length : Int) = (↑(sbyt s).length : Int) ∧ (0 : Int) = (↑x : Int) ∧ True) ∧ True ∧ True) ∧ ∀ (x : Nat), x.le s.length → (decide ((↑x : Int) < (↑(sbyt s).length : Int)) = true → (0 : Int) ≤ (↑x : Int) ∧ (↑x : Int) < (↑(sbyt s).length : Int) ∧ inK IntKind.i64 ((↑x : Int) + (1 : Int)) ∧ inK IntKind.i64 ((sbyt s).getD (↑x : Int).toNat (0 : Int)) ∧ inK IntKind.i64 (((↑x : Int) + (1 : Int)) * (sbyt s).getD (↑x : Int).toNat (0 : Int)) ∧ inK IntKind.i64 ((↑(sumN s x) : Int) + ((↑x : Int) + (1 : Int)) * (sbyt s).getD (↑x : Int).toNat (0 : Int)) ∧ inK IntKind.i64 ((↑x : Int) + (1 : Int)) ∧ ∃ (x_1 : Nat), x_1.le s.length ∧ s.length - x_1 < s.length - x ∧ ((↑(sumN s x) : Int) + ((↑x : Int) + (1 : Int)) * (sbyt s).getD (↑x : Int).toNat (0 : Int) = (↑(sumN s x_1) : Int) ∧ sbyt s = sbyt s ∧ (↑(sbyt s).length : Int) = (↑(sbyt s).length : Int) ∧ (↑x : Int) + (1 : Int) = (↑x_1 : Int) ∧ True) ∧ True ∧ True) ∧ (decide ((↑x : Int) < (↑(sbyt s).length : Int)) = false → (9973 : Int) ≠ (0 : Int) ∧ inK IntKind.i64 ((↑(sumN s x) : Int).tmod (9973 : Int)) ∧ k [Dat.mk (I) ((↑(sumN s x) : Int).tmod (9973 : Int))])) := by kernel_rfl
theorem vcSumR (s : List UInt8) (k : List Dat → Prop) : vcF ⟨Es, [], [], [], []⟩ (anSumR s) (Tryd.f18.body.getD .skip) Tryd.f18.ntmps [(.tmp 2, I)] [⟨.str, s⟩] k = (
  inK IntKind.i64 ((↑s.length : Int) - (1 : Int)) ∧ (∃ (x : Nat), x.le s.length ∧ (s = s ∧ (0 : Int) = (↑(sumN s s.length) : Int) - (↑(sumN s x) : Int) ∧ (↑s.length : Int) - (1 : Int) = (↑x : Int) - (1 : I.D) ∧ True) ∧ True ∧ True) ∧ ∀ (x : Nat), x.le s.length → (decide ((0 : Int) ≤ (↑x : Int) - (1 : I.D)) = true → inK IntKind.i64 ((↑x : Int) - (1 : I.D) + (1 : Int)) ∧ (0 : Int) ≤ (↑x : Int) - (1 : I.D) ∧ (↑x : Int) - (1 : I.D) < (↑s.length : Int) ∧ inK IntKind.i64 (↑(s.getD ((↑x : Int) - (1 : I.D)).toNat (0 : UInt8)).toNat : Int) ∧ inK IntKind.i64 (((↑x : Int) - (1 : I.D) + (1 : Int)) * (↑(s.getD ((↑x : Int) - (1 : I.D)).toNat (0 : UInt8)).toNat : Int)) ∧ inK IntKind.i64 ((↑(sumN s s.length) : Int) - (↑(sumN s x) : Int) + ((↑x : Int) - (1 : I.D) + (1 : Int)) * (↑(s.getD ((↑x : Int) - (1 : I.D)).toNat (0 : UInt8)).toNat : Int)) ∧ inK IntKind.i64 ((↑x : Int) - (1 : I.D) - (1 : Int)) ∧ ∃ (x_1 : Nat), x_1.le s.length ∧ x_1 < x ∧ (s = s ∧ (↑(sumN s s.length) : Int) - (↑(sumN s x) : Int) + ((↑x : Int) - (1 : I.D) + (1 : Int)) * (↑(s.getD ((↑x : Int) - (1 : I.D)).toNat (0 : UInt8)).toNat : Int) = (↑(sumN s s.length) : Int) - (↑(sumN s x_1) : Int) ∧ (↑x : Int) - (1 : I.D) - (1 : Int) = (↑x_1 : Int) - (1 : I.D) ∧ True) ∧ True ∧ True) ∧ (decide ((0 : Int) ≤ (↑x : Int) - (1 : I.D)) = false → (9973 : Int) ≠ (0 : Int) ∧ inK IntKind.i64 (((↑(sumN s s.length) : Int) - (↑(sumN s x) : Int)).tmod (9973 : Int)) ∧ k [Dat.mk (I) (((↑(sumN s s.length) : Int) - (↑(sumN s x) : Int)).tmod (9973 : Int))])) := by kernel_rfl
theorem vcDig (d : Nat) (n : Int) (k : List Dat → Prop) : vcF ⟨Es, [(17, cDig d)], [], [], []⟩ [joinAll] (Tryd.f17.body.getD .skip) Tryd.f17.ntmps [(.tmp 2, .str)] [⟨I, n⟩] k = (
  (decide (n < (10 : Int)) = true → inK IntKind.i64 (n + (1 : Int)) ∧ (0 : Int) ≤ n ∧ n ≤ n + (1 : Int) ∧ n + (1 : Int) ≤ (↑[(48 : UInt8), (49 : UInt8), (50 : UInt8), (51 : UInt8), (52 : UInt8), (53 : UInt8), (54 : UInt8), (55 : UInt8), (56 : UInt8), (57 : UInt8)].length : Int) ∧ k [Dat.mk Ty.str (List.drop n.toNat (List.take (n + (1 : Int)).toNat [(48 : UInt8), (49 : UInt8), (50 : UInt8), (51 : UInt8), (52 : UInt8), (53 : UInt8), (54 : UInt8), (55 : UInt8), (56 : UInt8), (57 : UInt8)]))]) ∧ (decide (n < (10 : Int)) = false → (10 : Int) ≠ (0 : Int) ∧ inK IntKind.i64 (n.tdiv (10 : Int)) ∧ ((0 : Int) ≤ n.tdiv (10 : Int) ∧ (n.tdiv (10 : Int)).toNat < d) ∧ (10 : Int) ≠ (0 : Int) ∧ inK IntKind.i64 (n.tmod (10 : Int)) ∧ ((0 : Int) ≤ n.tmod (10 : Int) ∧ (n.tmod (10 : Int)).toNat < d) ∧ (Lib.decDigits (n.tdiv (10 : Int)).toNat).length + (Lib.decDigits (n.tmod (10 : Int)).toNat).length ≤ maxLen ∧ k [Dat.mk Ty.str ((Lib.decDigits (n.tdiv (10 : Int)).toNat).append (Lib.decDigits (n.tmod (10 : Int)).toNat))])) := by kernel_rfl
theorem vcPut (nd : List (List (List Va))) (wr : List Int) (txt word : List UInt8) (l : List Int) (m : Int) (k : SV → List Ob → Prop) : vcO ⟨Es, [(33, cSum), (31, cItoa)], glT, [], [(32, oWS)]⟩ (anPut word l) (Tryd.f20.body.getD .skip) Tryd.f20.ntmps [] [.ps 0, .d .str word, .d (.sl I) l] (obBk (nd, wr, ()) txt m) k = (
  (∃ (x : Nat), (x ≤ l.length ∧ l.length ≤ (10 : Nat)) ∧ (True ∧ word = putS word (List.take x l) ∧ l = l ∧ (↑l.length : Int) = (↑l.length : Int) ∧ (0 : Int) = (↑x : Int) ∧ True) ∧ ((True ∧ True ∧ True ∧ m = m ∧ True) ∧ (True ∧ True ∧ True) ∧ txt = txt ∧ ((74 : Nat) = (74 : Nat) ∧ nd = nd) ∧ ((3 : Nat) = (3 : Nat) ∧ wr = wr) ∧ True) ∧ True ∧ word = word ∧ l = l ∧ Lib.pow10Tab = Lib.pow10Tab ∧ True) ∧ ∀ (x : Nat), x ≤ l.length ∧ l.length ≤ (10 : Nat) → (decide ((↑x : Int) < (↑l.length : Int)) = true → (0 : Int) ≤ (↑x : Int) ∧ (↑x : Int) < (↑l.length : Int) ∧ True ∧ [(32 : UInt8)].length + (Lib.itoa (l.getD (↑x : Int).toNat (0 : Int))).length ≤ maxLen ∧ (putS word (List.take x l)).length + ((32 : UInt8) :: Lib.itoa (l.getD (↑x : Int).toNat (0 : Int))).length ≤ maxLen ∧ inK IntKind.i64 ((↑x : Int) + (1 : Int)) ∧ ∃ (x_1 : Nat), (x_1 ≤ l.length ∧ l.length ≤ (10 : Nat)) ∧ l.length - x_1 < l.length - x ∧ (True ∧ (putS word (List.take x l)).append ((32 : UInt8) :: Lib.itoa (l.getD (↑x : Int).toNat (0 : Int))) = putS word (List.take x_1 l) ∧ l = l ∧ (↑l.length : Int) = (↑l.length : Int) ∧ (↑x : Int) + (1 : Int) = (↑x_1 : Int) ∧ True) ∧ ((True ∧ True ∧ True ∧ m = m ∧ True) ∧ (True ∧ True ∧ True) ∧ txt = txt ∧ ((74 : Nat) = (74 : Nat) ∧ nd = nd) ∧ ((3 : Nat) = (3 : Nat) ∧ wr = wr) ∧ True) ∧ True ∧ word = word ∧ l = l ∧ Lib.pow10Tab = Lib.pow10Tab ∧ True) ∧ (decide ((↑x : Int) < (↑l.length : Int)) = false → ((putS word (List.take x l)).length + [(32 : UInt8)].length ≤ maxLen ∧ SumOk (putS word (List.take x l)) ∧ True ∧ ((putS word (List.take x l)).append [(32 : UInt8)]).length + (Lib.itoa (sumF (putS word (List.take x l)))).length ≤ maxLen ∧ (((putS word (List.take x l)).append [(32 : UInt8)]).append (Lib.itoa (sumF (putS word (List.take x l))))).length + [(10 : UInt8)].length ≤ maxLen ∧ True) ∧ txt.length + ((((putS word (List.take x l)).append [(32 : UInt8)]).append (Lib.itoa (sumF (putS word (List.take x l))))).append [(10 : UInt8)]).length ≤ (1000000000 : Nat) ∧ inK IntKind.i64 (m + (1 : Int)) ∧ k (SV.tp []) [Ob.st (53 : Nat) [SV.ps (1 : Nat), SV.sf (0 : Nat) (1 : Nat), SV.os (2 : Nat), SV.d (I) (m + (1 : Int))], Ob.st (68 : Nat) [SV.os (3 : Nat), SV.os (4 : Nat)], Ob.buf (5 : Nat) (txt ++ (((putS word (List.take x l)).append [(32 : UInt8)]).append (Lib.itoa (sumF (putS word (List.take x l))))).append [(10 : UInt8)]), Ob.row (74 : Nat) (Ty.ar (4 : Nat) (tV).sl) nd, Ob.row (3 : Nat) (I) wr])) := by kernel_rfl
end Go.Proofs.YthdbbgajmgjfcaaDoor

/- Books: sums and digits of a line; a line put down: the proofs. -/
namespace Go.Proofs.YthdbbgajmgjfcaaDoor
open Go.Vc Go.Proofs Go.RowKit
theorem sbyt_len (s : List UInt8) : List.length (sbyt s) = s.length := by simp [sbyt]
theorem sbyt_get (s : List UInt8) (i : Nat) : List.getD (sbyt s) i (0 : Int) = ((s.getD i 0).toNat : Int) := by
  simp only [sbyt, List.getD_eq_getElem?_getD, List.getElem?_map]
  cases s[i]? <;> rfl
theorem sq_le {x : Nat} (h : x ≤ 1000000) : x * x ≤ 1000000000000 := Nat.mul_le_mul h h
theorem sum_step (s : List UInt8) {x : Nat} (hx : x < 1000000) : (((x : Int) + 1) * ((s.getD x 0).toNat : Int) = (((x + 1) * (s.getD x 0).toNat : Nat) : Int)) ∧ (x + 1) * (s.getD x 0).toNat ≤ 1000000 * 255 := by
  refine ⟨by rw [Int.natCast_mul]; rfl, Nat.mul_le_mul (by omega) ?_⟩
  have := (s.getD x 0).toNat_lt; omega
theorem sumN_bound (s : List UInt8) {x : Nat} (hx : x ≤ 1000000) : sumN s x ≤ 255000000000000 := by
  have h1 := sumN_le s x
  have h2 := sq_le hx
  omega
theorem okSumB [Dn] : PlainOk Tryd.prog [] 33 cSum := by
  refine plain_of (CxOk.mk' Es_ok (by kernel_rfl) mixed (gl := []) GOk.nil GoOk.nil noIt) Tryd.func33 (c := Tryd.f33.body.getD .skip) (rvs := [(.tmp 2, I)]) (by kernel_rfl) (by kernel_rfl) (by kernel_rfl) ?_
  intro ds k ⟨hp, hk⟩ hwf
  obtain ⟨s, rfl, hs⟩ := dest1 hp
  have hl := hs.le
  refine ⟨anSumB s, ?_⟩
  have hk : k [⟨I, sumF s⟩] := hk
  rw [vcSumB]
  simp only [sbyt_len, sbyt_get, Int.toNat_natCast, decide_eq_true_eq, decide_eq_false_iff_not, true_and, and_true, Nat.le_eq, inK_i64, Int.ofNat_lt, ne_eq, Int.reduceEq, not_false_eq_true]
  refine ⟨⟨0, Nat.zero_le _, rfl, rfl⟩, fun x hx => ⟨fun hlt => ?_, fun hge => ?_⟩⟩
  · obtain ⟨e1, e2⟩ := sum_step s (x := x) (by omega)
    have e3 := sumN_bound s (x := x) (by omega)
    have e4 : (s.getD x 0).toNat ≤ 255 := by have := (s.getD x 0).toNat_lt; omega
    rw [e1]
    refine ⟨by omega, by omega, by omega, by omega, by omega, by omega, by omega, x + 1, by omega, by omega, ?_, by omega⟩
    simp only [sumN]; omega
  · have : x = s.length := by omega
    subst this
    have e3 := sumN_bound s hl
    rw [Int.tmod_eq_emod_of_nonneg (by omega)]
    exact ⟨by omega, hk⟩
theorem okSumR [Dn] : PlainOk Tryd.prog [] 18 cSum := by
  refine plain_of (CxOk.mk' Es_ok (by kernel_rfl) mixed (gl := []) GOk.nil GoOk.nil noIt) Tryd.func18 (c := Tryd.f18.body.getD .skip) (rvs := [(.tmp 2, I)]) (by kernel_rfl) (by kernel_rfl) (by kernel_rfl) ?_
  intro ds k ⟨hp, hk⟩ hwf
  obtain ⟨s, rfl, hs⟩ := dest1 hp
  have hl := hs.le
  refine ⟨anSumR s, ?_⟩
  have hk : k [⟨I, sumF s⟩] := hk
  rw [vcSumR]
  have one : (1 : I.D) = (1 : Int) := rfl
  simp only [one, decide_eq_true_eq, decide_eq_false_iff_not, true_and, and_true, Nat.le_eq, inK_i64, ne_eq, Int.reduceEq, not_false_eq_true]
  have hL := sumN_bound s hl
  refine ⟨by omega, ⟨s.length, Nat.le_refl _, by omega, by omega⟩, fun x hx => ⟨fun hge => ?_, fun hlt => ?_⟩⟩
  · obtain ⟨y, rfl⟩ : ∃ y, x = y + 1 := ⟨x - 1, by omega⟩
    have et : (((y + 1 : Nat) : Int) - 1).toNat = y := by omega
    rw [et]
    obtain ⟨e1, e2⟩ := sum_step s (x := y) (by omega)
    have e3 := sumN_bound s (x := y) (by omega)
    have e5 := sumN_mono s hx
    have e4 : (s.getD y 0).toNat ≤ 255 := by have := (s.getD y 0).toNat_lt; omega
    have e6 : ((y + 1 : Nat) : Int) - 1 + 1 = (y : Int) + 1 := by omega
    have e7 : sumN s (y + 1) = sumN s y + (y + 1) * (s.getD y 0).toNat := rfl
    rw [e6, e1]
    refine ⟨by omega, by omega, by omega, by omega, by omega, by omega, by omega, y, by omega, by omega, ?_, by omega⟩
    omega
  · have : x = 0 := by omega
    subst this
    simp only [sumN, Int.natCast_zero, Int.sub_zero]
    rw [Int.tmod_eq_emod_of_nonneg (by omega)]
    exact ⟨by omega, hk⟩
theorem dig_small : ∀ n : Fin 10, List.drop n.1 (List.take (n.1 + 1) [(48 : UInt8), 49, 50, 51, 52, 53, 54, 55, 56, 57]) = [UInt8.ofNat (48 + n.1)] := by decide
theorem decDig_le {n : Nat} (h : n < 9223372036854775808) : (Lib.decDigits n).length ≤ 20 := by
  rw [Lib.decDigits_length]
  have := nDig_le 18 n (by omega)
  omega
theorem okDig [Dn] : ∀ d, PlainOk Tryd.prog [] 17 (cDig d)
  | 0 => by
    intro ds k ⟨hp, hk⟩
    obtain ⟨n, rfl, h1, h2⟩ := dest1 hp
    omega
  | d + 1 => by
    refine plain_of (CxOk.mk' Es_ok (by kernel_rfl) mixed (gl := []) (GOk.cons (okDig d) Tryd.func17 (by kernel_rfl) (by kernel_rfl) GOk.nil) GoOk.nil noIt) Tryd.func17 (c := Tryd.f17.body.getD .skip) (rvs := [(.tmp 2, .str)]) (by kernel_rfl) (by kernel_rfl) (by kernel_rfl) ?_
    intro ds k ⟨hp, hk⟩ hwf
    obtain ⟨n, rfl, h1, h2⟩ := dest1 hp
    refine ⟨[joinAll], ?_⟩
    have hk : k [⟨.str, Lib.decDigits (n : Int).toNat⟩] := hk
    have hn : inK .i64 n := hwf _ (List.mem_singleton.2 rfl)
    change @LE.le Int _ 0 n at h1
    change @LT.lt Nat _ (@Int.toNat n) (d + 1) at h2
    clear hp hwf
    revert n
    intro (n : Int) _ hk hn h1 h2
    have hn := inK_i64.1 hn
    rw [vcDig]
    simp only [decide_eq_true_eq, decide_eq_false_iff_not, inK_i64, ne_eq, Int.reduceEq, not_false_eq_true, true_and]
    refine ⟨fun hlt => ⟨by omega, h1, by omega, by simp; omega, ?_⟩, fun hge => ?_⟩
    · have e := dig_small ⟨n.toNat, by omega⟩
      have e2 : (n + 1).toNat = n.toNat + 1 := by omega
      rw [e2, e]
      have e3 : Lib.decDigits n.toNat = [UInt8.ofNat (48 + n.toNat)] := by rw [Lib.decDigits, dif_pos (by omega)]
      rw [← e3]; exact hk
    · have q1 : n.tdiv 10 = n / 10 := Int.tdiv_eq_ediv_of_nonneg h1
      have q2 : n.tmod 10 = n % 10 := Int.tmod_eq_emod_of_nonneg h1
      rw [q1, q2]
      have t1 : (n / 10).toNat = n.toNat / 10 := by omega
      have t2 : (n % 10).toNat = n.toNat % 10 := by omega
      rw [t1, t2]
      refine ⟨by omega, ⟨by omega, by omega⟩, by omega, ⟨by omega, by omega⟩, ?_, ?_⟩
      · have l1 := decDig_le (n := n.toNat / 10) (by omega)
        have l2 := decDig_le (n := n.toNat % 10) (by omega)
        simp only [maxLen]; omega
      · have e3 : Lib.decDigits n.toNat = List.append (Lib.decDigits (n.toNat / 10)) (Lib.decDigits (n.toNat % 10)) := by
          rw [Lib.decDigits, dif_neg (by omega)]
          conv => rhs; rw [Lib.decDigits.eq_def (n.toNat % 10), dif_pos (show n.toNat % 10 < 10 by omega)]
          rfl
        rw [← e3]; exact hk
theorem okDigits [Dn] : PlainOk Tryd.prog [] 17 cDigits := by
  intro ds k ⟨hp, hk⟩
  obtain ⟨n, rfl, h1⟩ := dest1 hp
  have h1 : @LE.le Int _ 0 n := h1.nn
  exact okDig (n.toNat + 1) [⟨I, n⟩] k ⟨⟨h1, Nat.lt_succ_self _⟩, hk⟩
theorem putS_succ (word : List UInt8) (l : List Int) {x : Nat} (hx : x < l.length) : putS word (l.take (x + 1)) = List.append (putS word (l.take x)) (List.append [32] (Lib.itoa (l.getD x 0))) := by
  rw [List.take_succ_eq_append_getElem hx, putS, List.foldl_append, List.getD_eq_getElem?_getD, List.getElem?_eq_getElem hx]
  rfl
theorem putS_len (word : List UInt8) : ∀ (l : List Int), (∀ n ∈ l, inK .i64 n) → (putS word l).length ≤ word.length + 21 * l.length := by
  intro l
  unfold putS
  induction l generalizing word with
  | nil => intro _; simp
  | cons n l ih =>
    intro h
    have h1 := ih (List.append word (List.append [32] (Lib.itoa n))) fun m hm => h m (List.mem_cons_of_mem _ hm)
    have h2 := itoa_len (h n List.mem_cons_self)
    have h3 : (List.append word (List.append [32] (Lib.itoa n))).length = word.length + (1 + (Lib.itoa n).length) := by
      show (word ++ ([32] ++ Lib.itoa n)).length = _
      simp only [List.length_append, List.length_cons, List.length_nil]
    rw [h3] at h1
    simp only [List.foldl_cons, List.length_cons]
    omega
theorem sumF_k (s : List UInt8) : inK .i64 (sumF s) := by
  have := inK_i64 (n := sumF s)
  rw [this]
  unfold sumF
  omega
theorem ownPut [Dn] : OwnOk Tryd.prog glT 20 oPut := by
  refine own_of (CxOk.mk' Es_ok (by kernel_rfl) mixed (gl := glT) (GOk.cons (okSumB.lift) Tryd.func33 (by kernel_rfl) (by kernel_rfl) (GOk.cons okItoa Tryd.func31 (by kernel_rfl) (by kernel_rfl) GOk.nil)) (GoOk.cons ownWS.lift Tryd.func32 (by kernel_rfl) (by kernel_rfl) GoOk.nil) noIt) Tryd.func20 (c := Tryd.f20.body.getD .skip) (rvs := []) (by kernel_rfl) (by kernel_rfl) (by kernel_rfl) ?_
  intro args ob k h hwa hwo
  unfold oPut at h
  split at h
  · rename_i word l m txt nd wr
    obtain ⟨⟨h1, h2, h3, h4⟩, hk⟩ := h
    have hl : ∀ n ∈ l, inK .i64 n := by
      have := hwa (.d (.sl I) l) (by simp)
      exact this.2
    have h2a : @LE.le Int _ (0 : Int) m := h2.1
    have h2b : @LE.le Int _ m (1000 : Int) := h2.2
    refine ⟨anPut word l, ?_⟩
    show vcO _ _ _ _ _ [.ps 0, .d .str word, .d (.sl I) l] (obBk (nd, wr, ()) txt m) k
    rw [vcPut]
    have hlk : ∀ x, (Lib.itoa (l.getD x 0)).length ≤ 20 ∨ l.length ≤ x := by
      intro x
      by_cases hx : x < l.length
      · left
        rw [List.getD_eq_getElem?_getD, List.getElem?_eq_getElem hx]
        exact itoa_len (hl _ (List.getElem_mem hx))
      · right; omega
    have hpl : ∀ x, x ≤ l.length → (putS word (l.take x)).length ≤ 300 := by
      intro x hx
      have := putS_len word (l.take x) fun n hn => hl n (List.mem_of_mem_take hn)
      rw [List.length_take] at this
      omega
    have ea : ∀ (m n : List UInt8), List.append m n = m ++ n := fun _ _ => rfl
    have eml : maxLen = 9223372036854775807 := rfl
    simp only [ea, List.length_append, List.length_cons, List.length_nil, decide_eq_true_eq, decide_eq_false_iff_not, true_and, and_true, Int.toNat_natCast, inK_i64, Int.ofNat_lt]
    refine ⟨⟨0, ⟨Nat.zero_le _, h4⟩, by simp [putS], rfl⟩, fun x ⟨hx, _⟩ => ⟨fun hlt => ?_, fun hge => ?_⟩⟩
    · have h5 := (hlk x).resolve_right (by omega)
      have h6 := hpl x hx
      refine ⟨by omega, hlt, by omega, by omega, by omega, x + 1, ⟨by omega, h4⟩, by omega, ?_, by omega⟩
      rw [putS_succ word l hlt]
      rfl
    · have : x = l.length := by omega
      subst this
      rw [List.take_length]
      have h6 := hpl l.length (Nat.le_refl _)
      rw [List.take_length] at h6
      have h7 := itoa_len (sumF_k (putS word l))
      refine ⟨⟨by omega, ⟨by omega⟩, by omega, by omega⟩, by omega, by omega, hk⟩
  · exact h.elim
end Go.Proofs.YthdbbgajmgjfcaaDoor

namespace Go.Proofs.YthdbbgajmgjfcaaDoor
open Go.RowKit Go.Extern.Stop Go.Stop Go.Extern

/-- errors.As(nil, target). -/
theorem as_nil (t : Value) (w : World) :
    Calls Tryd.prog 26 #[.nilIface, t] w fun e w' => e = .returned (.bool false) ∧ w' = w := by
  go_enter Tryd.func26, Tryd.ntmps26
  go_wp2
  go_ret
  exact ⟨rfl, rfl⟩

/-! ### CLOSED FACTS ON THE MODEL's ENTRIES FOR internal/reflectlite, at this program's types: 25: *p.E · 27: **p.E · 23: error · 45: reflectlite's rtype · 1: how many package-level variables the dump has -/
theorem Tas.valueOf27 (t : Addr) (w : World) : (ReflectliteValue.unpack (.iface 70 (.pointer (some t)))).run Tryd.prog w
    = .ok (.agg #[.pointer (some ⟨4, 70, none⟩), .pointer (some ⟨w.heap.size, 0, none⟩), .int .u64 150]) (w.alloc (.cells #[.pointer (some t)] 70)) := by kernel_rfl
theorem Tas.type27 (a : Addr) (w : World) : (ReflectliteValue.methodAny (ReflectliteValue.valueError "reflectlite.Value.Type" 0) (fun t _ _ _ => ReflectliteType.toType t) #[.agg #[.pointer (some ⟨4, 70, none⟩), .pointer (some a), .int .u64 150]]).run Tryd.prog w
    = .ok (.iface 104 (.agg #[.pointer (some ⟨4, 70, none⟩)])) w := by kernel_rfl
theorem Tas.methodKind (h : Value) (w : World) : (Go.method 277 104 (.agg #[h]) "Kind").run Tryd.prog w = .ok (98, h) w := by kernel_rfl
theorem Tas.kind27 (w : World) : ((ReflectliteType.abiMethod fun t => (fun a : Nat => Value.int IntKind.u8 (a : Int)) <$> Rtype.kind t) #[.pointer (some ⟨4, 70, none⟩)]).run Tryd.prog w = .ok (.int .u8 22) w := by kernel_rfl
theorem Tas.kind25 (w : World) : ((ReflectliteType.abiMethod fun t => (fun a : Nat => Value.int IntKind.u8 (a : Int)) <$> Rtype.kind t) #[.pointer (some ⟨4, 54, none⟩)]).run Tryd.prog w = .ok (.int .u8 2) w := by kernel_rfl

/-! ### THE ENTRIES THAT READ OR WRITE MEMORY: laws with a premise on the cell (after Derived/Lib/ReflectliteSlice.lean's manner: each unfolding a lemma of its own, by rfl) -/
theorem rlm (z : Sem Value) (f : TypeId → Addr → Nat → Nat → Sem Value) (v : Value) :
    ReflectliteValue.method z f #[v] = (do match ← ReflectliteValue.parts v with | none => z | some (t, a, fl) => f t a fl (fl % 32)) := rfl
theorem Tas.parts27 (a : Addr) (w : World) : (ReflectliteValue.parts (.agg #[.pointer (some ⟨4, 70, none⟩), .pointer (some a), .int .u64 150])).run Tryd.prog w = .ok (some (70, a, 150)) w := by kernel_rfl
/-- (Value).IsNil at the Value of a **p.E that is not nil. -/
theorem Tas.isNil27 (a p : Addr) (W : World) (ha : W.cell? a = some (.pointer (some p))) :
    (ReflectliteValue.method (ReflectliteValue.valueError "reflectlite.Value.IsNil" 0) ReflectliteValue.isNil #[.agg #[.pointer (some ⟨4, 70, none⟩), .pointer (some a), .int .u64 150]]).run Tryd.prog W = .ok (.bool false) W := by
  rw [rlm]
  simp only [Sem.run_bind, Tas.parts27, Result.andThen]
  simp [ReflectliteValue.isNil, loadVar, isAgg, underlying, Tryd.underlying70, ha, Result.andThen]

theorem Tas.methodElem (h : Value) (w : World) : (Go.method 277 104 (.agg #[h]) "Elem").run Tryd.prog w = .ok (109, .agg #[h]) w := by kernel_rfl
theorem Tas.methodImplements (h : Value) (w : World) : (Go.method 277 104 (.agg #[h]) "Implements").run Tryd.prog w = .ok (110, .agg #[h]) w := by kernel_rfl
theorem Tas.methodAssignableTo (h : Value) (w : World) : (Go.method 277 104 (.agg #[h]) "AssignableTo").run Tryd.prog w = .ok (107, .agg #[h]) w := by kernel_rfl
theorem Tas.elem27 (w : World) : (ReflectliteType.method ReflectliteType.elem #[.agg #[.pointer (some ⟨4, 70, none⟩)]]).run Tryd.prog w = .ok (.iface 104 (.agg #[.pointer (some ⟨4, 54, none⟩)])) w := by kernel_rfl
theorem Tas.implements25 (w : World) : (ReflectliteType.relation "Implements" ReflectliteType.implements_ #[.agg #[.pointer (some ⟨4, 54, none⟩)], .iface 104 (.agg #[.pointer (some ⟨4, 25, none⟩)])]).run Tryd.prog w = .ok (.bool true) w := by kernel_rfl
theorem Tas.typeOf25 (v : Value) (w : World) : (ReflectliteType.typeOf #[.iface 54 v]).run Tryd.prog w = .ok (.iface 104 (.agg #[.pointer (some ⟨4, 54, none⟩)])) w := by kernel_rfl
theorem Tas.assignable25 (w : World) : (ReflectliteType.relation "AssignableTo" ReflectliteType.assignableTo #[.agg #[.pointer (some ⟨4, 54, none⟩)], .iface 104 (.agg #[.pointer (some ⟨4, 54, none⟩)])]).run Tryd.prog w = .ok (.bool true) w := by kernel_rfl
theorem Tas.valueOf25 (e : Int) (w : World) : (ReflectliteValue.unpack (.iface 54 (.int .i64 e))).run Tryd.prog w
    = .ok (.agg #[.pointer (some ⟨4, 54, none⟩), .pointer (some ⟨w.heap.size, 0, none⟩), .int .u64 130]) (w.alloc (.cells #[.int .i64 e] 54)) := by kernel_rfl

theorem Tas.elemOf27 (w : World) : (Rtype.elem? 70).run Tryd.prog w = .ok (some 54) w := by kernel_rfl
theorem Tas.mk25 (p : Addr) (w : World) : (ReflectliteValue.mk 54 p ReflectliteValue.flagAddr).run Tryd.prog w = .ok (.agg #[.pointer (some ⟨4, 54, none⟩), .pointer (some p), .int .u64 386]) w := by kernel_rfl
/-- (Value).Elem at the Value of a **p.E that is not nil: the Value of the *p.E variable that it points to, addressable. -/
theorem Tas.elemV27 (a p : Addr) (W : World) (ha : W.cell? a = some (.pointer (some p))) :
    (ReflectliteValue.method (ReflectliteValue.valueError "reflectlite.Value.Elem" 0) ReflectliteValue.elem #[.agg #[.pointer (some ⟨4, 70, none⟩), .pointer (some a), .int .u64 150]]).run Tryd.prog W
      = .ok (.agg #[.pointer (some ⟨4, 54, none⟩), .pointer (some p), .int .u64 386]) W := by
  rw [rlm]
  simp only [Sem.run_bind, Tas.parts27, Result.andThen]
  simp [ReflectliteValue.elem, loadVar, isAgg, underlying, Tryd.underlying70, ha, Result.andThen, Tas.elemOf27, Tas.mk25]
theorem rls (v x : Value) : ReflectliteValue.set #[v, x] = (do
    let (some (dst, a, fl), some (src, b, _)) := (← ReflectliteValue.parts v, ← ReflectliteValue.parts x)
      | unsupported (.noEntry "extern/(internal/reflectlite.Value).Set.zeroValue")
    if fl / ReflectliteValue.flagAddr % 2 == 0 then unsupported (.noEntry "extern/(internal/reflectlite.Value).Set.unaddressable")
    let val ← loadVar src b
    if ← Rtype.directlyAssignable dst src then storeVar dst a val
    else if ← Rtype.implements dst src then
      if (← Rtype.kind src) == 20 then
        match val with
        | .nilIface => unsupported (.noEntry "extern/reflectlite: a nil value of one interface type handed on as a value of another")
        | _ => storeVar dst a val
      else storeVar dst a (.iface src val)
    else panicString ("reflectlite.Set: value of type " ++ (← Rtype.spelt src) ++ " is not assignable to type " ++ (← Rtype.spelt dst))
    pure (.tuple #[])) := rfl
theorem Tas.parts25a (a : Addr) (w : World) : (ReflectliteValue.parts (.agg #[.pointer (some ⟨4, 54, none⟩), .pointer (some a), .int .u64 386])).run Tryd.prog w = .ok (some (54, a, 386)) w := by kernel_rfl
theorem Tas.parts25 (a : Addr) (w : World) : (ReflectliteValue.parts (.agg #[.pointer (some ⟨4, 54, none⟩), .pointer (some a), .int .u64 130])).run Tryd.prog w = .ok (some (54, a, 130)) w := by kernel_rfl
theorem Tas.direct25 (w : World) : (Rtype.directlyAssignable 54 54).run Tryd.prog w = .ok true w := by kernel_rfl
theorem Tas.size25 (w : World) : (sizeOf 54).run Tryd.prog w = .ok 1 w := by kernel_rfl
/-- (Value).Set: the *p.E variable at 'ta' gets what the Value's own variable 'b' holds. -/
theorem Tas.set25 (ta b : Addr) (e : Int) (old : Value) (W : World) (hb : W.cell? b = some (.int .i64 e)) (ht : W.cell? ta = some old) (hf : W.frozen? ta = false) :
    (ReflectliteValue.set #[.agg #[.pointer (some ⟨4, 54, none⟩), .pointer (some ta), .int .u64 386], .agg #[.pointer (some ⟨4, 54, none⟩), .pointer (some b), .int .u64 130]]).run Tryd.prog W
      = .ok (.tuple #[]) (W.setCell ta (.int .i64 e)) := by
  rw [rls]
  simp only [Sem.run_bind, Tas.parts25a, Tas.parts25, Result.andThen]
  simp [ReflectliteValue.flagAddr, loadVar, isAgg, underlying, Tryd.underlying54, hb, Result.andThen, Tas.direct25, storeVar, Value.cells, storeCells, Addr.add]
  rw [run_store Tryd.prog W ta _ _ (by rfl)]
  simp [ht, hf]

set_option maxRecDepth 100000 in
set_option maxHeartbeats 4000000 in
theorem as_hit (e : Int) (t : Addr) (old : Value) (w : World) (hg : w.cell? ⟨0, 0, none⟩ = some (.iface 104 (.agg #[.pointer (some ⟨4, 25, none⟩)]))) (ht0 : w.cell? t = some old) (hf0 : w.frozen? t = false) :
    Calls Tryd.prog 26 #[.iface 54 (.int .i64 e), .iface 70 (.pointer (some t))] w fun ev w' => ev = .returned (.bool true) ∧ w' = ((((w.alloc (.cells #[.pointer (some t)] 70)).alloc (.cells #[.pointer (some ⟨4, 70, none⟩), .pointer (some ⟨w.heap.size, 0, none⟩), .int .u64 150] 88)).alloc (.cells #[.pointer (some ⟨4, 70, none⟩), .pointer (some ⟨w.heap.size, 0, none⟩), .int .u64 150] 88)).alloc (.cells #[.int .i64 e] 54)).setCell t (.int .i64 e) := by
  have h6 := @run_callFunc_extern Tryd.prog 41 _ (fun args => ReflectliteValue.unpack (args.getD 0 (.tuple #[]))) Tryd.func41 (by kernel_rfl) (by kernel_rfl) (by kernel_rfl) (by kernel_rfl)
  have h7 := @run_callFunc_extern Tryd.prog 42 _ (ReflectliteValue.methodAny (ReflectliteValue.valueError "reflectlite.Value.Type" 0) (fun t _ _ _ => ReflectliteType.toType t)) Tryd.func42 (by kernel_rfl) (by kernel_rfl) (by kernel_rfl) (by kernel_rfl)
  have h8 := @run_callFunc_extern Tryd.prog 43 _ (ReflectliteValue.method (ReflectliteValue.valueError "reflectlite.Value.IsNil" 0) ReflectliteValue.isNil) Tryd.func43 (by kernel_rfl) (by kernel_rfl) (by kernel_rfl) (by kernel_rfl)
  have h27 := @run_callFunc_extern Tryd.prog 98 _ (ReflectliteType.abiMethod fun t => do pure (.int .u8 (← Rtype.kind t))) Tryd.func98 (by kernel_rfl) (by kernel_rfl) (by kernel_rfl) (by kernel_rfl)
  have h37 := @run_callFunc_extern Tryd.prog 109 _ (ReflectliteType.method ReflectliteType.elem) Tryd.func109 (by kernel_rfl) (by kernel_rfl) (by kernel_rfl) (by kernel_rfl)
  have h38 := @run_callFunc_extern Tryd.prog 110 _ (ReflectliteType.relation "Implements" ReflectliteType.implements_) Tryd.func110 (by kernel_rfl) (by kernel_rfl) (by kernel_rfl) (by kernel_rfl)
  have h10 := @run_callFunc_extern Tryd.prog 53 _ ReflectliteType.typeOf Tryd.func53 (by kernel_rfl) (by kernel_rfl) (by kernel_rfl) (by kernel_rfl)
  have h35 := @run_callFunc_extern Tryd.prog 107 _ (ReflectliteType.relation "AssignableTo" ReflectliteType.assignableTo) Tryd.func107 (by kernel_rfl) (by kernel_rfl) (by kernel_rfl) (by kernel_rfl)
  have h11 := @run_callFunc_extern Tryd.prog 54 _ (ReflectliteValue.method (ReflectliteValue.valueError "reflectlite.Value.Elem" 0) ReflectliteValue.elem) Tryd.func54 (by kernel_rfl) (by kernel_rfl) (by kernel_rfl) (by kernel_rfl)
  have h12 := @run_callFunc_extern Tryd.prog 55 _ ReflectliteValue.set Tryd.func55 (by kernel_rfl) (by kernel_rfl) (by kernel_rfl) (by kernel_rfl)
  have tO := Tas.typeOf25
  have mA := Tas.methodAssignableTo
  have a25 := Tas.assignable25
  have v25 := Tas.valueOf25
  have f6 := Tas.valueOf27
  have f7 := Tas.type27
  have mK := Tas.methodKind
  have mE := Tas.methodElem
  have mI := Tas.methodImplements
  have k27 := Tas.kind27
  have k25 := Tas.kind25
  have e27 := Tas.elem27
  have i25 := Tas.implements25
  have n8 := Tas.isNil27 ⟨w.heap.size, 0, none⟩ t ((w.alloc (.cells #[.pointer (some t)] 70)).alloc (.cells #[.pointer (some ⟨4, 70, none⟩), .pointer (some ⟨w.heap.size, 0, none⟩), .int .u64 150] 88)) (by simp)
  have hlt : 0 < w.heap.size := by
    rcases Nat.eq_zero_or_pos w.heap.size with h0 | h
    · simp [World.cell?, h0] at hg
    · exact h
  have hg2 : ((w.alloc (.cells #[.pointer (some t)] 70)).alloc (.cells #[.pointer (some ⟨4, 70, none⟩), .pointer (some ⟨w.heap.size, 0, none⟩), .int .u64 150] 88)).cell? ⟨0, 0, none⟩ = some (.iface 104 (.agg #[.pointer (some ⟨4, 25, none⟩)])) := by
    rw [World.cell?_alloc_lt _ _ ⟨0, 0, none⟩ (by simp), World.cell?_alloc_lt _ _ ⟨0, 0, none⟩ hlt]; exact hg
  have htl : t.block < w.heap.size := by
    rcases Nat.lt_or_ge t.block w.heap.size with h | h
    · exact h
    · simp [World.cell?, Array.getElem?_eq_none h] at ht0
  have el := Tas.elemV27 ⟨w.heap.size, 0, none⟩ t (((w.alloc (.cells #[.pointer (some t)] 70)).alloc (.cells #[.pointer (some ⟨4, 70, none⟩), .pointer (some ⟨w.heap.size, 0, none⟩), .int .u64 150] 88)).alloc (.cells #[.pointer (some ⟨4, 70, none⟩), .pointer (some ⟨w.heap.size, 0, none⟩), .int .u64 150] 88)) (by rw [World.cell?_alloc_lt _ _ ⟨w.heap.size, 0, none⟩ (by simp; omega)]; simp)
  have st := Tas.set25 t ⟨w.heap.size + 1 + 1 + 1, 0, none⟩ e old ((((w.alloc (.cells #[.pointer (some t)] 70)).alloc (.cells #[.pointer (some ⟨4, 70, none⟩), .pointer (some ⟨w.heap.size, 0, none⟩), .int .u64 150] 88)).alloc (.cells #[.pointer (some ⟨4, 70, none⟩), .pointer (some ⟨w.heap.size, 0, none⟩), .int .u64 150] 88)).alloc (.cells #[.int .i64 e] 54))
    (by rw [World.cell?_alloc_at _ _ _ _ (by simp)]; rfl)
    (by rw [World.cell?_alloc_lt _ _ t (by simp; omega), World.cell?_alloc_lt _ _ t (by simp; omega), World.cell?_alloc_lt _ _ t (by simp; omega), World.cell?_alloc_lt _ _ t htl]; exact ht0)
    (by rw [World.frozen?_alloc_old _ _ t (by simp; omega), World.frozen?_alloc_old _ _ t (by simp; omega), World.frozen?_alloc_old _ _ t (by simp; omega), World.frozen?_alloc_old _ _ t (Nat.ne_of_lt htl)]; exact hf0)
  go_enter Tryd.func26, Tryd.ntmps26
  go_wp2
  refine wp_loop_rounds 1 ?_
  rw [rounds_succ]
  go_wp2
  go_ret
  exact ⟨rfl, rfl⟩
end Go.Proofs.YthdbbgajmgjfcaaDoor

/- The number of an error, as the program tells it; is an error the one with a number? -/
namespace Go.Proofs.YthdbbgajmgjfcaaDoor
open Go.RowKit Go.Extern.Stop Go.Stop Go.Extern Go.Vc

theorem fr_alloc (w : World) (o : Obj) : Fr (fun _ => False) w (w.alloc o) := ⟨rfl, rfl, rfl, by simp, fun b hb _ => Ext.alloc w o b hb, fun _ => Nat.le_refl _⟩

theorem told_nil (w : World) : Calls Tryd.prog 14 #[.nilIface] w fun e w' => e = .returned (.int .i64 0) ∧ w' = w := by
  go_enter Tryd.func14, Tryd.ntmps14
  go_wp2
  go_ret
  exact ⟨rfl, rfl⟩

set_option maxRecDepth 100000 in
set_option maxHeartbeats 4000000 in
theorem told_hit (n : Int) (w : World) (hg : w.cell? ⟨0, 0, none⟩ = some (.iface 104 (.agg #[.pointer (some ⟨4, 25, none⟩)]))) :
    Calls Tryd.prog 14 #[.iface 54 (.int .i64 n)] w fun e w' => e = .returned (.int .i64 n) ∧ Fr (fun _ => False) w w' := by
  have hlt : 0 < w.heap.size := World.block_lt_of_cell? w ⟨0, 0, none⟩ hg
  have hgA : (w.alloc (.cells #[.int .i64 0] 54)).cell? ⟨0, 0, none⟩ = some (.iface 104 (.agg #[.pointer (some ⟨4, 25, none⟩)])) := by
    rw [World.cell?_alloc_lt _ _ ⟨0, 0, none⟩ hlt]; exact hg
  have htA : (w.alloc (.cells #[.int .i64 0] 54)).cell? ⟨w.heap.size, 0, none⟩ = some (.int .i64 0) := by simp
  have hfA : (w.alloc (.cells #[.int .i64 0] 54)).frozen? ⟨w.heap.size, 0, none⟩ = false := by simp
  go_enter Tryd.func14, Tryd.ntmps14
  go_wp2_with (go_at_call 26; refine (as_hit n _ (.int .i64 0) _ hgA htA hfA).mono ?_; rintro e w' ⟨rfl, rfl⟩)
  go_ret
  exact ⟨rfl, ((((fr_alloc _ _).trans (fr_alloc _ _)).trans (fr_alloc _ _)).trans (fr_alloc _ _)).trans (fr_alloc _ _)⟩

/-- the handle of the type 'error' -/
abbrev hdE : Value := .iface 104 (.agg #[.pointer (some ⟨4, 25, none⟩)])
def glE : List (Nat × Dat) := [(0, ⟨.raw, hdE⟩)]
theorem hd_of {w : World} {ro : Nat → Prop} (h : GlOk glE w ro) : w.cell? ⟨0, 0, none⟩ = some hdE := by
  obtain ⟨_, us, h1, hn⟩ := h 0 _ (List.mem_singleton.2 rfl)
  have hn : us = [hdE] ∧ hdE.oneCell' = true := hn
  exact h1 0 hdE (by rw [hn.1]; rfl)
def cTold : Ctr := cdet [tErr] (fun (n : Int) => inK .i64 n) (fun (n : Int) => [⟨I, n⟩])
theorem okTold : PlainOk Tryd.prog glE 14 cTold := by
  intro ds k hs w R0 vals hR0 hG hD
  obtain ⟨hp, hk⟩ := hs
  obtain ⟨n, rfl, hin⟩ := dest1 hp
  have hk : k [⟨I, n⟩] := hk
  obtain ⟨hl, hd⟩ := hD
  match vals, hl with
  | [v], _ =>
    have hv : Ty.okV w R0 tErr n v := hd 0 ⟨tErr, n⟩ v rfl rfl
    unfold Ty.okV at hv
    simp only [Ty.agg, Bool.false_eq_true, if_false, Ty.ok] at hv
    have hok : ∀ {w' : World} {ro : Nat → Prop}, inK .i64 n → RetOk w' ro [(⟨I, n⟩ : Dat)] (.int .i64 n) := by
      intro w' ro hn
      show Ty.okV _ _ I n _
      unfold Ty.okV
      simp only [Ty.agg, Bool.false_eq_true, if_false, Ty.ok]
      exact ⟨trivial, hn⟩
    rcases hv with ⟨h0, hv⟩ | ⟨h0, hv⟩
    · injection hv with hv
      subst hv
      have h0 : (0 : Int) = n := h0.symm
      subst h0
      refine (show Calls Tryd.prog 14 #[.nilIface] w _ from told_nil w).mono fun e w' ⟨he, hw⟩ => ?_
      subst hw
      exact ⟨Fr.refl _ _, [⟨I, (0 : Int)⟩], _, he, hk, hok hin⟩
    · injection hv with hv
      subst hv
      refine (show Calls Tryd.prog 14 #[.iface 54 (.int .i64 n)] w _ from told_hit n w (hd_of hG)).mono fun e w' ⟨he, hw⟩ => ?_
      exact ⟨hw, [⟨I, n⟩], _, he, hk, hok hin⟩
theorem PlainOk.sub {P : Program} {gl gl' : List (Nat × Dat)} {f : FuncId} {c : Ctr} (hs : ∀ x ∈ gl, x ∈ gl') (h : PlainOk P gl f c) : PlainOk P gl' f c :=
  fun ds k hk w R0 vals hR0 hG hD => h ds k hk w R0 vals hR0 (fun g d hg => hG g d (hs _ hg)) hD
def cError : Ctr := cdet [tErr, I] (fun (n _ : Int) => inK .i64 n ∧ True) (fun (n e : Int) => [⟨.bool, decide (n = e)⟩])
def Er : Env := { tys := [(3, I), (4, .bool), (25, tErr), (54, I)], errT := 54, eqs := [], els := [] }
theorem Er_ok : EnvOk Tryd.prog Er := EnvOk.of_list (by kernel_rfl) (by kernel_rfl) (by kernel_rfl)
set_option linter.unusedVariables false in
theorem vcError (n e : Int) (k : List Dat → Prop) : vcF ⟨Er, [(14, cTold)], glE, [], []⟩ [] (Tryd.f5.body.getD .skip) Tryd.f5.ntmps [(.tmp 4, .bool)] [⟨tErr, n⟩, ⟨I, e⟩] k = (
  IntKind.i64.wrap n = n ∧ k [Dat.mk Ty.bool (decide (n = e))]) := by kernel_rfl
theorem okError : PlainOk Tryd.prog glE 5 cError := by
  refine plain_of (CxOk.mk' Er_ok rfl (by kernel_rfl) (gl := glE) (GOk.cons okTold Tryd.func14 (by kernel_rfl) (by kernel_rfl) GOk.nil) GoOk.nil noIt) Tryd.func5 (c := Tryd.f5.body.getD .skip) (rvs := [(.tmp 4, .bool)]) (by kernel_rfl) (by kernel_rfl) (by kernel_rfl) ?_
  intro ds k ⟨hp, hk⟩ hwf
  obtain ⟨n, e, rfl, hin, -⟩ := dest2 hp
  have hk : k [⟨.bool, decide (n = e)⟩] := hk
  refine ⟨[], ?_⟩
  rw [vcError]
  exact ⟨hin, hk⟩
theorem glE_of {laid : List (String × DataW Unit)} (hm : ("errors.errorType", Rows.laid_errors_errorType) ∈ laid) {W : World} (h : laidMetH Tryd.prog laid W) : GlOk glE W fun b => b < W.heap.size :=
  gl_of_handle (n := "errors.errorType") (u := 104) (ty := 25) (d := Rows.laid_errors_errorType) h hm rfl rfl (by kernel_rfl) (by kernel_rfl) (by kernel_rfl) (by kernel_rfl) rfl
end Go.Proofs.YthdbbgajmgjfcaaDoor

/- Books: what their methods do, and what the reference's putting does. -/
namespace Go.Proofs.YthdbbgajmgjfcaaDoor
open Go.Vc Go.Proofs Go.RowKit
abbrev BS := Net × List UInt8 × Int
abbrev tRB : Ty := .pr tRN (.pr .str (.pr I .un))
abbrev RB := RN × List UInt8 × Int × Unit
def rb0 : RB := ((0, [], [], ()), [], 0, ())
def Ek : Env := { Eg with tys := (5, .int .u8) :: (49, .sl (.int .u8)) :: (53, tBk) :: (23, .ptr tBk) :: (32, tRN) :: (35, tRB) :: Eg.tys, pb := [53] }
theorem Ek_ok : EnvOk Tryd.prog Ek := EnvOk.of_list (by kernel_rfl) (by kernel_rfl) (by kernel_rfl)
/-- a new book as it is made: its builder is not yet in use -/
def obNew0 (t : Net) : List Ob := [.st 53 [.ps 1, .d (.ptr .un) none, .nils, .d I (0 : Int)], .st 68 [.os 2, .os 3], .row 74 tRow t.1, .row 3 I t.2.1]
def oBNew0 : OCtr := fun args ob k => match args, ob with
  | [.d (.int .i64) n], [] => (inB n 1 5 = false → k (.tp [.nilp, .d tErr (1 : Int)]) []) ∧ (inB n 1 5 = true → k (.tp [.ps 0, .d tErr (0 : Int)]) (obNew0 (newF (n : Int).toNat)))
  | _, _ => False
def oBNew : OCtr := fun args ob k => match args, ob with
  | [.d (.int .i64) n], [] => (inB n 1 5 = false → k (.tp [.nilp, .d tErr (1 : Int)]) []) ∧ (inB n 1 5 = true → k (.tp [.ps 0, .d tErr (0 : Int)]) (obBk (newF (n : Int).toNat) [] 0))
  | _, _ => False
/-- a line is written down, unless the book is full or the net refuses it -/
def bkE (m e : Int) : Int := if m = 60 then 4 else e
def bkT (t : Net) (txt : List UInt8) (m : Int) (e : Int) (t' : Net) (line : List UInt8) : BS := if bkE m e = 0 then (t', List.append txt line, m + 1) else (t, txt, m)
def oBW : OCtr := fun args ob k => match args, ob with
  | [.ps 0, .d (.int .i64) p, .d (.int .i64) q, .d (.int .i64) v], [.st 53 [.ps 1, .sf 0 1, .os 2, .d (.int .i64) m], .st 68 [.os 3, .os 4], .buf 5 txt, .row 74 (.ar 4 (.sl (.pr (.sl (.int .i64)) (.pr (.int .i64) .un)))) nodes, .row 3 (.int .i64) wrote] =>
    (NetSh (nodes, wrote, ()) ∧ txt.length ≤ 900000000 ∧ ((0 : Int) ≤ (m : Int) ∧ (m : Int) ≤ (60 : Int))) ∧
    k (.d tErr (bkE m (writeE (nodes, wrote, ()) p q v))) (obBk (bkT (nodes, wrote, ()) txt m (writeE (nodes, wrote, ()) p q v) (writeT (nodes, wrote, ()) p q v) (lineF [119] [p, q, v])).1 (bkT (nodes, wrote, ()) txt m (writeE (nodes, wrote, ()) p q v) (writeT (nodes, wrote, ()) p q v) (lineF [119] [p, q, v])).2.1 (bkT (nodes, wrote, ()) txt m (writeE (nodes, wrote, ()) p q v) (writeT (nodes, wrote, ()) p q v) (lineF [119] [p, q, v])).2.2)
  | _, _ => False
def oBS : OCtr := fun args ob k => match args, ob with
  | [.ps 0, .d (.int .i64) a, .d (.int .i64) b], [.st 53 [.ps 1, .sf 0 1, .os 2, .d (.int .i64) m], .st 68 [.os 3, .os 4], .buf 5 txt, .row 74 (.ar 4 (.sl (.pr (.sl (.int .i64)) (.pr (.int .i64) .un)))) nodes, .row 3 (.int .i64) wrote] =>
    (NetSh (nodes, wrote, ()) ∧ txt.length ≤ 900000000 ∧ ((0 : Int) ≤ (m : Int) ∧ (m : Int) ≤ (60 : Int))) ∧
    k (.d tErr (bkE m (syncE (nodes, wrote, ()) a b))) (obBk (bkT (nodes, wrote, ()) txt m (syncE (nodes, wrote, ()) a b) (syncT (nodes, wrote, ()) a b) (lineF [115] [a, b])).1 (bkT (nodes, wrote, ()) txt m (syncE (nodes, wrote, ()) a b) (syncT (nodes, wrote, ()) a b) (lineF [115] [a, b])).2.1 (bkT (nodes, wrote, ()) txt m (syncE (nodes, wrote, ()) a b) (syncT (nodes, wrote, ()) a b) (lineF [115] [a, b])).2.2)
  | _, _ => False
def oBTxt : OCtr := fun args ob k => match args, ob with
  | [.ps 0], [.st 53 [.ps 1, .sf 0 1, .os 2, .d (.int .i64) m], .st 68 [.os 3, .os 4], .buf 5 txt, .row 74 (.ar 4 (.sl (.pr (.sl (.int .i64)) (.pr (.int .i64) .un)))) nodes, .row 3 (.int .i64) wrote] =>
    txt.length ≤ 1000000000 ∧ k (.d .str txt) (obBk (nodes, wrote, ()) txt m)
  | _, _ => False
/-- a book, and a row that was read -/
def obRd (t : Net) (txt : List UInt8) (m : Int) (r : List Va) : List Ob := [.st 53 [.ps 2, .sf 0 1, .os 3, .d I m], .row 63 tV r, .st 68 [.os 4, .os 5], .buf 5 txt, .row 74 tRow t.1, .row 3 I t.2.1]
def oBRd : OCtr := fun args ob k => match args, ob with
  | [.ps 0, .d (.int .i64) p, .d (.int .i64) q], [.st 53 [.ps 1, .sf 0 1, .os 2, .d (.int .i64) m], .st 68 [.os 3, .os 4], .buf 5 txt, .row 74 (.ar 4 (.sl (.pr (.sl (.int .i64)) (.pr (.int .i64) .un)))) nodes, .row 3 (.int .i64) wrote] =>
    NetLen (nodes, wrote, ()) ∧ k (.os 1) (obRd (nodes, wrote, ()) txt m (readF (nodes, wrote, ()) p q))
  | _, _ => False
/-! the reference -/
def wordF (l : List Int) : List UInt8 := if l.length = 3 then [119] else [115]
def rNE (t : RN) (l : List Int) : Int := if l.length = 3 then rWriteE t (l.getD 0 0) (l.getD 1 0) (l.getD 2 0) else rSyncE t (l.getD 0 0) (l.getD 1 0)
def rNT (t : RN) (l : List Int) : RN := if l.length = 3 then rWriteT t (l.getD 0 0) (l.getD 1 0) (l.getD 2 0) else rSyncT t (l.getD 0 0) (l.getD 1 0)
def rPE (b : RB) (l : List Int) : Int := if 60 ≤ b.2.2.1 then 4 else rNE b.1 l
def rPT (b : RB) (l : List Int) : RB := if rPE b l = 0 then (rNT b.1 l, List.append b.2.1 (lineF (wordF l) l), b.2.2.1 + 1, ()) else b
structure PutOk (b : RB) (l : List Int) : Prop where
  sh : RSh b.1
  two : l.length = 3 ∨ l.length = 2
  sy : l.length = 2 → rSyncE b.1 (l.getD 0 0) (l.getD 1 0) = 0 → SyOk b.1 (l.getD 0 0) (l.getD 1 0)
  txt : b.2.1.length ≤ 900000000
  lo : 0 ≤ b.2.2.1
  hi : b.2.2.1 ≤ 60
def cPutR : Ctr := cdet [tRB, .sl I] (fun (b : RB) (l : List Int) => PutOk b l) (fun (b : RB) (l : List Int) => [⟨tRB, rPT b l⟩, ⟨I, rPE b l⟩])
def anPutR (b : RB) (l : List Int) : Ann := [joinAll, loopAt 13 Nat [] (fun st i => St.at (St.only st [1, 2, 4, 6]) [(8, .d .str (putS (wordF l) (l.take i))), (9, .d I (i : Int))]) (fun _ i => i ≤ l.length ∧ rPE b l = 0) (fun i => l.length - i)]
end Go.Proofs.YthdbbgajmgjfcaaDoor

/- What the functions of this seat have to satisfy, by program: each verification condition in plain words. -/
namespace Go.Proofs.YthdbbgajmgjfcaaDoor
open Go.Vc
set_option linter.unusedVariables false
theorem vcBNew (n : Int) (k : SV → List Ob → Prop) : vcO ⟨Ek, [], [], [], [(13, oNew)]⟩ [joinAll] (Tryd.f4.body.getD .skip) Tryd.f4.ntmps [(.tmp 2, .un), (.tmp 3, tErr)] [.d I n] [] k = (
  (inB n (1 : Int) (5 : Int) = false → ((!decide ((1 : Int) = (0 : Int))) = true → k (SV.tp [SV.nilp, SV.d (Ty.err (54 : Nat)) (1 : Int)]) []) ∧ ((!decide ((1 : Int) = (0 : Int))) = false → k (SV.tp [SV.ps (0 : Nat), SV.d (Ty.err (54 : Nat)) (0 : Int)]) [Ob.st (53 : Nat) [SV.nilp, SV.d Ty.un.ptr none, SV.nils, SV.d (I) (0 : Int)]])) ∧ (inB n (1 : Int) (5 : Int) = true → ((!decide ((0 : Int) = (0 : Int))) = true → k (SV.tp [SV.nilp, SV.d (Ty.err (54 : Nat)) (0 : Int)]) []) ∧ ((!decide ((0 : Int) = (0 : Int))) = false → k (SV.tp [SV.ps (0 : Nat), SV.d (Ty.err (54 : Nat)) (0 : Int)]) [Ob.st (53 : Nat) [SV.ps (1 : Nat), SV.d Ty.un.ptr none, SV.nils, SV.d (I) (0 : Int)], Ob.st (68 : Nat) [SV.os (2 : Nat), SV.os (3 : Nat)], Ob.row (74 : Nat) (Ty.ar (4 : Nat) (tV).sl) (List.replicate n.toNat (List.replicate (4 : Nat) [])), Ob.row (3 : Nat) (I) (List.replicate n.toNat (0 : Int))]))) := by kernel_rfl
theorem vcBW (nd : List (List (List Va))) (wr : List Int) (txt : List UInt8) (m p q v : Int) (k : SV → List Ob → Prop) : vcO ⟨Ek, [], glT, [], [(19, oWrite), (20, oPut)]⟩ [joinAll] (Tryd.f8.body.getD .skip) Tryd.f8.ntmps [(.tmp 8, tErr)] [.ps 0, .d I p, .d I q, .d I v] (obBk (nd, wr, ()) txt m) k = (
  (decide (m = (60 : Int)) = true → (4 : Int) ≠ (0 : Int) ∧ k (SV.d (Ty.err (54 : Nat)) (4 : Int)) [Ob.st (53 : Nat) [SV.ps (1 : Nat), SV.sf (0 : Nat) (1 : Nat), SV.os (2 : Nat), SV.d (I) m], Ob.st (68 : Nat) [SV.os (3 : Nat), SV.os (4 : Nat)], Ob.buf (5 : Nat) txt, Ob.row (74 : Nat) (Ty.ar (4 : Nat) (tV).sl) nd, Ob.row (3 : Nat) (I) wr]) ∧ (decide (m = (60 : Int)) = false → NetSh (nd, wr, ()) ∧ ((!decide (writeE (nd, wr, ()) p q v = (0 : Int))) = true → k (SV.d (Ty.err (54 : Nat)) (writeE (nd, wr, ()) p q v)) [Ob.st (53 : Nat) [SV.ps (1 : Nat), SV.sf (0 : Nat) (1 : Nat), SV.os (2 : Nat), SV.d (I) m], Ob.st (68 : Nat) [SV.os (3 : Nat), SV.os (4 : Nat)], Ob.buf (5 : Nat) txt, Ob.row (74 : Nat) (Ty.ar (4 : Nat) (tV).sl) (writeT (nd, wr, ()) p q v).fst, Ob.row (3 : Nat) (I) (writeT (nd, wr, ()) p q v).snd.fst]) ∧ ((!decide (writeE (nd, wr, ()) p q v = (0 : Int))) = false → (txt.length ≤ (900000000 : Nat) ∧ ((0 : Int) ≤ m ∧ m ≤ (1000 : Int)) ∧ [(119 : UInt8)].length ≤ (10 : Nat) ∧ ((((List.replicate (3 : Nat) (0 : Int)).set (0 : Nat) p).set (1 : Nat) q).set (2 : Nat) v).length ≤ (10 : Nat)) ∧ k (SV.d (Ty.err (54 : Nat)) (0 : Int)) [Ob.st (53 : Nat) [SV.ps (1 : Nat), SV.sf (0 : Nat) (1 : Nat), SV.os (2 : Nat), SV.d (I) (m + (1 : Int))], Ob.st (68 : Nat) [SV.os (3 : Nat), SV.os (4 : Nat)], Ob.buf (5 : Nat) (txt.append (lineF [(119 : UInt8)] ((((List.replicate (3 : Nat) (0 : Int)).set (0 : Nat) p).set (1 : Nat) q).set (2 : Nat) v))), Ob.row (74 : Nat) (Ty.ar (4 : Nat) (tV).sl) (writeT (nd, wr, ()) p q v).fst, Ob.row (3 : Nat) (I) (writeT (nd, wr, ()) p q v).snd.fst]))) := by kernel_rfl
theorem vcBS (nd : List (List (List Va))) (wr : List Int) (txt : List UInt8) (m a b : Int) (k : SV → List Ob → Prop) : vcO ⟨Ek, [], glT, [], [(21, oSync), (20, oPut)]⟩ [joinAll] (Tryd.f9.body.getD .skip) Tryd.f9.ntmps [(.tmp 6, tErr)] [.ps 0, .d I a, .d I b] (obBk (nd, wr, ()) txt m) k = (
  (decide (m = (60 : Int)) = true → (4 : Int) ≠ (0 : Int) ∧ k (SV.d (Ty.err (54 : Nat)) (4 : Int)) [Ob.st (53 : Nat) [SV.ps (1 : Nat), SV.sf (0 : Nat) (1 : Nat), SV.os (2 : Nat), SV.d (I) m], Ob.st (68 : Nat) [SV.os (3 : Nat), SV.os (4 : Nat)], Ob.buf (5 : Nat) txt, Ob.row (74 : Nat) (Ty.ar (4 : Nat) (tV).sl) nd, Ob.row (3 : Nat) (I) wr]) ∧ (decide (m = (60 : Int)) = false → NetSh (nd, wr, ()) ∧ ((!decide (syncE (nd, wr, ()) a b = (0 : Int))) = true → k (SV.d (Ty.err (54 : Nat)) (syncE (nd, wr, ()) a b)) [Ob.st (53 : Nat) [SV.ps (1 : Nat), SV.sf (0 : Nat) (1 : Nat), SV.os (2 : Nat), SV.d (I) m], Ob.st (68 : Nat) [SV.os (3 : Nat), SV.os (4 : Nat)], Ob.buf (5 : Nat) txt, Ob.row (74 : Nat) (Ty.ar (4 : Nat) (tV).sl) (syncT (nd, wr, ()) a b).fst, Ob.row (3 : Nat) (I) (syncT (nd, wr, ()) a b).snd.fst]) ∧ ((!decide (syncE (nd, wr, ()) a b = (0 : Int))) = false → (txt.length ≤ (900000000 : Nat) ∧ ((0 : Int) ≤ m ∧ m ≤ (1000 : Int)) ∧ [(115 : UInt8)].length ≤ (10 : Nat) ∧ (((List.replicate (2 : Nat) (0 : Int)).set (0 : Nat) a).set (1 : Nat) b).length ≤ (10 : Nat)) ∧ k (SV.d (Ty.err (54 : Nat)) (0 : Int)) [Ob.st (53 : Nat) [SV.ps (1 : Nat), SV.sf (0 : Nat) (1 : Nat), SV.os (2 : Nat), SV.d (I) (m + (1 : Int))], Ob.st (68 : Nat) [SV.os (3 : Nat), SV.os (4 : Nat)], Ob.buf (5 : Nat) (txt.append (lineF [(115 : UInt8)] (((List.replicate (2 : Nat) (0 : Int)).set (0 : Nat) a).set (1 : Nat) b))), Ob.row (74 : Nat) (Ty.ar (4 : Nat) (tV).sl) (syncT (nd, wr, ()) a b).fst, Ob.row (3 : Nat) (I) (syncT (nd, wr, ()) a b).snd.fst]))) := by kernel_rfl
theorem vcBTxt (nd : List (List (List Va))) (wr : List Int) (txt : List UInt8) (m : Int) (k : SV → List Ob → Prop) : vcO ⟨Ek, [], [], [], [(22, oStr)]⟩ [joinAll] (Tryd.f10.body.getD .skip) Tryd.f10.ntmps [(.tmp 2, .str)] [.ps 0] (obBk (nd, wr, ()) txt m) k = (
  txt.length ≤ (1000000000 : Nat) ∧ k (SV.d Ty.str txt) [Ob.st (53 : Nat) [SV.ps (1 : Nat), SV.sf (0 : Nat) (1 : Nat), SV.os (2 : Nat), SV.d (I) m], Ob.st (68 : Nat) [SV.os (3 : Nat), SV.os (4 : Nat)], Ob.buf (5 : Nat) txt, Ob.row (74 : Nat) (Ty.ar (4 : Nat) (tV).sl) nd, Ob.row (3 : Nat) (I) wr]) := by kernel_rfl
theorem vcBRd (nd : List (List (List Va))) (wr : List Int) (txt : List UInt8) (m p q : Int) (k : SV → List Ob → Prop) : vcO ⟨Ek, [], [], [], [(24, oRead)]⟩ [joinAll] (Tryd.f12.body.getD .skip) Tryd.f12.ntmps [(.tmp 6, .un)] [.ps 0, .d I p, .d I q] (obBk (nd, wr, ()) txt m) k = (
  NetLen (nd, wr, ()) ∧ k (SV.os (1 : Nat)) [Ob.st (53 : Nat) [SV.ps (2 : Nat), SV.sf (0 : Nat) (1 : Nat), SV.os (3 : Nat), SV.d (I) m], Ob.row (63 : Nat) (tV) (readF (nd, wr, ()) p q), Ob.st (68 : Nat) [SV.os (4 : Nat), SV.os (5 : Nat)], Ob.buf (5 : Nat) txt, Ob.row (74 : Nat) (Ty.ar (4 : Nat) (tV).sl) nd, Ob.row (3 : Nat) (I) wr]) := by kernel_rfl
theorem vcPutR (b : RB) (l : List Int) (k : List Dat → Prop) : vcF ⟨Ek, [(15, cRWrite), (16, cRSync), (17, cDigits), (18, cSum)], [], [], []⟩ (anPutR b l) (Tryd.f7.body.getD .skip) Tryd.f7.ntmps [(.cell 4 35, tRB), (.tmp 5, I)] [⟨tRB, b⟩, ⟨.sl I, l⟩] k = (
  (decide ((60 : Int) ≤ b.snd.snd.fst) = true → k [Dat.mk (((I).pr ((tV).sl.sl.pr ((I).sl.pr Ty.un))).pr (Ty.str.pr ((I).pr Ty.un))) b, Dat.mk (I) (4 : Int)]) ∧ (decide ((60 : Int) ≤ b.snd.snd.fst) = false → (decide ((↑l.length : Int) = (3 : Int)) = true → ((0 : Int) ≤ (0 : Int) ∧ (0 : Int) < (↑l.length : Int) ∧ (0 : Int) ≤ (1 : Int) ∧ (1 : Int) < (↑l.length : Int) ∧ (0 : Int) ≤ (2 : Int) ∧ (2 : Int) < (↑l.length : Int) ∧ (RSh b.fst ∧ True) ∧ True) ∧ ((!decide (rWriteE b.fst (l.getD (Int.toNat (0 : Int)) (0 : Int)) (l.getD (Int.toNat (1 : Int)) (0 : Int)) (l.getD (Int.toNat (2 : Int)) (0 : Int)) = (0 : Int))) = true → k [Dat.mk (((I).pr ((tV).sl.sl.pr ((I).sl.pr Ty.un))).pr (Ty.str.pr ((I).pr Ty.un))) b, Dat.mk (I) (rWriteE b.fst (l.getD (Int.toNat (0 : Int)) (0 : Int)) (l.getD (Int.toNat (1 : Int)) (0 : Int)) (l.getD (Int.toNat (2 : Int)) (0 : Int)))]) ∧ ((!decide (rWriteE b.fst (l.getD (Int.toNat (0 : Int)) (0 : Int)) (l.getD (Int.toNat (1 : Int)) (0 : Int)) (l.getD (Int.toNat (2 : Int)) (0 : Int)) = (0 : Int))) = false → (∃ (x : Nat), (x ≤ l.length ∧ rPE b l = (0 : Int)) ∧ (l = l ∧ ([] : List Nat) = [] ∧ ([] : List Nat) = [] ∧ ([] : List Nat) = [] ∧ [(119 : UInt8)] = putS (wordF l) (List.take x l) ∧ (0 : Int) = (↑x : Int) ∧ True) ∧ (((35 : Nat) = (35 : Nat) ∧ b = b) ∧ ((35 : Nat) = (35 : Nat) ∧ rb0 = rb0) ∧ ((32 : Nat) = (32 : Nat) ∧ rWriteT b.fst (l.getD (Int.toNat (0 : Int)) (0 : Int)) (l.getD (Int.toNat (1 : Int)) (0 : Int)) (l.getD (Int.toNat (2 : Int)) (0 : Int)) = rWriteT b.fst (l.getD (Int.toNat (0 : Int)) (0 : Int)) (l.getD (Int.toNat (1 : Int)) (0 : Int)) (l.getD (Int.toNat (2 : Int)) (0 : Int))) ∧ True) ∧ True) ∧ ∀ (x : Nat), x ≤ l.length ∧ rPE b l = (0 : Int) → (decide ((↑x : Int) < (↑l.length : Int)) = true → (putS (wordF l) (List.take x l)).length + [(32 : UInt8)].length ≤ maxLen ∧ (0 : Int) ≤ (↑x : Int) ∧ (↑x : Int) < (↑l.length : Int) ∧ DigOk (l.getD (↑x : Int).toNat (0 : Int)) ∧ ((putS (wordF l) (List.take x l)).append [(32 : UInt8)]).length + (Lib.decDigits (l.getD (↑x : Int).toNat (0 : Int)).toNat).length ≤ maxLen ∧ inK IntKind.i64 ((↑x : Int) + (1 : Int)) ∧ ∃ (x_1 : Nat), (x_1 ≤ l.length ∧ rPE b l = (0 : Int)) ∧ l.length - x_1 < l.length - x ∧ (l = l ∧ ([] : List Nat) = [] ∧ ([] : List Nat) = [] ∧ ([] : List Nat) = [] ∧ ((putS (wordF l) (List.take x l)).append [(32 : UInt8)]).append (Lib.decDigits (l.getD (↑x : Int).toNat (0 : Int)).toNat) = putS (wordF l) (List.take x_1 l) ∧ (↑x : Int) + (1 : Int) = (↑x_1 : Int) ∧ True) ∧ (((35 : Nat) = (35 : Nat) ∧ b = b) ∧ ((35 : Nat) = (35 : Nat) ∧ rb0 = rb0) ∧ ((32 : Nat) = (32 : Nat) ∧ rWriteT b.fst (l.getD (Int.toNat (0 : Int)) (0 : Int)) (l.getD (Int.toNat (1 : Int)) (0 : Int)) (l.getD (Int.toNat (2 : Int)) (0 : Int)) = rWriteT b.fst (l.getD (Int.toNat (0 : Int)) (0 : Int)) (l.getD (Int.toNat (1 : Int)) (0 : Int)) (l.getD (Int.toNat (2 : Int)) (0 : Int))) ∧ True) ∧ True) ∧ (decide ((↑x : Int) < (↑l.length : Int)) = false → (List.length b.snd.fst + (putS (wordF l) (List.take x l)).length ≤ maxLen ∧ (List.append b.snd.fst (putS (wordF l) (List.take x l))).length + [(32 : UInt8)].length ≤ maxLen ∧ SumOk (putS (wordF l) (List.take x l)) ∧ DigOk (sumF (putS (wordF l) (List.take x l))) ∧ ((List.append b.snd.fst (putS (wordF l) (List.take x l))).append [(32 : UInt8)]).length + (Lib.decDigits (sumF (putS (wordF l) (List.take x l))).toNat).length ≤ maxLen ∧ (((List.append b.snd.fst (putS (wordF l) (List.take x l))).append [(32 : UInt8)]).append (Lib.decDigits (sumF (putS (wordF l) (List.take x l))).toNat)).length + [(10 : UInt8)].length ≤ maxLen ∧ True) ∧ inK IntKind.i64 (b.snd.snd.fst + (1 : Int)) ∧ k [Dat.mk (((I).pr ((tV).sl.sl.pr ((I).sl.pr Ty.un))).pr (Ty.str.pr ((I).pr Ty.un))) (rWriteT b.fst (l.getD (Int.toNat (0 : Int)) (0 : Int)) (l.getD (Int.toNat (1 : Int)) (0 : Int)) (l.getD (Int.toNat (2 : Int)) (0 : Int)), (((List.append b.snd.fst (putS (wordF l) (List.take x l))).append [(32 : UInt8)]).append (Lib.decDigits (sumF (putS (wordF l) (List.take x l))).toNat)).append [(10 : UInt8)], b.snd.snd.fst + (1 : Int), b.snd.snd.snd), Dat.mk (I) (0 : Int)]))) ∧ (decide ((↑l.length : Int) = (3 : Int)) = false → ((0 : Int) ≤ (0 : Int) ∧ (0 : Int) < (↑l.length : Int) ∧ (0 : Int) ≤ (1 : Int) ∧ (1 : Int) < (↑l.length : Int) ∧ ((RSh b.fst ∧ (rSyncE b.fst (l.getD (Int.toNat (0 : Int)) (0 : Int)) (l.getD (Int.toNat (1 : Int)) (0 : Int)) = (0 : Int) → SyOk b.fst (l.getD (Int.toNat (0 : Int)) (0 : Int)) (l.getD (Int.toNat (1 : Int)) (0 : Int)))) ∧ True) ∧ True) ∧ ((!decide (rSyncE b.fst (l.getD (Int.toNat (0 : Int)) (0 : Int)) (l.getD (Int.toNat (1 : Int)) (0 : Int)) = (0 : Int))) = true → k [Dat.mk (((I).pr ((tV).sl.sl.pr ((I).sl.pr Ty.un))).pr (Ty.str.pr ((I).pr Ty.un))) b, Dat.mk (I) (rSyncE b.fst (l.getD (Int.toNat (0 : Int)) (0 : Int)) (l.getD (Int.toNat (1 : Int)) (0 : Int)))]) ∧ ((!decide (rSyncE b.fst (l.getD (Int.toNat (0 : Int)) (0 : Int)) (l.getD (Int.toNat (1 : Int)) (0 : Int)) = (0 : Int))) = false → (∃ (x : Nat), (x ≤ l.length ∧ rPE b l = (0 : Int)) ∧ (l = l ∧ ([] : List Nat) = [] ∧ ([] : List Nat) = [] ∧ ([] : List Nat) = [] ∧ [(115 : UInt8)] = putS (wordF l) (List.take x l) ∧ (0 : Int) = (↑x : Int) ∧ True) ∧ (((35 : Nat) = (35 : Nat) ∧ b = b) ∧ ((35 : Nat) = (35 : Nat) ∧ rb0 = rb0) ∧ ((32 : Nat) = (32 : Nat) ∧ rSyncT b.fst (l.getD (Int.toNat (0 : Int)) (0 : Int)) (l.getD (Int.toNat (1 : Int)) (0 : Int)) = rSyncT b.fst (l.getD (Int.toNat (0 : Int)) (0 : Int)) (l.getD (Int.toNat (1 : Int)) (0 : Int))) ∧ True) ∧ True) ∧ ∀ (x : Nat), x ≤ l.length ∧ rPE b l = (0 : Int) → (decide ((↑x : Int) < (↑l.length : Int)) = true → (putS (wordF l) (List.take x l)).length + [(32 : UInt8)].length ≤ maxLen ∧ (0 : Int) ≤ (↑x : Int) ∧ (↑x : Int) < (↑l.length : Int) ∧ DigOk (l.getD (↑x : Int).toNat (0 : Int)) ∧ ((putS (wordF l) (List.take x l)).append [(32 : UInt8)]).length + (Lib.decDigits (l.getD (↑x : Int).toNat (0 : Int)).toNat).length ≤ maxLen ∧ inK IntKind.i64 ((↑x : Int) + (1 : Int)) ∧ ∃ (x_1 : Nat), (x_1 ≤ l.length ∧ rPE b l = (0 : Int)) ∧ l.length - x_1 < l.length - x ∧ (l = l ∧ ([] : List Nat) = [] ∧ ([] : List Nat) = [] ∧ ([] : List Nat) = [] ∧ ((putS (wordF l) (List.take x l)).append [(32 : UInt8)]).append (Lib.decDigits (l.getD (↑x : Int).toNat (0 : Int)).toNat) = putS (wordF l) (List.take x_1 l) ∧ (↑x : Int) + (1 : Int) = (↑x_1 : Int) ∧ True) ∧ (((35 : Nat) = (35 : Nat) ∧ b = b) ∧ ((35 : Nat) = (35 : Nat) ∧ rb0 = rb0) ∧ ((32 : Nat) = (32 : Nat) ∧ rSyncT b.fst (l.getD (Int.toNat (0 : Int)) (0 : Int)) (l.getD (Int.toNat (1 : Int)) (0 : Int)) = rSyncT b.fst (l.getD (Int.toNat (0 : Int)) (0 : Int)) (l.getD (Int.toNat (1 : Int)) (0 : Int))) ∧ True) ∧ True) ∧ (decide ((↑x : Int) < (↑l.length : Int)) = false → (List.length b.snd.fst + (putS (wordF l) (List.take x l)).length ≤ maxLen ∧ (List.append b.snd.fst (putS (wordF l) (List.take x l))).length + [(32 : UInt8)].length ≤ maxLen ∧ SumOk (putS (wordF l) (List.take x l)) ∧ DigOk (sumF (putS (wordF l) (List.take x l))) ∧ ((List.append b.snd.fst (putS (wordF l) (List.take x l))).append [(32 : UInt8)]).length + (Lib.decDigits (sumF (putS (wordF l) (List.take x l))).toNat).length ≤ maxLen ∧ (((List.append b.snd.fst (putS (wordF l) (List.take x l))).append [(32 : UInt8)]).append (Lib.decDigits (sumF (putS (wordF l) (List.take x l))).toNat)).length + [(10 : UInt8)].length ≤ maxLen ∧ True) ∧ inK IntKind.i64 (b.snd.snd.fst + (1 : Int)) ∧ k [Dat.mk (((I).pr ((tV).sl.sl.pr ((I).sl.pr Ty.un))).pr (Ty.str.pr ((I).pr Ty.un))) (rSyncT b.fst (l.getD (Int.toNat (0 : Int)) (0 : Int)) (l.getD (Int.toNat (1 : Int)) (0 : Int)), (((List.append b.snd.fst (putS (wordF l) (List.take x l))).append [(32 : UInt8)]).append (Lib.decDigits (sumF (putS (wordF l) (List.take x l))).toNat)).append [(10 : UInt8)], b.snd.snd.fst + (1 : Int), b.snd.snd.snd), Dat.mk (I) (0 : Int)]))))) := by kernel_rfl
end Go.Proofs.YthdbbgajmgjfcaaDoor

/- Books: what their methods do, and what the reference's putting does: the proofs. -/
namespace Go.Proofs.YthdbbgajmgjfcaaDoor
open Go.Vc Go.Proofs Go.RowKit
theorem ownBNew0 : OwnOk Tryd.prog [] 4 oBNew0 := by
  refine own_of (CxOk.mk' Ek_ok (by kernel_rfl) mixed (gl := []) GOk.nil (GoOk.cons ownNew Tryd.func13 (by kernel_rfl) (by kernel_rfl) GoOk.nil) noIt) Tryd.func4 (c := Tryd.f4.body.getD .skip) (rvs := [(.tmp 2, .un), (.tmp 3, tErr)]) (by kernel_rfl) (by kernel_rfl) (by kernel_rfl) ?_
  intro args ob k h hwa hwo
  unfold oBNew0 at h
  split at h
  · rename_i n
    refine ⟨[joinAll], ?_⟩
    rw [vcBNew]
    refine ⟨fun hb => ⟨fun _ => h.1 hb, fun h' => by simp at h'⟩, fun hb => ⟨fun h' => by simp at h', fun _ => h.2 hb⟩⟩
  · exact h.elim
theorem ownBW : OwnOk Tryd.prog glT 8 oBW := by
  refine own_of (CxOk.mk' Ek_ok (by kernel_rfl) mixed (gl := glT) GOk.nil (GoOk.cons ownWrite.lift Tryd.func19 (by kernel_rfl) (by kernel_rfl) (GoOk.cons ownPut Tryd.func20 (by kernel_rfl) (by kernel_rfl) GoOk.nil)) noIt) Tryd.func8 (c := Tryd.f8.body.getD .skip) (rvs := [(.tmp 8, tErr)]) (by kernel_rfl) (by kernel_rfl) (by kernel_rfl) ?_
  intro args ob k h hwa hwo
  unfold oBW at h
  split at h
  · rename_i p q v m txt nd wr
    obtain ⟨⟨hN, hl, hm⟩, hk⟩ := h
    refine ⟨[joinAll], ?_⟩
    show vcO _ _ _ _ _ [.ps 0, .d I p, .d I q, .d I v] (obBk (nd, wr, ()) txt m) k
    rw [vcBW]
    have hwT : writeE (nd, wr, ()) p q v ≠ 0 → writeT (nd, wr, ()) p q v = (nd, wr, ()) := fun h => by unfold writeT; rw [if_neg h]
    generalize writeE (nd, wr, ()) p q v = e at *
    generalize writeT (nd, wr, ()) p q v = T at *
    simp only [decide_eq_true_eq, decide_eq_false_iff_not, Bool.not_eq_true', Bool.not_eq_false']
    refine ⟨fun h => ⟨by decide, ?_⟩, fun h => ⟨hN, fun he => ?_, fun he => ⟨⟨hl, ⟨hm.1, Int.le_trans hm.2 (by decide)⟩, by decide, by simp⟩, ?_⟩⟩⟩
    · have e1 : bkE m e = 4 := by unfold bkE; rw [if_pos h]
      have e2 : ∀ t' line, bkT (nd, wr, ()) txt m e t' line = ((nd, wr, ()), txt, m) := fun t' line => by unfold bkT; rw [if_neg (by rw [e1]; decide)]
      rw [e1] at hk; simp only [e2] at hk; exact hk
    · have e1 : bkE m e = e := by unfold bkE; rw [if_neg h]
      have e2 : ∀ t' line, bkT (nd, wr, ()) txt m e t' line = ((nd, wr, ()), txt, m) := fun t' line => by unfold bkT; rw [if_neg (by rw [e1]; exact he)]
      rw [e1] at hk; simp only [e2] at hk; rw [hwT he]; exact hk
    · have e1 : bkE m e = e := by unfold bkE; rw [if_neg h]
      have e2 : ∀ t' line, bkT (nd, wr, ()) txt m e t' line = (t', List.append txt line, m + 1) := fun t' line => by unfold bkT; rw [if_pos (by rw [e1]; exact he)]
      rw [e1] at hk; simp only [e2] at hk; rw [he] at hk; exact hk
  · exact h.elim
theorem ownBS : OwnOk Tryd.prog glT 9 oBS := by
  refine own_of (CxOk.mk' Ek_ok (by kernel_rfl) mixed (gl := glT) GOk.nil (GoOk.cons ownSync.lift Tryd.func21 (by kernel_rfl) (by kernel_rfl) (GoOk.cons ownPut Tryd.func20 (by kernel_rfl) (by kernel_rfl) GoOk.nil)) noIt) Tryd.func9 (c := Tryd.f9.body.getD .skip) (rvs := [(.tmp 6, tErr)]) (by kernel_rfl) (by kernel_rfl) (by kernel_rfl) ?_
  intro args ob k h hwa hwo
  unfold oBS at h
  split at h
  · rename_i p q m txt nd wr
    obtain ⟨⟨hN, hl, hm⟩, hk⟩ := h
    refine ⟨[joinAll], ?_⟩
    show vcO _ _ _ _ _ [.ps 0, .d I p, .d I q] (obBk (nd, wr, ()) txt m) k
    rw [vcBS]
    have hwT : syncE (nd, wr, ()) p q ≠ 0 → syncT (nd, wr, ()) p q = (nd, wr, ()) := fun h => by unfold syncT; rw [if_neg h]
    generalize syncE (nd, wr, ()) p q = e at *
    generalize syncT (nd, wr, ()) p q = T at *
    simp only [decide_eq_true_eq, decide_eq_false_iff_not, Bool.not_eq_true', Bool.not_eq_false']
    refine ⟨fun h => ⟨by decide, ?_⟩, fun h => ⟨hN, fun he => ?_, fun he => ⟨⟨hl, ⟨hm.1, Int.le_trans hm.2 (by decide)⟩, by decide, by simp⟩, ?_⟩⟩⟩
    · have e1 : bkE m e = 4 := by unfold bkE; rw [if_pos h]
      have e2 : ∀ t' line, bkT (nd, wr, ()) txt m e t' line = ((nd, wr, ()), txt, m) := fun t' line => by unfold bkT; rw [if_neg (by rw [e1]; decide)]
      rw [e1] at hk; simp only [e2] at hk; exact hk
    · have e1 : bkE m e = e := by unfold bkE; rw [if_neg h]
      have e2 : ∀ t' line, bkT (nd, wr, ()) txt m e t' line = ((nd, wr, ()), txt, m) := fun t' line => by unfold bkT; rw [if_neg (by rw [e1]; exact he)]
      rw [e1] at hk; simp only [e2] at hk; rw [hwT he]; exact hk
    · have e1 : bkE m e = e := by unfold bkE; rw [if_neg h]
      have e2 : ∀ t' line, bkT (nd, wr, ()) txt m e t' line = (t', List.append txt line, m + 1) := fun t' line => by unfold bkT; rw [if_pos (by rw [e1]; exact he)]
      rw [e1] at hk; simp only [e2] at hk; rw [he] at hk; exact hk
  · exact h.elim
theorem ownBTxt : OwnOk Tryd.prog [] 10 oBTxt := by
  refine own_of (CxOk.mk' Ek_ok (by kernel_rfl) mixed (gl := []) GOk.nil (GoOk.cons ownStr Tryd.func22 (by kernel_rfl) (by kernel_rfl) GoOk.nil) noIt) Tryd.func10 (c := Tryd.f10.body.getD .skip) (rvs := [(.tmp 2, .str)]) (by kernel_rfl) (by kernel_rfl) (by kernel_rfl) ?_
  intro args ob k h hwa hwo
  unfold oBTxt at h
  split at h
  · rename_i m txt nd wr
    refine ⟨[joinAll], ?_⟩
    show vcO _ _ _ _ _ [.ps 0] (obBk (nd, wr, ()) txt m) k
    rw [vcBTxt]
    exact h
  · exact h.elim
theorem ownBRd : OwnOk Tryd.prog [] 12 oBRd := by
  refine own_of (CxOk.mk' Ek_ok (by kernel_rfl) mixed (gl := []) GOk.nil (GoOk.cons ownRead Tryd.func24 (by kernel_rfl) (by kernel_rfl) GoOk.nil) noIt) Tryd.func12 (c := Tryd.f12.body.getD .skip) (rvs := [(.tmp 6, .un)]) (by kernel_rfl) (by kernel_rfl) (by kernel_rfl) ?_
  intro args ob k h hwa hwo
  unfold oBRd at h
  split at h
  · rename_i p q m txt nd wr
    refine ⟨[joinAll], ?_⟩
    show vcO _ _ _ _ _ [.ps 0, .d I p, .d I q] (obBk (nd, wr, ()) txt m) k
    rw [vcBRd]
    exact h
  · exact h.elim
theorem ownBNew : OwnOk Tryd.prog [] 4 oBNew := by
  intro args ob k hc w M R0 A vals hB hrd IV
  unfold oBNew at hc
  split at hc
  · rename_i n
    obtain ⟨h1, h2⟩ := hc
    cases hb : inB n 1 5 with
    | false => exact ownBNew0 [.d I n] [] k ⟨fun _ => h1 hb, fun h => by rw [hb] at h; cases h⟩ w M R0 A vals hB hrd IV
    | true =>
      refine (ownBNew0 [.d I n] [] (fun s ob' => s = .tp [.ps 0, .d tErr (0 : Int)] ∧ ob' = obNew0 (newF (n : Int).toNat)) ⟨fun h => absurd (hb.symm.trans h) (by decide), fun _ => ⟨rfl, rfl⟩⟩ w M R0 A vals hB hrd IV).mono ?_
      rintro x w' ⟨v, s, ob1, A', rfl, ⟨rfl, rfl⟩, I2, hkeep⟩
      have hnum : A'.n = 4 := I2.num
      have I3 := I2.add none (fun _ => .slice none 0 0) (fun b => (Value.slice none 0 0).ownBlock = some b) (.buf 5 []) (Same.refl w') (fun _ _ _ => rfl) (fun b hb => by simp [Value.ownBlock] at hb) (fun hro => by
        refine ⟨?_, fun g hg => ?_⟩
        · rw [Asg.push_η]; exact ⟨rfl, .inl ⟨rfl, rfl⟩⟩
        · rw [Asg.push_η] at hg; simp [Value.ownBlock] at hg)
      have h4 : (A'.pushT (fun _ => Value.slice none 0 0) (fun b => (Value.slice none 0 0).ownBlock = some b)).η 4 = .slice none 0 0 := by rw [← hnum, Asg.push_η]
      have h4n : 4 < (A'.pushT (fun _ => Value.slice none 0 0) (fun b => (Value.slice none 0 0).ownBlock = some b)).n := by simp [Asg.pushT, hnum]
      have I4 := I3.mod (i := 0) (.st 53 [.ps 1, .sf 0 1, .os 4, .d (.int .i64) (0 : Int)]) rfl rfl (Same.refl w') (fun _ _ _ => rfl) (fun hro => by
        obtain ⟨b, cs, e1, hf, hh, hp⟩ := I3.ob 0 _ rfl
        obtain ⟨p1, p2⟩ := (pcs1 (by decide)).1 hp
        refine ⟨b, cs, e1, hf, hh, (pcs1 (by decide)).2 ⟨p1, fun k s v hs hv => ?_⟩⟩
        match k with
        | 0 =>
          obtain ⟨q1, q2⟩ := p2 0 _ v rfl hv
          injection hs with hs; subst hs
          exact ⟨q1.keep (fun g hg => ⟨(hro g hg).1, Kb.of_eq (hro g hg).2⟩) (Asg.le.refl _), q2⟩
        | 1 =>
          obtain ⟨q1, q2⟩ := p2 1 _ v rfl hv
          injection hs with hs; subst hs
          have q1' : [v] = [Value.pointer none] := q1
          injection q1' with q1'
          refine ⟨⟨by omega, .inl q1'⟩, q2⟩
        | 2 =>
          obtain ⟨q1, q2⟩ := p2 2 _ v rfl hv
          injection hs with hs; subst hs
          have q1' : v = .slice none 0 0 := q1
          exact ⟨⟨h4n, by rw [q1']; exact h4.symm⟩, q2⟩
        | 3 =>
          obtain ⟨q1, q2⟩ := p2 3 _ v rfl hv
          injection hs with hs; subst hs
          exact ⟨q1.keep (fun g hg => ⟨(hro g hg).1, Kb.of_eq (hro g hg).2⟩) (Asg.le.refl _), q2⟩
        | k + 4 => simp at hs)
      exact ⟨_, _, _, _, rfl, h2 hb, I4.out (M' := M) rfl (σ := [0, 1, 4, 2, 3]) (by decide) (I4.tm 0 _ rfl), fun i hi => absurd hi (by show ¬ i < 0; omega)⟩
  · exact hc.elim
end Go.Proofs.YthdbbgajmgjfcaaDoor

/- Books: the reference's putting of a line. -/
namespace Go.Proofs.YthdbbgajmgjfcaaDoor
open Go.Vc Go.Proofs Go.RowKit
theorem itoa_nn {n : Int} (h : 0 ≤ n) : Lib.itoa n = Lib.decDigits n.toNat := by
  have := Lib.itoa_nonneg n.toNat
  rw [Int.toNat_of_nonneg h] at this
  exact this
theorem rW_nn {t : RN} {p q v : Int} (h : rWriteE t p q v = 0) : 0 ≤ p ∧ 0 ≤ q ∧ 0 ≤ v := by
  unfold rWriteE at h
  split at h
  · rename_i hh
    simp only [Bool.and_eq_true] at hh
    exact ⟨(inB_iff.1 hh.1).1, (inB_iff.1 hh.2.1).1, (inB_iff.1 hh.2.2).1⟩
  · cases h
theorem rS_nn {t : RN} {a b : Int} (h : rSyncE t a b = 0) : 0 ≤ a ∧ 0 ≤ b := by
  unfold rSyncE at h
  split at h
  · rename_i hh
    simp only [Bool.and_eq_true] at hh
    exact ⟨(inB_iff.1 hh.1).1, (inB_iff.1 hh.2).1⟩
  · cases h
theorem put_nn {b : RB} {l : List Int} (h2 : l.length = 3 ∨ l.length = 2) (h : rPE b l = 0) : ∀ x, x < l.length → 0 ≤ l.getD x 0 := by
  intro x hx
  unfold rPE at h
  split at h
  · cases h
  · unfold rNE at h
    split at h
    · rename_i h3
      obtain ⟨p, q, v⟩ := rW_nn h
      match x with
      | 0 => exact p
      | 1 => exact q
      | 2 => exact v
      | x + 3 => omega
    · rename_i h3
      obtain ⟨p, q⟩ := rS_nn h
      match x with
      | 0 => exact p
      | 1 => exact q
      | x + 2 => omega
theorem okPutR : PlainOk Tryd.prog [] 7 cPutR := by
  refine plain_of (CxOk.mk' Ek_ok (by kernel_rfl) mixed (gl := []) (GOk.cons okRWrite Tryd.func15 (by kernel_rfl) (by kernel_rfl) (GOk.cons okRSync Tryd.func16 (by kernel_rfl) (by kernel_rfl) (GOk.cons okDigits Tryd.func17 (by kernel_rfl) (by kernel_rfl) (GOk.cons okSumR Tryd.func18 (by kernel_rfl) (by kernel_rfl) GOk.nil)))) GoOk.nil noIt) Tryd.func7 (c := Tryd.f7.body.getD .skip) (rvs := [(.cell 4 35, tRB), (.tmp 5, I)]) (by kernel_rfl) (by kernel_rfl) (by kernel_rfl) ?_
  intro ds k ⟨hp, hk⟩ hwf
  obtain ⟨b, l, rfl, hP⟩ := dest2 hp
  have hl : ∀ n ∈ (l : List Int), inK .i64 n := (wf2 hwf).2.2
  revert hP hk
  clear hp hwf
  revert b l
  intro (b : RB) (l : List Int) hl (hP : PutOk b l) (hk : k [⟨tRB, rPT b l⟩, ⟨I, rPE b l⟩])
  refine ⟨anPutR b l, ?_⟩
  rw [vcPutR]
  have h4 : l.length ≤ 3 := by rcases hP.two with h | h <;> omega
  have hpl : ∀ x, x ≤ l.length → (putS (wordF l) (l.take x)).length ≤ 100 := by
    intro x hx
    have := putS_len (wordF l) (l.take x) fun n hn => hl n (List.mem_of_mem_take hn)
    have h1 : (wordF l).length = 1 := by unfold wordF; split <;> rfl
    rw [List.length_take] at this
    omega
  have hnn := fun h => put_nn (b := b) hP.two h
  have hng : rPE b l = 0 → ∀ x, x < l.length → l.getD x 0 ≤ 9223372036854775807 := fun _ x hx => by
    rw [List.getD_eq_getElem?_getD, List.getElem?_eq_getElem hx]
    exact (inK_i64.1 (hl _ (List.getElem_mem hx))).2
  have htx := hP.txt
  have hlo := hP.lo
  have hhi := hP.hi
  have ea : ∀ (m n : List UInt8), List.append m n = m ++ n := fun _ _ => rfl
  have eml : maxLen = 9223372036854775807 := rfl
  have i0 : Int.toNat 0 = 0 := rfl
  have i1 : Int.toNat 1 = 1 := rfl
  have i2 : Int.toNat 2 = 2 := rfl
  simp only [ea, i0, i1, i2, List.length_append, List.length_cons, List.length_nil, decide_eq_true_eq, decide_eq_false_iff_not, true_and, and_true, Int.toNat_natCast, inK_i64, Int.ofNat_lt, Bool.not_eq_true', Bool.not_eq_false']
  refine ⟨fun h60 => ?_, fun h60 => ⟨fun h3 => ?_, fun h3 => ?_⟩⟩
  · have e : rPE b l = 4 := by unfold rPE; rw [if_pos h60]
    have e2 : rPT b l = b := by unfold rPT; rw [if_neg (by rw [e]; decide)]
    rw [e, e2] at hk; exact hk
  · have h3' : l.length = 3 := by omega
    have e : rPE b l = rWriteE b.1 (l.getD 0 0) (l.getD 1 0) (l.getD 2 0) := by unfold rPE rNE; rw [if_neg h60, if_pos h3']
    have hw : wordF l = [119] := by unfold wordF; rw [if_pos h3']
    have hT : rNT b.1 l = rWriteT b.1 (l.getD 0 0) (l.getD 1 0) (l.getD 2 0) := by unfold rNT; rw [if_pos h3']
    refine ⟨⟨by omega, by omega, by omega, by omega, by omega, by omega, hP.sh⟩, ⟨fun he => ?_, fun he => ?_⟩⟩
    · have e2 : rPT b l = b := by unfold rPT; rw [if_neg (by rw [e]; exact he)]
      rw [e, e2] at hk; exact hk
    · have he0 : rPE b l = 0 := by rw [e]; exact he
      have hnn := hnn he0
      have hng := hng he0
      refine ⟨⟨0, ⟨Nat.zero_le _, he0⟩, by rw [hw]; rfl, rfl⟩, fun x ⟨hx, _⟩ => ⟨fun hlt => ?_, fun hge => ?_⟩⟩
      · have h6 := hpl x hx
        have hn0 := hnn x hlt
        have hd := decDig_le (n := (l.getD x 0).toNat) (by have := hng x hlt; omega)
        refine ⟨by omega, by omega, by omega, ⟨hn0⟩, by omega, by omega, x + 1, ⟨by omega, he0⟩, by omega, ?_, by omega⟩
        rw [putS_succ (wordF l) l hlt]
        have e : Lib.itoa (l.getD x 0) = Lib.decDigits (l.getD x 0).toNat := itoa_nn hn0
        rw [e]
        show (putS (wordF l) (l.take x) ++ [32]) ++ Lib.decDigits (l.getD x 0).toNat = putS (wordF l) (l.take x) ++ ([32] ++ Lib.decDigits (l.getD x 0).toNat)
        rw [List.append_assoc]
      · have ex : x = l.length := by omega
        subst ex
        rw [List.take_length]
        have h6 := hpl l.length (Nat.le_refl _)
        rw [List.take_length] at h6
        have hs0 : 0 ≤ sumF (putS (wordF l) l) := by unfold sumF; omega
        have hs1 := inK_i64.1 (sumF_k (putS (wordF l) l))
        have hd := decDig_le (n := (sumF (putS (wordF l) l)).toNat) (by omega)
        refine ⟨⟨by omega, by omega, ⟨by omega⟩, ⟨hs0⟩, by omega, by omega⟩, by omega, ?_⟩
        have e : Lib.itoa (sumF (putS (wordF l) l)) = Lib.decDigits (sumF (putS (wordF l) l)).toNat := itoa_nn hs0
        have eq : rPT b l = (rWriteT b.1 (l.getD 0 0) (l.getD 1 0) (l.getD 2 0), List.append b.2.1 (lineF (wordF l) l), b.2.2.1 + 1, ()) := by
          unfold rPT
          rw [if_pos he0, hT]
        have el : (((b.2.1 ++ putS (wordF l) l) ++ [32]) ++ Lib.decDigits (sumF (putS (wordF l) l)).toNat) ++ [10] = List.append b.2.1 (lineF (wordF l) l) := by
          show _ = b.2.1 ++ (((putS (wordF l) l ++ [32]) ++ Lib.itoa (sumF (putS (wordF l) l))) ++ [10])
          rw [e]
          simp only [List.append_assoc]
        rw [eq, he0] at hk
        rw [el]
        exact hk
  · have h3' : ¬ l.length = 3 := by omega
    have h2' : l.length = 2 := by rcases hP.two with h | h <;> omega
    have e : rPE b l = rSyncE b.1 (l.getD 0 0) (l.getD 1 0) := by unfold rPE rNE; rw [if_neg h60, if_neg h3']
    have hw : wordF l = [115] := by unfold wordF; rw [if_neg h3']
    have hT : rNT b.1 l = rSyncT b.1 (l.getD 0 0) (l.getD 1 0) := by unfold rNT; rw [if_neg h3']
    refine ⟨⟨by omega, by omega, by omega, by omega, hP.sh, hP.sy h2'⟩, ⟨fun he => ?_, fun he => ?_⟩⟩
    · have e2 : rPT b l = b := by unfold rPT; rw [if_neg (by rw [e]; exact he)]
      rw [e, e2] at hk; exact hk
    · have he0 : rPE b l = 0 := by rw [e]; exact he
      have hnn := hnn he0
      have hng := hng he0
      refine ⟨⟨0, ⟨Nat.zero_le _, he0⟩, by rw [hw]; rfl, rfl⟩, fun x ⟨hx, _⟩ => ⟨fun hlt => ?_, fun hge => ?_⟩⟩
      · have h6 := hpl x hx
        have hn0 := hnn x hlt
        have hd := decDig_le (n := (l.getD x 0).toNat) (by have := hng x hlt; omega)
        refine ⟨by omega, by omega, by omega, ⟨hn0⟩, by omega, by omega, x + 1, ⟨by omega, he0⟩, by omega, ?_, by omega⟩
        rw [putS_succ (wordF l) l hlt]
        have e : Lib.itoa (l.getD x 0) = Lib.decDigits (l.getD x 0).toNat := itoa_nn hn0
        rw [e]
        show (putS (wordF l) (l.take x) ++ [32]) ++ Lib.decDigits (l.getD x 0).toNat = putS (wordF l) (l.take x) ++ ([32] ++ Lib.decDigits (l.getD x 0).toNat)
        rw [List.append_assoc]
      · have ex : x = l.length := by omega
        subst ex
        rw [List.take_length]
        have h6 := hpl l.length (Nat.le_refl _)
        rw [List.take_length] at h6
        have hs0 : 0 ≤ sumF (putS (wordF l) l) := by unfold sumF; omega
        have hs1 := inK_i64.1 (sumF_k (putS (wordF l) l))
        have hd := decDig_le (n := (sumF (putS (wordF l) l)).toNat) (by omega)
        refine ⟨⟨by omega, by omega, ⟨by omega⟩, ⟨hs0⟩, by omega, by omega⟩, by omega, ?_⟩
        have e : Lib.itoa (sumF (putS (wordF l) l)) = Lib.decDigits (sumF (putS (wordF l) l)).toNat := itoa_nn hs0
        have eq : rPT b l = (rSyncT b.1 (l.getD 0 0) (l.getD 1 0), List.append b.2.1 (lineF (wordF l) l), b.2.2.1 + 1, ()) := by
          unfold rPT
          rw [if_pos he0, hT]
        have el : (((b.2.1 ++ putS (wordF l) l) ++ [32]) ++ Lib.decDigits (sumF (putS (wordF l) l)).toNat) ++ [10] = List.append b.2.1 (lineF (wordF l) l) := by
          show _ = b.2.1 ++ (((putS (wordF l) l ++ [32]) ++ Lib.itoa (sumF (putS (wordF l) l))) ++ [10])
          rw [e]
          simp only [List.append_assoc]
        rw [eq, he0] at hk
        rw [el]
        exact hk
end Go.Proofs.YthdbbgajmgjfcaaDoor

/- Books: the law that the program plays as the reference does, its loops. -/
namespace Go.Proofs.YthdbbgajmgjfcaaDoor
open Go.Vc Go.Proofs Go.RowKit
abbrev glB : List (Nat × Dat) := [(0, ⟨.raw, hdE⟩), (1, ⟨.ar 20 (.int .u64), Lib.pow10Tab⟩)]
def stepB (b : BS) (l : List Int) : BS :=
  if l.length = 3 then bkT b.1 b.2.1 b.2.2 (writeE b.1 (l.getD 0 0) (l.getD 1 0) (l.getD 2 0)) (writeT b.1 (l.getD 0 0) (l.getD 1 0) (l.getD 2 0)) (lineF [119] [l.getD 0 0, l.getD 1 0, l.getD 2 0])
  else if l.length = 2 then bkT b.1 b.2.1 b.2.2 (syncE b.1 (l.getD 0 0) (l.getD 1 0)) (syncT b.1 (l.getD 0 0) (l.getD 1 0)) (lineF [115] [l.getD 0 0, l.getD 1 0])
  else b
def stepRB (x : RB) (l : List Int) : RB := if l.length = 3 ∨ l.length = 2 then rPT x l else x
def playB (n : Nat) (s : List (List Int)) : Nat → BS
  | 0 => (newF n, [], 0)
  | i + 1 => stepB (playB n s i) (s.getD i [])
def playRB (n : Int) (s : List (List Int)) : Nat → RB
  | 0 => ((n, List.replicate (n * 4).toNat [], List.replicate n.toNat 0, ()), [], 0, ())
  | i + 1 => stepRB (playRB n s i) (s.getD i [])
def cLawBP : Ctr := cdet [I, .sl (.sl I)] (fun _ _ => True) (fun _ _ => [⟨.bool, true⟩])
def obBP (n : Int) (s : List (List Int)) (i : Nat) : List Ob := obBk (playB n.toNat s i).1 (playB n.toNat s i).2.1 (playB n.toNat s i).2.2 ++ [.var 35 tRB (playRB n s i)]
def anBP (n : Int) (s : List (List Int)) : Ann := [joinAll,
  loopAt 8 Nat [] (fun st i => { St.at (St.only st [0, 1, 5, 7]) [(8, .d I (i : Int))] with ob := obBP n s i }) (fun _ i => (i ≤ s.length ∧ i ≤ 70) ∧ inB n 1 5 = true) (fun i => 100 - i),
  meetAt 18 Int [] (fun st e => { St.at (St.only st [0, 1, 5, 7, 8]) [(11, .d I e), (12, .d tErr e)] with ob := obBP n s ((st.i 8).toNat + 1) }) (fun _ e => inK .i64 e ∧ inB n 1 5 = true),
  loopAt 21 Nat [] (fun st p => { St.at (St.only st [0, 5, 7]) [(13, .d I (p : Int))] with ob := obBP n s (min s.length 70) }) (fun _ p => p ≤ n.toNat ∧ inB n 1 5 = true) (fun p => n.toNat - p),
  loopAt 24 Nat [] (fun st q => { St.at (St.only st [0, 5, 7, 13]) [(14, .d I (q : Int))] with ob := obBP n s (min s.length 70) }) (fun _ q => q ≤ 4 ∧ inB n 1 5 = true) (fun q => 4 - q)]
end Go.Proofs.YthdbbgajmgjfcaaDoor
