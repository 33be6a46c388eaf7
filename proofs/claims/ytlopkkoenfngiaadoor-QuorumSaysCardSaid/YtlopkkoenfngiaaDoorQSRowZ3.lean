/- Own texts, merged: RV, ROk, ROk2, ROk3, GDef4, GV6, GDef2, GV4, GLaw, Gl, GSay, RDef2, RV2, QSay. -/
import Derived.Test.YtlopkkoenfngiaaDoorQSRowZ2
import Derived.Test.YtlopkkoenfngiaaDoorVcPA
/- What the functions of this seat have to satisfy, by program: each verification condition in plain words. -/
namespace Go.Proofs.YtlopkkoenfngiaaDoor
open Go.Vc
set_option linter.unusedVariables false
theorem vcSetsR (n : Int) (l : List Int) (k : List Dat → Prop) : vcF ⟨En, [(48, cIn), (30, cMaskR), (15, cBoth)], glT, [], []⟩ (anSetsR n l) (Tryd.f24.body.getD .skip) Tryd.f24.ntmps [(.tmp 4, I)] [⟨I, n⟩, ⟨.sl I, l⟩] k = (
  True ∧ ((!inB n (1 : Int) (8 : Int)) = true → k [Dat.mk (I) (1 : Int)]) ∧ ((!inB n (1 : Int) (8 : Int)) = false → (decide ((↑l.length : Int) = (0 : Int)) = true → k [Dat.mk (I) (5 : Int)]) ∧ (decide ((↑l.length : Int) = (0 : Int)) = false → (decide ((20 : Int) < (↑l.length : Int)) = true → k [Dat.mk (I) (4 : Int)]) ∧ (decide ((20 : Int) < (↑l.length : Int)) = false → (∃ (x : Nat), (chkS n l = setsE n l (l.length - x) x ∧ x ≤ l.length ∧ inB n (1 : Int) (8 : Int) = true ∧ ∀ (j : Nat), j < x → setE n l j = (0 : Int)) ∧ (n = n ∧ l = l ∧ (0 : Int) = (0 : Int) ∧ (0 : Int) = (↑x : Int) ∧ True) ∧ True ∧ tabD = tabD ∧ True) ∧ ∀ (x : Nat), (chkS n l = setsE n l (l.length - x) x ∧ x ≤ l.length ∧ inB n (1 : Int) (8 : Int) = true ∧ ∀ (j : Nat), j < x → setE n l j = (0 : Int)) → (decide ((↑x : Int) < (↑l.length : Int)) = true → (0 : Int) ≤ (↑x : Int) ∧ (↑x : Int) < (↑l.length : Int) ∧ (n ≤ (61 : Int) ∧ (0 : Int) ≤ n) ∧ ((!maskB (l.getD (↑x : Int).toNat (0 : Int)) n) = true → k [Dat.mk (I) (1 : Int)]) ∧ ((!maskB (l.getD (↑x : Int).toNat (0 : Int)) n) = false → (0 : Int) ≤ (↑x : Int) ∧ (↑x : Int) < (↑l.length : Int) ∧ (decide (l.getD (↑x : Int).toNat (0 : Int) = (0 : Int)) = true → k [Dat.mk (I) (3 : Int)]) ∧ (decide (l.getD (↑x : Int).toNat (0 : Int) = (0 : Int)) = false → (∃ (x_1 : Nat), (x_1 ≤ (↑x : Int).toNat ∧ ∀ (t : Int), t ∈ List.take x_1 (List.take (↑x : Int).toNat l) → meetB (l.getD (↑x : Int).toNat (0 : Int)) t = true) ∧ (n = n ∧ l = l ∧ (0 : Int) = (0 : Int) ∧ (↑x : Int) = (↑x : Int) ∧ (0 : Int) = (↑x_1 : Int) ∧ True) ∧ True ∧ tabD = tabD ∧ True) ∧ ∀ (x_1 : Nat), (x_1 ≤ (↑x : Int).toNat ∧ ∀ (t : Int), t ∈ List.take x_1 (List.take (↑x : Int).toNat l) → meetB (l.getD (↑x : Int).toNat (0 : Int)) t = true) → (decide ((↑x_1 : Int) < (↑x : Int)) = true → ((0 : Int) ≤ (↑x : Int) ∧ (↑x : Int) < (↑l.length : Int) ∧ (0 : Int) ≤ (↑x_1 : Int) ∧ (↑x_1 : Int) < (↑l.length : Int) ∧ (l.getD (↑x : Int).toNat (0 : Int) < (2305843009213693952 : Int) ∧ True) ∧ True) ∧ (decide ((↑((l.getD (↑x : Int).toNat (0 : Int)).toNat &&& (l.getD (↑x_1 : Int).toNat (0 : Int)).toNat) : Int) = (0 : Int)) = true → k [Dat.mk (I) (6 : Int)]) ∧ (decide ((↑((l.getD (↑x : Int).toNat (0 : Int)).toNat &&& (l.getD (↑x_1 : Int).toNat (0 : Int)).toNat) : Int) = (0 : Int)) = false → inK IntKind.i64 ((↑x_1 : Int) + (1 : Int)) ∧ ∃ (x_2 : Nat), (x_2 ≤ (↑x : Int).toNat ∧ ∀ (t : Int), t ∈ List.take x_2 (List.take (↑x : Int).toNat l) → meetB (l.getD (↑x : Int).toNat (0 : Int)) t = true) ∧ l.length - x_2 < l.length - x_1 ∧ (n = n ∧ l = l ∧ (0 : Int) = (0 : Int) ∧ (↑x : Int) = (↑x : Int) ∧ (↑x_1 : Int) + (1 : Int) = (↑x_2 : Int) ∧ True) ∧ True ∧ tabD = tabD ∧ True)) ∧ (decide ((↑x_1 : Int) < (↑x : Int)) = false → inK IntKind.i64 ((↑x : Int) + (1 : Int)) ∧ ∃ (x_2 : Nat), (chkS n l = setsE n l (l.length - x_2) x_2 ∧ x_2 ≤ l.length ∧ inB n (1 : Int) (8 : Int) = true ∧ ∀ (j : Nat), j < x_2 → setE n l j = (0 : Int)) ∧ l.length - x_2 < l.length - x ∧ (n = n ∧ l = l ∧ (0 : Int) = (0 : Int) ∧ (↑x : Int) + (1 : Int) = (↑x_2 : Int) ∧ True) ∧ True ∧ tabD = tabD ∧ True)))) ∧ (decide ((↑x : Int) < (↑l.length : Int)) = false → k [Dat.mk (I) (0 : Int)]))))) := by kernel_rfl
theorem vcHasR (l : List Int) (v : Int) (k : List Dat → Prop) : vcF ⟨En, [(16, cSub)], glT, [], []⟩ (anHasR l v) (Tryd.f31.body.getD .skip) Tryd.f31.ntmps [(.tmp 4, .bool)] [⟨.sl I, l⟩, ⟨I, v⟩] k = (
  (∃ (x : Nat), (x ≤ l.length ∧ hasR (List.take x l) v = false) ∧ (l = l ∧ v = v ∧ false = false ∧ (0 : Int) = (↑x : Int) ∧ True) ∧ True ∧ tabD = tabD ∧ True) ∧ ∀ (x : Nat), x ≤ l.length ∧ hasR (List.take x l) v = false → (decide ((↑x : Int) < (↑l.length : Int)) = true → (0 : Int) ≤ (↑x : Int) ∧ (↑x : Int) < (↑l.length : Int) ∧ True ∧ (subB (l.getD (↑x : Int).toNat (0 : Int)) v = true → k [Dat.mk Ty.bool true]) ∧ (subB (l.getD (↑x : Int).toNat (0 : Int)) v = false → inK IntKind.i64 ((↑x : Int) + (1 : Int)) ∧ ∃ (x_1 : Nat), (x_1 ≤ l.length ∧ hasR (List.take x_1 l) v = false) ∧ l.length - x_1 < l.length - x ∧ (l = l ∧ v = v ∧ false = false ∧ (↑x : Int) + (1 : Int) = (↑x_1 : Int) ∧ True) ∧ True ∧ tabD = tabD ∧ True)) ∧ (decide ((↑x : Int) < (↑l.length : Int)) = false → k [Dat.mk Ty.bool false])) := by kernel_rfl
theorem vcFullR (n : Int) (l : List Int) (k : List Dat → Prop) : vcF ⟨En, [(14, cPow2), (31, cHasR)], glT, [], []⟩ (anFullR n l) (Tryd.f27.body.getD .skip) Tryd.f27.ntmps [(.tmp 4, I)] [⟨I, n⟩, ⟨.sl I, l⟩] k = (
  (∃ (x : Nat), InFull n l x ∧ (n = n ∧ l = l ∧ (0 : Int) = (0 : Int) ∧ (0 : Int) = (↑x : Int) ∧ True) ∧ True ∧ tabD = tabD ∧ True) ∧ ∀ (x : Nat), InFull n l x → (n ≤ (61 : Int) ∧ True) ∧ (decide ((↑x : Int) < (2 : Int) ^ n.toNat) = true → True ∧ ((!hasR l (↑x : Int)) = true → (n ≤ (61 : Int) ∧ True) ∧ inK IntKind.i64 ((2 : Int) ^ n.toNat - (1 : Int)) ∧ inK IntKind.i64 ((2 : Int) ^ n.toNat - (1 : Int) - (↑x : Int)) ∧ True ∧ ((!hasR l ((2 : Int) ^ n.toNat - (1 : Int) - (↑x : Int))) = true → k [Dat.mk (I) (↑x : Int)]) ∧ ((!hasR l ((2 : Int) ^ n.toNat - (1 : Int) - (↑x : Int))) = false → inK IntKind.i64 ((↑x : Int) + (1 : Int)) ∧ ∃ (x_1 : Nat), InFull n l x_1 ∧ (2 : Nat) ^ n.toNat - x_1 < (2 : Nat) ^ n.toNat - x ∧ (n = n ∧ l = l ∧ (0 : Int) = (0 : Int) ∧ (↑x : Int) + (1 : Int) = (↑x_1 : Int) ∧ True) ∧ True ∧ tabD = tabD ∧ True)) ∧ ((!hasR l (↑x : Int)) = false → inK IntKind.i64 ((↑x : Int) + (1 : Int)) ∧ ∃ (x_1 : Nat), InFull n l x_1 ∧ (2 : Nat) ^ n.toNat - x_1 < (2 : Nat) ^ n.toNat - x ∧ (n = n ∧ l = l ∧ (0 : Int) = (0 : Int) ∧ (↑x : Int) + (1 : Int) = (↑x_1 : Int) ∧ True) ∧ True ∧ tabD = tabD ∧ True)) ∧ (decide ((↑x : Int) < (2 : Int) ^ n.toNat) = false → k [Dat.mk (I) (-1 : Int)])) := by kernel_rfl
theorem vcLeastR (n : Int) (l : List Int) (k : List Dat → Prop) : vcF ⟨En, [(14, cPow2), (16, cSub)], glT, [], []⟩ (anLeastR n l) (Tryd.f26.body.getD .skip) Tryd.f26.ntmps [(.tmp 4, .sl I)] [⟨I, n⟩, ⟨.sl I, l⟩] k = (
  (∃ (x : Nat), InLeast n l x ∧ (n = n ∧ l = l ∧ True ∧ (1 : Int) = (↑x : Int) ∧ True) ∧ (((3 : Nat) = (3 : Nat) ∧ [] = leastU l x) ∧ True) ∧ tabD = tabD ∧ True) ∧ ∀ (x : Nat), InLeast n l x → (n ≤ (61 : Int) ∧ True) ∧ (decide ((↑x : Int) < (2 : Int) ^ n.toNat) = true → (∃ (x_1 : Nat), (x_1 ≤ l.length ∧ True) ∧ (n = n ∧ l = l ∧ True ∧ (↑x : Int) = (↑x : Int) ∧ false = hereB (List.take x_1 l) (↑x : Int) ∧ true = lowR (List.take x_1 l) (↑x : Int) ∧ (0 : Int) = (↑x_1 : Int) ∧ True) ∧ (((3 : Nat) = (3 : Nat) ∧ leastU l x = leastU l x) ∧ True) ∧ tabD = tabD ∧ True) ∧ ∀ (x_1 : Nat), x_1 ≤ l.length ∧ True → (decide ((↑x_1 : Int) < (↑l.length : Int)) = true → (hereB (List.take x_1 l) (↑x : Int) = true → (lowR (List.take x_1 l) (↑x : Int) = true → (0 : Int) ≤ (↑x_1 : Int) ∧ (↑x_1 : Int) < (↑l.length : Int) ∧ (decide (l.getD (↑x_1 : Int).toNat (0 : Int) = (↑x : Int)) = true → inK IntKind.i64 ((↑x_1 : Int) + (1 : Int)) ∧ ∃ (x_2 : Nat), (x_2 ≤ l.length ∧ True) ∧ l.length - x_2 < l.length - x_1 ∧ (n = n ∧ l = l ∧ True ∧ (↑x : Int) = (↑x : Int) ∧ true = hereB (List.take x_2 l) (↑x : Int) ∧ true = lowR (List.take x_2 l) (↑x : Int) ∧ (↑x_1 : Int) + (1 : Int) = (↑x_2 : Int) ∧ True) ∧ (((3 : Nat) = (3 : Nat) ∧ leastU l x = leastU l x) ∧ True) ∧ tabD = tabD ∧ True) ∧ (decide (l.getD (↑x_1 : Int).toNat (0 : Int) = (↑x : Int)) = false → (0 : Int) ≤ (↑x_1 : Int) ∧ (↑x_1 : Int) < (↑l.length : Int) ∧ True ∧ inK IntKind.i64 ((↑x_1 : Int) + (1 : Int)) ∧ ∃ (x_2 : Nat), (x_2 ≤ l.length ∧ True) ∧ l.length - x_2 < l.length - x_1 ∧ (n = n ∧ l = l ∧ True ∧ (↑x : Int) = (↑x : Int) ∧ true = hereB (List.take x_2 l) (↑x : Int) ∧ (!subB (l.getD (↑x_1 : Int).toNat (0 : Int)) (↑x : Int)) = lowR (List.take x_2 l) (↑x : Int) ∧ (↑x_1 : Int) + (1 : Int) = (↑x_2 : Int) ∧ True) ∧ (((3 : Nat) = (3 : Nat) ∧ leastU l x = leastU l x) ∧ True) ∧ tabD = tabD ∧ True)) ∧ (lowR (List.take x_1 l) (↑x : Int) = false → inK IntKind.i64 ((↑x_1 : Int) + (1 : Int)) ∧ ∃ (x_2 : Nat), (x_2 ≤ l.length ∧ True) ∧ l.length - x_2 < l.length - x_1 ∧ (n = n ∧ l = l ∧ True ∧ (↑x : Int) = (↑x : Int) ∧ true = hereB (List.take x_2 l) (↑x : Int) ∧ false = lowR (List.take x_2 l) (↑x : Int) ∧ (↑x_1 : Int) + (1 : Int) = (↑x_2 : Int) ∧ True) ∧ (((3 : Nat) = (3 : Nat) ∧ leastU l x = leastU l x) ∧ True) ∧ tabD = tabD ∧ True)) ∧ (hereB (List.take x_1 l) (↑x : Int) = false → (0 : Int) ≤ (↑x_1 : Int) ∧ (↑x_1 : Int) < (↑l.length : Int) ∧ (lowR (List.take x_1 l) (↑x : Int) = true → (0 : Int) ≤ (↑x_1 : Int) ∧ (↑x_1 : Int) < (↑l.length : Int) ∧ (decide (l.getD (↑x_1 : Int).toNat (0 : Int) = (↑x : Int)) = true → inK IntKind.i64 ((↑x_1 : Int) + (1 : Int)) ∧ ∃ (x_2 : Nat), (x_2 ≤ l.length ∧ True) ∧ l.length - x_2 < l.length - x_1 ∧ (n = n ∧ l = l ∧ True ∧ (↑x : Int) = (↑x : Int) ∧ decide (l.getD (↑x_1 : Int).toNat (0 : Int) = (↑x : Int)) = hereB (List.take x_2 l) (↑x : Int) ∧ true = lowR (List.take x_2 l) (↑x : Int) ∧ (↑x_1 : Int) + (1 : Int) = (↑x_2 : Int) ∧ True) ∧ (((3 : Nat) = (3 : Nat) ∧ leastU l x = leastU l x) ∧ True) ∧ tabD = tabD ∧ True) ∧ (decide (l.getD (↑x_1 : Int).toNat (0 : Int) = (↑x : Int)) = false → (0 : Int) ≤ (↑x_1 : Int) ∧ (↑x_1 : Int) < (↑l.length : Int) ∧ True ∧ inK IntKind.i64 ((↑x_1 : Int) + (1 : Int)) ∧ ∃ (x_2 : Nat), (x_2 ≤ l.length ∧ True) ∧ l.length - x_2 < l.length - x_1 ∧ (n = n ∧ l = l ∧ True ∧ (↑x : Int) = (↑x : Int) ∧ decide (l.getD (↑x_1 : Int).toNat (0 : Int) = (↑x : Int)) = hereB (List.take x_2 l) (↑x : Int) ∧ (!subB (l.getD (↑x_1 : Int).toNat (0 : Int)) (↑x : Int)) = lowR (List.take x_2 l) (↑x : Int) ∧ (↑x_1 : Int) + (1 : Int) = (↑x_2 : Int) ∧ True) ∧ (((3 : Nat) = (3 : Nat) ∧ leastU l x = leastU l x) ∧ True) ∧ tabD = tabD ∧ True)) ∧ (lowR (List.take x_1 l) (↑x : Int) = false → inK IntKind.i64 ((↑x_1 : Int) + (1 : Int)) ∧ ∃ (x_2 : Nat), (x_2 ≤ l.length ∧ True) ∧ l.length - x_2 < l.length - x_1 ∧ (n = n ∧ l = l ∧ True ∧ (↑x : Int) = (↑x : Int) ∧ decide (l.getD (↑x_1 : Int).toNat (0 : Int) = (↑x : Int)) = hereB (List.take x_2 l) (↑x : Int) ∧ false = lowR (List.take x_2 l) (↑x : Int) ∧ (↑x_1 : Int) + (1 : Int) = (↑x_2 : Int) ∧ True) ∧ (((3 : Nat) = (3 : Nat) ∧ leastU l x = leastU l x) ∧ True) ∧ tabD = tabD ∧ True))) ∧ (decide ((↑x_1 : Int) < (↑l.length : Int)) = false → (hereB (List.take x_1 l) (↑x : Int) = true → (lowR (List.take x_1 l) (↑x : Int) = true → (leastU l x).length + ((List.replicate (1 : Nat) (0 : Int)).set (0 : Nat) (↑x : Int)).length ≤ (1000000000 : Nat) ∧ inK IntKind.i64 ((↑x : Int) + (1 : Int)) ∧ ∃ (x_2 : Nat), InLeast n l x_2 ∧ (2 : Nat) ^ n.toNat - x_2 < (2 : Nat) ^ n.toNat - x ∧ (n = n ∧ l = l ∧ True ∧ (↑x : Int) + (1 : Int) = (↑x_2 : Int) ∧ True) ∧ (((3 : Nat) = (3 : Nat) ∧ (leastU l x).append ((List.replicate (1 : Nat) (0 : Int)).set (0 : Nat) (↑x : Int)) = leastU l x_2) ∧ True) ∧ tabD = tabD ∧ True) ∧ (lowR (List.take x_1 l) (↑x : Int) = false → inK IntKind.i64 ((↑x : Int) + (1 : Int)) ∧ ∃ (x_2 : Nat), InLeast n l x_2 ∧ (2 : Nat) ^ n.toNat - x_2 < (2 : Nat) ^ n.toNat - x ∧ (n = n ∧ l = l ∧ True ∧ (↑x : Int) + (1 : Int) = (↑x_2 : Int) ∧ True) ∧ (((3 : Nat) = (3 : Nat) ∧ leastU l x = leastU l x_2) ∧ True) ∧ tabD = tabD ∧ True)) ∧ (hereB (List.take x_1 l) (↑x : Int) = false → inK IntKind.i64 ((↑x : Int) + (1 : Int)) ∧ ∃ (x_2 : Nat), InLeast n l x_2 ∧ (2 : Nat) ^ n.toNat - x_2 < (2 : Nat) ^ n.toNat - x ∧ (n = n ∧ l = l ∧ True ∧ (↑x : Int) + (1 : Int) = (↑x_2 : Int) ∧ True) ∧ (((3 : Nat) = (3 : Nat) ∧ leastU l x = leastU l x_2) ∧ True) ∧ tabD = tabD ∧ True))) ∧ (decide ((↑x : Int) < (2 : Int) ^ n.toNat) = false → k [Dat.mk (I).sl (leastU l x)])) := by kernel_rfl
theorem vcWeightR (w : List Int) (s : Int) (k : List Dat → Prop) : vcF ⟨En, [(35, cBit)], glT, [], []⟩ (anWeightR w s) (Tryd.f50.body.getD .skip) Tryd.f50.ntmps [(.tmp 4, I)] [⟨.sl I, w⟩, ⟨I, s⟩] k = (
  (∃ (x : Nat), (x ≤ w.length ∧ True) ∧ (w = w ∧ s = s ∧ (0 : Int) = (0 : Int) ∧ (0 : Int) = wR w s x ∧ (0 : Int) = (↑x : Int) ∧ True) ∧ True ∧ tabD = tabD ∧ True) ∧ ∀ (x : Nat), x ≤ w.length ∧ True → (decide ((↑x : Int) < (↑w.length : Int)) = true → True ∧ (bitB s (↑x : Int) = true → (0 : Int) ≤ (↑x : Int) ∧ (↑x : Int) < (↑w.length : Int) ∧ inK IntKind.i64 (wR w s x + w.getD (↑x : Int).toNat (0 : Int)) ∧ inK IntKind.i64 ((↑x : Int) + (1 : Int)) ∧ ∃ (x_1 : Nat), (x_1 ≤ w.length ∧ True) ∧ w.length - x_1 < w.length - x ∧ (w = w ∧ s = s ∧ (0 : Int) = (0 : Int) ∧ wR w s x + w.getD (↑x : Int).toNat (0 : Int) = wR w s x_1 ∧ (↑x : Int) + (1 : Int) = (↑x_1 : Int) ∧ True) ∧ True ∧ tabD = tabD ∧ True) ∧ (bitB s (↑x : Int) = false → inK IntKind.i64 ((↑x : Int) + (1 : Int)) ∧ ∃ (x_1 : Nat), (x_1 ≤ w.length ∧ True) ∧ w.length - x_1 < w.length - x ∧ (w = w ∧ s = s ∧ (0 : Int) = (0 : Int) ∧ wR w s x = wR w s x_1 ∧ (↑x : Int) + (1 : Int) = (↑x_1 : Int) ∧ True) ∧ True ∧ tabD = tabD ∧ True)) ∧ (decide ((↑x : Int) < (↑w.length : Int)) = false → k [Dat.mk (I) (wR w s x)])) := by kernel_rfl
theorem vcVotesR (w : List Int) (need : Int) (k : List Dat → Prop) : vcF ⟨En, [(48, cIn), (14, cPow2), (50, cWeightR), (16, cSub)], glT, [], []⟩ (anVotesR w need) (Tryd.f32.body.getD .skip) Tryd.f32.ntmps [(.tmp 4, .sl I), (.tmp 5, I)] [⟨.sl I, w⟩, ⟨I, need⟩] k = (
  (decide ((↑w.length : Int) = (0 : Int)) = true → k [Dat.mk (I).sl [], Dat.mk (I) (5 : Int)]) ∧ (decide ((↑w.length : Int) = (0 : Int)) = false → (decide ((8 : Int) < (↑w.length : Int)) = true → k [Dat.mk (I).sl [], Dat.mk (I) (4 : Int)]) ∧ (decide ((8 : Int) < (↑w.length : Int)) = false → (∃ (x : Nat), InV0 w x ∧ (w = w ∧ need = need ∧ (0 : Int) = (0 : Int) ∧ (↑w.length : Int) = (↑w.length : Int) ∧ (0 : Int) = (↑x : Int) ∧ True) ∧ True ∧ tabD = tabD ∧ True) ∧ ∀ (x : Nat), InV0 w x → (decide ((↑x : Int) < (↑w.length : Int)) = true → (0 : Int) ≤ (↑x : Int) ∧ (↑x : Int) < (↑w.length : Int) ∧ True ∧ ((!inB (w.getD (↑x : Int).toNat (0 : Int)) (0 : Int) (20 : Int)) = true → k [Dat.mk (I).sl [], Dat.mk (I) (1 : Int)]) ∧ ((!inB (w.getD (↑x : Int).toNat (0 : Int)) (0 : Int) (20 : Int)) = false → inK IntKind.i64 ((↑x : Int) + (1 : Int)) ∧ ∃ (x_1 : Nat), InV0 w x_1 ∧ w.length - x_1 < w.length - x ∧ (w = w ∧ need = need ∧ (0 : Int) = (0 : Int) ∧ (↑w.length : Int) = (↑w.length : Int) ∧ (↑x : Int) + (1 : Int) = (↑x_1 : Int) ∧ True) ∧ True ∧ tabD = tabD ∧ True)) ∧ (decide ((↑x : Int) < (↑w.length : Int)) = false → ((↑w.length : Int) ≤ (61 : Int) ∧ True) ∧ inK IntKind.i64 ((2 : Int) ^ (↑w.length : Int).toNat - (1 : Int)) ∧ (w.length ≤ (8 : Nat) ∧ ∀ (x : Int), x ∈ w → (0 : Int) ≤ x ∧ x ≤ (20 : Int)) ∧ True ∧ ((!inB need (1 : Int) (wR w ((2 : Int) ^ (↑w.length : Int).toNat - (1 : Int)) w.length)) = true → k [Dat.mk (I).sl [], Dat.mk (I) (1 : Int)]) ∧ ((!inB need (1 : Int) (wR w ((2 : Int) ^ (↑w.length : Int).toNat - (1 : Int)) w.length)) = false → inK IntKind.i64 (wR w ((2 : Int) ^ (↑w.length : Int).toNat - (1 : Int)) w.length - need) ∧ (decide (need ≤ wR w ((2 : Int) ^ (↑w.length : Int).toNat - (1 : Int)) w.length - need) = true → k [Dat.mk (I).sl [], Dat.mk (I) (6 : Int)]) ∧ (decide (need ≤ wR w ((2 : Int) ^ (↑w.length : Int).toNat - (1 : Int)) w.length - need) = false → (∃ (x : Nat), InV w need x ∧ (w = w ∧ need = need ∧ (0 : Int) = (0 : Int) ∧ (↑w.length : Int) = (↑w.length : Int) ∧ True ∧ (0 : Int) = (↑x : Int) ∧ True) ∧ (((3 : Nat) = (3 : Nat) ∧ [] = votesU w need x) ∧ True) ∧ tabD = tabD ∧ True) ∧ ∀ (x : Nat), InV w need x → ((↑w.length : Int) ≤ (61 : Int) ∧ True) ∧ (decide ((↑x : Int) < (2 : Int) ^ (↑w.length : Int).toNat) = true → (w.length ≤ (8 : Nat) ∧ ∀ (x : Int), x ∈ w → (0 : Int) ≤ x ∧ x ≤ (20 : Int)) ∧ (∃ (x_1 : Nat), (x_1 ≤ (↑x : Int).toNat ∧ True) ∧ (w = w ∧ need = need ∧ (0 : Int) = (0 : Int) ∧ (↑w.length : Int) = (↑w.length : Int) ∧ True ∧ (↑x : Int) = (↑x : Int) ∧ decide (need ≤ wR w (↑x : Int) w.length) = lowT w need (↑x : Int).toNat x_1 ∧ (0 : Int) = (↑x_1 : Int) ∧ True) ∧ (((3 : Nat) = (3 : Nat) ∧ votesU w need x = votesU w need x) ∧ True) ∧ tabD = tabD ∧ True) ∧ ∀ (x_1 : Nat), x_1 ≤ (↑x : Int).toNat ∧ True → (decide ((↑x_1 : Int) < (↑x : Int)) = true → (lowT w need (↑x : Int).toNat x_1 = true → True ∧ ((!subB (↑x_1 : Int) (↑x : Int)) = true → inK IntKind.i64 ((↑x_1 : Int) + (1 : Int)) ∧ ∃ (x_2 : Nat), (x_2 ≤ (↑x : Int).toNat ∧ True) ∧ (2 : Nat) ^ w.length - x_2 < (2 : Nat) ^ w.length - x_1 ∧ (w = w ∧ need = need ∧ (0 : Int) = (0 : Int) ∧ (↑w.length : Int) = (↑w.length : Int) ∧ True ∧ (↑x : Int) = (↑x : Int) ∧ true = lowT w need (↑x : Int).toNat x_2 ∧ (↑x_1 : Int) + (1 : Int) = (↑x_2 : Int) ∧ True) ∧ (((3 : Nat) = (3 : Nat) ∧ votesU w need x = votesU w need x) ∧ True) ∧ tabD = tabD ∧ True) ∧ ((!subB (↑x_1 : Int) (↑x : Int)) = false → (w.length ≤ (8 : Nat) ∧ ∀ (x : Int), x ∈ w → (0 : Int) ≤ x ∧ x ≤ (20 : Int)) ∧ inK IntKind.i64 ((↑x_1 : Int) + (1 : Int)) ∧ ∃ (x_2 : Nat), (x_2 ≤ (↑x : Int).toNat ∧ True) ∧ (2 : Nat) ^ w.length - x_2 < (2 : Nat) ^ w.length - x_1 ∧ (w = w ∧ need = need ∧ (0 : Int) = (0 : Int) ∧ (↑w.length : Int) = (↑w.length : Int) ∧ True ∧ (↑x : Int) = (↑x : Int) ∧ decide (wR w (↑x_1 : Int) w.length < need) = lowT w need (↑x : Int).toNat x_2 ∧ (↑x_1 : Int) + (1 : Int) = (↑x_2 : Int) ∧ True) ∧ (((3 : Nat) = (3 : Nat) ∧ votesU w need x = votesU w need x) ∧ True) ∧ tabD = tabD ∧ True)) ∧ (lowT w need (↑x : Int).toNat x_1 = false → (lowT w need (↑x : Int).toNat x_1 = true → (votesU w need x).length + ((List.replicate (1 : Nat) (0 : Int)).set (0 : Nat) (↑x : Int)).length ≤ (1000000000 : Nat) ∧ inK IntKind.i64 ((↑x : Int) + (1 : Int)) ∧ ∃ (x_2 : Nat), InV w need x_2 ∧ (2 : Nat) ^ w.length - x_2 < (2 : Nat) ^ w.length - x ∧ (w = w ∧ need = need ∧ (0 : Int) = (0 : Int) ∧ (↑w.length : Int) = (↑w.length : Int) ∧ True ∧ (↑x : Int) + (1 : Int) = (↑x_2 : Int) ∧ True) ∧ (((3 : Nat) = (3 : Nat) ∧ (votesU w need x).append ((List.replicate (1 : Nat) (0 : Int)).set (0 : Nat) (↑x : Int)) = votesU w need x_2) ∧ True) ∧ tabD = tabD ∧ True) ∧ (lowT w need (↑x : Int).toNat x_1 = false → inK IntKind.i64 ((↑x : Int) + (1 : Int)) ∧ ∃ (x_2 : Nat), InV w need x_2 ∧ (2 : Nat) ^ w.length - x_2 < (2 : Nat) ^ w.length - x ∧ (w = w ∧ need = need ∧ (0 : Int) = (0 : Int) ∧ (↑w.length : Int) = (↑w.length : Int) ∧ True ∧ (↑x : Int) + (1 : Int) = (↑x_2 : Int) ∧ True) ∧ (((3 : Nat) = (3 : Nat) ∧ votesU w need x = votesU w need x_2) ∧ True) ∧ tabD = tabD ∧ True))) ∧ (decide ((↑x_1 : Int) < (↑x : Int)) = false → (lowT w need (↑x : Int).toNat x_1 = true → (votesU w need x).length + ((List.replicate (1 : Nat) (0 : Int)).set (0 : Nat) (↑x : Int)).length ≤ (1000000000 : Nat) ∧ inK IntKind.i64 ((↑x : Int) + (1 : Int)) ∧ ∃ (x_2 : Nat), InV w need x_2 ∧ (2 : Nat) ^ w.length - x_2 < (2 : Nat) ^ w.length - x ∧ (w = w ∧ need = need ∧ (0 : Int) = (0 : Int) ∧ (↑w.length : Int) = (↑w.length : Int) ∧ True ∧ (↑x : Int) + (1 : Int) = (↑x_2 : Int) ∧ True) ∧ (((3 : Nat) = (3 : Nat) ∧ (votesU w need x).append ((List.replicate (1 : Nat) (0 : Int)).set (0 : Nat) (↑x : Int)) = votesU w need x_2) ∧ True) ∧ tabD = tabD ∧ True) ∧ (lowT w need (↑x : Int).toNat x_1 = false → inK IntKind.i64 ((↑x : Int) + (1 : Int)) ∧ ∃ (x_2 : Nat), InV w need x_2 ∧ (2 : Nat) ^ w.length - x_2 < (2 : Nat) ^ w.length - x ∧ (w = w ∧ need = need ∧ (0 : Int) = (0 : Int) ∧ (↑w.length : Int) = (↑w.length : Int) ∧ True ∧ (↑x : Int) + (1 : Int) = (↑x_2 : Int) ∧ True) ∧ (((3 : Nat) = (3 : Nat) ∧ votesU w need x = votesU w need x_2) ∧ True) ∧ tabD = tabD ∧ True))) ∧ (decide ((↑x : Int) < (2 : Int) ^ (↑w.length : Int).toNat) = false → k [Dat.mk (I).sl (votesU w need x), Dat.mk (I) (0 : Int)]))))))) := by kernel_rfl
theorem vcMasksR (n : Int) (l : List Int) (k : List Dat → Prop) : vcF ⟨En, [(15, cBoth), (23, cManyR), (14, cPow2), (31, cHasR)], glT, [], []⟩ (anMasksR n l) (Tryd.f28.body.getD .skip) Tryd.f28.ntmps [(.tmp 4, I), (.tmp 5, I)] [⟨I, n⟩, ⟨.sl I, l⟩] k = (
  (∃ (x : Nat × Int), InM n l x.fst (0 : Nat) x.snd ∧ (n = n ∧ l = l ∧ n = x.snd ∧ (0 : Int) = (↑x.fst : Int) ∧ True) ∧ True ∧ tabD = tabD ∧ True) ∧ ∀ (x : Nat × Int), InM n l x.fst (0 : Nat) x.snd → (decide ((↑x.fst : Int) < (↑l.length : Int)) = true → (∃ (x_1 : Nat × Int), InM n l (↑x.fst : Int).toNat x_1.fst x_1.snd ∧ (n = n ∧ l = l ∧ x.snd = x_1.snd ∧ (↑x.fst : Int) = (↑x.fst : Int) ∧ (0 : Int) = (↑x_1.fst : Int) ∧ True) ∧ True ∧ tabD = tabD ∧ True) ∧ ∀ (x_1 : Nat × Int), InM n l (↑x.fst : Int).toNat x_1.fst x_1.snd → (decide ((↑x_1.fst : Int) < (↑l.length : Int)) = true → ((0 : Int) ≤ (↑x.fst : Int) ∧ (↑x.fst : Int) < (↑l.length : Int) ∧ (0 : Int) ≤ (↑x_1.fst : Int) ∧ (↑x_1.fst : Int) < (↑l.length : Int) ∧ (l.getD (↑x.fst : Int).toNat (0 : Int) < (2305843009213693952 : Int) ∧ True) ∧ ((↑((l.getD (↑x.fst : Int).toNat (0 : Int)).toNat &&& (l.getD (↑x_1.fst : Int).toNat (0 : Int)).toNat) : Int) < (256 : Int) ∧ True) ∧ True) ∧ (decide ((↑(popN (↑((l.getD (↑x.fst : Int).toNat (0 : Int)).toNat &&& (l.getD (↑x_1.fst : Int).toNat (0 : Int)).toNat) : Int).toNat) : Int) < x_1.snd) = true → inK IntKind.i64 ((↑x_1.fst : Int) + (1 : Int)) ∧ ∃ (x_2 : Nat × Int), InM n l (↑x.fst : Int).toNat x_2.fst x_2.snd ∧ l.length - x_2.fst < l.length - x_1.fst ∧ (n = n ∧ l = l ∧ (↑(popN (↑((l.getD (↑x.fst : Int).toNat (0 : Int)).toNat &&& (l.getD (↑x_1.fst : Int).toNat (0 : Int)).toNat) : Int).toNat) : Int) = x_2.snd ∧ (↑x.fst : Int) = (↑x.fst : Int) ∧ (↑x_1.fst : Int) + (1 : Int) = (↑x_2.fst : Int) ∧ True) ∧ True ∧ tabD = tabD ∧ True) ∧ (decide ((↑(popN (↑((l.getD (↑x.fst : Int).toNat (0 : Int)).toNat &&& (l.getD (↑x_1.fst : Int).toNat (0 : Int)).toNat) : Int).toNat) : Int) < x_1.snd) = false → inK IntKind.i64 ((↑x_1.fst : Int) + (1 : Int)) ∧ ∃ (x_2 : Nat × Int), InM n l (↑x.fst : Int).toNat x_2.fst x_2.snd ∧ l.length - x_2.fst < l.length - x_1.fst ∧ (n = n ∧ l = l ∧ x_1.snd = x_2.snd ∧ (↑x.fst : Int) = (↑x.fst : Int) ∧ (↑x_1.fst : Int) + (1 : Int) = (↑x_2.fst : Int) ∧ True) ∧ True ∧ tabD = tabD ∧ True)) ∧ (decide ((↑x_1.fst : Int) < (↑l.length : Int)) = false → inK IntKind.i64 ((↑x.fst : Int) + (1 : Int)) ∧ ∃ (x_2 : Nat × Int), InM n l x_2.fst (0 : Nat) x_2.snd ∧ l.length - x_2.fst < l.length - x.fst ∧ (n = n ∧ l = l ∧ x_1.snd = x_2.snd ∧ (↑x.fst : Int) + (1 : Int) = (↑x_2.fst : Int) ∧ True) ∧ True ∧ tabD = tabD ∧ True)) ∧ (decide ((↑x.fst : Int) < (↑l.length : Int)) = false → (∃ (x_1 : Nat), InA n l x.snd x_1 ∧ (n = n ∧ l = l ∧ x.snd = x.snd ∧ (0 : Int) = (↑x_1 : Int) ∧ True) ∧ True ∧ tabD = tabD ∧ True) ∧ ∀ (x_1 : Nat), InA n l x.snd x_1 → inK IntKind.i64 ((↑x_1 : Int) + (1 : Int)) ∧ inK IntKind.i64 ((2 : Int) * ((↑x_1 : Int) + (1 : Int))) ∧ inK IntKind.i64 ((2 : Int) * ((↑x_1 : Int) + (1 : Int)) + (1 : Int)) ∧ (decide ((2 : Int) * ((↑x_1 : Int) + (1 : Int)) + (1 : Int) ≤ x.snd) = true → inK IntKind.i64 ((↑x_1 : Int) + (1 : Int)) ∧ ∃ (x_2 : Nat), InA n l x.snd x_2 ∧ (8 : Nat) - x_2 < (8 : Nat) - x_1 ∧ (n = n ∧ l = l ∧ x.snd = x.snd ∧ (↑x_1 : Int) + (1 : Int) = (↑x_2 : Int) ∧ True) ∧ True ∧ tabD = tabD ∧ True) ∧ (decide ((2 : Int) * ((↑x_1 : Int) + (1 : Int)) + (1 : Int) ≤ x.snd) = false → (∃ (x : Int), InF n l (↑x_1 : Int) x ∧ (n = n ∧ l = l ∧ (↑x_1 : Int) = (↑x_1 : Int) ∧ (0 : Int) = x ∧ True) ∧ True ∧ tabD = tabD ∧ True) ∧ ∀ (x : Int), InF n l (↑x_1 : Int) x → (decide (x < n) = true → (∃ (x_2 : Nat), (x_2 ≤ (2 : Nat) ^ n.toNat ∧ True) ∧ (n = n ∧ l = l ∧ (↑x_1 : Int) = (↑x_1 : Int) ∧ x = x ∧ true = allR n l x x_2 ∧ (0 : Int) = (↑x_2 : Int) ∧ True) ∧ True ∧ tabD = tabD ∧ True) ∧ ∀ (x_2 : Nat), x_2 ≤ (2 : Nat) ^ n.toNat ∧ True → (n ≤ (61 : Int) ∧ True) ∧ (decide ((↑x_2 : Int) < (2 : Int) ^ n.toNat) = true → ((↑x_2 : Int) < (256 : Int) ∧ True) ∧ inK IntKind.i64 (x + (1 : Int)) ∧ (decide ((↑(popN (↑x_2 : Int).toNat) : Int) = x + (1 : Int)) = true → (n ≤ (61 : Int) ∧ True) ∧ inK IntKind.i64 ((2 : Int) ^ n.toNat - (1 : Int)) ∧ inK IntKind.i64 ((2 : Int) ^ n.toNat - (1 : Int) - (↑x_2 : Int)) ∧ True ∧ ((!hasR l ((2 : Int) ^ n.toNat - (1 : Int) - (↑x_2 : Int))) = true → inK IntKind.i64 ((↑x_2 : Int) + (1 : Int)) ∧ ∃ (x_3 : Nat), (x_3 ≤ (2 : Nat) ^ n.toNat ∧ True) ∧ (2 : Nat) ^ n.toNat - x_3 < (2 : Nat) ^ n.toNat - x_2 ∧ (n = n ∧ l = l ∧ (↑x_1 : Int) = (↑x_1 : Int) ∧ x = x ∧ false = allR n l x x_3 ∧ (↑x_2 : Int) + (1 : Int) = (↑x_3 : Int) ∧ True) ∧ True ∧ tabD = tabD ∧ True) ∧ ((!hasR l ((2 : Int) ^ n.toNat - (1 : Int) - (↑x_2 : Int))) = false → inK IntKind.i64 ((↑x_2 : Int) + (1 : Int)) ∧ ∃ (x_3 : Nat), (x_3 ≤ (2 : Nat) ^ n.toNat ∧ True) ∧ (2 : Nat) ^ n.toNat - x_3 < (2 : Nat) ^ n.toNat - x_2 ∧ (n = n ∧ l = l ∧ (↑x_1 : Int) = (↑x_1 : Int) ∧ x = x ∧ allR n l x x_2 = allR n l x x_3 ∧ (↑x_2 : Int) + (1 : Int) = (↑x_3 : Int) ∧ True) ∧ True ∧ tabD = tabD ∧ True)) ∧ (decide ((↑(popN (↑x_2 : Int).toNat) : Int) = x + (1 : Int)) = false → inK IntKind.i64 ((↑x_2 : Int) + (1 : Int)) ∧ ∃ (x_3 : Nat), (x_3 ≤ (2 : Nat) ^ n.toNat ∧ True) ∧ (2 : Nat) ^ n.toNat - x_3 < (2 : Nat) ^ n.toNat - x_2 ∧ (n = n ∧ l = l ∧ (↑x_1 : Int) = (↑x_1 : Int) ∧ x = x ∧ allR n l x x_2 = allR n l x x_3 ∧ (↑x_2 : Int) + (1 : Int) = (↑x_3 : Int) ∧ True) ∧ True ∧ tabD = tabD ∧ True)) ∧ (decide ((↑x_2 : Int) < (2 : Int) ^ n.toNat) = false → ((!allR n l x x_2) = true → k [Dat.mk (I) (↑x_1 : Int), Dat.mk (I) x]) ∧ ((!allR n l x x_2) = false → inK IntKind.i64 (x + (1 : Int)) ∧ ∃ (x_3 : Int), InF n l (↑x_1 : Int) x_3 ∧ (n - x_3).toNat < (n - x).toNat ∧ (n = n ∧ l = l ∧ (↑x_1 : Int) = (↑x_1 : Int) ∧ x + (1 : Int) = x_3 ∧ True) ∧ True ∧ tabD = tabD ∧ True))) ∧ (decide (x < n) = false → k [Dat.mk (I) (↑x_1 : Int), Dat.mk (I) x])))) := by kernel_rfl
end Go.Proofs.YtlopkkoenfngiaaDoor

/- Quorums: the reference's walks. -/
namespace Go.Proofs.YtlopkkoenfngiaaDoor
open Go.Vc
theorem sub_eq (a b : Nat) : subB (a : Int) (b : Int) = subS (a : Int) (b : Int) := by
  have h1 := subB_iff a b
  have h2 := subS_iff a b
  unfold sub at h2
  cases h : subB (a : Int) (b : Int) <;> cases h' : subS (a : Int) (b : Int)
  · rfl
  · exact absurd (h1.2 (h2.1 h')) (by rw [h]; decide)
  · exact absurd (h2.2 (h1.1 h)) (by rw [h']; decide)
  · rfl
theorem hasR_eq {n : Int} {l : List Int} (g : Sets n l) {v : Int} (hv : 0 ≤ v) : hasR l v = hasB l v := by
  obtain ⟨V, rfl⟩ := Int.eq_ofNat_of_zero_le hv
  unfold hasR hasB
  have key : ∀ r : List Int, (∀ s ∈ r, 0 ≤ s) → (r.any fun s => subB s (V : Int)) = r.any fun s => subS s (V : Int) := by
    intro r
    induction r with
    | nil => intro _; rfl
    | cons a t ih =>
      intro h
      rw [List.any_cons, List.any_cons, ih fun s hs => h s (.tail _ hs)]
      obtain ⟨A, hA⟩ := Int.eq_ofNat_of_zero_le (h a (.head _))
      rw [hA, sub_eq]
  exact key l fun s hs => by have := g.mem s hs; omega
theorem compl_eq {n : Int} (hn : 1 ≤ n ∧ n ≤ 8) {x : Nat} (hx : x < 2 ^ n.toNat) : complN n (x : Int) = (2 : Int) ^ n.toNat - 1 - (x : Int) := by
  have h8 := pow8 hn.2
  rw [compl_nat, compl_sub ⟨n.toNat, by omega⟩ ⟨x, by omega⟩ hx, powC]
  show ((2 ^ n.toNat - 1 - x : Nat) : Int) = _
  have := Nat.two_pow_pos n.toNat
  omega

theorem setsR_vc (n : Int) (l : List Int) (k : List Dat → Prop) (hk : k [⟨I, chkS n l⟩]) :
    vcF ⟨En, [(48, cIn), (30, cMaskR), (15, cBoth)], glT, [], []⟩ (anSetsR n l) (Tryd.f24.body.getD .skip) Tryd.f24.ntmps [(.tmp 4, I)] [⟨I, n⟩, ⟨.sl I, l⟩] k := by
  rw [vcSetsR]
  simp only [decide_eq_true_eq, decide_eq_false_iff_not, and_true, true_and, Bool.not_eq_true', Bool.not_eq_false', Int.toNat_natCast]
  have ret : ∀ e : Int, chkS n l = e → k [⟨I, e⟩] := by rintro e rfl; exact hk
  refine ⟨fun h => ret 1 ?_, fun h => ⟨fun h0 => ret 5 ?_, fun h0 => ⟨fun h2 => ret 4 ?_, fun h2 => ?_⟩⟩⟩
  · unfold chkS; rw [if_pos h]
  · unfold chkS; rw [if_neg (by rw [h]; decide), if_pos (by omega)]
  · unfold chkS; rw [if_neg (by rw [h]; decide), if_neg (by omega), if_pos (by omega)]
  · have hn : 1 ≤ n ∧ n ≤ 8 := by unfold inB at h; simpa using h
    have h8 := pow8 hn.2
    have hst : chkS n l = setsE n l (l.length - 0) 0 := by unfold chkS; rw [if_neg (by rw [h]; decide), if_neg (by omega), if_neg (by omega)]; rfl
    refine ⟨⟨0, ⟨hst, by omega, h, fun j hj => by omega⟩, by omega⟩, fun x ⟨hx1, hx2, _, hx3⟩ => ⟨fun hlt => ?_, fun hge => ret 0 ?_⟩⟩
    · have hxl : x < l.length := by omega
      have hx1' := hx1
      rw [setsE_at hxl] at hx1'
      have bad : setE n l x ≠ 0 → chkS n l = setE n l x := fun h => by rw [hx1', if_neg h]
      refine ⟨by omega, hlt, ⟨by omega, by omega⟩, fun hm => ret 1 ?_, fun hm => ⟨by omega, by omega, fun h0 => ret 3 ?_, fun h0 => ⟨⟨0, ⟨by omega, fun t ht => by simp at ht⟩, by omega⟩, fun y ⟨hy, hall⟩ => ⟨fun hlt2 => ?_, fun hge2 => ?_⟩⟩⟩⟩
      · have e : setE n l x = 1 := by unfold setE; rw [if_pos hm]
        rw [bad (by rw [e]; decide), e]
      · have e : setE n l x = 3 := by unfold setE; rw [if_neg (by rw [hm]; decide), if_pos h0]
        rw [bad (by rw [e]; decide), e]
      · have hlx : (l.take x).length = x := by rw [List.length_take]; omega
        have hylt : y < (l.take x).length := by omega
        have hty : (l.take x).getD y 0 = l.getD y 0 := by
          rw [getD_at hylt, getD_at (by omega), List.getElem_take]
        have hmx := mask_of hm
        rw [powC] at hmx
        refine ⟨⟨by omega, by omega, by omega, by omega, by omega⟩, fun hc => ret 6 ?_, fun hc => ⟨inK_i64.2 (by omega), y + 1, ⟨by omega, fun t ht => ?_⟩, by omega, by omega⟩⟩
        · have hno : (l.take x).all (fun t => meetB (l.getD x 0) t) = false := by
            cases hcase : (l.take x).all (fun t => meetB (l.getD x 0) t) with
            | false => rfl
            | true =>
              have := List.all_eq_true.1 hcase _ (getD_mem hylt)
              unfold meetB at this
              rw [hty] at this
              exact absurd hc (of_decide_eq_true this)
          have e : setE n l x = 6 := by unfold setE; rw [if_neg (by rw [hm]; decide), if_neg h0, if_neg (by rw [hno]; decide)]
          rw [bad (by rw [e]; decide), e]
        · rw [take_snoc hylt] at ht
          rcases List.mem_append.1 ht with ht | ht
          · exact hall t ht
          · rw [List.mem_singleton.1 ht, hty]
            exact decide_eq_true hc
      · have hlx : (l.take x).length = x := by rw [List.length_take]; omega
        have hyx : y = (l.take x).length := by omega
        rw [hyx, List.take_length] at hall
        have e : setE n l x = 0 := by unfold setE; rw [if_neg (by rw [hm]; decide), if_neg h0, if_pos (List.all_eq_true.2 hall)]
        refine ⟨inK_i64.2 (by omega), x + 1, ⟨by rw [hx1', if_pos e], by omega, h, fun j hj => ?_⟩, by omega, by omega⟩
        rcases Nat.lt_or_ge j x with h1 | h1
        · exact hx3 j h1
        · have : j = x := by omega
          subst this; exact e
    · have : x = l.length := by omega
      rw [hx1, this, Nat.sub_self]; rfl
theorem okSetsR : PlainOk Tryd.prog glT 24 cSetsR := by
  refine plain_of (CxOk.mk' En_ok rfl mixed (gl := glT) (GOk.cons okIn.lift Tryd.func48 (by kernel_rfl) (by kernel_rfl) (GOk.cons okMaskR Tryd.func30 (by kernel_rfl) (by kernel_rfl) (GOk.cons okBoth Tryd.func15 (by kernel_rfl) (by kernel_rfl) GOk.nil))) GoOk.nil noIt) Tryd.func24 (c := Tryd.f24.body.getD .skip) (rvs := [(.tmp 4, I)]) (by kernel_rfl) (by kernel_rfl) (by kernel_rfl) ?_
  intro ds k ⟨hp, hk⟩ hwf
  obtain ⟨n, l, rfl, -⟩ := dest2 hp
  exact ⟨anSetsR n l, setsR_vc n l k hk⟩

theorem hasR_snoc (l : List Int) (y v : Int) : hasR (l ++ [y]) v = (hasR l v || subB y v) := by unfold hasR; simp
theorem hasR_vc (l : List Int) (v : Int) (k : List Dat → Prop) (hm : l.length ≤ maxLen) (hk : k [⟨.bool, hasR l v⟩]) :
    vcF ⟨En, [(16, cSub)], glT, [], []⟩ (anHasR l v) (Tryd.f31.body.getD .skip) Tryd.f31.ntmps [(.tmp 4, .bool)] [⟨.sl I, l⟩, ⟨I, v⟩] k := by
  rw [vcHasR]
  simp only [and_true, true_and, eq_self]
  simp only [maxLen] at hm
  refine ⟨⟨0, ⟨by omega, rfl⟩, rfl⟩, fun x ⟨hx, hn⟩ => ⟨fun h1 => ?_, fun h1 => ?_⟩⟩
  · have hl : x < l.length := by have := of_decide_eq_true h1; omega
    rw [Int.toNat_natCast]
    refine ⟨by omega, by omega, fun h2 => ?_, fun h2 => ⟨inK_i64.2 (by omega), x + 1, ⟨by omega, ?_⟩, by omega, by omega⟩⟩
    · have : hasR l v = true := List.any_eq_true.2 ⟨_, getD_mem hl, h2⟩
      rw [this] at hk; exact hk
    · rw [take_snoc hl, hasR_snoc, hn, h2]; rfl
  · have hl : x = l.length := by have := of_decide_eq_false h1; omega
    rw [hl, List.take_length] at hn
    rw [hn] at hk; exact hk
theorem okHasR : PlainOk Tryd.prog glT 31 cHasR := by
  refine plain_of (CxOk.mk' En_ok rfl mixed (gl := glT) (GOk.cons okSub Tryd.func16 (by kernel_rfl) (by kernel_rfl) GOk.nil) GoOk.nil noIt) Tryd.func31 (c := Tryd.f31.body.getD .skip) (rvs := [(.tmp 4, .bool)]) (by kernel_rfl) (by kernel_rfl) (by kernel_rfl) ?_
  intro ds k ⟨hp, hk⟩ hwf
  obtain ⟨l, v, rfl, -⟩ := dest2 hp
  exact ⟨anHasR l v, hasR_vc l v k (hwf _ (.head _)).1 hk⟩

theorem fullR_vc (n : Int) (l : List Int) (k : List Dat → Prop) (h : chkS n l = 0) (hk : k [⟨I, fullR n l⟩]) :
    vcF ⟨En, [(14, cPow2), (31, cHasR)], glT, [], []⟩ (anFullR n l) (Tryd.f27.body.getD .skip) Tryd.f27.ntmps [(.tmp 4, I)] [⟨I, n⟩, ⟨.sl I, l⟩] k := by
  rw [vcFullR]
  simp only [and_true, true_and, eq_self, Bool.not_eq_true', Bool.not_eq_false']
  have g := sets_of h
  have hn := g.rng
  have hpw := pow8 hn.2
  have hpp := Nat.two_pow_pos n.toNat
  have hpc := powC n.toNat
  refine ⟨⟨0, ⟨h, by omega, rfl⟩, rfl⟩, fun x hx => ⟨by omega, fun hlt => ?_, fun hge => ?_⟩⟩
  · have hlt := of_decide_eq_true hlt
    have hxl : x < 2 ^ n.toNat := by rw [hpc] at hlt; omega
    have hxo := hx.eq
    rw [firstP_at hxl] at hxo
    rw [hasR_eq g (show (0 : Int) ≤ (x : Int) by omega)]
    have hce := compl_eq hn hxl
    have nxt : neither n l x = false → inK .i64 ((x : Int) + 1) ∧ ∃ x_1 : Nat, InFull n l x_1 ∧ 2 ^ n.toNat - x_1 < 2 ^ n.toNat - x ∧ (x : Int) + 1 = (x_1 : Int) := fun hne => by
      rw [if_neg (by rw [hne]; decide)] at hxo
      exact ⟨inK_i64.2 (by omega), x + 1, ⟨h, by omega, hxo⟩, by omega, by omega⟩
    refine ⟨fun ha => ?_, fun ha => nxt (by unfold neither; rw [ha]; rfl)⟩
    have hc0 : 0 ≤ (2 : Int) ^ n.toNat - 1 - (x : Int) := by rw [hpc]; omega
    rw [hasR_eq g hc0, ← hce]
    refine ⟨by omega, inK_i64.2 (by rw [hpc]; omega), inK_i64.2 (by rw [hce, hpc]; omega), fun hb => ?_, fun hb => nxt (by unfold neither; rw [ha, hb]; rfl)⟩
    have e : neither n l x = true := by unfold neither; rw [ha, hb]; rfl
    have : fullR n l = (x : Int) := by unfold fullR; rw [hxo, if_pos e]
    rw [this] at hk; exact hk
  · have hge := of_decide_eq_false hge
    have : x = 2 ^ n.toNat := by have := hx.le; rw [hpc] at hge; omega
    have e := hx.eq
    rw [this, Nat.sub_self] at e
    have : fullR n l = -1 := by unfold fullR; rw [e]; rfl
    rw [this] at hk; exact hk
theorem okFullR : PlainOk Tryd.prog glT 27 cFullR := by
  refine plain_of (CxOk.mk' En_ok rfl mixed (gl := glT) (GOk.cons okPow2 Tryd.func14 (by kernel_rfl) (by kernel_rfl) (GOk.cons okHasR Tryd.func31 (by kernel_rfl) (by kernel_rfl) GOk.nil)) GoOk.nil noIt) Tryd.func27 (c := Tryd.f27.body.getD .skip) (rvs := [(.tmp 4, I)]) (by kernel_rfl) (by kernel_rfl) (by kernel_rfl) ?_
  intro ds k ⟨hp, hk⟩ hwf
  obtain ⟨n, l, rfl, h⟩ := dest2 hp
  exact ⟨anFullR n l, fullR_vc n l k h hk⟩

theorem wR_succ (w : List Int) (s : Int) (i : Nat) : wR w s (i + 1) = wR w s i + if bitB s (i : Int) = true then w.getD i 0 else 0 := by
  unfold wR bitB
  by_cases h : 0 ≤ s
  · rw [if_pos h, if_pos h, SS_succ, decide_eq_true h]; simp
  · rw [if_neg h, if_neg h, decide_eq_false h]; rfl
theorem wR_bd {w : List Int} (hw : wOk w) (s : Int) (k : Nat) : 0 ≤ wR w s k ∧ wR w s k ≤ 20 * k := by
  induction k with
  | zero => unfold wR SS; simp
  | succ k ih =>
    rw [wR_succ]
    have := w_at hw k
    split <;> omega
theorem weightR_vc (w : List Int) (s : Int) (k : List Dat → Prop) (hw : wOk w) (hk : k [⟨I, wR w s w.length⟩]) :
    vcF ⟨En, [(35, cBit)], glT, [], []⟩ (anWeightR w s) (Tryd.f50.body.getD .skip) Tryd.f50.ntmps [(.tmp 4, I)] [⟨.sl I, w⟩, ⟨I, s⟩] k := by
  rw [vcWeightR]
  simp only [and_true, true_and, eq_self]
  have hl := hw.1
  refine ⟨⟨0, by omega, ?_, rfl⟩, fun x hx => ⟨fun h1 => ⟨fun h2 => ?_, fun h2 => ?_⟩, fun h1 => ?_⟩⟩
  · unfold wR SS; simp
  · have hxl : x < w.length := by have := of_decide_eq_true h1; omega
    have hb := wR_bd hw s x
    have hy := w_at hw x
    rw [Int.toNat_natCast]
    refine ⟨by omega, by omega, inK_i64.2 (by omega), inK_i64.2 (by omega), x + 1, by omega, by omega, ?_, by omega⟩
    rw [wR_succ, if_pos h2]
  · have hxl : x < w.length := by have := of_decide_eq_true h1; omega
    refine ⟨inK_i64.2 (by omega), x + 1, by omega, by omega, ?_, by omega⟩
    rw [wR_succ, if_neg (by rw [h2]; decide)]; omega
  · have : x = w.length := by have := of_decide_eq_false h1; omega
    rw [this]; exact hk
theorem okWeightR : PlainOk Tryd.prog glT 50 cWeightR := by
  refine plain_of (CxOk.mk' En_ok rfl mixed (gl := glT) (GOk.cons okBit Tryd.func35 (by kernel_rfl) (by kernel_rfl) GOk.nil) GoOk.nil noIt) Tryd.func50 (c := Tryd.f50.body.getD .skip) (rvs := [(.tmp 4, I)]) (by kernel_rfl) (by kernel_rfl) (by kernel_rfl) ?_
  intro ds k ⟨hp, hk⟩ hwf
  obtain ⟨w, s, rfl, h⟩ := dest2 hp
  exact ⟨anWeightR w s, weightR_vc w s k h hk⟩
end Go.Proofs.YtlopkkoenfngiaaDoor

/- Quorums: the reference's walks: the least ones, the votes, the masks. -/
namespace Go.Proofs.YtlopkkoenfngiaaDoor
open Go.Vc
theorem here_snoc (l : List Int) (y s : Int) : hereB (l ++ [y]) s = (hereB l s || decide (y = s)) := by unfold hereB; simp
theorem low_snoc (l : List Int) (y s : Int) : lowR (l ++ [y]) s = (lowR l s && (decide (y = s) || !subB y s)) := by unfold lowR; simp
theorem least_eq {n : Int} {l : List Int} (g : Sets n l) (s : Nat) : leastB l (s : Int) = (hereB l (s : Int) && lowR l (s : Int)) := by
  unfold leastB hereB lowR
  have key : ∀ r : List Int, (∀ t ∈ r, 0 ≤ t) → (r.any fun t => decide ((s : Int) = t)) = (r.any fun t => decide (t = (s : Int))) ∧ (!r.any (lstB (s : Int))) = r.all fun t => decide (t = (s : Int)) || !subB t (s : Int) := by
    intro r
    induction r with
    | nil => intro _; exact ⟨rfl, rfl⟩
    | cons a t ih =>
      intro h
      obtain ⟨h1, h2⟩ := ih fun x hx => h x (.tail _ hx)
      obtain ⟨A, hA⟩ := Int.eq_ofNat_of_zero_le (h a (.head _))
      rw [List.any_cons, List.any_cons, List.any_cons, List.all_cons, h1, ← h2]
      refine ⟨?_, ?_⟩
      · congr 1
        by_cases e : (s : Int) = a
        · rw [decide_eq_true e, decide_eq_true e.symm]
        · rw [decide_eq_false e, decide_eq_false fun x => e x.symm]
      · unfold lstB
        rw [hA, sub_eq]
        cases decide ((A : Int) = (s : Int)) <;> cases subS (A : Int) (s : Int) <;> cases t.any (fun x => (!decide (x = (s : Int))) && subS x (s : Int)) <;> rfl
  obtain ⟨h1, h2⟩ := key l fun s hs => by have := g.mem s hs; omega
  rw [h1, h2]
theorem leastR_vc (n : Int) (l : List Int) (k : List Dat → Prop) (h : chkS n l = 0) (hk : k [⟨.sl I, leastU l (2 ^ n.toNat)⟩]) :
    vcF ⟨En, [(14, cPow2), (16, cSub)], glT, [], []⟩ (anLeastR n l) (Tryd.f26.body.getD .skip) Tryd.f26.ntmps [(.tmp 4, .sl I)] [⟨I, n⟩, ⟨.sl I, l⟩] k := by
  rw [vcLeastR]
  simp only [and_true, true_and, eq_self, Int.toNat_natCast, set1, List.append_eq]
  have g := sets_of h
  have hn := g.rng
  have hlen := g.len
  have hpw := pow8 hn.2
  have hpp := Nat.two_pow_pos n.toNat
  have hpc := powC n.toNat
  have h2 : 2 ≤ 2 ^ n.toNat := Nat.pow_le_pow_right (n := 2) (by decide) (show 1 ≤ n.toNat by omega)
  refine ⟨⟨1, ⟨h, by omega, by omega⟩, rfl, ?_⟩, fun x hx => ⟨by omega, fun hlt => ?_, fun hge => ?_⟩⟩
  · rw [leastU_succ, if_neg]
    · rfl
    · rw [least_eq g]
      intro hh
      rw [Bool.and_eq_true] at hh
      obtain ⟨t, ht, e⟩ := List.any_eq_true.1 hh.1
      have := g.mem t ht
      have := of_decide_eq_true e
      omega
  · have hlt := of_decide_eq_true hlt
    have hxl : x < 2 ^ n.toNat := by rw [hpc] at hlt; omega
    have hlu := leastU_len l x
    have hx1 := hx.le
    refine ⟨⟨0, by omega, rfl, rfl, rfl⟩, fun i hi => ⟨fun h1 => ?_, fun h1 => ?_⟩⟩
    · have hil : i < l.length := by have := of_decide_eq_true h1; omega
      have nxt : ∀ b c : Bool, b = hereB (l.take (i + 1)) (x : Int) → c = lowR (l.take (i + 1)) (x : Int) → inK .i64 ((i : Int) + 1) ∧ ∃ x_2 : Nat, x_2 ≤ l.length ∧ l.length - x_2 < l.length - i ∧ b = hereB (l.take x_2) (x : Int) ∧ c = lowR (l.take x_2) (x : Int) ∧ (i : Int) + 1 = (x_2 : Int) := fun b c e1 e2 =>
        ⟨inK_i64.2 (by omega), i + 1, by omega, by omega, e1, e2, by omega⟩
      rw [take_snoc hil, here_snoc, low_snoc] at nxt
      refine ⟨fun a1 => ⟨fun a2 => ⟨by omega, by omega, fun a3 => nxt _ _ ?_ ?_, fun a3 => ⟨by omega, by omega, nxt _ _ ?_ ?_⟩⟩, fun a2 => nxt _ _ ?_ ?_⟩, fun a1 => ⟨by omega, by omega, fun a2 => ⟨by omega, by omega, fun a3 => nxt _ _ ?_ ?_, fun a3 => ⟨by omega, by omega, nxt _ _ ?_ ?_⟩⟩, fun a2 => nxt _ _ ?_ ?_⟩⟩
      all_goals simp_all
    · have hil : i = l.length := by have := of_decide_eq_false h1; omega
      subst hil
      rw [List.take_length]
      have e := least_eq g x
      have su := leastU_succ l x
      refine ⟨fun a1 => ⟨fun a2 => ⟨by simp; omega, inK_i64.2 (by omega), x + 1, ⟨h, by omega, by omega⟩, by omega, by omega, ?_⟩, fun a2 => ⟨inK_i64.2 (by omega), x + 1, ⟨h, by omega, by omega⟩, by omega, by omega, ?_⟩⟩, fun a1 => ⟨inK_i64.2 (by omega), x + 1, ⟨h, by omega, by omega⟩, by omega, by omega, ?_⟩⟩
      · rw [a1, a2] at e
        rw [su, if_pos (by rw [e]; rfl)]
      · rw [a1, a2] at e
        rw [su, if_neg (by rw [e]; decide), List.append_nil]
      · rw [a1] at e
        rw [su, if_neg (by rw [e]; simp), List.append_nil]
  · have hge := of_decide_eq_false hge
    have : x = 2 ^ n.toNat := by have := hx.le; rw [hpc] at hge; omega
    rw [this]; exact hk
theorem okLeastR : PlainOk Tryd.prog glT 26 cLeastR := by
  refine plain_of (CxOk.mk' En_ok rfl mixed (gl := glT) (GOk.cons okPow2 Tryd.func14 (by kernel_rfl) (by kernel_rfl) (GOk.cons okSub Tryd.func16 (by kernel_rfl) (by kernel_rfl) GOk.nil)) GoOk.nil noIt) Tryd.func26 (c := Tryd.f26.body.getD .skip) (rvs := [(.tmp 4, .sl I)]) (by kernel_rfl) (by kernel_rfl) (by kernel_rfl) ?_
  intro ds k ⟨hp, hk⟩ hwf
  obtain ⟨n, l, rfl, h⟩ := dest2 hp
  exact ⟨anLeastR n l, leastR_vc n l k h hk⟩

/-! masks -/
theorem mr_step {n : Int} {l : List Int} {i j : Nat} {m : Int} (hi : i < l.length) (hj : j < l.length) (h : MR n l i j m) : MR n l i (j + 1) (if popI (l.getD i 0) (l.getD j 0) < m then popI (l.getD i 0) (l.getD j 0) else m) := by
  obtain ⟨h1, h2, h3⟩ := h
  split
  · rename_i hlt
    refine ⟨by omega, fun a b hab => ?_, .inr ⟨i, j, hi, hj, rfl⟩⟩
    by_cases hc : a = i ∧ b = j
    · rw [hc.1, hc.2]; exact Int.le_refl _
    · have := h2 a b (by omega)
      omega
  · rename_i hge
    refine ⟨h1, fun a b hab => ?_, h3⟩
    by_cases hc : a = i ∧ b = j
    · rw [hc.1, hc.2]; omega
    · exact h2 a b (by omega)
theorem mr_end {n : Int} {l : List Int} (g : Sets n l) {m : Int} (h : MR n l l.length 0 m) : 1 ≤ m ∧ m ≤ n ∧ (∀ a b, a < l.length → b < l.length → m ≤ popI (l.getD a 0) (l.getD b 0)) ∧ ∃ a b, a < l.length ∧ b < l.length ∧ m = popI (l.getD a 0) (l.getD b 0) := by
  obtain ⟨h1, h2, h3⟩ := h
  have hn := g.rng
  have hl := g.len
  have hall : ∀ a b, a < l.length → b < l.length → m ≤ popI (l.getD a 0) (l.getD b 0) := fun a b ha hb => h2 a b (.inl ⟨ha, hb⟩)
  rcases h3 with h3 | ⟨a, b, ha, hb, e⟩
  · have p := mem_pop g hl.1 hl.1
    have := hall 0 0 hl.1 hl.1
    exact ⟨by omega, h1, hall, 0, 0, hl.1, hl.1, by omega⟩
  · have := mem_pop g ha hb
    exact ⟨by omega, h1, hall, a, b, ha, hb, e⟩
theorem allR_succ (n : Int) (l : List Int) (f : Int) (s : Nat) : allR n l f (s + 1) = (allR n l f s && !(decide ((popN s : Int) = f + 1) && !hasB l (complN n (s : Int)))) := by
  unfold allR; rw [List.range_succ]; simp
theorem masksR_vc (n : Int) (l : List Int) (k : List Dat → Prop) (h : chkS n l = 0) (hk : ∀ a f : Int, ((∃ m : Int, MR n l l.length 0 m ∧ a = (m - 1).tdiv 2) ∧ FP n l (2 ^ n.toNat) f) → k [⟨I, a⟩, ⟨I, f⟩]) :
    vcF ⟨En, [(15, cBoth), (23, cManyR), (14, cPow2), (31, cHasR)], glT, [], []⟩ (anMasksR n l) (Tryd.f28.body.getD .skip) Tryd.f28.ntmps [(.tmp 4, I), (.tmp 5, I)] [⟨I, n⟩, ⟨.sl I, l⟩] k := by
  rw [vcMasksR]
  simp only [and_true, true_and, eq_self, Int.toNat_natCast, Bool.not_eq_true', Bool.not_eq_false', decide_eq_true_eq, decide_eq_false_iff_not]
  have g := sets_of h
  have hn := g.rng
  have hlen := g.len
  have hpw := pow8 hn.2
  have hpp := Nat.two_pow_pos n.toNat
  have hpc := powC n.toNat
  refine ⟨⟨(0, n), ⟨h, by simp, by simp, Int.le_refl _, fun a b hab => by simp at hab, .inl rfl⟩, rfl, rfl⟩, ?_⟩
  rintro ⟨i, m⟩ hi
  simp only at hi ⊢
  refine ⟨fun h1 => ?_, fun h1 => ?_⟩
  · have hil : i < l.length := by omega
    refine ⟨⟨(0, m), ⟨h, hi.hi, by simp, hi.hm⟩, rfl, rfl⟩, ?_⟩
    rintro ⟨j, m2⟩ hj
    simp only at hj ⊢
    refine ⟨fun h2 => ?_, fun h2 => ?_⟩
    · have hjl : j < l.length := by omega
      have q1 := g.mem _ (getD_mem hil)
      have q2 : (l.getD i 0).toNat &&& (l.getD j 0).toNat ≤ (l.getD i 0).toNat := Nat.and_le_left
      rw [hpc] at q1
      have ev : ((popN ((l.getD i 0).toNat &&& (l.getD j 0).toNat) : Nat) : Int) = popI (l.getD i 0) (l.getD j 0) := rfl
      have st := mr_step hil hjl hj.hm
      refine ⟨⟨by omega, by omega, by omega, by omega, by omega, by omega⟩, fun h3 => ⟨inK_i64.2 (by omega), (j + 1, popI (l.getD i 0) (l.getD j 0)), ⟨h, hi.hi, by simp; omega, ?_⟩, by simp; omega, ev, by simp⟩, fun h3 => ⟨inK_i64.2 (by omega), (j + 1, m2), ⟨h, hi.hi, by simp; omega, ?_⟩, by simp; omega, rfl, by simp⟩⟩
      · rw [if_pos (by rw [← ev]; exact h3)] at st; exact st
      · rw [if_neg (by rw [← ev]; exact h3)] at st; exact st
    · have hjl : j = l.length := by have := hj.hj; omega
      refine ⟨inK_i64.2 (by omega), (i + 1, m2), ⟨h, by simp; omega, by simp, ?_⟩, by simp; omega, rfl, by simp⟩
      obtain ⟨m1, m3, m4⟩ := hj.hm
      refine ⟨m1, fun a b hab => m3 a b ?_, m4⟩
      simp only at hab
      omega
  · have hil : i = l.length := by have := hi.hi; omega
    subst hil
    have me := mr_end g hi.hm
    refine ⟨⟨0, ⟨h, hi.hm, by simp; omega⟩, rfl⟩, fun a ha => ?_⟩
    have ha1 := ha.ha
    refine ⟨inK_i64.2 (by omega), inK_i64.2 (by omega), inK_i64.2 (by omega), fun h2 => ⟨inK_i64.2 (by omega), a + 1, ⟨h, hi.hm, by omega⟩, by omega, by omega⟩, fun h2 => ?_⟩
    have hda : (a : Int) = (m - 1).tdiv 2 := by
      rw [Int.tdiv_eq_ediv_of_nonneg (by omega)]; omega
    refine ⟨⟨0, ⟨h, ⟨m, hi.hm, hda⟩, Int.le_refl _, by omega, fun x hx hb => ?_⟩, rfl⟩, fun f hf => ?_⟩
    · have hx0 : x ≠ 0 := fun e => by
        subst e
        have := has_full g
        rw [show ((0 : Nat) : Int) = 0 from rfl, this] at hb; cases hb
      have := popN_pos ⟨x, by omega⟩ hx0
      simp only at this
      omega
    have hfr := hf.hf
    have hf0 : 0 ≤ f := hfr.1
    have hfn : f ≤ n := hfr.2.1
    refine ⟨fun h3 => ⟨⟨0, by omega, rfl, rfl⟩, fun s hs => ⟨by omega, fun h4 => ?_, fun h4 => ?_⟩⟩, fun h3 => hk _ _ ⟨⟨m, hi.hm, hda⟩, by have := hfr.2.1; omega, hfr.2.2, .inl (by have := hfr.2.1; omega)⟩⟩
    · have hsl : s < 2 ^ n.toNat := by rw [hpc] at h4; omega
      have hce := compl_eq hn hsl
      have hc0 : 0 ≤ (2 : Int) ^ n.toNat - 1 - (s : Int) := by rw [hpc]; omega
      rw [hasR_eq g hc0, ← hce]
      have ns := allR_succ n l f s
      refine ⟨by omega, inK_i64.2 (by omega), fun h5 => ⟨by omega, inK_i64.2 (by rw [hpc]; omega), inK_i64.2 (by rw [hce, hpc]; omega), fun h6 => ⟨inK_i64.2 (by omega), s + 1, by omega, by omega, ?_, by omega⟩, fun h6 => ⟨inK_i64.2 (by omega), s + 1, by omega, by omega, ?_, by omega⟩⟩, fun h5 => ⟨inK_i64.2 (by omega), s + 1, by omega, by omega, ?_, by omega⟩⟩
      · rw [ns, h6, decide_eq_true h5]; simp
      · rw [ns, h6]; simp
      · rw [ns, decide_eq_false h5]; simp
    · have hsl : s = 2 ^ n.toNat := by rw [hpc] at h4; omega
      subst hsl
      refine ⟨fun h5 => hk _ _ ⟨⟨m, hi.hm, hda⟩, hfr.2.1, hfr.2.2, .inr ?_⟩, fun h5 => ⟨inK_i64.2 (by omega), f + 1, ⟨h, ⟨m, hi.hm, hda⟩, by omega, by omega, fun x hx hb => ?_⟩, by omega, rfl⟩⟩
      · unfold allR at h5
        obtain ⟨x, hx, e⟩ := List.all_eq_false.1 h5
        simp only [Bool.not_eq_true', Bool.not_eq_false, Bool.and_eq_true, decide_eq_true_eq, Bool.not_eq_true] at e
        exact ⟨x, List.mem_range.1 hx, by simpa using e.2, by have := e.1; omega⟩
      · have e := List.all_eq_true.1 h5 x (List.mem_range.2 hx)
        have b1 := hfr.2.2 x hx hb
        rw [hb] at e
        have : ¬ (popN x : Int) = f + 1 := by simpa using e
        omega
theorem okMasksR : PlainOk Tryd.prog glT 28 cMasksR := by
  refine plain_of (CxOk.mk' En_ok rfl mixed (gl := glT) (GOk.cons okBoth Tryd.func15 (by kernel_rfl) (by kernel_rfl) (GOk.cons okManyR Tryd.func23 (by kernel_rfl) (by kernel_rfl) (GOk.cons okPow2 Tryd.func14 (by kernel_rfl) (by kernel_rfl) (GOk.cons okHasR Tryd.func31 (by kernel_rfl) (by kernel_rfl) GOk.nil)))) GoOk.nil noIt) Tryd.func28 (c := Tryd.f28.body.getD .skip) (rvs := [(.tmp 4, I), (.tmp 5, I)]) (by kernel_rfl) (by kernel_rfl) (by kernel_rfl) ?_
  intro ds k hp hwf
  obtain ⟨n, l, rfl, h, hk⟩ := gdest2 hp
  exact ⟨anMasksR n l, masksR_vc n l k h hk⟩
end Go.Proofs.YtlopkkoenfngiaaDoor

/- Quorums: the reference's walks: the votes. -/
namespace Go.Proofs.YtlopkkoenfngiaaDoor
open Go.Vc
theorem SS_len (w : List Int) (a : Nat) : ∀ k, SS w a (w.length + k) = SS w a w.length := by
  intro k
  induction k with
  | zero => rfl
  | succ k ih =>
    rw [← Nat.add_assoc, SS_succ, ih]
    have : w.getD (w.length + k) 0 = 0 := by rw [List.getD_eq_getElem?_getD, List.getElem?_eq_none (by omega)]; rfl
    rw [this]; split <;> omega
theorem SS_64 {w : List Int} (hw : wOk w) (a : Nat) : SS w a 64 = WW w a := by
  have := SS_len w a (64 - w.length)
  rw [show w.length + (64 - w.length) = 64 by have := hw.1; omega] at this
  exact this
theorem wR_nat (w : List Int) (x : Nat) : wR w (x : Int) w.length = WW w x := by
  unfold wR WW
  rw [if_pos (by omega), Int.toNat_natCast]
theorem wR_full {w : List Int} (hw : wOk w) : wR w ((2 : Int) ^ w.length - 1) w.length = w.sum := by
  have hp := Nat.two_pow_pos w.length
  have e : (2 : Int) ^ w.length - 1 = ((2 ^ w.length - 1 : Nat) : Int) := by rw [powC]; omega
  rw [e, wR_nat]
  unfold WW
  rw [SS_full (Nat.le_refl _), sum_take, List.take_length]
theorem lowT_succ (w : List Int) (need : Int) (s t : Nat) : lowT w need s (t + 1) = (lowT w need s t && (!subB (t : Int) (s : Int) || decide (WW w t < need))) := by
  unfold lowT; rw [List.range_succ, List.all_append, Bool.and_assoc]; simp
theorem lowT_anti {w : List Int} {need : Int} {s t u : Nat} (h : t ≤ u) (hf : lowT w need s t = false) : lowT w need s u = false := by
  cases hu : lowT w need s u with
  | false => rfl
  | true =>
    unfold lowT at hu hf
    rw [Bool.and_eq_true] at hu
    have : (decide (need ≤ WW w s) && (List.range t).all fun (x : Nat) => !subB (x : Int) (s : Int) || decide (WW w x < need)) = true := by
      rw [Bool.and_eq_true]
      refine ⟨hu.1, List.all_eq_true.2 fun x hx => ?_⟩
      have := List.mem_range.1 hx
      exact List.all_eq_true.1 hu.2 x (List.mem_range.2 (by omega))
    rw [this] at hf; cases hf
theorem low_full {w : List Int} (hw : wOk w) (need : Int) {s : Nat} (hs : s < 2 ^ w.length) : lowT w need s s = lowB w need (s : Int) := by
  have h1 := low_iff hw need hs
  have h2 : lowT w need s s = true ↔ need ≤ WW w s ∧ ∀ x : Nat, x < s → sub x s → WW w x < need := by
    unfold lowT
    rw [Bool.and_eq_true, decide_eq_true_eq, List.all_eq_true]
    constructor
    · rintro ⟨a, b⟩
      refine ⟨a, fun x hx hsub => ?_⟩
      have := b x (List.mem_range.2 hx)
      rw [show subB (x : Int) (s : Int) = true from (subB_iff x s).2 hsub] at this
      simpa using this
    · rintro ⟨a, b⟩
      refine ⟨a, fun x hx => ?_⟩
      cases hb : subB (x : Int) (s : Int) with
      | false => rfl
      | true => exact (decide_eq_true (b x (List.mem_range.1 hx) ((subB_iff x s).1 hb)) : decide (WW w x < need) = true)
  have iff : lowT w need s s = true ↔ lowB w need (s : Int) = true := by
    rw [h1, h2, SS_64 hw]
    constructor
    · rintro ⟨a, b⟩
      refine ⟨a, fun i hi => ?_⟩
      rw [SS_64 hw]
      have hsub : sub (lessN s i) s := fun j hj => by
        rw [lessN_bit, Bool.and_eq_true] at hj
        exact hj.1
      have hle := sub_le hsub
      have hne : lessN s i ≠ s := fun e => by
        have h3 := lessN_bit s i i
        rw [e, hi] at h3
        simp at h3
      exact b _ (by omega) hsub
    · rintro ⟨a, b⟩
      refine ⟨a, fun x hx hsub => ?_⟩
      have hex : ∃ i, s.testBit i = true ∧ x.testBit i = false := by
        refine Classical.byContradiction fun hno => ?_
        have : s = x := Nat.eq_of_testBit_eq fun i => by
          cases hs' : s.testBit i with
          | true =>
            cases hx' : x.testBit i with
            | true => rfl
            | false => exact absurd ⟨i, hs', hx'⟩ hno
          | false =>
            cases hx' : x.testBit i with
            | false => rfl
            | true => rw [hsub i hx'] at hs'; cases hs'
        omega
      obtain ⟨i, hi, hxi⟩ := hex
      have hb := b i hi
      have hm := SS_mono hw (a := x) (b := lessN s i) (fun j hj => by
        rw [lessN_bit, hsub j hj]
        have : i ≠ j := fun e => by subst e; rw [hj] at hxi; cases hxi
        simp [this]) 64
      rw [SS_64 hw] at hm
      omega
  cases ha : lowT w need s s <;> cases hb : lowB w need (s : Int)
  · rfl
  · exact absurd (iff.2 hb) (by rw [ha]; decide)
  · exact absurd (iff.1 ha) (by rw [hb]; decide)
  · rfl

theorem votesR_vc (w : List Int) (need : Int) (k : List Dat → Prop) (hin : inK .i64 need) (hk : k [⟨.sl I, votesL w need⟩, ⟨I, votesE w need⟩]) :
    vcF ⟨En, [(48, cIn), (14, cPow2), (50, cWeightR), (16, cSub)], glT, [], []⟩ (anVotesR w need) (Tryd.f32.body.getD .skip) Tryd.f32.ntmps [(.tmp 4, .sl I), (.tmp 5, I)] [⟨.sl I, w⟩, ⟨I, need⟩] k := by
  rw [vcVotesR]
  simp only [and_true, true_and, eq_self, Int.toNat_natCast, set1, List.append_eq, Bool.not_eq_true', Bool.not_eq_false', decide_eq_true_eq, decide_eq_false_iff_not]
  have hin := inK_i64.1 hin
  have bad : ∀ e : Int, e ≠ 0 → votesE w need = e → k [⟨.sl I, []⟩, ⟨I, e⟩] := fun e h0 he => by
    have hl : votesL w need = [] := by unfold votesL; rw [if_neg (by rw [he]; exact h0)]
    rw [hl, he] at hk; exact hk
  refine ⟨fun h1 => bad 5 (by decide) ?_, fun h1 => ⟨fun h2 => bad 4 (by decide) ?_, fun h2 => ⟨⟨0, ⟨by omega, by omega, by simp⟩, rfl⟩, fun x hx => ⟨fun h3 => ?_, fun h3 => ?_⟩⟩⟩⟩
  · unfold votesE; rw [if_pos (by omega)]
  · unfold votesE; rw [if_neg (by omega), if_pos (by omega)]
  · have hxl : x < w.length := by omega
    refine ⟨by omega, by omega, fun h4 => bad 1 (by decide) ?_, fun h4 => ⟨inK_i64.2 (by omega), x + 1, ⟨hx.ge, by omega, fun y hy => ?_⟩, by omega, by omega⟩⟩
    · have : w.all (fun x => inB x 0 20) = false := by
        cases hc : w.all (fun x => inB x 0 20) with
        | false => rfl
        | true => have := List.all_eq_true.1 hc _ (getD_mem hxl); rw [h4] at this; cases this
      unfold votesE; rw [if_neg (by omega), if_neg (by omega), if_pos this]
    · rw [take_snoc hxl] at hy
      rcases List.mem_append.1 hy with hy | hy
      · exact hx.all y hy
      · rw [List.mem_singleton.1 hy]; exact h4
  · have hxe : x = w.length := by have := hx.le; omega
    have hall := hx.all
    rw [hxe, List.take_length] at hall
    have ha : w.all (fun x => inB x 0 20) = true := List.all_eq_true.2 hall
    have hw : wOk w := ⟨by omega, fun x hx => inB_of (hall x hx)⟩
    have hp8 : 2 ^ w.length ≤ 256 := Nat.pow_le_pow_right (n := 2) (by decide) (show w.length ≤ 8 by omega)
    have hpp := Nat.two_pow_pos w.length
    have hpc := powC w.length
    have hsum := sum_bd hw.2
    have e0 : votesE w need = if inB need 1 w.sum = false then 1 else if 2 * need ≤ w.sum then 6 else 0 := by
      unfold votesE; rw [if_neg (by omega), if_neg (by omega), if_neg (by rw [ha]; decide)]
    rw [wR_full hw]
    refine ⟨by omega, inK_i64.2 (by rw [hpc]; omega), hw, fun h4 => bad 1 (by decide) ?_, fun h4 => ⟨inK_i64.2 (by have := inB_of h4; omega), fun h5 => bad 6 (by decide) ?_, fun h5 => ?_⟩⟩
    · rw [e0, if_pos h4]
    · rw [e0, if_neg (by rw [h4]; decide), if_pos (by omega)]
    · have hv : votesE w need = 0 := by rw [e0, if_neg (by rw [h4]; decide), if_neg (by omega)]
      refine ⟨⟨0, ⟨hv, by omega⟩, rfl, rfl⟩, fun s hs => ⟨by omega, fun h6 => ?_, fun h6 => ?_⟩⟩
      · have hsl : s < 2 ^ w.length := by rw [hpc] at h6; omega
        have hvl := votesU_len w need s
        have hf := low_full hw need hsl
        have su := votesU_succ w need s
        have fin : ∀ t, t ≤ s → (t = s ∨ lowT w need s t = false) → (lowT w need s t = true → (votesU w need s).length + [(s : Int)].length ≤ 1000000000 ∧ inK .i64 ((s : Int) + 1) ∧ ∃ x_2 : Nat, InV w need x_2 ∧ 2 ^ w.length - x_2 < 2 ^ w.length - s ∧ (s : Int) + 1 = (x_2 : Int) ∧ votesU w need s ++ [(s : Int)] = votesU w need x_2) ∧
            (lowT w need s t = false → inK .i64 ((s : Int) + 1) ∧ ∃ x_2 : Nat, InV w need x_2 ∧ 2 ^ w.length - x_2 < 2 ^ w.length - s ∧ (s : Int) + 1 = (x_2 : Int) ∧ votesU w need s = votesU w need x_2) := fun t ht hts => by
          refine ⟨fun hl => ?_, fun hl => ?_⟩
          · rcases hts with rfl | hh
            · rw [hf] at hl
              refine ⟨by simp; omega, inK_i64.2 (by omega), t + 1, ⟨hv, by omega⟩, by omega, by omega, ?_⟩
              rw [su, if_pos hl]
            · rw [hl] at hh; cases hh
          · have hl' := lowT_anti ht hl
            rw [hf] at hl'
            refine ⟨inK_i64.2 (by omega), s + 1, ⟨hv, by omega⟩, by omega, by omega, ?_⟩
            rw [su, if_neg (by rw [hl']; decide), List.append_nil]
        rw [wR_nat]
        refine ⟨hw, ⟨0, by omega, ?_, rfl⟩, fun t ht => ⟨fun h7 => ⟨fun h8 => ⟨fun h9 => ⟨inK_i64.2 (by omega), t + 1, by omega, by omega, ?_, by omega⟩, fun h9 => ⟨hw, inK_i64.2 (by omega), t + 1, by omega, by omega, ?_, by omega⟩⟩, fun h8 => fin t ht (.inr h8)⟩, fun h7 => fin t ht (.inl (by omega))⟩⟩
        · unfold lowT; simp
        · rw [lowT_succ, h8, h9]; rfl
        · rw [lowT_succ, h8, h9, wR_nat]; rfl
      · have hse : s = 2 ^ w.length := by have := hs.le; rw [hpc] at h6; omega
        have : votesL w need = votesU w need s := by unfold votesL; rw [if_pos hv, hse]
        rw [hv, this] at hk; exact hk
theorem okVotesR : PlainOk Tryd.prog glT 32 cVotesR := by
  refine plain_of (CxOk.mk' En_ok rfl mixed (gl := glT) (GOk.cons okIn.lift Tryd.func48 (by kernel_rfl) (by kernel_rfl) (GOk.cons okPow2 Tryd.func14 (by kernel_rfl) (by kernel_rfl) (GOk.cons okWeightR Tryd.func50 (by kernel_rfl) (by kernel_rfl) (GOk.cons okSub Tryd.func16 (by kernel_rfl) (by kernel_rfl) GOk.nil)))) GoOk.nil noIt) Tryd.func32 (c := Tryd.f32.body.getD .skip) (rvs := [(.tmp 4, .sl I), (.tmp 5, I)]) (by kernel_rfl) (by kernel_rfl) (by kernel_rfl) ?_
  intro ds k ⟨hp, hk⟩ hwf
  obtain ⟨w, need, rfl, -⟩ := dest2 hp
  exact ⟨anVotesR w need, votesR_vc w need k (hwf _ (.tail _ (.head _))) hk⟩
end Go.Proofs.YtlopkkoenfngiaaDoor

/- Generals: the law that says what is answered. -/
namespace Go.Proofs.YtlopkkoenfngiaaDoor
open Go.Vc
def glA : List (Nat × Dat) := glT ++ glE
theorem liftT {f : FuncId} {c : Ctr} (h : PlainOk Tryd.prog glT f c) : PlainOk Tryd.prog glA f c := PlainOk.sub (fun x hx => List.mem_append_left _ hx) h
theorem liftE {f : FuncId} {c : Ctr} (h : PlainOk Tryd.prog glE f c) : PlainOk Tryd.prog glA f c := PlainOk.sub (fun x hx => List.mem_append_right _ hx) h
/-- what the reference wants of each -/
def wantF (n deep liars order : Int) (lies : List Int) (j : Nat) : Int := if (j : Int) = 0 then order else takesF (arOf n liars lies) deep.toNat [0] (j : Int) order
def wantL (n deep liars order : Int) (lies : List Int) (k : Nat) : List Int := (List.range k).map (wantF n deep liars order lies)
structure InSay (n deep liars order : Int) (lies : List Int) (k : Nat) : Prop where
  le : k ≤ n.toNat
  ge : gErr n deep liars order lies = 0 ∨ k = 0
  k7 : k ≤ 7
def anSay (n deep liars order : Int) (lies : List Int) : Ann :=
  [joinAll, loopAt 5 Nat [(13, 3, I)] (fun st k => { St.at (St.only st [0, 1, 2, 3, 4, 11, 12, 13]) [(14, .d I (k : Int))] with ob := [.row 3 I (wantL n deep liars order lies k)] }) (fun _ k => InSay n deep liars order lies k) (fun k => 7 - k)]
end Go.Proofs.YtlopkkoenfngiaaDoor

/- What the functions of this seat have to satisfy, by program: each verification condition in plain words. -/
namespace Go.Proofs.YtlopkkoenfngiaaDoor
open Go.Vc
set_option linter.unusedVariables false
theorem vcGSay (n deep liars order : Int) (lies : List Int) (k : List Dat → Prop) : vcF ⟨En, [(36, cArmy), (37, cGChk), (25, cError), (38, cTakes 3), (34, cDecide), (29, cInts)], glA, [], []⟩ (anSay n deep liars order lies) (Tryd.f11.body.getD .skip) Tryd.f11.ntmps [(.tmp 10, .bool)] [⟨I, n⟩, ⟨I, deep⟩, ⟨I, liars⟩, ⟨I, order⟩, ⟨.sl I, lies⟩] k = (
  True ∧ True ∧ (inK IntKind.i64 (gErr n deep liars order lies) ∧ True) ∧ (∃ (x : Nat), InSay n deep liars order lies x ∧ (n = n ∧ deep = deep ∧ liars = liars ∧ order = order ∧ lies = lies ∧ gErr n deep liars order lies = gErr n deep liars order lies ∧ decide (gErr n deep liars order lies = gErr n deep liars order lies) = decide (gErr n deep liars order lies = gErr n deep liars order lies) ∧ True ∧ (0 : Int) = (↑x : Int) ∧ True) ∧ (((3 : Nat) = (3 : Nat) ∧ [] = wantL n deep liars order lies x) ∧ True) ∧ tabD = tabD ∧ hdE = hdE ∧ True) ∧ ∀ (x : Nat), InSay n deep liars order lies x → (decide ((↑x : Int) < n) = true → (decide ((↑x : Int) < (7 : Int)) = true → (decide (gErr n deep liars order lies = (0 : Int)) = true → (decide ((↑x : Int) = (0 : Int)) = true → (wantL n deep liars order lies x).length + ((List.replicate (1 : Nat) (0 : Int)).set (0 : Nat) order).length ≤ (1000000000 : Nat) ∧ inK IntKind.i64 ((↑x : Int) + (1 : Int)) ∧ ∃ (x_1 : Nat), InSay n deep liars order lies x_1 ∧ (7 : Nat) - x_1 < (7 : Nat) - x ∧ (n = n ∧ deep = deep ∧ liars = liars ∧ order = order ∧ lies = lies ∧ gErr n deep liars order lies = gErr n deep liars order lies ∧ decide (gErr n deep liars order lies = gErr n deep liars order lies) = decide (gErr n deep liars order lies = gErr n deep liars order lies) ∧ True ∧ (↑x : Int) + (1 : Int) = (↑x_1 : Int) ∧ True) ∧ (((3 : Nat) = (3 : Nat) ∧ (wantL n deep liars order lies x).append ((List.replicate (1 : Nat) (0 : Int)).set (0 : Nat) order) = wantL n deep liars order lies x_1) ∧ True) ∧ tabD = tabD ∧ hdE = hdE ∧ True) ∧ (decide ((↑x : Int) = (0 : Int)) = false → TakeOk (3 : Nat) (arOf n liars lies) ((List.replicate (1 : Nat) (0 : Int)).set (0 : Nat) (0 : Int)) deep (↑x : Int) order ∧ (wantL n deep liars order lies x).length + ((List.replicate (1 : Nat) (0 : Int)).set (0 : Nat) (takesF (arOf n liars lies) deep.toNat ((List.replicate (1 : Nat) (0 : Int)).set (0 : Nat) (0 : Int)) (↑x : Int) order)).length ≤ (1000000000 : Nat) ∧ inK IntKind.i64 ((↑x : Int) + (1 : Int)) ∧ ∃ (x_1 : Nat), InSay n deep liars order lies x_1 ∧ (7 : Nat) - x_1 < (7 : Nat) - x ∧ (n = n ∧ deep = deep ∧ liars = liars ∧ order = order ∧ lies = lies ∧ gErr n deep liars order lies = gErr n deep liars order lies ∧ decide (gErr n deep liars order lies = gErr n deep liars order lies) = decide (gErr n deep liars order lies = gErr n deep liars order lies) ∧ True ∧ (↑x : Int) + (1 : Int) = (↑x_1 : Int) ∧ True) ∧ (((3 : Nat) = (3 : Nat) ∧ (wantL n deep liars order lies x).append ((List.replicate (1 : Nat) (0 : Int)).set (0 : Nat) (takesF (arOf n liars lies) deep.toNat ((List.replicate (1 : Nat) (0 : Int)).set (0 : Nat) (0 : Int)) (↑x : Int) order)) = wantL n deep liars order lies x_1) ∧ True) ∧ tabD = tabD ∧ hdE = hdE ∧ True)) ∧ (decide (gErr n deep liars order lies = (0 : Int)) = false → True ∧ (decide (gErr n deep liars order lies = gErr n deep liars order lies) = true → (inK IntKind.i64 (gErr n deep liars order lies) ∧ True) ∧ (decide (gErr n deep liars order lies = gErr n deep liars order lies) = true → True ∧ k [Dat.mk Ty.bool (decF n deep liars order lies == wantL n deep liars order lies x)]) ∧ (decide (gErr n deep liars order lies = gErr n deep liars order lies) = false → k [Dat.mk Ty.bool false])) ∧ (decide (gErr n deep liars order lies = gErr n deep liars order lies) = false → k [Dat.mk Ty.bool false]))) ∧ (decide ((↑x : Int) < (7 : Int)) = false → True ∧ (decide (gErr n deep liars order lies = gErr n deep liars order lies) = true → (inK IntKind.i64 (gErr n deep liars order lies) ∧ True) ∧ (decide (gErr n deep liars order lies = gErr n deep liars order lies) = true → True ∧ k [Dat.mk Ty.bool (decF n deep liars order lies == wantL n deep liars order lies x)]) ∧ (decide (gErr n deep liars order lies = gErr n deep liars order lies) = false → k [Dat.mk Ty.bool false])) ∧ (decide (gErr n deep liars order lies = gErr n deep liars order lies) = false → k [Dat.mk Ty.bool false]))) ∧ (decide ((↑x : Int) < n) = false → True ∧ (decide (gErr n deep liars order lies = gErr n deep liars order lies) = true → (inK IntKind.i64 (gErr n deep liars order lies) ∧ True) ∧ (decide (gErr n deep liars order lies = gErr n deep liars order lies) = true → True ∧ k [Dat.mk Ty.bool (decF n deep liars order lies == wantL n deep liars order lies x)]) ∧ (decide (gErr n deep liars order lies = gErr n deep liars order lies) = false → k [Dat.mk Ty.bool false])) ∧ (decide (gErr n deep liars order lies = gErr n deep liars order lies) = false → k [Dat.mk Ty.bool false]))) := by kernel_rfl
end Go.Proofs.YtlopkkoenfngiaaDoor

/- Generals: the laws. -/
namespace Go.Proofs.YtlopkkoenfngiaaDoor
open Go.Vc
def cGFact : Ctr := cdet [] True [⟨.bool, true⟩]
def cLawG : Ctr := cdet [I, I, I, I, .sl I] (fun _ _ _ _ _ => True) (fun _ _ _ _ _ => [⟨.bool, true⟩])
def cLawH : Ctr := cdet [I, I, I, .sl I] (fun _ _ _ _ => True) (fun _ _ _ _ => [⟨.bool, true⟩])
structure InAg (n deep liars order : Int) (lies : List Int) (i : Nat) (f : Int) : Prop where
  ge : gErr n deep liars order lies = 0
  le : 1 ≤ i ∧ (i : Int) ≤ n
  many : (popN liars.toNat : Int) ≤ deep
  three : 3 * deep < n
  first : (f = -1 ∧ ∀ j, 1 ≤ j → j < i → bitB liars (j : Int) = true) ∨ ∃ j, 1 ≤ j ∧ j < i ∧ bitB liars (j : Int) = false ∧ f = (decF n deep liars order lies).getD j 0
def anAgree (n deep liars order : Int) (lies : List Int) : Ann :=
  [joinAll, loopAt 13 (Nat × Int) [] (fun st x => St.at (St.only st [0, 1, 2, 3, 4, 12]) [(14, .d I x.2), (15, .d I (x.1 : Int))]) (fun _ x => InAg n deep liars order lies x.1 x.2) (fun x => n.toNat - x.1)]
structure InOb (n deep liars order : Int) (lies : List Int) (i : Nat) : Prop where
  ge : gErr n deep liars order lies = 0
  le : 1 ≤ i ∧ (i : Int) ≤ n
  z : bitB liars 0 = false
  many : 2 * (popN liars.toNat : Int) + deep < n
def anObey (n deep liars order : Int) (lies : List Int) : Ann :=
  [joinAll, loopAt 12 Nat [] (fun st i => St.at (St.only st [0, 1, 2, 3, 4, 12]) [(14, .d I (i : Int))]) (fun _ i => InOb n deep liars order lies i) (fun i => n.toNat - i)]
structure InHo (n deep order : Int) (lies : List Int) (i : Nat) : Prop where
  ge : gErr n deep 0 order lies = 0
  le : (i : Int) ≤ n
def anHonest (n deep order : Int) (lies : List Int) : Ann :=
  [joinAll, loopAt 8 Nat [] (fun st i => St.at (St.only st [0, 1, 2, 3, 10]) [(12, .d I (i : Int))]) (fun _ i => InHo n deep order lies i) (fun i => n.toNat - i)]
end Go.Proofs.YtlopkkoenfngiaaDoor

/- What the functions of this seat have to satisfy, by program: each verification condition in plain words. -/
namespace Go.Proofs.YtlopkkoenfngiaaDoor
open Go.Vc
set_option linter.unusedVariables false
theorem vcGFact (k : List Dat → Prop) : vcF ⟨En, [(34, cDecide)], glT, [], []⟩ [joinAll] (Tryd.f33.body.getD .skip) Tryd.f33.ntmps [(.tmp 0, .bool)] [] k = (
  True ∧ True ∧ (decide (gErr (3 : Int) (1 : Int) (4 : Int) (1 : Int) ((List.replicate (1 : Nat) (0 : Int)).set (0 : Nat) (0 : Int)) = (0 : Int)) = true → (decide (gErr (4 : Int) (1 : Int) (8 : Int) (1 : Int) ((List.replicate (1 : Nat) (0 : Int)).set (0 : Nat) (0 : Int)) = (0 : Int)) = true → (decide ((↑(decF (3 : Int) (1 : Int) (4 : Int) (1 : Int) ((List.replicate (1 : Nat) (0 : Int)).set (0 : Nat) (0 : Int))).length : Int) = (3 : Int)) = true → (0 : Int) ≤ (1 : Int) ∧ (1 : Int) < (↑(decF (3 : Int) (1 : Int) (4 : Int) (1 : Int) ((List.replicate (1 : Nat) (0 : Int)).set (0 : Nat) (0 : Int))).length : Int) ∧ (decide ((decF (3 : Int) (1 : Int) (4 : Int) (1 : Int) ((List.replicate (1 : Nat) (0 : Int)).set (0 : Nat) (0 : Int))).getD (Int.toNat (1 : Int)) (0 : Int) = (0 : Int)) = true → (decide ((↑(decF (4 : Int) (1 : Int) (8 : Int) (1 : Int) ((List.replicate (1 : Nat) (0 : Int)).set (0 : Nat) (0 : Int))).length : Int) = (4 : Int)) = true → (0 : Int) ≤ (1 : Int) ∧ (1 : Int) < (↑(decF (4 : Int) (1 : Int) (8 : Int) (1 : Int) ((List.replicate (1 : Nat) (0 : Int)).set (0 : Nat) (0 : Int))).length : Int) ∧ (decide ((decF (4 : Int) (1 : Int) (8 : Int) (1 : Int) ((List.replicate (1 : Nat) (0 : Int)).set (0 : Nat) (0 : Int))).getD (Int.toNat (1 : Int)) (0 : Int) = (1 : Int)) = true → (0 : Int) ≤ (2 : Int) ∧ (2 : Int) < (↑(decF (4 : Int) (1 : Int) (8 : Int) (1 : Int) ((List.replicate (1 : Nat) (0 : Int)).set (0 : Nat) (0 : Int))).length : Int) ∧ k [Dat.mk Ty.bool (decide ((decF (4 : Int) (1 : Int) (8 : Int) (1 : Int) ((List.replicate (1 : Nat) (0 : Int)).set (0 : Nat) (0 : Int))).getD (Int.toNat (2 : Int)) (0 : Int) = (1 : Int)))]) ∧ (decide ((decF (4 : Int) (1 : Int) (8 : Int) (1 : Int) ((List.replicate (1 : Nat) (0 : Int)).set (0 : Nat) (0 : Int))).getD (Int.toNat (1 : Int)) (0 : Int) = (1 : Int)) = false → k [Dat.mk Ty.bool false])) ∧ (decide ((↑(decF (4 : Int) (1 : Int) (8 : Int) (1 : Int) ((List.replicate (1 : Nat) (0 : Int)).set (0 : Nat) (0 : Int))).length : Int) = (4 : Int)) = false → k [Dat.mk Ty.bool false])) ∧ (decide ((decF (3 : Int) (1 : Int) (4 : Int) (1 : Int) ((List.replicate (1 : Nat) (0 : Int)).set (0 : Nat) (0 : Int))).getD (Int.toNat (1 : Int)) (0 : Int) = (0 : Int)) = false → k [Dat.mk Ty.bool false])) ∧ (decide ((↑(decF (3 : Int) (1 : Int) (4 : Int) (1 : Int) ((List.replicate (1 : Nat) (0 : Int)).set (0 : Nat) (0 : Int))).length : Int) = (3 : Int)) = false → k [Dat.mk Ty.bool false])) ∧ (decide (gErr (4 : Int) (1 : Int) (8 : Int) (1 : Int) ((List.replicate (1 : Nat) (0 : Int)).set (0 : Nat) (0 : Int)) = (0 : Int)) = false → k [Dat.mk Ty.bool false])) ∧ (decide (gErr (3 : Int) (1 : Int) (4 : Int) (1 : Int) ((List.replicate (1 : Nat) (0 : Int)).set (0 : Nat) (0 : Int)) = (0 : Int)) = false → k [Dat.mk Ty.bool false])) := by kernel_rfl
theorem vcAgree (n deep liars order : Int) (lies : List Int) (k : List Dat → Prop) : vcF ⟨En, [(33, cGFact), (34, cDecide), (23, cManyR), (35, cBit)], glT, [], []⟩ (anAgree n deep liars order lies) (Tryd.f8.body.getD .skip) Tryd.f8.ntmps [(.tmp 10, .bool)] [⟨I, n⟩, ⟨I, deep⟩, ⟨I, liars⟩, ⟨I, order⟩, ⟨.sl I, lies⟩] k = (
  True ∧ ((!true) = true → k [Dat.mk Ty.bool false]) ∧ ((!true) = false → True ∧ ((!decide (gErr n deep liars order lies = (0 : Int))) = true → k [Dat.mk Ty.bool (decide ((↑(decF n deep liars order lies).length : Int) = (0 : Int)))]) ∧ ((!decide (gErr n deep liars order lies = (0 : Int))) = false → ((!decide ((↑(decF n deep liars order lies).length : Int) = n)) = true → k [Dat.mk Ty.bool false]) ∧ ((!decide ((↑(decF n deep liars order lies).length : Int) = n)) = false → (liars < (256 : Int) ∧ True) ∧ (decide (deep < (↑(popN liars.toNat) : Int)) = true → k [Dat.mk Ty.bool true]) ∧ (decide (deep < (↑(popN liars.toNat) : Int)) = false → inK IntKind.i64 ((3 : Int) * deep) ∧ (decide (n ≤ (3 : Int) * deep) = true → k [Dat.mk Ty.bool true]) ∧ (decide (n ≤ (3 : Int) * deep) = false → (∃ (x : Nat × Int), InAg n deep liars order lies x.fst x.snd ∧ (n = n ∧ deep = deep ∧ liars = liars ∧ order = order ∧ lies = lies ∧ decF n deep liars order lies = decF n deep liars order lies ∧ (-1 : Int) = x.snd ∧ (1 : Int) = (↑x.fst : Int) ∧ True) ∧ True ∧ tabD = tabD ∧ True) ∧ ∀ (x : Nat × Int), InAg n deep liars order lies x.fst x.snd → (decide ((↑x.fst : Int) < n) = true → True ∧ (bitB liars (↑x.fst : Int) = true → inK IntKind.i64 ((↑x.fst : Int) + (1 : Int)) ∧ ∃ (x_1 : Nat × Int), InAg n deep liars order lies x_1.fst x_1.snd ∧ n.toNat - x_1.fst < n.toNat - x.fst ∧ (n = n ∧ deep = deep ∧ liars = liars ∧ order = order ∧ lies = lies ∧ decF n deep liars order lies = decF n deep liars order lies ∧ x.snd = x_1.snd ∧ (↑x.fst : Int) + (1 : Int) = (↑x_1.fst : Int) ∧ True) ∧ True ∧ tabD = tabD ∧ True) ∧ (bitB liars (↑x.fst : Int) = false → (decide (x.snd < (0 : Int)) = true → (0 : Int) ≤ (↑x.fst : Int) ∧ (↑x.fst : Int) < (↑(decF n deep liars order lies).length : Int) ∧ (0 : Int) ≤ (↑x.fst : Int) ∧ (↑x.fst : Int) < (↑(decF n deep liars order lies).length : Int) ∧ ((!decide ((decF n deep liars order lies).getD (↑x.fst : Int).toNat (0 : Int) = (decF n deep liars order lies).getD (↑x.fst : Int).toNat (0 : Int))) = true → k [Dat.mk Ty.bool false]) ∧ ((!decide ((decF n deep liars order lies).getD (↑x.fst : Int).toNat (0 : Int) = (decF n deep liars order lies).getD (↑x.fst : Int).toNat (0 : Int))) = false → inK IntKind.i64 ((↑x.fst : Int) + (1 : Int)) ∧ ∃ (x_1 : Nat × Int), InAg n deep liars order lies x_1.fst x_1.snd ∧ n.toNat - x_1.fst < n.toNat - x.fst ∧ (n = n ∧ deep = deep ∧ liars = liars ∧ order = order ∧ lies = lies ∧ decF n deep liars order lies = decF n deep liars order lies ∧ (decF n deep liars order lies).getD (↑x.fst : Int).toNat (0 : Int) = x_1.snd ∧ (↑x.fst : Int) + (1 : Int) = (↑x_1.fst : Int) ∧ True) ∧ True ∧ tabD = tabD ∧ True)) ∧ (decide (x.snd < (0 : Int)) = false → (0 : Int) ≤ (↑x.fst : Int) ∧ (↑x.fst : Int) < (↑(decF n deep liars order lies).length : Int) ∧ ((!decide ((decF n deep liars order lies).getD (↑x.fst : Int).toNat (0 : Int) = x.snd)) = true → k [Dat.mk Ty.bool false]) ∧ ((!decide ((decF n deep liars order lies).getD (↑x.fst : Int).toNat (0 : Int) = x.snd)) = false → inK IntKind.i64 ((↑x.fst : Int) + (1 : Int)) ∧ ∃ (x_1 : Nat × Int), InAg n deep liars order lies x_1.fst x_1.snd ∧ n.toNat - x_1.fst < n.toNat - x.fst ∧ (n = n ∧ deep = deep ∧ liars = liars ∧ order = order ∧ lies = lies ∧ decF n deep liars order lies = decF n deep liars order lies ∧ x.snd = x_1.snd ∧ (↑x.fst : Int) + (1 : Int) = (↑x_1.fst : Int) ∧ True) ∧ True ∧ tabD = tabD ∧ True)))) ∧ (decide ((↑x.fst : Int) < n) = false → k [Dat.mk Ty.bool true]))))))) := by kernel_rfl
theorem vcObey (n deep liars order : Int) (lies : List Int) (k : List Dat → Prop) : vcF ⟨En, [(33, cGFact), (34, cDecide), (23, cManyR), (35, cBit)], glT, [], []⟩ (anObey n deep liars order lies) (Tryd.f9.body.getD .skip) Tryd.f9.ntmps [(.tmp 10, .bool)] [⟨I, n⟩, ⟨I, deep⟩, ⟨I, liars⟩, ⟨I, order⟩, ⟨.sl I, lies⟩] k = (
  True ∧ ((!true) = true → k [Dat.mk Ty.bool false]) ∧ ((!true) = false → True ∧ ((!decide (gErr n deep liars order lies = (0 : Int))) = true → k [Dat.mk Ty.bool (decide ((↑(decF n deep liars order lies).length : Int) = (0 : Int)))]) ∧ ((!decide (gErr n deep liars order lies = (0 : Int))) = false → ((!decide ((↑(decF n deep liars order lies).length : Int) = n)) = true → k [Dat.mk Ty.bool false]) ∧ ((!decide ((↑(decF n deep liars order lies).length : Int) = n)) = false → (0 : Int) ≤ (0 : Int) ∧ (0 : Int) < (↑(decF n deep liars order lies).length : Int) ∧ ((!decide ((decF n deep liars order lies).getD (Int.toNat (0 : Int)) (0 : Int) = order)) = true → k [Dat.mk Ty.bool false]) ∧ ((!decide ((decF n deep liars order lies).getD (Int.toNat (0 : Int)) (0 : Int) = order)) = false → True ∧ (bitB liars (0 : Int) = true → k [Dat.mk Ty.bool true]) ∧ (bitB liars (0 : Int) = false → (liars < (256 : Int) ∧ True) ∧ inK IntKind.i64 ((2 : Int) * (↑(popN liars.toNat) : Int)) ∧ inK IntKind.i64 ((2 : Int) * (↑(popN liars.toNat) : Int) + deep) ∧ (decide (n ≤ (2 : Int) * (↑(popN liars.toNat) : Int) + deep) = true → k [Dat.mk Ty.bool true]) ∧ (decide (n ≤ (2 : Int) * (↑(popN liars.toNat) : Int) + deep) = false → (∃ (x : Nat), InOb n deep liars order lies x ∧ (n = n ∧ deep = deep ∧ liars = liars ∧ order = order ∧ lies = lies ∧ decF n deep liars order lies = decF n deep liars order lies ∧ (1 : Int) = (↑x : Int) ∧ True) ∧ True ∧ tabD = tabD ∧ True) ∧ ∀ (x : Nat), InOb n deep liars order lies x → (decide ((↑x : Int) < n) = true → True ∧ ((!bitB liars (↑x : Int)) = true → (0 : Int) ≤ (↑x : Int) ∧ (↑x : Int) < (↑(decF n deep liars order lies).length : Int) ∧ ((!decide ((decF n deep liars order lies).getD (↑x : Int).toNat (0 : Int) = order)) = true → k [Dat.mk Ty.bool false]) ∧ ((!decide ((decF n deep liars order lies).getD (↑x : Int).toNat (0 : Int) = order)) = false → inK IntKind.i64 ((↑x : Int) + (1 : Int)) ∧ ∃ (x_1 : Nat), InOb n deep liars order lies x_1 ∧ n.toNat - x_1 < n.toNat - x ∧ (n = n ∧ deep = deep ∧ liars = liars ∧ order = order ∧ lies = lies ∧ decF n deep liars order lies = decF n deep liars order lies ∧ (↑x : Int) + (1 : Int) = (↑x_1 : Int) ∧ True) ∧ True ∧ tabD = tabD ∧ True)) ∧ ((!bitB liars (↑x : Int)) = false → inK IntKind.i64 ((↑x : Int) + (1 : Int)) ∧ ∃ (x_1 : Nat), InOb n deep liars order lies x_1 ∧ n.toNat - x_1 < n.toNat - x ∧ (n = n ∧ deep = deep ∧ liars = liars ∧ order = order ∧ lies = lies ∧ decF n deep liars order lies = decF n deep liars order lies ∧ (↑x : Int) + (1 : Int) = (↑x_1 : Int) ∧ True) ∧ True ∧ tabD = tabD ∧ True)) ∧ (decide ((↑x : Int) < n) = false → k [Dat.mk Ty.bool true])))))))) := by kernel_rfl
theorem vcHonest (n deep order : Int) (lies : List Int) (k : List Dat → Prop) : vcF ⟨En, [(33, cGFact), (34, cDecide)], glT, [], []⟩ (anHonest n deep order lies) (Tryd.f10.body.getD .skip) Tryd.f10.ntmps [(.tmp 8, .bool)] [⟨I, n⟩, ⟨I, deep⟩, ⟨I, order⟩, ⟨.sl I, lies⟩] k = (
  True ∧ ((!true) = true → k [Dat.mk Ty.bool false]) ∧ ((!true) = false → True ∧ ((!decide (gErr n deep (0 : Int) order lies = (0 : Int))) = true → k [Dat.mk Ty.bool (decide ((↑(decF n deep (0 : Int) order lies).length : Int) = (0 : Int)))]) ∧ ((!decide (gErr n deep (0 : Int) order lies = (0 : Int))) = false → (∃ (x : Nat), InHo n deep order lies x ∧ (n = n ∧ deep = deep ∧ order = order ∧ lies = lies ∧ decF n deep (0 : Int) order lies = decF n deep (0 : Int) order lies ∧ (0 : Int) = (↑x : Int) ∧ True) ∧ True ∧ tabD = tabD ∧ True) ∧ ∀ (x : Nat), InHo n deep order lies x → (decide ((↑x : Int) < (↑(decF n deep (0 : Int) order lies).length : Int)) = true → (0 : Int) ≤ (↑x : Int) ∧ (↑x : Int) < (↑(decF n deep (0 : Int) order lies).length : Int) ∧ ((!decide ((decF n deep (0 : Int) order lies).getD (↑x : Int).toNat (0 : Int) = order)) = true → k [Dat.mk Ty.bool false]) ∧ ((!decide ((decF n deep (0 : Int) order lies).getD (↑x : Int).toNat (0 : Int) = order)) = false → inK IntKind.i64 ((↑x : Int) + (1 : Int)) ∧ ∃ (x_1 : Nat), InHo n deep order lies x_1 ∧ n.toNat - x_1 < n.toNat - x ∧ (n = n ∧ deep = deep ∧ order = order ∧ lies = lies ∧ decF n deep (0 : Int) order lies = decF n deep (0 : Int) order lies ∧ (↑x : Int) + (1 : Int) = (↑x_1 : Int) ∧ True) ∧ True ∧ tabD = tabD ∧ True)) ∧ (decide ((↑x : Int) < (↑(decF n deep (0 : Int) order lies).length : Int)) = false → k [Dat.mk Ty.bool (decide ((↑(decF n deep (0 : Int) order lies).length : Int) = n))])))) := by kernel_rfl
end Go.Proofs.YtlopkkoenfngiaaDoor

/- Generals: the laws hold. -/
namespace Go.Proofs.YtlopkkoenfngiaaDoor
open Go.Vc
theorem lt128 {n liars : Int} (hn : n ≤ 7) (h : 0 ≤ liars ∧ liars < 2 ^ n.toNat) : liars.toNat < 128 ∧ liars < 128 := by
  have h1 : 2 ^ n.toNat ≤ 2 ^ 7 := Nat.pow_le_pow_right (by decide) (by omega)
  have h2 := h.2
  rw [powC] at h2
  omega
theorem rest0_bit (n : Int) (i : Nat) : (restN n [0]).testBit i = (decide (i < n.toNat) && !decide (i = 0)) := by
  rw [restN_bit]
  congr 1
  have h := onN_bit [0] i
  by_cases hi : i = 0
  · subst hi
    rw [h.2 ⟨0, .head _, rfl⟩]; rfl
  · cases hb : (onN [0]).testBit i with
    | false => simp [hi]
    | true =>
      obtain ⟨y, hy, e⟩ := h.1 hb
      rw [List.mem_singleton.1 hy] at e
      exact absurd e.symm hi
theorem rest0_in {n : Int} {i : Nat} (h1 : 1 ≤ i) (h : (i : Int) < n) : (restN n [0]).testBit i = true := by
  rw [rest0_bit, decide_eq_true (show i < n.toNat by omega), decide_eq_false (show ¬ i = 0 by omega)]; rfl
theorem rest0_pop {n : Int} (hn : 1 ≤ n ∧ n ≤ 7) : (popN (restN n [0]) : Int) = n - 1 := by
  have key : ∀ m : Fin 8, popN (restN ((m.val : Nat) : Int) [0]) = m.val - 1 := by decide +kernel
  have := key ⟨n.toNat, by omega⟩
  rw [show ((n.toNat : Nat) : Int) = n by omega] at this
  rw [this]
  show ((n.toNat - 1 : Nat) : Int) = n - 1
  omega
theorem top_t {n liars : Int} {lies : List Int} (hn : 1 ≤ n ∧ n ≤ 7) (h : 0 ≤ liars ∧ liars < 2 ^ n.toNat) : tR (arOf n liars lies) (restN n [0]) + (if bitB liars 0 = true then 1 else 0) = popN liars.toNat := by
  obtain ⟨h1, h2⟩ := lt128 hn.2 h
  have hb : ∀ j : Nat, bitB liars (j : Int) = liars.toNat.testBit j := fun j => by
    unfold bitB; rw [decide_eq_true h.1]; simp
  rw [pop_sum h1, S_split (j := 0) 64 (by decide)]
  have e0 : (if liars.toNat.testBit 0 = true then (1 : Int) else 0) = if bitB liars 0 = true then 1 else 0 := by
    have := hb 0
    rw [show ((0 : Nat) : Int) = 0 from rfl] at this
    rw [this]
  rw [e0]
  congr 1
  refine S_congr 64 fun j _ => ?_
  show (if (restN n [0]).testBit j = true ∧ bitB liars (j : Int) = true then (1 : Int) else 0) = _
  rw [hb, rest0_bit]
  by_cases hj : j = 0
  · subst hj; simp
  · rw [if_neg hj]
    by_cases hb' : liars.toNat.testBit j = true
    · have hlt : j < n.toNat := by
        rcases Nat.lt_or_ge j n.toNat with h' | h'
        · exact h'
        · have h3 := h.2
          rw [powC] at h3
          rw [Nat.testBit_lt_two_pow (Nat.lt_of_lt_of_le (show liars.toNat < 2 ^ n.toNat by omega) (Nat.pow_le_pow_right (by decide) h'))] at hb'; cases hb'
      simp [hj, hb', hlt]
    · simp [hb']

section
variable {n deep liars order : Int} {lies : List Int}
theorem dec_len (h : gErr n deep liars order lies = 0) : (decF n deep liars order lies).length = n.toNat := by
  unfold decF; rw [if_pos h, List.length_set, ask_len]; rfl
theorem dec_zero (h : gErr n deep liars order lies = 0) : (decF n deep liars order lies).getD 0 0 = order := by
  have := (ge_of h).hn
  unfold decF; rw [if_pos h, getD_set, if_pos rfl, ask_len, if_pos]
  show 0 < n.toNat
  omega
theorem dec_at (h : gErr n deep liars order lies = 0) {i : Nat} (hi : 1 ≤ i) : (decF n deep liars order lies).getD i 0 = (askF (arOf n liars lies) deep.toNat [0] order).getD i 0 := by
  unfold decF; rw [if_pos h, getD_set, if_neg (by omega)]
theorem dec_bd (h : gErr n deep liars order lies = 0) {i : Nat} (hi : 1 ≤ i) : 0 ≤ (decF n deep liars order lies).getD i 0 := by
  rw [dec_at h hi]
  exact (ask_bd (ge_of h).ar _ _ (ge_of h).ho i).1
theorem top_agree (h : gErr n deep liars order lies = 0) (hm : (popN liars.toNat : Int) ≤ deep) (h3 : 3 * deep < n) {i j : Nat} (hi : 1 ≤ i ∧ (i : Int) < n) (hj : 1 ≤ j ∧ (j : Int) < n)
    (hli : bitB liars (i : Int) = false) (hlj : bitB liars (j : Int) = false) : (decF n deep liars order lies).getD i 0 = (decF n deep liars order lies).getD j 0 := by
  have g := ge_of h
  have hd := g.hd
  have hn := g.hn
  have ht := top_t (lies := lies) g.hn g.hl
  have hp := rest0_pop g.hn
  rw [dec_at h hi.1, dec_at h hj.1]
  refine agree g.ar deep.toNat [0] order g.ho ?_ ?_ i j (rest0_in hi.1 hi.2) (rest0_in hj.1 hj.2) ?_ ?_
  · show tR (arOf n liars lies) (restN n [0]) + (if bitB liars 0 = true then 1 else 0) ≤ _
    rw [ht]; omega
  · show 3 * ((deep.toNat : Nat) : Int) ≤ popN (restN n [0])
    rw [hp]; omega
  · exact fun e => by have e : bitB liars (i : Int) = true := e; rw [hli] at e; cases e
  · exact fun e => by have e : bitB liars (j : Int) = true := e; rw [hlj] at e; cases e
theorem top_obey (h : gErr n deep liars order lies = 0) (hz : bitB liars 0 = false) (hm : popN liars.toNat = 0 ∨ 2 * (popN liars.toNat : Int) + deep < n) {i : Nat} (hi : 1 ≤ i ∧ (i : Int) < n)
    (hli : bitB liars (i : Int) = false) : (decF n deep liars order lies).getD i 0 = order := by
  have g := ge_of h
  have hd := g.hd
  have hn := g.hn
  have ht := top_t (lies := lies) g.hn g.hl
  have hp := rest0_pop g.hn
  rw [dec_at h hi.1]
  rw [if_neg (by rw [hz]; decide)] at ht
  refine valid g.ar deep.toNat [0] order g.ho ?_ ?_ i (rest0_in hi.1 hi.2) ?_
  · show ¬ bitB liars 0 = true
    rw [hz]; decide
  · show tR (arOf n liars lies) (restN n [0]) = 0 ∨ 2 * tR (arOf n liars lies) (restN n [0]) + ((deep.toNat : Nat) : Int) ≤ popN (restN n [0])
    rw [hp]
    rcases hm with hm | hm
    · left; omega
    · right; omega
  · exact fun e => by have e : bitB liars (i : Int) = true := e; rw [hli] at e; cases e
theorem top_honest (h : gErr n deep 0 order lies = 0) {i : Nat} (hi : (i : Int) < n) : (decF n deep 0 order lies).getD i 0 = order := by
  rcases Nat.eq_zero_or_pos i with rfl | h1
  · exact dec_zero h
  · refine top_obey h rfl (.inl (by decide)) ⟨h1, hi⟩ ?_
    unfold bitB; simp
end

theorem gfact_vc (k : List Dat → Prop) (hk : k [⟨.bool, true⟩]) : vcF ⟨En, [(34, cDecide)], glT, [], []⟩ [joinAll] (Tryd.f33.body.getD .skip) Tryd.f33.ntmps [(.tmp 0, .bool)] [] k := by
  rw [vcGFact]
  have e : decide ((decF 4 1 8 1 ((List.replicate 1 (0 : Int)).set 0 0)).getD (Int.toNat 2) 0 = 1) = true := by decide +kernel
  rw [e]
  exact ⟨trivial, trivial, fun _ => ⟨fun _ => ⟨fun _ => ⟨by decide, by decide +kernel, fun _ => ⟨fun _ => ⟨by decide, by decide +kernel, fun _ => ⟨by decide, by decide +kernel, hk⟩, fun h => absurd h (by decide +kernel)⟩, fun h => absurd h (by decide +kernel)⟩, fun h => absurd h (by decide +kernel)⟩, fun h => absurd h (by decide +kernel)⟩, fun h => absurd h (by decide +kernel)⟩, fun h => absurd h (by decide +kernel)⟩
theorem okGFact : PlainOk Tryd.prog glT 33 cGFact := by
  refine plain_of (CxOk.mk' En_ok rfl mixed (gl := glT) (GOk.cons okDecide Tryd.func34 (by kernel_rfl) (by kernel_rfl) GOk.nil) GoOk.nil noIt) Tryd.func33 (c := Tryd.f33.body.getD .skip) (rvs := [(.tmp 0, .bool)]) (by kernel_rfl) (by kernel_rfl) (by kernel_rfl) ?_
  intro ds k ⟨hp, hk⟩ hwf
  obtain ⟨rfl, -⟩ := dest0 hp
  exact ⟨[joinAll], gfact_vc k hk⟩

theorem agree_vc (n deep liars order : Int) (lies : List Int) (k : List Dat → Prop) (hk : k [⟨.bool, true⟩]) :
    vcF ⟨En, [(33, cGFact), (34, cDecide), (23, cManyR), (35, cBit)], glT, [], []⟩ (anAgree n deep liars order lies) (Tryd.f8.body.getD .skip) Tryd.f8.ntmps [(.tmp 10, .bool)] [⟨I, n⟩, ⟨I, deep⟩, ⟨I, liars⟩, ⟨I, order⟩, ⟨.sl I, lies⟩] k := by
  rw [vcAgree]
  simp only [and_true, true_and, Bool.not_true, Bool.not_eq_true', Bool.not_eq_false', decide_eq_true_eq, decide_eq_false_iff_not]
  refine ⟨fun h => absurd h (by decide), fun _ => ⟨fun h => ?_, fun h => ?_⟩⟩
  · have : decF n deep liars order lies = [] := by unfold decF; rw [if_neg h]
    rw [this]; exact hk
  have g := ge_of h
  have hn := g.hn
  have hd := g.hd
  have hl := dec_len h
  have h128 := lt128 hn.2 g.hl
  refine ⟨fun h1 => absurd (by rw [hl]; omega) h1, fun _ => ⟨by omega, fun _ => hk, fun h1 => ⟨inK_i64.2 (by omega), fun _ => hk, fun h2 => ⟨⟨(1, -1), ⟨h, by simp; omega, by omega, by omega, .inl ⟨rfl, fun j hj hj' => by simp at hj'; omega⟩⟩, rfl, rfl⟩, ?_⟩⟩⟩⟩
  rintro ⟨i, f⟩ hi
  obtain ⟨-, hile, hmany, hthree, hfirst⟩ := hi
  simp only at hile hfirst ⊢
  refine ⟨fun hin => ⟨fun hb => ⟨inK_i64.2 (by omega), (i + 1, f), ⟨h, by simp; omega, hmany, hthree, ?_⟩, by simp; omega, rfl, by simp⟩, fun hb => ⟨fun hf => ⟨by omega, by omega, by omega, by omega, fun hx => absurd trivial hx, fun _ => ⟨inK_i64.2 (by omega), (i + 1, _), ⟨h, by simp; omega, hmany, hthree, .inr ⟨i, hile.1, by simp, hb, ?_⟩⟩, by simp; omega, rfl, by simp⟩⟩, fun hf => ⟨by omega, by omega, fun hx => absurd ?_ hx, fun hx => ⟨inK_i64.2 (by omega), (i + 1, f), ⟨h, by simp; omega, hmany, hthree, .inr ⟨i, hile.1, by simp, hb, ?_⟩⟩, by simp; omega, rfl, by simp⟩⟩⟩⟩, fun _ => hk⟩
  · rcases hfirst with ⟨hf, hall⟩ | ⟨j, h1, h2, h3, h4⟩
    · refine .inl ⟨hf, fun j hj hj' => ?_⟩
      by_cases hji : j = i
      · rw [hji]; exact hb
      · exact hall j hj (by simp at hj'; omega)
    · exact .inr ⟨j, h1, by simp; omega, h3, h4⟩
  · rw [Int.toNat_natCast]; rfl
  · rcases hfirst with ⟨hf', -⟩ | ⟨j, h1, h2, h3, h4⟩
    · omega
    · rw [h4, Int.toNat_natCast]
      exact top_agree h hmany hthree ⟨hile.1, hin⟩ ⟨h1, by omega⟩ hb h3
  · rw [Int.toNat_natCast] at hx; exact hx.symm
theorem obey_vc (n deep liars order : Int) (lies : List Int) (k : List Dat → Prop) (hk : k [⟨.bool, true⟩]) :
    vcF ⟨En, [(33, cGFact), (34, cDecide), (23, cManyR), (35, cBit)], glT, [], []⟩ (anObey n deep liars order lies) (Tryd.f9.body.getD .skip) Tryd.f9.ntmps [(.tmp 10, .bool)] [⟨I, n⟩, ⟨I, deep⟩, ⟨I, liars⟩, ⟨I, order⟩, ⟨.sl I, lies⟩] k := by
  rw [vcObey]
  simp only [and_true, true_and, Bool.not_true, Bool.not_eq_true', Bool.not_eq_false', decide_eq_true_eq, decide_eq_false_iff_not]
  refine ⟨fun h => absurd h (by decide), fun _ => ⟨fun h => ?_, fun h => ?_⟩⟩
  · have : decF n deep liars order lies = [] := by unfold decF; rw [if_neg h]
    rw [this]; exact hk
  have g := ge_of h
  have hn := g.hn
  have hd := g.hd
  have hl := dec_len h
  have h128 := lt128 hn.2 g.hl
  have hpop : popN liars.toNat ≤ 8 := by
    have := popN_le ⟨8, by decide⟩ ⟨liars.toNat, by omega⟩ (by show liars.toNat < 2 ^ 8; omega)
    exact this
  refine ⟨fun h1 => absurd (by rw [hl]; omega) h1, fun _ => ⟨by decide, by omega, fun hx => absurd (dec_zero h) hx, fun _ => ⟨fun _ => hk, fun hz => ⟨by omega, inK_i64.2 (by omega), inK_i64.2 (by omega), fun _ => hk, fun h2 => ⟨⟨1, ⟨h, by omega, hz, by omega⟩, rfl⟩, ?_⟩⟩⟩⟩⟩
  intro i hi
  obtain ⟨-, hile, -, hmany⟩ := hi
  refine ⟨fun hin => ⟨fun hb => ⟨by omega, by omega, fun hx => absurd ?_ hx, fun _ => ⟨inK_i64.2 (by omega), i + 1, ⟨h, by omega, hz, hmany⟩, by omega, by omega⟩⟩, fun hb => ⟨inK_i64.2 (by omega), i + 1, ⟨h, by omega, hz, hmany⟩, by omega, by omega⟩⟩, fun _ => hk⟩
  rw [Int.toNat_natCast]
  exact top_obey h hz (.inr hmany) ⟨hile.1, hin⟩ hb
theorem honest_vc (n deep order : Int) (lies : List Int) (k : List Dat → Prop) (hk : k [⟨.bool, true⟩]) :
    vcF ⟨En, [(33, cGFact), (34, cDecide)], glT, [], []⟩ (anHonest n deep order lies) (Tryd.f10.body.getD .skip) Tryd.f10.ntmps [(.tmp 8, .bool)] [⟨I, n⟩, ⟨I, deep⟩, ⟨I, order⟩, ⟨.sl I, lies⟩] k := by
  rw [vcHonest]
  simp only [and_true, true_and, Bool.not_true, Bool.not_eq_true', Bool.not_eq_false', decide_eq_true_eq, decide_eq_false_iff_not]
  refine ⟨fun h => absurd h (by decide), fun _ => ⟨fun h => ?_, fun h => ?_⟩⟩
  · have : decF n deep 0 order lies = [] := by unfold decF; rw [if_neg h]
    rw [this]; exact hk
  have g := ge_of h
  have hn := g.hn
  have hl := dec_len h
  refine ⟨⟨0, ⟨h, by omega⟩, rfl⟩, fun i hi => ⟨fun hin => ⟨by omega, by omega, fun hx => absurd ?_ hx, fun _ => ⟨inK_i64.2 (by omega), i + 1, ⟨h, by omega⟩, by omega, by omega⟩⟩, fun _ => ?_⟩⟩
  · rw [Int.toNat_natCast]
    exact top_honest h (by omega)
  · rw [show (((decF n deep 0 order lies).length : Nat) : Int) = n by omega, decide_eq_true rfl]; exact hk

theorem okAgree : PlainOk Tryd.prog glT 8 cLawG := by
  refine plain_of (CxOk.mk' En_ok rfl mixed (gl := glT) (GOk.cons okGFact Tryd.func33 (by kernel_rfl) (by kernel_rfl) (GOk.cons okDecide Tryd.func34 (by kernel_rfl) (by kernel_rfl) (GOk.cons okManyR Tryd.func23 (by kernel_rfl) (by kernel_rfl) (GOk.cons okBit Tryd.func35 (by kernel_rfl) (by kernel_rfl) GOk.nil)))) GoOk.nil noIt) Tryd.func8 (c := Tryd.f8.body.getD .skip) (rvs := [(.tmp 10, .bool)]) (by kernel_rfl) (by kernel_rfl) (by kernel_rfl) ?_
  intro ds k ⟨hp, hk⟩ hwf
  obtain ⟨n, d, l, o, x, rfl, -⟩ := dest5 hp
  exact ⟨anAgree n d l o x, agree_vc n d l o x k hk⟩
theorem okObey : PlainOk Tryd.prog glT 9 cLawG := by
  refine plain_of (CxOk.mk' En_ok rfl mixed (gl := glT) (GOk.cons okGFact Tryd.func33 (by kernel_rfl) (by kernel_rfl) (GOk.cons okDecide Tryd.func34 (by kernel_rfl) (by kernel_rfl) (GOk.cons okManyR Tryd.func23 (by kernel_rfl) (by kernel_rfl) (GOk.cons okBit Tryd.func35 (by kernel_rfl) (by kernel_rfl) GOk.nil)))) GoOk.nil noIt) Tryd.func9 (c := Tryd.f9.body.getD .skip) (rvs := [(.tmp 10, .bool)]) (by kernel_rfl) (by kernel_rfl) (by kernel_rfl) ?_
  intro ds k ⟨hp, hk⟩ hwf
  obtain ⟨n, d, l, o, x, rfl, -⟩ := dest5 hp
  exact ⟨anObey n d l o x, obey_vc n d l o x k hk⟩
theorem okHonest : PlainOk Tryd.prog glT 10 cLawH := by
  refine plain_of (CxOk.mk' En_ok rfl mixed (gl := glT) (GOk.cons okGFact Tryd.func33 (by kernel_rfl) (by kernel_rfl) (GOk.cons okDecide Tryd.func34 (by kernel_rfl) (by kernel_rfl) GOk.nil)) GoOk.nil noIt) Tryd.func10 (c := Tryd.f10.body.getD .skip) (rvs := [(.tmp 8, .bool)]) (by kernel_rfl) (by kernel_rfl) (by kernel_rfl) ?_
  intro ds k ⟨hp, hk⟩ hwf
  obtain ⟨n, d, o, x, rfl, -⟩ := dest4 hp
  exact ⟨anHonest n d o x, honest_vc n d o x k hk⟩
end Go.Proofs.YtlopkkoenfngiaaDoor

/- The library's table, as the cards list it, lies in its variable. -/
namespace Go.Proofs.YtlopkkoenfngiaaDoor
open Go.Vc
def Eg : Env := { tys := [(94, .ar 64 (.int .u8))], errT := 58, eqs := [], els := [] }
theorem Eg_ok : EnvOk Tryd.prog Eg := EnvOk.of_list (by kernel_rfl) (by kernel_rfl) (by kernel_rfl)
theorem glOk {W : World} (h : laidMetH Tryd.prog Rows.quorumVotesRow.laid W) : GlOk glT W fun b => b < W.heap.size :=
  gl_of_laid Eg_ok (n := "math/bits.deBruijn64tab") (T := 94) (by kernel_rfl) h (.tail _ (.head _)) (by kernel_rfl) (by kernel_rfl) (by kernel_rfl) (by decide)
end Go.Proofs.YtlopkkoenfngiaaDoor

/- Generals: the program says what the reference says. -/
namespace Go.Proofs.YtlopkkoenfngiaaDoor
open Go.Vc
theorem gErr_in (n deep liars order : Int) (lies : List Int) : inK .i64 (gErr n deep liars order lies) := by
  unfold gErr
  refine inK_i64.2 ?_
  repeat' split
  all_goals decide
theorem want_snoc (n deep liars order : Int) (lies : List Int) (k : Nat) : wantL n deep liars order lies (k + 1) = wantL n deep liars order lies k ++ [wantF n deep liars order lies k] := by
  unfold wantL; rw [List.range_succ, List.map_append]; rfl
theorem want_len (n deep liars order : Int) (lies : List Int) (k : Nat) : (wantL n deep liars order lies k).length = k := by
  unfold wantL; simp
theorem want_at {n deep liars order : Int} {lies : List Int} {j k : Nat} (hj : j < k) : (wantL n deep liars order lies k).getD j 0 = wantF n deep liars order lies j := by
  unfold wantL
  rw [List.getD_eq_getElem?_getD, List.getElem?_map, List.getElem?_range hj]; rfl
theorem dec_want {n deep liars order : Int} {lies : List Int} (h : gErr n deep liars order lies = 0) : decF n deep liars order lies = wantL n deep liars order lies n.toNat := by
  have g := ge_of h
  refine List.ext_getElem (by rw [dec_len h, want_len]) fun j h1 h2 => ?_
  rw [← getD_at h1, ← getD_at h2]
  have hj : j < n.toNat := by rw [dec_len h] at h1; exact h1
  rw [want_at hj]
  unfold wantF
  rcases Nat.eq_zero_or_pos j with rfl | h0
  · rw [dec_zero h]; rfl
  · rw [if_neg (by omega), dec_at h h0]
    exact ask_takes g.ar _ _ _ j (fun y hy => by rw [List.mem_singleton.1 hy]; decide) (rest0_in (n := n) h0 (by omega))
theorem say_vc (n deep liars order : Int) (lies : List Int) (k : List Dat → Prop) (hk : k [⟨.bool, true⟩]) :
    vcF ⟨En, [(36, cArmy), (37, cGChk), (25, cError), (38, cTakes 3), (34, cDecide), (29, cInts)], glA, [], []⟩ (anSay n deep liars order lies) (Tryd.f11.body.getD .skip) Tryd.f11.ntmps [(.tmp 10, .bool)] [⟨I, n⟩, ⟨I, deep⟩, ⟨I, liars⟩, ⟨I, order⟩, ⟨.sl I, lies⟩] k := by
  rw [vcGSay]
  have hin := gErr_in n deep liars order lies
  simp only [and_true, true_and, eq_self, set1, List.append_eq]
  have fin : ∀ x : Nat, InSay n deep liars order lies x → (gErr n deep liars order lies = 0 → x = n.toNat) → k [⟨.bool, decF n deep liars order lies == wantL n deep liars order lies x⟩] := fun x hx he => by
    have : decF n deep liars order lies = wantL n deep liars order lies x := by
      by_cases h : gErr n deep liars order lies = 0
      · rw [he h]; exact dec_want h
      · rcases hx.ge with h' | h'
        · exact absurd h' h
        · subst h'
          unfold decF; rw [if_neg h]; rfl
    rw [this, beq_self_eq_true]; exact hk
  have done : ∀ x : Nat, InSay n deep liars order lies x → (gErr n deep liars order lies = 0 → x = n.toNat) →
      (decide True = true → inK .i64 (gErr n deep liars order lies) ∧ (decide True = true → k [⟨.bool, decF n deep liars order lies == wantL n deep liars order lies x⟩]) ∧ (decide True = false → k [⟨.bool, false⟩])) ∧ (decide True = false → k [⟨.bool, false⟩]) := fun x hx he =>
    ⟨fun _ => ⟨hin, fun _ => fin x hx he, fun h => absurd h (by decide)⟩, fun h => absurd h (by decide)⟩
  refine ⟨hin, ⟨0, ⟨by omega, .inr rfl, by omega⟩, rfl, rfl⟩, fun x hx => ⟨fun h1 => ⟨fun h2 => ⟨fun h3 => ?_, fun h3 => ?_⟩, fun h2 => ?_⟩, fun h1 => ?_⟩⟩
  · have h1 := of_decide_eq_true h1
    have h2 := of_decide_eq_true h2
    have h3 := of_decide_eq_true h3
    have g := ge_of h3
    have hn := g.hn
    have hd := g.hd
    have hle := hx.le
    have wl := want_len n deep liars order lies x
    refine ⟨fun h4 => ?_, fun h4 => ?_⟩
    · have h4 := of_decide_eq_true h4
      refine ⟨by rw [wl]; simp; omega, inK_i64.2 (by omega), x + 1, ⟨by omega, .inl h3, by omega⟩, by omega, by omega, ?_⟩
      rw [want_snoc]
      unfold wantF
      rw [if_pos h4]
    · have h4 := of_decide_eq_false h4
      refine ⟨⟨⟨g.ar, ⟨by decide, by decide, fun y hy => ?_⟩, g.ho, hd.1, by omega, ?_⟩, ⟨by omega, h1⟩⟩, by rw [wl]; simp; omega, inK_i64.2 (by omega), x + 1, ⟨by omega, .inl h3, by omega⟩, by omega, by omega, ?_⟩
      · rw [List.mem_singleton.1 hy]
        show (0 : Int) ≤ 0 ∧ 0 < n
        omega
      · show (1 : Int) + deep ≤ 3
        omega
      · rw [want_snoc]
        unfold wantF
        rw [if_neg h4]
  · exact done x hx fun h => absurd h (of_decide_eq_false h3)
  · exact done x hx fun h => by
      have := (ge_of h).hn
      have := of_decide_eq_false h2
      have := hx.le
      omega
  · exact done x hx fun h => by
      have := of_decide_eq_false h1
      have := hx.le
      omega
theorem okGSay : PlainOk Tryd.prog glA 11 cLawG := by
  refine plain_of (CxOk.mk' En_ok rfl mixed (gl := glA) (GOk.cons (liftT okArmy) Tryd.func36 (by kernel_rfl) (by kernel_rfl) (GOk.cons (liftT okGChk) Tryd.func37 (by kernel_rfl) (by kernel_rfl) (GOk.cons (liftE okError) Tryd.func25 (by kernel_rfl) (by kernel_rfl) (GOk.cons (liftT (okTakes 3)) Tryd.func38 (by kernel_rfl) (by kernel_rfl) (GOk.cons (liftT okDecide) Tryd.func34 (by kernel_rfl) (by kernel_rfl) (GOk.cons (liftT okInts) Tryd.func29 (by kernel_rfl) (by kernel_rfl) GOk.nil)))))) GoOk.nil noIt) Tryd.func11 (c := Tryd.f11.body.getD .skip) (rvs := [(.tmp 10, .bool)]) (by kernel_rfl) (by kernel_rfl) (by kernel_rfl) ?_
  intro ds k ⟨hp, hk⟩ hwf
  obtain ⟨n, d, l, o, x, rfl, -⟩ := dest5 hp
  exact ⟨anSay n d l o x, say_vc n d l o x k hk⟩
/-- the tables and the handle, as the card lists them -/
theorem glOkA {W : World} (h : laidMetH Tryd.prog Rows.generalSaysRow.laid W) : GlOk glA W fun b => b < W.heap.size :=
  GlOk.append (gl_of_laidM Eg_ok (n := "math/bits.deBruijn64tab") (T := 94) h (.tail _ (.head _)) (by kernel_rfl) (by kernel_rfl) (by kernel_rfl) (by kernel_rfl) (by decide)) (glE_of (.tail _ (.tail _ (.head _))) h)
end Go.Proofs.YtlopkkoenfngiaaDoor

/- Quorums: the law that says what is answered. -/
namespace Go.Proofs.YtlopkkoenfngiaaDoor
open Go.Vc
def cLawQ : Ctr := cdet [I, .sl I, I, .sl I, I] (fun _ _ _ _ _ => True) (fun _ _ _ _ _ => [⟨.bool, true⟩])
structure InQ (n : Int) (l : List Int) (x : Int × Int × Int) : Prop where
  good : chkS n l = 0 → x.1 = fullR n l ∧ (∃ m : Int, MR n l l.length 0 m ∧ x.2.1 = (m - 1).tdiv 2) ∧ FP n l (2 ^ n.toNat) x.2.2
  bad : chkS n l ≠ 0 → x = (-1, 0, 0)
def anQSay (n : Int) (l : List Int) (v : Int) : Ann :=
  [joinAll,
   meetAt 13 (Int × Int × Int) [] (fun st x => St.at (St.only st [0, 1, 2, 3, 4]) [(11, .d I (chkS n l)), (12, .d .bool true), (14, .d I x.1), (15, .d I x.2.1), (16, .d I x.2.2), (19, .d .bool true)]) (fun _ x => InQ n l x),
   meetAt 15 (Int × Int × Int) [] (fun st x => St.at (St.only st [0, 1, 2, 3, 4]) [(11, .d I (chkS n l)), (12, .d .bool true), (15, .d I x.2.1), (16, .d I x.2.2), (19, .d .bool true), (22, .d .bool true)]) (fun _ x => InQ n l x),
   meetAt 17 Nat [] (fun st _ => St.at (St.only st [0, 1, 2, 3, 4]) [(11, .d I (chkS n l)), (12, .d .bool true), (19, .d .bool true), (22, .d .bool true), (25, .d .bool true)]) (fun _ _ => True),
   meetAt 19 Nat [] (fun st _ => St.at (St.only st [0, 1, 2, 3, 4]) [(11, .d I (hasE n l v)), (12, .d .bool true), (19, .d .bool true), (22, .d .bool true), (25, .d .bool true)]) (fun _ _ => True),
   meetAt 20 Nat [] (fun st _ => St.at (St.only st [0, 1, 2, 3, 4]) [(11, .d I (hasE n l v)), (12, .d .bool true), (19, .d .bool true), (22, .d .bool true), (25, .d .bool true), (26, .d .bool (if hasE n l v = 0 then hasB l v else false))]) (fun _ _ => True),
   meetAt 22 Nat [] (fun st _ => St.at (St.only st [0, 1, 2, 3, 4]) [(12, .d .bool true), (19, .d .bool true), (22, .d .bool true), (25, .d .bool true), (27, .d .bool true)]) (fun _ _ => True)]
end Go.Proofs.YtlopkkoenfngiaaDoor

/- What the functions of this seat have to satisfy, by program: each verification condition in plain words. -/
namespace Go.Proofs.YtlopkkoenfngiaaDoor
open Go.Vc
set_option linter.unusedVariables false
theorem vcQSay (n : Int) (l : List Int) (some : Int) (w : List Int) (need : Int) (k : List Dat → Prop) : vcF ⟨En, [(24, cSetsR), (20, cCheck), (25, cError), (26, cLeastR), (27, cFullR), (28, cMasksR), (21, cLeast), (29, cInts), (18, cFull), (22, cMasks), (30, cMaskR), (31, cHasR), (19, cHas), (32, cVotesR), (13, cVotes)], glA, [], []⟩ (anQSay n l some) (Tryd.f7.body.getD .skip) Tryd.f7.ntmps [(.tmp 10, .bool)] [⟨I, n⟩, ⟨.sl I, l⟩, ⟨I, some⟩, ⟨.sl I, w⟩, ⟨I, need⟩] k = (
  True ∧ True ∧ (inK IntKind.i64 (chkS n l) ∧ True) ∧ (decide (chkS n l = (0 : Int)) = true → chkS n l = (0 : Int) ∧ chkS n l = (0 : Int) ∧ chkS n l = (0 : Int) ∧ ∀ (a f : Int), (∃ (m : Int), MR n l l.length (0 : Nat) m ∧ a = (m - (1 : Int)).tdiv (2 : Int)) ∧ FP n l ((2 : Nat) ^ n.toNat) f → True ∧ ((inK IntKind.i64 (chkS n l) ∧ True) ∧ (decide (chkS n l = chkS n l) = true → True ∧ ∃ (x : Int × Int × Int), InQ n l x ∧ (n = n ∧ l = l ∧ some = some ∧ w = w ∧ need = need ∧ chkS n l = chkS n l ∧ decide (chkS n l = chkS n l) = true ∧ fullR n l = x.fst ∧ a = x.snd.fst ∧ f = x.snd.snd ∧ ((if chkS n l = (0 : Int) then leastU l ((2 : Nat) ^ n.toNat) else []) == leastU l ((2 : Nat) ^ n.toNat)) = true ∧ True) ∧ True ∧ tabD = tabD ∧ hdE = hdE ∧ True) ∧ (decide (chkS n l = chkS n l) = false → ∃ (x : Int × Int × Int), InQ n l x ∧ (n = n ∧ l = l ∧ some = some ∧ w = w ∧ need = need ∧ chkS n l = chkS n l ∧ decide (chkS n l = chkS n l) = true ∧ fullR n l = x.fst ∧ a = x.snd.fst ∧ f = x.snd.snd ∧ false = true ∧ True) ∧ True ∧ tabD = tabD ∧ hdE = hdE ∧ True)) ∧ ∀ (x : Int × Int × Int), InQ n l x → True ∧ ((inK IntKind.i64 (chkS n l) ∧ True) ∧ (decide (chkS n l = chkS n l) = true → (decide (chkS n l = (0 : Int)) = true → ((isF n l == decide (x.fst < (0 : Int))) = true → (decide (x.fst < (0 : Int)) = true → (decide (someN n l = (0 : Int)) = true → ∃ (x_1 : Int × Int × Int), InQ n l x_1 ∧ (n = n ∧ l = l ∧ some = some ∧ w = w ∧ need = need ∧ chkS n l = chkS n l ∧ true = true ∧ x.snd.fst = x_1.snd.fst ∧ x.snd.snd = x_1.snd.snd ∧ true = true ∧ true = true ∧ True) ∧ True ∧ tabD = tabD ∧ hdE = hdE ∧ True) ∧ (decide (someN n l = (0 : Int)) = false → ∃ (x_1 : Int × Int × Int), InQ n l x_1 ∧ (n = n ∧ l = l ∧ some = some ∧ w = w ∧ need = need ∧ chkS n l = chkS n l ∧ true = true ∧ x.snd.fst = x_1.snd.fst ∧ x.snd.snd = x_1.snd.snd ∧ true = true ∧ decide (someN n l = x.fst) = true ∧ True) ∧ True ∧ tabD = tabD ∧ hdE = hdE ∧ True)) ∧ (decide (x.fst < (0 : Int)) = false → ∃ (x_1 : Int × Int × Int), InQ n l x_1 ∧ (n = n ∧ l = l ∧ some = some ∧ w = w ∧ need = need ∧ chkS n l = chkS n l ∧ true = true ∧ x.snd.fst = x_1.snd.fst ∧ x.snd.snd = x_1.snd.snd ∧ true = true ∧ decide (someN n l = x.fst) = true ∧ True) ∧ True ∧ tabD = tabD ∧ hdE = hdE ∧ True)) ∧ ((isF n l == decide (x.fst < (0 : Int))) = false → ∃ (x_1 : Int × Int × Int), InQ n l x_1 ∧ (n = n ∧ l = l ∧ some = some ∧ w = w ∧ need = need ∧ chkS n l = chkS n l ∧ true = true ∧ x.snd.fst = x_1.snd.fst ∧ x.snd.snd = x_1.snd.snd ∧ true = true ∧ false = true ∧ True) ∧ True ∧ tabD = tabD ∧ hdE = hdE ∧ True)) ∧ (decide (chkS n l = (0 : Int)) = false → ((isF n l == false) = true → (decide (x.fst < (0 : Int)) = true → (decide (someN n l = (0 : Int)) = true → ∃ (x_1 : Int × Int × Int), InQ n l x_1 ∧ (n = n ∧ l = l ∧ some = some ∧ w = w ∧ need = need ∧ chkS n l = chkS n l ∧ true = true ∧ x.snd.fst = x_1.snd.fst ∧ x.snd.snd = x_1.snd.snd ∧ true = true ∧ true = true ∧ True) ∧ True ∧ tabD = tabD ∧ hdE = hdE ∧ True) ∧ (decide (someN n l = (0 : Int)) = false → ∃ (x_1 : Int × Int × Int), InQ n l x_1 ∧ (n = n ∧ l = l ∧ some = some ∧ w = w ∧ need = need ∧ chkS n l = chkS n l ∧ true = true ∧ x.snd.fst = x_1.snd.fst ∧ x.snd.snd = x_1.snd.snd ∧ true = true ∧ decide (someN n l = x.fst) = true ∧ True) ∧ True ∧ tabD = tabD ∧ hdE = hdE ∧ True)) ∧ (decide (x.fst < (0 : Int)) = false → ∃ (x_1 : Int × Int × Int), InQ n l x_1 ∧ (n = n ∧ l = l ∧ some = some ∧ w = w ∧ need = need ∧ chkS n l = chkS n l ∧ true = true ∧ x.snd.fst = x_1.snd.fst ∧ x.snd.snd = x_1.snd.snd ∧ true = true ∧ decide (someN n l = x.fst) = true ∧ True) ∧ True ∧ tabD = tabD ∧ hdE = hdE ∧ True)) ∧ ((isF n l == false) = false → ∃ (x_1 : Int × Int × Int), InQ n l x_1 ∧ (n = n ∧ l = l ∧ some = some ∧ w = w ∧ need = need ∧ chkS n l = chkS n l ∧ true = true ∧ x.snd.fst = x_1.snd.fst ∧ x.snd.snd = x_1.snd.snd ∧ true = true ∧ false = true ∧ True) ∧ True ∧ tabD = tabD ∧ hdE = hdE ∧ True))) ∧ (decide (chkS n l = chkS n l) = false → ∃ (x_1 : Int × Int × Int), InQ n l x_1 ∧ (n = n ∧ l = l ∧ some = some ∧ w = w ∧ need = need ∧ chkS n l = chkS n l ∧ true = true ∧ x.snd.fst = x_1.snd.fst ∧ x.snd.snd = x_1.snd.snd ∧ true = true ∧ false = true ∧ True) ∧ True ∧ tabD = tabD ∧ hdE = hdE ∧ True)) ∧ ∀ (x : Int × Int × Int), InQ n l x → ∀ (a f : Int), (chkS n l = (0 : Int) → (∃ (m : Int), MP n l l.length (0 : Nat) m ∧ a = (m - (1 : Int)).tdiv (2 : Int)) ∧ FP n l ((2 : Nat) ^ n.toNat) f) → (chkS n l ≠ (0 : Int) → a = (0 : Int) ∧ f = (0 : Int)) → ((inK IntKind.i64 (chkS n l) ∧ True) ∧ (decide (chkS n l = chkS n l) = true → (decide (a = x.snd.fst) = true → ∃ (x_1 : Nat), True ∧ (n = n ∧ l = l ∧ some = some ∧ w = w ∧ need = need ∧ chkS n l = chkS n l ∧ true = true ∧ true = true ∧ true = true ∧ decide (f = x.snd.snd) = true ∧ True) ∧ True ∧ tabD = tabD ∧ hdE = hdE ∧ True) ∧ (decide (a = x.snd.fst) = false → ∃ (x : Nat), True ∧ (n = n ∧ l = l ∧ some = some ∧ w = w ∧ need = need ∧ chkS n l = chkS n l ∧ true = true ∧ true = true ∧ true = true ∧ false = true ∧ True) ∧ True ∧ tabD = tabD ∧ hdE = hdE ∧ True)) ∧ (decide (chkS n l = chkS n l) = false → ∃ (x : Nat), True ∧ (n = n ∧ l = l ∧ some = some ∧ w = w ∧ need = need ∧ chkS n l = chkS n l ∧ true = true ∧ true = true ∧ true = true ∧ false = true ∧ True) ∧ True ∧ tabD = tabD ∧ hdE = hdE ∧ True)) ∧ ∀ (x : Nat), True → ((decide (chkS n l = (0 : Int)) = true → (n ≤ (61 : Int) ∧ (0 : Int) ≤ n) ∧ ((!maskB some n) = true → ∃ (x : Nat), True ∧ (n = n ∧ l = l ∧ some = some ∧ w = w ∧ need = need ∧ (1 : Int) = hasE n l some ∧ true = true ∧ true = true ∧ true = true ∧ true = true ∧ True) ∧ True ∧ tabD = tabD ∧ hdE = hdE ∧ True) ∧ ((!maskB some n) = false → ∃ (x : Nat), True ∧ (n = n ∧ l = l ∧ some = some ∧ w = w ∧ need = need ∧ chkS n l = hasE n l some ∧ true = true ∧ true = true ∧ true = true ∧ true = true ∧ True) ∧ True ∧ tabD = tabD ∧ hdE = hdE ∧ True)) ∧ (decide (chkS n l = (0 : Int)) = false → ∃ (x : Nat), True ∧ (n = n ∧ l = l ∧ some = some ∧ w = w ∧ need = need ∧ chkS n l = hasE n l some ∧ true = true ∧ true = true ∧ true = true ∧ true = true ∧ True) ∧ True ∧ tabD = tabD ∧ hdE = hdE ∧ True)) ∧ ∀ (x : Nat), True → ((decide (hasE n l some = (0 : Int)) = true → True ∧ ∃ (x : Nat), True ∧ (n = n ∧ l = l ∧ some = some ∧ w = w ∧ need = need ∧ hasE n l some = hasE n l some ∧ true = true ∧ true = true ∧ true = true ∧ true = true ∧ (hasR l some = if hasE n l some = (0 : Int) then hasB l some else false) ∧ True) ∧ True ∧ tabD = tabD ∧ hdE = hdE ∧ True) ∧ (decide (hasE n l some = (0 : Int)) = false → ∃ (x : Nat), True ∧ (n = n ∧ l = l ∧ some = some ∧ w = w ∧ need = need ∧ hasE n l some = hasE n l some ∧ true = true ∧ true = true ∧ true = true ∧ true = true ∧ (false = if hasE n l some = (0 : Int) then hasB l some else false) ∧ True) ∧ True ∧ tabD = tabD ∧ hdE = hdE ∧ True)) ∧ ∀ (x : Nat), True → True ∧ ((inK IntKind.i64 (hasE n l some) ∧ True) ∧ (decide (hasE n l some = hasE n l some) = true → ∃ (x : Nat), True ∧ (n = n ∧ l = l ∧ some = some ∧ w = w ∧ need = need ∧ true = true ∧ true = true ∧ true = true ∧ true = true ∧ ((if hasE n l some = (0 : Int) then hasB l some else false) == if hasE n l some = (0 : Int) then hasB l some else false) = true ∧ True) ∧ True ∧ tabD = tabD ∧ hdE = hdE ∧ True) ∧ (decide (hasE n l some = hasE n l some) = false → ∃ (x : Nat), True ∧ (n = n ∧ l = l ∧ some = some ∧ w = w ∧ need = need ∧ true = true ∧ true = true ∧ true = true ∧ true = true ∧ false = true ∧ True) ∧ True ∧ tabD = tabD ∧ hdE = hdE ∧ True)) ∧ ∀ (x : Nat), True → True ∧ True ∧ (true = true → (true = true → (true = true → (true = true → (true = true → (inK IntKind.i64 (votesE w need) ∧ True) ∧ (decide (votesE w need = votesE w need) = true → True ∧ k [Dat.mk Ty.bool (votesL w need == votesL w need)]) ∧ (decide (votesE w need = votesE w need) = false → k [Dat.mk Ty.bool false])) ∧ (true = false → k [Dat.mk Ty.bool false])) ∧ (true = false → k [Dat.mk Ty.bool false])) ∧ (true = false → k [Dat.mk Ty.bool false])) ∧ (true = false → k [Dat.mk Ty.bool false])) ∧ (true = false → k [Dat.mk Ty.bool false])) ∧ (decide (chkS n l = (0 : Int)) = false → True ∧ ((inK IntKind.i64 (chkS n l) ∧ True) ∧ (decide (chkS n l = chkS n l) = true → True ∧ ∃ (x : Int × Int × Int), InQ n l x ∧ (n = n ∧ l = l ∧ some = some ∧ w = w ∧ need = need ∧ chkS n l = chkS n l ∧ decide (chkS n l = chkS n l) = true ∧ (-1 : Int) = x.fst ∧ (0 : Int) = x.snd.fst ∧ (0 : Int) = x.snd.snd ∧ ((if chkS n l = (0 : Int) then leastU l ((2 : Nat) ^ n.toNat) else []) == []) = true ∧ True) ∧ True ∧ tabD = tabD ∧ hdE = hdE ∧ True) ∧ (decide (chkS n l = chkS n l) = false → ∃ (x : Int × Int × Int), InQ n l x ∧ (n = n ∧ l = l ∧ some = some ∧ w = w ∧ need = need ∧ chkS n l = chkS n l ∧ decide (chkS n l = chkS n l) = true ∧ (-1 : Int) = x.fst ∧ (0 : Int) = x.snd.fst ∧ (0 : Int) = x.snd.snd ∧ false = true ∧ True) ∧ True ∧ tabD = tabD ∧ hdE = hdE ∧ True)) ∧ ∀ (x : Int × Int × Int), InQ n l x → True ∧ ((inK IntKind.i64 (chkS n l) ∧ True) ∧ (decide (chkS n l = chkS n l) = true → (decide (chkS n l = (0 : Int)) = true → ((isF n l == decide (x.fst < (0 : Int))) = true → (decide (x.fst < (0 : Int)) = true → (decide (someN n l = (0 : Int)) = true → ∃ (x_1 : Int × Int × Int), InQ n l x_1 ∧ (n = n ∧ l = l ∧ some = some ∧ w = w ∧ need = need ∧ chkS n l = chkS n l ∧ true = true ∧ x.snd.fst = x_1.snd.fst ∧ x.snd.snd = x_1.snd.snd ∧ true = true ∧ true = true ∧ True) ∧ True ∧ tabD = tabD ∧ hdE = hdE ∧ True) ∧ (decide (someN n l = (0 : Int)) = false → ∃ (x_1 : Int × Int × Int), InQ n l x_1 ∧ (n = n ∧ l = l ∧ some = some ∧ w = w ∧ need = need ∧ chkS n l = chkS n l ∧ true = true ∧ x.snd.fst = x_1.snd.fst ∧ x.snd.snd = x_1.snd.snd ∧ true = true ∧ decide (someN n l = x.fst) = true ∧ True) ∧ True ∧ tabD = tabD ∧ hdE = hdE ∧ True)) ∧ (decide (x.fst < (0 : Int)) = false → ∃ (x_1 : Int × Int × Int), InQ n l x_1 ∧ (n = n ∧ l = l ∧ some = some ∧ w = w ∧ need = need ∧ chkS n l = chkS n l ∧ true = true ∧ x.snd.fst = x_1.snd.fst ∧ x.snd.snd = x_1.snd.snd ∧ true = true ∧ decide (someN n l = x.fst) = true ∧ True) ∧ True ∧ tabD = tabD ∧ hdE = hdE ∧ True)) ∧ ((isF n l == decide (x.fst < (0 : Int))) = false → ∃ (x_1 : Int × Int × Int), InQ n l x_1 ∧ (n = n ∧ l = l ∧ some = some ∧ w = w ∧ need = need ∧ chkS n l = chkS n l ∧ true = true ∧ x.snd.fst = x_1.snd.fst ∧ x.snd.snd = x_1.snd.snd ∧ true = true ∧ false = true ∧ True) ∧ True ∧ tabD = tabD ∧ hdE = hdE ∧ True)) ∧ (decide (chkS n l = (0 : Int)) = false → ((isF n l == false) = true → (decide (x.fst < (0 : Int)) = true → (decide (someN n l = (0 : Int)) = true → ∃ (x_1 : Int × Int × Int), InQ n l x_1 ∧ (n = n ∧ l = l ∧ some = some ∧ w = w ∧ need = need ∧ chkS n l = chkS n l ∧ true = true ∧ x.snd.fst = x_1.snd.fst ∧ x.snd.snd = x_1.snd.snd ∧ true = true ∧ true = true ∧ True) ∧ True ∧ tabD = tabD ∧ hdE = hdE ∧ True) ∧ (decide (someN n l = (0 : Int)) = false → ∃ (x_1 : Int × Int × Int), InQ n l x_1 ∧ (n = n ∧ l = l ∧ some = some ∧ w = w ∧ need = need ∧ chkS n l = chkS n l ∧ true = true ∧ x.snd.fst = x_1.snd.fst ∧ x.snd.snd = x_1.snd.snd ∧ true = true ∧ decide (someN n l = x.fst) = true ∧ True) ∧ True ∧ tabD = tabD ∧ hdE = hdE ∧ True)) ∧ (decide (x.fst < (0 : Int)) = false → ∃ (x_1 : Int × Int × Int), InQ n l x_1 ∧ (n = n ∧ l = l ∧ some = some ∧ w = w ∧ need = need ∧ chkS n l = chkS n l ∧ true = true ∧ x.snd.fst = x_1.snd.fst ∧ x.snd.snd = x_1.snd.snd ∧ true = true ∧ decide (someN n l = x.fst) = true ∧ True) ∧ True ∧ tabD = tabD ∧ hdE = hdE ∧ True)) ∧ ((isF n l == false) = false → ∃ (x_1 : Int × Int × Int), InQ n l x_1 ∧ (n = n ∧ l = l ∧ some = some ∧ w = w ∧ need = need ∧ chkS n l = chkS n l ∧ true = true ∧ x.snd.fst = x_1.snd.fst ∧ x.snd.snd = x_1.snd.snd ∧ true = true ∧ false = true ∧ True) ∧ True ∧ tabD = tabD ∧ hdE = hdE ∧ True))) ∧ (decide (chkS n l = chkS n l) = false → ∃ (x_1 : Int × Int × Int), InQ n l x_1 ∧ (n = n ∧ l = l ∧ some = some ∧ w = w ∧ need = need ∧ chkS n l = chkS n l ∧ true = true ∧ x.snd.fst = x_1.snd.fst ∧ x.snd.snd = x_1.snd.snd ∧ true = true ∧ false = true ∧ True) ∧ True ∧ tabD = tabD ∧ hdE = hdE ∧ True)) ∧ ∀ (x : Int × Int × Int), InQ n l x → ∀ (a f : Int), (chkS n l = (0 : Int) → (∃ (m : Int), MP n l l.length (0 : Nat) m ∧ a = (m - (1 : Int)).tdiv (2 : Int)) ∧ FP n l ((2 : Nat) ^ n.toNat) f) → (chkS n l ≠ (0 : Int) → a = (0 : Int) ∧ f = (0 : Int)) → ((inK IntKind.i64 (chkS n l) ∧ True) ∧ (decide (chkS n l = chkS n l) = true → (decide (a = x.snd.fst) = true → ∃ (x_1 : Nat), True ∧ (n = n ∧ l = l ∧ some = some ∧ w = w ∧ need = need ∧ chkS n l = chkS n l ∧ true = true ∧ true = true ∧ true = true ∧ decide (f = x.snd.snd) = true ∧ True) ∧ True ∧ tabD = tabD ∧ hdE = hdE ∧ True) ∧ (decide (a = x.snd.fst) = false → ∃ (x : Nat), True ∧ (n = n ∧ l = l ∧ some = some ∧ w = w ∧ need = need ∧ chkS n l = chkS n l ∧ true = true ∧ true = true ∧ true = true ∧ false = true ∧ True) ∧ True ∧ tabD = tabD ∧ hdE = hdE ∧ True)) ∧ (decide (chkS n l = chkS n l) = false → ∃ (x : Nat), True ∧ (n = n ∧ l = l ∧ some = some ∧ w = w ∧ need = need ∧ chkS n l = chkS n l ∧ true = true ∧ true = true ∧ true = true ∧ false = true ∧ True) ∧ True ∧ tabD = tabD ∧ hdE = hdE ∧ True)) ∧ ∀ (x : Nat), True → ((decide (chkS n l = (0 : Int)) = true → (n ≤ (61 : Int) ∧ (0 : Int) ≤ n) ∧ ((!maskB some n) = true → ∃ (x : Nat), True ∧ (n = n ∧ l = l ∧ some = some ∧ w = w ∧ need = need ∧ (1 : Int) = hasE n l some ∧ true = true ∧ true = true ∧ true = true ∧ true = true ∧ True) ∧ True ∧ tabD = tabD ∧ hdE = hdE ∧ True) ∧ ((!maskB some n) = false → ∃ (x : Nat), True ∧ (n = n ∧ l = l ∧ some = some ∧ w = w ∧ need = need ∧ chkS n l = hasE n l some ∧ true = true ∧ true = true ∧ true = true ∧ true = true ∧ True) ∧ True ∧ tabD = tabD ∧ hdE = hdE ∧ True)) ∧ (decide (chkS n l = (0 : Int)) = false → ∃ (x : Nat), True ∧ (n = n ∧ l = l ∧ some = some ∧ w = w ∧ need = need ∧ chkS n l = hasE n l some ∧ true = true ∧ true = true ∧ true = true ∧ true = true ∧ True) ∧ True ∧ tabD = tabD ∧ hdE = hdE ∧ True)) ∧ ∀ (x : Nat), True → ((decide (hasE n l some = (0 : Int)) = true → True ∧ ∃ (x : Nat), True ∧ (n = n ∧ l = l ∧ some = some ∧ w = w ∧ need = need ∧ hasE n l some = hasE n l some ∧ true = true ∧ true = true ∧ true = true ∧ true = true ∧ (hasR l some = if hasE n l some = (0 : Int) then hasB l some else false) ∧ True) ∧ True ∧ tabD = tabD ∧ hdE = hdE ∧ True) ∧ (decide (hasE n l some = (0 : Int)) = false → ∃ (x : Nat), True ∧ (n = n ∧ l = l ∧ some = some ∧ w = w ∧ need = need ∧ hasE n l some = hasE n l some ∧ true = true ∧ true = true ∧ true = true ∧ true = true ∧ (false = if hasE n l some = (0 : Int) then hasB l some else false) ∧ True) ∧ True ∧ tabD = tabD ∧ hdE = hdE ∧ True)) ∧ ∀ (x : Nat), True → True ∧ ((inK IntKind.i64 (hasE n l some) ∧ True) ∧ (decide (hasE n l some = hasE n l some) = true → ∃ (x : Nat), True ∧ (n = n ∧ l = l ∧ some = some ∧ w = w ∧ need = need ∧ true = true ∧ true = true ∧ true = true ∧ true = true ∧ ((if hasE n l some = (0 : Int) then hasB l some else false) == if hasE n l some = (0 : Int) then hasB l some else false) = true ∧ True) ∧ True ∧ tabD = tabD ∧ hdE = hdE ∧ True) ∧ (decide (hasE n l some = hasE n l some) = false → ∃ (x : Nat), True ∧ (n = n ∧ l = l ∧ some = some ∧ w = w ∧ need = need ∧ true = true ∧ true = true ∧ true = true ∧ true = true ∧ false = true ∧ True) ∧ True ∧ tabD = tabD ∧ hdE = hdE ∧ True)) ∧ ∀ (x : Nat), True → True ∧ True ∧ (true = true → (true = true → (true = true → (true = true → (true = true → (inK IntKind.i64 (votesE w need) ∧ True) ∧ (decide (votesE w need = votesE w need) = true → True ∧ k [Dat.mk Ty.bool (votesL w need == votesL w need)]) ∧ (decide (votesE w need = votesE w need) = false → k [Dat.mk Ty.bool false])) ∧ (true = false → k [Dat.mk Ty.bool false])) ∧ (true = false → k [Dat.mk Ty.bool false])) ∧ (true = false → k [Dat.mk Ty.bool false])) ∧ (true = false → k [Dat.mk Ty.bool false])) ∧ (true = false → k [Dat.mk Ty.bool false]))) := by kernel_rfl
end Go.Proofs.YtlopkkoenfngiaaDoor

/- Quorums: the program says what the reference says. -/
namespace Go.Proofs.YtlopkkoenfngiaaDoor
open Go.Vc
theorem setE_in (n : Int) (l : List Int) (i : Nat) : 0 ≤ setE n l i ∧ setE n l i ≤ 6 := by
  unfold setE
  repeat' split
  all_goals decide
theorem setsE_in (n : Int) (l : List Int) : ∀ f i, 0 ≤ setsE n l f i ∧ setsE n l f i ≤ 6 := by
  intro f
  induction f with
  | zero => intro i; unfold setsE; decide
  | succ f ih =>
    intro i
    unfold setsE
    split
    · exact ih _
    · exact setE_in n l i
theorem chkS_in (n : Int) (l : List Int) : 0 ≤ chkS n l ∧ chkS n l ≤ 6 := by
  unfold chkS
  split
  · decide
  split
  · decide
  split
  · decide
  · exact setsE_in ..
theorem votesE_in (w : List Int) (need : Int) : 0 ≤ votesE w need ∧ votesE w need ≤ 6 := by
  unfold votesE
  repeat' split
  all_goals decide
theorem hasE_in (n : Int) (l : List Int) (v : Int) : 0 ≤ hasE n l v ∧ hasE n l v ≤ 6 := by
  unfold hasE
  split
  · split <;> decide
  · exact chkS_in n l
theorem masks_one {n : Int} {l : List Int} (g : Sets n l) {m m' : Int} (h : MP n l l.length 0 m) (h' : MR n l l.length 0 m') : m = m' := by
  obtain ⟨a1, -, x, y, hx, hy, e⟩ := mp_end g h
  obtain ⟨-, -, b1, x', y', hx', hy', e'⟩ := mr_end g h'
  have := a1 x' y' hx' hy'
  have := b1 x y hx hy
  omega
theorem fails_one {n : Int} {l : List Int} {f f' : Int} (h : FP n l (2 ^ n.toNat) f) (h' : FP n l (2 ^ n.toNat) f') : f = f' := by
  obtain ⟨a1, a2, a3⟩ := h
  obtain ⟨b1, b2, b3⟩ := h'
  have l1 : f' ≤ f := by
    rcases a3 with a3 | ⟨x, hx, hb, e⟩
    · omega
    · have := b2 x hx hb; omega
  have l2 : f ≤ f' := by
    rcases b3 with b3 | ⟨x, hx, hb, e⟩
    · omega
    · have := a2 x hx hb; omega
  omega
theorem full_good {n : Int} {l : List Int} (h : chkS n l = 0) : isF n l = decide (fullR n l < 0) ∧ (fullR n l < 0 → someN n l = 0) ∧ (¬ fullR n l < 0 → someN n l = fullR n l) := by
  unfold isF someN fullO fullR
  rw [if_pos h]
  cases firstP (neither n l) (2 ^ n.toNat) 0 with
  | none => exact ⟨rfl, fun _ => rfl, fun h => absurd (by decide) h⟩
  | some x =>
    have hx : ¬ (x : Int) < 0 := by omega
    exact ⟨(decide_eq_false hx).symm, fun h => absurd h hx, fun _ => rfl⟩
theorem full_bad {n : Int} {l : List Int} (h : chkS n l ≠ 0) : isF n l = false ∧ someN n l = 0 := by
  unfold isF someN fullO
  rw [if_neg h]
  exact ⟨rfl, rfl⟩
theorem qsay_vc (n : Int) (l : List Int) (v : Int) (w : List Int) (need : Int) (k : List Dat → Prop) (hk : k [⟨.bool, true⟩]) :
    vcF ⟨En, [(24, cSetsR), (20, cCheck), (25, cError), (26, cLeastR), (27, cFullR), (28, cMasksR), (21, cLeast), (29, cInts), (18, cFull), (22, cMasks), (30, cMaskR), (31, cHasR), (19, cHas), (32, cVotesR), (13, cVotes)], glA, [], []⟩ (anQSay n l v) (Tryd.f7.body.getD .skip) Tryd.f7.ntmps [(.tmp 10, .bool)] [⟨I, n⟩, ⟨.sl I, l⟩, ⟨I, v⟩, ⟨.sl I, w⟩, ⟨I, need⟩] k := by
  rw [vcQSay]
  have c1 := chkS_in n l
  have c2 := votesE_in w need
  have c3 := hasE_in n l v
  have i1 : inK .i64 (chkS n l) := inK_i64.2 (by omega)
  have i2 : inK .i64 (votesE w need) := inK_i64.2 (by omega)
  have i3 : inK .i64 (hasE n l v) := inK_i64.2 (by omega)
  have fullX : ∀ x, InQ n l x → isF n l = (decide (chkS n l = 0) && decide (x.1 < 0)) ∧ (x.1 < 0 → someN n l = 0) ∧ (¬ x.1 < 0 → someN n l = x.1) := fun x hx => by
    by_cases h : chkS n l = 0
    · have := full_good h
      rw [(hx.good h).1, decide_eq_true h, Bool.true_and]; exact this
    · have := full_bad h
      rw [hx.bad h, decide_eq_false h]
      exact ⟨this.1, fun _ => this.2, fun h => absurd (by decide) h⟩
  have masksX : ∀ x, InQ n l x → ∀ a f : Int, (chkS n l = 0 → (∃ m : Int, MP n l l.length 0 m ∧ a = (m - 1).tdiv 2) ∧ FP n l (2 ^ n.toNat) f) → (chkS n l ≠ 0 → a = 0 ∧ f = 0) → a = x.2.1 ∧ f = x.2.2 := fun x hx a f h1 h2 => by
    by_cases h : chkS n l = 0
    · obtain ⟨-, ⟨m, hm, e⟩, hf⟩ := hx.good h
      obtain ⟨⟨m', hm', e'⟩, hf'⟩ := h1 h
      have := masks_one (sets_of h) hm' hm
      exact ⟨by rw [e, e', this], fails_one hf' hf⟩
    · have := h2 h
      rw [hx.bad h]; exact this
  have hasX : hasE n l v = 0 → hasR l v = hasB l v := fun h => by
    unfold hasE at h
    split at h
    · rename_i hc
      split at h
      · rename_i hm
        exact hasR_eq (sets_of hc) (mask_of hm).1
      · cases h
    · rename_i hc; exact absurd h hc
  simp only [and_true, true_and, eq_self, decide_true, true_implies, reduceCtorEq, false_implies, beq_self_eq_true, exists_const, i1, i2, i3, forall_const, Bool.not_eq_true', Bool.not_eq_false', decide_eq_true_eq, decide_eq_false_iff_not]
  have q1 : ∀ x, InQ n l x → (chkS n l = 0 → ((isF n l == decide (x.1 < 0)) = true → (x.1 < 0 → (someN n l = 0 → ∃ x_1 : Int × Int × Int, InQ n l x_1 ∧ x.2.1 = x_1.2.1 ∧ x.2.2 = x_1.2.2) ∧ (¬someN n l = 0 → ∃ x_1 : Int × Int × Int, InQ n l x_1 ∧ x.2.1 = x_1.2.1 ∧ x.2.2 = x_1.2.2 ∧ someN n l = x.1)) ∧
      (¬x.1 < 0 → ∃ x_1 : Int × Int × Int, InQ n l x_1 ∧ x.2.1 = x_1.2.1 ∧ x.2.2 = x_1.2.2 ∧ someN n l = x.1)) ∧ ((isF n l == decide (x.1 < 0)) = false → ∃ x_1 : Int × Int × Int, InQ n l x_1 ∧ x.2.1 = x_1.2.1 ∧ x.2.2 = x_1.2.2 ∧ False)) ∧
      (¬chkS n l = 0 → ((isF n l == false) = true → (x.1 < 0 → (someN n l = 0 → ∃ x_1 : Int × Int × Int, InQ n l x_1 ∧ x.2.1 = x_1.2.1 ∧ x.2.2 = x_1.2.2) ∧ (¬someN n l = 0 → ∃ x_1 : Int × Int × Int, InQ n l x_1 ∧ x.2.1 = x_1.2.1 ∧ x.2.2 = x_1.2.2 ∧ someN n l = x.1)) ∧
      (¬x.1 < 0 → ∃ x_1 : Int × Int × Int, InQ n l x_1 ∧ x.2.1 = x_1.2.1 ∧ x.2.2 = x_1.2.2 ∧ someN n l = x.1)) ∧ ((isF n l == false) = false → ∃ x_1 : Int × Int × Int, InQ n l x_1 ∧ x.2.1 = x_1.2.1 ∧ x.2.2 = x_1.2.2 ∧ False)) := fun x hx => by
    obtain ⟨f1, f2, f3⟩ := fullX x hx
    have go : (x.1 < 0 → (someN n l = 0 → ∃ x_1 : Int × Int × Int, InQ n l x_1 ∧ x.2.1 = x_1.2.1 ∧ x.2.2 = x_1.2.2) ∧ (¬someN n l = 0 → ∃ x_1 : Int × Int × Int, InQ n l x_1 ∧ x.2.1 = x_1.2.1 ∧ x.2.2 = x_1.2.2 ∧ someN n l = x.1)) ∧
      (¬x.1 < 0 → ∃ x_1 : Int × Int × Int, InQ n l x_1 ∧ x.2.1 = x_1.2.1 ∧ x.2.2 = x_1.2.2 ∧ someN n l = x.1) := ⟨fun h => ⟨fun _ => ⟨x, hx, rfl, rfl⟩, fun h' => absurd (f2 h) h'⟩, fun h => ⟨x, hx, rfl, rfl, f3 h⟩⟩
    refine ⟨fun h => ⟨fun _ => go, fun h' => ?_⟩, fun h => ⟨fun _ => go, fun h' => ?_⟩⟩
    · rw [f1, decide_eq_true h, Bool.true_and, beq_self_eq_true] at h'; cases h'
    · rw [f1, decide_eq_false h, Bool.false_and] at h'; cases h'
  have q2 : ∀ x, InQ n l x → ∀ a f : Int, (chkS n l = 0 → (∃ m : Int, MP n l l.length 0 m ∧ a = (m - 1).tdiv 2) ∧ FP n l (2 ^ n.toNat) f) → (chkS n l ≠ 0 → a = 0 ∧ f = 0) →
      ((a = x.2.1 → f = x.2.2) ∧ (¬a = x.2.1 → False)) ∧ ((chkS n l = 0 → (n ≤ 61 ∧ 0 ≤ n) ∧ (maskB v n = false → 1 = hasE n l v) ∧ (maskB v n = true → chkS n l = hasE n l v)) ∧ (¬chkS n l = 0 → chkS n l = hasE n l v)) ∧
      ((hasE n l v = 0 → hasR l v = if hasE n l v = 0 then hasB l v else false) ∧ (¬hasE n l v = 0 → false = if hasE n l v = 0 then hasB l v else false)) ∧ k [⟨.bool, true⟩] := fun x hx a f h1 h2 => by
    obtain ⟨e1, e2⟩ := masksX x hx a f h1 h2
    refine ⟨⟨fun _ => e2, fun h => h e1⟩, ⟨fun h => ⟨?_, fun hm => ?_, fun hm => ?_⟩, fun h => ?_⟩, ⟨fun h => ?_, fun h => ?_⟩, hk⟩
    · have := (sets_of h).rng
      omega
    · unfold hasE; rw [if_pos h, if_neg (by rw [hm]; decide)]
    · unfold hasE; rw [if_pos h, if_pos hm]; exact h
    · unfold hasE; rw [if_neg h]
    · rw [if_pos h]; exact hasX h
    · rw [if_neg h]
  refine ⟨fun h => ⟨h, h, h, fun a f haf => ⟨⟨(fullR n l, a, f), ⟨fun _ => ⟨rfl, haf.1, haf.2⟩, fun h' => absurd h h'⟩, rfl, rfl, rfl, by rw [if_pos h]; exact beq_self_eq_true _⟩, fun x hx => ⟨q1 x hx, q2⟩⟩⟩, fun h => ⟨⟨(-1, 0, 0), ⟨fun h' => absurd h' h, fun _ => rfl⟩, rfl, rfl, rfl, by rw [if_neg h]; rfl⟩, fun x hx => ⟨q1 x hx, q2⟩⟩⟩
theorem okQSay : PlainOk Tryd.prog glA 7 cLawQ := by
  refine plain_of (CxOk.mk' En_ok rfl mixed (gl := glA) (GOk.cons (liftT okSetsR) Tryd.func24 (by kernel_rfl) (by kernel_rfl) (GOk.cons (liftT okCheck) Tryd.func20 (by kernel_rfl) (by kernel_rfl) (GOk.cons (liftE okError) Tryd.func25 (by kernel_rfl) (by kernel_rfl) (GOk.cons (liftT okLeastR) Tryd.func26 (by kernel_rfl) (by kernel_rfl) (GOk.cons (liftT okFullR) Tryd.func27 (by kernel_rfl) (by kernel_rfl) (GOk.cons (liftT okMasksR) Tryd.func28 (by kernel_rfl) (by kernel_rfl) (GOk.cons (liftT okLeast) Tryd.func21 (by kernel_rfl) (by kernel_rfl) (GOk.cons (liftT okInts) Tryd.func29 (by kernel_rfl) (by kernel_rfl) (GOk.cons (liftT okFull) Tryd.func18 (by kernel_rfl) (by kernel_rfl) (GOk.cons (liftT okMasks) Tryd.func22 (by kernel_rfl) (by kernel_rfl) (GOk.cons (liftT okMaskR) Tryd.func30 (by kernel_rfl) (by kernel_rfl) (GOk.cons (liftT okHasR) Tryd.func31 (by kernel_rfl) (by kernel_rfl) (GOk.cons (liftT okHas) Tryd.func19 (by kernel_rfl) (by kernel_rfl) (GOk.cons (liftT okVotesR) Tryd.func32 (by kernel_rfl) (by kernel_rfl) (GOk.cons (liftT okVotes) Tryd.func13 (by kernel_rfl) (by kernel_rfl) GOk.nil))))))))))))))) GoOk.nil noIt) Tryd.func7 (c := Tryd.f7.body.getD .skip) (rvs := [(.tmp 10, .bool)]) (by kernel_rfl) (by kernel_rfl) (by kernel_rfl) ?_
  intro ds k ⟨hp, hk⟩ hwf
  obtain ⟨n, l, v, w, need, rfl, -⟩ := dest5 hp
  exact ⟨anQSay n l v, qsay_vc n l v w need k hk⟩
theorem glOkQ {W : World} (h : laidMetH Tryd.prog Rows.quorumSaysRow.laid W) : GlOk glA W fun b => b < W.heap.size :=
  GlOk.append (gl_of_laidM Eg_ok (n := "math/bits.deBruijn64tab") (T := 94) h (.tail _ (.head _)) (by kernel_rfl) (by kernel_rfl) (by kernel_rfl) (by kernel_rfl) (by decide)) (glE_of (.tail _ (.tail _ (.head _))) h)
end Go.Proofs.YtlopkkoenfngiaaDoor
