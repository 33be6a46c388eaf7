/- Own texts, merged: V6, M, M2, M3, M4, M5, M7, Ok7, Ok9, TDef, TV, TOk, PDef. -/
import Derived.Test.YtdpnakebhpecfaaDoorSPRowZ1
/- What the functions of this seat have to satisfy, by program: each verification condition in plain words. -/
namespace Go.Proofs.YtdpnakebhpecfaaDoor
open Go.Vc
set_option linter.unusedVariables false
theorem vcOne (n : Int) (l : List As) (k : List Dat → Prop) : vcF ⟨El, [(8, cFact)], glT, [], [(9, oNew), (10, oDoX), (11, oChX)]⟩ (anOne n l) (Tryd.f3.body.getD .skip) Tryd.f3.ntmps [(.tmp 4, .bool)] [⟨I, n⟩, ⟨.sl tAs, l⟩] k = (
  True ∧ ((!true) = true → k [Dat.mk Ty.bool false]) ∧ ((!true) = false → (inB n (1 : Int) (8 : Int) = true → ((!decide ((0 : Int) = (0 : Int))) = true → (decide (n < (1 : Int)) = true → k [Dat.mk Ty.bool true]) ∧ (decide (n < (1 : Int)) = false → k [Dat.mk Ty.bool (decide ((8 : Int) < n))])) ∧ ((!decide ((0 : Int) = (0 : Int))) = false → (∃ (x : Nat), (x ≤ l.length ∧ True) ∧ (n = n ∧ l = l ∧ True ∧ chX (sAt n l x) = [] ∧ (0 : Int) = (↑x : Int) ∧ True) ∧ ((True ∧ List.replicate (31 : Nat) nB = (sAt n l x).bs ∧ True) ∧ ((58 : Nat) = (58 : Nat) ∧ List.replicate n.toNat nM = (sAt n l x).ms) ∧ True) ∧ tabD = tabD ∧ True) ∧ ∀ (x : Nat), x ≤ l.length ∧ True → (decide ((↑x : Int) < (↑l.length : Int)) = true → (decide ((↑x : Int) < (60 : Int)) = true → (0 : Int) ≤ (↑x : Int) ∧ (↑x : Int) < (↑l.length : Int) ∧ SyInv (Sy.mk (sAt n l x).ms (sAt n l x).bs) ∧ SyInv (Sy.mk (doX (Sy.mk (sAt n l x).ms (sAt n l x).bs) (l.getD (↑x : Int).toNat ((0 : Int), (0 : Int), (0 : Int), (0 : Int), ()))).snd.ms (doX (Sy.mk (sAt n l x).ms (sAt n l x).bs) (l.getD (↑x : Int).toNat ((0 : Int), (0 : Int), (0 : Int), (0 : Int), ()))).snd.bs) ∧ (∃ (x_1 : Nat), (x_1 ≤ (31 : Nat) ∧ True) ∧ (n = n ∧ l = l ∧ True ∧ chX (sAt n l x) = chX (sAt n l x) ∧ (↑x : Int) = (↑x : Int) ∧ chX (Sy.mk (doX (Sy.mk (sAt n l x).ms (sAt n l x).bs) (l.getD (↑x : Int).toNat ((0 : Int), (0 : Int), (0 : Int), (0 : Int), ()))).snd.ms (doX (Sy.mk (sAt n l x).ms (sAt n l x).bs) (l.getD (↑x : Int).toNat ((0 : Int), (0 : Int), (0 : Int), (0 : Int), ()))).snd.bs) = chX (Sy.mk (doX (Sy.mk (sAt n l x).ms (sAt n l x).bs) (l.getD (↑x : Int).toNat ((0 : Int), (0 : Int), (0 : Int), (0 : Int), ()))).snd.ms (doX (Sy.mk (sAt n l x).ms (sAt n l x).bs) (l.getD (↑x : Int).toNat ((0 : Int), (0 : Int), (0 : Int), (0 : Int), ()))).snd.bs) ∧ (0 : Int) = (↑x_1 : Int) ∧ True) ∧ ((True ∧ (doX (Sy.mk (sAt n l x).ms (sAt n l x).bs) (l.getD (↑x : Int).toNat ((0 : Int), (0 : Int), (0 : Int), (0 : Int), ()))).snd.bs = (doX (Sy.mk (sAt n l x).ms (sAt n l x).bs) (l.getD (↑x : Int).toNat ((0 : Int), (0 : Int), (0 : Int), (0 : Int), ()))).snd.bs ∧ True) ∧ ((58 : Nat) = (58 : Nat) ∧ (doX (Sy.mk (sAt n l x).ms (sAt n l x).bs) (l.getD (↑x : Int).toNat ((0 : Int), (0 : Int), (0 : Int), (0 : Int), ()))).snd.ms = (doX (Sy.mk (sAt n l x).ms (sAt n l x).bs) (l.getD (↑x : Int).toNat ((0 : Int), (0 : Int), (0 : Int), (0 : Int), ()))).snd.ms) ∧ True) ∧ tabD = tabD ∧ True) ∧ ∀ (x_1 : Nat), x_1 ≤ (31 : Nat) ∧ True → (decide ((↑x_1 : Int) < (↑(chX (Sy.mk (doX (Sy.mk (sAt n l x).ms (sAt n l x).bs) (l.getD (↑x : Int).toNat ((0 : Int), (0 : Int), (0 : Int), (0 : Int), ()))).snd.ms (doX (Sy.mk (sAt n l x).ms (sAt n l x).bs) (l.getD (↑x : Int).toNat ((0 : Int), (0 : Int), (0 : Int), (0 : Int), ()))).snd.bs)).length : Int)) = true → ((0 : Int) ≤ (↑x_1 : Int) ∧ (↑x_1 : Int) < (↑(chX (Sy.mk (doX (Sy.mk (sAt n l x).ms (sAt n l x).bs) (l.getD (↑x : Int).toNat ((0 : Int), (0 : Int), (0 : Int), (0 : Int), ()))).snd.ms (doX (Sy.mk (sAt n l x).ms (sAt n l x).bs) (l.getD (↑x : Int).toNat ((0 : Int), (0 : Int), (0 : Int), (0 : Int), ()))).snd.bs)).length : Int) ∧ (0 : Int) ≤ (0 : Int) ∧ (0 : Int) < (↑(chX (Sy.mk (doX (Sy.mk (sAt n l x).ms (sAt n l x).bs) (l.getD (↑x : Int).toNat ((0 : Int), (0 : Int), (0 : Int), (0 : Int), ()))).snd.ms (doX (Sy.mk (sAt n l x).ms (sAt n l x).bs) (l.getD (↑x : Int).toNat ((0 : Int), (0 : Int), (0 : Int), (0 : Int), ()))).snd.bs)).length : Int) ∧ True) ∧ ((!decide ((chX (Sy.mk (doX (Sy.mk (sAt n l x).ms (sAt n l x).bs) (l.getD (↑x : Int).toNat ((0 : Int), (0 : Int), (0 : Int), (0 : Int), ()))).snd.ms (doX (Sy.mk (sAt n l x).ms (sAt n l x).bs) (l.getD (↑x : Int).toNat ((0 : Int), (0 : Int), (0 : Int), (0 : Int), ()))).snd.bs)).getD (↑x_1 : Int).toNat (0 : Int) = (chX (Sy.mk (doX (Sy.mk (sAt n l x).ms (sAt n l x).bs) (l.getD (↑x : Int).toNat ((0 : Int), (0 : Int), (0 : Int), (0 : Int), ()))).snd.ms (doX (Sy.mk (sAt n l x).ms (sAt n l x).bs) (l.getD (↑x : Int).toNat ((0 : Int), (0 : Int), (0 : Int), (0 : Int), ()))).snd.bs)).getD (Int.toNat (0 : Int)) (0 : Int))) = true → k [Dat.mk Ty.bool false]) ∧ ((!decide ((chX (Sy.mk (doX (Sy.mk (sAt n l x).ms (sAt n l x).bs) (l.getD (↑x : Int).toNat ((0 : Int), (0 : Int), (0 : Int), (0 : Int), ()))).snd.ms (doX (Sy.mk (sAt n l x).ms (sAt n l x).bs) (l.getD (↑x : Int).toNat ((0 : Int), (0 : Int), (0 : Int), (0 : Int), ()))).snd.bs)).getD (↑x_1 : Int).toNat (0 : Int) = (chX (Sy.mk (doX (Sy.mk (sAt n l x).ms (sAt n l x).bs) (l.getD (↑x : Int).toNat ((0 : Int), (0 : Int), (0 : Int), (0 : Int), ()))).snd.ms (doX (Sy.mk (sAt n l x).ms (sAt n l x).bs) (l.getD (↑x : Int).toNat ((0 : Int), (0 : Int), (0 : Int), (0 : Int), ()))).snd.bs)).getD (Int.toNat (0 : Int)) (0 : Int))) = false → inK IntKind.i64 ((↑x_1 : Int) + (1 : Int)) ∧ ∃ (x_2 : Nat), (x_2 ≤ (31 : Nat) ∧ True) ∧ (32 : Nat) - x_2 < (32 : Nat) - x_1 ∧ (n = n ∧ l = l ∧ True ∧ chX (sAt n l x) = chX (sAt n l x) ∧ (↑x : Int) = (↑x : Int) ∧ chX (Sy.mk (doX (Sy.mk (sAt n l x).ms (sAt n l x).bs) (l.getD (↑x : Int).toNat ((0 : Int), (0 : Int), (0 : Int), (0 : Int), ()))).snd.ms (doX (Sy.mk (sAt n l x).ms (sAt n l x).bs) (l.getD (↑x : Int).toNat ((0 : Int), (0 : Int), (0 : Int), (0 : Int), ()))).snd.bs) = chX (Sy.mk (doX (Sy.mk (sAt n l x).ms (sAt n l x).bs) (l.getD (↑x : Int).toNat ((0 : Int), (0 : Int), (0 : Int), (0 : Int), ()))).snd.ms (doX (Sy.mk (sAt n l x).ms (sAt n l x).bs) (l.getD (↑x : Int).toNat ((0 : Int), (0 : Int), (0 : Int), (0 : Int), ()))).snd.bs) ∧ (↑x_1 : Int) + (1 : Int) = (↑x_2 : Int) ∧ True) ∧ ((True ∧ (doX (Sy.mk (sAt n l x).ms (sAt n l x).bs) (l.getD (↑x : Int).toNat ((0 : Int), (0 : Int), (0 : Int), (0 : Int), ()))).snd.bs = (doX (Sy.mk (sAt n l x).ms (sAt n l x).bs) (l.getD (↑x : Int).toNat ((0 : Int), (0 : Int), (0 : Int), (0 : Int), ()))).snd.bs ∧ True) ∧ ((58 : Nat) = (58 : Nat) ∧ (doX (Sy.mk (sAt n l x).ms (sAt n l x).bs) (l.getD (↑x : Int).toNat ((0 : Int), (0 : Int), (0 : Int), (0 : Int), ()))).snd.ms = (doX (Sy.mk (sAt n l x).ms (sAt n l x).bs) (l.getD (↑x : Int).toNat ((0 : Int), (0 : Int), (0 : Int), (0 : Int), ()))).snd.ms) ∧ True) ∧ tabD = tabD ∧ True)) ∧ (decide ((↑x_1 : Int) < (↑(chX (Sy.mk (doX (Sy.mk (sAt n l x).ms (sAt n l x).bs) (l.getD (↑x : Int).toNat ((0 : Int), (0 : Int), (0 : Int), (0 : Int), ()))).snd.ms (doX (Sy.mk (sAt n l x).ms (sAt n l x).bs) (l.getD (↑x : Int).toNat ((0 : Int), (0 : Int), (0 : Int), (0 : Int), ()))).snd.bs)).length : Int)) = false → ((decide ((0 : Int) < (↑(chX (sAt n l x)).length : Int)) = true → (decide ((↑(chX (Sy.mk (doX (Sy.mk (sAt n l x).ms (sAt n l x).bs) (l.getD (↑x : Int).toNat ((0 : Int), (0 : Int), (0 : Int), (0 : Int), ()))).snd.ms (doX (Sy.mk (sAt n l x).ms (sAt n l x).bs) (l.getD (↑x : Int).toNat ((0 : Int), (0 : Int), (0 : Int), (0 : Int), ()))).snd.bs)).length : Int) < (↑(chX (sAt n l x)).length : Int)) = true → True) ∧ (decide ((↑(chX (Sy.mk (doX (Sy.mk (sAt n l x).ms (sAt n l x).bs) (l.getD (↑x : Int).toNat ((0 : Int), (0 : Int), (0 : Int), (0 : Int), ()))).snd.ms (doX (Sy.mk (sAt n l x).ms (sAt n l x).bs) (l.getD (↑x : Int).toNat ((0 : Int), (0 : Int), (0 : Int), (0 : Int), ()))).snd.bs)).length : Int) < (↑(chX (sAt n l x)).length : Int)) = false → (0 : Int) ≤ (0 : Int) ∧ (0 : Int) < (↑(chX (Sy.mk (doX (Sy.mk (sAt n l x).ms (sAt n l x).bs) (l.getD (↑x : Int).toNat ((0 : Int), (0 : Int), (0 : Int), (0 : Int), ()))).snd.ms (doX (Sy.mk (sAt n l x).ms (sAt n l x).bs) (l.getD (↑x : Int).toNat ((0 : Int), (0 : Int), (0 : Int), (0 : Int), ()))).snd.bs)).length : Int) ∧ (0 : Int) ≤ (0 : Int) ∧ (0 : Int) < (↑(chX (sAt n l x)).length : Int) ∧ True)) ∧ (decide ((0 : Int) < (↑(chX (sAt n l x)).length : Int)) = false → True)) ∧ ((decide ((0 : Int) < (↑(chX (sAt n l x)).length : Int)) && (decide ((↑(chX (Sy.mk (doX (Sy.mk (sAt n l x).ms (sAt n l x).bs) (l.getD (↑x : Int).toNat ((0 : Int), (0 : Int), (0 : Int), (0 : Int), ()))).snd.ms (doX (Sy.mk (sAt n l x).ms (sAt n l x).bs) (l.getD (↑x : Int).toNat ((0 : Int), (0 : Int), (0 : Int), (0 : Int), ()))).snd.bs)).length : Int) < (↑(chX (sAt n l x)).length : Int)) || !decide ((chX (Sy.mk (doX (Sy.mk (sAt n l x).ms (sAt n l x).bs) (l.getD (↑x : Int).toNat ((0 : Int), (0 : Int), (0 : Int), (0 : Int), ()))).snd.ms (doX (Sy.mk (sAt n l x).ms (sAt n l x).bs) (l.getD (↑x : Int).toNat ((0 : Int), (0 : Int), (0 : Int), (0 : Int), ()))).snd.bs)).getD (Int.toNat (0 : Int)) (0 : Int) = (chX (sAt n l x)).getD (Int.toNat (0 : Int)) (0 : Int)))) = true → k [Dat.mk Ty.bool false]) ∧ ((decide ((0 : Int) < (↑(chX (sAt n l x)).length : Int)) && (decide ((↑(chX (Sy.mk (doX (Sy.mk (sAt n l x).ms (sAt n l x).bs) (l.getD (↑x : Int).toNat ((0 : Int), (0 : Int), (0 : Int), (0 : Int), ()))).snd.ms (doX (Sy.mk (sAt n l x).ms (sAt n l x).bs) (l.getD (↑x : Int).toNat ((0 : Int), (0 : Int), (0 : Int), (0 : Int), ()))).snd.bs)).length : Int) < (↑(chX (sAt n l x)).length : Int)) || !decide ((chX (Sy.mk (doX (Sy.mk (sAt n l x).ms (sAt n l x).bs) (l.getD (↑x : Int).toNat ((0 : Int), (0 : Int), (0 : Int), (0 : Int), ()))).snd.ms (doX (Sy.mk (sAt n l x).ms (sAt n l x).bs) (l.getD (↑x : Int).toNat ((0 : Int), (0 : Int), (0 : Int), (0 : Int), ()))).snd.bs)).getD (Int.toNat (0 : Int)) (0 : Int) = (chX (sAt n l x)).getD (Int.toNat (0 : Int)) (0 : Int)))) = false → inK IntKind.i64 ((↑x : Int) + (1 : Int)) ∧ ∃ (x_2 : Nat), (x_2 ≤ l.length ∧ True) ∧ l.length - x_2 < l.length - x ∧ (n = n ∧ l = l ∧ True ∧ chX (Sy.mk (doX (Sy.mk (sAt n l x).ms (sAt n l x).bs) (l.getD (↑x : Int).toNat ((0 : Int), (0 : Int), (0 : Int), (0 : Int), ()))).snd.ms (doX (Sy.mk (sAt n l x).ms (sAt n l x).bs) (l.getD (↑x : Int).toNat ((0 : Int), (0 : Int), (0 : Int), (0 : Int), ()))).snd.bs) = chX (sAt n l x_2) ∧ (↑x : Int) + (1 : Int) = (↑x_2 : Int) ∧ True) ∧ ((True ∧ (doX (Sy.mk (sAt n l x).ms (sAt n l x).bs) (l.getD (↑x : Int).toNat ((0 : Int), (0 : Int), (0 : Int), (0 : Int), ()))).snd.bs = (sAt n l x_2).bs ∧ True) ∧ ((58 : Nat) = (58 : Nat) ∧ (doX (Sy.mk (sAt n l x).ms (sAt n l x).bs) (l.getD (↑x : Int).toNat ((0 : Int), (0 : Int), (0 : Int), (0 : Int), ()))).snd.ms = (sAt n l x_2).ms) ∧ True) ∧ tabD = tabD ∧ True))) ∧ (decide ((↑x : Int) < (60 : Int)) = false → k [Dat.mk Ty.bool true])) ∧ (decide ((↑x : Int) < (↑l.length : Int)) = false → k [Dat.mk Ty.bool true]))) ∧ (inB n (1 : Int) (8 : Int) = false → ((!decide ((1 : Int) = (0 : Int))) = true → (decide (n < (1 : Int)) = true → k [Dat.mk Ty.bool true]) ∧ (decide (n < (1 : Int)) = false → k [Dat.mk Ty.bool (decide ((8 : Int) < n))])) ∧ ((!decide ((1 : Int) = (0 : Int))) = false → (∃ (x : Nat), (x ≤ l.length ∧ True) ∧ (n = n ∧ l = l ∧ True ∧ chX (sAt n l x) = [] ∧ (0 : Int) = (↑x : Int) ∧ True) ∧ (False ∧ False ∧ True) ∧ tabD = tabD ∧ True) ∧ ∀ (x : Nat), x ≤ l.length ∧ True → (decide ((↑x : Int) < (↑l.length : Int)) = true → (decide ((↑x : Int) < (60 : Int)) = true → (0 : Int) ≤ (↑x : Int) ∧ (↑x : Int) < (↑l.length : Int) ∧ False) ∧ (decide ((↑x : Int) < (60 : Int)) = false → k [Dat.mk Ty.bool true])) ∧ (decide ((↑x : Int) < (↑l.length : Int)) = false → k [Dat.mk Ty.bool true]))))) := by kernel_rfl
theorem vcGoes (n : Int) (l : List As) (value : Int) (k : List Dat → Prop) : vcF ⟨El, [(8, cFact), (12, cPow2)], glT, [], [(9, oNew), (10, oDoX), (11, oChX)]⟩ (anGoes n l) (Tryd.f4.body.getD .skip) Tryd.f4.ntmps [(.tmp 6, .bool)] [⟨I, n⟩, ⟨.sl tAs, l⟩, ⟨I, value⟩] k = (
  True ∧ ((!true) = true → k [Dat.mk Ty.bool false]) ∧ ((!true) = false → (inB n (1 : Int) (8 : Int) = true → ((!decide ((0 : Int) = (0 : Int))) = true → k [Dat.mk Ty.bool true]) ∧ ((!decide ((0 : Int) = (0 : Int))) = false → (decide (value < (0 : Int)) = true → k [Dat.mk Ty.bool true]) ∧ (decide (value < (0 : Int)) = false → (decide ((1000000 : Int) < value) = true → k [Dat.mk Ty.bool true]) ∧ (decide ((1000000 : Int) < value) = false → (∃ (x : Nat), (x ≤ l.length ∧ True) ∧ (n = n ∧ l = l ∧ value = value ∧ True ∧ (0 : Int) = (↑x : Int) ∧ True) ∧ ((True ∧ List.replicate (31 : Nat) nB = (gAt n l x).bs ∧ True) ∧ ((58 : Nat) = (58 : Nat) ∧ List.replicate n.toNat nM = (gAt n l x).ms) ∧ True) ∧ tabD = tabD ∧ True) ∧ ∀ (x : Nat), x ≤ l.length ∧ True → (decide ((↑x : Int) < (↑l.length : Int)) = true → (decide ((↑x : Int) < (60 : Int)) = true → (0 : Int) ≤ (↑x : Int) ∧ (↑x : Int) < (↑l.length : Int) ∧ (decide ((l.getD (↑x : Int).toNat ((0 : Int), (0 : Int), (0 : Int), (0 : Int), ())).snd.fst < (30 : Int)) = true → (0 : Int) ≤ (↑x : Int) ∧ (↑x : Int) < (↑l.length : Int) ∧ SyInv (Sy.mk (gAt n l x).ms (gAt n l x).bs) ∧ inK IntKind.i64 ((↑x : Int) + (1 : Int)) ∧ ∃ (x_1 : Nat), (x_1 ≤ l.length ∧ True) ∧ l.length - x_1 < l.length - x ∧ (n = n ∧ l = l ∧ value = value ∧ True ∧ (↑x : Int) + (1 : Int) = (↑x_1 : Int) ∧ True) ∧ ((True ∧ (doX (Sy.mk (gAt n l x).ms (gAt n l x).bs) (l.getD (↑x : Int).toNat ((0 : Int), (0 : Int), (0 : Int), (0 : Int), ()))).snd.bs = (gAt n l x_1).bs ∧ True) ∧ ((58 : Nat) = (58 : Nat) ∧ (doX (Sy.mk (gAt n l x).ms (gAt n l x).bs) (l.getD (↑x : Int).toNat ((0 : Int), (0 : Int), (0 : Int), (0 : Int), ()))).snd.ms = (gAt n l x_1).ms) ∧ True) ∧ tabD = tabD ∧ True) ∧ (decide ((l.getD (↑x : Int).toNat ((0 : Int), (0 : Int), (0 : Int), (0 : Int), ())).snd.fst < (30 : Int)) = false → inK IntKind.i64 ((↑x : Int) + (1 : Int)) ∧ ∃ (x_1 : Nat), (x_1 ≤ l.length ∧ True) ∧ l.length - x_1 < l.length - x ∧ (n = n ∧ l = l ∧ value = value ∧ True ∧ (↑x : Int) + (1 : Int) = (↑x_1 : Int) ∧ True) ∧ ((True ∧ (gAt n l x).bs = (gAt n l x_1).bs ∧ True) ∧ ((58 : Nat) = (58 : Nat) ∧ (gAt n l x).ms = (gAt n l x_1).ms) ∧ True) ∧ tabD = tabD ∧ True)) ∧ (decide ((↑x : Int) < (60 : Int)) = false → SyInv (Sy.mk (gAt n l x).ms (gAt n l x).bs) ∧ (n ≤ (61 : Int) ∧ True) ∧ inK IntKind.i64 ((2 : Int) ^ n.toNat - (1 : Int)) ∧ SyInv (Sy.mk (gAt n l x).ms (gAt n l x).bs) ∧ SyInv (Sy.mk (doX (Sy.mk (gAt n l x).ms (gAt n l x).bs) ((0 : Int), (30 : Int), (0 : Int), (2 : Int) ^ n.toNat - (1 : Int), ())).snd.ms (doX (Sy.mk (gAt n l x).ms (gAt n l x).bs) ((0 : Int), (30 : Int), (0 : Int), (2 : Int) ^ n.toNat - (1 : Int), ())).snd.bs) ∧ SyInv (Sy.mk (doX (Sy.mk (doX (Sy.mk (gAt n l x).ms (gAt n l x).bs) ((0 : Int), (30 : Int), (0 : Int), (2 : Int) ^ n.toNat - (1 : Int), ())).snd.ms (doX (Sy.mk (gAt n l x).ms (gAt n l x).bs) ((0 : Int), (30 : Int), (0 : Int), (2 : Int) ^ n.toNat - (1 : Int), ())).snd.bs) ((1 : Int), (30 : Int), value, (2 : Int) ^ n.toNat - (1 : Int), ())).snd.ms (doX (Sy.mk (doX (Sy.mk (gAt n l x).ms (gAt n l x).bs) ((0 : Int), (30 : Int), (0 : Int), (2 : Int) ^ n.toNat - (1 : Int), ())).snd.ms (doX (Sy.mk (gAt n l x).ms (gAt n l x).bs) ((0 : Int), (30 : Int), (0 : Int), (2 : Int) ^ n.toNat - (1 : Int), ())).snd.bs) ((1 : Int), (30 : Int), value, (2 : Int) ^ n.toNat - (1 : Int), ())).snd.bs) ∧ ((decide ((doX (Sy.mk (gAt n l x).ms (gAt n l x).bs) ((0 : Int), (30 : Int), (0 : Int), (2 : Int) ^ n.toNat - (1 : Int), ())).fst.snd = (0 : Int)) = true → (decide ((doX (Sy.mk (doX (Sy.mk (gAt n l x).ms (gAt n l x).bs) ((0 : Int), (30 : Int), (0 : Int), (2 : Int) ^ n.toNat - (1 : Int), ())).snd.ms (doX (Sy.mk (gAt n l x).ms (gAt n l x).bs) ((0 : Int), (30 : Int), (0 : Int), (2 : Int) ^ n.toNat - (1 : Int), ())).snd.bs) ((1 : Int), (30 : Int), value, (2 : Int) ^ n.toNat - (1 : Int), ())).fst.snd = (0 : Int)) = true → (decide ((doX (Sy.mk (gAt n l x).ms (gAt n l x).bs) ((0 : Int), (30 : Int), (0 : Int), (2 : Int) ^ n.toNat - (1 : Int), ())).fst.fst = (2 : Int) ^ n.toNat - (1 : Int)) = true → (decide ((doX (Sy.mk (doX (Sy.mk (gAt n l x).ms (gAt n l x).bs) ((0 : Int), (30 : Int), (0 : Int), (2 : Int) ^ n.toNat - (1 : Int), ())).snd.ms (doX (Sy.mk (gAt n l x).ms (gAt n l x).bs) ((0 : Int), (30 : Int), (0 : Int), (2 : Int) ^ n.toNat - (1 : Int), ())).snd.bs) ((1 : Int), (30 : Int), value, (2 : Int) ^ n.toNat - (1 : Int), ())).fst.fst = (2 : Int) ^ n.toNat - (1 : Int)) = true → inK IntKind.i64 ((↑(chX (Sy.mk (gAt n l x).ms (gAt n l x).bs)).length : Int) + (1 : Int)) ∧ (decide ((↑(chX (Sy.mk (doX (Sy.mk (doX (Sy.mk (gAt n l x).ms (gAt n l x).bs) ((0 : Int), (30 : Int), (0 : Int), (2 : Int) ^ n.toNat - (1 : Int), ())).snd.ms (doX (Sy.mk (gAt n l x).ms (gAt n l x).bs) ((0 : Int), (30 : Int), (0 : Int), (2 : Int) ^ n.toNat - (1 : Int), ())).snd.bs) ((1 : Int), (30 : Int), value, (2 : Int) ^ n.toNat - (1 : Int), ())).snd.ms (doX (Sy.mk (doX (Sy.mk (gAt n l x).ms (gAt n l x).bs) ((0 : Int), (30 : Int), (0 : Int), (2 : Int) ^ n.toNat - (1 : Int), ())).snd.ms (doX (Sy.mk (gAt n l x).ms (gAt n l x).bs) ((0 : Int), (30 : Int), (0 : Int), (2 : Int) ^ n.toNat - (1 : Int), ())).snd.bs) ((1 : Int), (30 : Int), value, (2 : Int) ^ n.toNat - (1 : Int), ())).snd.bs)).length : Int) = (↑(chX (Sy.mk (gAt n l x).ms (gAt n l x).bs)).length : Int) + (1 : Int)) = true → (decide ((↑(chX (Sy.mk (gAt n l x).ms (gAt n l x).bs)).length : Int) = (0 : Int)) = true → True) ∧ (decide ((↑(chX (Sy.mk (gAt n l x).ms (gAt n l x).bs)).length : Int) = (0 : Int)) = false → inK IntKind.i64 ((↑(chX (Sy.mk (doX (Sy.mk (doX (Sy.mk (gAt n l x).ms (gAt n l x).bs) ((0 : Int), (30 : Int), (0 : Int), (2 : Int) ^ n.toNat - (1 : Int), ())).snd.ms (doX (Sy.mk (gAt n l x).ms (gAt n l x).bs) ((0 : Int), (30 : Int), (0 : Int), (2 : Int) ^ n.toNat - (1 : Int), ())).snd.bs) ((1 : Int), (30 : Int), value, (2 : Int) ^ n.toNat - (1 : Int), ())).snd.ms (doX (Sy.mk (doX (Sy.mk (gAt n l x).ms (gAt n l x).bs) ((0 : Int), (30 : Int), (0 : Int), (2 : Int) ^ n.toNat - (1 : Int), ())).snd.ms (doX (Sy.mk (gAt n l x).ms (gAt n l x).bs) ((0 : Int), (30 : Int), (0 : Int), (2 : Int) ^ n.toNat - (1 : Int), ())).snd.bs) ((1 : Int), (30 : Int), value, (2 : Int) ^ n.toNat - (1 : Int), ())).snd.bs)).length : Int) - (1 : Int)) ∧ (0 : Int) ≤ (↑(chX (Sy.mk (doX (Sy.mk (doX (Sy.mk (gAt n l x).ms (gAt n l x).bs) ((0 : Int), (30 : Int), (0 : Int), (2 : Int) ^ n.toNat - (1 : Int), ())).snd.ms (doX (Sy.mk (gAt n l x).ms (gAt n l x).bs) ((0 : Int), (30 : Int), (0 : Int), (2 : Int) ^ n.toNat - (1 : Int), ())).snd.bs) ((1 : Int), (30 : Int), value, (2 : Int) ^ n.toNat - (1 : Int), ())).snd.ms (doX (Sy.mk (doX (Sy.mk (gAt n l x).ms (gAt n l x).bs) ((0 : Int), (30 : Int), (0 : Int), (2 : Int) ^ n.toNat - (1 : Int), ())).snd.ms (doX (Sy.mk (gAt n l x).ms (gAt n l x).bs) ((0 : Int), (30 : Int), (0 : Int), (2 : Int) ^ n.toNat - (1 : Int), ())).snd.bs) ((1 : Int), (30 : Int), value, (2 : Int) ^ n.toNat - (1 : Int), ())).snd.bs)).length : Int) - (1 : Int) ∧ (↑(chX (Sy.mk (doX (Sy.mk (doX (Sy.mk (gAt n l x).ms (gAt n l x).bs) ((0 : Int), (30 : Int), (0 : Int), (2 : Int) ^ n.toNat - (1 : Int), ())).snd.ms (doX (Sy.mk (gAt n l x).ms (gAt n l x).bs) ((0 : Int), (30 : Int), (0 : Int), (2 : Int) ^ n.toNat - (1 : Int), ())).snd.bs) ((1 : Int), (30 : Int), value, (2 : Int) ^ n.toNat - (1 : Int), ())).snd.ms (doX (Sy.mk (doX (Sy.mk (gAt n l x).ms (gAt n l x).bs) ((0 : Int), (30 : Int), (0 : Int), (2 : Int) ^ n.toNat - (1 : Int), ())).snd.ms (doX (Sy.mk (gAt n l x).ms (gAt n l x).bs) ((0 : Int), (30 : Int), (0 : Int), (2 : Int) ^ n.toNat - (1 : Int), ())).snd.bs) ((1 : Int), (30 : Int), value, (2 : Int) ^ n.toNat - (1 : Int), ())).snd.bs)).length : Int) - (1 : Int) < (↑(chX (Sy.mk (doX (Sy.mk (doX (Sy.mk (gAt n l x).ms (gAt n l x).bs) ((0 : Int), (30 : Int), (0 : Int), (2 : Int) ^ n.toNat - (1 : Int), ())).snd.ms (doX (Sy.mk (gAt n l x).ms (gAt n l x).bs) ((0 : Int), (30 : Int), (0 : Int), (2 : Int) ^ n.toNat - (1 : Int), ())).snd.bs) ((1 : Int), (30 : Int), value, (2 : Int) ^ n.toNat - (1 : Int), ())).snd.ms (doX (Sy.mk (doX (Sy.mk (gAt n l x).ms (gAt n l x).bs) ((0 : Int), (30 : Int), (0 : Int), (2 : Int) ^ n.toNat - (1 : Int), ())).snd.ms (doX (Sy.mk (gAt n l x).ms (gAt n l x).bs) ((0 : Int), (30 : Int), (0 : Int), (2 : Int) ^ n.toNat - (1 : Int), ())).snd.bs) ((1 : Int), (30 : Int), value, (2 : Int) ^ n.toNat - (1 : Int), ())).snd.bs)).length : Int) ∧ (0 : Int) ≤ (0 : Int) ∧ (0 : Int) < (↑(chX (Sy.mk (gAt n l x).ms (gAt n l x).bs)).length : Int) ∧ True)) ∧ (decide ((↑(chX (Sy.mk (doX (Sy.mk (doX (Sy.mk (gAt n l x).ms (gAt n l x).bs) ((0 : Int), (30 : Int), (0 : Int), (2 : Int) ^ n.toNat - (1 : Int), ())).snd.ms (doX (Sy.mk (gAt n l x).ms (gAt n l x).bs) ((0 : Int), (30 : Int), (0 : Int), (2 : Int) ^ n.toNat - (1 : Int), ())).snd.bs) ((1 : Int), (30 : Int), value, (2 : Int) ^ n.toNat - (1 : Int), ())).snd.ms (doX (Sy.mk (doX (Sy.mk (gAt n l x).ms (gAt n l x).bs) ((0 : Int), (30 : Int), (0 : Int), (2 : Int) ^ n.toNat - (1 : Int), ())).snd.ms (doX (Sy.mk (gAt n l x).ms (gAt n l x).bs) ((0 : Int), (30 : Int), (0 : Int), (2 : Int) ^ n.toNat - (1 : Int), ())).snd.bs) ((1 : Int), (30 : Int), value, (2 : Int) ^ n.toNat - (1 : Int), ())).snd.bs)).length : Int) = (↑(chX (Sy.mk (gAt n l x).ms (gAt n l x).bs)).length : Int) + (1 : Int)) = false → True)) ∧ (decide ((doX (Sy.mk (doX (Sy.mk (gAt n l x).ms (gAt n l x).bs) ((0 : Int), (30 : Int), (0 : Int), (2 : Int) ^ n.toNat - (1 : Int), ())).snd.ms (doX (Sy.mk (gAt n l x).ms (gAt n l x).bs) ((0 : Int), (30 : Int), (0 : Int), (2 : Int) ^ n.toNat - (1 : Int), ())).snd.bs) ((1 : Int), (30 : Int), value, (2 : Int) ^ n.toNat - (1 : Int), ())).fst.fst = (2 : Int) ^ n.toNat - (1 : Int)) = false → True)) ∧ (decide ((doX (Sy.mk (gAt n l x).ms (gAt n l x).bs) ((0 : Int), (30 : Int), (0 : Int), (2 : Int) ^ n.toNat - (1 : Int), ())).fst.fst = (2 : Int) ^ n.toNat - (1 : Int)) = false → True)) ∧ (decide ((doX (Sy.mk (doX (Sy.mk (gAt n l x).ms (gAt n l x).bs) ((0 : Int), (30 : Int), (0 : Int), (2 : Int) ^ n.toNat - (1 : Int), ())).snd.ms (doX (Sy.mk (gAt n l x).ms (gAt n l x).bs) ((0 : Int), (30 : Int), (0 : Int), (2 : Int) ^ n.toNat - (1 : Int), ())).snd.bs) ((1 : Int), (30 : Int), value, (2 : Int) ^ n.toNat - (1 : Int), ())).fst.snd = (0 : Int)) = false → True)) ∧ (decide ((doX (Sy.mk (gAt n l x).ms (gAt n l x).bs) ((0 : Int), (30 : Int), (0 : Int), (2 : Int) ^ n.toNat - (1 : Int), ())).fst.snd = (0 : Int)) = false → True)) ∧ k [Dat.mk Ty.bool (decide ((doX (Sy.mk (gAt n l x).ms (gAt n l x).bs) ((0 : Int), (30 : Int), (0 : Int), (2 : Int) ^ n.toNat - (1 : Int), ())).fst.snd = (0 : Int)) && (decide ((doX (Sy.mk (doX (Sy.mk (gAt n l x).ms (gAt n l x).bs) ((0 : Int), (30 : Int), (0 : Int), (2 : Int) ^ n.toNat - (1 : Int), ())).snd.ms (doX (Sy.mk (gAt n l x).ms (gAt n l x).bs) ((0 : Int), (30 : Int), (0 : Int), (2 : Int) ^ n.toNat - (1 : Int), ())).snd.bs) ((1 : Int), (30 : Int), value, (2 : Int) ^ n.toNat - (1 : Int), ())).fst.snd = (0 : Int)) && (decide ((doX (Sy.mk (gAt n l x).ms (gAt n l x).bs) ((0 : Int), (30 : Int), (0 : Int), (2 : Int) ^ n.toNat - (1 : Int), ())).fst.fst = (2 : Int) ^ n.toNat - (1 : Int)) && (decide ((doX (Sy.mk (doX (Sy.mk (gAt n l x).ms (gAt n l x).bs) ((0 : Int), (30 : Int), (0 : Int), (2 : Int) ^ n.toNat - (1 : Int), ())).snd.ms (doX (Sy.mk (gAt n l x).ms (gAt n l x).bs) ((0 : Int), (30 : Int), (0 : Int), (2 : Int) ^ n.toNat - (1 : Int), ())).snd.bs) ((1 : Int), (30 : Int), value, (2 : Int) ^ n.toNat - (1 : Int), ())).fst.fst = (2 : Int) ^ n.toNat - (1 : Int)) && (decide ((↑(chX (Sy.mk (doX (Sy.mk (doX (Sy.mk (gAt n l x).ms (gAt n l x).bs) ((0 : Int), (30 : Int), (0 : Int), (2 : Int) ^ n.toNat - (1 : Int), ())).snd.ms (doX (Sy.mk (gAt n l x).ms (gAt n l x).bs) ((0 : Int), (30 : Int), (0 : Int), (2 : Int) ^ n.toNat - (1 : Int), ())).snd.bs) ((1 : Int), (30 : Int), value, (2 : Int) ^ n.toNat - (1 : Int), ())).snd.ms (doX (Sy.mk (doX (Sy.mk (gAt n l x).ms (gAt n l x).bs) ((0 : Int), (30 : Int), (0 : Int), (2 : Int) ^ n.toNat - (1 : Int), ())).snd.ms (doX (Sy.mk (gAt n l x).ms (gAt n l x).bs) ((0 : Int), (30 : Int), (0 : Int), (2 : Int) ^ n.toNat - (1 : Int), ())).snd.bs) ((1 : Int), (30 : Int), value, (2 : Int) ^ n.toNat - (1 : Int), ())).snd.bs)).length : Int) = (↑(chX (Sy.mk (gAt n l x).ms (gAt n l x).bs)).length : Int) + (1 : Int)) && (decide ((↑(chX (Sy.mk (gAt n l x).ms (gAt n l x).bs)).length : Int) = (0 : Int)) || decide ((chX (Sy.mk (doX (Sy.mk (doX (Sy.mk (gAt n l x).ms (gAt n l x).bs) ((0 : Int), (30 : Int), (0 : Int), (2 : Int) ^ n.toNat - (1 : Int), ())).snd.ms (doX (Sy.mk (gAt n l x).ms (gAt n l x).bs) ((0 : Int), (30 : Int), (0 : Int), (2 : Int) ^ n.toNat - (1 : Int), ())).snd.bs) ((1 : Int), (30 : Int), value, (2 : Int) ^ n.toNat - (1 : Int), ())).snd.ms (doX (Sy.mk (doX (Sy.mk (gAt n l x).ms (gAt n l x).bs) ((0 : Int), (30 : Int), (0 : Int), (2 : Int) ^ n.toNat - (1 : Int), ())).snd.ms (doX (Sy.mk (gAt n l x).ms (gAt n l x).bs) ((0 : Int), (30 : Int), (0 : Int), (2 : Int) ^ n.toNat - (1 : Int), ())).snd.bs) ((1 : Int), (30 : Int), value, (2 : Int) ^ n.toNat - (1 : Int), ())).snd.bs)).getD ((↑(chX (Sy.mk (doX (Sy.mk (doX (Sy.mk (gAt n l x).ms (gAt n l x).bs) ((0 : Int), (30 : Int), (0 : Int), (2 : Int) ^ n.toNat - (1 : Int), ())).snd.ms (doX (Sy.mk (gAt n l x).ms (gAt n l x).bs) ((0 : Int), (30 : Int), (0 : Int), (2 : Int) ^ n.toNat - (1 : Int), ())).snd.bs) ((1 : Int), (30 : Int), value, (2 : Int) ^ n.toNat - (1 : Int), ())).snd.ms (doX (Sy.mk (doX (Sy.mk (gAt n l x).ms (gAt n l x).bs) ((0 : Int), (30 : Int), (0 : Int), (2 : Int) ^ n.toNat - (1 : Int), ())).snd.ms (doX (Sy.mk (gAt n l x).ms (gAt n l x).bs) ((0 : Int), (30 : Int), (0 : Int), (2 : Int) ^ n.toNat - (1 : Int), ())).snd.bs) ((1 : Int), (30 : Int), value, (2 : Int) ^ n.toNat - (1 : Int), ())).snd.bs)).length : Int) - (1 : Int)).toNat (0 : Int) = (chX (Sy.mk (gAt n l x).ms (gAt n l x).bs)).getD (Int.toNat (0 : Int)) (0 : Int))))))))])) ∧ (decide ((↑x : Int) < (↑l.length : Int)) = false → SyInv (Sy.mk (gAt n l x).ms (gAt n l x).bs) ∧ (n ≤ (61 : Int) ∧ True) ∧ inK IntKind.i64 ((2 : Int) ^ n.toNat - (1 : Int)) ∧ SyInv (Sy.mk (gAt n l x).ms (gAt n l x).bs) ∧ SyInv (Sy.mk (doX (Sy.mk (gAt n l x).ms (gAt n l x).bs) ((0 : Int), (30 : Int), (0 : Int), (2 : Int) ^ n.toNat - (1 : Int), ())).snd.ms (doX (Sy.mk (gAt n l x).ms (gAt n l x).bs) ((0 : Int), (30 : Int), (0 : Int), (2 : Int) ^ n.toNat - (1 : Int), ())).snd.bs) ∧ SyInv (Sy.mk (doX (Sy.mk (doX (Sy.mk (gAt n l x).ms (gAt n l x).bs) ((0 : Int), (30 : Int), (0 : Int), (2 : Int) ^ n.toNat - (1 : Int), ())).snd.ms (doX (Sy.mk (gAt n l x).ms (gAt n l x).bs) ((0 : Int), (30 : Int), (0 : Int), (2 : Int) ^ n.toNat - (1 : Int), ())).snd.bs) ((1 : Int), (30 : Int), value, (2 : Int) ^ n.toNat - (1 : Int), ())).snd.ms (doX (Sy.mk (doX (Sy.mk (gAt n l x).ms (gAt n l x).bs) ((0 : Int), (30 : Int), (0 : Int), (2 : Int) ^ n.toNat - (1 : Int), ())).snd.ms (doX (Sy.mk (gAt n l x).ms (gAt n l x).bs) ((0 : Int), (30 : Int), (0 : Int), (2 : Int) ^ n.toNat - (1 : Int), ())).snd.bs) ((1 : Int), (30 : Int), value, (2 : Int) ^ n.toNat - (1 : Int), ())).snd.bs) ∧ ((decide ((doX (Sy.mk (gAt n l x).ms (gAt n l x).bs) ((0 : Int), (30 : Int), (0 : Int), (2 : Int) ^ n.toNat - (1 : Int), ())).fst.snd = (0 : Int)) = true → (decide ((doX (Sy.mk (doX (Sy.mk (gAt n l x).ms (gAt n l x).bs) ((0 : Int), (30 : Int), (0 : Int), (2 : Int) ^ n.toNat - (1 : Int), ())).snd.ms (doX (Sy.mk (gAt n l x).ms (gAt n l x).bs) ((0 : Int), (30 : Int), (0 : Int), (2 : Int) ^ n.toNat - (1 : Int), ())).snd.bs) ((1 : Int), (30 : Int), value, (2 : Int) ^ n.toNat - (1 : Int), ())).fst.snd = (0 : Int)) = true → (decide ((doX (Sy.mk (gAt n l x).ms (gAt n l x).bs) ((0 : Int), (30 : Int), (0 : Int), (2 : Int) ^ n.toNat - (1 : Int), ())).fst.fst = (2 : Int) ^ n.toNat - (1 : Int)) = true → (decide ((doX (Sy.mk (doX (Sy.mk (gAt n l x).ms (gAt n l x).bs) ((0 : Int), (30 : Int), (0 : Int), (2 : Int) ^ n.toNat - (1 : Int), ())).snd.ms (doX (Sy.mk (gAt n l x).ms (gAt n l x).bs) ((0 : Int), (30 : Int), (0 : Int), (2 : Int) ^ n.toNat - (1 : Int), ())).snd.bs) ((1 : Int), (30 : Int), value, (2 : Int) ^ n.toNat - (1 : Int), ())).fst.fst = (2 : Int) ^ n.toNat - (1 : Int)) = true → inK IntKind.i64 ((↑(chX (Sy.mk (gAt n l x).ms (gAt n l x).bs)).length : Int) + (1 : Int)) ∧ (decide ((↑(chX (Sy.mk (doX (Sy.mk (doX (Sy.mk (gAt n l x).ms (gAt n l x).bs) ((0 : Int), (30 : Int), (0 : Int), (2 : Int) ^ n.toNat - (1 : Int), ())).snd.ms (doX (Sy.mk (gAt n l x).ms (gAt n l x).bs) ((0 : Int), (30 : Int), (0 : Int), (2 : Int) ^ n.toNat - (1 : Int), ())).snd.bs) ((1 : Int), (30 : Int), value, (2 : Int) ^ n.toNat - (1 : Int), ())).snd.ms (doX (Sy.mk (doX (Sy.mk (gAt n l x).ms (gAt n l x).bs) ((0 : Int), (30 : Int), (0 : Int), (2 : Int) ^ n.toNat - (1 : Int), ())).snd.ms (doX (Sy.mk (gAt n l x).ms (gAt n l x).bs) ((0 : Int), (30 : Int), (0 : Int), (2 : Int) ^ n.toNat - (1 : Int), ())).snd.bs) ((1 : Int), (30 : Int), value, (2 : Int) ^ n.toNat - (1 : Int), ())).snd.bs)).length : Int) = (↑(chX (Sy.mk (gAt n l x).ms (gAt n l x).bs)).length : Int) + (1 : Int)) = true → (decide ((↑(chX (Sy.mk (gAt n l x).ms (gAt n l x).bs)).length : Int) = (0 : Int)) = true → True) ∧ (decide ((↑(chX (Sy.mk (gAt n l x).ms (gAt n l x).bs)).length : Int) = (0 : Int)) = false → inK IntKind.i64 ((↑(chX (Sy.mk (doX (Sy.mk (doX (Sy.mk (gAt n l x).ms (gAt n l x).bs) ((0 : Int), (30 : Int), (0 : Int), (2 : Int) ^ n.toNat - (1 : Int), ())).snd.ms (doX (Sy.mk (gAt n l x).ms (gAt n l x).bs) ((0 : Int), (30 : Int), (0 : Int), (2 : Int) ^ n.toNat - (1 : Int), ())).snd.bs) ((1 : Int), (30 : Int), value, (2 : Int) ^ n.toNat - (1 : Int), ())).snd.ms (doX (Sy.mk (doX (Sy.mk (gAt n l x).ms (gAt n l x).bs) ((0 : Int), (30 : Int), (0 : Int), (2 : Int) ^ n.toNat - (1 : Int), ())).snd.ms (doX (Sy.mk (gAt n l x).ms (gAt n l x).bs) ((0 : Int), (30 : Int), (0 : Int), (2 : Int) ^ n.toNat - (1 : Int), ())).snd.bs) ((1 : Int), (30 : Int), value, (2 : Int) ^ n.toNat - (1 : Int), ())).snd.bs)).length : Int) - (1 : Int)) ∧ (0 : Int) ≤ (↑(chX (Sy.mk (doX (Sy.mk (doX (Sy.mk (gAt n l x).ms (gAt n l x).bs) ((0 : Int), (30 : Int), (0 : Int), (2 : Int) ^ n.toNat - (1 : Int), ())).snd.ms (doX (Sy.mk (gAt n l x).ms (gAt n l x).bs) ((0 : Int), (30 : Int), (0 : Int), (2 : Int) ^ n.toNat - (1 : Int), ())).snd.bs) ((1 : Int), (30 : Int), value, (2 : Int) ^ n.toNat - (1 : Int), ())).snd.ms (doX (Sy.mk (doX (Sy.mk (gAt n l x).ms (gAt n l x).bs) ((0 : Int), (30 : Int), (0 : Int), (2 : Int) ^ n.toNat - (1 : Int), ())).snd.ms (doX (Sy.mk (gAt n l x).ms (gAt n l x).bs) ((0 : Int), (30 : Int), (0 : Int), (2 : Int) ^ n.toNat - (1 : Int), ())).snd.bs) ((1 : Int), (30 : Int), value, (2 : Int) ^ n.toNat - (1 : Int), ())).snd.bs)).length : Int) - (1 : Int) ∧ (↑(chX (Sy.mk (doX (Sy.mk (doX (Sy.mk (gAt n l x).ms (gAt n l x).bs) ((0 : Int), (30 : Int), (0 : Int), (2 : Int) ^ n.toNat - (1 : Int), ())).snd.ms (doX (Sy.mk (gAt n l x).ms (gAt n l x).bs) ((0 : Int), (30 : Int), (0 : Int), (2 : Int) ^ n.toNat - (1 : Int), ())).snd.bs) ((1 : Int), (30 : Int), value, (2 : Int) ^ n.toNat - (1 : Int), ())).snd.ms (doX (Sy.mk (doX (Sy.mk (gAt n l x).ms (gAt n l x).bs) ((0 : Int), (30 : Int), (0 : Int), (2 : Int) ^ n.toNat - (1 : Int), ())).snd.ms (doX (Sy.mk (gAt n l x).ms (gAt n l x).bs) ((0 : Int), (30 : Int), (0 : Int), (2 : Int) ^ n.toNat - (1 : Int), ())).snd.bs) ((1 : Int), (30 : Int), value, (2 : Int) ^ n.toNat - (1 : Int), ())).snd.bs)).length : Int) - (1 : Int) < (↑(chX (Sy.mk (doX (Sy.mk (doX (Sy.mk (gAt n l x).ms (gAt n l x).bs) ((0 : Int), (30 : Int), (0 : Int), (2 : Int) ^ n.toNat - (1 : Int), ())).snd.ms (doX (Sy.mk (gAt n l x).ms (gAt n l x).bs) ((0 : Int), (30 : Int), (0 : Int), (2 : Int) ^ n.toNat - (1 : Int), ())).snd.bs) ((1 : Int), (30 : Int), value, (2 : Int) ^ n.toNat - (1 : Int), ())).snd.ms (doX (Sy.mk (doX (Sy.mk (gAt n l x).ms (gAt n l x).bs) ((0 : Int), (30 : Int), (0 : Int), (2 : Int) ^ n.toNat - (1 : Int), ())).snd.ms (doX (Sy.mk (gAt n l x).ms (gAt n l x).bs) ((0 : Int), (30 : Int), (0 : Int), (2 : Int) ^ n.toNat - (1 : Int), ())).snd.bs) ((1 : Int), (30 : Int), value, (2 : Int) ^ n.toNat - (1 : Int), ())).snd.bs)).length : Int) ∧ (0 : Int) ≤ (0 : Int) ∧ (0 : Int) < (↑(chX (Sy.mk (gAt n l x).ms (gAt n l x).bs)).length : Int) ∧ True)) ∧ (decide ((↑(chX (Sy.mk (doX (Sy.mk (doX (Sy.mk (gAt n l x).ms (gAt n l x).bs) ((0 : Int), (30 : Int), (0 : Int), (2 : Int) ^ n.toNat - (1 : Int), ())).snd.ms (doX (Sy.mk (gAt n l x).ms (gAt n l x).bs) ((0 : Int), (30 : Int), (0 : Int), (2 : Int) ^ n.toNat - (1 : Int), ())).snd.bs) ((1 : Int), (30 : Int), value, (2 : Int) ^ n.toNat - (1 : Int), ())).snd.ms (doX (Sy.mk (doX (Sy.mk (gAt n l x).ms (gAt n l x).bs) ((0 : Int), (30 : Int), (0 : Int), (2 : Int) ^ n.toNat - (1 : Int), ())).snd.ms (doX (Sy.mk (gAt n l x).ms (gAt n l x).bs) ((0 : Int), (30 : Int), (0 : Int), (2 : Int) ^ n.toNat - (1 : Int), ())).snd.bs) ((1 : Int), (30 : Int), value, (2 : Int) ^ n.toNat - (1 : Int), ())).snd.bs)).length : Int) = (↑(chX (Sy.mk (gAt n l x).ms (gAt n l x).bs)).length : Int) + (1 : Int)) = false → True)) ∧ (decide ((doX (Sy.mk (doX (Sy.mk (gAt n l x).ms (gAt n l x).bs) ((0 : Int), (30 : Int), (0 : Int), (2 : Int) ^ n.toNat - (1 : Int), ())).snd.ms (doX (Sy.mk (gAt n l x).ms (gAt n l x).bs) ((0 : Int), (30 : Int), (0 : Int), (2 : Int) ^ n.toNat - (1 : Int), ())).snd.bs) ((1 : Int), (30 : Int), value, (2 : Int) ^ n.toNat - (1 : Int), ())).fst.fst = (2 : Int) ^ n.toNat - (1 : Int)) = false → True)) ∧ (decide ((doX (Sy.mk (gAt n l x).ms (gAt n l x).bs) ((0 : Int), (30 : Int), (0 : Int), (2 : Int) ^ n.toNat - (1 : Int), ())).fst.fst = (2 : Int) ^ n.toNat - (1 : Int)) = false → True)) ∧ (decide ((doX (Sy.mk (doX (Sy.mk (gAt n l x).ms (gAt n l x).bs) ((0 : Int), (30 : Int), (0 : Int), (2 : Int) ^ n.toNat - (1 : Int), ())).snd.ms (doX (Sy.mk (gAt n l x).ms (gAt n l x).bs) ((0 : Int), (30 : Int), (0 : Int), (2 : Int) ^ n.toNat - (1 : Int), ())).snd.bs) ((1 : Int), (30 : Int), value, (2 : Int) ^ n.toNat - (1 : Int), ())).fst.snd = (0 : Int)) = false → True)) ∧ (decide ((doX (Sy.mk (gAt n l x).ms (gAt n l x).bs) ((0 : Int), (30 : Int), (0 : Int), (2 : Int) ^ n.toNat - (1 : Int), ())).fst.snd = (0 : Int)) = false → True)) ∧ k [Dat.mk Ty.bool (decide ((doX (Sy.mk (gAt n l x).ms (gAt n l x).bs) ((0 : Int), (30 : Int), (0 : Int), (2 : Int) ^ n.toNat - (1 : Int), ())).fst.snd = (0 : Int)) && (decide ((doX (Sy.mk (doX (Sy.mk (gAt n l x).ms (gAt n l x).bs) ((0 : Int), (30 : Int), (0 : Int), (2 : Int) ^ n.toNat - (1 : Int), ())).snd.ms (doX (Sy.mk (gAt n l x).ms (gAt n l x).bs) ((0 : Int), (30 : Int), (0 : Int), (2 : Int) ^ n.toNat - (1 : Int), ())).snd.bs) ((1 : Int), (30 : Int), value, (2 : Int) ^ n.toNat - (1 : Int), ())).fst.snd = (0 : Int)) && (decide ((doX (Sy.mk (gAt n l x).ms (gAt n l x).bs) ((0 : Int), (30 : Int), (0 : Int), (2 : Int) ^ n.toNat - (1 : Int), ())).fst.fst = (2 : Int) ^ n.toNat - (1 : Int)) && (decide ((doX (Sy.mk (doX (Sy.mk (gAt n l x).ms (gAt n l x).bs) ((0 : Int), (30 : Int), (0 : Int), (2 : Int) ^ n.toNat - (1 : Int), ())).snd.ms (doX (Sy.mk (gAt n l x).ms (gAt n l x).bs) ((0 : Int), (30 : Int), (0 : Int), (2 : Int) ^ n.toNat - (1 : Int), ())).snd.bs) ((1 : Int), (30 : Int), value, (2 : Int) ^ n.toNat - (1 : Int), ())).fst.fst = (2 : Int) ^ n.toNat - (1 : Int)) && (decide ((↑(chX (Sy.mk (doX (Sy.mk (doX (Sy.mk (gAt n l x).ms (gAt n l x).bs) ((0 : Int), (30 : Int), (0 : Int), (2 : Int) ^ n.toNat - (1 : Int), ())).snd.ms (doX (Sy.mk (gAt n l x).ms (gAt n l x).bs) ((0 : Int), (30 : Int), (0 : Int), (2 : Int) ^ n.toNat - (1 : Int), ())).snd.bs) ((1 : Int), (30 : Int), value, (2 : Int) ^ n.toNat - (1 : Int), ())).snd.ms (doX (Sy.mk (doX (Sy.mk (gAt n l x).ms (gAt n l x).bs) ((0 : Int), (30 : Int), (0 : Int), (2 : Int) ^ n.toNat - (1 : Int), ())).snd.ms (doX (Sy.mk (gAt n l x).ms (gAt n l x).bs) ((0 : Int), (30 : Int), (0 : Int), (2 : Int) ^ n.toNat - (1 : Int), ())).snd.bs) ((1 : Int), (30 : Int), value, (2 : Int) ^ n.toNat - (1 : Int), ())).snd.bs)).length : Int) = (↑(chX (Sy.mk (gAt n l x).ms (gAt n l x).bs)).length : Int) + (1 : Int)) && (decide ((↑(chX (Sy.mk (gAt n l x).ms (gAt n l x).bs)).length : Int) = (0 : Int)) || decide ((chX (Sy.mk (doX (Sy.mk (doX (Sy.mk (gAt n l x).ms (gAt n l x).bs) ((0 : Int), (30 : Int), (0 : Int), (2 : Int) ^ n.toNat - (1 : Int), ())).snd.ms (doX (Sy.mk (gAt n l x).ms (gAt n l x).bs) ((0 : Int), (30 : Int), (0 : Int), (2 : Int) ^ n.toNat - (1 : Int), ())).snd.bs) ((1 : Int), (30 : Int), value, (2 : Int) ^ n.toNat - (1 : Int), ())).snd.ms (doX (Sy.mk (doX (Sy.mk (gAt n l x).ms (gAt n l x).bs) ((0 : Int), (30 : Int), (0 : Int), (2 : Int) ^ n.toNat - (1 : Int), ())).snd.ms (doX (Sy.mk (gAt n l x).ms (gAt n l x).bs) ((0 : Int), (30 : Int), (0 : Int), (2 : Int) ^ n.toNat - (1 : Int), ())).snd.bs) ((1 : Int), (30 : Int), value, (2 : Int) ^ n.toNat - (1 : Int), ())).snd.bs)).getD ((↑(chX (Sy.mk (doX (Sy.mk (doX (Sy.mk (gAt n l x).ms (gAt n l x).bs) ((0 : Int), (30 : Int), (0 : Int), (2 : Int) ^ n.toNat - (1 : Int), ())).snd.ms (doX (Sy.mk (gAt n l x).ms (gAt n l x).bs) ((0 : Int), (30 : Int), (0 : Int), (2 : Int) ^ n.toNat - (1 : Int), ())).snd.bs) ((1 : Int), (30 : Int), value, (2 : Int) ^ n.toNat - (1 : Int), ())).snd.ms (doX (Sy.mk (doX (Sy.mk (gAt n l x).ms (gAt n l x).bs) ((0 : Int), (30 : Int), (0 : Int), (2 : Int) ^ n.toNat - (1 : Int), ())).snd.ms (doX (Sy.mk (gAt n l x).ms (gAt n l x).bs) ((0 : Int), (30 : Int), (0 : Int), (2 : Int) ^ n.toNat - (1 : Int), ())).snd.bs) ((1 : Int), (30 : Int), value, (2 : Int) ^ n.toNat - (1 : Int), ())).snd.bs)).length : Int) - (1 : Int)).toNat (0 : Int) = (chX (Sy.mk (gAt n l x).ms (gAt n l x).bs)).getD (Int.toNat (0 : Int)) (0 : Int))))))))]))))) ∧ (inB n (1 : Int) (8 : Int) = false → ((!decide ((1 : Int) = (0 : Int))) = true → k [Dat.mk Ty.bool true]) ∧ ((!decide ((1 : Int) = (0 : Int))) = false → (decide (value < (0 : Int)) = true → k [Dat.mk Ty.bool true]) ∧ (decide (value < (0 : Int)) = false → (decide ((1000000 : Int) < value) = true → k [Dat.mk Ty.bool true]) ∧ (decide ((1000000 : Int) < value) = false → (∃ (x : Nat), (x ≤ l.length ∧ True) ∧ (n = n ∧ l = l ∧ value = value ∧ True ∧ (0 : Int) = (↑x : Int) ∧ True) ∧ (False ∧ False ∧ True) ∧ tabD = tabD ∧ True) ∧ ∀ (x : Nat), x ≤ l.length ∧ True → (decide ((↑x : Int) < (↑l.length : Int)) = true → (decide ((↑x : Int) < (60 : Int)) = true → (0 : Int) ≤ (↑x : Int) ∧ (↑x : Int) < (↑l.length : Int) ∧ (decide ((l.getD (↑x : Int).toNat ((0 : Int), (0 : Int), (0 : Int), (0 : Int), ())).snd.fst < (30 : Int)) = true → (0 : Int) ≤ (↑x : Int) ∧ (↑x : Int) < (↑l.length : Int) ∧ False) ∧ (decide ((l.getD (↑x : Int).toNat ((0 : Int), (0 : Int), (0 : Int), (0 : Int), ())).snd.fst < (30 : Int)) = false → inK IntKind.i64 ((↑x : Int) + (1 : Int)) ∧ ∃ (x_1 : Nat), (x_1 ≤ l.length ∧ True) ∧ l.length - x_1 < l.length - x ∧ (n = n ∧ l = l ∧ value = value ∧ True ∧ (↑x : Int) + (1 : Int) = (↑x_1 : Int) ∧ True) ∧ ((True ∧ (gAt n l x).bs = (gAt n l x_1).bs ∧ True) ∧ ((58 : Nat) = (58 : Nat) ∧ (gAt n l x).ms = (gAt n l x_1).ms) ∧ True) ∧ tabD = tabD ∧ True)) ∧ (decide ((↑x : Int) < (60 : Int)) = false → False)) ∧ (decide ((↑x : Int) < (↑l.length : Int)) = false → False))))))) := by kernel_rfl
theorem vcAsked (n : Int) (l : List As) (k : List Dat → Prop) : vcF ⟨El, [(8, cFact), (13, cMember)], glT, [], [(9, oNew), (10, oDoX)]⟩ (anAsked n l) (Tryd.f5.body.getD .skip) Tryd.f5.ntmps [(.tmp 4, .bool)] [⟨I, n⟩, ⟨.sl tAs, l⟩] k = (
  True ∧ ((!true) = true → k [Dat.mk Ty.bool false]) ∧ ((!true) = false → (inB n (1 : Int) (8 : Int) = true → ((!decide ((0 : Int) = (0 : Int))) = true → (decide (n < (1 : Int)) = true → k [Dat.mk Ty.bool true]) ∧ (decide (n < (1 : Int)) = false → k [Dat.mk Ty.bool (decide ((8 : Int) < n))])) ∧ ((!decide ((0 : Int) = (0 : Int))) = false → (0 : Int) ≤ n ∧ n ≤ n ∧ n ≤ (1000000000 : Int) ∧ (∃ (x : Nat), (x ≤ n.toNat ∧ True) ∧ (n = n ∧ l = l ∧ True ∧ True ∧ (0 : Int) = (↑x : Int) ∧ True) ∧ ((True ∧ List.replicate (31 : Nat) nB = List.replicate (31 : Nat) nB ∧ True) ∧ ((58 : Nat) = (58 : Nat) ∧ List.replicate n.toNat nM = List.replicate n.toNat nM) ∧ ((3 : Nat) = (3 : Nat) ∧ List.replicate n.toNat (0 : Int) = was0 n x) ∧ True) ∧ tabD = tabD ∧ True) ∧ ∀ (x : Nat), x ≤ n.toNat ∧ True → (decide ((↑x : Int) < n) = true → (0 : Int) ≤ (↑x : Int) ∧ (↑x : Int) < (↑(was0 n x).length : Int) ∧ inK IntKind.i64 ((↑x : Int) + (1 : Int)) ∧ ∃ (x_1 : Nat), (x_1 ≤ n.toNat ∧ True) ∧ n.toNat - x_1 < n.toNat - x ∧ (n = n ∧ l = l ∧ True ∧ True ∧ (↑x : Int) + (1 : Int) = (↑x_1 : Int) ∧ True) ∧ ((True ∧ List.replicate (31 : Nat) nB = List.replicate (31 : Nat) nB ∧ True) ∧ ((58 : Nat) = (58 : Nat) ∧ List.replicate n.toNat nM = List.replicate n.toNat nM) ∧ ((3 : Nat) = (3 : Nat) ∧ (was0 n x).set (↑x : Int).toNat (-1 : Int) = was0 n x_1) ∧ True) ∧ tabD = tabD ∧ True) ∧ (decide ((↑x : Int) < n) = false → (∃ (x_1 : Nat), (x_1 ≤ l.length ∧ True) ∧ (n = n ∧ l = l ∧ True ∧ True ∧ (0 : Int) = (↑x_1 : Int) ∧ True) ∧ ((True ∧ List.replicate (31 : Nat) nB = (sAt n l x_1).bs ∧ True) ∧ ((58 : Nat) = (58 : Nat) ∧ List.replicate n.toNat nM = (sAt n l x_1).ms) ∧ ((3 : Nat) = (3 : Nat) ∧ was0 n x = List.map (fun (x : Me) => x.fst) (sAt n l x_1).ms) ∧ True) ∧ tabD = tabD ∧ True) ∧ ∀ (x : Nat), x ≤ l.length ∧ True → (decide ((↑x : Int) < (↑l.length : Int)) = true → (decide ((↑x : Int) < (60 : Int)) = true → (0 : Int) ≤ (↑x : Int) ∧ (↑x : Int) < (↑l.length : Int) ∧ SyInv (Sy.mk (sAt n l x).ms (sAt n l x).bs) ∧ (∃ (x_1 : Nat), (x_1 ≤ n.toNat ∧ True) ∧ (n = n ∧ l = l ∧ True ∧ True ∧ (↑x : Int) = (↑x : Int) ∧ (0 : Int) = (↑x_1 : Int) ∧ True) ∧ ((True ∧ (doX (Sy.mk (sAt n l x).ms (sAt n l x).bs) (l.getD (↑x : Int).toNat ((0 : Int), (0 : Int), (0 : Int), (0 : Int), ()))).snd.bs = (sAt n l ((↑x : Int).toNat + (1 : Nat))).bs ∧ True) ∧ ((58 : Nat) = (58 : Nat) ∧ (doX (Sy.mk (sAt n l x).ms (sAt n l x).bs) (l.getD (↑x : Int).toNat ((0 : Int), (0 : Int), (0 : Int), (0 : Int), ()))).snd.ms = (sAt n l ((↑x : Int).toNat + (1 : Nat))).ms) ∧ ((3 : Nat) = (3 : Nat) ∧ List.map (fun (x : Me) => x.fst) (sAt n l x).ms = wasM (sAt n l (↑x : Int).toNat) (sAt n l ((↑x : Int).toNat + (1 : Nat))) x_1) ∧ True) ∧ tabD = tabD ∧ True) ∧ ∀ (x_1 : Nat), x_1 ≤ n.toNat ∧ True → (decide ((↑x_1 : Int) < n) = true → (∃ (s : tMe.sl.D × ((Ty.ar (31 : Nat) tBa).pr Ty.un).D), some ((sAt n l ((↑x : Int).toNat + (1 : Nat))).ms, (sAt n l ((↑x : Int).toNat + (1 : Nat))).bs, ()) = some s ∧ List.length s.fst ≤ (8 : Nat)) ∧ (0 : Int) ≤ (↑x_1 : Int) ∧ (↑x_1 : Int) < (↑(wasM (sAt n l (↑x : Int).toNat) (sAt n l ((↑x : Int).toNat + (1 : Nat))) x_1).length : Int) ∧ (decide ((memF (sAt n l ((↑x : Int).toNat + (1 : Nat))).ms (↑x_1 : Int)).fst < (wasM (sAt n l (↑x : Int).toNat) (sAt n l ((↑x : Int).toNat + (1 : Nat))) x_1).getD (↑x_1 : Int).toNat (0 : Int)) = true → k [Dat.mk Ty.bool false]) ∧ (decide ((memF (sAt n l ((↑x : Int).toNat + (1 : Nat))).ms (↑x_1 : Int)).fst < (wasM (sAt n l (↑x : Int).toNat) (sAt n l ((↑x : Int).toNat + (1 : Nat))) x_1).getD (↑x_1 : Int).toNat (0 : Int)) = false → (decide ((memF (sAt n l ((↑x : Int).toNat + (1 : Nat))).ms (↑x_1 : Int)).fst < (memF (sAt n l ((↑x : Int).toNat + (1 : Nat))).ms (↑x_1 : Int)).snd.fst) = true → k [Dat.mk Ty.bool false]) ∧ (decide ((memF (sAt n l ((↑x : Int).toNat + (1 : Nat))).ms (↑x_1 : Int)).fst < (memF (sAt n l ((↑x : Int).toNat + (1 : Nat))).ms (↑x_1 : Int)).snd.fst) = false → (0 : Int) ≤ (↑x_1 : Int) ∧ (↑x_1 : Int) < (↑(wasM (sAt n l (↑x : Int).toNat) (sAt n l ((↑x : Int).toNat + (1 : Nat))) x_1).length : Int) ∧ (∃ (x_2 : Nat), (x_2 ≤ (↑x : Int).toNat + (1 : Nat) ∧ True) ∧ (n = n ∧ l = l ∧ True ∧ True ∧ (↑x : Int) = (↑x : Int) ∧ (↑x_1 : Int) = (↑x_1 : Int) ∧ (memF (sAt n l ((↑x : Int).toNat + (1 : Nat))).ms (↑x_1 : Int)).fst = (memF (sAt n l ((↑x : Int).toNat + (1 : Nat))).ms (↑x_1 : Int)).fst ∧ (memF (sAt n l ((↑x : Int).toNat + (1 : Nat))).ms (↑x_1 : Int)).snd.fst = (memF (sAt n l ((↑x : Int).toNat + (1 : Nat))).ms (↑x_1 : Int)).snd.fst ∧ (memF (sAt n l ((↑x : Int).toNat + (1 : Nat))).ms (↑x_1 : Int)).snd.snd = (memF (sAt n l ((↑x : Int).toNat + (1 : Nat))).ms (↑x_1 : Int)).snd.snd ∧ decide ((memF (sAt n l ((↑x : Int).toNat + (1 : Nat))).ms (↑x_1 : Int)).snd.fst = (-1 : Int)) = askB l (memF (sAt n l ((↑x : Int).toNat + (1 : Nat))).ms (↑x_1 : Int)).snd.fst (memF (sAt n l ((↑x : Int).toNat + (1 : Nat))).ms (↑x_1 : Int)).snd.snd x_2 ∧ (0 : Int) = (↑x_2 : Int) ∧ True) ∧ ((True ∧ (sAt n l ((↑x : Int).toNat + (1 : Nat))).bs = (sAt n l ((↑x : Int).toNat + (1 : Nat))).bs ∧ True) ∧ ((58 : Nat) = (58 : Nat) ∧ (sAt n l ((↑x : Int).toNat + (1 : Nat))).ms = (sAt n l ((↑x : Int).toNat + (1 : Nat))).ms) ∧ ((3 : Nat) = (3 : Nat) ∧ (wasM (sAt n l (↑x : Int).toNat) (sAt n l ((↑x : Int).toNat + (1 : Nat))) x_1).set (↑x_1 : Int).toNat (memF (sAt n l ((↑x : Int).toNat + (1 : Nat))).ms (↑x_1 : Int)).fst = (wasM (sAt n l (↑x : Int).toNat) (sAt n l ((↑x : Int).toNat + (1 : Nat))) x_1).set (↑x_1 : Int).toNat (memF (sAt n l ((↑x : Int).toNat + (1 : Nat))).ms (↑x_1 : Int)).fst) ∧ True) ∧ tabD = tabD ∧ True) ∧ ∀ (x_2 : Nat), x_2 ≤ (↑x : Int).toNat + (1 : Nat) ∧ True → (decide ((↑x_2 : Int) ≤ (↑x : Int)) = true → (askB l (memF (sAt n l ((↑x : Int).toNat + (1 : Nat))).ms (↑x_1 : Int)).snd.fst (memF (sAt n l ((↑x : Int).toNat + (1 : Nat))).ms (↑x_1 : Int)).snd.snd x_2 = true → inK IntKind.i64 ((↑x_2 : Int) + (1 : Int)) ∧ ∃ (x_3 : Nat), (x_3 ≤ (↑x : Int).toNat + (1 : Nat) ∧ True) ∧ l.length + (1 : Nat) - x_3 < l.length + (1 : Nat) - x_2 ∧ (n = n ∧ l = l ∧ True ∧ True ∧ (↑x : Int) = (↑x : Int) ∧ (↑x_1 : Int) = (↑x_1 : Int) ∧ (memF (sAt n l ((↑x : Int).toNat + (1 : Nat))).ms (↑x_1 : Int)).fst = (memF (sAt n l ((↑x : Int).toNat + (1 : Nat))).ms (↑x_1 : Int)).fst ∧ (memF (sAt n l ((↑x : Int).toNat + (1 : Nat))).ms (↑x_1 : Int)).snd.fst = (memF (sAt n l ((↑x : Int).toNat + (1 : Nat))).ms (↑x_1 : Int)).snd.fst ∧ (memF (sAt n l ((↑x : Int).toNat + (1 : Nat))).ms (↑x_1 : Int)).snd.snd = (memF (sAt n l ((↑x : Int).toNat + (1 : Nat))).ms (↑x_1 : Int)).snd.snd ∧ true = askB l (memF (sAt n l ((↑x : Int).toNat + (1 : Nat))).ms (↑x_1 : Int)).snd.fst (memF (sAt n l ((↑x : Int).toNat + (1 : Nat))).ms (↑x_1 : Int)).snd.snd x_3 ∧ (↑x_2 : Int) + (1 : Int) = (↑x_3 : Int) ∧ True) ∧ ((True ∧ (sAt n l ((↑x : Int).toNat + (1 : Nat))).bs = (sAt n l ((↑x : Int).toNat + (1 : Nat))).bs ∧ True) ∧ ((58 : Nat) = (58 : Nat) ∧ (sAt n l ((↑x : Int).toNat + (1 : Nat))).ms = (sAt n l ((↑x : Int).toNat + (1 : Nat))).ms) ∧ ((3 : Nat) = (3 : Nat) ∧ (wasM (sAt n l (↑x : Int).toNat) (sAt n l ((↑x : Int).toNat + (1 : Nat))) x_1).set (↑x_1 : Int).toNat (memF (sAt n l ((↑x : Int).toNat + (1 : Nat))).ms (↑x_1 : Int)).fst = (wasM (sAt n l (↑x : Int).toNat) (sAt n l ((↑x : Int).toNat + (1 : Nat))) x_1).set (↑x_1 : Int).toNat (memF (sAt n l ((↑x : Int).toNat + (1 : Nat))).ms (↑x_1 : Int)).fst) ∧ True) ∧ tabD = tabD ∧ True) ∧ (askB l (memF (sAt n l ((↑x : Int).toNat + (1 : Nat))).ms (↑x_1 : Int)).snd.fst (memF (sAt n l ((↑x : Int).toNat + (1 : Nat))).ms (↑x_1 : Int)).snd.snd x_2 = false → (0 : Int) ≤ (↑x_2 : Int) ∧ (↑x_2 : Int) < (↑l.length : Int) ∧ (decide ((l.getD (↑x_2 : Int).toNat ((0 : Int), (0 : Int), (0 : Int), (0 : Int), ())).fst = (1 : Int)) = true → (0 : Int) ≤ (↑x_2 : Int) ∧ (↑x_2 : Int) < (↑l.length : Int) ∧ inK IntKind.i64 ((↑x_2 : Int) + (1 : Int)) ∧ ∃ (x_3 : Nat), (x_3 ≤ (↑x : Int).toNat + (1 : Nat) ∧ True) ∧ l.length + (1 : Nat) - x_3 < l.length + (1 : Nat) - x_2 ∧ (n = n ∧ l = l ∧ True ∧ True ∧ (↑x : Int) = (↑x : Int) ∧ (↑x_1 : Int) = (↑x_1 : Int) ∧ (memF (sAt n l ((↑x : Int).toNat + (1 : Nat))).ms (↑x_1 : Int)).fst = (memF (sAt n l ((↑x : Int).toNat + (1 : Nat))).ms (↑x_1 : Int)).fst ∧ (memF (sAt n l ((↑x : Int).toNat + (1 : Nat))).ms (↑x_1 : Int)).snd.fst = (memF (sAt n l ((↑x : Int).toNat + (1 : Nat))).ms (↑x_1 : Int)).snd.fst ∧ (memF (sAt n l ((↑x : Int).toNat + (1 : Nat))).ms (↑x_1 : Int)).snd.snd = (memF (sAt n l ((↑x : Int).toNat + (1 : Nat))).ms (↑x_1 : Int)).snd.snd ∧ decide ((l.getD (↑x_2 : Int).toNat ((0 : Int), (0 : Int), (0 : Int), (0 : Int), ())).snd.snd.fst = (memF (sAt n l ((↑x : Int).toNat + (1 : Nat))).ms (↑x_1 : Int)).snd.snd) = askB l (memF (sAt n l ((↑x : Int).toNat + (1 : Nat))).ms (↑x_1 : Int)).snd.fst (memF (sAt n l ((↑x : Int).toNat + (1 : Nat))).ms (↑x_1 : Int)).snd.snd x_3 ∧ (↑x_2 : Int) + (1 : Int) = (↑x_3 : Int) ∧ True) ∧ ((True ∧ (sAt n l ((↑x : Int).toNat + (1 : Nat))).bs = (sAt n l ((↑x : Int).toNat + (1 : Nat))).bs ∧ True) ∧ ((58 : Nat) = (58 : Nat) ∧ (sAt n l ((↑x : Int).toNat + (1 : Nat))).ms = (sAt n l ((↑x : Int).toNat + (1 : Nat))).ms) ∧ ((3 : Nat) = (3 : Nat) ∧ (wasM (sAt n l (↑x : Int).toNat) (sAt n l ((↑x : Int).toNat + (1 : Nat))) x_1).set (↑x_1 : Int).toNat (memF (sAt n l ((↑x : Int).toNat + (1 : Nat))).ms (↑x_1 : Int)).fst = (wasM (sAt n l (↑x : Int).toNat) (sAt n l ((↑x : Int).toNat + (1 : Nat))) x_1).set (↑x_1 : Int).toNat (memF (sAt n l ((↑x : Int).toNat + (1 : Nat))).ms (↑x_1 : Int)).fst) ∧ True) ∧ tabD = tabD ∧ True) ∧ (decide ((l.getD (↑x_2 : Int).toNat ((0 : Int), (0 : Int), (0 : Int), (0 : Int), ())).fst = (1 : Int)) = false → inK IntKind.i64 ((↑x_2 : Int) + (1 : Int)) ∧ ∃ (x_3 : Nat), (x_3 ≤ (↑x : Int).toNat + (1 : Nat) ∧ True) ∧ l.length + (1 : Nat) - x_3 < l.length + (1 : Nat) - x_2 ∧ (n = n ∧ l = l ∧ True ∧ True ∧ (↑x : Int) = (↑x : Int) ∧ (↑x_1 : Int) = (↑x_1 : Int) ∧ (memF (sAt n l ((↑x : Int).toNat + (1 : Nat))).ms (↑x_1 : Int)).fst = (memF (sAt n l ((↑x : Int).toNat + (1 : Nat))).ms (↑x_1 : Int)).fst ∧ (memF (sAt n l ((↑x : Int).toNat + (1 : Nat))).ms (↑x_1 : Int)).snd.fst = (memF (sAt n l ((↑x : Int).toNat + (1 : Nat))).ms (↑x_1 : Int)).snd.fst ∧ (memF (sAt n l ((↑x : Int).toNat + (1 : Nat))).ms (↑x_1 : Int)).snd.snd = (memF (sAt n l ((↑x : Int).toNat + (1 : Nat))).ms (↑x_1 : Int)).snd.snd ∧ false = askB l (memF (sAt n l ((↑x : Int).toNat + (1 : Nat))).ms (↑x_1 : Int)).snd.fst (memF (sAt n l ((↑x : Int).toNat + (1 : Nat))).ms (↑x_1 : Int)).snd.snd x_3 ∧ (↑x_2 : Int) + (1 : Int) = (↑x_3 : Int) ∧ True) ∧ ((True ∧ (sAt n l ((↑x : Int).toNat + (1 : Nat))).bs = (sAt n l ((↑x : Int).toNat + (1 : Nat))).bs ∧ True) ∧ ((58 : Nat) = (58 : Nat) ∧ (sAt n l ((↑x : Int).toNat + (1 : Nat))).ms = (sAt n l ((↑x : Int).toNat + (1 : Nat))).ms) ∧ ((3 : Nat) = (3 : Nat) ∧ (wasM (sAt n l (↑x : Int).toNat) (sAt n l ((↑x : Int).toNat + (1 : Nat))) x_1).set (↑x_1 : Int).toNat (memF (sAt n l ((↑x : Int).toNat + (1 : Nat))).ms (↑x_1 : Int)).fst = (wasM (sAt n l (↑x : Int).toNat) (sAt n l ((↑x : Int).toNat + (1 : Nat))) x_1).set (↑x_1 : Int).toNat (memF (sAt n l ((↑x : Int).toNat + (1 : Nat))).ms (↑x_1 : Int)).fst) ∧ True) ∧ tabD = tabD ∧ True))) ∧ (decide ((↑x_2 : Int) ≤ (↑x : Int)) = false → ((!askB l (memF (sAt n l ((↑x : Int).toNat + (1 : Nat))).ms (↑x_1 : Int)).snd.fst (memF (sAt n l ((↑x : Int).toNat + (1 : Nat))).ms (↑x_1 : Int)).snd.snd x_2) = true → k [Dat.mk Ty.bool false]) ∧ ((!askB l (memF (sAt n l ((↑x : Int).toNat + (1 : Nat))).ms (↑x_1 : Int)).snd.fst (memF (sAt n l ((↑x : Int).toNat + (1 : Nat))).ms (↑x_1 : Int)).snd.snd x_2) = false → inK IntKind.i64 ((↑x_1 : Int) + (1 : Int)) ∧ ∃ (x_3 : Nat), (x_3 ≤ n.toNat ∧ True) ∧ n.toNat - x_3 < n.toNat - x_1 ∧ (n = n ∧ l = l ∧ True ∧ True ∧ (↑x : Int) = (↑x : Int) ∧ (↑x_1 : Int) + (1 : Int) = (↑x_3 : Int) ∧ True) ∧ ((True ∧ (sAt n l ((↑x : Int).toNat + (1 : Nat))).bs = (sAt n l ((↑x : Int).toNat + (1 : Nat))).bs ∧ True) ∧ ((58 : Nat) = (58 : Nat) ∧ (sAt n l ((↑x : Int).toNat + (1 : Nat))).ms = (sAt n l ((↑x : Int).toNat + (1 : Nat))).ms) ∧ ((3 : Nat) = (3 : Nat) ∧ (wasM (sAt n l (↑x : Int).toNat) (sAt n l ((↑x : Int).toNat + (1 : Nat))) x_1).set (↑x_1 : Int).toNat (memF (sAt n l ((↑x : Int).toNat + (1 : Nat))).ms (↑x_1 : Int)).fst = wasM (sAt n l (↑x : Int).toNat) (sAt n l ((↑x : Int).toNat + (1 : Nat))) x_3) ∧ True) ∧ tabD = tabD ∧ True))))) ∧ (decide ((↑x_1 : Int) < n) = false → inK IntKind.i64 ((↑x : Int) + (1 : Int)) ∧ ∃ (x_2 : Nat), (x_2 ≤ l.length ∧ True) ∧ l.length - x_2 < l.length - x ∧ (n = n ∧ l = l ∧ True ∧ True ∧ (↑x : Int) + (1 : Int) = (↑x_2 : Int) ∧ True) ∧ ((True ∧ (sAt n l ((↑x : Int).toNat + (1 : Nat))).bs = (sAt n l x_2).bs ∧ True) ∧ ((58 : Nat) = (58 : Nat) ∧ (sAt n l ((↑x : Int).toNat + (1 : Nat))).ms = (sAt n l x_2).ms) ∧ ((3 : Nat) = (3 : Nat) ∧ wasM (sAt n l (↑x : Int).toNat) (sAt n l ((↑x : Int).toNat + (1 : Nat))) x_1 = List.map (fun (x : Me) => x.fst) (sAt n l x_2).ms) ∧ True) ∧ tabD = tabD ∧ True)) ∧ (decide ((↑x : Int) < (60 : Int)) = false → k [Dat.mk Ty.bool true])) ∧ (decide ((↑x : Int) < (↑l.length : Int)) = false → k [Dat.mk Ty.bool true])))) ∧ (inB n (1 : Int) (8 : Int) = false → ((!decide ((1 : Int) = (0 : Int))) = true → (decide (n < (1 : Int)) = true → k [Dat.mk Ty.bool true]) ∧ (decide (n < (1 : Int)) = false → k [Dat.mk Ty.bool (decide ((8 : Int) < n))])) ∧ ((!decide ((1 : Int) = (0 : Int))) = false → (0 : Int) ≤ n ∧ n ≤ n ∧ n ≤ (1000000000 : Int) ∧ (∃ (x : Nat), (x ≤ n.toNat ∧ True) ∧ (n = n ∧ l = l ∧ True ∧ True ∧ (0 : Int) = (↑x : Int) ∧ True) ∧ (((3 : Nat) = (3 : Nat) ∧ List.replicate n.toNat (0 : Int) = List.replicate n.toNat (0 : Int)) ∧ True) ∧ tabD = tabD ∧ True) ∧ ∀ (x : Nat), x ≤ n.toNat ∧ True → (decide ((↑x : Int) < n) = true → (0 : Int) ≤ (↑x : Int) ∧ (↑x : Int) < (↑(List.replicate n.toNat (0 : Int)).length : Int) ∧ inK IntKind.i64 ((↑x : Int) + (1 : Int)) ∧ ∃ (x_1 : Nat), (x_1 ≤ n.toNat ∧ True) ∧ n.toNat - x_1 < n.toNat - x ∧ (n = n ∧ l = l ∧ True ∧ True ∧ (↑x : Int) + (1 : Int) = (↑x_1 : Int) ∧ True) ∧ (((3 : Nat) = (3 : Nat) ∧ (List.replicate n.toNat (0 : Int)).set (↑x : Int).toNat (-1 : Int) = List.replicate n.toNat (0 : Int)) ∧ True) ∧ tabD = tabD ∧ True) ∧ (decide ((↑x : Int) < n) = false → (∃ (x : Nat), (x ≤ l.length ∧ True) ∧ (n = n ∧ l = l ∧ True ∧ True ∧ (0 : Int) = (↑x : Int) ∧ True) ∧ (False ∧ False ∧ False ∧ True) ∧ tabD = tabD ∧ True) ∧ ∀ (x : Nat), x ≤ l.length ∧ True → (decide ((↑x : Int) < (↑l.length : Int)) = true → (decide ((↑x : Int) < (60 : Int)) = true → (0 : Int) ≤ (↑x : Int) ∧ (↑x : Int) < (↑l.length : Int) ∧ False) ∧ (decide ((↑x : Int) < (60 : Int)) = false → k [Dat.mk Ty.bool true])) ∧ (decide ((↑x : Int) < (↑l.length : Int)) = false → k [Dat.mk Ty.bool true])))))) := by kernel_rfl
end Go.Proofs.YtdpnakebhpecfaaDoor

/- Synods: what stays so. -/
namespace Go.Proofs.YtdpnakebhpecfaaDoor
open Go.Vc
theorem withM_lt {d i : Int} {m : Nat} (hd : 0 ≤ d ∧ d < 2 ^ m) (hi : 0 ≤ i ∧ i < (m : Int)) : 0 ≤ withM d i ∧ withM d i < 2 ^ m := by
  unfold withM
  refine ⟨Int.natCast_nonneg _, ?_⟩
  rw [powC] at hd ⊢
  have h1 : d.toNat < 2 ^ m := by omega
  have h2 : (1 * (2 : Int) ^ i.toNat).toNat < 2 ^ m := by
    rw [Int.one_mul, powC, Int.toNat_natCast]
    exact Nat.pow_lt_pow_right (by decide) (by omega)
  exact Int.ofNat_lt.2 (Nat.or_lt_two_pow h1 h2)
theorem orI_lt {a b : Int} {m : Nat} (ha : 0 ≤ a ∧ a < 2 ^ m) (hb : 0 ≤ b ∧ b < 2 ^ m) : 0 ≤ orI a b ∧ orI a b < 2 ^ m := by
  unfold orI
  refine ⟨Int.natCast_nonneg _, ?_⟩
  rw [powC] at ha hb ⊢
  exact Int.ofNat_lt.2 (Nat.or_lt_two_pow (show a.toNat < 2 ^ m by omega) (show b.toNat < 2 ^ m by omega))
theorem prep_did {k : Int} {s : Sy} {m : Nat} : ∀ {l : List Int}, (∀ y ∈ l, 0 ≤ y ∧ y < (m : Int)) → 0 ≤ (prepL k s l).2.2 ∧ (prepL k s l).2.2 < 2 ^ m := by
  intro l h
  unfold prepL
  have : ∀ (l : List Int) (x : Rd), (∀ y ∈ l, 0 ≤ y ∧ y < (m : Int)) → (0 ≤ x.2.2 ∧ x.2.2 < 2 ^ m) → 0 ≤ (l.foldl (prep1 k) x).2.2 ∧ (l.foldl (prep1 k) x).2.2 < 2 ^ m := by
    intro l
    induction l with
    | nil => intro x _ hx; exact hx
    | cons a r ih =>
      intro x h hx
      rw [List.foldl_cons]
      refine ih _ (fun y hy => h y (.tail _ hy)) ?_
      unfold prep1
      simp only
      split
      · exact hx
      · exact withM_lt hx (h a (.head _))
  exact this l _ h ⟨Int.le_refl _, two_pow_pos m⟩
theorem acc_did {k v : Int} {ms : List Me} {m : Nat} : ∀ {l : List Int}, (∀ y ∈ l, 0 ≤ y ∧ y < (m : Int)) → 0 ≤ (accL k v ms l).2 ∧ (accL k v ms l).2 < 2 ^ m := by
  intro l h
  unfold accL
  have : ∀ (l : List Int) (x : List Me × Int), (∀ y ∈ l, 0 ≤ y ∧ y < (m : Int)) → (0 ≤ x.2 ∧ x.2 < 2 ^ m) → 0 ≤ (l.foldl (acc1 k v) x).2 ∧ (l.foldl (acc1 k v) x).2 < 2 ^ m := by
    intro l
    induction l with
    | nil => intro x _ hx; exact hx
    | cons a r ih =>
      intro x h hx
      rw [List.foldl_cons]
      refine ih _ (fun y hy => h y (.tail _ hy)) ?_
      unfold acc1
      split
      · exact hx
      · exact withM_lt hx (h a (.head _))
  exact this l _ h ⟨Int.le_refl _, two_pow_pos m⟩
theorem prep_acc (k : Int) (s : Sy) (l : List Int) : (prepL k s l).2.1.2.1 = (s.bs.getD k.toNat zB).2.1 := by
  unfold prepL
  have : ∀ (l : List Int) (x : Rd), (l.foldl (prep1 k) x).2.1.2.1 = x.2.1.2.1 := by
    intro l
    induction l with
    | nil => intro x; rfl
    | cons a r ih =>
      intro x
      rw [List.foldl_cons, ih]
      unfold prep1
      simp only
      split
      · rfl
      · simp only
        split <;> rfl
  exact this l _
theorem set_pr {l : List Ba} {q : Nat} {b : Ba} (h : ∀ x ∈ l, 0 ≤ x.1 ∧ x.1 < 256 ∧ 0 ≤ x.2.1 ∧ x.2.1 < 256) (hb : 0 ≤ b.1 ∧ b.1 < 256 ∧ 0 ≤ b.2.1 ∧ b.2.1 < 256) : ∀ x ∈ l.set q b, 0 ≤ x.1 ∧ x.1 < 256 ∧ 0 ≤ x.2.1 ∧ x.2.1 < 256 := by
  intro x hx
  rcases List.mem_or_eq_of_mem_set hx with hx | rfl
  · exact h x hx
  · exact hb
theorem prp_pr (b : Ba) (v : Int) : (prpB b v).1 = b.1 := by unfold prpB; split <;> rfl
/-- whatever is asked, it is a synod still, of as many -/
theorem do_inv {s : Sy} (h : SyInv s) (a : As) : SyInv (doF s a).2 ∧ (doF s a).2.ms.length = s.ms.length := by
  unfold doF
  split
  · exact ⟨h, rfl⟩
  rename_i hA
  have ha := okA_of (show okA s.ms.length a = true by simpa using hA)
  have m8 := h.ok.m8
  have hq : a.2.1.toNat < s.bs.length := by have := h.ok.b; omega
  have hb := h.pr _ (getD_mem (z := zB) hq)
  have hbits : ∀ y ∈ bitsOf a.2.2.2.1, 0 ≤ y ∧ y < (s.ms.length : Int) := fun y hy => by
    have := bit_pos ha.2.2.2.1 ha.2.2.2.2 (by omega) hy
    exact ⟨this.1, this.2.1⟩
  have h256 : (2 : Int) ^ s.ms.length ≤ 256 := by
    rw [powC]
    exact Int.ofNat_le.2 (show 2 ^ s.ms.length ≤ 2 ^ 8 from Nat.pow_le_pow_right (by decide) m8)
  split
  · have pd := prep_did (k := a.2.1) (s := s) hbits
    have pi := prep_inv a.2.1 s (bitsOf a.2.2.2.1)
    have pl := prep_len a.2.1 s (bitsOf a.2.2.2.1)
    have o := orI_lt (m := 8) (a := (prepL a.2.1 s (bitsOf a.2.2.2.1)).2.1.1) (b := (prepL a.2.1 s (bitsOf a.2.2.2.1)).2.2) (by rw [pi.1]; exact ⟨hb.1, hb.2.1⟩) ⟨pd.1, by have := pd.2; have e : (2 : Int) ^ 8 = 256 := rfl; omega⟩
    have pa := prep_acc a.2.1 s (bitsOf a.2.2.2.1)
    refine ⟨⟨⟨?_, ?_, ?_⟩, ?_⟩, pl⟩
    · show 1 ≤ (prepL a.2.1 s (bitsOf a.2.2.2.1)).1.length
      rw [pl]; exact h.ok.m1
    · show (prepL a.2.1 s (bitsOf a.2.2.2.1)).1.length ≤ 8
      rw [pl]; exact m8
    · show (s.bs.set _ _).length = 31
      rw [List.length_set]; exact h.ok.b
    · exact set_pr h.pr ⟨o.1, o.2, by rw [pa]; exact hb.2.2.1, by rw [pa]; exact hb.2.2.2⟩
  · split
    · exact ⟨h, rfl⟩
    · obtain ⟨il, i0⟩ := acc_inv a.2.1 (prpB (s.bs.getD a.2.1.toNat zB) a.2.2.1).2.2.2.2.1 s.ms (bitsOf a.2.2.2.1)
      have pd := acc_did (k := a.2.1) (v := (prpB (s.bs.getD a.2.1.toNat zB) a.2.2.1).2.2.2.2.1) (ms := s.ms) hbits
      have o := orI_lt (m := 8) (a := (prpB (s.bs.getD a.2.1.toNat zB) a.2.2.1).2.1) (b := (accL a.2.1 (prpB (s.bs.getD a.2.1.toNat zB) a.2.2.1).2.2.2.2.1 s.ms (bitsOf a.2.2.2.1)).2) (by rw [prp_acc]; exact ⟨hb.2.2.1, hb.2.2.2⟩) ⟨pd.1, by have := pd.2; have e : (2 : Int) ^ 8 = 256 := rfl; omega⟩
      refine ⟨⟨⟨?_, ?_, ?_⟩, ?_⟩, il⟩
      · show 1 ≤ (accL _ _ _ _).1.length
        rw [il]; exact h.ok.m1
      · show (accL _ _ _ _).1.length ≤ 8
        rw [il]; exact m8
      · show (s.bs.set _ _).length = 31
        rw [List.length_set]; exact h.ok.b
      · exact set_pr h.pr ⟨by rw [prp_pr]; exact hb.1, by rw [prp_pr]; exact hb.2.1, o.1, o.2⟩
end Go.Proofs.YtdpnakebhpecfaaDoor

/- Synods: one value is chosen. -/
namespace Go.Proofs.YtdpnakebhpecfaaDoor
open Go.Vc
def has (s : Int) (i : Nat) : Prop := s.toNat.testBit i = true
theorem has_withM (d i : Int) (j : Nat) : has (withM d i) j ↔ has d j ∨ j = i.toNat := by
  unfold has withM
  rw [Int.one_mul, Int.toNat_natCast, Nat.testBit_or, powC, Int.toNat_natCast, Nat.testBit_two_pow]
  simp only [Bool.or_eq_true, decide_eq_true_eq]
  constructor
  · rintro (h | h)
    · exact .inl h
    · exact .inr h.symm
  · rintro (h | h)
    · exact .inl h
    · exact .inr h.symm
theorem orI_withM (a d i : Int) : orI a (withM d i) = withM (orI a d) i := by
  unfold orI withM
  rw [Int.toNat_natCast, Int.toNat_natCast, Nat.or_assoc]
theorem orI_zero {a : Int} (h : 0 ≤ a) : orI a 0 = a := by
  unfold orI
  rw [Int.toNat_zero, Nat.or_zero, Int.toNat_of_nonneg h]
/-- how many below 'n' -/
def cnt (p : Nat → Bool) (n : Nat) : Nat := ((List.range n).filter p).length
theorem cnt_succ (p : Nat → Bool) (n : Nat) : cnt p (n + 1) = cnt p n + (if p n = true then 1 else 0) := by
  unfold cnt
  rw [List.range_succ, List.filter_append, List.length_append]
  cases h : p n <;> simp [h]
theorem cnt_two {p q : Nat → Bool} {m : Nat} (h : ∀ i, ¬ (p i = true ∧ q i = true)) (hm : ∀ i, p i = true ∨ q i = true → i < m) : ∀ n, cnt p n + cnt q n ≤ m ∧ cnt p n + cnt q n ≤ n
  | 0 => ⟨Nat.zero_le _, Nat.le_refl _⟩
  | n + 1 => by
    have ih := cnt_two h hm n
    rw [cnt_succ, cnt_succ]
    have h1 := h n
    have h2 := hm n
    cases hp : p n <;> cases hq : q n <;> simp [hp, hq] at h1 h2 ⊢ <;> omega
/-- two sets of most meet -/
theorem most_meet {m : Nat} {a b : Int} (ha : mostB m a = true) (hb : mostB m b = true) (sa : ∀ i, has a i → i < m) (sb : ∀ i, has b i → i < m) : ∃ i, i < m ∧ has a i ∧ has b i := by
  by_cases h : ∃ i, has a i ∧ has b i
  · obtain ⟨i, h1, h2⟩ := h
    exact ⟨i, sa i h1, h1, h2⟩
  · have := (cnt_two (p := a.toNat.testBit) (q := b.toNat.testBit) (m := m) (fun i hi => h ⟨i, hi.1, hi.2⟩) (fun i hi => hi.elim (sa i) (sb i)) 8).1
    unfold mostB at ha hb
    have ha := of_decide_eq_true ha
    have hb := of_decide_eq_true hb
    unfold popN at ha hb
    unfold cnt at this
    omega
def Sy.me (s : Sy) (i : Nat) : Me := s.ms.getD i zM
def Sy.ba (s : Sy) (b : Nat) : Ba := s.bs.getD b zB
abbrev pS (b : Ba) : Int := b.1
abbrev aS (b : Ba) : Int := b.2.1
abbrev bst (b : Ba) : Int := b.2.2.1
abbrev tld (b : Ba) : Int := b.2.2.2.1
abbrev vl (b : Ba) : Int := b.2.2.2.2.1
abbrev prp (b : Ba) : Bool := b.2.2.2.2.2.1
/-- what holds, whatever is asked -/
structure Safe (s : Sy) : Prop where
  mem : ∀ i, i < s.ms.length → -1 ≤ (s.me i).2.1 ∧ (s.me i).2.1 ≤ (s.me i).1 ∧ ((s.me i).2.1 = -1 ∨ (0 ≤ (s.me i).2.1 ∧ (s.me i).2.1 < 31 ∧ prp (s.ba (s.me i).2.1.toNat) = true ∧ (s.me i).2.2.1 = vl (s.ba (s.me i).2.1.toNat)))
  sub : ∀ b, b < 31 → ∀ i, (has (pS (s.ba b)) i ∨ has (aS (s.ba b)) i) → i < s.ms.length
  acc : ∀ b, b < 31 → ∀ i, has (aS (s.ba b)) i → (b : Int) ≤ (s.me i).2.1 ∧ prp (s.ba b) = true
  pro : ∀ b, b < 31 → ∀ i, has (pS (s.ba b)) i → (b : Int) ≤ (s.me i).1
  bes : ∀ b, b < 31 → bst (s.ba b) = -1 ∨ (0 ≤ bst (s.ba b) ∧ bst (s.ba b) < (b : Int) ∧ prp (s.ba (bst (s.ba b)).toNat) = true ∧ tld (s.ba b) = vl (s.ba (bst (s.ba b)).toNat))
  fre : ∀ b, b < 31 → prp (s.ba b) = false → ∀ i, has (pS (s.ba b)) i → ∀ c, c < b → bst (s.ba b) < (c : Int) → ¬ has (aS (s.ba c)) i
  saf : ∀ b, b < 31 → prp (s.ba b) = true → ∀ c, c < b → (prp (s.ba c) = true ∧ vl (s.ba c) = vl (s.ba b)) ∨ (∃ Q : Int, mostB s.ms.length Q = true ∧ (∀ i, has Q i → i < s.ms.length) ∧ ∀ i, has Q i → (c : Int) < (s.me i).1 ∧ ¬ has (aS (s.ba c)) i)
def promB (b : Ba) (m : Me) : Ba := if b.2.2.1 < m.2.1 ∧ b.2.2.2.2.2.1 = false then (b.1, b.2.1, m.2.1, m.2.2.1, b.2.2.2.2) else b
/-- what is done at once -/
inductive Step (s s' : Sy) : Prop
  | promise (i k : Nat) (hi : i < s.ms.length) (hk : k < 31) (hlt : (s.me i).1 < (k : Int)) (hl : s'.ms.length = s.ms.length)
    (hm : ∀ j, s'.me j = if j = i then ((k : Int), (s.me i).2) else s.me j) (hb : ∀ c, s'.ba c = if c = k then (withM (promB (s.ba k) (s.me i)).1 i, (promB (s.ba k) (s.me i)).2) else s.ba c)
  | propose (k : Nat) (v : Int) (hk : k < 31) (hq : prp (s.ba k) = false → mostB s.ms.length (pS (s.ba k)) = true) (hl : s'.ms.length = s.ms.length)
    (hm : ∀ j, s'.me j = s.me j) (hb : ∀ c, s'.ba c = if c = k then prpB (s.ba k) v else s.ba c)
  | accept (i k : Nat) (hi : i < s.ms.length) (hk : k < 31) (hle : (s.me i).1 ≤ (k : Int)) (hp : prp (s.ba k) = true) (hl : s'.ms.length = s.ms.length)
    (hm : ∀ j, s'.me j = if j = i then ((k : Int), (k : Int), vl (s.ba k), ()) else s.me j) (hb : ∀ c, s'.ba c = if c = k then ((s.ba k).1, withM (s.ba k).2.1 i, (s.ba k).2.2) else s.ba c)
inductive Steps : Sy → Sy → Prop
  | refl (s : Sy) : Steps s s
  | tail {s s1 s2 : Sy} (h : Steps s s1) (h2 : Step s1 s2) : Steps s s2
theorem Steps.trans {a b c : Sy} (h : Steps a b) (h2 : Steps b c) : Steps a c := by
  induction h2 with
  | refl => exact h
  | tail _ h3 ih => exact ih.tail h3
/-- what is said of two states, one behind the other -/
structure Grow (s s' : Sy) : Prop where
  len : s'.ms.length = s.ms.length
  pro : ∀ i, (s.me i).1 ≤ (s'.me i).1
  prp : ∀ b, b < 31 → prp (s.ba b) = true → prp (s'.ba b) = true ∧ vl (s'.ba b) = vl (s.ba b)
  acc : ∀ b, b < 31 → ∀ i, has (aS (s.ba b)) i → has (aS (s'.ba b)) i
  new : ∀ b, b < 31 → ∀ i, has (aS (s'.ba b)) i → has (aS (s.ba b)) i ∨ (s.me i).1 ≤ (b : Int)
theorem promB_1 (b : Ba) (m : Me) : (promB b m).1 = b.1 ∧ (promB b m).2.1 = b.2.1 ∧ (promB b m).2.2.2.2 = b.2.2.2.2 := by
  unfold promB; split <;> exact ⟨rfl, rfl, rfl⟩
theorem prpB_1 (b : Ba) (v : Int) : (prpB b v).1 = b.1 ∧ (prpB b v).2.1 = b.2.1 ∧ (prpB b v).2.2.1 = b.2.2.1 ∧ (prpB b v).2.2.2.1 = b.2.2.2.1 ∧ (prpB b v).2.2.2.2.2.1 = true ∧ (b.2.2.2.2.2.1 = true → (prpB b v).2.2.2.2.1 = b.2.2.2.2.1) := by
  unfold prpB
  split
  · rename_i h; exact ⟨rfl, rfl, rfl, rfl, h, fun _ => rfl⟩
  · rename_i h; exact ⟨rfl, rfl, rfl, rfl, rfl, fun h2 => absurd h2 h⟩
theorem step_grow {s s' : Sy} (h : Step s s') : Grow s s' := by
  cases h with
  | promise i k hi hk hlt hl hm hb =>
    have e := promB_1 (s.ba k) (s.me i)
    refine ⟨hl, fun j => ?_, fun b hb1 h => ?_, fun b hb1 j h => ?_, fun b hb1 j h => ?_⟩
    · rw [hm]; split
      · subst_vars; simp only; omega
      · exact Int.le_refl _
    · rw [hb]; split
      · subst_vars; exact ⟨by show (promB _ _).2.2.2.2.2.1 = true; rw [e.2.2]; exact h, by show (promB _ _).2.2.2.2.1 = _; rw [e.2.2]⟩
      · exact ⟨h, rfl⟩
    · rw [hb]; split
      · subst_vars; show has (promB _ _).2.1 j; rw [e.2.1]; exact h
      · exact h
    · rw [hb] at h; split at h
      · subst_vars; have h : has (promB _ _).2.1 j := h; rw [e.2.1] at h; exact .inl h
      · exact .inl h
  | propose k v hk hq hl hm hb =>
    have e := prpB_1 (s.ba k) v
    refine ⟨hl, fun j => by rw [hm]; exact Int.le_refl _, fun b hb1 h => ?_, fun b hb1 j h => ?_, fun b hb1 j h => ?_⟩
    · rw [hb]; split
      · subst_vars; exact ⟨e.2.2.2.2.1, e.2.2.2.2.2 h⟩
      · exact ⟨h, rfl⟩
    · rw [hb]; split
      · subst_vars; show has (prpB _ _).2.1 j; rw [e.2.1]; exact h
      · exact h
    · rw [hb] at h; split at h
      · subst_vars; have h : has (prpB _ _).2.1 j := h; rw [e.2.1] at h; exact .inl h
      · exact .inl h
  | accept i k hi hk hle hp hl hm hb =>
    refine ⟨hl, fun j => ?_, fun b hb1 h => ?_, fun b hb1 j h => ?_, fun b hb1 j h => ?_⟩
    · rw [hm]; split
      · subst_vars; exact hle
      · exact Int.le_refl _
    · rw [hb]; split
      · subst_vars; exact ⟨h, rfl⟩
      · exact ⟨h, rfl⟩
    · rw [hb]; split
      · subst_vars; exact (has_withM _ _ _).2 (.inl h)
      · exact h
    · rw [hb] at h; split at h
      · subst_vars
        rcases (has_withM _ _ _).1 h with h | h
        · exact .inl h
        · rw [Int.toNat_natCast] at h; subst h; exact .inr hle
      · exact .inl h
/-- who will not accept does not -/
theorem quo_keep {s s' : Sy} (g : Grow s s') {c : Nat} (hc : c < 31) {Q : Int} (h : ∀ i, has Q i → (c : Int) < (s.me i).1 ∧ ¬ has (aS (s.ba c)) i) : ∀ i, has Q i → (c : Int) < (s'.me i).1 ∧ ¬ has (aS (s'.ba c)) i := fun i hi => by
  obtain ⟨h1, h2⟩ := h i hi
  have := g.pro i
  refine ⟨by omega, fun h3 => ?_⟩
  rcases g.new c hc i h3 with h4 | h4
  · exact h2 h4
  · omega
theorem saf_keep {s s' : Sy} (g : Grow s s') (S : Safe s) {b : Nat} (hb : b < 31) (hp : prp (s.ba b) = true) {c : Nat} (hc : c < b) : (prp (s'.ba c) = true ∧ vl (s'.ba c) = vl (s'.ba b)) ∨ (∃ Q : Int, mostB s'.ms.length Q = true ∧ (∀ i, has Q i → i < s'.ms.length) ∧ ∀ i, has Q i → (c : Int) < (s'.me i).1 ∧ ¬ has (aS (s'.ba c)) i) := by
  have gb := g.prp b hb hp
  rcases S.saf b hb hp c hc with ⟨h1, h2⟩ | ⟨Q, h1, h2, h3⟩
  · have gc := g.prp c (by omega) h1
    exact .inl ⟨gc.1, by rw [gc.2, gb.2, h2]⟩
  · exact .inr ⟨Q, by rw [g.len]; exact h1, by rw [g.len]; exact h2, quo_keep g (by omega) h3⟩
end Go.Proofs.YtdpnakebhpecfaaDoor

/- Synods: one value is chosen, whatever is done. -/
namespace Go.Proofs.YtdpnakebhpecfaaDoor
open Go.Vc
theorem safe_promise {s s' : Sy} (S : Safe s) (h : Step s s') (i k : Nat) (hi : i < s.ms.length) (hk : k < 31) (hlt : (s.me i).1 < (k : Int)) (hl : s'.ms.length = s.ms.length)
    (hm : ∀ j, s'.me j = if j = i then ((k : Int), (s.me i).2) else s.me j) (hb : ∀ c, s'.ba c = if c = k then (withM (promB (s.ba k) (s.me i)).1 i, (promB (s.ba k) (s.me i)).2) else s.ba c) : Safe s' := by
  have g := step_grow h
  have e := promB_1 (s.ba k) (s.me i)
  have M := S.mem i hi
  have hm2 : ∀ j, (s'.me j).2 = (s.me j).2 := fun j => by rw [hm]; split <;> simp_all
  have hA : ∀ b, aS (s'.ba b) = aS (s.ba b) := fun b => by
    rw [hb]; split
    · subst_vars; exact e.2.1
    · rfl
  have hP : ∀ b, prp (s'.ba b) = prp (s.ba b) := fun b => by
    rw [hb]; split
    · subst_vars; show (promB _ _).2.2.2.2.2.1 = _; rw [e.2.2]
    · rfl
  have hS : ∀ b j, has (pS (s'.ba b)) j → has (pS (s.ba b)) j ∨ (b = k ∧ j = i) := fun b j h => by
    rw [hb] at h; split at h
    · subst_vars
      rcases (has_withM _ _ _).1 h with h | h
      · rw [e.1] at h; exact .inl h
      · rw [Int.toNat_natCast] at h; exact .inr ⟨rfl, h⟩
    · exact .inl h
  refine ⟨fun j hj => ?_, fun b hb1 j h => ?_, fun b hb1 j h => ?_, fun b hb1 j h => ?_, fun b hb1 => ?_, fun b hb1 hp j h c hc hbc => ?_, fun b hb1 hp c hc => ?_⟩
  · rw [hl] at hj
    have Mj := S.mem j hj
    rw [hm2]
    have gp := g.pro j
    refine ⟨Mj.1, by omega, ?_⟩
    rcases Mj.2.2 with h | ⟨h1, h2, h3, h4⟩
    · exact .inl h
    · have := g.prp _ (by omega) h3
      exact .inr ⟨h1, h2, this.1, by rw [this.2]; exact h4⟩
  · rw [hl]
    rcases h with h | h
    · rcases hS b j h with h | h
      · exact S.sub b hb1 j (.inl h)
      · rw [h.2]; exact hi
    · rw [hA] at h; exact S.sub b hb1 j (.inr h)
  · rw [hA] at h
    rw [hm2, hP]
    exact S.acc b hb1 j h
  · have gp := g.pro j
    rcases hS b j h with h | ⟨h1, h2⟩
    · have := S.pro b hb1 j h; omega
    · subst h1; subst h2; rw [hm, if_pos rfl]; exact Int.le_refl _
  · have keep : ∀ x : Int, 0 ≤ x → x < (b : Int) → prp (s.ba x.toNat) = true → prp (s'.ba x.toNat) = true ∧ vl (s'.ba x.toNat) = vl (s.ba x.toNat) := fun x h0 h1 h2 => g.prp _ (by omega) h2
    by_cases hbk : b = k
    · subst hbk
      have e1 : s'.ba b = (withM (promB (s.ba b) (s.me i)).1 i, (promB (s.ba b) (s.me i)).2) := by rw [hb, if_pos rfl]
      by_cases hc : (s.ba b).2.2.1 < (s.me i).2.1 ∧ (s.ba b).2.2.2.2.2.1 = false
      · have e2 : promB (s.ba b) (s.me i) = ((s.ba b).1, (s.ba b).2.1, (s.me i).2.1, (s.me i).2.2.1, (s.ba b).2.2.2.2) := by unfold promB; rw [if_pos hc]
        have e3 : bst (s'.ba b) = (s.me i).2.1 := by rw [e1, e2]
        have e4 : tld (s'.ba b) = (s.me i).2.2.1 := by rw [e1, e2]
        rw [e3, e4]
        rcases M.2.2 with h | ⟨h1, h2, h3, h4⟩
        · exact .inl h
        · have := keep _ h1 (by omega) h3
          exact .inr ⟨h1, by omega, this.1, by rw [this.2]; exact h4⟩
      · have e2 : promB (s.ba b) (s.me i) = s.ba b := by unfold promB; rw [if_neg hc]
        have e3 : bst (s'.ba b) = bst (s.ba b) := by rw [e1, e2]
        have e4 : tld (s'.ba b) = tld (s.ba b) := by rw [e1, e2]
        rw [e3, e4]
        rcases S.bes b hb1 with h | ⟨h1, h2, h3, h4⟩
        · exact .inl h
        · have := keep _ h1 h2 h3
          exact .inr ⟨h1, h2, this.1, by rw [this.2]; exact h4⟩
    · rw [show s'.ba b = s.ba b by rw [hb, if_neg hbk]]
      rcases S.bes b hb1 with h | ⟨h1, h2, h3, h4⟩
      · exact .inl h
      · have := keep _ h1 h2 h3
        exact .inr ⟨h1, h2, this.1, by rw [this.2]; exact h4⟩
  · rw [hA]
    rw [hP] at hp
    have hle : bst (s.ba b) ≤ bst (s'.ba b) ∧ (b = k → (s.me i).2.1 ≤ bst (s'.ba b)) := by
      rw [hb]; split
      · subst_vars
        unfold promB
        split
        · rename_i h; exact ⟨Int.le_of_lt h.1, fun _ => Int.le_refl _⟩
        · rename_i h
          refine ⟨Int.le_refl _, fun _ => ?_⟩
          by_cases h1 : (s.ba b).2.2.1 < (s.me i).2.1
          · exact absurd ⟨h1, hp⟩ h
          · show (s.me i).2.1 ≤ (s.ba b).2.2.1
            omega
      · rename_i h; exact ⟨Int.le_refl _, fun h2 => absurd h2 h⟩
    rcases hS b j h with h | ⟨h1, h2⟩
    · exact S.fre b hb1 hp j h c hc (by omega)
    · intro h3
      have h4 := hle.2 h1
      have h5 := (S.acc c (by omega) j h3).1
      subst h2
      omega
  · rw [hP] at hp
    exact saf_keep g S hb1 hp hc
theorem safe_propose {s s' : Sy} (S : Safe s) (h : Step s s') (k : Nat) (v : Int) (hk : k < 31) (hq : prp (s.ba k) = false → mostB s.ms.length (pS (s.ba k)) = true) (hl : s'.ms.length = s.ms.length)
    (hm : ∀ j, s'.me j = s.me j) (hb : ∀ c, s'.ba c = if c = k then prpB (s.ba k) v else s.ba c) : Safe s' := by
  have g := step_grow h
  have e := prpB_1 (s.ba k) v
  have hA : ∀ b, aS (s'.ba b) = aS (s.ba b) := fun b => by
    rw [hb]; split
    · subst_vars; exact e.2.1
    · rfl
  have hS : ∀ b, pS (s'.ba b) = pS (s.ba b) := fun b => by
    rw [hb]; split
    · subst_vars; exact e.1
    · rfl
  have hB : ∀ b, bst (s'.ba b) = bst (s.ba b) := fun b => by
    rw [hb]; split
    · subst_vars; exact e.2.2.1
    · rfl
  have hT : ∀ b, tld (s'.ba b) = tld (s.ba b) := fun b => by
    rw [hb]; split
    · subst_vars; exact e.2.2.2.1
    · rfl
  refine ⟨fun j hj => ?_, fun b hb1 j h => ?_, fun b hb1 j h => ?_, fun b hb1 j h => ?_, fun b hb1 => ?_, fun b hb1 hp j h c hc hbc => ?_, fun b hb1 hp c hc => ?_⟩
  · rw [hl] at hj
    have Mj := S.mem j hj
    rw [hm]
    refine ⟨Mj.1, Mj.2.1, ?_⟩
    rcases Mj.2.2 with h | ⟨h1, h2, h3, h4⟩
    · exact .inl h
    · have := g.prp _ (by omega) h3
      exact .inr ⟨h1, h2, this.1, by rw [this.2]; exact h4⟩
  · rw [hl]
    rw [hA, hS] at h
    exact S.sub b hb1 j h
  · rw [hA] at h
    rw [hm]
    have := S.acc b hb1 j h
    exact ⟨this.1, (g.prp b hb1 this.2).1⟩
  · rw [hS] at h
    rw [hm]
    exact S.pro b hb1 j h
  · rw [hB, hT]
    rcases S.bes b hb1 with h | ⟨h1, h2, h3, h4⟩
    · exact .inl h
    · have := g.prp _ (by omega) h3
      exact .inr ⟨h1, h2, this.1, by rw [this.2]; exact h4⟩
  · rw [hA]
    rw [hS] at h
    rw [hB] at hbc
    have hbk : b ≠ k := fun h => by rw [hb, if_pos h] at hp; rw [show prp (prpB (s.ba k) v) = true from e.2.2.2.2.1] at hp; cases hp
    rw [hb, if_neg hbk] at hp
    exact S.fre b hb1 hp j h c hc hbc
  · by_cases hold : prp (s.ba b) = true
    · exact saf_keep g S hb1 hold hc
    · have hbk : b = k := by
        by_cases h : b = k
        · exact h
        · rw [hb, if_neg h] at hp; exact absurd hp hold
      subst hbk
      have hpf : prp (s.ba b) = false := by simpa using hold
      have hmost := hq hpf
      have quo : bst (s.ba b) < (c : Int) → ∃ Q : Int, mostB s'.ms.length Q = true ∧ (∀ i, has Q i → i < s'.ms.length) ∧ ∀ i, has Q i → (c : Int) < (s'.me i).1 ∧ ¬ has (aS (s'.ba c)) i := fun hlt =>
        ⟨pS (s.ba b), by rw [hl]; exact hmost, fun i hi => by rw [hl]; exact S.sub b hb1 i (.inl hi), fun i hi => ⟨by have := S.pro b hb1 i hi; rw [hm]; omega, by rw [hA]; exact S.fre b hb1 hpf i hi c hc hlt⟩⟩
      rcases S.bes b hb1 with h | ⟨h1, h2, h3, h4⟩
      · exact .inr (quo (by omega))
      · have hv : vl (s'.ba b) = vl (s.ba (bst (s.ba b)).toNat) := by
          rw [hb, if_pos rfl, ← h4]
          unfold prpB
          rw [if_neg hold, if_pos h1]
        have hβ : (bst (s.ba b)).toNat < 31 := by omega
        have gβ := g.prp _ hβ h3
        rcases Int.lt_trichotomy (bst (s.ba b)) (c : Int) with hlt | heq | hgt
        · exact .inr (quo hlt)
        · left
          have : (bst (s.ba b)).toNat = c := by omega
          rw [this] at gβ hv
          exact ⟨gβ.1, by rw [gβ.2, hv]⟩
        · rcases saf_keep g S hβ h3 (c := c) (by omega) with ⟨h5, h6⟩ | h5
          · exact .inl ⟨h5, by rw [h6, gβ.2, hv]⟩
          · exact .inr h5
theorem safe_accept {s s' : Sy} (S : Safe s) (h : Step s s') (i k : Nat) (hi : i < s.ms.length) (hk : k < 31) (hle : (s.me i).1 ≤ (k : Int)) (hp : prp (s.ba k) = true) (hl : s'.ms.length = s.ms.length)
    (hm : ∀ j, s'.me j = if j = i then ((k : Int), (k : Int), vl (s.ba k), ()) else s.me j) (hb : ∀ c, s'.ba c = if c = k then ((s.ba k).1, withM (s.ba k).2.1 i, (s.ba k).2.2) else s.ba c) : Safe s' := by
  have g := step_grow h
  have M := S.mem i hi
  have hS : ∀ b, pS (s'.ba b) = pS (s.ba b) := fun b => by
    rw [hb]; split
    · subst_vars; rfl
    · rfl
  have hR : ∀ b, (s'.ba b).2.2 = (s.ba b).2.2 := fun b => by
    rw [hb]; split
    · subst_vars; rfl
    · rfl
  have hA : ∀ b j, has (aS (s'.ba b)) j → has (aS (s.ba b)) j ∨ (b = k ∧ j = i) := fun b j h => by
    rw [hb] at h; split at h
    · subst_vars
      rcases (has_withM _ _ _).1 h with h | h
      · exact .inl h
      · rw [Int.toNat_natCast] at h; exact .inr ⟨rfl, h⟩
    · exact .inl h
  refine ⟨fun j hj => ?_, fun b hb1 j h => ?_, fun b hb1 j h => ?_, fun b hb1 j h => ?_, fun b hb1 => ?_, fun b hb1 hp1 j h c hc hbc => ?_, fun b hb1 hp1 c hc => ?_⟩
  · rw [hl] at hj
    by_cases hji : j = i
    · rw [hm, if_pos hji]
      have := g.prp k hk hp
      refine ⟨by show (-1 : Int) ≤ (k : Int); omega, Int.le_refl _, .inr ⟨by show (0 : Int) ≤ (k : Int); omega, by show (k : Int) < 31; omega, ?_, ?_⟩⟩
      · show prp (s'.ba (k : Int).toNat) = true
        rw [Int.toNat_natCast]; exact this.1
      · show vl (s.ba k) = vl (s'.ba (k : Int).toNat)
        rw [Int.toNat_natCast]; exact this.2.symm
    · have Mj := S.mem j hj
      rw [hm, if_neg hji]
      refine ⟨Mj.1, Mj.2.1, ?_⟩
      rcases Mj.2.2 with h | ⟨h1, h2, h3, h4⟩
      · exact .inl h
      · have := g.prp _ (by omega) h3
        exact .inr ⟨h1, h2, this.1, by rw [this.2]; exact h4⟩
  · rw [hl]
    rcases h with h | h
    · rw [hS] at h; exact S.sub b hb1 j (.inl h)
    · rcases hA b j h with h | h
      · exact S.sub b hb1 j (.inr h)
      · rw [h.2]; exact hi
  · rcases hA b j h with h | ⟨h1, h2⟩
    · have a := S.acc b hb1 j h
      refine ⟨?_, (g.prp b hb1 a.2).1⟩
      rw [hm]; split
      · subst_vars; show (b : Int) ≤ (k : Int); omega
      · exact a.1
    · subst h1; subst h2
      rw [hm, if_pos rfl]
      exact ⟨Int.le_refl _, (g.prp b hb1 hp).1⟩
  · rw [hS] at h
    have := S.pro b hb1 j h
    have := g.pro j
    omega
  · show (s'.ba b).2.2.1 = -1 ∨ (0 ≤ (s'.ba b).2.2.1 ∧ (s'.ba b).2.2.1 < (b : Int) ∧ prp (s'.ba (s'.ba b).2.2.1.toNat) = true ∧ (s'.ba b).2.2.2.1 = vl (s'.ba (s'.ba b).2.2.1.toNat))
    rw [hR]
    rcases S.bes b hb1 with h | ⟨h1, h2, h3, h4⟩
    · exact .inl h
    · have := g.prp _ (by omega) h3
      exact .inr ⟨h1, h2, this.1, by rw [this.2]; exact h4⟩
  · have hp2 : prp (s.ba b) = false := by rw [← hp1]; show (s.ba b).2.2.2.2.2.1 = (s'.ba b).2.2.2.2.2.1; rw [hR]
    have hbc2 : bst (s.ba b) < (c : Int) := by have e : bst (s'.ba b) = bst (s.ba b) := by show (s'.ba b).2.2.1 = _; rw [hR]
                                               rw [← e]; exact hbc
    rw [hS] at h
    intro h3
    rcases g.new c (by omega) j h3 with h4 | h4
    · exact S.fre b hb1 hp2 j h c hc hbc2 h4
    · have := S.pro b hb1 j h
      omega
  · have hp2 : prp (s.ba b) = true := by rw [← hp1]; show (s.ba b).2.2.2.2.2.1 = (s'.ba b).2.2.2.2.2.1; rw [hR]
    exact saf_keep g S hb1 hp2 hc
theorem safe_step {s s' : Sy} (S : Safe s) (h : Step s s') : Safe s' := by
  have h' := h
  cases h with
  | promise i k hi hk hlt hl hm hb => exact safe_promise S h' i k hi hk hlt hl hm hb
  | propose k v hk hq hl hm hb => exact safe_propose S h' k v hk hq hl hm hb
  | accept i k hi hk hle hp hl hm hb => exact safe_accept S h' i k hi hk hle hp hl hm hb
theorem safe_steps {s s' : Sy} (S : Safe s) (h : Steps s s') : Safe s' := by
  induction h with
  | refl => exact S
  | tail _ h2 ih => exact safe_step ih h2
/-- what stays, of many steps -/
structure Kept (s s' : Sy) : Prop where
  len : s'.ms.length = s.ms.length
  pro : ∀ i, (s.me i).1 ≤ (s'.me i).1
  prp : ∀ b, b < 31 → prp (s.ba b) = true → prp (s'.ba b) = true ∧ vl (s'.ba b) = vl (s.ba b)
  acc : ∀ b, b < 31 → ∀ i, has (aS (s.ba b)) i → has (aS (s'.ba b)) i
theorem kept_steps {s s' : Sy} (h : Steps s s') : Kept s s' := by
  induction h with
  | refl => exact ⟨rfl, fun _ => Int.le_refl _, fun _ _ h => ⟨h, rfl⟩, fun _ _ _ h => h⟩
  | tail _ h2 ih =>
    have g := step_grow h2
    exact ⟨g.len.trans ih.len, fun i => Int.le_trans (ih.pro i) (g.pro i), fun b hb h => by
      have h1 := ih.prp b hb h
      have h2 := g.prp b hb h1.1
      exact ⟨h2.1, h2.2.trans h1.2⟩, fun b hb i h => g.acc b hb i (ih.acc b hb i h)⟩
end Go.Proofs.YtdpnakebhpecfaaDoor

/- Synods: what is asked goes by steps; what is chosen is one. -/
namespace Go.Proofs.YtdpnakebhpecfaaDoor
open Go.Vc
theorem getD_set {α : Type} (l : List α) (q j : Nat) (b z : α) (h : q < l.length) : (l.set q b).getD j z = if j = q then b else l.getD j z := by
  split
  · rename_i he; rw [he]; exact gset l q b z h
  · rename_i hne
    rw [List.getD_eq_getElem?_getD, List.getD_eq_getElem?_getD, List.getElem?_set_ne (Ne.symm hne)]
theorem promB_2 (p : Int) (b : Ba) (m : Me) : (promB (p, b.2) m).2 = (promB b m).2 := by
  unfold promB; simp only; split <;> rfl
theorem prep1_neg {k : Int} {x : Rd} {i : Int} (h : ¬ k ≤ (x.1.getD i.toNat zM).1) : prep1 k x i = (x.1.set i.toNat (k, (x.1.getD i.toNat zM).2), promB x.2.1 (x.1.getD i.toNat zM), withM x.2.2 i) := by
  unfold prep1; simp only [if_neg h]; rfl
/-- the state in the middle of promising -/
def midP (s : Sy) (k : Int) (x : Rd) : Sy := ⟨x.1, s.bs.set k.toNat (orI (s.bs.getD k.toNat zB).1 x.2.2, x.2.1.2)⟩
theorem prep_steps {s : Sy} (k : Int) (hb : s.bs.length = 31) (hk : 0 ≤ k ∧ k < 31) (h0 : 0 ≤ (s.bs.getD k.toNat zB).1) : ∀ (r l : List Int), (∀ y ∈ r, 0 ≤ y ∧ y < (s.ms.length : Int)) → Steps s (midP s k (prepL k s l)) → Steps s (midP s k (prepL k s (l ++ r)))
  | [], l, _, h => by rw [List.append_nil]; exact h
  | y :: r, l, hy, h => by
    rw [show l ++ y :: r = (l ++ [y]) ++ r by rw [List.append_assoc]; rfl]
    refine prep_steps k hb hk h0 r (l ++ [y]) (fun z hz => hy z (.tail _ hz)) ?_
    have y0 := hy y (.head _)
    have pl := prep_len k s l
    have pi := prep_inv k s l
    rw [prep_snoc]
    by_cases hc : k ≤ ((prepL k s l).1.getD y.toNat zM).1
    · rw [show prep1 k (prepL k s l) y = prepL k s l by unfold prep1; simp only [if_pos hc]]
      exact h
    · refine h.tail (.promise y.toNat k.toNat ?_ (by omega) ?_ ?_ (fun j => ?_) (fun c => ?_))
      · show y.toNat < (prepL k s l).1.length
        omega
      · show ((prepL k s l).1.getD y.toNat zM).1 < _
        omega
      · show (prep1 k (prepL k s l) y).1.length = (prepL k s l).1.length
        unfold prep1; simp only [if_neg hc, List.length_set]
      · show (prep1 k (prepL k s l) y).1.getD j zM = _
        unfold prep1
        simp only [if_neg hc]
        rw [getD_set _ _ _ _ _ (by omega), show ((k.toNat : Nat) : Int) = k by omega]
        rfl
      · have e1 : (midP s k (prepL k s l)).ba k.toNat = (orI (s.bs.getD k.toNat zB).1 (prepL k s l).2.2, (prepL k s l).2.1.2) := by
          show (s.bs.set _ _).getD _ _ = _
          rw [gset _ _ _ _ (by omega)]
        rw [e1]
        show (s.bs.set _ _).getD c zB = _
        rw [getD_set _ _ _ _ _ (by omega)]
        split
        · rw [prep1_neg hc]
          simp only
          rw [orI_withM, (promB_1 _ _).1, show ((y.toNat : Nat) : Int) = y by omega]
          exact Prod.ext rfl (promB_2 _ _ _).symm
        · rename_i hne
          show _ = (s.bs.set _ _).getD c zB
          rw [getD_set _ _ _ _ _ (by omega), if_neg hne]
/-- the state in the middle of accepting -/
def midA (s : Sy) (k : Int) (b : Ba) (x : List Me × Int) : Sy := ⟨x.1, s.bs.set k.toNat (b.1, orI b.2.1 x.2, b.2.2)⟩
theorem acc_steps {s : Sy} (k : Int) (b : Ba) (hb : s.bs.length = 31) (hk : 0 ≤ k ∧ k < 31) (hp : prp b = true) : ∀ (r l : List Int), (∀ y ∈ r, 0 ≤ y ∧ y < (s.ms.length : Int)) → ∀ {s0 : Sy}, Steps s0 (midA s k b (accL k (vl b) s.ms l)) → Steps s0 (midA s k b (accL k (vl b) s.ms (l ++ r)))
  | [], l, _, _, h => by rw [List.append_nil]; exact h
  | y :: r, l, hy, s0, h => by
    rw [show l ++ y :: r = (l ++ [y]) ++ r by rw [List.append_assoc]; rfl]
    refine acc_steps k b hb hk hp r (l ++ [y]) (fun z hz => hy z (.tail _ hz)) ?_
    have y0 := hy y (.head _)
    have pi := acc_inv k (vl b) s.ms l
    rw [acc_snoc]
    have e1 : (midA s k b (accL k (vl b) s.ms l)).ba k.toNat = (b.1, orI b.2.1 (accL k (vl b) s.ms l).2, b.2.2) := by
      show (s.bs.set _ _).getD _ _ = _
      rw [gset _ _ _ _ (by omega)]
    by_cases hc : k < ((accL k (vl b) s.ms l).1.getD y.toNat zM).1
    · rw [show acc1 k (vl b) (accL k (vl b) s.ms l) y = accL k (vl b) s.ms l by unfold acc1; rw [if_pos hc]]
      exact h
    · have e2 : acc1 k (vl b) (accL k (vl b) s.ms l) y = ((accL k (vl b) s.ms l).1.set y.toNat (k, k, vl b, ()), withM (accL k (vl b) s.ms l).2 y) := by unfold acc1; rw [if_neg hc]
      rw [e2]
      refine h.tail (.accept y.toNat k.toNat ?_ (by omega) ?_ ?_ ?_ (fun j => ?_) (fun c => ?_))
      · show y.toNat < (accL k (vl b) s.ms l).1.length
        omega
      · show ((accL k (vl b) s.ms l).1.getD y.toNat zM).1 ≤ _
        omega
      · rw [e1]; exact hp
      · show ((accL k (vl b) s.ms l).1.set _ _).length = _
        rw [List.length_set]; rfl
      · rw [e1]
        show ((accL k (vl b) s.ms l).1.set _ _).getD j zM = _
        rw [getD_set _ _ _ _ _ (by omega), show ((k.toNat : Nat) : Int) = k by omega]
        rfl
      · rw [e1]
        show (s.bs.set _ _).getD c zB = _
        rw [getD_set _ _ _ _ _ (by omega)]
        split
        · simp only
          rw [orI_withM, show ((y.toNat : Nat) : Int) = y by omega]
        · rename_i hne
          show _ = (s.bs.set _ _).getD c zB
          rw [getD_set _ _ _ _ _ (by omega), if_neg hne]
/-- what is asked goes by steps -/
theorem do_steps {s : Sy} (h : SyInv s) (a : As) : Steps s (doF s a).2 := by
  unfold doF
  split
  · exact .refl s
  rename_i hA
  have ha := okA_of (show okA s.ms.length a = true by simpa using hA)
  have m8 := h.ok.m8
  have hq : a.2.1.toNat < s.bs.length := by have := h.ok.b; omega
  have hb := h.pr _ (getD_mem (z := zB) hq)
  have hbits : ∀ y ∈ bitsOf a.2.2.2.1, 0 ≤ y ∧ y < (s.ms.length : Int) := fun y hy => by
    have := bit_pos ha.2.2.2.1 ha.2.2.2.2 (by omega) hy
    exact ⟨this.1, this.2.1⟩
  have hk : 0 ≤ a.2.1 ∧ a.2.1 < 31 := by omega
  split
  · have := prep_steps (s := s) a.2.1 h.ok.b hk hb.1 (bitsOf a.2.2.2.1) [] hbits (by
      have : midP s a.2.1 (prepL a.2.1 s []) = s := by
        show (⟨s.ms, s.bs.set _ (orI (s.bs.getD a.2.1.toNat zB).1 0, (s.bs.getD a.2.1.toNat zB).2)⟩ : Sy) = s
        rw [orI_zero hb.1, set_self _ _ _ hq]
      rw [this]; exact .refl s)
    rw [List.nil_append] at this
    have e := prep_inv a.2.1 s (bitsOf a.2.2.2.1)
    unfold midP at this
    rw [← e.1] at this
    exact this
  · split
    · exact .refl s
    · rename_i hg
      have e := prpB_1 (s.bs.getD a.2.1.toNat zB) a.2.2.1
      have s1 : Steps s (midA s a.2.1 (prpB (s.bs.getD a.2.1.toNat zB) a.2.2.1) (accL a.2.1 (vl (prpB (s.bs.getD a.2.1.toNat zB) a.2.2.1)) s.ms [])) := by
        refine (Steps.refl s).tail (.propose a.2.1.toNat a.2.2.1 (by omega) (fun hp => ?_) rfl (fun j => rfl) (fun c => ?_))
        · by_cases hm : mostB s.ms.length (s.bs.getD a.2.1.toNat zB).1 = true
          · exact hm
          · exact absurd ⟨hp, by simpa using hm⟩ hg
        · show (s.bs.set _ _).getD c zB = _
          rw [getD_set _ _ _ _ _ hq]
          split
          · rw [show (accL a.2.1 (vl (prpB (s.bs.getD a.2.1.toNat zB) a.2.2.1)) s.ms []).2 = 0 from rfl, orI_zero (by rw [e.2.1]; exact hb.2.2.1)]
            rfl
          · rfl
      have := acc_steps a.2.1 (prpB (s.bs.getD a.2.1.toNat zB) a.2.2.1) h.ok.b hk e.2.2.2.2.1 (bitsOf a.2.2.2.1) [] hbits s1
      exact this
/-- which ballots chose -/
theorem mem_chosen {s : Sy} (hb : s.bs.length = 31) {v : Int} : v ∈ chosenF s ↔ ∃ b, b < 31 ∧ mostB s.ms.length (aS (s.ba b)) = true ∧ v = vl (s.ba b) := by
  unfold chosenF
  rw [List.mem_map]
  constructor
  · rintro ⟨x, hx, rfl⟩
    obtain ⟨hx, hm⟩ := List.mem_filter.1 hx
    obtain ⟨i, hi, rfl⟩ := List.mem_iff_getElem.1 hx
    refine ⟨i, by omega, ?_, ?_⟩
    · unfold Sy.ba; rw [getD_at hi]; exact hm
    · unfold Sy.ba; rw [getD_at hi]
  · rintro ⟨b, hb1, hm, rfl⟩
    exact ⟨s.ba b, List.mem_filter.2 ⟨getD_mem (by omega), hm⟩, rfl⟩
theorem most_some {m : Nat} {a : Int} (h : mostB m a = true) : ∃ i, has a i := by
  unfold mostB popN at h
  have h := of_decide_eq_true h
  cases hf : (List.range 8).filter a.toNat.testBit with
  | nil => rw [hf] at h; simp at h; omega
  | cons i r => exact ⟨i, (List.mem_filter.1 (by rw [hf]; exact .head _)).2⟩
/-- ONE VALUE IS CHOSEN -/
theorem chosen_one {s : Sy} (hb : s.bs.length = 31) (S : Safe s) {u v : Int} (hu : u ∈ chosenF s) (hv : v ∈ chosenF s) : u = v := by
  have key : ∀ b c, b < 31 → c < b → mostB s.ms.length (aS (s.ba b)) = true → mostB s.ms.length (aS (s.ba c)) = true → vl (s.ba c) = vl (s.ba b) := by
    intro b c h1 h2 h3 h4
    obtain ⟨i, hi⟩ := most_some h3
    rcases S.saf b h1 (S.acc b h1 i hi).2 c h2 with ⟨_, h5⟩ | ⟨Q, h5, h6, h7⟩
    · exact h5
    · obtain ⟨j, _, h8, h9⟩ := most_meet h5 h4 h6 (fun i hi => S.sub c (by omega) i (.inr hi))
      exact absurd h9 (h7 j h8).2
  obtain ⟨b, h1, h2, rfl⟩ := (mem_chosen hb).1 hu
  obtain ⟨c, h3, h4, rfl⟩ := (mem_chosen hb).1 hv
  rcases Nat.lt_trichotomy b c with h | h | h
  · exact key c b h3 h h4 h2
  · rw [h]
  · exact (key b c h1 h h2 h4).symm
theorem cnt_le {p q : Nat → Bool} (h : ∀ i, p i = true → q i = true) : ∀ n, cnt p n ≤ cnt q n
  | 0 => Nat.le_refl _
  | n + 1 => by
    have := cnt_le h n
    have h1 := h n
    rw [cnt_succ, cnt_succ]
    cases hp : p n <;> cases hq : q n <;> simp [hp, hq] at h1 ⊢ <;> omega
theorem most_mono {m : Nat} {a b : Int} (h : ∀ i, has a i → has b i) (ha : mostB m a = true) : mostB m b = true := by
  have := cnt_le (p := a.toNat.testBit) (q := b.toNat.testBit) h 8
  unfold mostB popN at ha ⊢
  have ha := of_decide_eq_true ha
  unfold cnt at this
  exact decide_eq_true (by omega)
/-- what was chosen stays so -/
theorem chosen_sub {s s' : Sy} (hb : s.bs.length = 31) (hb' : s'.bs.length = 31) (S : Safe s) (K : Kept s s') : (∀ v, v ∈ chosenF s → v ∈ chosenF s') ∧ (chosenF s).length ≤ (chosenF s').length := by
  have key : ∀ b, b < 31 → mostB s.ms.length (aS (s.ba b)) = true → mostB s'.ms.length (aS (s'.ba b)) = true := fun b h1 h2 => by
    rw [K.len]; exact most_mono (K.acc b h1) h2
  refine ⟨fun v hv => ?_, ?_⟩
  · obtain ⟨b, h1, h2, rfl⟩ := (mem_chosen hb).1 hv
    obtain ⟨i, hi⟩ := most_some h2
    exact (mem_chosen hb').2 ⟨b, h1, key b h1 h2, ((K.prp b h1 (S.acc b h1 i hi).2).2).symm⟩
  · unfold chosenF
    rw [List.length_map, List.length_map]
    have : ∀ (l l' : List Ba), l.length = l'.length → (∀ i, i < l.length → mostB s.ms.length (l.getD i zB).2.1 = true → mostB s'.ms.length (l'.getD i zB).2.1 = true) → (l.filter fun b => mostB s.ms.length b.2.1).length ≤ (l'.filter fun b => mostB s'.ms.length b.2.1).length := by
      intro l
      induction l with
      | nil => intro l' _ _; exact Nat.zero_le _
      | cons x r ih =>
        intro l' hl h
        cases l' with
        | nil => cases hl
        | cons y r' =>
          have ih := ih r' (by simpa using hl) (fun i hi => h (i + 1) (by simp; omega))
          have h0 := h 0 (by simp)
          rw [List.filter_cons, List.filter_cons]
          simp only [List.getD_cons_zero] at h0
          by_cases hx : mostB s.ms.length x.2.1 = true
          · rw [if_pos hx, if_pos (h0 hx)]; simp; exact ih
          · rw [if_neg hx]; split
            · simp; omega
            · exact ih
    exact this _ _ (by omega) (fun i hi => key i (by omega))
end Go.Proofs.YtdpnakebhpecfaaDoor

/- Synods: how they stand between what is asked. -/
namespace Go.Proofs.YtdpnakebhpecfaaDoor
open Go.Vc
theorem has0 (i : Nat) : ¬ has 0 i := by unfold has; simp
theorem getD_rep {α : Type} (n : Nat) (x z : α) (i : Nat) (h : i < n) : (List.replicate n x).getD i z = x := by
  rw [List.getD_eq_getElem?_getD, List.getElem?_replicate, if_pos h]; rfl
theorem init_inv {n : Int} (h : 1 ≤ n ∧ n ≤ 8) : SyInv (initS n) := by
  refine ⟨⟨?_, ?_, ?_⟩, fun b hb => ?_⟩
  · show 1 ≤ (List.replicate n.toNat nM).length
    rw [List.length_replicate]; omega
  · show (List.replicate n.toNat nM).length ≤ 8
    rw [List.length_replicate]; omega
  · show (List.replicate 31 nB).length = 31
    rw [List.length_replicate]
  · have : b = nB := (List.mem_replicate.1 hb).2
    subst this
    decide
theorem init_me (n : Int) (i : Nat) (h : i < n.toNat) : (initS n).me i = nM := getD_rep _ _ _ _ h
theorem init_ba (n : Int) (b : Nat) (h : b < 31) : (initS n).ba b = nB := getD_rep _ _ _ _ h
theorem init_len (n : Int) : (initS n).ms.length = n.toNat := List.length_replicate
theorem init_safe (n : Int) : Safe (initS n) := by
  refine ⟨fun i hi => ?_, fun b hb i h => ?_, fun b hb i h => ?_, fun b hb i h => ?_, fun b hb => ?_, fun b hb hp i h => ?_, fun b hb hp => ?_⟩
  · rw [init_len] at hi
    rw [init_me n i hi]
    exact ⟨Int.le_refl _, Int.le_refl _, .inl rfl⟩
  · rw [init_ba n b hb] at h
    exact h.elim (fun h => absurd h (has0 i)) (fun h => absurd h (has0 i))
  · rw [init_ba n b hb] at h
    exact absurd h (has0 i)
  · rw [init_ba n b hb] at h
    exact absurd h (has0 i)
  · rw [init_ba n b hb]
    exact .inl rfl
  · rw [init_ba n b hb] at h
    exact absurd h (has0 i)
  · rw [init_ba n b hb] at hp
    exact absurd hp (by decide)
structure Good (n : Int) (s : Sy) : Prop where
  inv : SyInv s
  safe : Safe s
  len : s.ms.length = n.toNat
theorem good_do {n : Int} {s : Sy} (h : Good n s) (a : As) : Good n (doX s a).2 := by
  rw [doX_eq]
  have := do_inv h.inv a
  exact ⟨this.1, safe_steps h.safe (do_steps h.inv a), this.2.trans h.len⟩
theorem good_init {n : Int} (h : 1 ≤ n ∧ n ≤ 8) : Good n (initS n) := ⟨init_inv h, init_safe n, init_len n⟩
theorem sAt_good {n : Int} (h : 1 ≤ n ∧ n ≤ 8) (l : List As) : ∀ i, i ≤ l.length → Good n (sAt n l i)
  | 0, _ => by rw [sAt_zero]; exact good_init h
  | i + 1, hi => by rw [sAt_succ n l i (by omega)]; exact good_do (sAt_good h l i (by omega)) _
theorem gAt_good {n : Int} (h : 1 ≤ n ∧ n ≤ 8) (l : List As) : ∀ i, i ≤ l.length → Good n (gAt n l i)
  | 0, _ => by rw [gAt_zero]; exact good_init h
  | i + 1, hi => by
    rw [gAt_succ n l i (by omega)]
    split
    · exact good_do (gAt_good h l i (by omega)) _
    · exact gAt_good h l i (by omega)
theorem chX_len {n : Int} {s : Sy} (h : Good n s) : (chX s).length ≤ 31 := by
  rw [chX_eq]; have := chosen_len s; rw [h.inv.ok.b] at this; exact this
theorem chX_one {n : Int} {s : Sy} (h : Good n s) {i j : Nat} (hi : i < (chX s).length) (hj : j < (chX s).length) : (chX s).getD i 0 = (chX s).getD j 0 := by
  rw [chX_eq] at hi hj ⊢
  exact chosen_one h.inv.ok.b h.safe (getD_mem hi) (getD_mem hj)
theorem chX_sub {n : Int} {s : Sy} (h : Good n s) (a : As) : (∀ v, v ∈ chX s → v ∈ chX (doX s a).2) ∧ (chX s).length ≤ (chX (doX s a).2).length := by
  have g := (good_do h a).inv.ok.b
  rw [doX_eq] at g ⊢
  rw [chX_eq, chX_eq]
  exact chosen_sub h.inv.ok.b g h.safe (kept_steps (do_steps h.inv a))
theorem chX_first {n : Int} {s : Sy} (h : Good n s) (a : As) (h0 : 0 < (chX s).length) : (chX (doX s a).2).getD 0 0 = (chX s).getD 0 0 := by
  have g := good_do h a
  have := chX_sub h a
  have h1 : 0 < (chX (doX s a).2).length := by omega
  have m := this.1 _ (getD_mem (z := 0) h0)
  have m1 := getD_mem (z := (0 : Int)) h1
  rw [chX_eq (doX s a).2] at m m1 ⊢
  exact chosen_one g.inv.ok.b g.safe m1 m
theorem sy_eta (s : Sy) : Sy.mk s.ms s.bs = s := rfl
theorem initS_ms (n : Int) : List.replicate n.toNat nM = (initS n).ms := rfl
theorem initS_bs (n : Int) : List.replicate 31 nB = (initS n).bs := rfl
theorem chX_init (n : Int) : chX (initS n) = [] := by
  rw [chX_eq]
  cases hc : chosenF (initS n) with
  | nil => rfl
  | cons v r =>
    have : v ∈ chosenF (initS n) := by rw [hc]; exact .head _
    obtain ⟨b, h1, h2, _⟩ := (mem_chosen (by show (List.replicate 31 nB).length = 31; rw [List.length_replicate])).1 this
    rw [init_ba n b h1] at h2
    obtain ⟨i, hi⟩ := most_some h2
    exact absurd hi (has0 i)
end Go.Proofs.YtdpnakebhpecfaaDoor

/- Synods: what is accepted was asked for; promises never fall (mathematics). -/
namespace Go.Proofs.YtdpnakebhpecfaaDoor
open Go.Vc
/-- each value that somebody accepted, was told of, or is proposed, is one of these -/
structure Vals (V : Int → Prop) (s : Sy) : Prop where
  me : ∀ m ∈ s.ms, m.2.1 ≠ -1 → V m.2.2.1
  ba : ∀ b ∈ s.bs, (0 ≤ b.2.2.1 → V b.2.2.2.1) ∧ (b.2.2.2.2.2.1 = true → V b.2.2.2.2.1)
theorem Vals.mono {V V' : Int → Prop} (hV : ∀ v, V v → V' v) {s : Sy} (h : Vals V s) : Vals V' s :=
  ⟨fun m hm h1 => hV _ (h.me m hm h1), fun b hb => ⟨fun h1 => hV _ ((h.ba b hb).1 h1), fun h1 => hV _ ((h.ba b hb).2 h1)⟩⟩
theorem prep_vals {V : Int → Prop} (k : Int) (m : Nat) : ∀ (l : List Int) (x : Rd), x.1.length = m → (∀ y ∈ l, 0 ≤ y ∧ y < (m : Int)) →
    ((∀ q ∈ x.1, q.2.1 ≠ -1 → V q.2.2.1) ∧ (0 ≤ x.2.1.2.2.1 → V x.2.1.2.2.2.1) ∧ (x.2.1.2.2.2.2.2.1 = true → V x.2.1.2.2.2.2.1)) →
    ((∀ q ∈ (l.foldl (prep1 k) x).1, q.2.1 ≠ -1 → V q.2.2.1) ∧ (0 ≤ (l.foldl (prep1 k) x).2.1.2.2.1 → V (l.foldl (prep1 k) x).2.1.2.2.2.1) ∧ ((l.foldl (prep1 k) x).2.1.2.2.2.2.2.1 = true → V (l.foldl (prep1 k) x).2.1.2.2.2.2.1)) := by
  intro l
  induction l with
  | nil => intro x _ _ h; exact h
  | cons y r ih =>
    intro x hx hy h
    rw [List.foldl_cons]
    have y0 := hy y (.head _)
    have hin : x.1.getD y.toNat zM ∈ x.1 := getD_mem (by omega)
    by_cases hc : k ≤ (x.1.getD y.toNat zM).1
    · rw [show prep1 k x y = x by unfold prep1; simp only [if_pos hc]]
      exact ih x hx (fun z hz => hy z (.tail _ hz)) h
    · rw [prep1_neg hc]
      refine ih _ (by simp only [List.length_set]; exact hx) (fun z hz => hy z (.tail _ hz)) ⟨fun q hq hne => ?_, ?_, ?_⟩
      · rcases List.mem_or_eq_of_mem_set hq with hq | rfl
        · exact h.1 q hq hne
        · exact h.1 (x.1.getD y.toNat zM) hin hne
      · unfold promB
        simp only
        split
        · rename_i hh
          intro h0
          exact h.1 _ hin (by show (x.1.getD y.toNat zM).2.1 ≠ -1; intro he; simp only at h0; omega)
        · exact h.2.1
      · simp only
        rw [(promB_1 x.2.1 (x.1.getD y.toNat zM)).2.2]
        exact h.2.2
theorem acc_vals {V : Int → Prop} (k v : Int) (hv : V v) : ∀ (l : List Int) (x : List Me × Int), (∀ q ∈ x.1, q.2.1 ≠ -1 → V q.2.2.1) → ∀ q ∈ (l.foldl (acc1 k v) x).1, q.2.1 ≠ -1 → V q.2.2.1 := by
  intro l
  induction l with
  | nil => intro x h; exact h
  | cons y r ih =>
    intro x h
    rw [List.foldl_cons]
    refine ih _ fun q hq hne => ?_
    unfold acc1 at hq
    split at hq
    · exact h q hq hne
    · rcases List.mem_or_eq_of_mem_set hq with hq | rfl
      · exact h q hq hne
      · exact hv
theorem do_vals {V : Int → Prop} {s : Sy} (hs : SyInv s) (a : As) (ha : a.1 = 1 → V a.2.2.1) (h : Vals V s) : Vals V (doF s a).2 := by
  unfold doF
  split
  · exact h
  rename_i hA
  have hok := okA_of (show okA s.ms.length a = true by simpa using hA)
  have m8 := hs.ok.m8
  have hq : a.2.1.toNat < s.bs.length := by have := hs.ok.b; omega
  have hbm := getD_mem (z := zB) hq
  have hb := h.ba _ hbm
  have hbits : ∀ y ∈ bitsOf a.2.2.2.1, 0 ≤ y ∧ y < (s.ms.length : Int) := fun y hy => by
    have := bit_pos hok.2.2.2.1 hok.2.2.2.2 (by omega) hy
    exact ⟨this.1, this.2.1⟩
  split
  · have p := prep_vals (V := V) a.2.1 s.ms.length (bitsOf a.2.2.2.1) (s.ms, s.bs.getD a.2.1.toNat zB, 0) rfl hbits ⟨h.me, hb.1, hb.2⟩
    refine ⟨p.1, fun b hb2 => ?_⟩
    rcases List.mem_or_eq_of_mem_set hb2 with hb2 | rfl
    · exact h.ba b hb2
    · exact p.2
  · rename_i hne
    have h1 : a.1 = 1 := by have := hok.1; omega
    split
    · exact h
    · have e := prpB_1 (s.bs.getD a.2.1.toNat zB) a.2.2.1
      have hvl : V (prpB (s.bs.getD a.2.1.toNat zB) a.2.2.1).2.2.2.2.1 := by
        unfold prpB
        split
        · rename_i hp; exact hb.2 hp
        · simp only
          split
          · rename_i h0; exact hb.1 h0
          · exact ha h1
      refine ⟨acc_vals a.2.1 _ hvl _ _ h.me, fun b hb2 => ?_⟩
      rcases List.mem_or_eq_of_mem_set hb2 with hb2 | rfl
      · exact h.ba b hb2
      · refine ⟨fun h0 => ?_, fun _ => hvl⟩
        rw [e.2.2.1] at h0
        show V (prpB _ _).2.2.2.1
        rw [e.2.2.2.1]
        exact hb.1 h0
/-- some of the first so many asked for it -/
def askV (l : List As) (j : Nat) (v : Int) : Prop := (l.take j).any (fun a => decide (a.1 = 1) && decide (a.2.2.1 = v)) = true
theorem askV_mono {l : List As} {j : Nat} {v : Int} (h : askV l j v) : askV l (j + 1) v := by
  unfold askV at h ⊢
  rw [List.any_eq_true] at h ⊢
  obtain ⟨a, ha, h⟩ := h
  exact ⟨a, (List.take_subset_take_left l (by omega)) ha, h⟩
theorem sAt_vals {n : Int} (hr : 1 ≤ n ∧ n ≤ 8) (l : List As) : ∀ i, i ≤ l.length → Vals (askV l i) (sAt n l i)
  | 0, _ => by
    rw [sAt_zero]
    refine ⟨fun m hm hne => ?_, fun b hb => ?_⟩
    · rw [(List.mem_replicate.1 hm).2] at hne; exact absurd rfl hne
    · rw [(List.mem_replicate.1 hb).2]; exact ⟨fun h => absurd h (by decide), fun h => by cases h⟩
  | i + 1, hi => by
    rw [sAt_succ n l i (by omega), doX_eq]
    refine do_vals (sAt_good hr l i (by omega)).inv _ (fun h1 => ?_) ((sAt_vals hr l i (by omega)).mono fun v h => askV_mono h)
    unfold askV
    rw [take_snoc zA (by omega), List.any_append, Bool.or_eq_true]
    right
    show (decide ((l.getD i zA).1 = 1) && decide ((l.getD i zA).2.2.1 = (l.getD i zA).2.2.1) || false) = true
    rw [decide_eq_true h1, decide_eq_true rfl]; rfl
theorem askB_eq (l : List As) (b v : Int) (j : Nat) : askB l b v j = true ↔ b = -1 ∨ askV l j v := by
  unfold askB askV
  rw [Bool.or_eq_true, decide_eq_true_iff]
theorem askB_zero (l : List As) (b v : Int) : askB l b v 0 = decide (b = -1) := by unfold askB; simp
theorem askB_succ (l : List As) (b v : Int) (j : Nat) (h : j < l.length) : askB l b v (j + 1) = (askB l b v j || (decide ((l.getD j zA).1 = 1) && decide ((l.getD j zA).2.2.1 = v))) := by
  unfold askB
  rw [take_snoc zA h, List.any_append]
  simp [Bool.or_assoc]
theorem was_zero (s s' : Sy) : wasM s s' 0 = s.ms.map (·.1) := by unfold wasM; simp
theorem was_len {s s' : Sy} (h : s'.ms.length = s.ms.length) (k : Nat) : (wasM s s' k).length = s.ms.length := by
  unfold wasM; simp; omega
theorem was_get {s s' : Sy} (h : s'.ms.length = s.ms.length) (k : Nat) (hk : k < s.ms.length) : (wasM s s' k).getD k 0 = (s.me k).1 := by
  unfold wasM Sy.me
  rw [List.getD_eq_getElem?_getD, List.getElem?_append_right (by simp; omega), List.getD_eq_getElem?_getD]
  have : k - (List.map (fun x : Me => x.1) (List.take k s'.ms)).length = 0 := by simp; omega
  rw [this, List.getElem?_map, List.getElem?_drop, Nat.add_zero, List.getElem?_eq_getElem hk]
  rfl
theorem was_set {s s' : Sy} (h : s'.ms.length = s.ms.length) (k : Nat) (hk : k < s.ms.length) : (wasM s s' k).set k (s'.me k).1 = wasM s s' (k + 1) := by
  unfold wasM Sy.me
  have e1 : (List.map (fun x : Me => x.1) (List.take k s'.ms)).length = k := by simp; omega
  rw [List.set_append_right _ _ (by omega), e1, Nat.sub_self, List.drop_eq_getElem_cons hk, List.map_cons, List.set_cons_zero,
    take_snoc zM (by omega), List.map_append, List.append_assoc]
  rfl
theorem was_end {s s' : Sy} (h : s'.ms.length = s.ms.length) (k : Nat) (hk : s.ms.length ≤ k) : wasM s s' k = s'.ms.map (·.1) := by
  unfold wasM
  rw [List.take_of_length_le (by omega), List.drop_eq_nil_of_le hk, List.map_nil, List.append_nil]
theorem was0_len (n : Int) (i : Nat) (h : i ≤ n.toNat) : (was0 n i).length = n.toNat := by unfold was0; simp; omega
theorem was0_set (n : Int) (i : Nat) (h : i < n.toNat) : (was0 n i).set i (-1) = was0 n (i + 1) := by
  unfold was0
  have e1 : (List.replicate i (-1 : Int)).length = i := by simp
  rw [List.set_append_right _ _ (by omega), e1, Nat.sub_self]
  obtain ⟨m, hm⟩ : ∃ m, n.toNat - i = m + 1 := ⟨n.toNat - i - 1, by omega⟩
  rw [hm, List.replicate_succ, List.set_cons_zero, show n.toNat - (i + 1) = m by omega, List.replicate_succ']
  simp
theorem memF_me {s : Sy} (k : Nat) (h : k < s.ms.length) : memF s.ms (k : Int) = ((s.me k).1, (s.me k).2.1, (s.me k).2.2.1) := by
  unfold memF Sy.me inB
  have e : (decide ((0 : Int) ≤ (k : Int)) && decide ((k : Int) ≤ (s.ms.length : Int) - 1)) = true := by
    rw [Bool.and_eq_true]; exact ⟨decide_eq_true (by omega), decide_eq_true (by omega)⟩
  rw [if_pos e, Int.toNat_natCast]
end Go.Proofs.YtdpnakebhpecfaaDoor

/- Synods: one value is chosen: the law. -/
namespace Go.Proofs.YtdpnakebhpecfaaDoor
open Go.Vc
theorem sAt_next (n : Int) (l : List As) (x : Nat) (h : x < l.length) : (doX (sAt n l x) (l.getD x (0, 0, 0, 0, ()))).2 = sAt n l (x + 1) := (sAt_succ n l x h).symm
theorem one_vc (n : Int) (l : List As) (k : List Dat → Prop) (hl : l.length ≤ maxLen) (hk : k [⟨.bool, true⟩]) : vcF ⟨El, [(8, cFact)], glT, [], [(9, oNew), (10, oDoX), (11, oChX)]⟩ (anOne n l) (Tryd.f3.body.getD .skip) Tryd.f3.ntmps [(.tmp 4, .bool)] [⟨I, n⟩, ⟨.sl tAs, l⟩] k := by
  rw [vcOne]
  have hml : maxLen ≤ 9223372036854775807 := by decide
  simp only [and_true, true_and, eq_self, sy_eta, initS_ms, initS_bs, Int.toNat_natCast, implies_true]
  refine ⟨fun h => absurd h (by decide), fun _ => ⟨fun hb => ⟨fun h => absurd h (by decide), fun _ => ⟨⟨0, by omega, ⟨by rw [sAt_zero, chX_init], rfl⟩, by rw [sAt_zero]; rfl, by rw [sAt_zero]⟩, fun x hx => ⟨fun h1 => ⟨fun h2 => ?_, fun _ => hk⟩, fun _ => hk⟩⟩⟩, fun hb => ⟨fun _ => ⟨fun _ => hk, fun h => ?_⟩, fun h => absurd h (by decide)⟩⟩⟩
  · have h1 : x < l.length := by have := of_decide_eq_true h1; omega
    have hr : 1 ≤ n ∧ n ≤ 8 := by unfold inB at hb; simpa using hb
    have g := sAt_good hr l x hx
    have g' := sAt_good hr l (x + 1) h1
    have hs := chX_sub g (l.getD x (0, 0, 0, 0, ()))
    have hf := chX_first g (l.getD x (0, 0, 0, 0, ()))
    rw [sAt_next n l x h1] at hs hf
    simp only [sAt_next n l x h1]
    have hl' := chX_len g'
    have z : Int.toNat 0 = 0 := rfl
    simp only [z]
    refine ⟨by omega, by omega, g.inv, g'.inv, ⟨0, by omega, rfl⟩, fun y hy => ⟨fun h3 => ⟨⟨by omega, of_decide_eq_true h3, by omega, by have := of_decide_eq_true h3; omega⟩, fun h4 => ?_, fun _ => ⟨inK_i64.2 (by omega), y + 1, by have := of_decide_eq_true h3; omega, by have := of_decide_eq_true h3; omega, by omega⟩⟩, fun h3 => ⟨fun h4 _ => ⟨by omega, by have := of_decide_eq_true h4; omega, by omega, of_decide_eq_true h4⟩, fun h4 => ?_, fun _ => ⟨inK_i64.2 (by omega), x + 1, h1, by omega, ⟨rfl, by omega⟩, rfl, rfl⟩⟩⟩⟩
    · have h3 := of_decide_eq_true h3
      have := chX_one g' (i := y) (j := 0) (by omega) (by omega)
      rw [this] at h4
      simp at h4
    · exfalso
      rw [Bool.and_eq_true] at h4
      have h0 := of_decide_eq_true h4.1
      have e1 := hf (by omega)
      have e2 : ¬ (((chX (sAt n l (x + 1))).length : Int) < ((chX (sAt n l x)).length : Int)) := by omega
      have h5 := h4.2
      rw [e1, decide_eq_false e2] at h5
      simp at h5
  · have : ¬ (1 ≤ n ∧ n ≤ 8) := by unfold inB at hb; simpa using hb
    have h := of_decide_eq_false h
    have e : decide (8 < n) = true := decide_eq_true (by omega)
    rw [e]; exact hk
theorem okOne : PlainOk Tryd.prog glT 3 (cdet [I, .sl tAs] (fun (_ : Int) (_ : List As) => True) (fun _ _ => [⟨.bool, true⟩])) := by
  refine plain_of (CxOk.mk' El_ok rfl mixed (gl := glT) (GOk.cons okFact Tryd.func8 (by kernel_rfl) (by kernel_rfl) GOk.nil) (GoOk.cons ownNew Tryd.func9 (by kernel_rfl) (by kernel_rfl) (GoOk.cons ownDoX Tryd.func10 (by kernel_rfl) (by kernel_rfl) (GoOk.cons ownChX Tryd.func11 (by kernel_rfl) (by kernel_rfl) GoOk.nil))) noIt) Tryd.func3 (c := Tryd.f3.body.getD .skip) (rvs := [(.tmp 4, .bool)]) (by kernel_rfl) (by kernel_rfl) (by kernel_rfl) ?_
  intro ds k ⟨hp, hk⟩ hwf
  obtain ⟨n, l, rfl, -⟩ := dest2 hp
  exact ⟨_, one_vc n l k (wf2 hwf).2.1 hk⟩
end Go.Proofs.YtdpnakebhpecfaaDoor

/- Synods: what is chosen was asked for: the law. -/
namespace Go.Proofs.YtdpnakebhpecfaaDoor
open Go.Vc
theorem asked_vc (n : Int) (l : List As) (k : List Dat → Prop) (hl : l.length ≤ maxLen) (hk : k [⟨.bool, true⟩]) : vcF ⟨El, [(8, cFact), (13, cMember)], glT, [], [(9, oNew), (10, oDoX)]⟩ (anAsked n l) (Tryd.f5.body.getD .skip) Tryd.f5.ntmps [(.tmp 4, .bool)] [⟨I, n⟩, ⟨.sl tAs, l⟩] k := by
  rw [vcAsked]
  have hml : maxLen ≤ 9223372036854775807 := by decide
  simp only [and_true, true_and, eq_self, sy_eta, initS_ms, initS_bs, Int.toNat_natCast, implies_true]
  refine ⟨fun h => absurd h (by decide), fun _ => ⟨fun hb => ⟨fun h => absurd h (by decide), fun _ => ?_⟩, fun hb => ⟨fun _ => ⟨fun _ => hk, fun h => ?_⟩, fun h => absurd h (by decide)⟩⟩⟩
  · have hr : 1 ≤ n ∧ n ≤ 8 := by unfold inB at hb; simpa using hb
    refine ⟨by omega, by omega, by omega, ⟨0, by omega, rfl, rfl⟩, fun x hx => ⟨fun h1 => ?_, fun h1 => ⟨⟨0, by omega, rfl, by rw [sAt_zero]; rfl, by rw [sAt_zero], ?_⟩, fun i hi => ⟨fun h2 => ⟨fun h3 => ?_, fun _ => hk⟩, fun _ => hk⟩⟩⟩⟩
    · have h1 := of_decide_eq_true h1
      have hlen := was0_len n x hx
      exact ⟨by omega, by omega, inK_i64.2 (by omega), x + 1, by omega, by omega, by omega, was0_set n x (by omega)⟩
    · have h1 := of_decide_eq_false h1
      have : x = n.toNat := by omega
      subst this
      rw [sAt_zero]
      unfold was0 initS
      simp
    · have h2 : i < l.length := by have := of_decide_eq_true h2; omega
      have h3 := of_decide_eq_true h3
      have g := sAt_good hr l i hi
      have g' := sAt_good hr l (i + 1) h2
      have hll : (sAt n l (i + 1)).ms.length = (sAt n l i).ms.length := g'.len.trans g.len.symm
      have gl := g.len
      have K := kept_steps (do_steps g.inv (l.getD i zA))
      have V := sAt_vals hr l (i + 1) h2
      rw [← doX_eq, ← sAt_succ n l i h2] at K
      simp only [sAt_next n l i h2]
      refine ⟨by omega, by omega, g.inv, ⟨0, by omega, rfl, trivial, trivial, (was_zero _ _).symm⟩, fun y hy => ⟨fun h4 => ?_, fun h4 => ⟨inK_i64.2 (by omega), i + 1, h2, by omega, by omega, rfl, rfl, was_end hll y (by have := of_decide_eq_false h4; omega)⟩⟩⟩
      have h4 := of_decide_eq_true h4
      have hy' : y < (sAt n l i).ms.length := by omega
      have wl := was_len hll y
      have me := memF_me (s := sAt n l (i + 1)) y (by omega)
      have wg := was_get hll y hy'
      have wset := was_set hll y hy'
      have S := g'.safe.mem y (by omega)
      have Kp := K.pro y
      have inm : (sAt n l (i + 1)).me y ∈ (sAt n l (i + 1)).ms := getD_mem (by omega)
      have Vm := V.me _ inm
      obtain ⟨m, hm⟩ : ∃ m, (sAt n l (i + 1)).me y = m := ⟨_, rfl⟩
      rw [hm] at me wset S Kp Vm
      simp only [me, wg, wset]
      refine ⟨⟨_, rfl, by show (sAt n l (i + 1)).ms.length ≤ 8; omega⟩, by omega, by omega, fun h => absurd (of_decide_eq_true h) (by omega), fun _ => ⟨fun h => absurd (of_decide_eq_true h) (by omega), fun _ => ⟨by omega, by omega, ⟨0, by omega, (askB_zero l m.2.1 m.2.2.1).symm, rfl⟩, fun j hj => ⟨fun h5 => ?_, fun h5 => ⟨fun h6 => ?_, fun _ => ⟨inK_i64.2 (by omega), y + 1, by omega, by omega, by omega, rfl⟩⟩⟩⟩⟩⟩
      · have h5 := of_decide_eq_true h5
        have hs := askB_succ l m.2.1 m.2.2.1 j (by omega)
        refine ⟨fun h6 => ⟨inK_i64.2 (by omega), j + 1, by omega, by omega, by rw [hs, h6]; rfl, by omega⟩, fun h6 => ⟨by omega, by omega, fun h7 => ⟨by omega, by omega, inK_i64.2 (by omega), j + 1, by omega, by omega, by rw [hs, h6, h7]; rfl, by omega⟩, fun h7 => ⟨inK_i64.2 (by omega), j + 1, by omega, by omega, by rw [hs, h6, h7]; rfl, by omega⟩⟩⟩
      · exfalso
        have h5 := of_decide_eq_false h5
        have : j = i + 1 := by omega
        subst this
        have h6 : askB l m.2.1 m.2.2.1 (i + 1) = false := by simpa using h6
        have : askB l m.2.1 m.2.2.1 (i + 1) = true := by
          rw [askB_eq]
          by_cases hm : m.2.1 = -1
          · exact .inl hm
          · exact .inr (Vm hm)
        rw [h6] at this; cases this
  · have : ¬ (1 ≤ n ∧ n ≤ 8) := by unfold inB at hb; simpa using hb
    have h := of_decide_eq_false h
    have e : decide (8 < n) = true := decide_eq_true (by omega)
    rw [e]; exact hk
theorem okAsked : PlainOk Tryd.prog glT 5 (cdet [I, .sl tAs] (fun (_ : Int) (_ : List As) => True) (fun _ _ => [⟨.bool, true⟩])) := by
  refine plain_of (CxOk.mk' El_ok rfl mixed (gl := glT) (GOk.cons okFact Tryd.func8 (by kernel_rfl) (by kernel_rfl) (GOk.cons okMember.lift Tryd.func13 (by kernel_rfl) (by kernel_rfl) GOk.nil)) (GoOk.cons ownNew Tryd.func9 (by kernel_rfl) (by kernel_rfl) (GoOk.cons ownDoX Tryd.func10 (by kernel_rfl) (by kernel_rfl) GoOk.nil)) noIt) Tryd.func5 (c := Tryd.f5.body.getD .skip) (rvs := [(.tmp 4, .bool)]) (by kernel_rfl) (by kernel_rfl) (by kernel_rfl) ?_
  intro ds k ⟨hp, hk⟩ hwf
  obtain ⟨n, l, rfl, -⟩ := dest2 hp
  exact ⟨_, asked_vc n l k (wf2 hwf).2.1 hk⟩
end Go.Proofs.YtdpnakebhpecfaaDoor

/- The quorums of a synod: what votes are. -/
namespace Go.Proofs.YtdpnakebhpecfaaDoor.V
open Go.Vc
abbrev tW : Ty := .fn 35 (.pr (.ptr (.sl I)) .un)
def Et : Env := { tys := [(3, I), (4, .bool), (29, .sl I), (26, tErr), (36, tW), (69, tIt)], errT := 54, eqs := [], els := [(29, 3)] }
theorem Et_ok : EnvOk Tryd.prog Et := EnvOk.of_list (by kernel_rfl) (by kernel_rfl) (by kernel_rfl)
def cBoth : Ctr := cdet [I, I] (fun (a b : Int) => a < 2305843009213693952 ∧ True) (fun (a b : Int) => [⟨I, ((a.toNat &&& b.toNat : Nat) : Int)⟩])
def anBoth (a b : Int) : Ann := [joinAll, loopAt 3 Nat [] (fun st k => St.at (St.only st [4]) [(0, .d I (a.tdiv (2 ^ k))), (1, .d I (b.tdiv (2 ^ k))), (5, .d I (((a.toNat &&& b.toNat) % 2 ^ k : Nat) : Int)), (6, .d I ((2 : Int) ^ k))]) (fun _ k => k ≤ 61 ∧ True) (fun k => 62 - k)]
def cManyR : Ctr := cdet [I] (fun (n : Int) => n < 256 ∧ True) (fun (n : Int) => [⟨I, (popN n.toNat : Int)⟩])
def popK (x k : Nat) : Nat := ((List.range k).filter x.testBit).length
def anManyR (s : Int) : Ann := [loopAt 2 Nat [] (fun st k => St.at (St.only st [2]) [(0, .d I (s.tdiv (2 ^ k))), (3, .d I (popK s.toNat k : Int))]) (fun _ k => k ≤ 8 ∧ True) (fun k => 9 - k)]
def setP (a : Int) : Prop := 0 ≤ a ∧ a < 1152921504606846976
def cEither : Ctr := cdet [I, I] (fun (a b : Int) => setP a ∧ setP b) (fun (a b : Int) => [⟨I, ((a.toNat ||| b.toNat : Nat) : Int)⟩])
/-- the weights of some nodes, together -/
def sumL (w : List Int) (l : List Int) : Int := (l.map fun i => w.getD i.toNat 0).sum
def sumW (w : List Int) (s : Int) : Int := sumL w (bitsOf s)
def wOk (w : List Int) : Prop := w.length ≤ 8 ∧ ∀ x ∈ w, 0 ≤ x ∧ x ≤ 20
def cSumW : Ctr := cdet [I, .ptr (.sl I)] (fun (s : Int) (p : Option (List Int)) => ∃ w, p = some w ∧ wOk w ∧ 0 ≤ s ∧ s < 2 ^ w.length) (fun (s : Int) (p : Option (List Int)) => [⟨I, sumW (p.getD []) s⟩])
def anSumW (w : List Int) : Ann := [rangeAt 3 I (List Int) id (fun st l => { St.only st [1, 3, 6] with ob := st.ob.set 0 (.var 3 I (sumL w l)) }) (fun _ _ => True)]
/-- a set without one -/
def lessI (s i : Int) : Int := ((s.toNat ^^^ (s.toNat &&& (1 * (2 : Int) ^ i.toNat).toNat) : Nat) : Int)
def lowL (w : List Int) (need s : Int) (l : List Int) : Bool := decide (need ≤ sumW w s) && l.all fun i => decide (sumW w (lessI s i) < need)
def lowB (w : List Int) (need s : Int) : Bool := lowL w need s (bitsOf s)
def votesU (w : List Int) (need : Int) (k : Nat) : List Int := ((List.range k).map fun (i : Nat) => (i : Int)).filter (lowB w need)
def votesE (w : List Int) (need : Int) : Int :=
  if w.length = 0 then 5 else if 8 < w.length then 4 else if w.all (fun x => inB x 0 20) = false then 1 else if inB need 1 w.sum = false then 1 else if 2 * need ≤ w.sum then 6 else 0
def votesL (w : List Int) (need : Int) : List Int := if votesE w need = 0 then votesU w need (2 ^ w.length) else []
def cVotes : Ctr := cdet [.sl I, I] (fun _ _ => True) (fun w need => [⟨.sl I, votesL w need⟩, ⟨tErr, votesE w need⟩])
def anVotes (w : List Int) (need : Int) : Ann :=
  [joinAll, freezeAt 18 [2],
   loopAt 8 Nat [] (fun st i => St.at (St.only st [2, 3, 4, 5, 6, 23, 24]) [(25, .d I (i : Int)), (7, .d I (w.take i).sum)]) (fun _ i => i ≤ w.length ∧ 0 < w.length ∧ w.length ≤ 8 ∧ ∀ x ∈ w.take i, inB x 0 20 = true) (fun i => w.length - i),
   loopAt 21 Nat [(11, 3, I)] (fun st i => { St.at (St.only st [3, 4, 5, 6, 10, 11, 49]) [(50, .d I (i : Int))] with ob := st.ob.set 3 (.row 3 I (votesU w need i)) }) (fun _ i => i ≤ 2 ^ w.length ∧ votesE w need = 0) (fun i => 2 ^ w.length - i),
   rangeAt 26 I (List Int) id (fun st l => { St.only st [3, 4, 5, 6, 10, 11, 12, 13, 49, 50, 59] with ob := st.ob.set 5 (.var 4 .bool (lowL w need (st.i 50) l)) }) (fun _ _ => True)]
end Go.Proofs.YtdpnakebhpecfaaDoor.V

/- What the functions of this seat have to satisfy, by program: each verification condition in plain words. -/
namespace Go.Proofs.YtdpnakebhpecfaaDoor
open Go.Vc Go.Proofs.YtdpnakebhpecfaaDoor.V
set_option linter.unusedVariables false
theorem vcManyR (s : Int) (k : List Dat → Prop) : vcF ⟨Et, [], glT, [], []⟩ (anManyR s) (Tryd.f22.body.getD .skip) Tryd.f22.ntmps [(.tmp 2, I)] [⟨I, s⟩] k = (
  (∃ (x : Nat), (x ≤ (8 : Nat) ∧ True) ∧ (s = s.tdiv ((2 : Int) ^ x) ∧ (0 : Int) = (0 : Int) ∧ (0 : Int) = (↑(popK s.toNat x) : Int) ∧ True) ∧ True ∧ tabD = tabD ∧ True) ∧ ∀ (x : Nat), x ≤ (8 : Nat) ∧ True → (decide ((0 : Int) < s.tdiv ((2 : Int) ^ x)) = true → (2 : Int) ≠ (0 : Int) ∧ inK IntKind.i64 ((s.tdiv ((2 : Int) ^ x)).tmod (2 : Int)) ∧ inK IntKind.i64 ((↑(popK s.toNat x) : Int) + (s.tdiv ((2 : Int) ^ x)).tmod (2 : Int)) ∧ (2 : Int) ≠ (0 : Int) ∧ inK IntKind.i64 ((s.tdiv ((2 : Int) ^ x)).tdiv (2 : Int)) ∧ ∃ (x_1 : Nat), (x_1 ≤ (8 : Nat) ∧ True) ∧ (9 : Nat) - x_1 < (9 : Nat) - x ∧ ((s.tdiv ((2 : Int) ^ x)).tdiv (2 : Int) = s.tdiv ((2 : Int) ^ x_1) ∧ (0 : Int) = (0 : Int) ∧ (↑(popK s.toNat x) : Int) + (s.tdiv ((2 : Int) ^ x)).tmod (2 : Int) = (↑(popK s.toNat x_1) : Int) ∧ True) ∧ True ∧ tabD = tabD ∧ True) ∧ (decide ((0 : Int) < s.tdiv ((2 : Int) ^ x)) = false → k [Dat.mk (I) (↑(popK s.toNat x) : Int)])) := by kernel_rfl
theorem vcBoth (a b : Int) (k : List Dat → Prop) : vcF ⟨Et, [], glT, [], []⟩ (anBoth a b) (Tryd.f23.body.getD .skip) Tryd.f23.ntmps [(.tmp 4, I)] [⟨I, a⟩, ⟨I, b⟩] k = (
  (∃ (x : Nat), (x ≤ (61 : Nat) ∧ True) ∧ (a = a.tdiv ((2 : Int) ^ x) ∧ b = b.tdiv ((2 : Int) ^ x) ∧ (0 : Int) = (0 : Int) ∧ (0 : Int) = (↑((a.toNat &&& b.toNat) % (2 : Nat) ^ x) : Int) ∧ (1 : Int) = (2 : Int) ^ x ∧ True) ∧ True ∧ tabD = tabD ∧ True) ∧ ∀ (x : Nat), x ≤ (61 : Nat) ∧ True → (decide ((0 : Int) < a.tdiv ((2 : Int) ^ x)) = true → (decide ((0 : Int) < b.tdiv ((2 : Int) ^ x)) = true → (2 : Int) ≠ (0 : Int) ∧ inK IntKind.i64 ((a.tdiv ((2 : Int) ^ x)).tmod (2 : Int)) ∧ (decide ((a.tdiv ((2 : Int) ^ x)).tmod (2 : Int) = (1 : Int)) = true → (2 : Int) ≠ (0 : Int) ∧ inK IntKind.i64 ((b.tdiv ((2 : Int) ^ x)).tmod (2 : Int)) ∧ (decide ((b.tdiv ((2 : Int) ^ x)).tmod (2 : Int) = (1 : Int)) = true → inK IntKind.i64 ((↑((a.toNat &&& b.toNat) % (2 : Nat) ^ x) : Int) + (2 : Int) ^ x) ∧ (2 : Int) ≠ (0 : Int) ∧ inK IntKind.i64 ((a.tdiv ((2 : Int) ^ x)).tdiv (2 : Int)) ∧ (2 : Int) ≠ (0 : Int) ∧ inK IntKind.i64 ((b.tdiv ((2 : Int) ^ x)).tdiv (2 : Int)) ∧ inK IntKind.i64 ((2 : Int) ^ x * (2 : Int)) ∧ ∃ (x_1 : Nat), (x_1 ≤ (61 : Nat) ∧ True) ∧ (62 : Nat) - x_1 < (62 : Nat) - x ∧ ((a.tdiv ((2 : Int) ^ x)).tdiv (2 : Int) = a.tdiv ((2 : Int) ^ x_1) ∧ (b.tdiv ((2 : Int) ^ x)).tdiv (2 : Int) = b.tdiv ((2 : Int) ^ x_1) ∧ (0 : Int) = (0 : Int) ∧ (↑((a.toNat &&& b.toNat) % (2 : Nat) ^ x) : Int) + (2 : Int) ^ x = (↑((a.toNat &&& b.toNat) % (2 : Nat) ^ x_1) : Int) ∧ (2 : Int) ^ x * (2 : Int) = (2 : Int) ^ x_1 ∧ True) ∧ True ∧ tabD = tabD ∧ True) ∧ (decide ((b.tdiv ((2 : Int) ^ x)).tmod (2 : Int) = (1 : Int)) = false → (2 : Int) ≠ (0 : Int) ∧ inK IntKind.i64 ((a.tdiv ((2 : Int) ^ x)).tdiv (2 : Int)) ∧ (2 : Int) ≠ (0 : Int) ∧ inK IntKind.i64 ((b.tdiv ((2 : Int) ^ x)).tdiv (2 : Int)) ∧ inK IntKind.i64 ((2 : Int) ^ x * (2 : Int)) ∧ ∃ (x_1 : Nat), (x_1 ≤ (61 : Nat) ∧ True) ∧ (62 : Nat) - x_1 < (62 : Nat) - x ∧ ((a.tdiv ((2 : Int) ^ x)).tdiv (2 : Int) = a.tdiv ((2 : Int) ^ x_1) ∧ (b.tdiv ((2 : Int) ^ x)).tdiv (2 : Int) = b.tdiv ((2 : Int) ^ x_1) ∧ (0 : Int) = (0 : Int) ∧ (↑((a.toNat &&& b.toNat) % (2 : Nat) ^ x) : Int) = (↑((a.toNat &&& b.toNat) % (2 : Nat) ^ x_1) : Int) ∧ (2 : Int) ^ x * (2 : Int) = (2 : Int) ^ x_1 ∧ True) ∧ True ∧ tabD = tabD ∧ True)) ∧ (decide ((a.tdiv ((2 : Int) ^ x)).tmod (2 : Int) = (1 : Int)) = false → (2 : Int) ≠ (0 : Int) ∧ inK IntKind.i64 ((a.tdiv ((2 : Int) ^ x)).tdiv (2 : Int)) ∧ (2 : Int) ≠ (0 : Int) ∧ inK IntKind.i64 ((b.tdiv ((2 : Int) ^ x)).tdiv (2 : Int)) ∧ inK IntKind.i64 ((2 : Int) ^ x * (2 : Int)) ∧ ∃ (x_1 : Nat), (x_1 ≤ (61 : Nat) ∧ True) ∧ (62 : Nat) - x_1 < (62 : Nat) - x ∧ ((a.tdiv ((2 : Int) ^ x)).tdiv (2 : Int) = a.tdiv ((2 : Int) ^ x_1) ∧ (b.tdiv ((2 : Int) ^ x)).tdiv (2 : Int) = b.tdiv ((2 : Int) ^ x_1) ∧ (0 : Int) = (0 : Int) ∧ (↑((a.toNat &&& b.toNat) % (2 : Nat) ^ x) : Int) = (↑((a.toNat &&& b.toNat) % (2 : Nat) ^ x_1) : Int) ∧ (2 : Int) ^ x * (2 : Int) = (2 : Int) ^ x_1 ∧ True) ∧ True ∧ tabD = tabD ∧ True)) ∧ (decide ((0 : Int) < b.tdiv ((2 : Int) ^ x)) = false → k [Dat.mk (I) (↑((a.toNat &&& b.toNat) % (2 : Nat) ^ x) : Int)])) ∧ (decide ((0 : Int) < a.tdiv ((2 : Int) ^ x)) = false → k [Dat.mk (I) (↑((a.toNat &&& b.toNat) % (2 : Nat) ^ x) : Int)])) := by kernel_rfl
theorem vcEither (a b : Int) (k : List Dat → Prop) : vcF ⟨Et, [(23, cBoth)], glT, [], []⟩ [] (Tryd.f21.body.getD .skip) Tryd.f21.ntmps [(.tmp 4, I)] [⟨I, a⟩, ⟨I, b⟩] k = (
  inK IntKind.i64 (a + b) ∧ (a < (2305843009213693952 : Int) ∧ True) ∧ inK IntKind.i64 (a + b - (↑(a.toNat &&& b.toNat) : Int)) ∧ k [Dat.mk (I) (a + b - (↑(a.toNat &&& b.toNat) : Int))]) := by kernel_rfl
theorem vcSumW (s : Int) (w : List Int) (k : List Dat → Prop) : vcF ⟨Et, [(29, cBitsF)], glT, [(38, cBits)], []⟩ (anSumW w) (Tryd.f35.body.getD .skip) Tryd.f35.ntmps [(.cell 3 3, I)] [⟨I, s⟩, ⟨.ptr (.sl I), some w⟩] k = (
  True ∧ (∃ (x : List Int), True ∧ x = [] ∧ (some w = some w ∧ ([] : List Nat) = [] ∧ some (some s, ()) = some (some s, ()) ∧ True) ∧ (((3 : Nat) = (3 : Nat) ∧ (0 : Int) = sumL w x) ∧ True) ∧ tabD = tabD ∧ True) ∧ (∀ (x : List Int), True → some (some s, ()) = some (some s, ())) ∧ (∀ (x : List Int) (y : Int) (rest : List Int), True → bitsOf s = x ++ y :: rest → (0 : Int) ≤ y ∧ y < (↑w.length : Int) ∧ inK IntKind.i64 (sumL w x + w.getD y.toNat (0 : Int)) ∧ ∃ (x_1 : List Int), True ∧ x_1 = x ++ [y] ∧ (some w = some w ∧ ([] : List Nat) = [] ∧ some (some s, ()) = some (some s, ()) ∧ True) ∧ (((3 : Nat) = (3 : Nat) ∧ sumL w x + w.getD y.toNat (0 : Int) = sumL w x_1) ∧ True) ∧ tabD = tabD ∧ True) ∧ ∀ (x : List Int), True → x = bitsOf s → k [Dat.mk (I) (sumL w x)]) := by kernel_rfl
theorem vcVotes (w : List Int) (need : Int) (k : List Dat → Prop) : vcF ⟨Et, [(24, cWithin), (29, cBitsF), (35, cSumW)], glT, [(38, cBits)], []⟩ (anVotes w need) (Tryd.f20.body.getD .skip) Tryd.f20.ntmps [(.tmp 4, .sl I), (.tmp 5, tErr)] [⟨.sl I, w⟩, ⟨I, need⟩] k = (
  (decide ((↑w.length : Int) = (0 : Int)) = true → (5 : Int) ≠ (0 : Int) ∧ k [Dat.mk (I).sl [], Dat.mk (Ty.err (54 : Nat)) (5 : Int)]) ∧ (decide ((↑w.length : Int) = (0 : Int)) = false → (decide ((8 : Int) < (↑w.length : Int)) = true → (4 : Int) ≠ (0 : Int) ∧ k [Dat.mk (I).sl [], Dat.mk (Ty.err (54 : Nat)) (4 : Int)]) ∧ (decide ((8 : Int) < (↑w.length : Int)) = false → (∃ (x : Nat), (x ≤ w.length ∧ (0 : Nat) < w.length ∧ w.length ≤ (8 : Nat) ∧ ∀ (x_1 : Int), x_1 ∈ List.take x w → inB x_1 (0 : Int) (20 : Int) = true) ∧ (([] : List Nat) = [] ∧ ([] : List Nat) = [] ∧ True ∧ (0 : Int) = (0 : Int) ∧ (↑w.length : Int) = (↑w.length : Int) ∧ (0 : Int) = (List.take x w).sum ∧ w = w ∧ (↑w.length : Int) = (↑w.length : Int) ∧ (0 : Int) = (↑x : Int) ∧ True) ∧ (((29 : Nat) = (29 : Nat) ∧ w = w) ∧ ((3 : Nat) = (3 : Nat) ∧ need = need) ∧ True) ∧ tabD = tabD ∧ True) ∧ ∀ (x : Nat), (x ≤ w.length ∧ (0 : Nat) < w.length ∧ w.length ≤ (8 : Nat) ∧ ∀ (x_1 : Int), x_1 ∈ List.take x w → inB x_1 (0 : Int) (20 : Int) = true) → (decide ((↑x : Int) < (↑w.length : Int)) = true → (0 : Int) ≤ (↑x : Int) ∧ (↑x : Int) < (↑w.length : Int) ∧ True ∧ ((!inB (w.getD (↑x : Int).toNat (0 : Int)) (0 : Int) (20 : Int)) = true → (1 : Int) ≠ (0 : Int) ∧ k [Dat.mk (I).sl [], Dat.mk (Ty.err (54 : Nat)) (1 : Int)]) ∧ ((!inB (w.getD (↑x : Int).toNat (0 : Int)) (0 : Int) (20 : Int)) = false → inK IntKind.i64 ((List.take x w).sum + w.getD (↑x : Int).toNat (0 : Int)) ∧ inK IntKind.i64 ((↑x : Int) + (1 : Int)) ∧ ∃ (x_1 : Nat), (x_1 ≤ w.length ∧ (0 : Nat) < w.length ∧ w.length ≤ (8 : Nat) ∧ ∀ (x : Int), x ∈ List.take x_1 w → inB x (0 : Int) (20 : Int) = true) ∧ w.length - x_1 < w.length - x ∧ (([] : List Nat) = [] ∧ ([] : List Nat) = [] ∧ True ∧ (0 : Int) = (0 : Int) ∧ (↑w.length : Int) = (↑w.length : Int) ∧ (List.take x w).sum + w.getD (↑x : Int).toNat (0 : Int) = (List.take x_1 w).sum ∧ w = w ∧ (↑w.length : Int) = (↑w.length : Int) ∧ (↑x : Int) + (1 : Int) = (↑x_1 : Int) ∧ True) ∧ (((29 : Nat) = (29 : Nat) ∧ w = w) ∧ ((3 : Nat) = (3 : Nat) ∧ need = need) ∧ True) ∧ tabD = tabD ∧ True)) ∧ (decide ((↑x : Int) < (↑w.length : Int)) = false → True ∧ ((!inB need (1 : Int) (List.take x w).sum) = true → (1 : Int) ≠ (0 : Int) ∧ k [Dat.mk (I).sl [], Dat.mk (Ty.err (54 : Nat)) (1 : Int)]) ∧ ((!inB need (1 : Int) (List.take x w).sum) = false → inK IntKind.i64 ((2 : Int) * need) ∧ (decide ((2 : Int) * need ≤ (List.take x w).sum) = true → (6 : Int) ≠ (0 : Int) ∧ k [Dat.mk (I).sl [], Dat.mk (Ty.err (54 : Nat)) (6 : Int)]) ∧ (decide ((2 : Int) * need ≤ (List.take x w).sum) = false → (0 : Int) ≤ (↑w.length : Int) ∧ (↑w.length : Int) < (64 : Int) ∧ IntKind.i64.bits = (64 : Nat) ∧ inK IntKind.i64 ((1 : Int) * (2 : Int) ^ (↑w.length : Int).toNat) ∧ (∃ (x : Nat), (x ≤ (2 : Nat) ^ w.length ∧ votesE w need = (0 : Int)) ∧ (([] : List Nat) = [] ∧ True ∧ (0 : Int) = (0 : Int) ∧ (↑w.length : Int) = (↑w.length : Int) ∧ ([] : List Nat) = [] ∧ True ∧ (1 : Int) * (2 : Int) ^ (↑w.length : Int).toNat = (1 : Int) * (2 : Int) ^ (↑w.length : Int).toNat ∧ (0 : Int) = (↑x : Int) ∧ True) ∧ (((3 : Nat) = (3 : Nat) ∧ need = need) ∧ ((36 : Nat) = (36 : Nat) ∧ some (some w, ()) = some (some w, ())) ∧ ((3 : Nat) = (3 : Nat) ∧ [] = votesU w need x) ∧ True) ∧ tabD = tabD ∧ True) ∧ ∀ (x : Nat), x ≤ (2 : Nat) ^ w.length ∧ votesE w need = (0 : Int) → (decide ((↑x : Int) < (1 : Int) * (2 : Int) ^ (↑w.length : Int).toNat) = true → (∃ (w_1 : List Int), some w = some w_1 ∧ wOk w_1 ∧ (0 : Int) ≤ (↑x : Int) ∧ (↑x : Int) < (2 : Int) ^ w_1.length) ∧ (∃ (w_1 : List Int), some w = some w_1 ∧ wOk w_1 ∧ (0 : Int) ≤ (↑x : Int) ∧ (↑x : Int) < (2 : Int) ^ w_1.length) ∧ (SV.pv (I) (1 : Nat) [] = SV.pv (I) (1 : Nat) [] ∧ SV.nils = SV.nils ∧ (0 : Int) = (0 : Int) ∧ (↑w.length : Int) = (↑w.length : Int) ∧ SV.pv (Ty.fn (35 : Nat) ((I).sl.ptr.pr Ty.un)) (2 : Nat) [] = SV.pv (Ty.fn (35 : Nat) ((I).sl.ptr.pr Ty.un)) (2 : Nat) [] ∧ SV.os (3 : Nat) = SV.os (3 : Nat) ∧ SV.pv (I) (4 : Nat) [] = SV.pv (I) (4 : Nat) [] ∧ (1 : Int) * (2 : Int) ^ (↑w.length : Int).toNat = (1 : Int) * (2 : Int) ^ (↑w.length : Int).toNat ∧ (↑x : Int) = (↑x : Int) ∧ decide ((↑x : Int) < (1 : Int) * (2 : Int) ^ (↑w.length : Int).toNat) = decide ((↑x : Int) < (1 : Int) * (2 : Int) ^ (↑w.length : Int).toNat) ∧ (↑x : Int) = (↑x : Int) ∧ some (some w, ()) = some (some w, ()) ∧ (↑x : Int) = (↑x : Int) ∧ sumW w (↑x : Int) = sumW w (↑x : Int) ∧ need = need ∧ decide (need ≤ sumW w (↑x : Int)) = decide (need ≤ sumW w (↑x : Int)) ∧ True) ∧ True ∧ (∃ (x_1 : List Int), True ∧ x_1 = [] ∧ (([] : List Nat) = [] ∧ True ∧ (0 : Int) = (0 : Int) ∧ (↑w.length : Int) = (↑w.length : Int) ∧ ([] : List Nat) = [] ∧ True ∧ ([] : List Nat) = [] ∧ ([] : List Nat) = [] ∧ (1 : Int) * (2 : Int) ^ (↑w.length : Int).toNat = (1 : Int) * (2 : Int) ^ (↑w.length : Int).toNat ∧ (↑x : Int) = (↑x : Int) ∧ some (some (↑x : Int), ()) = some (some (↑x : Int), ()) ∧ True) ∧ (((3 : Nat) = (3 : Nat) ∧ need = need) ∧ ((36 : Nat) = (36 : Nat) ∧ some (some w, ()) = some (some w, ())) ∧ ((3 : Nat) = (3 : Nat) ∧ votesU w need x = votesU w need x) ∧ ((3 : Nat) = (3 : Nat) ∧ (↑x : Int) = (↑x : Int)) ∧ ((4 : Nat) = (4 : Nat) ∧ decide (need ≤ sumW w (↑x : Int)) = lowL w need (↑x : Int) x_1) ∧ True) ∧ tabD = tabD ∧ True) ∧ (∀ (x_1 : List Int), True → some (some (↑x : Int), ()) = some (some (↑x : Int), ())) ∧ (∀ (x_1 : List Int) (y : Int) (rest : List Int), True → bitsOf (↑x : Int) = x_1 ++ y :: rest → ((lowL w need (↑x : Int) x_1 = true → (0 : Int) ≤ y ∧ y < (64 : Int) ∧ IntKind.i64.bits = (64 : Nat) ∧ inK IntKind.i64 ((1 : Int) * (2 : Int) ^ y.toNat) ∧ (0 : Int) ≤ (↑x : Int) ∧ (0 : Int) ≤ (1 : Int) * (2 : Int) ^ y.toNat ∧ (∃ (w_1 : List Int), some w = some w_1 ∧ wOk w_1 ∧ (0 : Int) ≤ (↑((↑x : Int).toNat ^^^ (↑x : Int).toNat &&& ((1 : Int) * (2 : Int) ^ y.toNat).toNat) : Int) ∧ (↑((↑x : Int).toNat ^^^ (↑x : Int).toNat &&& ((1 : Int) * (2 : Int) ^ y.toNat).toNat) : Int) < (2 : Int) ^ w_1.length) ∧ True) ∧ (lowL w need (↑x : Int) x_1 = false → True)) ∧ ∃ (x_2 : List Int), True ∧ x_2 = x_1 ++ [y] ∧ (([] : List Nat) = [] ∧ True ∧ (0 : Int) = (0 : Int) ∧ (↑w.length : Int) = (↑w.length : Int) ∧ ([] : List Nat) = [] ∧ True ∧ ([] : List Nat) = [] ∧ ([] : List Nat) = [] ∧ (1 : Int) * (2 : Int) ^ (↑w.length : Int).toNat = (1 : Int) * (2 : Int) ^ (↑w.length : Int).toNat ∧ (↑x : Int) = (↑x : Int) ∧ some (some (↑x : Int), ()) = some (some (↑x : Int), ()) ∧ True) ∧ (((3 : Nat) = (3 : Nat) ∧ need = need) ∧ ((36 : Nat) = (36 : Nat) ∧ some (some w, ()) = some (some w, ())) ∧ ((3 : Nat) = (3 : Nat) ∧ votesU w need x = votesU w need x) ∧ ((3 : Nat) = (3 : Nat) ∧ (↑x : Int) = (↑x : Int)) ∧ ((4 : Nat) = (4 : Nat) ∧ (lowL w need (↑x : Int) x_1 && decide (sumW w (↑((↑x : Int).toNat ^^^ (↑x : Int).toNat &&& ((1 : Int) * (2 : Int) ^ y.toNat).toNat) : Int) < need)) = lowL w need (↑x : Int) x_2) ∧ True) ∧ tabD = tabD ∧ True) ∧ ∀ (x_1 : List Int), True → x_1 = bitsOf (↑x : Int) → (lowL w need (↑x : Int) x_1 = true → (votesU w need x).length + ((List.replicate (1 : Nat) (0 : Int)).set (0 : Nat) (↑x : Int)).length ≤ (1000000000 : Nat) ∧ inK IntKind.i64 ((↑x : Int) + (1 : Int)) ∧ ∃ (x_2 : Nat), (x_2 ≤ (2 : Nat) ^ w.length ∧ votesE w need = (0 : Int)) ∧ (2 : Nat) ^ w.length - x_2 < (2 : Nat) ^ w.length - x ∧ (([] : List Nat) = [] ∧ True ∧ (0 : Int) = (0 : Int) ∧ (↑w.length : Int) = (↑w.length : Int) ∧ ([] : List Nat) = [] ∧ True ∧ (1 : Int) * (2 : Int) ^ (↑w.length : Int).toNat = (1 : Int) * (2 : Int) ^ (↑w.length : Int).toNat ∧ (↑x : Int) + (1 : Int) = (↑x_2 : Int) ∧ True) ∧ (((3 : Nat) = (3 : Nat) ∧ need = need) ∧ ((36 : Nat) = (36 : Nat) ∧ some (some w, ()) = some (some w, ())) ∧ ((3 : Nat) = (3 : Nat) ∧ (votesU w need x).append ((List.replicate (1 : Nat) (0 : Int)).set (0 : Nat) (↑x : Int)) = votesU w need x_2) ∧ True) ∧ tabD = tabD ∧ True) ∧ (lowL w need (↑x : Int) x_1 = false → inK IntKind.i64 ((↑x : Int) + (1 : Int)) ∧ ∃ (x_2 : Nat), (x_2 ≤ (2 : Nat) ^ w.length ∧ votesE w need = (0 : Int)) ∧ (2 : Nat) ^ w.length - x_2 < (2 : Nat) ^ w.length - x ∧ (([] : List Nat) = [] ∧ True ∧ (0 : Int) = (0 : Int) ∧ (↑w.length : Int) = (↑w.length : Int) ∧ ([] : List Nat) = [] ∧ True ∧ (1 : Int) * (2 : Int) ^ (↑w.length : Int).toNat = (1 : Int) * (2 : Int) ^ (↑w.length : Int).toNat ∧ (↑x : Int) + (1 : Int) = (↑x_2 : Int) ∧ True) ∧ (((3 : Nat) = (3 : Nat) ∧ need = need) ∧ ((36 : Nat) = (36 : Nat) ∧ some (some w, ()) = some (some w, ())) ∧ ((3 : Nat) = (3 : Nat) ∧ votesU w need x = votesU w need x_2) ∧ True) ∧ tabD = tabD ∧ True)) ∧ (decide ((↑x : Int) < (1 : Int) * (2 : Int) ^ (↑w.length : Int).toNat) = false → k [Dat.mk (I).sl (votesU w need x), Dat.mk (Ty.err (54 : Nat)) (0 : Int)]))))))) := by kernel_rfl
end Go.Proofs.YtdpnakebhpecfaaDoor

/- The quorums of a synod: votes. -/
namespace Go.Proofs.YtdpnakebhpecfaaDoor.V
open Go.Vc
def bitB (s i : Int) : Bool := decide (0 ≤ s) && s.toNat.testBit i.toNat
theorem tdivN (n x : Nat) : (n : Int).tdiv ((2 : Int) ^ x) = ((n / 2 ^ x : Nat) : Int) := by
  rw [show (2 : Int) ^ x = ((2 ^ x : Nat) : Int) by rw [Int.natCast_pow]; rfl, ← Int.ofNat_tdiv]
theorem tdiv_pow (s : Int) (x : Nat) : (s.tdiv ((2 : Int) ^ x)).tdiv 2 = s.tdiv ((2 : Int) ^ (x + 1)) := by
  have key : ∀ n : Nat, ((n : Int).tdiv ((2 : Int) ^ x)).tdiv 2 = (n : Int).tdiv ((2 : Int) ^ (x + 1)) := by
    intro n
    rw [tdivN, tdivN, Nat.pow_succ, ← Nat.div_div_eq_div_mul]
    have := tdivN (n / 2 ^ x) 1
    simpa using this
  rcases Int.le_total 0 s with h | h
  · obtain ⟨n, rfl⟩ := Int.eq_ofNat_of_zero_le h
    exact key n
  · obtain ⟨n, hn⟩ := Int.eq_ofNat_of_zero_le (show 0 ≤ -s by omega)
    have e : s = -(n : Int) := by omega
    rw [e, Int.neg_tdiv, Int.neg_tdiv, Int.neg_tdiv, key]
theorem tdiv_in {s : Int} (h : inK .i64 s) (x : Nat) : inK .i64 (s.tdiv ((2 : Int) ^ x)) ∧ inK .i64 ((s.tdiv ((2 : Int) ^ x)).tmod 2) := by
  rw [inK_i64] at h
  have key : ∀ n : Nat, ((n : Int).tdiv ((2 : Int) ^ x)) ≤ n ∧ 0 ≤ ((n : Int).tdiv ((2 : Int) ^ x)) := by
    intro n
    rw [tdivN]
    have h := Nat.div_le_self n (2 ^ x)
    generalize n / 2 ^ x = q at h
    omega
  have hb : -9223372036854775808 ≤ s.tdiv ((2 : Int) ^ x) ∧ s.tdiv ((2 : Int) ^ x) ≤ 9223372036854775807 := by
    rcases Int.le_total 0 s with h0 | h0
    · obtain ⟨n, rfl⟩ := Int.eq_ofNat_of_zero_le h0
      have := key n; omega
    · obtain ⟨n, hn⟩ := Int.eq_ofNat_of_zero_le (show 0 ≤ -s by omega)
      have e : s = -(n : Int) := by omega
      have := key n
      rw [e, Int.neg_tdiv]; omega
  refine ⟨inK_i64.2 hb, inK_i64.2 ?_⟩
  generalize s.tdiv ((2 : Int) ^ x) = q at hb
  have := Int.tmod_two_eq q
  omega
theorem bitB_nat (a k : Nat) : bitB (a : Int) (k : Int) = a.testBit k := by
  unfold bitB
  simp
theorem bit_of {s : Int} {x : Nat} : decide ((s.tdiv ((2 : Int) ^ x)).tmod 2 = 1) = bitB s x := by
  unfold bitB
  by_cases h : 0 ≤ s
  · obtain ⟨n, rfl⟩ := Int.eq_ofNat_of_zero_le h
    have e : ((n : Int).tdiv ((2 : Int) ^ x)).tmod 2 = ((n / 2 ^ x % 2 : Nat) : Int) := by
      rw [show (2 : Int) ^ x = ((2 ^ x : Nat) : Int) by rw [Int.natCast_pow]; rfl, ← Int.ofNat_tdiv]
      exact (Int.ofNat_tmod _ 2).symm
    rw [e]
    simp only [h, decide_true, Bool.true_and, Int.toNat_natCast]
    rw [Nat.testBit_eq_decide_div_mod_eq]
    apply decide_eq_decide.2
    exact ⟨fun h => by exact_mod_cast h, fun h => by exact_mod_cast h⟩
  · have hd : decide (0 ≤ s) = false := by simpa using h
    rw [hd, Bool.false_and]
    have hle : s.tdiv ((2 : Int) ^ x) ≤ 0 := by
      have := Int.tdiv_nonneg (a := -s) (b := (2 : Int) ^ x) (by omega) (Int.le_of_lt (two_pow_pos x))
      rw [Int.neg_tdiv] at this; omega
    simp only [decide_eq_false_iff_not]
    intro hc
    have h2 := Int.tmod_nonneg (a := -(s.tdiv ((2 : Int) ^ x))) 2 (by omega)
    rw [Int.neg_tmod] at h2
    omega
theorem getD_at {l : List Int} {i : Nat} (h : i < l.length) : l.getD i 0 = l[i] := by
  rw [List.getD_eq_getElem?_getD, List.getElem?_eq_getElem h]; rfl
theorem take_snoc {l : List Int} {i : Nat} (h : i < l.length) : l.take (i + 1) = l.take i ++ [l.getD i 0] := by
  rw [List.take_add_one, List.getElem?_eq_getElem h, getD_at h]; rfl
theorem getD_mem {l : List Int} {i : Nat} (h : i < l.length) : l.getD i 0 ∈ l := by
  rw [getD_at h]; exact List.getElem_mem h
theorem both_step (a b x : Nat) : (a &&& b) % 2 ^ (x + 1) = (a &&& b) % 2 ^ x + (if a.testBit x = true ∧ b.testBit x = true then 2 ^ x else 0) := by
  have h : (a.testBit x = true ∧ b.testBit x = true) ↔ (a &&& b) / 2 ^ x % 2 = 1 := by
    have := Nat.testBit_and a b x
    rw [Nat.testBit_eq_decide_div_mod_eq] at this
    rw [← Bool.and_eq_true, ← this, decide_eq_true_eq]
  rw [Nat.mod_pow_succ]
  by_cases hb : (a &&& b) / 2 ^ x % 2 = 1
  · rw [if_pos (h.2 hb), hb, Nat.mul_one]
  · have h0 : (a &&& b) / 2 ^ x % 2 = 0 := by omega
    rw [if_neg (fun e => hb (h.1 e)), h0, Nat.mul_zero]
theorem tmod_bit (n x : Nat) : (((n : Int).tdiv ((2 : Int) ^ x)).tmod 2 = 1) ↔ n.testBit x = true := by
  have h := bit_of (s := (n : Int)) (x := x)
  rw [bitB_nat] at h
  constructor
  · intro e; rw [← h]; exact decide_eq_true e
  · intro e; rw [e] at h; exact of_decide_eq_true h
theorem okBoth : PlainOk Tryd.prog glT 23 cBoth := by
  refine plain_of (CxOk.mk' Et_ok rfl mixed (gl := glT) GOk.nil GoOk.nil noIt) Tryd.func23 (c := Tryd.f23.body.getD .skip) (rvs := [(.tmp 4, I)]) (by kernel_rfl) (by kernel_rfl) (by kernel_rfl) ?_
  intro ds k ⟨hp, hk⟩ hwf
  obtain ⟨a, b, rfl, ha61, -⟩ := dest2 hp
  have hk : k [⟨I, ((a.toNat &&& b.toNat : Nat) : Int)⟩] := hk
  have ha : inK .i64 a := (wf2 hwf).1
  have hb : inK .i64 b := (wf2 hwf).2
  have hbi := inK_i64.1 hb
  refine ⟨anBoth a b, ?_⟩
  rw [vcBoth]
  simp only [decide_eq_true_eq, decide_eq_false_iff_not, and_true, true_and, ne_eq]
  have h20 : ¬ (2 : Int) = 0 := by decide
  have fin : ∀ (s : Int) (x : Nat), ¬ 0 < s.tdiv ((2 : Int) ^ x) → s.toNat < 2 ^ x := by
    intro s x h
    by_cases hs : 0 ≤ s
    · obtain ⟨n, rfl⟩ := Int.eq_ofNat_of_zero_le hs
      rw [tdivN] at h
      have h0 : n / 2 ^ x = 0 := by
        generalize n / 2 ^ x = q at h
        omega
      rcases Nat.lt_or_ge n (2 ^ x) with h | h
      · exact h
      · have := Nat.div_pos h (Nat.two_pow_pos x); omega
    · have : s.toNat = 0 := by omega
      rw [this]; exact Nat.two_pow_pos x
  have fink : ∀ x : Nat, (a.toNat &&& b.toNat) < 2 ^ x → k [⟨I, (((a.toNat &&& b.toNat) % 2 ^ x : Nat) : Int)⟩] := by
    intro x h; rw [Nat.mod_eq_of_lt h]; exact hk
  refine ⟨⟨0, by omega, by simp, by simp, by simp [Nat.mod_one], rfl⟩, fun x hx => ⟨fun hA => ⟨fun hB => ?_, fun hB => fink x (Nat.lt_of_le_of_lt Nat.and_le_right (fin b x hB))⟩, fun hA => fink x (Nat.lt_of_le_of_lt Nat.and_le_left (fin a x hA))⟩⟩
  have hpos := two_pow_pos x
  have hapos : 0 ≤ a := by
    refine Int.not_lt.1 fun hneg => ?_
    have := Int.tdiv_nonneg (a := -a) (b := (2 : Int) ^ x) (by omega) (by omega)
    rw [Int.neg_tdiv] at this; omega
  have hbpos : 0 ≤ b := by
    refine Int.not_lt.1 fun hneg => ?_
    have := Int.tdiv_nonneg (a := -b) (b := (2 : Int) ^ x) (by omega) (by omega)
    rw [Int.neg_tdiv] at this; omega
  obtain ⟨m, rfl⟩ := Int.eq_ofNat_of_zero_le hapos
  obtain ⟨n, rfl⟩ := Int.eq_ofNat_of_zero_le hbpos
  simp only [Int.toNat_natCast] at *
  have hx60 : x ≤ 60 := by
    rcases Nat.lt_or_ge x 61 with h | h
    · omega
    · rw [tdivN] at hA
      have h61 : (2 : Nat) ^ 61 = 2305843009213693952 := by decide
      have hpw : 2 ^ 61 ≤ 2 ^ x := Nat.pow_le_pow_right (by decide) h
      have hm61 : m < 2 ^ 61 := by rw [h61]; omega
      have h0 : m / 2 ^ x = 0 := Nat.div_eq_of_lt (Nat.lt_of_lt_of_le hm61 hpw)
      rw [h0] at hA
      exact absurd hA (by decide)
  have hp2 : (2 : Int) ^ x * 2 = 2 ^ (x + 1) := by rw [Int.pow_succ]
  have hple := two_pow_le (n := x + 1) (by omega)
  have hplx : (2 : Int) ^ x ≤ 2 ^ (x + 1) := by rw [← hp2]; omega
  have hcast : ((2 ^ x : Nat) : Int) = (2 : Int) ^ x := by rw [Int.natCast_pow]; rfl
  have hmod : (((m &&& n) % 2 ^ x : Nat) : Int) < (2 : Int) ^ x := by
    rw [← hcast]; exact Int.ofNat_lt.2 (Nat.mod_lt _ (Nat.two_pow_pos x))
  have hst := both_step m n x
  have nxt : ∀ v : Int, (v = (((m &&& n) % 2 ^ (x + 1) : Nat) : Int)) → ¬(2 : Int) = 0 ∧ inK .i64 (((m : Int).tdiv ((2 : Int) ^ x)).tdiv 2) ∧ ¬(2 : Int) = 0 ∧ inK .i64 (((n : Int).tdiv ((2 : Int) ^ x)).tdiv 2) ∧ inK .i64 ((2 : Int) ^ x * 2) ∧ ∃ x_1 : Nat, x_1 ≤ 61 ∧ 62 - x_1 < 62 - x ∧ ((m : Int).tdiv ((2 : Int) ^ x)).tdiv 2 = (m : Int).tdiv ((2 : Int) ^ x_1) ∧
      ((n : Int).tdiv ((2 : Int) ^ x)).tdiv 2 = (n : Int).tdiv ((2 : Int) ^ x_1) ∧ v = (((m &&& n) % 2 ^ x_1 : Nat) : Int) ∧ (2 : Int) ^ x * 2 = 2 ^ x_1 := by
    intro v hv
    refine ⟨h20, by rw [tdiv_pow]; exact (tdiv_in ha (x + 1)).1, h20, by rw [tdiv_pow]; exact (tdiv_in hb (x + 1)).1, inK_i64.2 (by rw [hp2]; omega), x + 1, by omega, by omega, tdiv_pow _ _, tdiv_pow _ _, hv, hp2⟩
  refine ⟨h20, (tdiv_in ha x).2, fun hAb => ⟨h20, (tdiv_in hb x).2, fun hBb => ⟨inK_i64.2 (by omega), nxt _ ?_⟩, fun hBb => nxt _ ?_⟩, fun hAb => nxt _ ?_⟩
  · rw [tmod_bit] at hAb hBb
    rw [hst, if_pos ⟨hAb, hBb⟩]
    omega
  · rw [tmod_bit] at hBb
    rw [hst, if_neg (fun h => hBb h.2)]; rfl
  · rw [tmod_bit] at hAb
    rw [hst, if_neg (fun h => hAb h.1)]; rfl
theorem popK_succ (x k : Nat) : popK x (k + 1) = popK x k + (if x.testBit k = true then 1 else 0) := by
  unfold popK
  rw [List.range_succ, List.filter_append, List.length_append, List.filter_cons]
  cases x.testBit k <;> rfl
theorem popK_le (x k : Nat) : popK x k ≤ k := by
  unfold popK
  exact Nat.le_trans (List.length_filter_le _ _) (by simp)
theorem popK_top {x k : Nat} (hx : x < 2 ^ k) (hk : k ≤ 8) : popK x k = popN x := by
  have key : ∀ d, k + d ≤ 8 → popK x (k + d) = popK x k := by
    intro d
    induction d with
    | zero => intro _; rfl
    | succ d ih =>
      intro hd
      have hb : x.testBit (k + d) = false := Nat.testBit_lt_two_pow (Nat.lt_of_lt_of_le hx (Nat.pow_le_pow_right (by decide) (by omega)))
      rw [← Nat.add_assoc, popK_succ, ih (by omega), hb]; rfl
  have := key (8 - k) (by omega)
  rw [show k + (8 - k) = 8 by omega] at this
  rw [← this]; rfl
theorem okManyR : PlainOk Tryd.prog glT 22 cManyR := by
  refine plain_of (CxOk.mk' Et_ok rfl mixed (gl := glT) GOk.nil GoOk.nil noIt) Tryd.func22 (c := Tryd.f22.body.getD .skip) (rvs := [(.tmp 2, I)]) (by kernel_rfl) (by kernel_rfl) (by kernel_rfl) ?_
  intro ds k ⟨hp, hk⟩ hwf
  obtain ⟨s, rfl, h256, -⟩ := dest1 hp
  have hk : k [⟨I, (popN s.toNat : Int)⟩] := hk
  have hs : inK .i64 s := wf1 hwf
  refine ⟨anManyR s, ?_⟩
  rw [vcManyR]
  simp only [decide_eq_true_eq, decide_eq_false_iff_not, and_true, true_and, ne_eq]
  have h20 : ¬ (2 : Int) = 0 := by decide
  refine ⟨⟨0, by omega, by simp, rfl⟩, fun x hx => ⟨fun h => ?_, fun h => ?_⟩⟩
  · have hpos : 0 ≤ s := by
      refine Int.not_lt.1 fun hneg => ?_
      have := Int.tdiv_nonneg (a := -s) (b := (2 : Int) ^ x) (by omega) (Int.le_of_lt (two_pow_pos x))
      rw [Int.neg_tdiv] at this; omega
    obtain ⟨m, rfl⟩ := Int.eq_ofNat_of_zero_le hpos
    simp only [Int.toNat_natCast] at *
    have hx7 : x ≤ 7 := by
      rcases Nat.lt_or_ge x 8 with h1 | h1
      · omega
      · have hx8 : x = 8 := by omega
        subst hx8
        rw [tdivN] at h
        have : m / 2 ^ 8 = 0 := Nat.div_eq_of_lt (by omega)
        rw [this] at h
        exact absurd h (by decide)
    have hle := popK_le m x
    have hmod : ((m : Int).tdiv ((2 : Int) ^ x)).tmod 2 = if m.testBit x = true then 1 else 0 := by
      have h1 := tmod_bit m x
      have h2 := Int.tmod_two_eq ((m : Int).tdiv ((2 : Int) ^ x))
      have h3 := Int.tmod_nonneg (a := (m : Int).tdiv ((2 : Int) ^ x)) 2 (by omega)
      by_cases hb : m.testBit x = true
      · rw [if_pos hb]; exact h1.2 hb
      · rw [if_neg hb]
        have : ¬ ((m : Int).tdiv ((2 : Int) ^ x)).tmod 2 = 1 := fun e => hb (h1.1 e)
        omega
    have hst := popK_succ m x
    refine ⟨h20, (tdiv_in hs x).2, ?_, h20, by rw [tdiv_pow]; exact (tdiv_in hs (x + 1)).1, x + 1, by omega, by omega, tdiv_pow _ _, ?_⟩
    · rw [hmod]
      split <;> exact inK_i64.2 (by omega)
    · rw [hmod, hst]
      split <;> simp
  · have : popK s.toNat x = popN s.toNat := by
      refine popK_top ?_ hx
      by_cases hpos : 0 ≤ s
      · obtain ⟨m, rfl⟩ := Int.eq_ofNat_of_zero_le hpos
        rw [tdivN] at h
        rw [Int.toNat_natCast]
        have h0 : m / 2 ^ x = 0 := by
          generalize m / 2 ^ x = q at h
          omega
        rcases Nat.lt_or_ge m (2 ^ x) with h1 | h1
        · exact h1
        · have := Nat.div_pos h1 (Nat.two_pow_pos x); omega
      · have hneg : s < (0 : Int) := Int.not_le.1 hpos
        have : s.toNat = 0 := Int.toNat_of_nonpos (Int.le_of_lt hneg)
        rw [this]; exact Nat.two_pow_pos x
    rw [this]; exact hk
theorem or_and_add (a : Nat) : ∀ b : Nat, (a ||| b) + (a &&& b) = a + b := by
  induction a using Nat.strongRecOn with
  | _ a ih =>
    intro b
    by_cases ha : a = 0
    · subst ha; simp
    · have h := ih (a / 2) (by omega) (b / 2)
      have h1 : (a ||| b) / 2 = a / 2 ||| b / 2 := Nat.or_div_two
      have h2 : (a &&& b) / 2 = a / 2 &&& b / 2 := Nat.and_div_two
      have h3 : (a ||| b) % 2 = 1 ↔ a % 2 = 1 ∨ b % 2 = 1 := Nat.or_mod_two_eq_one
      have h4 : (a &&& b) % 2 = 1 ↔ a % 2 = 1 ∧ b % 2 = 1 := Nat.and_mod_two_eq_one
      omega
theorem either_eq (a b : Int) (ha : 0 ≤ a) (hb : 0 ≤ b) : a + b - ((a.toNat &&& b.toNat : Nat) : Int) = ((a.toNat ||| b.toNat : Nat) : Int) ∧ 0 ≤ a + b - ((a.toNat &&& b.toNat : Nat) : Int) ∧ a + b - ((a.toNat &&& b.toNat : Nat) : Int) ≤ a + b := by
  have h := or_and_add a.toNat b.toNat
  generalize a.toNat &&& b.toNat = p at *
  generalize a.toNat ||| b.toNat = q at *
  omega
theorem okEither : PlainOk Tryd.prog glT 21 cEither := by
  refine plain_of (CxOk.mk' Et_ok rfl mixed (gl := glT) (GOk.cons okBoth Tryd.func23 (by kernel_rfl) (by kernel_rfl) GOk.nil) GoOk.nil noIt) Tryd.func21 (c := Tryd.f21.body.getD .skip) (rvs := [(.tmp 4, I)]) (by kernel_rfl) (by kernel_rfl) (by kernel_rfl) ?_
  intro ds k ⟨hp, hk⟩ hwf
  obtain ⟨a, b, rfl, ⟨ha, ha'⟩, hb, hb'⟩ := dest2 hp
  have hk : k [⟨I, ((a.toNat ||| b.toNat : Nat) : Int)⟩] := hk
  refine ⟨[], ?_⟩
  rw [vcEither]
  obtain ⟨he, h1, h2⟩ := either_eq a b ha hb
  have ha'' : a < (1152921504606846976 : Int) := ha'
  have hb'' : b < (1152921504606846976 : Int) := hb'
  refine ⟨inK_i64.2 ⟨by have := Int.add_nonneg ha hb; omega, by have := Int.add_lt_add ha'' hb''; omega⟩, ⟨by omega, trivial⟩, inK_i64.2 ⟨by omega, by have := Int.add_lt_add ha'' hb''; omega⟩, ?_⟩
  rw [he]; exact hk
theorem bitsOf_len (s : Int) : (bitsOf s).length ≤ 64 := by
  unfold bitsOf bitsN
  rw [List.length_map]
  exact Nat.le_trans (List.length_filter_le _ _) (by simp)
theorem sumL_snoc (w l : List Int) (y : Int) : sumL w (l ++ [y]) = sumL w l + w.getD y.toNat 0 := by
  unfold sumL
  rw [List.map_append, List.sum_append]; simp
theorem w_at {w : List Int} (h : wOk w) (i : Nat) : 0 ≤ w.getD i 0 ∧ w.getD i 0 ≤ 20 := by
  rcases Nat.lt_or_ge i w.length with hi | hi
  · exact h.2 _ (getD_mem hi)
  · rw [List.getD_eq_getElem?_getD, List.getElem?_eq_none hi]; decide
theorem sumL_bd {w : List Int} (h : wOk w) : ∀ l : List Int, 0 ≤ sumL w l ∧ sumL w l ≤ 20 * (l.length : Int) := by
  intro l
  induction l with
  | nil => simp [sumL]
  | cons a r ih =>
    have e : sumL w (a :: r) = w.getD a.toNat 0 + sumL w r := by simp [sumL]
    have := w_at h a.toNat
    rw [e, List.length_cons]
    omega
theorem okSumW : PlainOk Tryd.prog glT 35 cSumW := by
  refine plain_of (CxOk.mk' Et_ok rfl mixed (gl := glT) (GOk.cons okBits Tryd.func29 (by kernel_rfl) (by kernel_rfl) GOk.nil) GoOk.nil itB) Tryd.func35 (c := Tryd.f35.body.getD .skip) (rvs := [(.cell 3 3, I)]) (by kernel_rfl) (by kernel_rfl) (by kernel_rfl) ?_
  intro ds k ⟨hp, hk⟩ hwf
  obtain ⟨s, p, rfl, w, rfl, hw, h0, hs⟩ := dest2 hp
  have hk : k [⟨I, sumL w (bitsOf s)⟩] := hk
  refine ⟨anSumW w, ?_⟩
  rw [vcSumW]
  simp only [and_true, true_and]
  refine ⟨⟨[], rfl, rfl⟩, fun _ _ => trivial, fun x y rest _ hx => ?_, fun x _ hx => by rw [hx]; exact hk⟩
  have hy : y ∈ bitsOf s := by rw [hx]; exact List.mem_append_right _ (.head _)
  obtain ⟨b1, b2, -⟩ := bit_pos h0 hs (by have := hw.1; omega) hy
  have hl := bitsOf_len s
  rw [hx, List.length_append, List.length_cons] at hl
  have h1 := sumL_bd hw x
  have h2 := w_at hw y.toNat
  exact ⟨b1, b2, inK_i64.2 (by omega), x ++ [y], rfl, (sumL_snoc w x y).symm⟩
theorem sum_bd : ∀ {l : List Int}, (∀ x ∈ l, 0 ≤ x ∧ x ≤ 20) → 0 ≤ l.sum ∧ l.sum ≤ 20 * (l.length : Int) := by
  intro l
  induction l with
  | nil => simp
  | cons a r ih =>
    intro h
    have h1 := h a (.head _)
    have h2 := ih fun x hx => h x (.tail _ hx)
    rw [List.sum_cons, List.length_cons]
    omega
theorem sum_snoc {l : List Int} {x : Nat} (h : x < l.length) : (l.take (x + 1)).sum = (l.take x).sum + l.getD x 0 := by
  rw [take_snoc h, List.sum_append]; simp
theorem lessI_lt {s y : Int} {n : Nat} (h0 : 0 ≤ s) (hs : s < 2 ^ n) : 0 ≤ lessI s y ∧ lessI s y < 2 ^ n := by
  obtain ⟨N, rfl⟩ := Int.eq_ofNat_of_zero_le h0
  have hs' : N < 2 ^ n := by rw [powC] at hs; omega
  refine ⟨Int.natCast_nonneg _, ?_⟩
  unfold lessI
  rw [powC n, Int.toNat_natCast]
  exact Int.ofNat_lt.2 (Nat.xor_lt_two_pow hs' (Nat.lt_of_le_of_lt Nat.and_le_left hs'))
theorem lowL_snoc (w : List Int) (need s : Int) (l : List Int) (y : Int) : lowL w need s (l ++ [y]) = (lowL w need s l && decide (sumW w (lessI s y) < need)) := by
  unfold lowL
  rw [List.all_append]
  simp [Bool.and_assoc]
theorem votesU_succ (w : List Int) (need : Int) (k : Nat) : votesU w need (k + 1) = votesU w need k ++ (if lowB w need (k : Int) = true then [(k : Int)] else []) := by
  unfold votesU
  rw [List.range_succ, List.map_append, List.filter_append]
  congr 1
  cases h : lowB w need (k : Int) <;> simp [h]
theorem votesU_len (w : List Int) (need : Int) (k : Nat) : (votesU w need k).length ≤ k := by
  unfold votesU
  exact Nat.le_trans (List.length_filter_le _ _) (by simp)
theorem inB_of {x lo hi : Int} (h : inB x lo hi = true) : lo ≤ x ∧ x ≤ hi := by unfold inB at h; simpa using h
theorem votes_vc (w : List Int) (need : Int) (k : List Dat → Prop) (hk : k [⟨.sl I, votesL w need⟩, ⟨tErr, votesE w need⟩]) :
    vcF ⟨Et, [(24, cWithin), (29, cBitsF), (35, cSumW)], glT, [(38, cBits)], []⟩ (anVotes w need) (Tryd.f20.body.getD .skip) Tryd.f20.ntmps [(.tmp 4, .sl I), (.tmp 5, tErr)] [⟨.sl I, w⟩, ⟨I, need⟩] k := by
  rw [vcVotes]
  simp only [decide_eq_true_eq, decide_eq_false_iff_not, and_true, true_and, Bool.not_eq_true', Bool.not_eq_false', Int.toNat_natCast]
  have bad : ∀ e : Int, e ≠ 0 → votesE w need = e → e ≠ 0 ∧ k [⟨.sl I, ([] : List Int)⟩, ⟨tErr, e⟩] := by
    intro e h0 he
    refine ⟨h0, ?_⟩
    unfold votesL at hk
    rw [he, if_neg h0] at hk; exact hk
  refine ⟨fun h => bad 5 (by decide) ?_, fun h0 => ⟨fun h => bad 4 (by decide) ?_, fun h8 => ⟨⟨0, ⟨by omega, by omega, by omega, fun y hy => by simp at hy⟩, by simp⟩, fun x ⟨hx, _, _, hall⟩ => ⟨fun hlt => ?_, fun hge => ?_⟩⟩⟩⟩
  · unfold votesE; rw [if_pos (by omega)]
  · unfold votesE; rw [if_neg (by omega), if_pos (by omega)]
  · have hxl : x < w.length := by omega
    refine ⟨by omega, hlt, fun hb => bad 1 (by decide) ?_, fun hb => ?_⟩
    · have : w.all (fun x => inB x 0 20) = false := by
        cases hc : w.all (fun x => inB x 0 20) with
        | false => rfl
        | true =>
          have := List.all_eq_true.1 hc _ (getD_mem hxl)
          rw [hb] at this; cases this
      unfold votesE; rw [if_neg (by omega), if_neg (by omega), if_pos this]
    · have h1 := sum_bd (l := w.take x) fun y hy => inB_of (hall y hy)
      have h2 := inB_of hb
      have h3 : (w.take x).length ≤ 8 := by rw [List.length_take]; omega
      refine ⟨inK_i64.2 (by omega), inK_i64.2 (by omega), x + 1, ⟨by omega, by omega, by omega, fun y hy => ?_⟩, by omega, (sum_snoc hxl).symm, by omega⟩
      rw [take_snoc hxl] at hy
      rcases List.mem_append.1 hy with hy | hy
      · exact hall y hy
      · rw [List.mem_singleton.1 hy]; exact hb
  · have htk : w.take x = w := List.take_of_length_le (by omega)
    rw [htk] at hall
    rw [htk]
    have hwall : w.all (fun x => inB x 0 20) = true := List.all_eq_true.2 hall
    have hw : wOk w := ⟨by omega, fun y hy => inB_of (hall y hy)⟩
    have h1 := sum_bd hw.2
    refine ⟨fun hb => bad 1 (by decide) ?_, fun hb => ⟨inK_i64.2 (by have := inB_of hb; omega), fun h2 => bad 6 (by decide) ?_, fun h2 => ?_⟩⟩
    · unfold votesE; rw [if_neg (by omega), if_neg (by omega), if_neg (by rw [hwall]; decide), if_pos hb]
    · unfold votesE; rw [if_neg (by omega), if_neg (by omega), if_neg (by rw [hwall]; decide), if_neg (by rw [hb]; decide), if_pos h2]
    · have he : votesE w need = 0 := by
        unfold votesE; rw [if_neg (by omega), if_neg (by omega), if_neg (by rw [hwall]; decide), if_neg (by rw [hb]; decide), if_neg h2]
      have hpc := powC w.length
      have hpp := Nat.two_pow_pos w.length
      have hpw : 2 ^ w.length ≤ 256 := Nat.pow_le_pow_right (n := 2) (by decide) (show w.length ≤ 8 by omega)
      simp only [he, and_true, Int.one_mul]
      refine ⟨by omega, by omega, rfl, inK_i64.2 (by rw [hpc]; omega), ⟨0, by omega, rfl, rfl⟩, fun x hx => ⟨fun hlt => ?_, fun hge => ?_⟩⟩
      · have hxl : x < 2 ^ w.length := by rw [hpc] at hlt; omega
        refine ⟨⟨w, rfl, hw, by omega, hlt⟩, ⟨w, rfl, hw, by omega, hlt⟩, ⟨[], rfl, by unfold lowL; simp⟩, fun _ _ => trivial, fun z y rest _ hz => ?_, fun z _ hz => ?_⟩
        · have hy : y ∈ bitsOf (x : Int) := by rw [hz]; exact List.mem_append_right _ (.head _)
          obtain ⟨b1, b2, -⟩ := bit_pos (by omega) hlt (by omega) hy
          have hle := two_pow_le (n := y.toNat) (by omega)
          have hlp := two_pow_pos y.toNat
          have hless := lessI_lt (y := y) (by omega) hlt
          unfold lessI at hless
          rw [Int.one_mul, Int.toNat_natCast] at hless
          refine ⟨⟨fun _ => ⟨b1, by omega, rfl, inK_i64.2 (by omega), by omega, by omega, w, rfl, hw, hless.1, hless.2⟩, fun _ => trivial⟩, z ++ [y], rfl, ?_⟩
          rw [lowL_snoc]
          unfold lessI
          rw [Int.one_mul, Int.toNat_natCast]
        · subst hz
          have hlen := votesU_len w need x
          refine ⟨fun hb => ⟨by simp only [List.replicate, List.set, List.length_cons, List.length_nil]; omega, inK_i64.2 (by omega), x + 1, by omega, by omega, by omega, ?_⟩, fun hb => ⟨inK_i64.2 (by omega), x + 1, by omega, by omega, by omega, ?_⟩⟩
          · have e : lowB w need (x : Int) = true := hb
            rw [votesU_succ, if_pos e]; rfl
          · have e : lowB w need (x : Int) = false := hb
            rw [votesU_succ, if_neg (by rw [e]; decide), List.append_nil]
      · have : x = 2 ^ w.length := by rw [hpc] at hge; omega
        subst this
        unfold votesL at hk
        rw [he, if_pos rfl] at hk
        exact hk
theorem okVotes : PlainOk Tryd.prog glT 20 cVotes := by
  refine plain_of (CxOk.mk' Et_ok rfl mixed (gl := glT) (GOk.cons okWithin.lift Tryd.func24 (by kernel_rfl) (by kernel_rfl) (GOk.cons okBits Tryd.func29 (by kernel_rfl) (by kernel_rfl) (GOk.cons okSumW Tryd.func35 (by kernel_rfl) (by kernel_rfl) GOk.nil))) GoOk.nil itB) Tryd.func20 (c := Tryd.f20.body.getD .skip) (rvs := [(.tmp 4, .sl I), (.tmp 5, tErr)]) (by kernel_rfl) (by kernel_rfl) (by kernel_rfl) ?_
  intro ds k ⟨hp, hk⟩ hwf
  obtain ⟨w, need, rfl, -⟩ := dest2 hp
  exact ⟨anVotes w need, votes_vc w need k hk⟩
end Go.Proofs.YtdpnakebhpecfaaDoor.V

/- Synods: what the reference's functions answer. -/
namespace Go.Proofs.YtdpnakebhpecfaaDoor.P
open Go.Vc Go.Proofs.YtdpnakebhpecfaaDoor.V
/-- accept, ballot, who, of, value -/
@[match_pattern] abbrev tDo : Ty := .pr I (.pr I (.pr I (.pr I (.pr I .un))))
@[match_pattern] abbrev tSR : Ty := .pr I (.pr (.sl tDo) (.pr (.sl I) .un))
abbrev Dn : Type := Int × Int × Int × Int × Int × Unit
abbrev SR : Type := Int × List Dn × List Int × Unit
abbrev zD : Dn := (0, 0, 0, 0, 0, ())
abbrev zSR : SR := (0, [], [], ())
def Ep : Env := { tys := [(3, I), (4, .bool), (29, .sl I), (33, tAs), (41, .sl tDo), (43, tSR), (75, tDo)], errT := 54, eqs := [], els := [(29, 3), (41, 75)], pz := [3], pb := [43] }
theorem Ep_ok : EnvOk Tryd.prog Ep := EnvOk.of_list (by kernel_rfl) (by kernel_rfl) (by kernel_rfl)
def Eo : Env := { tys := [(3, I), (4, .bool), (29, .sl I), (33, tAs), (41, .sl tDo), (43, tSR), (75, tDo)], errT := 54, eqs := [], els := [(29, 3), (41, 75)] }
theorem Eo_ok : EnvOk Tryd.prog Eo := EnvOk.of_list (by kernel_rfl) (by kernel_rfl) (by kernel_rfl)
def newR (n : Int) : SR := (n, [], List.replicate 31 (-1), ())
def cNewR : Ctr := cdet [I] (fun _ => True) (fun n => [⟨tSR, newR n⟩])
def anNewR : Ann := [freezeAt 6 [3], loopAt 3 Nat [(3003, 3, I)] (fun st i => { St.at (St.only st [2, 3]) [(4, .d I (i : Int))] with ob := st.ob.set 2 (.row 3 I (List.replicate i (-1))) }) (fun _ i => i ≤ 31 ∧ True) (fun i => 31 - i)]
def cBit : Ctr := cdet [I, I] (fun _ _ => True) (fun s i => [⟨.bool, bitB s i⟩])
def anBit (s i : Int) : Ann := [loopAt 2 Nat [] (fun st k => St.at st [(0, .d I (s.tdiv (2 ^ k))), (5, .d I (k : Int))]) (fun _ k => k ≤ i.toNat ∧ True) (fun k => i.toNat - k)]
def cMaskR : Ctr := cdet [I, I] (fun (_ n : Int) => n ≤ 61 ∧ True) (fun (s n : Int) => [⟨.bool, maskB s n⟩])
def cWith : Ctr := cdet [I, I] (fun (a i : Int) => setP a ∧ 0 ≤ i ∧ i ≤ 59) (fun (a i : Int) => [⟨I, withM a i⟩])
/-- who did something in a ballot -/
def of1 (b a : Int) (set : Int) (d : Dn) : Int := if d.2.1 = b ∧ d.1 = a then withM set d.2.2.1 else set
def ofR (l : List Dn) (b a : Int) : Int := l.foldl (of1 b a) 0
def whoP (l : List Dn) : Prop := ∀ d ∈ l, 0 ≤ d.2.2.1 ∧ d.2.2.1 < 8
def cOf : Ctr := cdet [tSR, I, I] (fun (x : SR) (_ _ : Int) => whoP x.2.1) (fun (x : SR) (b a : Int) => [⟨I, ofR x.2.1 b a⟩])
def anOf (x : SR) (b a : Int) : Ann := [joinAll, loopAt 3 Nat [] (fun st k => St.at (St.only st [1, 2, 3]) [(7, .d I (ofR (x.2.1.take k) b a)), (8, .d I (k : Int))]) (fun _ k => k ≤ x.2.1.length ∧ True) (fun k => x.2.1.length - k)]
/-- what one promised, and accepted last -/
def mem1 (i : Int) (m : Int × Int × Int) (d : Dn) : Int × Int × Int :=
  if d.2.2.1 = i then (if m.1 < d.2.1 then d.2.1 else m.1, if d.1 = 1 then d.2.1 else m.2.1, if d.1 = 1 then d.2.2.2.2.1 else m.2.2) else m
def memR (l : List Dn) (i : Int) : Int × Int × Int := l.foldl (mem1 i) (-1, -1, 0)
def cMemR : Ctr := cdet [tSR, I] (fun _ _ => True) (fun (x : SR) (i : Int) => [⟨I, (memR x.2.1 i).1⟩, ⟨I, (memR x.2.1 i).2.1⟩, ⟨I, (memR x.2.1 i).2.2⟩])
def anMemR (x : SR) (i : Int) : Ann := [joinAll, loopAt 5 Nat [] (fun st k => St.at (St.only st [1, 2]) [(7, .d I (memR (x.2.1.take k) i).1), (8, .d I (memR (x.2.1.take k) i).2.1), (9, .d I (memR (x.2.1.take k) i).2.2), (10, .d I (k : Int))]) (fun _ k => k ≤ x.2.1.length ∧ True) (fun k => x.2.1.length - k)]
def moreB (n s : Int) : Bool := decide (n < 2 * (popN s.toNat : Int))
def choR (x : SR) (k : Nat) : List Int := ((List.range k).filter fun (b : Nat) => moreB x.1 (ofR x.2.1 (b : Int) 1)).map fun (b : Nat) => x.2.2.1.getD b 0
structure SrOk (x : SR) : Prop where
  n : 1 ≤ x.1 ∧ x.1 ≤ 8
  w : whoP x.2.1
  v : x.2.2.1.length = 31
def cChoR : Ctr := cdet [tSR] SrOk (fun (x : SR) => [⟨.sl I, choR x 31⟩])
def anChoR (x : SR) : Ann := [joinAll, loopAt 3 Nat [(3, 3, I)] (fun st k => { St.at (St.only st [1, 3]) [(4, .d I (k : Int))] with ob := st.ob.set 1 (.row 3 I (choR x k)) }) (fun _ k => k ≤ 31 ∧ True) (fun k => 31 - k)]
/-- the best that those told who promised -/
def best1 (b : Int) (m : Int × Int) (d : Dn) : Int × Int := if d.2.1 = b ∧ d.1 = 0 ∧ m.1 < d.2.2.2.1 then (d.2.2.2.1, d.2.2.2.2.1) else m
def bestR (l : List Dn) (b v : Int) : Int × Int := l.foldl (best1 b) (-1, v)
/-- what is asked may not be accepted yet -/
def denyR (x : SR) (a : As) : Bool := decide (a.1 = 1) && (decide (x.2.2.1.getD a.2.1.toNat 0 < 0) && !moreB x.1 (ofR x.2.1 a.2.1 0))
def valsR (x : SR) (a : As) : List Int := if a.1 = 1 ∧ x.2.2.1.getD a.2.1.toNat 0 < 0 then x.2.2.1.set a.2.1.toNat (bestR x.2.1 a.2.1 a.2.2.1).2 else x.2.2.1
def goB (x : SR) (a : As) (i : Int) : Bool :=
  bitB a.2.2.2.1 i && (!(decide (a.1 = 0) && decide (a.2.1 ≤ (memR x.2.1 i).1)) && !(decide (a.1 = 1) && decide (a.2.1 < (memR x.2.1 i).1)))
def dnR (x : SR) (a : As) (i : Int) : Dn :=
  if a.1 = 0 then (0, a.2.1, i, (memR x.2.1 i).2.1, (memR x.2.1 i).2.2, ()) else (1, a.2.1, i, 0, (valsR x a).getD a.2.1.toNat 0, ())
def loopR (x : SR) (a : As) : Nat → Int × List Dn
  | 0 => (0, x.2.1)
  | k + 1 => if goB x a (k : Int) = true then ((loopR x a k).1 + (2 : Int) ^ k, (loopR x a k).2 ++ [dnR x a (k : Int)]) else loopR x a k
def doR (x : SR) (a : As) : SR × Int × Int :=
  if okA x.1.toNat a = false then (x, 0, 1) else if denyR x a = true then (x, 0, 7) else ((x.1, (loopR x a x.1.toNat).2, valsR x a, ()), (loopR x a x.1.toNat).1, 0)
def cDoR : Ctr := cdet [tSR, tAs] (fun (x : SR) (_ : As) => SrOk x ∧ x.2.1.length ≤ 100000) (fun (x : SR) (a : As) => [⟨tSR, (doR x a).1⟩, ⟨I, (doR x a).2.1⟩, ⟨I, (doR x a).2.2⟩])
structure Going (x : SR) (a : As) : Prop where
  ok : okA x.1.toNat a = true
  dn : denyR x a = false
def anDoR (x : SR) (a : As) : Ann :=
  [joinAll, freezeAt 18 [11], freezeAt 31 [13],
   loopAt 9 Nat [] (fun st k => St.at (St.only st [2, 3, 4]) [(7, .d I (bestR (x.2.1.take k) a.2.1 a.2.2.1).1), (8, .d I (bestR (x.2.1.take k) a.2.1 a.2.2.1).2), (9, .d I (k : Int))]) (fun _ k => k ≤ x.2.1.length ∧ True) (fun k => x.2.1.length - k),
   meetAt 19 Nat [] (fun st _ => { St.only st [2, 3, 4] with ob := st.ob.set 0 (.var 43 tSR (x.1, x.2.1, valsR x a, ())) }) (fun _ _ => Going x a),
   loopAt 23 Nat [] (fun st k => { St.at (St.only st [2, 3, 4, 13]) [(12, .d I (loopR x a k).1), (14, .d I (k : Int))] with ob := st.ob.set 3 (.row 75 tDo (loopR x a k).2) }) (fun _ k => k ≤ x.1.toNat ∧ Going x a) (fun k => x.1.toNat - k)]
end Go.Proofs.YtdpnakebhpecfaaDoor.P
