/- Own texts, merged: V6, M, M2, M3, M4, M5, M7, Ok7, Ok9, Gl. -/
import Derived.Test.YtdpnakebhpecfaaDoorSARowZ1
import Derived.Test.YtdpnakebhpecfaaDoorVcPA
/- What the functions of this seat have to satisfy, by program: each verification condition in plain words. -/
namespace Go.Proofs.YtdpnakebhpecfaaDoor
open Go.Vc
set_option linter.unusedVariables false
theorem vcOne (n : Int) (l : List As) (k : List Dat → Prop) : vcF ⟨El, [(8, cFact)], glT, [], [(9, oNew), (10, oDoX), (11, oChX)]⟩ (anOne n l) (Tryd.f3.body.getD .skip) Tryd.f3.ntmps [(.tmp 4, .bool)] [⟨I, n⟩, ⟨.sl tAs, l⟩] k = (
  True ∧ ((!true) = true → k [Dat.mk Ty.bool false]) ∧ ((!true) = false → (inB n (1 : Int) (8 : Int) = true → ((!decide ((0 : Int) = (0 : Int))) = true → (decide (n < (1 : Int)) = true → k [Dat.mk Ty.bool true]) ∧ (decide (n < (1 : Int)) = false → k [Dat.mk Ty.bool (decide ((8 : Int) < n))])) ∧ ((!decide ((0 : Int) = (0 : Int))) = false → (∃ (x : Nat), (x ≤ l.length ∧ True) ∧ (n = n ∧ l = l ∧ True ∧ chX (sAt n l x) = [] ∧ (0 : Int) = (↑x : Int) ∧ True) ∧ ((True ∧ List.replicate (31 : Nat) nB = (sAt n l x).bs ∧ True) ∧ ((58 : Nat) = (58 : Nat) ∧ List.replicate n.toNat nM = (sAt n l x).ms) ∧ True) ∧ tabD = tabD ∧ True) ∧ ∀ (x : Nat), x ≤ l.length ∧ True → (decide ((↑x : Int) < (↑l.length : Int)) = true → (decide ((↑x : Int) < (60 : Int)) = true → (0 : Int) ≤ (↑x : Int) ∧ (↑x : Int) < (↑l.length : Int) ∧ SyInv (Sy.mk (sAt n l x).ms (sAt n l x).bs) ∧ SyInv (Sy.mk (doX (Sy.mk (sAt n l x).ms (sAt n l x).bs) (l.getD (↑x : Int).toNat ((0 : Int), (0 : Int), (0 : Int), (0 : Int), ()))).snd.ms (doX (Sy.mk (sAt n l x).ms (sAt n l x).bs) (l.getD (↑x : Int).toNat ((0 : Int), (0 : Int), (0 : Int), (0 : Int), ()))).snd.bs) ∧ (∃ (x_1 : Nat), (x_1 ≤ (31 : Nat) ∧ True) ∧ (n = n ∧ l = l ∧ True ∧ chX (sAt n l x) = chX (sAt n l x) ∧ (↑x : Int) = (↑x : Int) ∧ chX (Sy.mk (doX (Sy.mk (sAt n l x).ms (sAt n l x).bs) (l.getD (↑x : Int).toNat ((0 : Int), (0 : Int), (0 : Int), (0 : Int), ()))).snd.ms (doX (Sy.mk (sAt n l x).ms (sAt n l x).bs) (l.getD (↑x : Int).toNat ((0 : Int), (0 : Int), (0 : Int), (0 : Int), ()))).snd.bs) = chX (Sy.mk (doX (Sy.mk (sAt n l x).ms (sAt n l x).bs) (l.getD (↑x : Int).toNat ((0 : Int), (0 : Int), (0 : Int), (0 : Int), ()))).snd.ms (doX (Sy.mk (sAt n l x).ms (sAt n l x).bs) (l.getD (↑x : Int).toNat ((0 : Int), (0 : Int), (0 : Int), (0 : Int), ()))).snd.bs) ∧ (0 : Int) = (↑x_1 : Int) ∧ True) ∧ ((True ∧ (doX (Sy.mk (sAt n l x).ms (sAt n l x).bs) (l.getD (↑x : Int).toNat ((0 : Int), (0 : Int), (0 : Int), (0 : Int), ()))).snd.bs = (doX (Sy.mk (sAt n l x).ms (sAt n l x).bs) (l.getD (↑x : Int).toNat ((0 : Int), (0 : Int), (0 : Int), (0 : Int), ()))).snd.bs ∧ True) ∧ ((58 : Nat) = (58 : Nat) ∧ (doX (Sy.mk (sAt n l x).ms (sAt n l x).bs) (l.getD (↑x : Int).toNat ((0 : Int), (0 : Int), (0 : Int), (0 : Int), ()))).snd.ms = (doX (Sy.mk (sAt n l x).ms (sAt n l x).bs) (l.getD (↑x : Int).toNat ((0 : Int), (0 : Int), (0 : Int), (0 : Int), ()))).snd.ms) ∧ True) ∧ tabD = tabD ∧ True) ∧ ∀ (x_1 : Nat), x_1 ≤ (31 : Nat) ∧ True → (decide ((↑x_1 : Int) < (↑(chX (Sy.mk (doX (Sy.mk (sAt n l x).ms (sAt n l x).bs) (l.getD (↑x : Int).toNat ((0 : Int), (0 : Int), (0 : Int), (0 : Int), ()))).snd.ms (doX (Sy.mk (sAt n l x).ms (sAt n l x).bs) (l.getD (↑x : Int).toNat ((0 : Int), (0 : Int), (0 : Int), (0 : Int), ()))).snd.bs)).length : Int)) = true → ((0 : Int) ≤ (↑x_1 : Int) ∧ (↑x_1 : Int) < (↑(chX (Sy.mk (doX (Sy.mk (sAt n l x).ms (sAt n l x).bs) (l.getD (↑x : Int).toNat ((0 : Int), (0 : Int), (0 : Int), (0 : Int), ()))).snd.ms (doX (Sy.mk (sAt n l x).ms (sAt n l x).bs) (l.getD (↑x : Int).toNat ((0 : Int), (0 : Int), (0 : Int), (0 : Int), ()))).snd.bs)).length : Int) ∧ (0 : Int) ≤ (0 : Int) ∧ (0 : Int) < (↑(chX (Sy.mk (doX (Sy.mk (sAt n l x).ms (sAt n l x).bs) (l.getD (↑x : Int).toNat ((0 : Int), (0 : Int), (0 : Int), (0 : Int), ()))).snd.ms (doX (Sy.mk (sAt n l x).ms (sAt n l x).bs) (l.getD (↑x : Int).toNat ((0 : Int), (0 : Int), (0 : Int), (0 : Int), ()))).snd.bs)).length : Int) ∧ True) ∧ ((!decide ((chX (Sy.mk (doX (Sy.mk (sAt n l x).ms (sAt n l x).bs) (l.getD (↑x : Int).toNat ((0 : Int), (0 : Int), (0 : Int), (0 : Int), ()))).snd.ms (doX (Sy.mk (sAt n l x).ms (sAt n l x).bs) (l.getD (↑x : Int).toNat ((0 : Int), (0 : Int), (0 : Int), (0 : Int), ()))).snd.bs)).getD (↑x_1 : Int).toNat (0 : Int) = (chX (Sy.mk (doX (Sy.mk (sAt n l x).ms (sAt n l x).bs) (l.getD (↑x : Int).toNat ((0 : Int), (0 : Int), (0 : Int), (0 : Int), ()))).snd.ms (doX (Sy.mk (sAt n l x).ms (sAt n l x).bs) (l.getD (↑x : Int).toNat ((0 : Int), (0 : Int), (0 : Int), (0 : Int), ()))).snd.bs)).getD (Int.toNat (0 : Int)) (0 : Int))) = true → k [Dat.mk Ty.bool false]) ∧ ((!decide ((chX (Sy.mk (doX (Sy.mk (sAt n l x).ms (sAt n l x).bs) (l.getD (↑x : Int).toNat ((0 : Int), (0 : Int), (0 : Int), (0 : Int), ()))).snd.ms (doX (Sy.mk (sAt n l x).ms (sAt n l x).bs) (l.getD (↑x : Int).toNat ((0 : Int), (0 : Int), (0 : Int), (0 : Int), ()))).snd.bs)).getD (↑x_1 : Int).toNat (0 : Int) = (chX (Sy.mk (doX (Sy.mk (sAt n l x).ms (sAt n l x).bs) (l.getD (↑x : Int).toNat ((0 : Int), (0 : Int), (0 : Int), (0 : Int), ()))).snd.ms (doX (Sy.mk (sAt n l x).ms (sAt n l x).bs) (l.getD (↑x : Int).toNat ((0 : Int), (0 : Int), (0 : Int), (0 : Int), ()))).snd.bs)).getD (Int.toNat (0 : Int)) (0 : Int))) = false → inK IntKind.i64 ((↑x_1 : Int) + (1 : Int)) ∧ ∃ (x_2 : Nat), (x_2 ≤ (31 : Nat) ∧ True) ∧ (32 : Nat) - x_2 < (32 : Nat) - x_1 ∧ (n = n ∧ l = l ∧ True ∧ chX (sAt n l x) = chX (sAt n l x) ∧ (↑x : Int) = (↑x : Int) ∧ chX (Sy.mk (doX (Sy.mk (sAt n l x).ms (sAt n l x).bs) (l.getD (↑x : Int).toNat ((0 : Int), (0 : Int), (0 : Int), (0 : Int), ()))).snd.ms (doX (Sy.mk (sAt n l x).ms (sAt n l x).bs) (l.getD (↑x : Int).toNat ((0 : Int), (0 : Int), (0 : Int), (0 : Int), ()))).snd.bs) = chX (Sy.mk (doX (Sy.mk (sAt n l x).ms (sAt n l x).bs) (l.getD (↑x : Int).toNat ((0 : Int), (0 : Int), (0 : Int), (0 : Int), ()))).snd.ms (doX (Sy.mk (sAt n l x).ms (sAt n l x).bs) (l.getD (↑x : Int).toNat ((0 : Int), (0 : Int), (0 : Int), (0 : Int), ()))).snd.bs) ∧ (↑x_1 : Int) + (1 : Int) = (↑x_2 : Int) ∧ True) ∧ ((True ∧ (doX (Sy.mk (sAt n l x).ms (sAt n l x).bs) (l.getD (↑x : Int).toNat ((0 : Int), (0 : Int), (0 : Int), (0 : Int), ()))).snd.bs = (doX (Sy.mk (sAt n l x).ms (sAt n l x).bs) (l.getD (↑x : Int).toNat ((0 : Int), (0 : Int), (0 : Int), (0 : Int), ()))).snd.bs ∧ True) ∧ ((58 : Nat) = (58 : Nat) ∧ (doX (Sy.mk (sAt n l x).ms (sAt n l x).bs) (l.getD (↑x : Int).toNat ((0 : Int), (0 : Int), (0 : Int), (0 : Int), ()))).snd.ms = (doX (Sy.mk (sAt n l x).ms (sAt n l x).bs) (l.getD (↑x : Int).toNat ((0 : Int), (0 : Int), (0 : Int), (0 : Int), ()))).snd.ms) ∧ True) ∧ tabD = tabD ∧ True)) ∧ (decide ((↑x_1 : Int) < (↑(chX (Sy.mk (doX (Sy.mk (sAt n l x).ms (sAt n l x).bs) (l.getD (↑x : Int).toNat ((0 : Int), (0 : Int), (0 : Int), (0 : Int), ()))).snd.ms (doX (Sy.mk (sAt n l x).ms (sAt n l x).bs) (l.getD (↑x : Int).toNat ((0 : Int), (0 : Int), (0 : Int), (0 : Int), ()))).snd.bs)).length : Int)) = false → ((decide ((0 : Int) < (↑(chX (sAt n l x)).length : Int)) = true → (decide ((↑(chX (Sy.mk (doX (Sy.mk (sAt n l x).ms (sAt n l x).bs) (l.getD (↑x : Int).toNat ((0 : Int), (0 : Int), (0 : Int), (0 : Int), ()))).snd.ms (doX (Sy.mk (sAt n l x).ms (sAt n l x).bs) (l.getD (↑x : Int).toNat ((0 : Int), (0 : Int), (0 : Int), (0 : Int), ()))).snd.bs)).length : Int) < (↑(chX (sAt n l x)).length : Int)) = true → True) ∧ (decide ((↑(chX (Sy.mk (doX (Sy.mk (sAt n l x).ms (sAt n l x).bs) (l.getD (↑x : Int).toNat ((0 : Int), (0 : Int), (0 : Int), (0 : Int), ()))).snd.ms (doX (Sy.mk (sAt n l x).ms (sAt n l x).bs) (l.getD (↑x : Int).toNat ((0 : Int), (0 : Int), (0 : Int), (0 : Int), ()))).snd.bs)).length : Int) < (↑(chX (sAt n l x)).length : Int)) = false → (0 : Int) ≤ (0 : Int) ∧ (0 : Int) < (↑(chX (Sy.mk (doX (Sy.mk (sAt n l x).ms (sAt n l x).bs) (l.getD (↑x : Int).toNat ((0 : Int), (0 : Int), (0 : Int), (0 : Int), ()))).snd.ms (doX (Sy.mk (sAt n l x).ms (sAt n l x).bs) (l.getD (↑x : Int).toNat ((0 : Int), (0 : Int), (0 : Int), (0 : Int), ()))).snd.bs)).length : Int) ∧ (0 : Int) ≤ (0 : Int) ∧ (0 : Int) < (↑(chX (sAt n l x)).length : Int) ∧ True)) ∧ (decide ((0 : Int) < (↑(chX (sAt n l x)).length : Int)) = false → True)) ∧ ((decide ((0 : Int) < (↑(chX (sAt n l x)).length : Int)) && (decide ((↑(chX (Sy.mk (doX (Sy.mk (sAt n l x).ms (sAt n l x).bs) (l.getD (↑x : Int).toNat ((0 : Int), (0 : Int), (0 : Int), (0 : Int), ()))).snd.ms (doX (Sy.mk (sAt n l x).ms (sAt n l x).bs) (l.getD (↑x : Int).toNat ((0 : Int), (0 : Int), (0 : Int), (0 : Int), ()))).snd.bs)).length : Int) < (↑(chX (sAt n l x)).length : Int)) || !decide ((chX (Sy.mk (doX (Sy.mk (sAt n l x).ms (sAt n l x).bs) (l.getD (↑x : Int).toNat ((0 : Int), (0 : Int), (0 : Int), (0 : Int), ()))).snd.ms (doX (Sy.mk (sAt n l x).ms (sAt n l x).bs) (l.getD (↑x : Int).toNat ((0 : Int), (0 : Int), (0 : Int), (0 : Int), ()))).snd.bs)).getD (Int.toNat (0 : Int)) (0 : Int) = (chX (sAt n l x)).getD (Int.toNat (0 : Int)) (0 : Int)))) = true → k [Dat.mk Ty.bool false]) ∧ ((decide ((0 : Int) < (↑(chX (sAt n l x)).length : Int)) && (decide ((↑(chX (Sy.mk (doX (Sy.mk (sAt n l x).ms (sAt n l x).bs) (l.getD (↑x : Int).toNat ((0 : Int), (0 : Int), (0 : Int), (0 : Int), ()))).snd.ms (doX (Sy.mk (sAt n l x).ms (sAt n l x).bs) (l.getD (↑x : Int).toNat ((0 : Int), (0 : Int), (0 : Int), (0 : Int), ()))).snd.bs)).length : Int) < (↑(chX (sAt n l x)).length : Int)) || !decide ((chX (Sy.mk (doX (Sy.mk (sAt n l x).ms (sAt n l x).bs) (l.getD (↑x : Int).toNat ((0 : Int), (0 : Int), (0 : Int), (0 : Int), ()))).snd.ms (doX (Sy.mk (sAt n l x).ms (sAt n l x).bs) (l.getD (↑x : Int).toNat ((0 : Int), (0 : Int), (0 : Int), (0 : Int), ()))).snd.bs)).getD (Int.toNat (0 : Int)) (0 : Int) = (chX (sAt n l x)).getD (Int.toNat (0 : Int)) (0 : Int)))) = false → inK IntKind.i64 ((↑x : Int) + (1 : Int)) ∧ ∃ (x_2 : Nat), (x_2 ≤ l.length ∧ True) ∧ l.length - x_2 < l.length - x ∧ (n = n ∧ l = l ∧ True ∧ chX (Sy.mk (doX (Sy.mk (sAt n l x).ms (sAt n l x).bs) (l.getD (↑x : Int).toNat ((0 : Int), (0 : Int), (0 : Int), (0 : Int), ()))).snd.ms (doX (Sy.mk (sAt n l x).ms (sAt n l x).bs) (l.getD (↑x : Int).toNat ((0 : Int), (0 : Int), (0 : Int), (0 : Int), ()))).snd.bs) = chX (sAt n l x_2) ∧ (↑x : Int) + (1 : Int) = (↑x_2 : Int) ∧ True) ∧ ((True ∧ (doX (Sy.mk (sAt n l x).ms (sAt n l x).bs) (l.getD (↑x : Int).toNat ((0 : Int), (0 : Int), (0 : Int), (0 : Int), ()))).snd.bs = (sAt n l x_2).bs ∧ True) ∧ ((58 : Nat) = (58 : Nat) ∧ (doX (Sy.mk (sAt n l x).ms (sAt n l x).bs) (l.getD (↑x : Int).toNat ((0 : Int), (0 : Int), (0 : Int), (0 : Int), ()))).snd.ms = (sAt n l x_2).ms) ∧ True) ∧ tabD = tabD ∧ True))) ∧ (decide ((↑x : Int) < (60 : Int)) = false → k [Dat.mk Ty.bool true])) ∧ (decide ((↑x : Int) < (↑l.length : Int)) = false → k [Dat.mk Ty.bool true]))) ∧ (inB n (1 : Int) (8 : Int) = false → ((!decide ((1 : Int) = (0 : Int))) = true → (decide (n < (1 : Int)) = true → k [Dat.mk Ty.bool true]) ∧ (decide (n < (1 : Int)) = false → k [Dat.mk Ty.bool (decide ((8 : Int) < n))])) ∧ ((!decide ((1 : Int) = (0 : Int))) = false → (∃ (x : Nat), (x ≤ l.length ∧ True) ∧ (n = n ∧ l = l ∧ True ∧ chX (sAt n l x) = [] ∧ (0 : Int) = (↑x : Int) ∧ True) ∧ (False ∧ False ∧ True) ∧ tabD = tabD ∧ True) ∧ ∀ (x : Nat), x ≤ l.length ∧ True → (decide ((↑x : Int) < (↑l.length : Int)) = true → (decide ((↑x : Int) < (60 : Int)) = true → (0 : Int) ≤ (↑x : Int) ∧ (↑x : Int) < (↑l.length : Int) ∧ False) ∧ (decide ((↑x : Int) < (60 : Int)) = false → k [Dat.mk Ty.bool true])) ∧ (decide ((↑x : Int) < (↑l.length : Int)) = false → k [Dat.mk Ty.bool true]))))) := by kernel_rfl
theorem vcGoes (n : Int) (l : List As) (value : Int) (k : List Dat → Prop) : vcF ⟨El, [(8, cFact), (12, cPow2)], glT, [], [(9, oNew), (10, oDoX), (11, oChX)]⟩ (anGoes n l) (Tryd.f4.body.getD .skip) Tryd.f4.ntmps [(.tmp 6, .bool)] [⟨I, n⟩, ⟨.sl tAs, l⟩, ⟨I, value⟩] k = (
  True ∧ ((!true) = true → k [Dat.mk Ty.bool false]) ∧ ((!true) = false → (inB n (1 : Int) (8 : Int) = true → ((!decide ((0 : Int) = (0 : Int))) = true → k [Dat.mk Ty.bool true]) ∧ ((!decide ((0 : Int) = (0 : Int))) = false → (decide (value < (0 : Int)) = true → k [Dat.mk Ty.bool true]) ∧ (decide (value < (0 : Int)) = false → (decide ((1000000 : Int) < value) = true → k [Dat.mk Ty.bool true]) ∧ (decide ((1000000 : Int) < value) = false → (∃ (x : Nat), (x ≤ l.length ∧ True) ∧ (n = n ∧ l = l ∧ value = value ∧ True ∧ (0 : Int) = (↑x : Int) ∧ True) ∧ ((True ∧ List.replicate (31 : Nat) nB = (gAt n l x).bs ∧ True) ∧ ((58 : Nat) = (58 : Nat) ∧ List.replicate n.toNat nM = (gAt n l x).ms) ∧ True) ∧ tabD = tabD ∧ True) ∧ ∀ (x : Nat), x ≤ l.length ∧ True → (decide ((↑x : Int) < (↑l.length : Int)) = true → (decide ((↑x : Int) < (60 : Int)) = true → (0 : Int) ≤ (↑x : Int) ∧ (↑x : Int) < (↑l.length : Int) ∧ (decide ((l.getD (↑x : Int).toNat ((0 : Int), (0 : Int), (0 : Int), (0 : Int), ())).snd.fst < (30 : Int)) = true → (0 : Int) ≤ (↑x : Int) ∧ (↑x : Int) < (↑l.length : Int) ∧ SyInv (Sy.mk (gAt n l x).ms (gAt n l x).bs) ∧ inK IntKind.i64 ((↑x : Int) + (1 : Int)) ∧ ∃ (x_1 : Nat), (x_1 ≤ l.length ∧ True) ∧ l.length - x_1 < l.length - x ∧ (n = n ∧ l = l ∧ value = value ∧ True ∧ (↑x : Int) + (1 : Int) = (↑x_1 : Int) ∧ True) ∧ ((True ∧ (doX (Sy.mk (gAt n l x).ms (gAt n l x).bs) (l.getD (↑x : Int).toNat ((0 : Int), (0 : Int), (0 : Int), (0 : Int), ()))).snd.bs = (gAt n l x_1).bs ∧ True) ∧ ((58 : Nat) = (58 : Nat) ∧ (doX (Sy.mk (gAt n l x).ms (gAt n l x).bs) (l.getD (↑x : Int).toNat ((0 : Int), (0 : Int), (0 : Int), (0 : Int), ()))).snd.ms = (gAt n l x_1).ms) ∧ True) ∧ tabD = tabD ∧ True) ∧ (decide ((l.getD (↑x : Int).toNat ((0 : Int), (0 : Int), (0 : Int), (0 : Int), ())).snd.fst < (30 : Int)) = false → inK IntKind.i64 ((↑x : Int) + (1 : Int)) ∧ ∃ (x_1 : Nat), (x_1 ≤ l.length ∧ True) ∧ l.length - x_1 < l.length - x ∧ (n = n ∧ l = l ∧ value = value ∧ True ∧ (↑x : Int) + (1 : Int) = (↑x_1 : Int) ∧ True) ∧ ((True ∧ (gAt n l x).bs = (gAt n l x_1).bs ∧ True) ∧ ((58 : Nat) = (58 : Nat) ∧ (gAt n l x).ms = (gAt n l x_1).ms) ∧ True) ∧ tabD = tabD ∧ True)) ∧ (decide ((↑x : Int) < (60 : Int)) = false → SyInv (Sy.mk (gAt n l x).ms (gAt n l x).bs) ∧ (n ≤ (61 : Int) ∧ True) ∧ inK IntKind.i64 ((2 : Int) ^ n.toNat - (1 : Int)) ∧ SyInv (Sy.mk (gAt n l x).ms (gAt n l x).bs) ∧ SyInv (Sy.mk (doX (Sy.mk (gAt n l x).ms (gAt n l x).bs) ((0 : Int), (30 : Int), (0 : Int), (2 : Int) ^ n.toNat - (1 : Int), ())).snd.ms (doX (Sy.mk (gAt n l x).ms (gAt n l x).bs) ((0 : Int), (30 : Int), (0 : Int), (2 : Int) ^ n.toNat - (1 : Int), ())).snd.bs) ∧ SyInv (Sy.mk (doX (Sy.mk (doX (Sy.mk (gAt n l x).ms (gAt n l x).bs) ((0 : Int), (30 : Int), (0 : Int), (2 : Int) ^ n.toNat - (1 : Int), ())).snd.ms (doX (Sy.mk (gAt n l x).ms (gAt n l x).bs) ((0 : Int), (30 : Int), (0 : Int), (2 : Int) ^ n.toNat - (1 : Int), ())).snd.bs) ((1 : Int), (30 : Int), value, (2 : Int) ^ n.toNat - (1 : Int), ())).snd.ms (doX (Sy.mk (doX (Sy.mk (gAt n l x).ms (gAt n l x).bs) ((0 : Int), (30 : Int), (0 : Int), (2 : Int) ^ n.toNat - (1 : Int), ())).snd.ms (doX (Sy.mk (gAt n l x).ms (gAt n l x).bs) ((0 : Int), (30 : Int), (0 : Int), (2 : Int) ^ n.toNat - (1 : Int), ())).snd.bs) ((1 : Int), (30 : Int), value, (2 : Int) ^ n.toNat - (1 : Int), ())).snd.bs) ∧ ((decide ((doX (Sy.mk (gAt n l x).ms (gAt n l x).bs) ((0 : Int), (30 : Int), (0 : Int), (2 : Int) ^ n.toNat - (1 : Int), ())).fst.snd = (0 : Int)) = true → (decide ((doX (Sy.mk (doX (Sy.mk (gAt n l x).ms (gAt n l x).bs) ((0 : Int), (30 : Int), (0 : Int), (2 : Int) ^ n.toNat - (1 : Int), ())).snd.ms (doX (Sy.mk (gAt n l x).ms (gAt n l x).bs) ((0 : Int), (30 : Int), (0 : Int), (2 : Int) ^ n.toNat - (1 : Int), ())).snd.bs) ((1 : Int), (30 : Int), value, (2 : Int) ^ n.toNat - (1 : Int), ())).fst.snd = (0 : Int)) = true → (decide ((doX (Sy.mk (gAt n l x).ms (gAt n l x).bs) ((0 : Int), (30 : Int), (0 : Int), (2 : Int) ^ n.toNat - (1 : Int), ())).fst.fst = (2 : Int) ^ n.toNat - (1 : Int)) = true → (decide ((doX (Sy.mk (doX (Sy.mk (gAt n l x).ms (gAt n l x).bs) ((0 : Int), (30 : Int), (0 : Int), (2 : Int) ^ n.toNat - (1 : Int), ())).snd.ms (doX (Sy.mk (gAt n l x).ms (gAt n l x).bs) ((0 : Int), (30 : Int), (0 : Int), (2 : Int) ^ n.toNat - (1 : Int), ())).snd.bs) ((1 : Int), (30 : Int), value, (2 : Int) ^ n.toNat - (1 : Int), ())).fst.fst = (2 : Int) ^ n.toNat - (1 : Int)) = true → inK IntKind.i64 ((↑(chX (Sy.mk (gAt n l x).ms (gAt n l x).bs)).length : Int) + (1 : Int)) ∧ (decide ((↑(chX (Sy.mk (doX (Sy.mk (doX (Sy.mk (gAt n l x).ms (gAt n l x).bs) ((0 : Int), (30 : Int), (0 : Int), (2 : Int) ^ n.toNat - (1 : Int), ())).snd.ms (doX (Sy.mk (gAt n l x).ms (gAt n l x).bs) ((0 : Int), (30 : Int), (0 : Int), (2 : Int) ^ n.toNat - (1 : Int), ())).snd.bs) ((1 : Int), (30 : Int), value, (2 : Int) ^ n.toNat - (1 : Int), ())).snd.ms (doX (Sy.mk (doX (Sy.mk (gAt n l x).ms (gAt n l x).bs) ((0 : Int), (30 : Int), (0 : Int), (2 : Int) ^ n.toNat - (1 : Int), ())).snd.ms (doX (Sy.mk (gAt n l x).ms (gAt n l x).bs) ((0 : Int), (30 : Int), (0 : Int), (2 : Int) ^ n.toNat - (1 : Int), ())).snd.bs) ((1 : Int), (30 : Int), value, (2 : Int) ^ n.toNat - (1 : Int), ())).snd.bs)).length : Int) = (↑(chX (Sy.mk (gAt n l x).ms (gAt n l x).bs)).length : Int) + (1 : Int)) = true → (decide ((↑(chX (Sy.mk (gAt n l x).ms (gAt n l x).bs)).length : Int) = (0 : Int)) = true → True) ∧ (decide ((↑(chX (Sy.mk (gAt n l x).ms (gAt n l x).bs)).length : Int) = (0 : Int)) = false → inK IntKind.i64 ((↑(chX (Sy.mk (doX (Sy.mk (doX (Sy.mk (gAt n l x).ms (gAt n l x).bs) ((0 : Int), (30 : Int), (0 : Int), (2 : Int) ^ n.toNat - (1 : Int), ())).snd.ms (doX (Sy.mk (gAt n l x).ms (gAt n l x).bs) ((0 : Int), (30 : Int), (0 : Int), (2 : Int) ^ n.toNat - (1 : Int), ())).snd.bs) ((1 : Int), (30 : Int), value, (2 : Int) ^ n.toNat - (1 : Int), ())).snd.ms (doX (Sy.mk (doX (Sy.mk (gAt n l x).ms (gAt n l x).bs) ((0 : Int), (30 : Int), (0 : Int), (2 : Int) ^ n.toNat - (1 : Int), ())).snd.ms (doX (Sy.mk (gAt n l x).ms (gAt n l x).bs) ((0 : Int), (30 : Int), (0 : Int), (2 : Int) ^ n.toNat - (1 : Int), ())).snd.bs) ((1 : Int), (30 : Int), value, (2 : Int) ^ n.toNat - (1 : Int), ())).snd.bs)).length : Int) - (1 : Int)) ∧ (0 : Int) ≤ (↑(chX (Sy.mk (doX (Sy.mk (doX (Sy.mk (gAt n l x).ms (gAt n l x).bs) ((0 : Int), (30 : Int), (0 : Int), (2 : Int) ^ n.toNat - (1 : Int), ())).snd.ms (doX (Sy.mk (gAt n l x).ms (gAt n l x).bs) ((0 : Int), (30 : Int), (0 : Int), (2 : Int) ^ n.toNat - (1 : Int), ())).snd.bs) ((1 : Int), (30 : Int), value, (2 : Int) ^ n.toNat - (1 : Int), ())).snd.ms (doX (Sy.mk (doX (Sy.mk (gAt n l x).ms (gAt n l x).bs) ((0 : Int), (30 : Int), (0 : Int), (2 : Int) ^ n.toNat - (1 : Int), ())).snd.ms (doX (Sy.mk (gAt n l x).ms (gAt n l x).bs) ((0 : Int), (30 : Int), (0 : Int), (2 : Int) ^ n.toNat - (1 : Int), ())).snd.bs) ((1 : Int), (30 : Int), value, (2 : Int) ^ n.toNat - (1 : Int), ())).snd.bs)).length : Int) - (1 : Int) ∧ (↑(chX (Sy.mk (doX (Sy.mk (doX (Sy.mk (gAt n l x).ms (gAt n l x).bs) ((0 : Int), (30 : Int), (0 : Int), (2 : Int) ^ n.toNat - (1 : Int), ())).snd.ms (doX (Sy.mk (gAt n l x).ms (gAt n l x).bs) ((0 : Int), (30 : Int), (0 : Int), (2 : Int) ^ n.toNat - (1 : Int), ())).snd.bs) ((1 : Int), (30 : Int), value, (2 : Int) ^ n.toNat - (1 : Int), ())).snd.ms (doX (Sy.mk (doX (Sy.mk (gAt n l x).ms (gAt n l x).bs) ((0 : Int), (30 : Int), (0 : Int), (2 : Int) ^ n.toNat - (1 : Int), ())).snd.ms (doX (Sy.mk (gAt n l x).ms (gAt n l x).bs) ((0 : Int), (30 : Int), (0 : Int), (2 : Int) ^ n.toNat - (1 : Int), ())).snd.bs) ((1 : Int), (30 : Int), value, (2 : Int) ^ n.toNat - (1 : Int), ())).snd.bs)).length : Int) - (1 : Int) < (↑(chX (Sy.mk (doX (Sy.mk (doX (Sy.mk (gAt n l x).ms (gAt n l x).bs) ((0 : Int), (30 : Int), (0 : Int), (2 : Int) ^ n.toNat - (1 : Int), ())).snd.ms (doX (Sy.mk (gAt n l x).ms (gAt n l x).bs) ((0 : Int), (30 : Int), (0 : Int), (2 : Int) ^ n.toNat - (1 : Int), ())).snd.bs) ((1 : Int), (30 : Int), value, (2 : Int) ^ n.toNat - (1 : Int), ())).snd.ms (doX (Sy.mk (doX (Sy.mk (gAt n l x).ms (gAt n l x).bs) ((0 : Int), (30 : Int), (0 : Int), (2 : Int) ^ n.toNat - (1 : Int), ())).snd.ms (doX (Sy.mk (gAt n l x).ms (gAt n l x).bs) ((0 : Int), (30 : Int), (0 : Int), (2 : Int) ^ n.toNat - (1 : Int), ())).snd.bs) ((1 : Int), (30 : Int), value, (2 : Int) ^ n.toNat - (1 : Int), ())).snd.bs)).length : Int) ∧ (0 : Int) ≤ (0 : Int) ∧ (0 : Int) < (↑(chX (Sy.mk (gAt n l x).ms (gAt n l x).bs)).length : Int) ∧ True)) ∧ (decide ((↑(chX (Sy.mk (doX (Sy.mk (doX (Sy.mk (gAt n l x).ms (gAt n l x).bs) ((0 : Int), (30 : Int), (0 : Int), (2 : Int) ^ n.toNat - (1 : Int), ())).snd.ms (doX (Sy.mk (gAt n l x).ms (gAt n l x).bs) ((0 : Int), (30 : Int), (0 : Int), (2 : Int) ^ n.toNat - (1 : Int), ())).snd.bs) ((1 : Int), (30 : Int), value, (2 : Int) ^ n.toNat - (1 : Int), ())).snd.ms (doX (Sy.mk (doX (Sy.mk (gAt n l x).ms (gAt n l x).bs) ((0 : Int), (30 : Int), (0 : Int), (2 : Int) ^ n.toNat - (1 : Int), ())).snd.ms (doX (Sy.mk (gAt n l x).ms (gAt n l x).bs) ((0 : Int), (30 : Int), (0 : Int), (2 : Int) ^ n.toNat - (1 : Int), ())).snd.bs) ((1 : Int), (30 : Int), value, (2 : Int) ^ n.toNat - (1 : Int), ())).snd.bs)).length : Int) = (↑(chX (Sy.mk (gAt n l x).ms (gAt n l x).bs)).length : Int) + (1 : Int)) = false → True)) ∧ (decide ((doX (Sy.mk (doX (Sy.mk (gAt n l x).ms (gAt n l x).bs) ((0 : Int), (30 : Int), (0 : Int), (2 : Int) ^ n.toNat - (1 : Int), ())).snd.ms (doX (Sy.mk (gAt n l x).ms (gAt n l x).bs) ((0 : Int), (30 : Int), (0 : Int), (2 : Int) ^ n.toNat - (1 : Int), ())).snd.bs) ((1 : Int), (30 : Int), value, (2 : Int) ^ n.toNat - (1 : Int), ())).fst.fst = (2 : Int) ^ n.toNat - (1 : Int)) = false → True)) ∧ (decide ((doX (Sy.mk (gAt n l x).ms (gAt n l x).bs) ((0 : Int), (30 : Int), (0 : Int), (2 : Int) ^ n.toNat - (1 : Int), ())).fst.fst = (2 : Int) ^ n.toNat - (1 : Int)) = false → True)) ∧ (decide ((doX (Sy.mk (doX (Sy.mk (gAt n l x).ms (gAt n l x).bs) ((0 : Int), (30 : Int), (0 : Int), (2 : Int) ^ n.toNat - (1 : Int), ())).snd.ms (doX (Sy.mk (gAt n l x).ms (gAt n l x).bs) ((0 : Int), (30 : Int), (0 : Int), (2 : Int) ^ n.toNat - (1 : Int), ())).snd.bs) ((1 : Int), (30 : Int), value, (2 : Int) ^ n.toNat - (1 : Int), ())).fst.snd = (0 : Int)) = false → True)) ∧ (decide ((doX (Sy.mk (gAt n l x).ms (gAt n l x).bs) ((0 : Int), (30 : Int), (0 : Int), (2 : Int) ^ n.toNat - (1 : Int), ())).fst.snd = (0 : Int)) = false → True)) ∧ k [Dat.mk Ty.bool (decide ((doX (Sy.mk (gAt n l x).ms (gAt n l x).bs) ((0 : Int), (30 : Int), (0 : Int), (2 : Int) ^ n.toNat - (1 : Int), ())).fst.snd = (0 : Int)) && (decide ((doX (Sy.mk (doX (Sy.mk (gAt n l x).ms (gAt n l x).bs) ((0 : Int), (30 : Int), (0 : Int), (2 : Int) ^ n.toNat - (1 : Int), ())).snd.ms (doX (Sy.mk (gAt n l x).ms (gAt n l x).bs) ((0 : Int), (30 : Int), (0 : Int), (2 : Int) ^ n.toNat - (1 : Int), ())).snd.bs) ((1 : Int), (30 : Int), value, (2 : Int) ^ n.toNat - (1 : Int), ())).fst.snd = (0 : Int)) && (decide ((doX (Sy.mk (gAt n l x).ms (gAt n l x).bs) ((0 : Int), (30 : Int), (0 : Int), (2 : Int) ^ n.toNat - (1 : Int), ())).fst.fst = (2 : Int) ^ n.toNat - (1 : Int)) && (decide ((doX (Sy.mk (doX (Sy.mk (gAt n l x).ms (gAt n l x).bs) ((0 : Int), (30 : Int), (0 : Int), (2 : Int) ^ n.toNat - (1 : Int), ())).snd.ms (doX (Sy.mk (gAt n l x).ms (gAt n l x).bs) ((0 : Int), (30 : Int), (0 : Int), (2 : Int) ^ n.toNat - (1 : Int), ())).snd.bs) ((1 : Int), (30 : Int), value, (2 : Int) ^ n.toNat - (1 : Int), ())).fst.fst = (2 : Int) ^ n.toNat - (1 : Int)) && (decide ((↑(chX (Sy.mk (doX (Sy.mk (doX (Sy.mk (gAt n l x).ms (gAt n l x).bs) ((0 : Int), (30 : Int), (0 : Int), (2 : Int) ^ n.toNat - (1 : Int), ())).snd.ms (doX (Sy.mk (gAt n l x).ms (gAt n l x).bs) ((0 : Int), (30 : Int), (0 : Int), (2 : Int) ^ n.toNat - (1 : Int), ())).snd.bs) ((1 : Int), (30 : Int), value, (2 : Int) ^ n.toNat - (1 : Int), ())).snd.ms (doX (Sy.mk (doX (Sy.mk (gAt n l x).ms (gAt n l x).bs) ((0 : Int), (30 : Int), (0 : Int), (2 : Int) ^ n.toNat - (1 : Int), ())).snd.ms (doX (Sy.mk (gAt n l x).ms (gAt n l x).bs) ((0 : Int), (30 : Int), (0 : Int), (2 : Int) ^ n.toNat - (1 : Int), ())).snd.bs) ((1 : Int), (30 : Int), value, (2 : Int) ^ n.toNat - (1 : Int), ())).snd.bs)).length : Int) = (↑(chX (Sy.mk (gAt n l x).ms (gAt n l x).bs)).length : Int) + (1 : Int)) && (decide ((↑(chX (Sy.mk (gAt n l x).ms (gAt n l x).bs)).length : Int) = (0 : Int)) || decide ((chX (Sy.mk (doX (Sy.mk (doX (Sy.mk (gAt n l x).ms (gAt n l x).bs) ((0 : Int), (30 : Int), (0 : Int), (2 : Int) ^ n.toNat - (1 : Int), ())).snd.ms (doX (Sy.mk (gAt n l x).ms (gAt n l x).bs) ((0 : Int), (30 : Int), (0 : Int), (2 : Int) ^ n.toNat - (1 : Int), ())).snd.bs) ((1 : Int), (30 : Int), value, (2 : Int) ^ n.toNat - (1 : Int), ())).snd.ms (doX (Sy.mk (doX (Sy.mk (gAt n l x).ms (gAt n l x).bs) ((0 : Int), (30 : Int), (0 : Int), (2 : Int) ^ n.toNat - (1 : Int), ())).snd.ms (doX (Sy.mk (gAt n l x).ms (gAt n l x).bs) ((0 : Int), (30 : Int), (0 : Int), (2 : Int) ^ n.toNat - (1 : Int), ())).snd.bs) ((1 : Int), (30 : Int), value, (2 : Int) ^ n.toNat - (1 : Int), ())).snd.bs)).getD ((↑(chX (Sy.mk (doX (Sy.mk (doX (Sy.mk (gAt n l x).ms (gAt n l x).bs) ((0 : Int), (30 : Int), (0 : Int), (2 : Int) ^ n.toNat - (1 : Int), ())).snd.ms (doX (Sy.mk (gAt n l x).ms (gAt n l x).bs) ((0 : Int), (30 : Int), (0 : Int), (2 : Int) ^ n.toNat - (1 : Int), ())).snd.bs) ((1 : Int), (30 : Int), value, (2 : Int) ^ n.toNat - (1 : Int), ())).snd.ms (doX (Sy.mk (doX (Sy.mk (gAt n l x).ms (gAt n l x).bs) ((0 : Int), (30 : Int), (0 : Int), (2 : Int) ^ n.toNat - (1 : Int), ())).snd.ms (doX (Sy.mk (gAt n l x).ms (gAt n l x).bs) ((0 : Int), (30 : Int), (0 : Int), (2 : Int) ^ n.toNat - (1 : Int), ())).snd.bs) ((1 : Int), (30 : Int), value, (2 : Int) ^ n.toNat - (1 : Int), ())).snd.bs)).length : Int) - (1 : Int)).toNat (0 : Int) = (chX (Sy.mk (gAt n l x).ms (gAt n l x).bs)).getD (Int.toNat (0 : Int)) (0 : Int))))))))])) ∧ (decide ((↑x : Int) < (↑l.length : Int)) = false → SyInv (Sy.mk (gAt n l x).ms (gAt n l x).bs) ∧ (n ≤ (61 : Int) ∧ True) ∧ inK IntKind.i64 ((2 : Int) ^ n.toNat - (1 : Int)) ∧ SyInv (Sy.mk (gAt n l x).ms (gAt n l x).bs) ∧ SyInv (Sy.mk (doX (Sy.mk (gAt n l x).ms (gAt n l x).bs) ((0 : Int), (30 : Int), (0 : Int), (2 : Int) ^ n.toNat - (1 : Int), ())).snd.ms (doX (Sy.mk (gAt n l x).ms (gAt n l x).bs) ((0 : Int), (30 : Int), (0 : Int), (2 : Int) ^ n.toNat - (1 : Int), ())).snd.bs) ∧ SyInv (Sy.mk (doX (Sy.mk (doX (Sy.mk (gAt n l x).ms (gAt n l x).bs) ((0 : Int), (30 : Int), (0 : Int), (2 : Int) ^ n.toNat - (1 : Int), ())).snd.ms (doX (Sy.mk (gAt n l x).ms (gAt n l x).bs) ((0 : Int), (30 : Int), (0 : Int), (2 : Int) ^ n.toNat - (1 : Int), ())).snd.bs) ((1 : Int), (30 : Int), value, (2 : Int) ^ n.toNat - (1 : Int), ())).snd.ms (doX (Sy.mk (doX (Sy.mk (gAt n l x).ms (gAt n l x).bs) ((0 : Int), (30 : Int), (0 : Int), (2 : Int) ^ n.toNat - (1 : Int), ())).snd.ms (doX (Sy.mk (gAt n l x).ms (gAt n l x).bs) ((0 : Int), (30 : Int), (0 : Int), (2 : Int) ^ n.toNat - (1 : Int), ())).snd.bs) ((1 : Int), (30 : Int), value, (2 : Int) ^ n.toNat - (1 : Int), ())).snd.bs) ∧ ((decide ((doX (Sy.mk (gAt n l x).ms (gAt n l x).bs) ((0 : Int), (30 : Int), (0 : Int), (2 : Int) ^ n.toNat - (1 : Int), ())).fst.snd = (0 : Int)) = true → (decide ((doX (Sy.mk (doX (Sy.mk (gAt n l x).ms (gAt n l x).bs) ((0 : Int), (30 : Int), (0 : Int), (2 : Int) ^ n.toNat - (1 : Int), ())).snd.ms (doX (Sy.mk (gAt n l x).ms (gAt n l x).bs) ((0 : Int), (30 : Int), (0 : Int), (2 : Int) ^ n.toNat - (1 : Int), ())).snd.bs) ((1 : Int), (30 : Int), value, (2 : Int) ^ n.toNat - (1 : Int), ())).fst.snd = (0 : Int)) = true → (decide ((doX (Sy.mk (gAt n l x).ms (gAt n l x).bs) ((0 : Int), (30 : Int), (0 : Int), (2 : Int) ^ n.toNat - (1 : Int), ())).fst.fst = (2 : Int) ^ n.toNat - (1 : Int)) = true → (decide ((doX (Sy.mk (doX (Sy.mk (gAt n l x).ms (gAt n l x).bs) ((0 : Int), (30 : Int), (0 : Int), (2 : Int) ^ n.toNat - (1 : Int), ())).snd.ms (doX (Sy.mk (gAt n l x).ms (gAt n l x).bs) ((0 : Int), (30 : Int), (0 : Int), (2 : Int) ^ n.toNat - (1 : Int), ())).snd.bs) ((1 : Int), (30 : Int), value, (2 : Int) ^ n.toNat - (1 : Int), ())).fst.fst = (2 : Int) ^ n.toNat - (1 : Int)) = true → inK IntKind.i64 ((↑(chX (Sy.mk (gAt n l x).ms (gAt n l x).bs)).length : Int) + (1 : Int)) ∧ (decide ((↑(chX (Sy.mk (doX (Sy.mk (doX (Sy.mk (gAt n l x).ms (gAt n l x).bs) ((0 : Int), (30 : Int), (0 : Int), (2 : Int) ^ n.toNat - (1 : Int), ())).snd.ms (doX (Sy.mk (gAt n l x).ms (gAt n l x).bs) ((0 : Int), (30 : Int), (0 : Int), (2 : Int) ^ n.toNat - (1 : Int), ())).snd.bs) ((1 : Int), (30 : Int), value, (2 : Int) ^ n.toNat - (1 : Int), ())).snd.ms (doX (Sy.mk (doX (Sy.mk (gAt n l x).ms (gAt n l x).bs) ((0 : Int), (30 : Int), (0 : Int), (2 : Int) ^ n.toNat - (1 : Int), ())).snd.ms (doX (Sy.mk (gAt n l x).ms (gAt n l x).bs) ((0 : Int), (30 : Int), (0 : Int), (2 : Int) ^ n.toNat - (1 : Int), ())).snd.bs) ((1 : Int), (30 : Int), value, (2 : Int) ^ n.toNat - (1 : Int), ())).snd.bs)).length : Int) = (↑(chX (Sy.mk (gAt n l x).ms (gAt n l x).bs)).length : Int) + (1 : Int)) = true → (decide ((↑(chX (Sy.mk (gAt n l x).ms (gAt n l x).bs)).length : Int) = (0 : Int)) = true → True) ∧ (decide ((↑(chX (Sy.mk (gAt n l x).ms (gAt n l x).bs)).length : Int) = (0 : Int)) = false → inK IntKind.i64 ((↑(chX (Sy.mk (doX (Sy.mk (doX (Sy.mk (gAt n l x).ms (gAt n l x).bs) ((0 : Int), (30 : Int), (0 : Int), (2 : Int) ^ n.toNat - (1 : Int), ())).snd.ms (doX (Sy.mk (gAt n l x).ms (gAt n l x).bs) ((0 : Int), (30 : Int), (0 : Int), (2 : Int) ^ n.toNat - (1 : Int), ())).snd.bs) ((1 : Int), (30 : Int), value, (2 : Int) ^ n.toNat - (1 : Int), ())).snd.ms (doX (Sy.mk (doX (Sy.mk (gAt n l x).ms (gAt n l x).bs) ((0 : Int), (30 : Int), (0 : Int), (2 : Int) ^ n.toNat - (1 : Int), ())).snd.ms (doX (Sy.mk (gAt n l x).ms (gAt n l x).bs) ((0 : Int), (30 : Int), (0 : Int), (2 : Int) ^ n.toNat - (1 : Int), ())).snd.bs) ((1 : Int), (30 : Int), value, (2 : Int) ^ n.toNat - (1 : Int), ())).snd.bs)).length : Int) - (1 : Int)) ∧ (0 : Int) ≤ (↑(chX (Sy.mk (doX (Sy.mk (doX (Sy.mk (gAt n l x).ms (gAt n l x).bs) ((0 : Int), (30 : Int), (0 : Int), (2 : Int) ^ n.toNat - (1 : Int), ())).snd.ms (doX (Sy.mk (gAt n l x).ms (gAt n l x).bs) ((0 : Int), (30 : Int), (0 : Int), (2 : Int) ^ n.toNat - (1 : Int), ())).snd.bs) ((1 : Int), (30 : Int), value, (2 : Int) ^ n.toNat - (1 : Int), ())).snd.ms (doX (Sy.mk (doX (Sy.mk (gAt n l x).ms (gAt n l x).bs) ((0 : Int), (30 : Int), (0 : Int), (2 : Int) ^ n.toNat - (1 : Int), ())).snd.ms (doX (Sy.mk (gAt n l x).ms (gAt n l x).bs) ((0 : Int), (30 : Int), (0 : Int), (2 : Int) ^ n.toNat - (1 : Int), ())).snd.bs) ((1 : Int), (30 : Int), value, (2 : Int) ^ n.toNat - (1 : Int), ())).snd.bs)).length : Int) - (1 : Int) ∧ (↑(chX (Sy.mk (doX (Sy.mk (doX (Sy.mk (gAt n l x).ms (gAt n l x).bs) ((0 : Int), (30 : Int), (0 : Int), (2 : Int) ^ n.toNat - (1 : Int), ())).snd.ms (doX (Sy.mk (gAt n l x).ms (gAt n l x).bs) ((0 : Int), (30 : Int), (0 : Int), (2 : Int) ^ n.toNat - (1 : Int), ())).snd.bs) ((1 : Int), (30 : Int), value, (2 : Int) ^ n.toNat - (1 : Int), ())).snd.ms (doX (Sy.mk (doX (Sy.mk (gAt n l x).ms (gAt n l x).bs) ((0 : Int), (30 : Int), (0 : Int), (2 : Int) ^ n.toNat - (1 : Int), ())).snd.ms (doX (Sy.mk (gAt n l x).ms (gAt n l x).bs) ((0 : Int), (30 : Int), (0 : Int), (2 : Int) ^ n.toNat - (1 : Int), ())).snd.bs) ((1 : Int), (30 : Int), value, (2 : Int) ^ n.toNat - (1 : Int), ())).snd.bs)).length : Int) - (1 : Int) < (↑(chX (Sy.mk (doX (Sy.mk (doX (Sy.mk (gAt n l x).ms (gAt n l x).bs) ((0 : Int), (30 : Int), (0 : Int), (2 : Int) ^ n.toNat - (1 : Int), ())).snd.ms (doX (Sy.mk (gAt n l x).ms (gAt n l x).bs) ((0 : Int), (30 : Int), (0 : Int), (2 : Int) ^ n.toNat - (1 : Int), ())).snd.bs) ((1 : Int), (30 : Int), value, (2 : Int) ^ n.toNat - (1 : Int), ())).snd.ms (doX (Sy.mk (doX (Sy.mk (gAt n l x).ms (gAt n l x).bs) ((0 : Int), (30 : Int), (0 : Int), (2 : Int) ^ n.toNat - (1 : Int), ())).snd.ms (doX (Sy.mk (gAt n l x).ms (gAt n l x).bs) ((0 : Int), (30 : Int), (0 : Int), (2 : Int) ^ n.toNat - (1 : Int), ())).snd.bs) ((1 : Int), (30 : Int), value, (2 : Int) ^ n.toNat - (1 : Int), ())).snd.bs)).length : Int) ∧ (0 : Int) ≤ (0 : Int) ∧ (0 : Int) < (↑(chX (Sy.mk (gAt n l x).ms (gAt n l x).bs)).length : Int) ∧ True)) ∧ (decide ((↑(chX (Sy.mk (doX (Sy.mk (doX (Sy.mk (gAt n l x).ms (gAt n l x).bs) ((0 : Int), (30 : Int), (0 : Int), (2 : Int) ^ n.toNat - (1 : Int), ())).snd.ms (doX (Sy.mk (gAt n l x).ms (gAt n l x).bs) ((0 : Int), (30 : Int), (0 : Int), (2 : Int) ^ n.toNat - (1 : Int), ())).snd.bs) ((1 : Int), (30 : Int), value, (2 : Int) ^ n.toNat - (1 : Int), ())).snd.ms (doX (Sy.mk (doX (Sy.mk (gAt n l x).ms (gAt n l x).bs) ((0 : Int), (30 : Int), (0 : Int), (2 : Int) ^ n.toNat - (1 : Int), ())).snd.ms (doX (Sy.mk (gAt n l x).ms (gAt n l x).bs) ((0 : Int), (30 : Int), (0 : Int), (2 : Int) ^ n.toNat - (1 : Int), ())).snd.bs) ((1 : Int), (30 : Int), value, (2 : Int) ^ n.toNat - (1 : Int), ())).snd.bs)).length : Int) = (↑(chX (Sy.mk (gAt n l x).ms (gAt n l x).bs)).length : Int) + (1 : Int)) = false → True)) ∧ (decide ((doX (Sy.mk (doX (Sy.mk (gAt n l x).ms (gAt n l x).bs) ((0 : Int), (30 : Int), (0 : Int), (2 : Int) ^ n.toNat - (1 : Int), ())).snd.ms (doX (Sy.mk (gAt n l x).ms (gAt n l x).bs) ((0 : Int), (30 : Int), (0 : Int), (2 : Int) ^ n.toNat - (1 : Int), ())).snd.bs) ((1 : Int), (30 : Int), value, (2 : Int) ^ n.toNat - (1 : Int), ())).fst.fst = (2 : Int) ^ n.toNat - (1 : Int)) = false → True)) ∧ (decide ((doX (Sy.mk (gAt n l x).ms (gAt n l x).bs) ((0 : Int), (30 : Int), (0 : Int), (2 : Int) ^ n.toNat - (1 : Int), ())).fst.fst = (2 : Int) ^ n.toNat - (1 : Int)) = false → True)) ∧ (decide ((doX (Sy.mk (doX (Sy.mk (gAt n l x).ms (gAt n l x).bs) ((0 : Int), (30 : Int), (0 : Int), (2 : Int) ^ n.toNat - (1 : Int), ())).snd.ms (doX (Sy.mk (gAt n l x).ms (gAt n l x).bs) ((0 : Int), (30 : Int), (0 : Int), (2 : Int) ^ n.toNat - (1 : Int), ())).snd.bs) ((1 : Int), (30 : Int), value, (2 : Int) ^ n.toNat - (1 : Int), ())).fst.snd = (0 : Int)) = false → True)) ∧ (decide ((doX (Sy.mk (gAt n l x).ms (gAt n l x).bs) ((0 : Int), (30 : Int), (0 : Int), (2 : Int) ^ n.toNat - (1 : Int), ())).fst.snd = (0 : Int)) = false → True)) ∧ k [Dat.mk Ty.bool (decide ((doX (Sy.mk (gAt n l x).ms (gAt n l x).bs) ((0 : Int), (30 : Int), (0 : Int), (2 : Int) ^ n.toNat - (1 : Int), ())).fst.snd = (0 : Int)) && (decide ((doX (Sy.mk (doX (Sy.mk (gAt n l x).ms (gAt n l x).bs) ((0 : Int), (30 : Int), (0 : Int), (2 : Int) ^ n.toNat - (1 : Int), ())).snd.ms (doX (Sy.mk (gAt n l x).ms (gAt n l x).bs) ((0 : Int), (30 : Int), (0 : Int), (2 : Int) ^ n.toNat - (1 : Int), ())).snd.bs) ((1 : Int), (30 : Int), value, (2 : Int) ^ n.toNat - (1 : Int), ())).fst.snd = (0 : Int)) && (decide ((doX (Sy.mk (gAt n l x).ms (gAt n l x).bs) ((0 : Int), (30 : Int), (0 : Int), (2 : Int) ^ n.toNat - (1 : Int), ())).fst.fst = (2 : Int) ^ n.toNat - (1 : Int)) && (decide ((doX (Sy.mk (doX (Sy.mk (gAt n l x).ms (gAt n l x).bs) ((0 : Int), (30 : Int), (0 : Int), (2 : Int) ^ n.toNat - (1 : Int), ())).snd.ms (doX (Sy.mk (gAt n l x).ms (gAt n l x).bs) ((0 : Int), (30 : Int), (0 : Int), (2 : Int) ^ n.toNat - (1 : Int), ())).snd.bs) ((1 : Int), (30 : Int), value, (2 : Int) ^ n.toNat - (1 : Int), ())).fst.fst = (2 : Int) ^ n.toNat - (1 : Int)) && (decide ((↑(chX (Sy.mk (doX (Sy.mk (doX (Sy.mk (gAt n l x).ms (gAt n l x).bs) ((0 : Int), (30 : Int), (0 : Int), (2 : Int) ^ n.toNat - (1 : Int), ())).snd.ms (doX (Sy.mk (gAt n l x).ms (gAt n l x).bs) ((0 : Int), (30 : Int), (0 : Int), (2 : Int) ^ n.toNat - (1 : Int), ())).snd.bs) ((1 : Int), (30 : Int), value, (2 : Int) ^ n.toNat - (1 : Int), ())).snd.ms (doX (Sy.mk (doX (Sy.mk (gAt n l x).ms (gAt n l x).bs) ((0 : Int), (30 : Int), (0 : Int), (2 : Int) ^ n.toNat - (1 : Int), ())).snd.ms (doX (Sy.mk (gAt n l x).ms (gAt n l x).bs) ((0 : Int), (30 : Int), (0 : Int), (2 : Int) ^ n.toNat - (1 : Int), ())).snd.bs) ((1 : Int), (30 : Int), value, (2 : Int) ^ n.toNat - (1 : Int), ())).snd.bs)).length : Int) = (↑(chX (Sy.mk (gAt n l x).ms (gAt n l x).bs)).length : Int) + (1 : Int)) && (decide ((↑(chX (Sy.mk (gAt n l x).ms (gAt n l x).bs)).length : Int) = (0 : Int)) || decide ((chX (Sy.mk (doX (Sy.mk (doX (Sy.mk (gAt n l x).ms (gAt n l x).bs) ((0 : Int), (30 : Int), (0 : Int), (2 : Int) ^ n.toNat - (1 : Int), ())).snd.ms (doX (Sy.mk (gAt n l x).ms (gAt n l x).bs) ((0 : Int), (30 : Int), (0 : Int), (2 : Int) ^ n.toNat - (1 : Int), ())).snd.bs) ((1 : Int), (30 : Int), value, (2 : Int) ^ n.toNat - (1 : Int), ())).snd.ms (doX (Sy.mk (doX (Sy.mk (gAt n l x).ms (gAt n l x).bs) ((0 : Int), (30 : Int), (0 : Int), (2 : Int) ^ n.toNat - (1 : Int), ())).snd.ms (doX (Sy.mk (gAt n l x).ms (gAt n l x).bs) ((0 : Int), (30 : Int), (0 : Int), (2 : Int) ^ n.toNat - (1 : Int), ())).snd.bs) ((1 : Int), (30 : Int), value, (2 : Int) ^ n.toNat - (1 : Int), ())).snd.bs)).getD ((↑(chX (Sy.mk (doX (Sy.mk (doX (Sy.mk (gAt n l x).ms (gAt n l x).bs) ((0 : Int), (30 : Int), (0 : Int), (2 : Int) ^ n.toNat - (1 : Int), ())).snd.ms (doX (Sy.mk (gAt n l x).ms (gAt n l x).bs) ((0 : Int), (30 : Int), (0 : Int), (2 : Int) ^ n.toNat - (1 : Int), ())).snd.bs) ((1 : Int), (30 : Int), value, (2 : Int) ^ n.toNat - (1 : Int), ())).snd.ms (doX (Sy.mk (doX (Sy.mk (gAt n l x).ms (gAt n l x).bs) ((0 : Int), (30 : Int), (0 : Int), (2 : Int) ^ n.toNat - (1 : Int), ())).snd.ms (doX (Sy.mk (gAt n l x).ms (gAt n l x).bs) ((0 : Int), (30 : Int), (0 : Int), (2 : Int) ^ n.toNat - (1 : Int), ())).snd.bs) ((1 : Int), (30 : Int), value, (2 : Int) ^ n.toNat - (1 : Int), ())).snd.bs)).length : Int) - (1 : Int)).toNat (0 : Int) = (chX (Sy.mk (gAt n l x).ms (gAt n l x).bs)).getD (Int.toNat (0 : Int)) (0 : Int))))))))]))))) ∧ (inB n (1 : Int) (8 : Int) = false → ((!decide ((1 : Int) = (0 : Int))) = true → k [Dat.mk Ty.bool true]) ∧ ((!decide ((1 : Int) = (0 : Int))) = false → (decide (value < (0 : Int)) = true → k [Dat.mk Ty.bool true]) ∧ (decide (value < (0 : Int)) = false → (decide ((1000000 : Int) < value) = true → k [Dat.mk Ty.bool true]) ∧ (decide ((1000000 : Int) < value) = false → (∃ (x : Nat), (x ≤ l.length ∧ True) ∧ (n = n ∧ l = l ∧ value = value ∧ True ∧ (0 : Int) = (↑x : Int) ∧ True) ∧ (False ∧ False ∧ True) ∧ tabD = tabD ∧ True) ∧ ∀ (x : Nat), x ≤ l.length ∧ True → (decide ((↑x : Int) < (↑l.length : Int)) = true → (decide ((↑x : Int) < (60 : Int)) = true → (0 : Int) ≤ (↑x : Int) ∧ (↑x : Int) < (↑l.length : Int) ∧ (decide ((l.getD (↑x : Int).toNat ((0 : Int), (0 : Int), (0 : Int), (0 : Int), ())).snd.fst < (30 : Int)) = true → (0 : Int) ≤ (↑x : Int) ∧ (↑x : Int) < (↑l.length : Int) ∧ False) ∧ (decide ((l.getD (↑x : Int).toNat ((0 : Int), (0 : Int), (0 : Int), (0 : Int), ())).snd.fst < (30 : Int)) = false → inK IntKind.i64 ((↑x : Int) + (1 : Int)) ∧ ∃ (x_1 : Nat), (x_1 ≤ l.length ∧ True) ∧ l.length - x_1 < l.length - x ∧ (n = n ∧ l = l ∧ value = value ∧ True ∧ (↑x : Int) + (1 : Int) = (↑x_1 : Int) ∧ True) ∧ ((True ∧ (gAt n l x).bs = (gAt n l x_1).bs ∧ True) ∧ ((58 : Nat) = (58 : Nat) ∧ (gAt n l x).ms = (gAt n l x_1).ms) ∧ True) ∧ tabD = tabD ∧ True)) ∧ (decide ((↑x : Int) < (60 : Int)) = false → False)) ∧ (decide ((↑x : Int) < (↑l.length : Int)) = false → False))))))) := by kernel_rfl
theorem vcAsked (n : Int) (l : List As) (k : List Dat → Prop) : vcF ⟨El, [(8, cFact), (13, cMember)], glT, [], [(9, oNew), (10, oDoX)]⟩ (anAsked n l) (Tryd.f5.body.getD .skip) Tryd.f5.ntmps [(.tmp 4, .bool)] [⟨I, n⟩, ⟨.sl tAs, l⟩] k = (
  True ∧ ((!true) = true → k [Dat.mk Ty.bool false]) ∧ ((!true) = false → (inB n (1 : Int) (8 : Int) = true → ((!decide ((0 : Int) = (0 : Int))) = true → (decide (n < (1 : Int)) = true → k [Dat.mk Ty.bool true]) ∧ (decide (n < (1 : Int)) = false → k [Dat.mk Ty.bool (decide ((8 : Int) < n))])) ∧ ((!decide ((0 : Int) = (0 : Int))) = false → (0 : Int) ≤ n ∧ n ≤ n ∧ n ≤ (1000000000 : Int) ∧ (∃ (x : Nat), (x ≤ n.toNat ∧ True) ∧ (n = n ∧ l = l ∧ True ∧ True ∧ (0 : Int) = (↑x : Int) ∧ True) ∧ ((True ∧ List.replicate (31 : Nat) nB = List.replicate (31 : Nat) nB ∧ True) ∧ ((58 : Nat) = (58 : Nat) ∧ List.replicate n.toNat nM = List.replicate n.toNat nM) ∧ ((3 : Nat) = (3 : Nat) ∧ List.replicate n.toNat (0 : Int) = was0 n x) ∧ True) ∧ tabD = tabD ∧ True) ∧ ∀ (x : Nat), x ≤ n.toNat ∧ True → (decide ((↑x : Int) < n) = true → (0 : Int) ≤ (↑x : Int) ∧ (↑x : Int) < (↑(was0 n x).length : Int) ∧ inK IntKind.i64 ((↑x : Int) + (1 : Int)) ∧ ∃ (x_1 : Nat), (x_1 ≤ n.toNat ∧ True) ∧ n.toNat - x_1 < n.toNat - x ∧ (n = n ∧ l = l ∧ True ∧ True ∧ (↑x : Int) + (1 : Int) = (↑x_1 : Int) ∧ True) ∧ ((True ∧ List.replicate (31 : Nat) nB = List.replicate (31 : Nat) nB ∧ True) ∧ ((58 : Nat) = (58 : Nat) ∧ List.replicate n.toNat nM = List.replicate n.toNat nM) ∧ ((3 : Nat) = (3 : Nat) ∧ (was0 n x).set (↑x : Int).toNat (-1 : Int) = was0 n x_1) ∧ True) ∧ tabD = tabD ∧ True) ∧ (decide ((↑x : Int) < n) = false → (∃ (x_1 : Nat), (x_1 ≤ l.length ∧ True) ∧ (n = n ∧ l = l ∧ True ∧ True ∧ (0 : Int) = (↑x_1 : Int) ∧ True) ∧ ((True ∧ List.replicate (31 : Nat) nB = (sAt n l x_1).bs ∧ True) ∧ ((58 : Nat) = (58 : Nat) ∧ List.replicate n.toNat nM = (sAt n l x_1).ms) ∧ ((3 : Nat) = (3 : Nat) ∧ was0 n x = List.map (fun (x : Me) => x.fst) (sAt n l x_1).ms) ∧ True) ∧ tabD = tabD ∧ True) ∧ ∀ (x : Nat), x ≤ l.length ∧ True → (decide ((↑x : Int) < (↑l.length : Int)) = true → (decide ((↑x : Int) < (60 : Int)) = true → (0 : Int) ≤ (↑x : Int) ∧ (↑x : Int) < (↑l.length : Int) ∧ SyInv (Sy.mk (sAt n l x).ms (sAt n l x).bs) ∧ (∃ (x_1 : Nat), (x_1 ≤ n.toNat ∧ True) ∧ (n = n ∧ l = l ∧ True ∧ True ∧ (↑x : Int) = (↑x : Int) ∧ (0 : Int) = (↑x_1 : Int) ∧ True) ∧ ((True ∧ (doX (Sy.mk (sAt n l x).ms (sAt n l x).bs) (l.getD (↑x : Int).toNat ((0 : Int), (0 : Int), (0 : Int), (0 : Int), ()))).snd.bs = (sAt n l ((↑x : Int).toNat + (1 : Nat))).bs ∧ True) ∧ ((58 : Nat) = (58 : Nat) ∧ (doX (Sy.mk (sAt n l x).ms (sAt n l x).bs) (l.getD (↑x : Int).toNat ((0 : Int), (0 : Int), (0 : Int), (0 : Int), ()))).snd.ms = (sAt n l ((↑x : Int).toNat + (1 : Nat))).ms) ∧ ((3 : Nat) = (3 : Nat) ∧ List.map (fun (x : Me) => x.fst) (sAt n l x).ms = wasM (sAt n l (↑x : Int).toNat) (sAt n l ((↑x : Int).toNat + (1 : Nat))) x_1) ∧ True) ∧ tabD = tabD ∧ True) ∧ ∀ (x_1 : Nat), x_1 ≤ n.toNat ∧ True → (decide ((↑x_1 : Int) < n) = true → (∃ (s : tMe.sl.D × ((Ty.ar (31 : Nat) tBa).pr Ty.un).D), some ((sAt n l ((↑x : Int).toNat + (1 : Nat))).ms, (sAt n l ((↑x : Int).toNat + (1 : Nat))).bs, ()) = some s ∧ List.length s.fst ≤ (8 : Nat)) ∧ (0 : Int) ≤ (↑x_1 : Int) ∧ (↑x_1 : Int) < (↑(wasM (sAt n l (↑x : Int).toNat) (sAt n l ((↑x : Int).toNat + (1 : Nat))) x_1).length : Int) ∧ (decide ((memF (sAt n l ((↑x : Int).toNat + (1 : Nat))).ms (↑x_1 : Int)).fst < (wasM (sAt n l (↑x : Int).toNat) (sAt n l ((↑x : Int).toNat + (1 : Nat))) x_1).getD (↑x_1 : Int).toNat (0 : Int)) = true → k [Dat.mk Ty.bool false]) ∧ (decide ((memF (sAt n l ((↑x : Int).toNat + (1 : Nat))).ms (↑x_1 : Int)).fst < (wasM (sAt n l (↑x : Int).toNat) (sAt n l ((↑x : Int).toNat + (1 : Nat))) x_1).getD (↑x_1 : Int).toNat (0 : Int)) = false → (decide ((memF (sAt n l ((↑x : Int).toNat + (1 : Nat))).ms (↑x_1 : Int)).fst < (memF (sAt n l ((↑x : Int).toNat + (1 : Nat))).ms (↑x_1 : Int)).snd.fst) = true → k [Dat.mk Ty.bool false]) ∧ (decide ((memF (sAt n l ((↑x : Int).toNat + (1 : Nat))).ms (↑x_1 : Int)).fst < (memF (sAt n l ((↑x : Int).toNat + (1 : Nat))).ms (↑x_1 : Int)).snd.fst) = false → (0 : Int) ≤ (↑x_1 : Int) ∧ (↑x_1 : Int) < (↑(wasM (sAt n l (↑x : Int).toNat) (sAt n l ((↑x : Int).toNat + (1 : Nat))) x_1).length : Int) ∧ (∃ (x_2 : Nat), (x_2 ≤ (↑x : Int).toNat + (1 : Nat) ∧ True) ∧ (n = n ∧ l = l ∧ True ∧ True ∧ (↑x : Int) = (↑x : Int) ∧ (↑x_1 : Int) = (↑x_1 : Int) ∧ (memF (sAt n l ((↑x : Int).toNat + (1 : Nat))).ms (↑x_1 : Int)).fst = (memF (sAt n l ((↑x : Int).toNat + (1 : Nat))).ms (↑x_1 : Int)).fst ∧ (memF (sAt n l ((↑x : Int).toNat + (1 : Nat))).ms (↑x_1 : Int)).snd.fst = (memF (sAt n l ((↑x : Int).toNat + (1 : Nat))).ms (↑x_1 : Int)).snd.fst ∧ (memF (sAt n l ((↑x : Int).toNat + (1 : Nat))).ms (↑x_1 : Int)).snd.snd = (memF (sAt n l ((↑x : Int).toNat + (1 : Nat))).ms (↑x_1 : Int)).snd.snd ∧ decide ((memF (sAt n l ((↑x : Int).toNat + (1 : Nat))).ms (↑x_1 : Int)).snd.fst = (-1 : Int)) = askB l (memF (sAt n l ((↑x : Int).toNat + (1 : Nat))).ms (↑x_1 : Int)).snd.fst (memF (sAt n l ((↑x : Int).toNat + (1 : Nat))).ms (↑x_1 : Int)).snd.snd x_2 ∧ (0 : Int) = (↑x_2 : Int) ∧ True) ∧ ((True ∧ (sAt n l ((↑x : Int).toNat + (1 : Nat))).bs = (sAt n l ((↑x : Int).toNat + (1 : Nat))).bs ∧ True) ∧ ((58 : Nat) = (58 : Nat) ∧ (sAt n l ((↑x : Int).toNat + (1 : Nat))).ms = (sAt n l ((↑x : Int).toNat + (1 : Nat))).ms) ∧ ((3 : Nat) = (3 : Nat) ∧ (wasM (sAt n l (↑x : Int).toNat) (sAt n l ((↑x : Int).toNat + (1 : Nat))) x_1).set (↑x_1 : Int).toNat (memF (sAt n l ((↑x : Int).toNat + (1 : Nat))).ms (↑x_1 : Int)).fst = (wasM (sAt n l (↑x : Int).toNat) (sAt n l ((↑x : Int).toNat + (1 : Nat))) x_1).set (↑x_1 : Int).toNat (memF (sAt n l ((↑x : Int).toNat + (1 : Nat))).ms (↑x_1 : Int)).fst) ∧ True) ∧ tabD = tabD ∧ True) ∧ ∀ (x_2 : Nat), x_2 ≤ (↑x : Int).toNat + (1 : Nat) ∧ True → (decide ((↑x_2 : Int) ≤ (↑x : Int)) = true → (askB l (memF (sAt n l ((↑x : Int).toNat + (1 : Nat))).ms (↑x_1 : Int)).snd.fst (memF (sAt n l ((↑x : Int).toNat + (1 : Nat))).ms (↑x_1 : Int)).snd.snd x_2 = true → inK IntKind.i64 ((↑x_2 : Int) + (1 : Int)) ∧ ∃ (x_3 : Nat), (x_3 ≤ (↑x : Int).toNat + (1 : Nat) ∧ True) ∧ l.length + (1 : Nat) - x_3 < l.length + (1 : Nat) - x_2 ∧ (n = n ∧ l = l ∧ True ∧ True ∧ (↑x : Int) = (↑x : Int) ∧ (↑x_1 : Int) = (↑x_1 : Int) ∧ (memF (sAt n l ((↑x : Int).toNat + (1 : Nat))).ms (↑x_1 : Int)).fst = (memF (sAt n l ((↑x : Int).toNat + (1 : Nat))).ms (↑x_1 : Int)).fst ∧ (memF (sAt n l ((↑x : Int).toNat + (1 : Nat))).ms (↑x_1 : Int)).snd.fst = (memF (sAt n l ((↑x : Int).toNat + (1 : Nat))).ms (↑x_1 : Int)).snd.fst ∧ (memF (sAt n l ((↑x : Int).toNat + (1 : Nat))).ms (↑x_1 : Int)).snd.snd = (memF (sAt n l ((↑x : Int).toNat + (1 : Nat))).ms (↑x_1 : Int)).snd.snd ∧ true = askB l (memF (sAt n l ((↑x : Int).toNat + (1 : Nat))).ms (↑x_1 : Int)).snd.fst (memF (sAt n l ((↑x : Int).toNat + (1 : Nat))).ms (↑x_1 : Int)).snd.snd x_3 ∧ (↑x_2 : Int) + (1 : Int) = (↑x_3 : Int) ∧ True) ∧ ((True ∧ (sAt n l ((↑x : Int).toNat + (1 : Nat))).bs = (sAt n l ((↑x : Int).toNat + (1 : Nat))).bs ∧ True) ∧ ((58 : Nat) = (58 : Nat) ∧ (sAt n l ((↑x : Int).toNat + (1 : Nat))).ms = (sAt n l ((↑x : Int).toNat + (1 : Nat))).ms) ∧ ((3 : Nat) = (3 : Nat) ∧ (wasM (sAt n l (↑x : Int).toNat) (sAt n l ((↑x : Int).toNat + (1 : Nat))) x_1).set (↑x_1 : Int).toNat (memF (sAt n l ((↑x : Int).toNat + (1 : Nat))).ms (↑x_1 : Int)).fst = (wasM (sAt n l (↑x : Int).toNat) (sAt n l ((↑x : Int).toNat + (1 : Nat))) x_1).set (↑x_1 : Int).toNat (memF (sAt n l ((↑x : Int).toNat + (1 : Nat))).ms (↑x_1 : Int)).fst) ∧ True) ∧ tabD = tabD ∧ True) ∧ (askB l (memF (sAt n l ((↑x : Int).toNat + (1 : Nat))).ms (↑x_1 : Int)).snd.fst (memF (sAt n l ((↑x : Int).toNat + (1 : Nat))).ms (↑x_1 : Int)).snd.snd x_2 = false → (0 : Int) ≤ (↑x_2 : Int) ∧ (↑x_2 : Int) < (↑l.length : Int) ∧ (decide ((l.getD (↑x_2 : Int).toNat ((0 : Int), (0 : Int), (0 : Int), (0 : Int), ())).fst = (1 : Int)) = true → (0 : Int) ≤ (↑x_2 : Int) ∧ (↑x_2 : Int) < (↑l.length : Int) ∧ inK IntKind.i64 ((↑x_2 : Int) + (1 : Int)) ∧ ∃ (x_3 : Nat), (x_3 ≤ (↑x : Int).toNat + (1 : Nat) ∧ True) ∧ l.length + (1 : Nat) - x_3 < l.length + (1 : Nat) - x_2 ∧ (n = n ∧ l = l ∧ True ∧ True ∧ (↑x : Int) = (↑x : Int) ∧ (↑x_1 : Int) = (↑x_1 : Int) ∧ (memF (sAt n l ((↑x : Int).toNat + (1 : Nat))).ms (↑x_1 : Int)).fst = (memF (sAt n l ((↑x : Int).toNat + (1 : Nat))).ms (↑x_1 : Int)).fst ∧ (memF (sAt n l ((↑x : Int).toNat + (1 : Nat))).ms (↑x_1 : Int)).snd.fst = (memF (sAt n l ((↑x : Int).toNat + (1 : Nat))).ms (↑x_1 : Int)).snd.fst ∧ (memF (sAt n l ((↑x : Int).toNat + (1 : Nat))).ms (↑x_1 : Int)).snd.snd = (memF (sAt n l ((↑x : Int).toNat + (1 : Nat))).ms (↑x_1 : Int)).snd.snd ∧ decide ((l.getD (↑x_2 : Int).toNat ((0 : Int), (0 : Int), (0 : Int), (0 : Int), ())).snd.snd.fst = (memF (sAt n l ((↑x : Int).toNat + (1 : Nat))).ms (↑x_1 : Int)).snd.snd) = askB l (memF (sAt n l ((↑x : Int).toNat + (1 : Nat))).ms (↑x_1 : Int)).snd.fst (memF (sAt n l ((↑x : Int).toNat + (1 : Nat))).ms (↑x_1 : Int)).snd.snd x_3 ∧ (↑x_2 : Int) + (1 : Int) = (↑x_3 : Int) ∧ True) ∧ ((True ∧ (sAt n l ((↑x : Int).toNat + (1 : Nat))).bs = (sAt n l ((↑x : Int).toNat + (1 : Nat))).bs ∧ True) ∧ ((58 : Nat) = (58 : Nat) ∧ (sAt n l ((↑x : Int).toNat + (1 : Nat))).ms = (sAt n l ((↑x : Int).toNat + (1 : Nat))).ms) ∧ ((3 : Nat) = (3 : Nat) ∧ (wasM (sAt n l (↑x : Int).toNat) (sAt n l ((↑x : Int).toNat + (1 : Nat))) x_1).set (↑x_1 : Int).toNat (memF (sAt n l ((↑x : Int).toNat + (1 : Nat))).ms (↑x_1 : Int)).fst = (wasM (sAt n l (↑x : Int).toNat) (sAt n l ((↑x : Int).toNat + (1 : Nat))) x_1).set (↑x_1 : Int).toNat (memF (sAt n l ((↑x : Int).toNat + (1 : Nat))).ms (↑x_1 : Int)).fst) ∧ True) ∧ tabD = tabD ∧ True) ∧ (decide ((l.getD (↑x_2 : Int).toNat ((0 : Int), (0 : Int), (0 : Int), (0 : Int), ())).fst = (1 : Int)) = false → inK IntKind.i64 ((↑x_2 : Int) + (1 : Int)) ∧ ∃ (x_3 : Nat), (x_3 ≤ (↑x : Int).toNat + (1 : Nat) ∧ True) ∧ l.length + (1 : Nat) - x_3 < l.length + (1 : Nat) - x_2 ∧ (n = n ∧ l = l ∧ True ∧ True ∧ (↑x : Int) = (↑x : Int) ∧ (↑x_1 : Int) = (↑x_1 : Int) ∧ (memF (sAt n l ((↑x : Int).toNat + (1 : Nat))).ms (↑x_1 : Int)).fst = (memF (sAt n l ((↑x : Int).toNat + (1 : Nat))).ms (↑x_1 : Int)).fst ∧ (memF (sAt n l ((↑x : Int).toNat + (1 : Nat))).ms (↑x_1 : Int)).snd.fst = (memF (sAt n l ((↑x : Int).toNat + (1 : Nat))).ms (↑x_1 : Int)).snd.fst ∧ (memF (sAt n l ((↑x : Int).toNat + (1 : Nat))).ms (↑x_1 : Int)).snd.snd = (memF (sAt n l ((↑x : Int).toNat + (1 : Nat))).ms (↑x_1 : Int)).snd.snd ∧ false = askB l (memF (sAt n l ((↑x : Int).toNat + (1 : Nat))).ms (↑x_1 : Int)).snd.fst (memF (sAt n l ((↑x : Int).toNat + (1 : Nat))).ms (↑x_1 : Int)).snd.snd x_3 ∧ (↑x_2 : Int) + (1 : Int) = (↑x_3 : Int) ∧ True) ∧ ((True ∧ (sAt n l ((↑x : Int).toNat + (1 : Nat))).bs = (sAt n l ((↑x : Int).toNat + (1 : Nat))).bs ∧ True) ∧ ((58 : Nat) = (58 : Nat) ∧ (sAt n l ((↑x : Int).toNat + (1 : Nat))).ms = (sAt n l ((↑x : Int).toNat + (1 : Nat))).ms) ∧ ((3 : Nat) = (3 : Nat) ∧ (wasM (sAt n l (↑x : Int).toNat) (sAt n l ((↑x : Int).toNat + (1 : Nat))) x_1).set (↑x_1 : Int).toNat (memF (sAt n l ((↑x : Int).toNat + (1 : Nat))).ms (↑x_1 : Int)).fst = (wasM (sAt n l (↑x : Int).toNat) (sAt n l ((↑x : Int).toNat + (1 : Nat))) x_1).set (↑x_1 : Int).toNat (memF (sAt n l ((↑x : Int).toNat + (1 : Nat))).ms (↑x_1 : Int)).fst) ∧ True) ∧ tabD = tabD ∧ True))) ∧ (decide ((↑x_2 : Int) ≤ (↑x : Int)) = false → ((!askB l (memF (sAt n l ((↑x : Int).toNat + (1 : Nat))).ms (↑x_1 : Int)).snd.fst (memF (sAt n l ((↑x : Int).toNat + (1 : Nat))).ms (↑x_1 : Int)).snd.snd x_2) = true → k [Dat.mk Ty.bool false]) ∧ ((!askB l (memF (sAt n l ((↑x : Int).toNat + (1 : Nat))).ms (↑x_1 : Int)).snd.fst (memF (sAt n l ((↑x : Int).toNat + (1 : Nat))).ms (↑x_1 : Int)).snd.snd x_2) = false → inK IntKind.i64 ((↑x_1 : Int) + (1 : Int)) ∧ ∃ (x_3 : Nat), (x_3 ≤ n.toNat ∧ True) ∧ n.toNat - x_3 < n.toNat - x_1 ∧ (n = n ∧ l = l ∧ True ∧ True ∧ (↑x : Int) = (↑x : Int) ∧ (↑x_1 : Int) + (1 : Int) = (↑x_3 : Int) ∧ True) ∧ ((True ∧ (sAt n l ((↑x : Int).toNat + (1 : Nat))).bs = (sAt n l ((↑x : Int).toNat + (1 : Nat))).bs ∧ True) ∧ ((58 : Nat) = (58 : Nat) ∧ (sAt n l ((↑x : Int).toNat + (1 : Nat))).ms = (sAt n l ((↑x : Int).toNat + (1 : Nat))).ms) ∧ ((3 : Nat) = (3 : Nat) ∧ (wasM (sAt n l (↑x : Int).toNat) (sAt n l ((↑x : Int).toNat + (1 : Nat))) x_1).set (↑x_1 : Int).toNat (memF (sAt n l ((↑x : Int).toNat + (1 : Nat))).ms (↑x_1 : Int)).fst = wasM (sAt n l (↑x : Int).toNat) (sAt n l ((↑x : Int).toNat + (1 : Nat))) x_3) ∧ True) ∧ tabD = tabD ∧ True))))) ∧ (decide ((↑x_1 : Int) < n) = false → inK IntKind.i64 ((↑x : Int) + (1 : Int)) ∧ ∃ (x_2 : Nat), (x_2 ≤ l.length ∧ True) ∧ l.length - x_2 < l.length - x ∧ (n = n ∧ l = l ∧ True ∧ True ∧ (↑x : Int) + (1 : Int) = (↑x_2 : Int) ∧ True) ∧ ((True ∧ (sAt n l ((↑x : Int).toNat + (1 : Nat))).bs = (sAt n l x_2).bs ∧ True) ∧ ((58 : Nat) = (58 : Nat) ∧ (sAt n l ((↑x : Int).toNat + (1 : Nat))).ms = (sAt n l x_2).ms) ∧ ((3 : Nat) = (3 : Nat) ∧ wasM (sAt n l (↑x : Int).toNat) (sAt n l ((↑x : Int).toNat + (1 : Nat))) x_1 = List.map (fun (x : Me) => x.fst) (sAt n l x_2).ms) ∧ True) ∧ tabD = tabD ∧ True)) ∧ (decide ((↑x : Int) < (60 : Int)) = false → k [Dat.mk Ty.bool true])) ∧ (decide ((↑x : Int) < (↑l.length : Int)) = false → k [Dat.mk Ty.bool true])))) ∧ (inB n (1 : Int) (8 : Int) = false → ((!decide ((1 : Int) = (0 : Int))) = true → (decide (n < (1 : Int)) = true → k [Dat.mk Ty.bool true]) ∧ (decide (n < (1 : Int)) = false → k [Dat.mk Ty.bool (decide ((8 : Int) < n))])) ∧ ((!decide ((1 : Int) = (0 : Int))) = false → (0 : Int) ≤ n ∧ n ≤ n ∧ n ≤ (1000000000 : Int) ∧ (∃ (x : Nat), (x ≤ n.toNat ∧ True) ∧ (n = n ∧ l = l ∧ True ∧ True ∧ (0 : Int) = (↑x : Int) ∧ True) ∧ (((3 : Nat) = (3 : Nat) ∧ List.replicate n.toNat (0 : Int) = List.replicate n.toNat (0 : Int)) ∧ True) ∧ tabD = tabD ∧ True) ∧ ∀ (x : Nat), x ≤ n.toNat ∧ True → (decide ((↑x : Int) < n) = true → (0 : Int) ≤ (↑x : Int) ∧ (↑x : Int) < (↑(List.replicate n.toNat (0 : Int)).length : Int) ∧ inK IntKind.i64 ((↑x : Int) + (1 : Int)) ∧ ∃ (x_1 : Nat), (x_1 ≤ n.toNat ∧ True) ∧ n.toNat - x_1 < n.toNat - x ∧ (n = n ∧ l = l ∧ True ∧ True ∧ (↑x : Int) + (1 : Int) = (↑x_1 : Int) ∧ True) ∧ (((3 : Nat) = (3 : Nat) ∧ (List.replicate n.toNat (0 : Int)).set (↑x : Int).toNat (-1 : Int) = List.replicate n.toNat (0 : Int)) ∧ True) ∧ tabD = tabD ∧ True) ∧ (decide ((↑x : Int) < n) = false → (∃ (x : Nat), (x ≤ l.length ∧ True) ∧ (n = n ∧ l = l ∧ True ∧ True ∧ (0 : Int) = (↑x : Int) ∧ True) ∧ (False ∧ False ∧ False ∧ True) ∧ tabD = tabD ∧ True) ∧ ∀ (x : Nat), x ≤ l.length ∧ True → (decide ((↑x : Int) < (↑l.length : Int)) = true → (decide ((↑x : Int) < (60 : Int)) = true → (0 : Int) ≤ (↑x : Int) ∧ (↑x : Int) < (↑l.length : Int) ∧ False) ∧ (decide ((↑x : Int) < (60 : Int)) = false → k [Dat.mk Ty.bool true])) ∧ (decide ((↑x : Int) < (↑l.length : Int)) = false → k [Dat.mk Ty.bool true])))))) := by kernel_rfl
end Go.Proofs.YtdpnakebhpecfaaDoor

/- Synods: what stays so. -/
namespace Go.Proofs.YtdpnakebhpecfaaDoor
open Go.Vc
theorem withM_lt {d i : Int} {m : Nat} (hd : 0 ≤ d ∧ d < 2 ^ m) (hi : 0 ≤ i ∧ i < (m : Int)) : 0 ≤ withM d i ∧ withM d i < 2 ^ m := by
  unfold withM
  refine ⟨Int.natCast_nonneg _, ?_⟩
  rw [powC] at hd ⊢
  have h1 : d.toNat < 2 ^ m := by omega
  have h2 : (1 * (2 : Int) ^ i.toNat).toNat < 2 ^ m := by
    rw [Int.one_mul, powC, Int.toNat_natCast]
    exact Nat.pow_lt_pow_right (by decide) (by omega)
  exact Int.ofNat_lt.2 (Nat.or_lt_two_pow h1 h2)
theorem orI_lt {a b : Int} {m : Nat} (ha : 0 ≤ a ∧ a < 2 ^ m) (hb : 0 ≤ b ∧ b < 2 ^ m) : 0 ≤ orI a b ∧ orI a b < 2 ^ m := by
  unfold orI
  refine ⟨Int.natCast_nonneg _, ?_⟩
  rw [powC] at ha hb ⊢
  exact Int.ofNat_lt.2 (Nat.or_lt_two_pow (show a.toNat < 2 ^ m by omega) (show b.toNat < 2 ^ m by omega))
theorem prep_did {k : Int} {s : Sy} {m : Nat} : ∀ {l : List Int}, (∀ y ∈ l, 0 ≤ y ∧ y < (m : Int)) → 0 ≤ (prepL k s l).2.2 ∧ (prepL k s l).2.2 < 2 ^ m := by
  intro l h
  unfold prepL
  have : ∀ (l : List Int) (x : Rd), (∀ y ∈ l, 0 ≤ y ∧ y < (m : Int)) → (0 ≤ x.2.2 ∧ x.2.2 < 2 ^ m) → 0 ≤ (l.foldl (prep1 k) x).2.2 ∧ (l.foldl (prep1 k) x).2.2 < 2 ^ m := by
    intro l
    induction l with
    | nil => intro x _ hx; exact hx
    | cons a r ih =>
      intro x h hx
      rw [List.foldl_cons]
      refine ih _ (fun y hy => h y (.tail _ hy)) ?_
      unfold prep1
      simp only
      split
      · exact hx
      · exact withM_lt hx (h a (.head _))
  exact this l _ h ⟨Int.le_refl _, two_pow_pos m⟩
theorem acc_did {k v : Int} {ms : List Me} {m : Nat} : ∀ {l : List Int}, (∀ y ∈ l, 0 ≤ y ∧ y < (m : Int)) → 0 ≤ (accL k v ms l).2 ∧ (accL k v ms l).2 < 2 ^ m := by
  intro l h
  unfold accL
  have : ∀ (l : List Int) (x : List Me × Int), (∀ y ∈ l, 0 ≤ y ∧ y < (m : Int)) → (0 ≤ x.2 ∧ x.2 < 2 ^ m) → 0 ≤ (l.foldl (acc1 k v) x).2 ∧ (l.foldl (acc1 k v) x).2 < 2 ^ m := by
    intro l
    induction l with
    | nil => intro x _ hx; exact hx
    | cons a r ih =>
      intro x h hx
      rw [List.foldl_cons]
      refine ih _ (fun y hy => h y (.tail _ hy)) ?_
      unfold acc1
      split
      · exact hx
      · exact withM_lt hx (h a (.head _))
  exact this l _ h ⟨Int.le_refl _, two_pow_pos m⟩
theorem prep_acc (k : Int) (s : Sy) (l : List Int) : (prepL k s l).2.1.2.1 = (s.bs.getD k.toNat zB).2.1 := by
  unfold prepL
  have : ∀ (l : List Int) (x : Rd), (l.foldl (prep1 k) x).2.1.2.1 = x.2.1.2.1 := by
    intro l
    induction l with
    | nil => intro x; rfl
    | cons a r ih =>
      intro x
      rw [List.foldl_cons, ih]
      unfold prep1
      simp only
      split
      · rfl
      · simp only
        split <;> rfl
  exact this l _
theorem set_pr {l : List Ba} {q : Nat} {b : Ba} (h : ∀ x ∈ l, 0 ≤ x.1 ∧ x.1 < 256 ∧ 0 ≤ x.2.1 ∧ x.2.1 < 256) (hb : 0 ≤ b.1 ∧ b.1 < 256 ∧ 0 ≤ b.2.1 ∧ b.2.1 < 256) : ∀ x ∈ l.set q b, 0 ≤ x.1 ∧ x.1 < 256 ∧ 0 ≤ x.2.1 ∧ x.2.1 < 256 := by
  intro x hx
  rcases List.mem_or_eq_of_mem_set hx with hx | rfl
  · exact h x hx
  · exact hb
theorem prp_pr (b : Ba) (v : Int) : (prpB b v).1 = b.1 := by unfold prpB; split <;> rfl
/-- whatever is asked, it is a synod still, of as many -/
theorem do_inv {s : Sy} (h : SyInv s) (a : As) : SyInv (doF s a).2 ∧ (doF s a).2.ms.length = s.ms.length := by
  unfold doF
  split
  · exact ⟨h, rfl⟩
  rename_i hA
  have ha := okA_of (show okA s.ms.length a = true by simpa using hA)
  have m8 := h.ok.m8
  have hq : a.2.1.toNat < s.bs.length := by have := h.ok.b; omega
  have hb := h.pr _ (getD_mem (z := zB) hq)
  have hbits : ∀ y ∈ bitsOf a.2.2.2.1, 0 ≤ y ∧ y < (s.ms.length : Int) := fun y hy => by
    have := bit_pos ha.2.2.2.1 ha.2.2.2.2 (by omega) hy
    exact ⟨this.1, this.2.1⟩
  have h256 : (2 : Int) ^ s.ms.length ≤ 256 := by
    rw [powC]
    exact Int.ofNat_le.2 (show 2 ^ s.ms.length ≤ 2 ^ 8 from Nat.pow_le_pow_right (by decide) m8)
  split
  · have pd := prep_did (k := a.2.1) (s := s) hbits
    have pi := prep_inv a.2.1 s (bitsOf a.2.2.2.1)
    have pl := prep_len a.2.1 s (bitsOf a.2.2.2.1)
    have o := orI_lt (m := 8) (a := (prepL a.2.1 s (bitsOf a.2.2.2.1)).2.1.1) (b := (prepL a.2.1 s (bitsOf a.2.2.2.1)).2.2) (by rw [pi.1]; exact ⟨hb.1, hb.2.1⟩) ⟨pd.1, by have := pd.2; have e : (2 : Int) ^ 8 = 256 := rfl; omega⟩
    have pa := prep_acc a.2.1 s (bitsOf a.2.2.2.1)
    refine ⟨⟨⟨?_, ?_, ?_⟩, ?_⟩, pl⟩
    · show 1 ≤ (prepL a.2.1 s (bitsOf a.2.2.2.1)).1.length
      rw [pl]; exact h.ok.m1
    · show (prepL a.2.1 s (bitsOf a.2.2.2.1)).1.length ≤ 8
      rw [pl]; exact m8
    · show (s.bs.set _ _).length = 31
      rw [List.length_set]; exact h.ok.b
    · exact set_pr h.pr ⟨o.1, o.2, by rw [pa]; exact hb.2.2.1, by rw [pa]; exact hb.2.2.2⟩
  · split
    · exact ⟨h, rfl⟩
    · obtain ⟨il, i0⟩ := acc_inv a.2.1 (prpB (s.bs.getD a.2.1.toNat zB) a.2.2.1).2.2.2.2.1 s.ms (bitsOf a.2.2.2.1)
      have pd := acc_did (k := a.2.1) (v := (prpB (s.bs.getD a.2.1.toNat zB) a.2.2.1).2.2.2.2.1) (ms := s.ms) hbits
      have o := orI_lt (m := 8) (a := (prpB (s.bs.getD a.2.1.toNat zB) a.2.2.1).2.1) (b := (accL a.2.1 (prpB (s.bs.getD a.2.1.toNat zB) a.2.2.1).2.2.2.2.1 s.ms (bitsOf a.2.2.2.1)).2) (by rw [prp_acc]; exact ⟨hb.2.2.1, hb.2.2.2⟩) ⟨pd.1, by have := pd.2; have e : (2 : Int) ^ 8 = 256 := rfl; omega⟩
      refine ⟨⟨⟨?_, ?_, ?_⟩, ?_⟩, il⟩
      · show 1 ≤ (accL _ _ _ _).1.length
        rw [il]; exact h.ok.m1
      · show (accL _ _ _ _).1.length ≤ 8
        rw [il]; exact m8
      · show (s.bs.set _ _).length = 31
        rw [List.length_set]; exact h.ok.b
      · exact set_pr h.pr ⟨by rw [prp_pr]; exact hb.1, by rw [prp_pr]; exact hb.2.1, o.1, o.2⟩
end Go.Proofs.YtdpnakebhpecfaaDoor

/- Synods: one value is chosen. -/
namespace Go.Proofs.YtdpnakebhpecfaaDoor
open Go.Vc
def has (s : Int) (i : Nat) : Prop := s.toNat.testBit i = true
theorem has_withM (d i : Int) (j : Nat) : has (withM d i) j ↔ has d j ∨ j = i.toNat := by
  unfold has withM
  rw [Int.one_mul, Int.toNat_natCast, Nat.testBit_or, powC, Int.toNat_natCast, Nat.testBit_two_pow]
  simp only [Bool.or_eq_true, decide_eq_true_eq]
  constructor
  · rintro (h | h)
    · exact .inl h
    · exact .inr h.symm
  · rintro (h | h)
    · exact .inl h
    · exact .inr h.symm
theorem orI_withM (a d i : Int) : orI a (withM d i) = withM (orI a d) i := by
  unfold orI withM
  rw [Int.toNat_natCast, Int.toNat_natCast, Nat.or_assoc]
theorem orI_zero {a : Int} (h : 0 ≤ a) : orI a 0 = a := by
  unfold orI
  rw [Int.toNat_zero, Nat.or_zero, Int.toNat_of_nonneg h]
/-- how many below 'n' -/
def cnt (p : Nat → Bool) (n : Nat) : Nat := ((List.range n).filter p).length
theorem cnt_succ (p : Nat → Bool) (n : Nat) : cnt p (n + 1) = cnt p n + (if p n = true then 1 else 0) := by
  unfold cnt
  rw [List.range_succ, List.filter_append, List.length_append]
  cases h : p n <;> simp [h]
theorem cnt_two {p q : Nat → Bool} {m : Nat} (h : ∀ i, ¬ (p i = true ∧ q i = true)) (hm : ∀ i, p i = true ∨ q i = true → i < m) : ∀ n, cnt p n + cnt q n ≤ m ∧ cnt p n + cnt q n ≤ n
  | 0 => ⟨Nat.zero_le _, Nat.le_refl _⟩
  | n + 1 => by
    have ih := cnt_two h hm n
    rw [cnt_succ, cnt_succ]
    have h1 := h n
    have h2 := hm n
    cases hp : p n <;> cases hq : q n <;> simp [hp, hq] at h1 h2 ⊢ <;> omega
/-- two sets of most meet -/
theorem most_meet {m : Nat} {a b : Int} (ha : mostB m a = true) (hb : mostB m b = true) (sa : ∀ i, has a i → i < m) (sb : ∀ i, has b i → i < m) : ∃ i, i < m ∧ has a i ∧ has b i := by
  by_cases h : ∃ i, has a i ∧ has b i
  · obtain ⟨i, h1, h2⟩ := h
    exact ⟨i, sa i h1, h1, h2⟩
  · have := (cnt_two (p := a.toNat.testBit) (q := b.toNat.testBit) (m := m) (fun i hi => h ⟨i, hi.1, hi.2⟩) (fun i hi => hi.elim (sa i) (sb i)) 8).1
    unfold mostB at ha hb
    have ha := of_decide_eq_true ha
    have hb := of_decide_eq_true hb
    unfold popN at ha hb
    unfold cnt at this
    omega
def Sy.me (s : Sy) (i : Nat) : Me := s.ms.getD i zM
def Sy.ba (s : Sy) (b : Nat) : Ba := s.bs.getD b zB
abbrev pS (b : Ba) : Int := b.1
abbrev aS (b : Ba) : Int := b.2.1
abbrev bst (b : Ba) : Int := b.2.2.1
abbrev tld (b : Ba) : Int := b.2.2.2.1
abbrev vl (b : Ba) : Int := b.2.2.2.2.1
abbrev prp (b : Ba) : Bool := b.2.2.2.2.2.1
/-- what holds, whatever is asked -/
structure Safe (s : Sy) : Prop where
  mem : ∀ i, i < s.ms.length → -1 ≤ (s.me i).2.1 ∧ (s.me i).2.1 ≤ (s.me i).1 ∧ ((s.me i).2.1 = -1 ∨ (0 ≤ (s.me i).2.1 ∧ (s.me i).2.1 < 31 ∧ prp (s.ba (s.me i).2.1.toNat) = true ∧ (s.me i).2.2.1 = vl (s.ba (s.me i).2.1.toNat)))
  sub : ∀ b, b < 31 → ∀ i, (has (pS (s.ba b)) i ∨ has (aS (s.ba b)) i) → i < s.ms.length
  acc : ∀ b, b < 31 → ∀ i, has (aS (s.ba b)) i → (b : Int) ≤ (s.me i).2.1 ∧ prp (s.ba b) = true
  pro : ∀ b, b < 31 → ∀ i, has (pS (s.ba b)) i → (b : Int) ≤ (s.me i).1
  bes : ∀ b, b < 31 → bst (s.ba b) = -1 ∨ (0 ≤ bst (s.ba b) ∧ bst (s.ba b) < (b : Int) ∧ prp (s.ba (bst (s.ba b)).toNat) = true ∧ tld (s.ba b) = vl (s.ba (bst (s.ba b)).toNat))
  fre : ∀ b, b < 31 → prp (s.ba b) = false → ∀ i, has (pS (s.ba b)) i → ∀ c, c < b → bst (s.ba b) < (c : Int) → ¬ has (aS (s.ba c)) i
  saf : ∀ b, b < 31 → prp (s.ba b) = true → ∀ c, c < b → (prp (s.ba c) = true ∧ vl (s.ba c) = vl (s.ba b)) ∨ (∃ Q : Int, mostB s.ms.length Q = true ∧ (∀ i, has Q i → i < s.ms.length) ∧ ∀ i, has Q i → (c : Int) < (s.me i).1 ∧ ¬ has (aS (s.ba c)) i)
def promB (b : Ba) (m : Me) : Ba := if b.2.2.1 < m.2.1 ∧ b.2.2.2.2.2.1 = false then (b.1, b.2.1, m.2.1, m.2.2.1, b.2.2.2.2) else b
/-- what is done at once -/
inductive Step (s s' : Sy) : Prop
  | promise (i k : Nat) (hi : i < s.ms.length) (hk : k < 31) (hlt : (s.me i).1 < (k : Int)) (hl : s'.ms.length = s.ms.length)
    (hm : ∀ j, s'.me j = if j = i then ((k : Int), (s.me i).2) else s.me j) (hb : ∀ c, s'.ba c = if c = k then (withM (promB (s.ba k) (s.me i)).1 i, (promB (s.ba k) (s.me i)).2) else s.ba c)
  | propose (k : Nat) (v : Int) (hk : k < 31) (hq : prp (s.ba k) = false → mostB s.ms.length (pS (s.ba k)) = true) (hl : s'.ms.length = s.ms.length)
    (hm : ∀ j, s'.me j = s.me j) (hb : ∀ c, s'.ba c = if c = k then prpB (s.ba k) v else s.ba c)
  | accept (i k : Nat) (hi : i < s.ms.length) (hk : k < 31) (hle : (s.me i).1 ≤ (k : Int)) (hp : prp (s.ba k) = true) (hl : s'.ms.length = s.ms.length)
    (hm : ∀ j, s'.me j = if j = i then ((k : Int), (k : Int), vl (s.ba k), ()) else s.me j) (hb : ∀ c, s'.ba c = if c = k then ((s.ba k).1, withM (s.ba k).2.1 i, (s.ba k).2.2) else s.ba c)
inductive Steps : Sy → Sy → Prop
  | refl (s : Sy) : Steps s s
  | tail {s s1 s2 : Sy} (h : Steps s s1) (h2 : Step s1 s2) : Steps s s2
theorem Steps.trans {a b c : Sy} (h : Steps a b) (h2 : Steps b c) : Steps a c := by
  induction h2 with
  | refl => exact h
  | tail _ h3 ih => exact ih.tail h3
/-- what is said of two states, one behind the other -/
structure Grow (s s' : Sy) : Prop where
  len : s'.ms.length = s.ms.length
  pro : ∀ i, (s.me i).1 ≤ (s'.me i).1
  prp : ∀ b, b < 31 → prp (s.ba b) = true → prp (s'.ba b) = true ∧ vl (s'.ba b) = vl (s.ba b)
  acc : ∀ b, b < 31 → ∀ i, has (aS (s.ba b)) i → has (aS (s'.ba b)) i
  new : ∀ b, b < 31 → ∀ i, has (aS (s'.ba b)) i → has (aS (s.ba b)) i ∨ (s.me i).1 ≤ (b : Int)
theorem promB_1 (b : Ba) (m : Me) : (promB b m).1 = b.1 ∧ (promB b m).2.1 = b.2.1 ∧ (promB b m).2.2.2.2 = b.2.2.2.2 := by
  unfold promB; split <;> exact ⟨rfl, rfl, rfl⟩
theorem prpB_1 (b : Ba) (v : Int) : (prpB b v).1 = b.1 ∧ (prpB b v).2.1 = b.2.1 ∧ (prpB b v).2.2.1 = b.2.2.1 ∧ (prpB b v).2.2.2.1 = b.2.2.2.1 ∧ (prpB b v).2.2.2.2.2.1 = true ∧ (b.2.2.2.2.2.1 = true → (prpB b v).2.2.2.2.1 = b.2.2.2.2.1) := by
  unfold prpB
  split
  · rename_i h; exact ⟨rfl, rfl, rfl, rfl, h, fun _ => rfl⟩
  · rename_i h; exact ⟨rfl, rfl, rfl, rfl, rfl, fun h2 => absurd h2 h⟩
theorem step_grow {s s' : Sy} (h : Step s s') : Grow s s' := by
  cases h with
  | promise i k hi hk hlt hl hm hb =>
    have e := promB_1 (s.ba k) (s.me i)
    refine ⟨hl, fun j => ?_, fun b hb1 h => ?_, fun b hb1 j h => ?_, fun b hb1 j h => ?_⟩
    · rw [hm]; split
      · subst_vars; simp only; omega
      · exact Int.le_refl _
    · rw [hb]; split
      · subst_vars; exact ⟨by show (promB _ _).2.2.2.2.2.1 = true; rw [e.2.2]; exact h, by show (promB _ _).2.2.2.2.1 = _; rw [e.2.2]⟩
      · exact ⟨h, rfl⟩
    · rw [hb]; split
      · subst_vars; show has (promB _ _).2.1 j; rw [e.2.1]; exact h
      · exact h
    · rw [hb] at h; split at h
      · subst_vars; have h : has (promB _ _).2.1 j := h; rw [e.2.1] at h; exact .inl h
      · exact .inl h
  | propose k v hk hq hl hm hb =>
    have e := prpB_1 (s.ba k) v
    refine ⟨hl, fun j => by rw [hm]; exact Int.le_refl _, fun b hb1 h => ?_, fun b hb1 j h => ?_, fun b hb1 j h => ?_⟩
    · rw [hb]; split
      · subst_vars; exact ⟨e.2.2.2.2.1, e.2.2.2.2.2 h⟩
      · exact ⟨h, rfl⟩
    · rw [hb]; split
      · subst_vars; show has (prpB _ _).2.1 j; rw [e.2.1]; exact h
      · exact h
    · rw [hb] at h; split at h
      · subst_vars; have h : has (prpB _ _).2.1 j := h; rw [e.2.1] at h; exact .inl h
      · exact .inl h
  | accept i k hi hk hle hp hl hm hb =>
    refine ⟨hl, fun j => ?_, fun b hb1 h => ?_, fun b hb1 j h => ?_, fun b hb1 j h => ?_⟩
    · rw [hm]; split
      · subst_vars; exact hle
      · exact Int.le_refl _
    · rw [hb]; split
      · subst_vars; exact ⟨h, rfl⟩
      · exact ⟨h, rfl⟩
    · rw [hb]; split
      · subst_vars; exact (has_withM _ _ _).2 (.inl h)
      · exact h
    · rw [hb] at h; split at h
      · subst_vars
        rcases (has_withM _ _ _).1 h with h | h
        · exact .inl h
        · rw [Int.toNat_natCast] at h; subst h; exact .inr hle
      · exact .inl h
/-- who will not accept does not -/
theorem quo_keep {s s' : Sy} (g : Grow s s') {c : Nat} (hc : c < 31) {Q : Int} (h : ∀ i, has Q i → (c : Int) < (s.me i).1 ∧ ¬ has (aS (s.ba c)) i) : ∀ i, has Q i → (c : Int) < (s'.me i).1 ∧ ¬ has (aS (s'.ba c)) i := fun i hi => by
  obtain ⟨h1, h2⟩ := h i hi
  have := g.pro i
  refine ⟨by omega, fun h3 => ?_⟩
  rcases g.new c hc i h3 with h4 | h4
  · exact h2 h4
  · omega
theorem saf_keep {s s' : Sy} (g : Grow s s') (S : Safe s) {b : Nat} (hb : b < 31) (hp : prp (s.ba b) = true) {c : Nat} (hc : c < b) : (prp (s'.ba c) = true ∧ vl (s'.ba c) = vl (s'.ba b)) ∨ (∃ Q : Int, mostB s'.ms.length Q = true ∧ (∀ i, has Q i → i < s'.ms.length) ∧ ∀ i, has Q i → (c : Int) < (s'.me i).1 ∧ ¬ has (aS (s'.ba c)) i) := by
  have gb := g.prp b hb hp
  rcases S.saf b hb hp c hc with ⟨h1, h2⟩ | ⟨Q, h1, h2, h3⟩
  · have gc := g.prp c (by omega) h1
    exact .inl ⟨gc.1, by rw [gc.2, gb.2, h2]⟩
  · exact .inr ⟨Q, by rw [g.len]; exact h1, by rw [g.len]; exact h2, quo_keep g (by omega) h3⟩
end Go.Proofs.YtdpnakebhpecfaaDoor

/- Synods: one value is chosen, whatever is done. -/
namespace Go.Proofs.YtdpnakebhpecfaaDoor
open Go.Vc
theorem safe_promise {s s' : Sy} (S : Safe s) (h : Step s s') (i k : Nat) (hi : i < s.ms.length) (hk : k < 31) (hlt : (s.me i).1 < (k : Int)) (hl : s'.ms.length = s.ms.length)
    (hm : ∀ j, s'.me j = if j = i then ((k : Int), (s.me i).2) else s.me j) (hb : ∀ c, s'.ba c = if c = k then (withM (promB (s.ba k) (s.me i)).1 i, (promB (s.ba k) (s.me i)).2) else s.ba c) : Safe s' := by
  have g := step_grow h
  have e := promB_1 (s.ba k) (s.me i)
  have M := S.mem i hi
  have hm2 : ∀ j, (s'.me j).2 = (s.me j).2 := fun j => by rw [hm]; split <;> simp_all
  have hA : ∀ b, aS (s'.ba b) = aS (s.ba b) := fun b => by
    rw [hb]; split
    · subst_vars; exact e.2.1
    · rfl
  have hP : ∀ b, prp (s'.ba b) = prp (s.ba b) := fun b => by
    rw [hb]; split
    · subst_vars; show (promB _ _).2.2.2.2.2.1 = _; rw [e.2.2]
    · rfl
  have hS : ∀ b j, has (pS (s'.ba b)) j → has (pS (s.ba b)) j ∨ (b = k ∧ j = i) := fun b j h => by
    rw [hb] at h; split at h
    · subst_vars
      rcases (has_withM _ _ _).1 h with h | h
      · rw [e.1] at h; exact .inl h
      · rw [Int.toNat_natCast] at h; exact .inr ⟨rfl, h⟩
    · exact .inl h
  refine ⟨fun j hj => ?_, fun b hb1 j h => ?_, fun b hb1 j h => ?_, fun b hb1 j h => ?_, fun b hb1 => ?_, fun b hb1 hp j h c hc hbc => ?_, fun b hb1 hp c hc => ?_⟩
  · rw [hl] at hj
    have Mj := S.mem j hj
    rw [hm2]
    have gp := g.pro j
    refine ⟨Mj.1, by omega, ?_⟩
    rcases Mj.2.2 with h | ⟨h1, h2, h3, h4⟩
    · exact .inl h
    · have := g.prp _ (by omega) h3
      exact .inr ⟨h1, h2, this.1, by rw [this.2]; exact h4⟩
  · rw [hl]
    rcases h with h | h
    · rcases hS b j h with h | h
      · exact S.sub b hb1 j (.inl h)
      · rw [h.2]; exact hi
    · rw [hA] at h; exact S.sub b hb1 j (.inr h)
  · rw [hA] at h
    rw [hm2, hP]
    exact S.acc b hb1 j h
  · have gp := g.pro j
    rcases hS b j h with h | ⟨h1, h2⟩
    · have := S.pro b hb1 j h; omega
    · subst h1; subst h2; rw [hm, if_pos rfl]; exact Int.le_refl _
  · have keep : ∀ x : Int, 0 ≤ x → x < (b : Int) → prp (s.ba x.toNat) = true → prp (s'.ba x.toNat) = true ∧ vl (s'.ba x.toNat) = vl (s.ba x.toNat) := fun x h0 h1 h2 => g.prp _ (by omega) h2
    by_cases hbk : b = k
    · subst hbk
      have e1 : s'.ba b = (withM (promB (s.ba b) (s.me i)).1 i, (promB (s.ba b) (s.me i)).2) := by rw [hb, if_pos rfl]
      by_cases hc : (s.ba b).2.2.1 < (s.me i).2.1 ∧ (s.ba b).2.2.2.2.2.1 = false
      · have e2 : promB (s.ba b) (s.me i) = ((s.ba b).1, (s.ba b).2.1, (s.me i).2.1, (s.me i).2.2.1, (s.ba b).2.2.2.2) := by unfold promB; rw [if_pos hc]
        have e3 : bst (s'.ba b) = (s.me i).2.1 := by rw [e1, e2]
        have e4 : tld (s'.ba b) = (s.me i).2.2.1 := by rw [e1, e2]
        rw [e3, e4]
        rcases M.2.2 with h | ⟨h1, h2, h3, h4⟩
        · exact .inl h
        · have := keep _ h1 (by omega) h3
          exact .inr ⟨h1, by omega, this.1, by rw [this.2]; exact h4⟩
      · have e2 : promB (s.ba b) (s.me i) = s.ba b := by unfold promB; rw [if_neg hc]
        have e3 : bst (s'.ba b) = bst (s.ba b) := by rw [e1, e2]
        have e4 : tld (s'.ba b) = tld (s.ba b) := by rw [e1, e2]
        rw [e3, e4]
        rcases S.bes b hb1 with h | ⟨h1, h2, h3, h4⟩
        · exact .inl h
        · have := keep _ h1 h2 h3
          exact .inr ⟨h1, h2, this.1, by rw [this.2]; exact h4⟩
    · rw [show s'.ba b = s.ba b by rw [hb, if_neg hbk]]
      rcases S.bes b hb1 with h | ⟨h1, h2, h3, h4⟩
      · exact .inl h
      · have := keep _ h1 h2 h3
        exact .inr ⟨h1, h2, this.1, by rw [this.2]; exact h4⟩
  · rw [hA]
    rw [hP] at hp
    have hle : bst (s.ba b) ≤ bst (s'.ba b) ∧ (b = k → (s.me i).2.1 ≤ bst (s'.ba b)) := by
      rw [hb]; split
      · subst_vars
        unfold promB
        split
        · rename_i h; exact ⟨Int.le_of_lt h.1, fun _ => Int.le_refl _⟩
        · rename_i h
          refine ⟨Int.le_refl _, fun _ => ?_⟩
          by_cases h1 : (s.ba b).2.2.1 < (s.me i).2.1
          · exact absurd ⟨h1, hp⟩ h
          · show (s.me i).2.1 ≤ (s.ba b).2.2.1
            omega
      · rename_i h; exact ⟨Int.le_refl _, fun h2 => absurd h2 h⟩
    rcases hS b j h with h | ⟨h1, h2⟩
    · exact S.fre b hb1 hp j h c hc (by omega)
    · intro h3
      have h4 := hle.2 h1
      have h5 := (S.acc c (by omega) j h3).1
      subst h2
      omega
  · rw [hP] at hp
    exact saf_keep g S hb1 hp hc
theorem safe_propose {s s' : Sy} (S : Safe s) (h : Step s s') (k : Nat) (v : Int) (hk : k < 31) (hq : prp (s.ba k) = false → mostB s.ms.length (pS (s.ba k)) = true) (hl : s'.ms.length = s.ms.length)
    (hm : ∀ j, s'.me j = s.me j) (hb : ∀ c, s'.ba c = if c = k then prpB (s.ba k) v else s.ba c) : Safe s' := by
  have g := step_grow h
  have e := prpB_1 (s.ba k) v
  have hA : ∀ b, aS (s'.ba b) = aS (s.ba b) := fun b => by
    rw [hb]; split
    · subst_vars; exact e.2.1
    · rfl
  have hS : ∀ b, pS (s'.ba b) = pS (s.ba b) := fun b => by
    rw [hb]; split
    · subst_vars; exact e.1
    · rfl
  have hB : ∀ b, bst (s'.ba b) = bst (s.ba b) := fun b => by
    rw [hb]; split
    · subst_vars; exact e.2.2.1
    · rfl
  have hT : ∀ b, tld (s'.ba b) = tld (s.ba b) := fun b => by
    rw [hb]; split
    · subst_vars; exact e.2.2.2.1
    · rfl
  refine ⟨fun j hj => ?_, fun b hb1 j h => ?_, fun b hb1 j h => ?_, fun b hb1 j h => ?_, fun b hb1 => ?_, fun b hb1 hp j h c hc hbc => ?_, fun b hb1 hp c hc => ?_⟩
  · rw [hl] at hj
    have Mj := S.mem j hj
    rw [hm]
    refine ⟨Mj.1, Mj.2.1, ?_⟩
    rcases Mj.2.2 with h | ⟨h1, h2, h3, h4⟩
    · exact .inl h
    · have := g.prp _ (by omega) h3
      exact .inr ⟨h1, h2, this.1, by rw [this.2]; exact h4⟩
  · rw [hl]
    rw [hA, hS] at h
    exact S.sub b hb1 j h
  · rw [hA] at h
    rw [hm]
    have := S.acc b hb1 j h
    exact ⟨this.1, (g.prp b hb1 this.2).1⟩
  · rw [hS] at h
    rw [hm]
    exact S.pro b hb1 j h
  · rw [hB, hT]
    rcases S.bes b hb1 with h | ⟨h1, h2, h3, h4⟩
    · exact .inl h
    · have := g.prp _ (by omega) h3
      exact .inr ⟨h1, h2, this.1, by rw [this.2]; exact h4⟩
  · rw [hA]
    rw [hS] at h
    rw [hB] at hbc
    have hbk : b ≠ k := fun h => by rw [hb, if_pos h] at hp; rw [show prp (prpB (s.ba k) v) = true from e.2.2.2.2.1] at hp; cases hp
    rw [hb, if_neg hbk] at hp
    exact S.fre b hb1 hp j h c hc hbc
  · by_cases hold : prp (s.ba b) = true
    · exact saf_keep g S hb1 hold hc
    · have hbk : b = k := by
        by_cases h : b = k
        · exact h
        · rw [hb, if_neg h] at hp; exact absurd hp hold
      subst hbk
      have hpf : prp (s.ba b) = false := by simpa using hold
      have hmost := hq hpf
      have quo : bst (s.ba b) < (c : Int) → ∃ Q : Int, mostB s'.ms.length Q = true ∧ (∀ i, has Q i → i < s'.ms.length) ∧ ∀ i, has Q i → (c : Int) < (s'.me i).1 ∧ ¬ has (aS (s'.ba c)) i := fun hlt =>
        ⟨pS (s.ba b), by rw [hl]; exact hmost, fun i hi => by rw [hl]; exact S.sub b hb1 i (.inl hi), fun i hi => ⟨by have := S.pro b hb1 i hi; rw [hm]; omega, by rw [hA]; exact S.fre b hb1 hpf i hi c hc hlt⟩⟩
      rcases S.bes b hb1 with h | ⟨h1, h2, h3, h4⟩
      · exact .inr (quo (by omega))
      · have hv : vl (s'.ba b) = vl (s.ba (bst (s.ba b)).toNat) := by
          rw [hb, if_pos rfl, ← h4]
          unfold prpB
          rw [if_neg hold, if_pos h1]
        have hβ : (bst (s.ba b)).toNat < 31 := by omega
        have gβ := g.prp _ hβ h3
        rcases Int.lt_trichotomy (bst (s.ba b)) (c : Int) with hlt | heq | hgt
        · exact .inr (quo hlt)
        · left
          have : (bst (s.ba b)).toNat = c := by omega
          rw [this] at gβ hv
          exact ⟨gβ.1, by rw [gβ.2, hv]⟩
        · rcases saf_keep g S hβ h3 (c := c) (by omega) with ⟨h5, h6⟩ | h5
          · exact .inl ⟨h5, by rw [h6, gβ.2, hv]⟩
          · exact .inr h5
theorem safe_accept {s s' : Sy} (S : Safe s) (h : Step s s') (i k : Nat) (hi : i < s.ms.length) (hk : k < 31) (hle : (s.me i).1 ≤ (k : Int)) (hp : prp (s.ba k) = true) (hl : s'.ms.length = s.ms.length)
    (hm : ∀ j, s'.me j = if j = i then ((k : Int), (k : Int), vl (s.ba k), ()) else s.me j) (hb : ∀ c, s'.ba c = if c = k then ((s.ba k).1, withM (s.ba k).2.1 i, (s.ba k).2.2) else s.ba c) : Safe s' := by
  have g := step_grow h
  have M := S.mem i hi
  have hS : ∀ b, pS (s'.ba b) = pS (s.ba b) := fun b => by
    rw [hb]; split
    · subst_vars; rfl
    · rfl
  have hR : ∀ b, (s'.ba b).2.2 = (s.ba b).2.2 := fun b => by
    rw [hb]; split
    · subst_vars; rfl
    · rfl
  have hA : ∀ b j, has (aS (s'.ba b)) j → has (aS (s.ba b)) j ∨ (b = k ∧ j = i) := fun b j h => by
    rw [hb] at h; split at h
    · subst_vars
      rcases (has_withM _ _ _).1 h with h | h
      · exact .inl h
      · rw [Int.toNat_natCast] at h; exact .inr ⟨rfl, h⟩
    · exact .inl h
  refine ⟨fun j hj => ?_, fun b hb1 j h => ?_, fun b hb1 j h => ?_, fun b hb1 j h => ?_, fun b hb1 => ?_, fun b hb1 hp1 j h c hc hbc => ?_, fun b hb1 hp1 c hc => ?_⟩
  · rw [hl] at hj
    by_cases hji : j = i
    · rw [hm, if_pos hji]
      have := g.prp k hk hp
      refine ⟨by show (-1 : Int) ≤ (k : Int); omega, Int.le_refl _, .inr ⟨by show (0 : Int) ≤ (k : Int); omega, by show (k : Int) < 31; omega, ?_, ?_⟩⟩
      · show prp (s'.ba (k : Int).toNat) = true
        rw [Int.toNat_natCast]; exact this.1
      · show vl (s.ba k) = vl (s'.ba (k : Int).toNat)
        rw [Int.toNat_natCast]; exact this.2.symm
    · have Mj := S.mem j hj
      rw [hm, if_neg hji]
      refine ⟨Mj.1, Mj.2.1, ?_⟩
      rcases Mj.2.2 with h | ⟨h1, h2, h3, h4⟩
      · exact .inl h
      · have := g.prp _ (by omega) h3
        exact .inr ⟨h1, h2, this.1, by rw [this.2]; exact h4⟩
  · rw [hl]
    rcases h with h | h
    · rw [hS] at h; exact S.sub b hb1 j (.inl h)
    · rcases hA b j h with h | h
      · exact S.sub b hb1 j (.inr h)
      · rw [h.2]; exact hi
  · rcases hA b j h with h | ⟨h1, h2⟩
    · have a := S.acc b hb1 j h
      refine ⟨?_, (g.prp b hb1 a.2).1⟩
      rw [hm]; split
      · subst_vars; show (b : Int) ≤ (k : Int); omega
      · exact a.1
    · subst h1; subst h2
      rw [hm, if_pos rfl]
      exact ⟨Int.le_refl _, (g.prp b hb1 hp).1⟩
  · rw [hS] at h
    have := S.pro b hb1 j h
    have := g.pro j
    omega
  · show (s'.ba b).2.2.1 = -1 ∨ (0 ≤ (s'.ba b).2.2.1 ∧ (s'.ba b).2.2.1 < (b : Int) ∧ prp (s'.ba (s'.ba b).2.2.1.toNat) = true ∧ (s'.ba b).2.2.2.1 = vl (s'.ba (s'.ba b).2.2.1.toNat))
    rw [hR]
    rcases S.bes b hb1 with h | ⟨h1, h2, h3, h4⟩
    · exact .inl h
    · have := g.prp _ (by omega) h3
      exact .inr ⟨h1, h2, this.1, by rw [this.2]; exact h4⟩
  · have hp2 : prp (s.ba b) = false := by rw [← hp1]; show (s.ba b).2.2.2.2.2.1 = (s'.ba b).2.2.2.2.2.1; rw [hR]
    have hbc2 : bst (s.ba b) < (c : Int) := by have e : bst (s'.ba b) = bst (s.ba b) := by show (s'.ba b).2.2.1 = _; rw [hR]
                                               rw [← e]; exact hbc
    rw [hS] at h
    intro h3
    rcases g.new c (by omega) j h3 with h4 | h4
    · exact S.fre b hb1 hp2 j h c hc hbc2 h4
    · have := S.pro b hb1 j h
      omega
  · have hp2 : prp (s.ba b) = true := by rw [← hp1]; show (s.ba b).2.2.2.2.2.1 = (s'.ba b).2.2.2.2.2.1; rw [hR]
    exact saf_keep g S hb1 hp2 hc
theorem safe_step {s s' : Sy} (S : Safe s) (h : Step s s') : Safe s' := by
  have h' := h
  cases h with
  | promise i k hi hk hlt hl hm hb => exact safe_promise S h' i k hi hk hlt hl hm hb
  | propose k v hk hq hl hm hb => exact safe_propose S h' k v hk hq hl hm hb
  | accept i k hi hk hle hp hl hm hb => exact safe_accept S h' i k hi hk hle hp hl hm hb
theorem safe_steps {s s' : Sy} (S : Safe s) (h : Steps s s') : Safe s' := by
  induction h with
  | refl => exact S
  | tail _ h2 ih => exact safe_step ih h2
/-- what stays, of many steps -/
structure Kept (s s' : Sy) : Prop where
  len : s'.ms.length = s.ms.length
  pro : ∀ i, (s.me i).1 ≤ (s'.me i).1
  prp : ∀ b, b < 31 → prp (s.ba b) = true → prp (s'.ba b) = true ∧ vl (s'.ba b) = vl (s.ba b)
  acc : ∀ b, b < 31 → ∀ i, has (aS (s.ba b)) i → has (aS (s'.ba b)) i
theorem kept_steps {s s' : Sy} (h : Steps s s') : Kept s s' := by
  induction h with
  | refl => exact ⟨rfl, fun _ => Int.le_refl _, fun _ _ h => ⟨h, rfl⟩, fun _ _ _ h => h⟩
  | tail _ h2 ih =>
    have g := step_grow h2
    exact ⟨g.len.trans ih.len, fun i => Int.le_trans (ih.pro i) (g.pro i), fun b hb h => by
      have h1 := ih.prp b hb h
      have h2 := g.prp b hb h1.1
      exact ⟨h2.1, h2.2.trans h1.2⟩, fun b hb i h => g.acc b hb i (ih.acc b hb i h)⟩
end Go.Proofs.YtdpnakebhpecfaaDoor

/- Synods: what is asked goes by steps; what is chosen is one. -/
namespace Go.Proofs.YtdpnakebhpecfaaDoor
open Go.Vc
theorem getD_set {α : Type} (l : List α) (q j : Nat) (b z : α) (h : q < l.length) : (l.set q b).getD j z = if j = q then b else l.getD j z := by
  split
  · rename_i he; rw [he]; exact gset l q b z h
  · rename_i hne
    rw [List.getD_eq_getElem?_getD, List.getD_eq_getElem?_getD, List.getElem?_set_ne (Ne.symm hne)]
theorem promB_2 (p : Int) (b : Ba) (m : Me) : (promB (p, b.2) m).2 = (promB b m).2 := by
  unfold promB; simp only; split <;> rfl
theorem prep1_neg {k : Int} {x : Rd} {i : Int} (h : ¬ k ≤ (x.1.getD i.toNat zM).1) : prep1 k x i = (x.1.set i.toNat (k, (x.1.getD i.toNat zM).2), promB x.2.1 (x.1.getD i.toNat zM), withM x.2.2 i) := by
  unfold prep1; simp only [if_neg h]; rfl
/-- the state in the middle of promising -/
def midP (s : Sy) (k : Int) (x : Rd) : Sy := ⟨x.1, s.bs.set k.toNat (orI (s.bs.getD k.toNat zB).1 x.2.2, x.2.1.2)⟩
theorem prep_steps {s : Sy} (k : Int) (hb : s.bs.length = 31) (hk : 0 ≤ k ∧ k < 31) (h0 : 0 ≤ (s.bs.getD k.toNat zB).1) : ∀ (r l : List Int), (∀ y ∈ r, 0 ≤ y ∧ y < (s.ms.length : Int)) → Steps s (midP s k (prepL k s l)) → Steps s (midP s k (prepL k s (l ++ r)))
  | [], l, _, h => by rw [List.append_nil]; exact h
  | y :: r, l, hy, h => by
    rw [show l ++ y :: r = (l ++ [y]) ++ r by rw [List.append_assoc]; rfl]
    refine prep_steps k hb hk h0 r (l ++ [y]) (fun z hz => hy z (.tail _ hz)) ?_
    have y0 := hy y (.head _)
    have pl := prep_len k s l
    have pi := prep_inv k s l
    rw [prep_snoc]
    by_cases hc : k ≤ ((prepL k s l).1.getD y.toNat zM).1
    · rw [show prep1 k (prepL k s l) y = prepL k s l by unfold prep1; simp only [if_pos hc]]
      exact h
    · refine h.tail (.promise y.toNat k.toNat ?_ (by omega) ?_ ?_ (fun j => ?_) (fun c => ?_))
      · show y.toNat < (prepL k s l).1.length
        omega
      · show ((prepL k s l).1.getD y.toNat zM).1 < _
        omega
      · show (prep1 k (prepL k s l) y).1.length = (prepL k s l).1.length
        unfold prep1; simp only [if_neg hc, List.length_set]
      · show (prep1 k (prepL k s l) y).1.getD j zM = _
        unfold prep1
        simp only [if_neg hc]
        rw [getD_set _ _ _ _ _ (by omega), show ((k.toNat : Nat) : Int) = k by omega]
        rfl
      · have e1 : (midP s k (prepL k s l)).ba k.toNat = (orI (s.bs.getD k.toNat zB).1 (prepL k s l).2.2, (prepL k s l).2.1.2) := by
          show (s.bs.set _ _).getD _ _ = _
          rw [gset _ _ _ _ (by omega)]
        rw [e1]
        show (s.bs.set _ _).getD c zB = _
        rw [getD_set _ _ _ _ _ (by omega)]
        split
        · rw [prep1_neg hc]
          simp only
          rw [orI_withM, (promB_1 _ _).1, show ((y.toNat : Nat) : Int) = y by omega]
          exact Prod.ext rfl (promB_2 _ _ _).symm
        · rename_i hne
          show _ = (s.bs.set _ _).getD c zB
          rw [getD_set _ _ _ _ _ (by omega), if_neg hne]
/-- the state in the middle of accepting -/
def midA (s : Sy) (k : Int) (b : Ba) (x : List Me × Int) : Sy := ⟨x.1, s.bs.set k.toNat (b.1, orI b.2.1 x.2, b.2.2)⟩
theorem acc_steps {s : Sy} (k : Int) (b : Ba) (hb : s.bs.length = 31) (hk : 0 ≤ k ∧ k < 31) (hp : prp b = true) : ∀ (r l : List Int), (∀ y ∈ r, 0 ≤ y ∧ y < (s.ms.length : Int)) → ∀ {s0 : Sy}, Steps s0 (midA s k b (accL k (vl b) s.ms l)) → Steps s0 (midA s k b (accL k (vl b) s.ms (l ++ r)))
  | [], l, _, _, h => by rw [List.append_nil]; exact h
  | y :: r, l, hy, s0, h => by
    rw [show l ++ y :: r = (l ++ [y]) ++ r by rw [List.append_assoc]; rfl]
    refine acc_steps k b hb hk hp r (l ++ [y]) (fun z hz => hy z (.tail _ hz)) ?_
    have y0 := hy y (.head _)
    have pi := acc_inv k (vl b) s.ms l
    rw [acc_snoc]
    have e1 : (midA s k b (accL k (vl b) s.ms l)).ba k.toNat = (b.1, orI b.2.1 (accL k (vl b) s.ms l).2, b.2.2) := by
      show (s.bs.set _ _).getD _ _ = _
      rw [gset _ _ _ _ (by omega)]
    by_cases hc : k < ((accL k (vl b) s.ms l).1.getD y.toNat zM).1
    · rw [show acc1 k (vl b) (accL k (vl b) s.ms l) y = accL k (vl b) s.ms l by unfold acc1; rw [if_pos hc]]
      exact h
    · have e2 : acc1 k (vl b) (accL k (vl b) s.ms l) y = ((accL k (vl b) s.ms l).1.set y.toNat (k, k, vl b, ()), withM (accL k (vl b) s.ms l).2 y) := by unfold acc1; rw [if_neg hc]
      rw [e2]
      refine h.tail (.accept y.toNat k.toNat ?_ (by omega) ?_ ?_ ?_ (fun j => ?_) (fun c => ?_))
      · show y.toNat < (accL k (vl b) s.ms l).1.length
        omega
      · show ((accL k (vl b) s.ms l).1.getD y.toNat zM).1 ≤ _
        omega
      · rw [e1]; exact hp
      · show ((accL k (vl b) s.ms l).1.set _ _).length = _
        rw [List.length_set]; rfl
      · rw [e1]
        show ((accL k (vl b) s.ms l).1.set _ _).getD j zM = _
        rw [getD_set _ _ _ _ _ (by omega), show ((k.toNat : Nat) : Int) = k by omega]
        rfl
      · rw [e1]
        show (s.bs.set _ _).getD c zB = _
        rw [getD_set _ _ _ _ _ (by omega)]
        split
        · simp only
          rw [orI_withM, show ((y.toNat : Nat) : Int) = y by omega]
        · rename_i hne
          show _ = (s.bs.set _ _).getD c zB
          rw [getD_set _ _ _ _ _ (by omega), if_neg hne]
/-- what is asked goes by steps -/
theorem do_steps {s : Sy} (h : SyInv s) (a : As) : Steps s (doF s a).2 := by
  unfold doF
  split
  · exact .refl s
  rename_i hA
  have ha := okA_of (show okA s.ms.length a = true by simpa using hA)
  have m8 := h.ok.m8
  have hq : a.2.1.toNat < s.bs.length := by have := h.ok.b; omega
  have hb := h.pr _ (getD_mem (z := zB) hq)
  have hbits : ∀ y ∈ bitsOf a.2.2.2.1, 0 ≤ y ∧ y < (s.ms.length : Int) := fun y hy => by
    have := bit_pos ha.2.2.2.1 ha.2.2.2.2 (by omega) hy
    exact ⟨this.1, this.2.1⟩
  have hk : 0 ≤ a.2.1 ∧ a.2.1 < 31 := by omega
  split
  · have := prep_steps (s := s) a.2.1 h.ok.b hk hb.1 (bitsOf a.2.2.2.1) [] hbits (by
      have : midP s a.2.1 (prepL a.2.1 s []) = s := by
        show (⟨s.ms, s.bs.set _ (orI (s.bs.getD a.2.1.toNat zB).1 0, (s.bs.getD a.2.1.toNat zB).2)⟩ : Sy) = s
        rw [orI_zero hb.1, set_self _ _ _ hq]
      rw [this]; exact .refl s)
    rw [List.nil_append] at this
    have e := prep_inv a.2.1 s (bitsOf a.2.2.2.1)
    unfold midP at this
    rw [← e.1] at this
    exact this
  · split
    · exact .refl s
    · rename_i hg
      have e := prpB_1 (s.bs.getD a.2.1.toNat zB) a.2.2.1
      have s1 : Steps s (midA s a.2.1 (prpB (s.bs.getD a.2.1.toNat zB) a.2.2.1) (accL a.2.1 (vl (prpB (s.bs.getD a.2.1.toNat zB) a.2.2.1)) s.ms [])) := by
        refine (Steps.refl s).tail (.propose a.2.1.toNat a.2.2.1 (by omega) (fun hp => ?_) rfl (fun j => rfl) (fun c => ?_))
        · by_cases hm : mostB s.ms.length (s.bs.getD a.2.1.toNat zB).1 = true
          · exact hm
          · exact absurd ⟨hp, by simpa using hm⟩ hg
        · show (s.bs.set _ _).getD c zB = _
          rw [getD_set _ _ _ _ _ hq]
          split
          · rw [show (accL a.2.1 (vl (prpB (s.bs.getD a.2.1.toNat zB) a.2.2.1)) s.ms []).2 = 0 from rfl, orI_zero (by rw [e.2.1]; exact hb.2.2.1)]
            rfl
          · rfl
      have := acc_steps a.2.1 (prpB (s.bs.getD a.2.1.toNat zB) a.2.2.1) h.ok.b hk e.2.2.2.2.1 (bitsOf a.2.2.2.1) [] hbits s1
      exact this
/-- which ballots chose -/
theorem mem_chosen {s : Sy} (hb : s.bs.length = 31) {v : Int} : v ∈ chosenF s ↔ ∃ b, b < 31 ∧ mostB s.ms.length (aS (s.ba b)) = true ∧ v = vl (s.ba b) := by
  unfold chosenF
  rw [List.mem_map]
  constructor
  · rintro ⟨x, hx, rfl⟩
    obtain ⟨hx, hm⟩ := List.mem_filter.1 hx
    obtain ⟨i, hi, rfl⟩ := List.mem_iff_getElem.1 hx
    refine ⟨i, by omega, ?_, ?_⟩
    · unfold Sy.ba; rw [getD_at hi]; exact hm
    · unfold Sy.ba; rw [getD_at hi]
  · rintro ⟨b, hb1, hm, rfl⟩
    exact ⟨s.ba b, List.mem_filter.2 ⟨getD_mem (by omega), hm⟩, rfl⟩
theorem most_some {m : Nat} {a : Int} (h : mostB m a = true) : ∃ i, has a i := by
  unfold mostB popN at h
  have h := of_decide_eq_true h
  cases hf : (List.range 8).filter a.toNat.testBit with
  | nil => rw [hf] at h; simp at h; omega
  | cons i r => exact ⟨i, (List.mem_filter.1 (by rw [hf]; exact .head _)).2⟩
/-- ONE VALUE IS CHOSEN -/
theorem chosen_one {s : Sy} (hb : s.bs.length = 31) (S : Safe s) {u v : Int} (hu : u ∈ chosenF s) (hv : v ∈ chosenF s) : u = v := by
  have key : ∀ b c, b < 31 → c < b → mostB s.ms.length (aS (s.ba b)) = true → mostB s.ms.length (aS (s.ba c)) = true → vl (s.ba c) = vl (s.ba b) := by
    intro b c h1 h2 h3 h4
    obtain ⟨i, hi⟩ := most_some h3
    rcases S.saf b h1 (S.acc b h1 i hi).2 c h2 with ⟨_, h5⟩ | ⟨Q, h5, h6, h7⟩
    · exact h5
    · obtain ⟨j, _, h8, h9⟩ := most_meet h5 h4 h6 (fun i hi => S.sub c (by omega) i (.inr hi))
      exact absurd h9 (h7 j h8).2
  obtain ⟨b, h1, h2, rfl⟩ := (mem_chosen hb).1 hu
  obtain ⟨c, h3, h4, rfl⟩ := (mem_chosen hb).1 hv
  rcases Nat.lt_trichotomy b c with h | h | h
  · exact key c b h3 h h4 h2
  · rw [h]
  · exact (key b c h1 h h2 h4).symm
theorem cnt_le {p q : Nat → Bool} (h : ∀ i, p i = true → q i = true) : ∀ n, cnt p n ≤ cnt q n
  | 0 => Nat.le_refl _
  | n + 1 => by
    have := cnt_le h n
    have h1 := h n
    rw [cnt_succ, cnt_succ]
    cases hp : p n <;> cases hq : q n <;> simp [hp, hq] at h1 ⊢ <;> omega
theorem most_mono {m : Nat} {a b : Int} (h : ∀ i, has a i → has b i) (ha : mostB m a = true) : mostB m b = true := by
  have := cnt_le (p := a.toNat.testBit) (q := b.toNat.testBit) h 8
  unfold mostB popN at ha ⊢
  have ha := of_decide_eq_true ha
  unfold cnt at this
  exact decide_eq_true (by omega)
/-- what was chosen stays so -/
theorem chosen_sub {s s' : Sy} (hb : s.bs.length = 31) (hb' : s'.bs.length = 31) (S : Safe s) (K : Kept s s') : (∀ v, v ∈ chosenF s → v ∈ chosenF s') ∧ (chosenF s).length ≤ (chosenF s').length := by
  have key : ∀ b, b < 31 → mostB s.ms.length (aS (s.ba b)) = true → mostB s'.ms.length (aS (s'.ba b)) = true := fun b h1 h2 => by
    rw [K.len]; exact most_mono (K.acc b h1) h2
  refine ⟨fun v hv => ?_, ?_⟩
  · obtain ⟨b, h1, h2, rfl⟩ := (mem_chosen hb).1 hv
    obtain ⟨i, hi⟩ := most_some h2
    exact (mem_chosen hb').2 ⟨b, h1, key b h1 h2, ((K.prp b h1 (S.acc b h1 i hi).2).2).symm⟩
  · unfold chosenF
    rw [List.length_map, List.length_map]
    have : ∀ (l l' : List Ba), l.length = l'.length → (∀ i, i < l.length → mostB s.ms.length (l.getD i zB).2.1 = true → mostB s'.ms.length (l'.getD i zB).2.1 = true) → (l.filter fun b => mostB s.ms.length b.2.1).length ≤ (l'.filter fun b => mostB s'.ms.length b.2.1).length := by
      intro l
      induction l with
      | nil => intro l' _ _; exact Nat.zero_le _
      | cons x r ih =>
        intro l' hl h
        cases l' with
        | nil => cases hl
        | cons y r' =>
          have ih := ih r' (by simpa using hl) (fun i hi => h (i + 1) (by simp; omega))
          have h0 := h 0 (by simp)
          rw [List.filter_cons, List.filter_cons]
          simp only [List.getD_cons_zero] at h0
          by_cases hx : mostB s.ms.length x.2.1 = true
          · rw [if_pos hx, if_pos (h0 hx)]; simp; exact ih
          · rw [if_neg hx]; split
            · simp; omega
            · exact ih
    exact this _ _ (by omega) (fun i hi => key i (by omega))
end Go.Proofs.YtdpnakebhpecfaaDoor

/- Synods: how they stand between what is asked. -/
namespace Go.Proofs.YtdpnakebhpecfaaDoor
open Go.Vc
theorem has0 (i : Nat) : ¬ has 0 i := by unfold has; simp
theorem getD_rep {α : Type} (n : Nat) (x z : α) (i : Nat) (h : i < n) : (List.replicate n x).getD i z = x := by
  rw [List.getD_eq_getElem?_getD, List.getElem?_replicate, if_pos h]; rfl
theorem init_inv {n : Int} (h : 1 ≤ n ∧ n ≤ 8) : SyInv (initS n) := by
  refine ⟨⟨?_, ?_, ?_⟩, fun b hb => ?_⟩
  · show 1 ≤ (List.replicate n.toNat nM).length
    rw [List.length_replicate]; omega
  · show (List.replicate n.toNat nM).length ≤ 8
    rw [List.length_replicate]; omega
  · show (List.replicate 31 nB).length = 31
    rw [List.length_replicate]
  · have : b = nB := (List.mem_replicate.1 hb).2
    subst this
    decide
theorem init_me (n : Int) (i : Nat) (h : i < n.toNat) : (initS n).me i = nM := getD_rep _ _ _ _ h
theorem init_ba (n : Int) (b : Nat) (h : b < 31) : (initS n).ba b = nB := getD_rep _ _ _ _ h
theorem init_len (n : Int) : (initS n).ms.length = n.toNat := List.length_replicate
theorem init_safe (n : Int) : Safe (initS n) := by
  refine ⟨fun i hi => ?_, fun b hb i h => ?_, fun b hb i h => ?_, fun b hb i h => ?_, fun b hb => ?_, fun b hb hp i h => ?_, fun b hb hp => ?_⟩
  · rw [init_len] at hi
    rw [init_me n i hi]
    exact ⟨Int.le_refl _, Int.le_refl _, .inl rfl⟩
  · rw [init_ba n b hb] at h
    exact h.elim (fun h => absurd h (has0 i)) (fun h => absurd h (has0 i))
  · rw [init_ba n b hb] at h
    exact absurd h (has0 i)
  · rw [init_ba n b hb] at h
    exact absurd h (has0 i)
  · rw [init_ba n b hb]
    exact .inl rfl
  · rw [init_ba n b hb] at h
    exact absurd h (has0 i)
  · rw [init_ba n b hb] at hp
    exact absurd hp (by decide)
structure Good (n : Int) (s : Sy) : Prop where
  inv : SyInv s
  safe : Safe s
  len : s.ms.length = n.toNat
theorem good_do {n : Int} {s : Sy} (h : Good n s) (a : As) : Good n (doX s a).2 := by
  rw [doX_eq]
  have := do_inv h.inv a
  exact ⟨this.1, safe_steps h.safe (do_steps h.inv a), this.2.trans h.len⟩
theorem good_init {n : Int} (h : 1 ≤ n ∧ n ≤ 8) : Good n (initS n) := ⟨init_inv h, init_safe n, init_len n⟩
theorem sAt_good {n : Int} (h : 1 ≤ n ∧ n ≤ 8) (l : List As) : ∀ i, i ≤ l.length → Good n (sAt n l i)
  | 0, _ => by rw [sAt_zero]; exact good_init h
  | i + 1, hi => by rw [sAt_succ n l i (by omega)]; exact good_do (sAt_good h l i (by omega)) _
theorem gAt_good {n : Int} (h : 1 ≤ n ∧ n ≤ 8) (l : List As) : ∀ i, i ≤ l.length → Good n (gAt n l i)
  | 0, _ => by rw [gAt_zero]; exact good_init h
  | i + 1, hi => by
    rw [gAt_succ n l i (by omega)]
    split
    · exact good_do (gAt_good h l i (by omega)) _
    · exact gAt_good h l i (by omega)
theorem chX_len {n : Int} {s : Sy} (h : Good n s) : (chX s).length ≤ 31 := by
  rw [chX_eq]; have := chosen_len s; rw [h.inv.ok.b] at this; exact this
theorem chX_one {n : Int} {s : Sy} (h : Good n s) {i j : Nat} (hi : i < (chX s).length) (hj : j < (chX s).length) : (chX s).getD i 0 = (chX s).getD j 0 := by
  rw [chX_eq] at hi hj ⊢
  exact chosen_one h.inv.ok.b h.safe (getD_mem hi) (getD_mem hj)
theorem chX_sub {n : Int} {s : Sy} (h : Good n s) (a : As) : (∀ v, v ∈ chX s → v ∈ chX (doX s a).2) ∧ (chX s).length ≤ (chX (doX s a).2).length := by
  have g := (good_do h a).inv.ok.b
  rw [doX_eq] at g ⊢
  rw [chX_eq, chX_eq]
  exact chosen_sub h.inv.ok.b g h.safe (kept_steps (do_steps h.inv a))
theorem chX_first {n : Int} {s : Sy} (h : Good n s) (a : As) (h0 : 0 < (chX s).length) : (chX (doX s a).2).getD 0 0 = (chX s).getD 0 0 := by
  have g := good_do h a
  have := chX_sub h a
  have h1 : 0 < (chX (doX s a).2).length := by omega
  have m := this.1 _ (getD_mem (z := 0) h0)
  have m1 := getD_mem (z := (0 : Int)) h1
  rw [chX_eq (doX s a).2] at m m1 ⊢
  exact chosen_one g.inv.ok.b g.safe m1 m
theorem sy_eta (s : Sy) : Sy.mk s.ms s.bs = s := rfl
theorem initS_ms (n : Int) : List.replicate n.toNat nM = (initS n).ms := rfl
theorem initS_bs (n : Int) : List.replicate 31 nB = (initS n).bs := rfl
theorem chX_init (n : Int) : chX (initS n) = [] := by
  rw [chX_eq]
  cases hc : chosenF (initS n) with
  | nil => rfl
  | cons v r =>
    have : v ∈ chosenF (initS n) := by rw [hc]; exact .head _
    obtain ⟨b, h1, h2, _⟩ := (mem_chosen (by show (List.replicate 31 nB).length = 31; rw [List.length_replicate])).1 this
    rw [init_ba n b h1] at h2
    obtain ⟨i, hi⟩ := most_some h2
    exact absurd hi (has0 i)
end Go.Proofs.YtdpnakebhpecfaaDoor

/- Synods: what is accepted was asked for; promises never fall (mathematics). -/
namespace Go.Proofs.YtdpnakebhpecfaaDoor
open Go.Vc
/-- each value that somebody accepted, was told of, or is proposed, is one of these -/
structure Vals (V : Int → Prop) (s : Sy) : Prop where
  me : ∀ m ∈ s.ms, m.2.1 ≠ -1 → V m.2.2.1
  ba : ∀ b ∈ s.bs, (0 ≤ b.2.2.1 → V b.2.2.2.1) ∧ (b.2.2.2.2.2.1 = true → V b.2.2.2.2.1)
theorem Vals.mono {V V' : Int → Prop} (hV : ∀ v, V v → V' v) {s : Sy} (h : Vals V s) : Vals V' s :=
  ⟨fun m hm h1 => hV _ (h.me m hm h1), fun b hb => ⟨fun h1 => hV _ ((h.ba b hb).1 h1), fun h1 => hV _ ((h.ba b hb).2 h1)⟩⟩
theorem prep_vals {V : Int → Prop} (k : Int) (m : Nat) : ∀ (l : List Int) (x : Rd), x.1.length = m → (∀ y ∈ l, 0 ≤ y ∧ y < (m : Int)) →
    ((∀ q ∈ x.1, q.2.1 ≠ -1 → V q.2.2.1) ∧ (0 ≤ x.2.1.2.2.1 → V x.2.1.2.2.2.1) ∧ (x.2.1.2.2.2.2.2.1 = true → V x.2.1.2.2.2.2.1)) →
    ((∀ q ∈ (l.foldl (prep1 k) x).1, q.2.1 ≠ -1 → V q.2.2.1) ∧ (0 ≤ (l.foldl (prep1 k) x).2.1.2.2.1 → V (l.foldl (prep1 k) x).2.1.2.2.2.1) ∧ ((l.foldl (prep1 k) x).2.1.2.2.2.2.2.1 = true → V (l.foldl (prep1 k) x).2.1.2.2.2.2.1)) := by
  intro l
  induction l with
  | nil => intro x _ _ h; exact h
  | cons y r ih =>
    intro x hx hy h
    rw [List.foldl_cons]
    have y0 := hy y (.head _)
    have hin : x.1.getD y.toNat zM ∈ x.1 := getD_mem (by omega)
    by_cases hc : k ≤ (x.1.getD y.toNat zM).1
    · rw [show prep1 k x y = x by unfold prep1; simp only [if_pos hc]]
      exact ih x hx (fun z hz => hy z (.tail _ hz)) h
    · rw [prep1_neg hc]
      refine ih _ (by simp only [List.length_set]; exact hx) (fun z hz => hy z (.tail _ hz)) ⟨fun q hq hne => ?_, ?_, ?_⟩
      · rcases List.mem_or_eq_of_mem_set hq with hq | rfl
        · exact h.1 q hq hne
        · exact h.1 (x.1.getD y.toNat zM) hin hne
      · unfold promB
        simp only
        split
        · rename_i hh
          intro h0
          exact h.1 _ hin (by show (x.1.getD y.toNat zM).2.1 ≠ -1; intro he; simp only at h0; omega)
        · exact h.2.1
      · simp only
        rw [(promB_1 x.2.1 (x.1.getD y.toNat zM)).2.2]
        exact h.2.2
theorem acc_vals {V : Int → Prop} (k v : Int) (hv : V v) : ∀ (l : List Int) (x : List Me × Int), (∀ q ∈ x.1, q.2.1 ≠ -1 → V q.2.2.1) → ∀ q ∈ (l.foldl (acc1 k v) x).1, q.2.1 ≠ -1 → V q.2.2.1 := by
  intro l
  induction l with
  | nil => intro x h; exact h
  | cons y r ih =>
    intro x h
    rw [List.foldl_cons]
    refine ih _ fun q hq hne => ?_
    unfold acc1 at hq
    split at hq
    · exact h q hq hne
    · rcases List.mem_or_eq_of_mem_set hq with hq | rfl
      · exact h q hq hne
      · exact hv
theorem do_vals {V : Int → Prop} {s : Sy} (hs : SyInv s) (a : As) (ha : a.1 = 1 → V a.2.2.1) (h : Vals V s) : Vals V (doF s a).2 := by
  unfold doF
  split
  · exact h
  rename_i hA
  have hok := okA_of (show okA s.ms.length a = true by simpa using hA)
  have m8 := hs.ok.m8
  have hq : a.2.1.toNat < s.bs.length := by have := hs.ok.b; omega
  have hbm := getD_mem (z := zB) hq
  have hb := h.ba _ hbm
  have hbits : ∀ y ∈ bitsOf a.2.2.2.1, 0 ≤ y ∧ y < (s.ms.length : Int) := fun y hy => by
    have := bit_pos hok.2.2.2.1 hok.2.2.2.2 (by omega) hy
    exact ⟨this.1, this.2.1⟩
  split
  · have p := prep_vals (V := V) a.2.1 s.ms.length (bitsOf a.2.2.2.1) (s.ms, s.bs.getD a.2.1.toNat zB, 0) rfl hbits ⟨h.me, hb.1, hb.2⟩
    refine ⟨p.1, fun b hb2 => ?_⟩
    rcases List.mem_or_eq_of_mem_set hb2 with hb2 | rfl
    · exact h.ba b hb2
    · exact p.2
  · rename_i hne
    have h1 : a.1 = 1 := by have := hok.1; omega
    split
    · exact h
    · have e := prpB_1 (s.bs.getD a.2.1.toNat zB) a.2.2.1
      have hvl : V (prpB (s.bs.getD a.2.1.toNat zB) a.2.2.1).2.2.2.2.1 := by
        unfold prpB
        split
        · rename_i hp; exact hb.2 hp
        · simp only
          split
          · rename_i h0; exact hb.1 h0
          · exact ha h1
      refine ⟨acc_vals a.2.1 _ hvl _ _ h.me, fun b hb2 => ?_⟩
      rcases List.mem_or_eq_of_mem_set hb2 with hb2 | rfl
      · exact h.ba b hb2
      · refine ⟨fun h0 => ?_, fun _ => hvl⟩
        rw [e.2.2.1] at h0
        show V (prpB _ _).2.2.2.1
        rw [e.2.2.2.1]
        exact hb.1 h0
/-- some of the first so many asked for it -/
def askV (l : List As) (j : Nat) (v : Int) : Prop := (l.take j).any (fun a => decide (a.1 = 1) && decide (a.2.2.1 = v)) = true
theorem askV_mono {l : List As} {j : Nat} {v : Int} (h : askV l j v) : askV l (j + 1) v := by
  unfold askV at h ⊢
  rw [List.any_eq_true] at h ⊢
  obtain ⟨a, ha, h⟩ := h
  exact ⟨a, (List.take_subset_take_left l (by omega)) ha, h⟩
theorem sAt_vals {n : Int} (hr : 1 ≤ n ∧ n ≤ 8) (l : List As) : ∀ i, i ≤ l.length → Vals (askV l i) (sAt n l i)
  | 0, _ => by
    rw [sAt_zero]
    refine ⟨fun m hm hne => ?_, fun b hb => ?_⟩
    · rw [(List.mem_replicate.1 hm).2] at hne; exact absurd rfl hne
    · rw [(List.mem_replicate.1 hb).2]; exact ⟨fun h => absurd h (by decide), fun h => by cases h⟩
  | i + 1, hi => by
    rw [sAt_succ n l i (by omega), doX_eq]
    refine do_vals (sAt_good hr l i (by omega)).inv _ (fun h1 => ?_) ((sAt_vals hr l i (by omega)).mono fun v h => askV_mono h)
    unfold askV
    rw [take_snoc zA (by omega), List.any_append, Bool.or_eq_true]
    right
    show (decide ((l.getD i zA).1 = 1) && decide ((l.getD i zA).2.2.1 = (l.getD i zA).2.2.1) || false) = true
    rw [decide_eq_true h1, decide_eq_true rfl]; rfl
theorem askB_eq (l : List As) (b v : Int) (j : Nat) : askB l b v j = true ↔ b = -1 ∨ askV l j v := by
  unfold askB askV
  rw [Bool.or_eq_true, decide_eq_true_iff]
theorem askB_zero (l : List As) (b v : Int) : askB l b v 0 = decide (b = -1) := by unfold askB; simp
theorem askB_succ (l : List As) (b v : Int) (j : Nat) (h : j < l.length) : askB l b v (j + 1) = (askB l b v j || (decide ((l.getD j zA).1 = 1) && decide ((l.getD j zA).2.2.1 = v))) := by
  unfold askB
  rw [take_snoc zA h, List.any_append]
  simp [Bool.or_assoc]
theorem was_zero (s s' : Sy) : wasM s s' 0 = s.ms.map (·.1) := by unfold wasM; simp
theorem was_len {s s' : Sy} (h : s'.ms.length = s.ms.length) (k : Nat) : (wasM s s' k).length = s.ms.length := by
  unfold wasM; simp; omega
theorem was_get {s s' : Sy} (h : s'.ms.length = s.ms.length) (k : Nat) (hk : k < s.ms.length) : (wasM s s' k).getD k 0 = (s.me k).1 := by
  unfold wasM Sy.me
  rw [List.getD_eq_getElem?_getD, List.getElem?_append_right (by simp; omega), List.getD_eq_getElem?_getD]
  have : k - (List.map (fun x : Me => x.1) (List.take k s'.ms)).length = 0 := by simp; omega
  rw [this, List.getElem?_map, List.getElem?_drop, Nat.add_zero, List.getElem?_eq_getElem hk]
  rfl
theorem was_set {s s' : Sy} (h : s'.ms.length = s.ms.length) (k : Nat) (hk : k < s.ms.length) : (wasM s s' k).set k (s'.me k).1 = wasM s s' (k + 1) := by
  unfold wasM Sy.me
  have e1 : (List.map (fun x : Me => x.1) (List.take k s'.ms)).length = k := by simp; omega
  rw [List.set_append_right _ _ (by omega), e1, Nat.sub_self, List.drop_eq_getElem_cons hk, List.map_cons, List.set_cons_zero,
    take_snoc zM (by omega), List.map_append, List.append_assoc]
  rfl
theorem was_end {s s' : Sy} (h : s'.ms.length = s.ms.length) (k : Nat) (hk : s.ms.length ≤ k) : wasM s s' k = s'.ms.map (·.1) := by
  unfold wasM
  rw [List.take_of_length_le (by omega), List.drop_eq_nil_of_le hk, List.map_nil, List.append_nil]
theorem was0_len (n : Int) (i : Nat) (h : i ≤ n.toNat) : (was0 n i).length = n.toNat := by unfold was0; simp; omega
theorem was0_set (n : Int) (i : Nat) (h : i < n.toNat) : (was0 n i).set i (-1) = was0 n (i + 1) := by
  unfold was0
  have e1 : (List.replicate i (-1 : Int)).length = i := by simp
  rw [List.set_append_right _ _ (by omega), e1, Nat.sub_self]
  obtain ⟨m, hm⟩ : ∃ m, n.toNat - i = m + 1 := ⟨n.toNat - i - 1, by omega⟩
  rw [hm, List.replicate_succ, List.set_cons_zero, show n.toNat - (i + 1) = m by omega, List.replicate_succ']
  simp
theorem memF_me {s : Sy} (k : Nat) (h : k < s.ms.length) : memF s.ms (k : Int) = ((s.me k).1, (s.me k).2.1, (s.me k).2.2.1) := by
  unfold memF Sy.me inB
  have e : (decide ((0 : Int) ≤ (k : Int)) && decide ((k : Int) ≤ (s.ms.length : Int) - 1)) = true := by
    rw [Bool.and_eq_true]; exact ⟨decide_eq_true (by omega), decide_eq_true (by omega)⟩
  rw [if_pos e, Int.toNat_natCast]
end Go.Proofs.YtdpnakebhpecfaaDoor

/- Synods: one value is chosen: the law. -/
namespace Go.Proofs.YtdpnakebhpecfaaDoor
open Go.Vc
theorem sAt_next (n : Int) (l : List As) (x : Nat) (h : x < l.length) : (doX (sAt n l x) (l.getD x (0, 0, 0, 0, ()))).2 = sAt n l (x + 1) := (sAt_succ n l x h).symm
theorem one_vc (n : Int) (l : List As) (k : List Dat → Prop) (hl : l.length ≤ maxLen) (hk : k [⟨.bool, true⟩]) : vcF ⟨El, [(8, cFact)], glT, [], [(9, oNew), (10, oDoX), (11, oChX)]⟩ (anOne n l) (Tryd.f3.body.getD .skip) Tryd.f3.ntmps [(.tmp 4, .bool)] [⟨I, n⟩, ⟨.sl tAs, l⟩] k := by
  rw [vcOne]
  have hml : maxLen ≤ 9223372036854775807 := by decide
  simp only [and_true, true_and, eq_self, sy_eta, initS_ms, initS_bs, Int.toNat_natCast, implies_true]
  refine ⟨fun h => absurd h (by decide), fun _ => ⟨fun hb => ⟨fun h => absurd h (by decide), fun _ => ⟨⟨0, by omega, ⟨by rw [sAt_zero, chX_init], rfl⟩, by rw [sAt_zero]; rfl, by rw [sAt_zero]⟩, fun x hx => ⟨fun h1 => ⟨fun h2 => ?_, fun _ => hk⟩, fun _ => hk⟩⟩⟩, fun hb => ⟨fun _ => ⟨fun _ => hk, fun h => ?_⟩, fun h => absurd h (by decide)⟩⟩⟩
  · have h1 : x < l.length := by have := of_decide_eq_true h1; omega
    have hr : 1 ≤ n ∧ n ≤ 8 := by unfold inB at hb; simpa using hb
    have g := sAt_good hr l x hx
    have g' := sAt_good hr l (x + 1) h1
    have hs := chX_sub g (l.getD x (0, 0, 0, 0, ()))
    have hf := chX_first g (l.getD x (0, 0, 0, 0, ()))
    rw [sAt_next n l x h1] at hs hf
    simp only [sAt_next n l x h1]
    have hl' := chX_len g'
    have z : Int.toNat 0 = 0 := rfl
    simp only [z]
    refine ⟨by omega, by omega, g.inv, g'.inv, ⟨0, by omega, rfl⟩, fun y hy => ⟨fun h3 => ⟨⟨by omega, of_decide_eq_true h3, by omega, by have := of_decide_eq_true h3; omega⟩, fun h4 => ?_, fun _ => ⟨inK_i64.2 (by omega), y + 1, by have := of_decide_eq_true h3; omega, by have := of_decide_eq_true h3; omega, by omega⟩⟩, fun h3 => ⟨fun h4 _ => ⟨by omega, by have := of_decide_eq_true h4; omega, by omega, of_decide_eq_true h4⟩, fun h4 => ?_, fun _ => ⟨inK_i64.2 (by omega), x + 1, h1, by omega, ⟨rfl, by omega⟩, rfl, rfl⟩⟩⟩⟩
    · have h3 := of_decide_eq_true h3
      have := chX_one g' (i := y) (j := 0) (by omega) (by omega)
      rw [this] at h4
      simp at h4
    · exfalso
      rw [Bool.and_eq_true] at h4
      have h0 := of_decide_eq_true h4.1
      have e1 := hf (by omega)
      have e2 : ¬ (((chX (sAt n l (x + 1))).length : Int) < ((chX (sAt n l x)).length : Int)) := by omega
      have h5 := h4.2
      rw [e1, decide_eq_false e2] at h5
      simp at h5
  · have : ¬ (1 ≤ n ∧ n ≤ 8) := by unfold inB at hb; simpa using hb
    have h := of_decide_eq_false h
    have e : decide (8 < n) = true := decide_eq_true (by omega)
    rw [e]; exact hk
theorem okOne : PlainOk Tryd.prog glT 3 (cdet [I, .sl tAs] (fun (_ : Int) (_ : List As) => True) (fun _ _ => [⟨.bool, true⟩])) := by
  refine plain_of (CxOk.mk' El_ok rfl mixed (gl := glT) (GOk.cons okFact Tryd.func8 (by kernel_rfl) (by kernel_rfl) GOk.nil) (GoOk.cons ownNew Tryd.func9 (by kernel_rfl) (by kernel_rfl) (GoOk.cons ownDoX Tryd.func10 (by kernel_rfl) (by kernel_rfl) (GoOk.cons ownChX Tryd.func11 (by kernel_rfl) (by kernel_rfl) GoOk.nil))) noIt) Tryd.func3 (c := Tryd.f3.body.getD .skip) (rvs := [(.tmp 4, .bool)]) (by kernel_rfl) (by kernel_rfl) (by kernel_rfl) ?_
  intro ds k ⟨hp, hk⟩ hwf
  obtain ⟨n, l, rfl, -⟩ := dest2 hp
  exact ⟨_, one_vc n l k (wf2 hwf).2.1 hk⟩
end Go.Proofs.YtdpnakebhpecfaaDoor

/- Synods: what is chosen was asked for: the law. -/
namespace Go.Proofs.YtdpnakebhpecfaaDoor
open Go.Vc
theorem asked_vc (n : Int) (l : List As) (k : List Dat → Prop) (hl : l.length ≤ maxLen) (hk : k [⟨.bool, true⟩]) : vcF ⟨El, [(8, cFact), (13, cMember)], glT, [], [(9, oNew), (10, oDoX)]⟩ (anAsked n l) (Tryd.f5.body.getD .skip) Tryd.f5.ntmps [(.tmp 4, .bool)] [⟨I, n⟩, ⟨.sl tAs, l⟩] k := by
  rw [vcAsked]
  have hml : maxLen ≤ 9223372036854775807 := by decide
  simp only [and_true, true_and, eq_self, sy_eta, initS_ms, initS_bs, Int.toNat_natCast, implies_true]
  refine ⟨fun h => absurd h (by decide), fun _ => ⟨fun hb => ⟨fun h => absurd h (by decide), fun _ => ?_⟩, fun hb => ⟨fun _ => ⟨fun _ => hk, fun h => ?_⟩, fun h => absurd h (by decide)⟩⟩⟩
  · have hr : 1 ≤ n ∧ n ≤ 8 := by unfold inB at hb; simpa using hb
    refine ⟨by omega, by omega, by omega, ⟨0, by omega, rfl, rfl⟩, fun x hx => ⟨fun h1 => ?_, fun h1 => ⟨⟨0, by omega, rfl, by rw [sAt_zero]; rfl, by rw [sAt_zero], ?_⟩, fun i hi => ⟨fun h2 => ⟨fun h3 => ?_, fun _ => hk⟩, fun _ => hk⟩⟩⟩⟩
    · have h1 := of_decide_eq_true h1
      have hlen := was0_len n x hx
      exact ⟨by omega, by omega, inK_i64.2 (by omega), x + 1, by omega, by omega, by omega, was0_set n x (by omega)⟩
    · have h1 := of_decide_eq_false h1
      have : x = n.toNat := by omega
      subst this
      rw [sAt_zero]
      unfold was0 initS
      simp
    · have h2 : i < l.length := by have := of_decide_eq_true h2; omega
      have h3 := of_decide_eq_true h3
      have g := sAt_good hr l i hi
      have g' := sAt_good hr l (i + 1) h2
      have hll : (sAt n l (i + 1)).ms.length = (sAt n l i).ms.length := g'.len.trans g.len.symm
      have gl := g.len
      have K := kept_steps (do_steps g.inv (l.getD i zA))
      have V := sAt_vals hr l (i + 1) h2
      rw [← doX_eq, ← sAt_succ n l i h2] at K
      simp only [sAt_next n l i h2]
      refine ⟨by omega, by omega, g.inv, ⟨0, by omega, rfl, trivial, trivial, (was_zero _ _).symm⟩, fun y hy => ⟨fun h4 => ?_, fun h4 => ⟨inK_i64.2 (by omega), i + 1, h2, by omega, by omega, rfl, rfl, was_end hll y (by have := of_decide_eq_false h4; omega)⟩⟩⟩
      have h4 := of_decide_eq_true h4
      have hy' : y < (sAt n l i).ms.length := by omega
      have wl := was_len hll y
      have me := memF_me (s := sAt n l (i + 1)) y (by omega)
      have wg := was_get hll y hy'
      have wset := was_set hll y hy'
      have S := g'.safe.mem y (by omega)
      have Kp := K.pro y
      have inm : (sAt n l (i + 1)).me y ∈ (sAt n l (i + 1)).ms := getD_mem (by omega)
      have Vm := V.me _ inm
      obtain ⟨m, hm⟩ : ∃ m, (sAt n l (i + 1)).me y = m := ⟨_, rfl⟩
      rw [hm] at me wset S Kp Vm
      simp only [me, wg, wset]
      refine ⟨⟨_, rfl, by show (sAt n l (i + 1)).ms.length ≤ 8; omega⟩, by omega, by omega, fun h => absurd (of_decide_eq_true h) (by omega), fun _ => ⟨fun h => absurd (of_decide_eq_true h) (by omega), fun _ => ⟨by omega, by omega, ⟨0, by omega, (askB_zero l m.2.1 m.2.2.1).symm, rfl⟩, fun j hj => ⟨fun h5 => ?_, fun h5 => ⟨fun h6 => ?_, fun _ => ⟨inK_i64.2 (by omega), y + 1, by omega, by omega, by omega, rfl⟩⟩⟩⟩⟩⟩
      · have h5 := of_decide_eq_true h5
        have hs := askB_succ l m.2.1 m.2.2.1 j (by omega)
        refine ⟨fun h6 => ⟨inK_i64.2 (by omega), j + 1, by omega, by omega, by rw [hs, h6]; rfl, by omega⟩, fun h6 => ⟨by omega, by omega, fun h7 => ⟨by omega, by omega, inK_i64.2 (by omega), j + 1, by omega, by omega, by rw [hs, h6, h7]; rfl, by omega⟩, fun h7 => ⟨inK_i64.2 (by omega), j + 1, by omega, by omega, by rw [hs, h6, h7]; rfl, by omega⟩⟩⟩
      · exfalso
        have h5 := of_decide_eq_false h5
        have : j = i + 1 := by omega
        subst this
        have h6 : askB l m.2.1 m.2.2.1 (i + 1) = false := by simpa using h6
        have : askB l m.2.1 m.2.2.1 (i + 1) = true := by
          rw [askB_eq]
          by_cases hm : m.2.1 = -1
          · exact .inl hm
          · exact .inr (Vm hm)
        rw [h6] at this; cases this
  · have : ¬ (1 ≤ n ∧ n ≤ 8) := by unfold inB at hb; simpa using hb
    have h := of_decide_eq_false h
    have e : decide (8 < n) = true := decide_eq_true (by omega)
    rw [e]; exact hk
theorem okAsked : PlainOk Tryd.prog glT 5 (cdet [I, .sl tAs] (fun (_ : Int) (_ : List As) => True) (fun _ _ => [⟨.bool, true⟩])) := by
  refine plain_of (CxOk.mk' El_ok rfl mixed (gl := glT) (GOk.cons okFact Tryd.func8 (by kernel_rfl) (by kernel_rfl) (GOk.cons okMember.lift Tryd.func13 (by kernel_rfl) (by kernel_rfl) GOk.nil)) (GoOk.cons ownNew Tryd.func9 (by kernel_rfl) (by kernel_rfl) (GoOk.cons ownDoX Tryd.func10 (by kernel_rfl) (by kernel_rfl) GoOk.nil)) noIt) Tryd.func5 (c := Tryd.f5.body.getD .skip) (rvs := [(.tmp 4, .bool)]) (by kernel_rfl) (by kernel_rfl) (by kernel_rfl) ?_
  intro ds k ⟨hp, hk⟩ hwf
  obtain ⟨n, l, rfl, -⟩ := dest2 hp
  exact ⟨_, asked_vc n l k (wf2 hwf).2.1 hk⟩
end Go.Proofs.YtdpnakebhpecfaaDoor

/- The library's table, as the cards list it, lies in its variable. -/
namespace Go.Proofs.YtdpnakebhpecfaaDoor
open Go.Vc
def Eg : Env := { tys := [(103, .ar 64 (.int .u8))], errT := 54, eqs := [], els := [] }
theorem Eg_ok : EnvOk Tryd.prog Eg := EnvOk.of_list (by kernel_rfl) (by kernel_rfl) (by kernel_rfl)
theorem glOk {W : World} (h : laidMetH Tryd.prog Rows.synodOneRow.laid W) : GlOk glT W fun b => b < W.heap.size :=
  gl_of_laid Eg_ok (n := "math/bits.deBruijn64tab") (T := 103) (by kernel_rfl) h (.tail _ (.head _)) (by kernel_rfl) (by kernel_rfl) (by kernel_rfl) (by decide)
end Go.Proofs.YtdpnakebhpecfaaDoor
