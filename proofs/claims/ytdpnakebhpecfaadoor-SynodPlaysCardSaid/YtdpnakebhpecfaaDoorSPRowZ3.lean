/- Own texts, merged: PV, POk, POk2, PM, PM2, PM3, As, Er, PLDef, PLV, Gl, PLaw. -/
import Derived.Test.YtdpnakebhpecfaaDoorSPRowZ2
import Derived.Test.YtdpnakebhpecfaaDoorChecked
import Derived.WalkKit
import Derived.LaidEql
import Derived.Stop.Asserts
import Derived.RowKitTokens
import Derived.Test.YtdpnakebhpecfaaDoorVcQ
import Derived.Test.YtdpnakebhpecfaaDoorVcPA
import Derived.Test.YtdpnakebhpecfaaDoorRows
/- What the functions of this seat have to satisfy, by program: each verification condition in plain words. -/
namespace Go.Proofs.YtdpnakebhpecfaaDoor
open Go.Vc Go.Proofs.YtdpnakebhpecfaaDoor.V Go.Proofs.YtdpnakebhpecfaaDoor.P
set_option linter.unusedVariables false
theorem vcInR (a b c : Int) (k : List Dat → Prop) : vcF ⟨Eo, [], glT, [], []⟩ [joinAll] (Tryd.f31.body.getD .skip) Tryd.f31.ntmps [(.tmp 6, .bool)] [⟨I, a⟩, ⟨I, b⟩, ⟨I, c⟩] k = (
  (decide (b ≤ a) = true → k [Dat.mk Ty.bool (decide (a ≤ c))]) ∧ (decide (b ≤ a) = false → k [Dat.mk Ty.bool false])) := by kernel_rfl
theorem vcMaskR (s n : Int) (k : List Dat → Prop) : vcF ⟨Eo, [(12, cPow2)], glT, [], []⟩ [joinAll] (Tryd.f32.body.getD .skip) Tryd.f32.ntmps [(.tmp 4, .bool)] [⟨I, s⟩, ⟨I, n⟩] k = (
  (decide ((0 : Int) ≤ s) = true → (n ≤ (61 : Int) ∧ True) ∧ k [Dat.mk Ty.bool (decide (s < (2 : Int) ^ n.toNat))]) ∧ (decide ((0 : Int) ≤ s) = false → k [Dat.mk Ty.bool false])) := by kernel_rfl
theorem vcBitR (s i : Int) (k : List Dat → Prop) : vcF ⟨Eo, [], glT, [], []⟩ (anBit s i) (Tryd.f34.body.getD .skip) Tryd.f34.ntmps [(.tmp 4, .bool)] [⟨I, s⟩, ⟨I, i⟩] k = (
  (∃ (x : Nat), (x ≤ i.toNat ∧ True) ∧ (s = s.tdiv ((2 : Int) ^ x) ∧ i = i ∧ false = false ∧ (0 : Int) = (↑x : Int) ∧ True) ∧ True ∧ tabD = tabD ∧ True) ∧ ∀ (x : Nat), x ≤ i.toNat ∧ True → (decide ((↑x : Int) < i) = true → ((!decide (s.tdiv ((2 : Int) ^ x) = (0 : Int))) = true → (2 : Int) ≠ (0 : Int) ∧ inK IntKind.i64 ((s.tdiv ((2 : Int) ^ x)).tdiv (2 : Int)) ∧ inK IntKind.i64 ((↑x : Int) + (1 : Int)) ∧ ∃ (x_1 : Nat), (x_1 ≤ i.toNat ∧ True) ∧ i.toNat - x_1 < i.toNat - x ∧ ((s.tdiv ((2 : Int) ^ x)).tdiv (2 : Int) = s.tdiv ((2 : Int) ^ x_1) ∧ i = i ∧ false = false ∧ (↑x : Int) + (1 : Int) = (↑x_1 : Int) ∧ True) ∧ True ∧ tabD = tabD ∧ True) ∧ ((!decide (s.tdiv ((2 : Int) ^ x) = (0 : Int))) = false → (2 : Int) ≠ (0 : Int) ∧ inK IntKind.i64 ((s.tdiv ((2 : Int) ^ x)).tmod (2 : Int)) ∧ k [Dat.mk Ty.bool (decide ((s.tdiv ((2 : Int) ^ x)).tmod (2 : Int) = (1 : Int)))])) ∧ (decide ((↑x : Int) < i) = false → (2 : Int) ≠ (0 : Int) ∧ inK IntKind.i64 ((s.tdiv ((2 : Int) ^ x)).tmod (2 : Int)) ∧ k [Dat.mk Ty.bool (decide ((s.tdiv ((2 : Int) ^ x)).tmod (2 : Int) = (1 : Int)))])) := by kernel_rfl
theorem vcWithR (a i : Int) (k : List Dat → Prop) : vcF ⟨Eo, [(34, P.cBit), (12, cPow2)], glT, [], []⟩ [] (Tryd.f41.body.getD .skip) Tryd.f41.ntmps [(.tmp 4, I)] [⟨I, a⟩, ⟨I, i⟩] k = (
  True ∧ (bitB a i = true → k [Dat.mk (I) a]) ∧ (bitB a i = false → (i ≤ (61 : Int) ∧ True) ∧ inK IntKind.i64 (a + (2 : Int) ^ i.toNat) ∧ k [Dat.mk (I) (a + (2 : Int) ^ i.toNat)])) := by kernel_rfl
theorem vcOfR (x : SR) (b a : Int) (k : List Dat → Prop) : vcF ⟨Eo, [(41, cWith)], glT, [], []⟩ (anOf x b a) (Tryd.f33.body.getD .skip) Tryd.f33.ntmps [(.tmp 6, I)] [⟨tSR, x⟩, ⟨I, b⟩, ⟨I, a⟩] k = (
  (∃ (x_1 : Nat), (x_1 ≤ x.snd.fst.length ∧ True) ∧ (b = b ∧ a = a ∧ ([] : List Nat) = [] ∧ (0 : Int) = ofR (List.take x_1 x.snd.fst) b a ∧ (0 : Int) = (↑x_1 : Int) ∧ True) ∧ (((43 : Nat) = (43 : Nat) ∧ x = x) ∧ True) ∧ tabD = tabD ∧ True) ∧ ∀ (x_1 : Nat), x_1 ≤ x.snd.fst.length ∧ True → (decide ((↑x_1 : Int) < (↑(List.length x.snd.fst) : Int)) = true → (0 : Int) ≤ (↑x_1 : Int) ∧ (↑x_1 : Int) < (↑(List.length x.snd.fst) : Int) ∧ (decide ((List.getD x.snd.fst (↑x_1 : Int).toNat ((0 : Int), (0 : Int), (0 : Int), (0 : Int), (0 : Int), ())).snd.fst = b) = true → (0 : Int) ≤ (↑x_1 : Int) ∧ (↑x_1 : Int) < (↑(List.length x.snd.fst) : Int) ∧ (decide ((List.getD x.snd.fst (↑x_1 : Int).toNat ((0 : Int), (0 : Int), (0 : Int), (0 : Int), (0 : Int), ())).fst = a) = true → (0 : Int) ≤ (↑x_1 : Int) ∧ (↑x_1 : Int) < (↑(List.length x.snd.fst) : Int) ∧ (V.setP (ofR (List.take x_1 x.snd.fst) b a) ∧ (0 : Int) ≤ (List.getD x.snd.fst (↑x_1 : Int).toNat ((0 : Int), (0 : Int), (0 : Int), (0 : Int), (0 : Int), ())).snd.snd.fst ∧ (List.getD x.snd.fst (↑x_1 : Int).toNat ((0 : Int), (0 : Int), (0 : Int), (0 : Int), (0 : Int), ())).snd.snd.fst ≤ (59 : Int)) ∧ inK IntKind.i64 ((↑x_1 : Int) + (1 : Int)) ∧ ∃ (x_2 : Nat), (x_2 ≤ x.snd.fst.length ∧ True) ∧ x.snd.fst.length - x_2 < x.snd.fst.length - x_1 ∧ (b = b ∧ a = a ∧ ([] : List Nat) = [] ∧ withM (ofR (List.take x_1 x.snd.fst) b a) (List.getD x.snd.fst (↑x_1 : Int).toNat ((0 : Int), (0 : Int), (0 : Int), (0 : Int), (0 : Int), ())).snd.snd.fst = ofR (List.take x_2 x.snd.fst) b a ∧ (↑x_1 : Int) + (1 : Int) = (↑x_2 : Int) ∧ True) ∧ (((43 : Nat) = (43 : Nat) ∧ x = x) ∧ True) ∧ tabD = tabD ∧ True) ∧ (decide ((List.getD x.snd.fst (↑x_1 : Int).toNat ((0 : Int), (0 : Int), (0 : Int), (0 : Int), (0 : Int), ())).fst = a) = false → inK IntKind.i64 ((↑x_1 : Int) + (1 : Int)) ∧ ∃ (x_2 : Nat), (x_2 ≤ x.snd.fst.length ∧ True) ∧ x.snd.fst.length - x_2 < x.snd.fst.length - x_1 ∧ (b = b ∧ a = a ∧ ([] : List Nat) = [] ∧ ofR (List.take x_1 x.snd.fst) b a = ofR (List.take x_2 x.snd.fst) b a ∧ (↑x_1 : Int) + (1 : Int) = (↑x_2 : Int) ∧ True) ∧ (((43 : Nat) = (43 : Nat) ∧ x = x) ∧ True) ∧ tabD = tabD ∧ True)) ∧ (decide ((List.getD x.snd.fst (↑x_1 : Int).toNat ((0 : Int), (0 : Int), (0 : Int), (0 : Int), (0 : Int), ())).snd.fst = b) = false → inK IntKind.i64 ((↑x_1 : Int) + (1 : Int)) ∧ ∃ (x_2 : Nat), (x_2 ≤ x.snd.fst.length ∧ True) ∧ x.snd.fst.length - x_2 < x.snd.fst.length - x_1 ∧ (b = b ∧ a = a ∧ ([] : List Nat) = [] ∧ ofR (List.take x_1 x.snd.fst) b a = ofR (List.take x_2 x.snd.fst) b a ∧ (↑x_1 : Int) + (1 : Int) = (↑x_2 : Int) ∧ True) ∧ (((43 : Nat) = (43 : Nat) ∧ x = x) ∧ True) ∧ tabD = tabD ∧ True)) ∧ (decide ((↑x_1 : Int) < (↑(List.length x.snd.fst) : Int)) = false → k [Dat.mk (I) (ofR (List.take x_1 x.snd.fst) b a)])) := by kernel_rfl
theorem vcMemR (x : SR) (i : Int) (k : List Dat → Prop) : vcF ⟨Eo, [], glT, [], []⟩ (anMemR x i) (Tryd.f17.body.getD .skip) Tryd.f17.ntmps [(.tmp 4, I), (.tmp 5, I), (.tmp 6, I)] [⟨tSR, x⟩, ⟨I, i⟩] k = (
  (∃ (x_1 : Nat), (x_1 ≤ x.snd.fst.length ∧ True) ∧ (i = i ∧ ([] : List Nat) = [] ∧ (-1 : Int) = (memR (List.take x_1 x.snd.fst) i).fst ∧ (-1 : Int) = (memR (List.take x_1 x.snd.fst) i).snd.fst ∧ (0 : Int) = (memR (List.take x_1 x.snd.fst) i).snd.snd ∧ (0 : Int) = (↑x_1 : Int) ∧ True) ∧ (((43 : Nat) = (43 : Nat) ∧ x = x) ∧ True) ∧ tabD = tabD ∧ True) ∧ ∀ (x_1 : Nat), x_1 ≤ x.snd.fst.length ∧ True → (decide ((↑x_1 : Int) < (↑(List.length x.snd.fst) : Int)) = true → (0 : Int) ≤ (↑x_1 : Int) ∧ (↑x_1 : Int) < (↑(List.length x.snd.fst) : Int) ∧ ((!decide ((List.getD x.snd.fst (↑x_1 : Int).toNat ((0 : Int), (0 : Int), (0 : Int), (0 : Int), (0 : Int), ())).snd.snd.fst = i)) = true → inK IntKind.i64 ((↑x_1 : Int) + (1 : Int)) ∧ ∃ (x_2 : Nat), (x_2 ≤ x.snd.fst.length ∧ True) ∧ x.snd.fst.length - x_2 < x.snd.fst.length - x_1 ∧ (i = i ∧ ([] : List Nat) = [] ∧ (memR (List.take x_1 x.snd.fst) i).fst = (memR (List.take x_2 x.snd.fst) i).fst ∧ (memR (List.take x_1 x.snd.fst) i).snd.fst = (memR (List.take x_2 x.snd.fst) i).snd.fst ∧ (memR (List.take x_1 x.snd.fst) i).snd.snd = (memR (List.take x_2 x.snd.fst) i).snd.snd ∧ (↑x_1 : Int) + (1 : Int) = (↑x_2 : Int) ∧ True) ∧ (((43 : Nat) = (43 : Nat) ∧ x = x) ∧ True) ∧ tabD = tabD ∧ True) ∧ ((!decide ((List.getD x.snd.fst (↑x_1 : Int).toNat ((0 : Int), (0 : Int), (0 : Int), (0 : Int), (0 : Int), ())).snd.snd.fst = i)) = false → (decide ((memR (List.take x_1 x.snd.fst) i).fst < (List.getD x.snd.fst (↑x_1 : Int).toNat ((0 : Int), (0 : Int), (0 : Int), (0 : Int), (0 : Int), ())).snd.fst) = true → (decide ((List.getD x.snd.fst (↑x_1 : Int).toNat ((0 : Int), (0 : Int), (0 : Int), (0 : Int), (0 : Int), ())).fst = (1 : Int)) = true → inK IntKind.i64 ((↑x_1 : Int) + (1 : Int)) ∧ ∃ (x_2 : Nat), (x_2 ≤ x.snd.fst.length ∧ True) ∧ x.snd.fst.length - x_2 < x.snd.fst.length - x_1 ∧ (i = i ∧ ([] : List Nat) = [] ∧ (List.getD x.snd.fst (↑x_1 : Int).toNat ((0 : Int), (0 : Int), (0 : Int), (0 : Int), (0 : Int), ())).snd.fst = (memR (List.take x_2 x.snd.fst) i).fst ∧ (List.getD x.snd.fst (↑x_1 : Int).toNat ((0 : Int), (0 : Int), (0 : Int), (0 : Int), (0 : Int), ())).snd.fst = (memR (List.take x_2 x.snd.fst) i).snd.fst ∧ (List.getD x.snd.fst (↑x_1 : Int).toNat ((0 : Int), (0 : Int), (0 : Int), (0 : Int), (0 : Int), ())).snd.snd.snd.snd.fst = (memR (List.take x_2 x.snd.fst) i).snd.snd ∧ (↑x_1 : Int) + (1 : Int) = (↑x_2 : Int) ∧ True) ∧ (((43 : Nat) = (43 : Nat) ∧ x = x) ∧ True) ∧ tabD = tabD ∧ True) ∧ (decide ((List.getD x.snd.fst (↑x_1 : Int).toNat ((0 : Int), (0 : Int), (0 : Int), (0 : Int), (0 : Int), ())).fst = (1 : Int)) = false → inK IntKind.i64 ((↑x_1 : Int) + (1 : Int)) ∧ ∃ (x_2 : Nat), (x_2 ≤ x.snd.fst.length ∧ True) ∧ x.snd.fst.length - x_2 < x.snd.fst.length - x_1 ∧ (i = i ∧ ([] : List Nat) = [] ∧ (List.getD x.snd.fst (↑x_1 : Int).toNat ((0 : Int), (0 : Int), (0 : Int), (0 : Int), (0 : Int), ())).snd.fst = (memR (List.take x_2 x.snd.fst) i).fst ∧ (memR (List.take x_1 x.snd.fst) i).snd.fst = (memR (List.take x_2 x.snd.fst) i).snd.fst ∧ (memR (List.take x_1 x.snd.fst) i).snd.snd = (memR (List.take x_2 x.snd.fst) i).snd.snd ∧ (↑x_1 : Int) + (1 : Int) = (↑x_2 : Int) ∧ True) ∧ (((43 : Nat) = (43 : Nat) ∧ x = x) ∧ True) ∧ tabD = tabD ∧ True)) ∧ (decide ((memR (List.take x_1 x.snd.fst) i).fst < (List.getD x.snd.fst (↑x_1 : Int).toNat ((0 : Int), (0 : Int), (0 : Int), (0 : Int), (0 : Int), ())).snd.fst) = false → (decide ((List.getD x.snd.fst (↑x_1 : Int).toNat ((0 : Int), (0 : Int), (0 : Int), (0 : Int), (0 : Int), ())).fst = (1 : Int)) = true → inK IntKind.i64 ((↑x_1 : Int) + (1 : Int)) ∧ ∃ (x_2 : Nat), (x_2 ≤ x.snd.fst.length ∧ True) ∧ x.snd.fst.length - x_2 < x.snd.fst.length - x_1 ∧ (i = i ∧ ([] : List Nat) = [] ∧ (memR (List.take x_1 x.snd.fst) i).fst = (memR (List.take x_2 x.snd.fst) i).fst ∧ (List.getD x.snd.fst (↑x_1 : Int).toNat ((0 : Int), (0 : Int), (0 : Int), (0 : Int), (0 : Int), ())).snd.fst = (memR (List.take x_2 x.snd.fst) i).snd.fst ∧ (List.getD x.snd.fst (↑x_1 : Int).toNat ((0 : Int), (0 : Int), (0 : Int), (0 : Int), (0 : Int), ())).snd.snd.snd.snd.fst = (memR (List.take x_2 x.snd.fst) i).snd.snd ∧ (↑x_1 : Int) + (1 : Int) = (↑x_2 : Int) ∧ True) ∧ (((43 : Nat) = (43 : Nat) ∧ x = x) ∧ True) ∧ tabD = tabD ∧ True) ∧ (decide ((List.getD x.snd.fst (↑x_1 : Int).toNat ((0 : Int), (0 : Int), (0 : Int), (0 : Int), (0 : Int), ())).fst = (1 : Int)) = false → inK IntKind.i64 ((↑x_1 : Int) + (1 : Int)) ∧ ∃ (x_2 : Nat), (x_2 ≤ x.snd.fst.length ∧ True) ∧ x.snd.fst.length - x_2 < x.snd.fst.length - x_1 ∧ (i = i ∧ ([] : List Nat) = [] ∧ (memR (List.take x_1 x.snd.fst) i).fst = (memR (List.take x_2 x.snd.fst) i).fst ∧ (memR (List.take x_1 x.snd.fst) i).snd.fst = (memR (List.take x_2 x.snd.fst) i).snd.fst ∧ (memR (List.take x_1 x.snd.fst) i).snd.snd = (memR (List.take x_2 x.snd.fst) i).snd.snd ∧ (↑x_1 : Int) + (1 : Int) = (↑x_2 : Int) ∧ True) ∧ (((43 : Nat) = (43 : Nat) ∧ x = x) ∧ True) ∧ tabD = tabD ∧ True)))) ∧ (decide ((↑x_1 : Int) < (↑(List.length x.snd.fst) : Int)) = false → k [Dat.mk (I) (memR (List.take x_1 x.snd.fst) i).fst, Dat.mk (I) (memR (List.take x_1 x.snd.fst) i).snd.fst, Dat.mk (I) (memR (List.take x_1 x.snd.fst) i).snd.snd])) := by kernel_rfl
theorem vcChoR (x : SR) (k : List Dat → Prop) : vcF ⟨Eo, [(33, cOf), (22, cManyR)], glT, [], []⟩ (anChoR x) (Tryd.f19.body.getD .skip) Tryd.f19.ntmps [(.tmp 2, .sl I)] [⟨tSR, x⟩] k = (
  (∃ (x_1 : Nat), (x_1 ≤ (31 : Nat) ∧ True) ∧ (([] : List Nat) = [] ∧ True ∧ (0 : Int) = (↑x_1 : Int) ∧ True) ∧ (((43 : Nat) = (43 : Nat) ∧ x = x) ∧ ((3 : Nat) = (3 : Nat) ∧ [] = choR x x_1) ∧ True) ∧ tabD = tabD ∧ True) ∧ ∀ (x_1 : Nat), x_1 ≤ (31 : Nat) ∧ True → (decide ((↑x_1 : Int) ≤ (30 : Int)) = true → ((∀ (d : Int × Int × Int × Int × Int × Unit), d ∈ x.snd.fst → (0 : Int) ≤ d.snd.snd.fst ∧ d.snd.snd.fst < (8 : Int)) ∧ (ofR x.snd.fst (↑x_1 : Int) (1 : Int) < (256 : Int) ∧ True) ∧ inK IntKind.i64 ((2 : Int) * (↑(popN (ofR x.snd.fst (↑x_1 : Int) (1 : Int)).toNat) : Int)) ∧ True) ∧ (decide (x.fst < (2 : Int) * (↑(popN (ofR x.snd.fst (↑x_1 : Int) (1 : Int)).toNat) : Int)) = true → (0 : Int) ≤ (↑x_1 : Int) ∧ (↑x_1 : Int) < (↑(List.length x.snd.snd.fst) : Int) ∧ (choR x x_1).length + ((List.replicate (1 : Nat) (0 : Int)).set (0 : Nat) (List.getD x.snd.snd.fst (↑x_1 : Int).toNat (0 : Int))).length ≤ (1000000000 : Nat) ∧ inK IntKind.i64 ((↑x_1 : Int) + (1 : Int)) ∧ ∃ (x_2 : Nat), (x_2 ≤ (31 : Nat) ∧ True) ∧ (31 : Nat) - x_2 < (31 : Nat) - x_1 ∧ (([] : List Nat) = [] ∧ True ∧ (↑x_1 : Int) + (1 : Int) = (↑x_2 : Int) ∧ True) ∧ (((43 : Nat) = (43 : Nat) ∧ x = x) ∧ ((3 : Nat) = (3 : Nat) ∧ (choR x x_1).append ((List.replicate (1 : Nat) (0 : Int)).set (0 : Nat) (List.getD x.snd.snd.fst (↑x_1 : Int).toNat (0 : Int))) = choR x x_2) ∧ True) ∧ tabD = tabD ∧ True) ∧ (decide (x.fst < (2 : Int) * (↑(popN (ofR x.snd.fst (↑x_1 : Int) (1 : Int)).toNat) : Int)) = false → inK IntKind.i64 ((↑x_1 : Int) + (1 : Int)) ∧ ∃ (x_2 : Nat), (x_2 ≤ (31 : Nat) ∧ True) ∧ (31 : Nat) - x_2 < (31 : Nat) - x_1 ∧ (([] : List Nat) = [] ∧ True ∧ (↑x_1 : Int) + (1 : Int) = (↑x_2 : Int) ∧ True) ∧ (((43 : Nat) = (43 : Nat) ∧ x = x) ∧ ((3 : Nat) = (3 : Nat) ∧ choR x x_1 = choR x x_2) ∧ True) ∧ tabD = tabD ∧ True)) ∧ (decide ((↑x_1 : Int) ≤ (30 : Int)) = false → k [Dat.mk (I).sl (choR x x_1)])) := by kernel_rfl
theorem vcNewR (n : Int) (k : List Dat → Prop) : vcF ⟨Ep, [], glT, [], []⟩ anNewR (Tryd.f15.body.getD .skip) Tryd.f15.ntmps [(.cell 2 43, tSR)] [⟨I, n⟩] k = (
  (∃ (x : Nat), (x ≤ (31 : Nat) ∧ True) ∧ (([] : List Nat) = [] ∧ True ∧ (0 : Int) = (↑x : Int) ∧ True) ∧ (((43 : Nat) = (43 : Nat) ∧ zSR = zSR) ∧ (n = n ∧ True ∧ True ∧ True) ∧ ((3 : Nat) = (3 : Nat) ∧ [] = List.replicate x (-1 : Int)) ∧ True) ∧ tabD = tabD ∧ True) ∧ ∀ (x : Nat), x ≤ (31 : Nat) ∧ True → (decide ((↑x : Int) ≤ (30 : Int)) = true → (List.replicate x (-1 : Int)).length + ((List.replicate (1 : Nat) (0 : Int)).set (0 : Nat) (-1 : Int)).length ≤ (1000000000 : Nat) ∧ inK IntKind.i64 ((↑x : Int) + (1 : Int)) ∧ ∃ (x_1 : Nat), (x_1 ≤ (31 : Nat) ∧ True) ∧ (31 : Nat) - x_1 < (31 : Nat) - x ∧ (([] : List Nat) = [] ∧ True ∧ (↑x : Int) + (1 : Int) = (↑x_1 : Int) ∧ True) ∧ (((43 : Nat) = (43 : Nat) ∧ zSR = zSR) ∧ (n = n ∧ True ∧ True ∧ True) ∧ ((3 : Nat) = (3 : Nat) ∧ (List.replicate x (-1 : Int)).append ((List.replicate (1 : Nat) (0 : Int)).set (0 : Nat) (-1 : Int)) = List.replicate x_1 (-1 : Int)) ∧ True) ∧ tabD = tabD ∧ True) ∧ (decide ((↑x : Int) ≤ (30 : Int)) = false → k [Dat.mk ((I).pr (((I).pr ((I).pr ((I).pr ((I).pr ((I).pr Ty.un))))).sl.pr ((I).sl.pr Ty.un))) (n, [], List.replicate x (-1 : Int), ())])) := by kernel_rfl
theorem vcDoR (x : SR) (a : As) (k : List Dat → Prop) : vcF ⟨Eo, [(31, cWithin), (32, cMaskR), (33, cOf), (22, cManyR), (17, cMemR), (34, P.cBit), (12, cPow2)], glT, [], []⟩ (anDoR x a) (Tryd.f16.body.getD .skip) Tryd.f16.ntmps [(.cell 4 43, tSR), (.tmp 5, I), (.tmp 6, I)] [⟨tSR, x⟩, ⟨tAs, a⟩] k = (
  True ∧ ((!inB a.fst (0 : Int) (1 : Int)) = true → k [Dat.mk ((I).pr (((I).pr ((I).pr ((I).pr ((I).pr ((I).pr Ty.un))))).sl.pr ((I).sl.pr Ty.un))) x, Dat.mk (I) (0 : Int), Dat.mk (I) (1 : Int)]) ∧ ((!inB a.fst (0 : Int) (1 : Int)) = false → True ∧ ((!inB a.snd.fst (0 : Int) (30 : Int)) = true → k [Dat.mk ((I).pr (((I).pr ((I).pr ((I).pr ((I).pr ((I).pr Ty.un))))).sl.pr ((I).sl.pr Ty.un))) x, Dat.mk (I) (0 : Int), Dat.mk (I) (1 : Int)]) ∧ ((!inB a.snd.fst (0 : Int) (30 : Int)) = false → True ∧ ((!inB a.snd.snd.fst (0 : Int) (1000000 : Int)) = true → k [Dat.mk ((I).pr (((I).pr ((I).pr ((I).pr ((I).pr ((I).pr Ty.un))))).sl.pr ((I).sl.pr Ty.un))) x, Dat.mk (I) (0 : Int), Dat.mk (I) (1 : Int)]) ∧ ((!inB a.snd.snd.fst (0 : Int) (1000000 : Int)) = false → (x.fst ≤ (61 : Int) ∧ True) ∧ ((!maskB a.snd.snd.snd.fst x.fst) = true → k [Dat.mk ((I).pr (((I).pr ((I).pr ((I).pr ((I).pr ((I).pr Ty.un))))).sl.pr ((I).sl.pr Ty.un))) x, Dat.mk (I) (0 : Int), Dat.mk (I) (1 : Int)]) ∧ ((!maskB a.snd.snd.snd.fst x.fst) = false → ((decide (a.fst = (1 : Int)) = true → (0 : Int) ≤ a.snd.fst ∧ a.snd.fst < (↑(List.length x.snd.snd.fst) : Int) ∧ (decide (List.getD x.snd.snd.fst (Int.toNat a.snd.fst) (0 : Int) < (0 : Int)) = true → ((∀ (d : Int × Int × Int × Int × Int × Unit), d ∈ x.snd.fst → (0 : Int) ≤ d.snd.snd.fst ∧ d.snd.snd.fst < (8 : Int)) ∧ (ofR x.snd.fst a.snd.fst (0 : Int) < (256 : Int) ∧ True) ∧ inK IntKind.i64 ((2 : Int) * (↑(popN (ofR x.snd.fst a.snd.fst (0 : Int)).toNat) : Int)) ∧ True) ∧ (decide ((2 : Int) * (↑(popN (ofR x.snd.fst a.snd.fst (0 : Int)).toNat) : Int) ≤ x.fst) = true → k [Dat.mk ((I).pr (((I).pr ((I).pr ((I).pr ((I).pr ((I).pr Ty.un))))).sl.pr ((I).sl.pr Ty.un))) x, Dat.mk (I) (0 : Int), Dat.mk (I) (7 : Int)]) ∧ (decide ((2 : Int) * (↑(popN (ofR x.snd.fst a.snd.fst (0 : Int)).toNat) : Int) ≤ x.fst) = false → (∃ (x_1 : Nat), (x_1 ≤ x.snd.fst.length ∧ True) ∧ (([] : List Nat) = [] ∧ ([] : List Nat) = [] ∧ ([] : List Nat) = [] ∧ (-1 : Int) = (bestR (List.take x_1 x.snd.fst) a.snd.fst a.snd.snd.fst).fst ∧ a.snd.snd.fst = (bestR (List.take x_1 x.snd.fst) a.snd.fst a.snd.snd.fst).snd ∧ (0 : Int) = (↑x_1 : Int) ∧ True) ∧ (((43 : Nat) = (43 : Nat) ∧ x = x) ∧ ((33 : Nat) = (33 : Nat) ∧ a = a) ∧ ((43 : Nat) = (43 : Nat) ∧ zSR = zSR) ∧ True) ∧ tabD = tabD ∧ True) ∧ ∀ (x_1 : Nat), x_1 ≤ x.snd.fst.length ∧ True → (decide ((↑x_1 : Int) < (↑(List.length x.snd.fst) : Int)) = true → (0 : Int) ≤ (↑x_1 : Int) ∧ (↑x_1 : Int) < (↑(List.length x.snd.fst) : Int) ∧ (decide ((List.getD x.snd.fst (↑x_1 : Int).toNat ((0 : Int), (0 : Int), (0 : Int), (0 : Int), (0 : Int), ())).snd.fst = a.snd.fst) = true → (decide ((List.getD x.snd.fst (↑x_1 : Int).toNat ((0 : Int), (0 : Int), (0 : Int), (0 : Int), (0 : Int), ())).fst = (0 : Int)) = true → (decide ((bestR (List.take x_1 x.snd.fst) a.snd.fst a.snd.snd.fst).fst < (List.getD x.snd.fst (↑x_1 : Int).toNat ((0 : Int), (0 : Int), (0 : Int), (0 : Int), (0 : Int), ())).snd.snd.snd.fst) = true → inK IntKind.i64 ((↑x_1 : Int) + (1 : Int)) ∧ ∃ (x_2 : Nat), (x_2 ≤ x.snd.fst.length ∧ True) ∧ x.snd.fst.length - x_2 < x.snd.fst.length - x_1 ∧ (([] : List Nat) = [] ∧ ([] : List Nat) = [] ∧ ([] : List Nat) = [] ∧ (List.getD x.snd.fst (↑x_1 : Int).toNat ((0 : Int), (0 : Int), (0 : Int), (0 : Int), (0 : Int), ())).snd.snd.snd.fst = (bestR (List.take x_2 x.snd.fst) a.snd.fst a.snd.snd.fst).fst ∧ (List.getD x.snd.fst (↑x_1 : Int).toNat ((0 : Int), (0 : Int), (0 : Int), (0 : Int), (0 : Int), ())).snd.snd.snd.snd.fst = (bestR (List.take x_2 x.snd.fst) a.snd.fst a.snd.snd.fst).snd ∧ (↑x_1 : Int) + (1 : Int) = (↑x_2 : Int) ∧ True) ∧ (((43 : Nat) = (43 : Nat) ∧ x = x) ∧ ((33 : Nat) = (33 : Nat) ∧ a = a) ∧ ((43 : Nat) = (43 : Nat) ∧ zSR = zSR) ∧ True) ∧ tabD = tabD ∧ True) ∧ (decide ((bestR (List.take x_1 x.snd.fst) a.snd.fst a.snd.snd.fst).fst < (List.getD x.snd.fst (↑x_1 : Int).toNat ((0 : Int), (0 : Int), (0 : Int), (0 : Int), (0 : Int), ())).snd.snd.snd.fst) = false → inK IntKind.i64 ((↑x_1 : Int) + (1 : Int)) ∧ ∃ (x_2 : Nat), (x_2 ≤ x.snd.fst.length ∧ True) ∧ x.snd.fst.length - x_2 < x.snd.fst.length - x_1 ∧ (([] : List Nat) = [] ∧ ([] : List Nat) = [] ∧ ([] : List Nat) = [] ∧ (bestR (List.take x_1 x.snd.fst) a.snd.fst a.snd.snd.fst).fst = (bestR (List.take x_2 x.snd.fst) a.snd.fst a.snd.snd.fst).fst ∧ (bestR (List.take x_1 x.snd.fst) a.snd.fst a.snd.snd.fst).snd = (bestR (List.take x_2 x.snd.fst) a.snd.fst a.snd.snd.fst).snd ∧ (↑x_1 : Int) + (1 : Int) = (↑x_2 : Int) ∧ True) ∧ (((43 : Nat) = (43 : Nat) ∧ x = x) ∧ ((33 : Nat) = (33 : Nat) ∧ a = a) ∧ ((43 : Nat) = (43 : Nat) ∧ zSR = zSR) ∧ True) ∧ tabD = tabD ∧ True)) ∧ (decide ((List.getD x.snd.fst (↑x_1 : Int).toNat ((0 : Int), (0 : Int), (0 : Int), (0 : Int), (0 : Int), ())).fst = (0 : Int)) = false → inK IntKind.i64 ((↑x_1 : Int) + (1 : Int)) ∧ ∃ (x_2 : Nat), (x_2 ≤ x.snd.fst.length ∧ True) ∧ x.snd.fst.length - x_2 < x.snd.fst.length - x_1 ∧ (([] : List Nat) = [] ∧ ([] : List Nat) = [] ∧ ([] : List Nat) = [] ∧ (bestR (List.take x_1 x.snd.fst) a.snd.fst a.snd.snd.fst).fst = (bestR (List.take x_2 x.snd.fst) a.snd.fst a.snd.snd.fst).fst ∧ (bestR (List.take x_1 x.snd.fst) a.snd.fst a.snd.snd.fst).snd = (bestR (List.take x_2 x.snd.fst) a.snd.fst a.snd.snd.fst).snd ∧ (↑x_1 : Int) + (1 : Int) = (↑x_2 : Int) ∧ True) ∧ (((43 : Nat) = (43 : Nat) ∧ x = x) ∧ ((33 : Nat) = (33 : Nat) ∧ a = a) ∧ ((43 : Nat) = (43 : Nat) ∧ zSR = zSR) ∧ True) ∧ tabD = tabD ∧ True)) ∧ (decide ((List.getD x.snd.fst (↑x_1 : Int).toNat ((0 : Int), (0 : Int), (0 : Int), (0 : Int), (0 : Int), ())).snd.fst = a.snd.fst) = false → inK IntKind.i64 ((↑x_1 : Int) + (1 : Int)) ∧ ∃ (x_2 : Nat), (x_2 ≤ x.snd.fst.length ∧ True) ∧ x.snd.fst.length - x_2 < x.snd.fst.length - x_1 ∧ (([] : List Nat) = [] ∧ ([] : List Nat) = [] ∧ ([] : List Nat) = [] ∧ (bestR (List.take x_1 x.snd.fst) a.snd.fst a.snd.snd.fst).fst = (bestR (List.take x_2 x.snd.fst) a.snd.fst a.snd.snd.fst).fst ∧ (bestR (List.take x_1 x.snd.fst) a.snd.fst a.snd.snd.fst).snd = (bestR (List.take x_2 x.snd.fst) a.snd.fst a.snd.snd.fst).snd ∧ (↑x_1 : Int) + (1 : Int) = (↑x_2 : Int) ∧ True) ∧ (((43 : Nat) = (43 : Nat) ∧ x = x) ∧ ((33 : Nat) = (33 : Nat) ∧ a = a) ∧ ((43 : Nat) = (43 : Nat) ∧ zSR = zSR) ∧ True) ∧ tabD = tabD ∧ True)) ∧ (decide ((↑x_1 : Int) < (↑(List.length x.snd.fst) : Int)) = false → List.length x.snd.snd.fst ≤ (1000000000 : Nat) ∧ (0 : Int) ≤ a.snd.fst ∧ a.snd.fst < (↑(List.length x.snd.snd.fst) : Int) ∧ ∃ (x_2 : Nat), Going x a ∧ (([] : List Nat) = [] ∧ ([] : List Nat) = [] ∧ ([] : List Nat) = [] ∧ True) ∧ (((43 : Nat) = (43 : Nat) ∧ (x.fst, x.snd.fst, List.set x.snd.snd.fst (Int.toNat a.snd.fst) (bestR (List.take x_1 x.snd.fst) a.snd.fst a.snd.snd.fst).snd, x.snd.snd.snd) = (x.fst, x.snd.fst, valsR x a, ())) ∧ ((33 : Nat) = (33 : Nat) ∧ a = a) ∧ ((43 : Nat) = (43 : Nat) ∧ zSR = zSR) ∧ True) ∧ tabD = tabD ∧ True))) ∧ (decide (List.getD x.snd.snd.fst (Int.toNat a.snd.fst) (0 : Int) < (0 : Int)) = false → ∃ (x_1 : Nat), Going x a ∧ (([] : List Nat) = [] ∧ ([] : List Nat) = [] ∧ ([] : List Nat) = [] ∧ True) ∧ (((43 : Nat) = (43 : Nat) ∧ x = (x.fst, x.snd.fst, valsR x a, ())) ∧ ((33 : Nat) = (33 : Nat) ∧ a = a) ∧ ((43 : Nat) = (43 : Nat) ∧ zSR = zSR) ∧ True) ∧ tabD = tabD ∧ True)) ∧ (decide (a.fst = (1 : Int)) = false → ∃ (x_1 : Nat), Going x a ∧ (([] : List Nat) = [] ∧ ([] : List Nat) = [] ∧ ([] : List Nat) = [] ∧ True) ∧ (((43 : Nat) = (43 : Nat) ∧ x = (x.fst, x.snd.fst, valsR x a, ())) ∧ ((33 : Nat) = (33 : Nat) ∧ a = a) ∧ ((43 : Nat) = (43 : Nat) ∧ zSR = zSR) ∧ True) ∧ tabD = tabD ∧ True)) ∧ ∀ (x_1 : Nat), Going x a → x.snd.fst.length ≤ (1000000000 : Nat) ∧ (∃ (x_2 : Nat), (x_2 ≤ x.fst.toNat ∧ Going x a) ∧ (([] : List Nat) = [] ∧ ([] : List Nat) = [] ∧ ([] : List Nat) = [] ∧ (0 : Int) = (loopR x a x_2).fst ∧ True ∧ (0 : Int) = (↑x_2 : Int) ∧ True) ∧ (((43 : Nat) = (43 : Nat) ∧ (x.fst, x.snd.fst, valsR x a, ()) = (x.fst, x.snd.fst, valsR x a, ())) ∧ ((33 : Nat) = (33 : Nat) ∧ a = a) ∧ ((43 : Nat) = (43 : Nat) ∧ zSR = zSR) ∧ ((75 : Nat) = (75 : Nat) ∧ x.snd.fst = (loopR x a x_2).snd) ∧ True) ∧ tabD = tabD ∧ True) ∧ ∀ (x_2 : Nat), x_2 ≤ x.fst.toNat ∧ Going x a → (decide ((↑x_2 : Int) < x.fst) = true → True ∧ True ∧ ((!bitB a.snd.snd.snd.fst (↑x_2 : Int)) = true → inK IntKind.i64 ((↑x_2 : Int) + (1 : Int)) ∧ ∃ (x_3 : Nat), (x_3 ≤ x.fst.toNat ∧ Going x a) ∧ x.fst.toNat - x_3 < x.fst.toNat - x_2 ∧ (([] : List Nat) = [] ∧ ([] : List Nat) = [] ∧ ([] : List Nat) = [] ∧ (loopR x a x_2).fst = (loopR x a x_3).fst ∧ True ∧ (↑x_2 : Int) + (1 : Int) = (↑x_3 : Int) ∧ True) ∧ (((43 : Nat) = (43 : Nat) ∧ (x.fst, x.snd.fst, valsR x a, ()) = (x.fst, x.snd.fst, valsR x a, ())) ∧ ((33 : Nat) = (33 : Nat) ∧ a = a) ∧ ((43 : Nat) = (43 : Nat) ∧ zSR = zSR) ∧ ((75 : Nat) = (75 : Nat) ∧ (loopR x a x_2).snd = (loopR x a x_3).snd) ∧ True) ∧ tabD = tabD ∧ True) ∧ ((!bitB a.snd.snd.snd.fst (↑x_2 : Int)) = false → (decide (a.fst = (0 : Int)) = true → (decide (a.snd.fst ≤ (memR x.snd.fst (↑x_2 : Int)).fst) = true → inK IntKind.i64 ((↑x_2 : Int) + (1 : Int)) ∧ ∃ (x_3 : Nat), (x_3 ≤ x.fst.toNat ∧ Going x a) ∧ x.fst.toNat - x_3 < x.fst.toNat - x_2 ∧ (([] : List Nat) = [] ∧ ([] : List Nat) = [] ∧ ([] : List Nat) = [] ∧ (loopR x a x_2).fst = (loopR x a x_3).fst ∧ True ∧ (↑x_2 : Int) + (1 : Int) = (↑x_3 : Int) ∧ True) ∧ (((43 : Nat) = (43 : Nat) ∧ (x.fst, x.snd.fst, valsR x a, ()) = (x.fst, x.snd.fst, valsR x a, ())) ∧ ((33 : Nat) = (33 : Nat) ∧ a = a) ∧ ((43 : Nat) = (43 : Nat) ∧ zSR = zSR) ∧ ((75 : Nat) = (75 : Nat) ∧ (loopR x a x_2).snd = (loopR x a x_3).snd) ∧ True) ∧ tabD = tabD ∧ True) ∧ (decide (a.snd.fst ≤ (memR x.snd.fst (↑x_2 : Int)).fst) = false → (decide (a.fst = (1 : Int)) = true → (decide (a.snd.fst < (memR x.snd.fst (↑x_2 : Int)).fst) = true → inK IntKind.i64 ((↑x_2 : Int) + (1 : Int)) ∧ ∃ (x_3 : Nat), (x_3 ≤ x.fst.toNat ∧ Going x a) ∧ x.fst.toNat - x_3 < x.fst.toNat - x_2 ∧ (([] : List Nat) = [] ∧ ([] : List Nat) = [] ∧ ([] : List Nat) = [] ∧ (loopR x a x_2).fst = (loopR x a x_3).fst ∧ True ∧ (↑x_2 : Int) + (1 : Int) = (↑x_3 : Int) ∧ True) ∧ (((43 : Nat) = (43 : Nat) ∧ (x.fst, x.snd.fst, valsR x a, ()) = (x.fst, x.snd.fst, valsR x a, ())) ∧ ((33 : Nat) = (33 : Nat) ∧ a = a) ∧ ((43 : Nat) = (43 : Nat) ∧ zSR = zSR) ∧ ((75 : Nat) = (75 : Nat) ∧ (loopR x a x_2).snd = (loopR x a x_3).snd) ∧ True) ∧ tabD = tabD ∧ True) ∧ (decide (a.snd.fst < (memR x.snd.fst (↑x_2 : Int)).fst) = false → ((↑x_2 : Int) ≤ (61 : Int) ∧ True) ∧ inK IntKind.i64 ((loopR x a x_2).fst + (2 : Int) ^ (↑x_2 : Int).toNat) ∧ (decide (a.fst = (0 : Int)) = true → (loopR x a x_2).snd.length + ((List.replicate (1 : Nat) ((0 : Int), (0 : Int), (0 : Int), (0 : Int), (0 : Int), ())).set (0 : Nat) ((0 : Int), a.snd.fst, (↑x_2 : Int), (memR x.snd.fst (↑x_2 : Int)).snd.fst, (memR x.snd.fst (↑x_2 : Int)).snd.snd, ())).length ≤ (1000000000 : Nat) ∧ inK IntKind.i64 ((↑x_2 : Int) + (1 : Int)) ∧ ∃ (x_3 : Nat), (x_3 ≤ x.fst.toNat ∧ Going x a) ∧ x.fst.toNat - x_3 < x.fst.toNat - x_2 ∧ (([] : List Nat) = [] ∧ ([] : List Nat) = [] ∧ ([] : List Nat) = [] ∧ (loopR x a x_2).fst + (2 : Int) ^ (↑x_2 : Int).toNat = (loopR x a x_3).fst ∧ True ∧ (↑x_2 : Int) + (1 : Int) = (↑x_3 : Int) ∧ True) ∧ (((43 : Nat) = (43 : Nat) ∧ (x.fst, x.snd.fst, valsR x a, ()) = (x.fst, x.snd.fst, valsR x a, ())) ∧ ((33 : Nat) = (33 : Nat) ∧ a = a) ∧ ((43 : Nat) = (43 : Nat) ∧ zSR = zSR) ∧ ((75 : Nat) = (75 : Nat) ∧ (loopR x a x_2).snd.append ((List.replicate (1 : Nat) ((0 : Int), (0 : Int), (0 : Int), (0 : Int), (0 : Int), ())).set (0 : Nat) ((0 : Int), a.snd.fst, (↑x_2 : Int), (memR x.snd.fst (↑x_2 : Int)).snd.fst, (memR x.snd.fst (↑x_2 : Int)).snd.snd, ())) = (loopR x a x_3).snd) ∧ True) ∧ tabD = tabD ∧ True) ∧ (decide (a.fst = (0 : Int)) = false → ((0 : Int) ≤ a.snd.fst ∧ a.snd.fst < (↑(valsR x a).length : Int) ∧ True) ∧ (loopR x a x_2).snd.length + ((List.replicate (1 : Nat) ((0 : Int), (0 : Int), (0 : Int), (0 : Int), (0 : Int), ())).set (0 : Nat) ((1 : Int), a.snd.fst, (↑x_2 : Int), (0 : Int), (valsR x a).getD (Int.toNat a.snd.fst) (0 : Int), ())).length ≤ (1000000000 : Nat) ∧ inK IntKind.i64 ((↑x_2 : Int) + (1 : Int)) ∧ ∃ (x_3 : Nat), (x_3 ≤ x.fst.toNat ∧ Going x a) ∧ x.fst.toNat - x_3 < x.fst.toNat - x_2 ∧ (([] : List Nat) = [] ∧ ([] : List Nat) = [] ∧ ([] : List Nat) = [] ∧ (loopR x a x_2).fst + (2 : Int) ^ (↑x_2 : Int).toNat = (loopR x a x_3).fst ∧ True ∧ (↑x_2 : Int) + (1 : Int) = (↑x_3 : Int) ∧ True) ∧ (((43 : Nat) = (43 : Nat) ∧ (x.fst, x.snd.fst, valsR x a, ()) = (x.fst, x.snd.fst, valsR x a, ())) ∧ ((33 : Nat) = (33 : Nat) ∧ a = a) ∧ ((43 : Nat) = (43 : Nat) ∧ zSR = zSR) ∧ ((75 : Nat) = (75 : Nat) ∧ (loopR x a x_2).snd.append ((List.replicate (1 : Nat) ((0 : Int), (0 : Int), (0 : Int), (0 : Int), (0 : Int), ())).set (0 : Nat) ((1 : Int), a.snd.fst, (↑x_2 : Int), (0 : Int), (valsR x a).getD (Int.toNat a.snd.fst) (0 : Int), ())) = (loopR x a x_3).snd) ∧ True) ∧ tabD = tabD ∧ True))) ∧ (decide (a.fst = (1 : Int)) = false → ((↑x_2 : Int) ≤ (61 : Int) ∧ True) ∧ inK IntKind.i64 ((loopR x a x_2).fst + (2 : Int) ^ (↑x_2 : Int).toNat) ∧ (decide (a.fst = (0 : Int)) = true → (loopR x a x_2).snd.length + ((List.replicate (1 : Nat) ((0 : Int), (0 : Int), (0 : Int), (0 : Int), (0 : Int), ())).set (0 : Nat) ((0 : Int), a.snd.fst, (↑x_2 : Int), (memR x.snd.fst (↑x_2 : Int)).snd.fst, (memR x.snd.fst (↑x_2 : Int)).snd.snd, ())).length ≤ (1000000000 : Nat) ∧ inK IntKind.i64 ((↑x_2 : Int) + (1 : Int)) ∧ ∃ (x_3 : Nat), (x_3 ≤ x.fst.toNat ∧ Going x a) ∧ x.fst.toNat - x_3 < x.fst.toNat - x_2 ∧ (([] : List Nat) = [] ∧ ([] : List Nat) = [] ∧ ([] : List Nat) = [] ∧ (loopR x a x_2).fst + (2 : Int) ^ (↑x_2 : Int).toNat = (loopR x a x_3).fst ∧ True ∧ (↑x_2 : Int) + (1 : Int) = (↑x_3 : Int) ∧ True) ∧ (((43 : Nat) = (43 : Nat) ∧ (x.fst, x.snd.fst, valsR x a, ()) = (x.fst, x.snd.fst, valsR x a, ())) ∧ ((33 : Nat) = (33 : Nat) ∧ a = a) ∧ ((43 : Nat) = (43 : Nat) ∧ zSR = zSR) ∧ ((75 : Nat) = (75 : Nat) ∧ (loopR x a x_2).snd.append ((List.replicate (1 : Nat) ((0 : Int), (0 : Int), (0 : Int), (0 : Int), (0 : Int), ())).set (0 : Nat) ((0 : Int), a.snd.fst, (↑x_2 : Int), (memR x.snd.fst (↑x_2 : Int)).snd.fst, (memR x.snd.fst (↑x_2 : Int)).snd.snd, ())) = (loopR x a x_3).snd) ∧ True) ∧ tabD = tabD ∧ True) ∧ (decide (a.fst = (0 : Int)) = false → ((0 : Int) ≤ a.snd.fst ∧ a.snd.fst < (↑(valsR x a).length : Int) ∧ True) ∧ (loopR x a x_2).snd.length + ((List.replicate (1 : Nat) ((0 : Int), (0 : Int), (0 : Int), (0 : Int), (0 : Int), ())).set (0 : Nat) ((1 : Int), a.snd.fst, (↑x_2 : Int), (0 : Int), (valsR x a).getD (Int.toNat a.snd.fst) (0 : Int), ())).length ≤ (1000000000 : Nat) ∧ inK IntKind.i64 ((↑x_2 : Int) + (1 : Int)) ∧ ∃ (x_3 : Nat), (x_3 ≤ x.fst.toNat ∧ Going x a) ∧ x.fst.toNat - x_3 < x.fst.toNat - x_2 ∧ (([] : List Nat) = [] ∧ ([] : List Nat) = [] ∧ ([] : List Nat) = [] ∧ (loopR x a x_2).fst + (2 : Int) ^ (↑x_2 : Int).toNat = (loopR x a x_3).fst ∧ True ∧ (↑x_2 : Int) + (1 : Int) = (↑x_3 : Int) ∧ True) ∧ (((43 : Nat) = (43 : Nat) ∧ (x.fst, x.snd.fst, valsR x a, ()) = (x.fst, x.snd.fst, valsR x a, ())) ∧ ((33 : Nat) = (33 : Nat) ∧ a = a) ∧ ((43 : Nat) = (43 : Nat) ∧ zSR = zSR) ∧ ((75 : Nat) = (75 : Nat) ∧ (loopR x a x_2).snd.append ((List.replicate (1 : Nat) ((0 : Int), (0 : Int), (0 : Int), (0 : Int), (0 : Int), ())).set (0 : Nat) ((1 : Int), a.snd.fst, (↑x_2 : Int), (0 : Int), (valsR x a).getD (Int.toNat a.snd.fst) (0 : Int), ())) = (loopR x a x_3).snd) ∧ True) ∧ tabD = tabD ∧ True)))) ∧ (decide (a.fst = (0 : Int)) = false → (decide (a.fst = (1 : Int)) = true → (decide (a.snd.fst < (memR x.snd.fst (↑x_2 : Int)).fst) = true → inK IntKind.i64 ((↑x_2 : Int) + (1 : Int)) ∧ ∃ (x_3 : Nat), (x_3 ≤ x.fst.toNat ∧ Going x a) ∧ x.fst.toNat - x_3 < x.fst.toNat - x_2 ∧ (([] : List Nat) = [] ∧ ([] : List Nat) = [] ∧ ([] : List Nat) = [] ∧ (loopR x a x_2).fst = (loopR x a x_3).fst ∧ True ∧ (↑x_2 : Int) + (1 : Int) = (↑x_3 : Int) ∧ True) ∧ (((43 : Nat) = (43 : Nat) ∧ (x.fst, x.snd.fst, valsR x a, ()) = (x.fst, x.snd.fst, valsR x a, ())) ∧ ((33 : Nat) = (33 : Nat) ∧ a = a) ∧ ((43 : Nat) = (43 : Nat) ∧ zSR = zSR) ∧ ((75 : Nat) = (75 : Nat) ∧ (loopR x a x_2).snd = (loopR x a x_3).snd) ∧ True) ∧ tabD = tabD ∧ True) ∧ (decide (a.snd.fst < (memR x.snd.fst (↑x_2 : Int)).fst) = false → ((↑x_2 : Int) ≤ (61 : Int) ∧ True) ∧ inK IntKind.i64 ((loopR x a x_2).fst + (2 : Int) ^ (↑x_2 : Int).toNat) ∧ (decide (a.fst = (0 : Int)) = true → (loopR x a x_2).snd.length + ((List.replicate (1 : Nat) ((0 : Int), (0 : Int), (0 : Int), (0 : Int), (0 : Int), ())).set (0 : Nat) ((0 : Int), a.snd.fst, (↑x_2 : Int), (memR x.snd.fst (↑x_2 : Int)).snd.fst, (memR x.snd.fst (↑x_2 : Int)).snd.snd, ())).length ≤ (1000000000 : Nat) ∧ inK IntKind.i64 ((↑x_2 : Int) + (1 : Int)) ∧ ∃ (x_3 : Nat), (x_3 ≤ x.fst.toNat ∧ Going x a) ∧ x.fst.toNat - x_3 < x.fst.toNat - x_2 ∧ (([] : List Nat) = [] ∧ ([] : List Nat) = [] ∧ ([] : List Nat) = [] ∧ (loopR x a x_2).fst + (2 : Int) ^ (↑x_2 : Int).toNat = (loopR x a x_3).fst ∧ True ∧ (↑x_2 : Int) + (1 : Int) = (↑x_3 : Int) ∧ True) ∧ (((43 : Nat) = (43 : Nat) ∧ (x.fst, x.snd.fst, valsR x a, ()) = (x.fst, x.snd.fst, valsR x a, ())) ∧ ((33 : Nat) = (33 : Nat) ∧ a = a) ∧ ((43 : Nat) = (43 : Nat) ∧ zSR = zSR) ∧ ((75 : Nat) = (75 : Nat) ∧ (loopR x a x_2).snd.append ((List.replicate (1 : Nat) ((0 : Int), (0 : Int), (0 : Int), (0 : Int), (0 : Int), ())).set (0 : Nat) ((0 : Int), a.snd.fst, (↑x_2 : Int), (memR x.snd.fst (↑x_2 : Int)).snd.fst, (memR x.snd.fst (↑x_2 : Int)).snd.snd, ())) = (loopR x a x_3).snd) ∧ True) ∧ tabD = tabD ∧ True) ∧ (decide (a.fst = (0 : Int)) = false → ((0 : Int) ≤ a.snd.fst ∧ a.snd.fst < (↑(valsR x a).length : Int) ∧ True) ∧ (loopR x a x_2).snd.length + ((List.replicate (1 : Nat) ((0 : Int), (0 : Int), (0 : Int), (0 : Int), (0 : Int), ())).set (0 : Nat) ((1 : Int), a.snd.fst, (↑x_2 : Int), (0 : Int), (valsR x a).getD (Int.toNat a.snd.fst) (0 : Int), ())).length ≤ (1000000000 : Nat) ∧ inK IntKind.i64 ((↑x_2 : Int) + (1 : Int)) ∧ ∃ (x_3 : Nat), (x_3 ≤ x.fst.toNat ∧ Going x a) ∧ x.fst.toNat - x_3 < x.fst.toNat - x_2 ∧ (([] : List Nat) = [] ∧ ([] : List Nat) = [] ∧ ([] : List Nat) = [] ∧ (loopR x a x_2).fst + (2 : Int) ^ (↑x_2 : Int).toNat = (loopR x a x_3).fst ∧ True ∧ (↑x_2 : Int) + (1 : Int) = (↑x_3 : Int) ∧ True) ∧ (((43 : Nat) = (43 : Nat) ∧ (x.fst, x.snd.fst, valsR x a, ()) = (x.fst, x.snd.fst, valsR x a, ())) ∧ ((33 : Nat) = (33 : Nat) ∧ a = a) ∧ ((43 : Nat) = (43 : Nat) ∧ zSR = zSR) ∧ ((75 : Nat) = (75 : Nat) ∧ (loopR x a x_2).snd.append ((List.replicate (1 : Nat) ((0 : Int), (0 : Int), (0 : Int), (0 : Int), (0 : Int), ())).set (0 : Nat) ((1 : Int), a.snd.fst, (↑x_2 : Int), (0 : Int), (valsR x a).getD (Int.toNat a.snd.fst) (0 : Int), ())) = (loopR x a x_3).snd) ∧ True) ∧ tabD = tabD ∧ True))) ∧ (decide (a.fst = (1 : Int)) = false → ((↑x_2 : Int) ≤ (61 : Int) ∧ True) ∧ inK IntKind.i64 ((loopR x a x_2).fst + (2 : Int) ^ (↑x_2 : Int).toNat) ∧ (decide (a.fst = (0 : Int)) = true → (loopR x a x_2).snd.length + ((List.replicate (1 : Nat) ((0 : Int), (0 : Int), (0 : Int), (0 : Int), (0 : Int), ())).set (0 : Nat) ((0 : Int), a.snd.fst, (↑x_2 : Int), (memR x.snd.fst (↑x_2 : Int)).snd.fst, (memR x.snd.fst (↑x_2 : Int)).snd.snd, ())).length ≤ (1000000000 : Nat) ∧ inK IntKind.i64 ((↑x_2 : Int) + (1 : Int)) ∧ ∃ (x_3 : Nat), (x_3 ≤ x.fst.toNat ∧ Going x a) ∧ x.fst.toNat - x_3 < x.fst.toNat - x_2 ∧ (([] : List Nat) = [] ∧ ([] : List Nat) = [] ∧ ([] : List Nat) = [] ∧ (loopR x a x_2).fst + (2 : Int) ^ (↑x_2 : Int).toNat = (loopR x a x_3).fst ∧ True ∧ (↑x_2 : Int) + (1 : Int) = (↑x_3 : Int) ∧ True) ∧ (((43 : Nat) = (43 : Nat) ∧ (x.fst, x.snd.fst, valsR x a, ()) = (x.fst, x.snd.fst, valsR x a, ())) ∧ ((33 : Nat) = (33 : Nat) ∧ a = a) ∧ ((43 : Nat) = (43 : Nat) ∧ zSR = zSR) ∧ ((75 : Nat) = (75 : Nat) ∧ (loopR x a x_2).snd.append ((List.replicate (1 : Nat) ((0 : Int), (0 : Int), (0 : Int), (0 : Int), (0 : Int), ())).set (0 : Nat) ((0 : Int), a.snd.fst, (↑x_2 : Int), (memR x.snd.fst (↑x_2 : Int)).snd.fst, (memR x.snd.fst (↑x_2 : Int)).snd.snd, ())) = (loopR x a x_3).snd) ∧ True) ∧ tabD = tabD ∧ True) ∧ (decide (a.fst = (0 : Int)) = false → ((0 : Int) ≤ a.snd.fst ∧ a.snd.fst < (↑(valsR x a).length : Int) ∧ True) ∧ (loopR x a x_2).snd.length + ((List.replicate (1 : Nat) ((0 : Int), (0 : Int), (0 : Int), (0 : Int), (0 : Int), ())).set (0 : Nat) ((1 : Int), a.snd.fst, (↑x_2 : Int), (0 : Int), (valsR x a).getD (Int.toNat a.snd.fst) (0 : Int), ())).length ≤ (1000000000 : Nat) ∧ inK IntKind.i64 ((↑x_2 : Int) + (1 : Int)) ∧ ∃ (x_3 : Nat), (x_3 ≤ x.fst.toNat ∧ Going x a) ∧ x.fst.toNat - x_3 < x.fst.toNat - x_2 ∧ (([] : List Nat) = [] ∧ ([] : List Nat) = [] ∧ ([] : List Nat) = [] ∧ (loopR x a x_2).fst + (2 : Int) ^ (↑x_2 : Int).toNat = (loopR x a x_3).fst ∧ True ∧ (↑x_2 : Int) + (1 : Int) = (↑x_3 : Int) ∧ True) ∧ (((43 : Nat) = (43 : Nat) ∧ (x.fst, x.snd.fst, valsR x a, ()) = (x.fst, x.snd.fst, valsR x a, ())) ∧ ((33 : Nat) = (33 : Nat) ∧ a = a) ∧ ((43 : Nat) = (43 : Nat) ∧ zSR = zSR) ∧ ((75 : Nat) = (75 : Nat) ∧ (loopR x a x_2).snd.append ((List.replicate (1 : Nat) ((0 : Int), (0 : Int), (0 : Int), (0 : Int), (0 : Int), ())).set (0 : Nat) ((1 : Int), a.snd.fst, (↑x_2 : Int), (0 : Int), (valsR x a).getD (Int.toNat a.snd.fst) (0 : Int), ())) = (loopR x a x_3).snd) ∧ True) ∧ tabD = tabD ∧ True))))) ∧ (decide ((↑x_2 : Int) < x.fst) = false → k [Dat.mk ((I).pr (((I).pr ((I).pr ((I).pr ((I).pr ((I).pr Ty.un))))).sl.pr ((I).sl.pr Ty.un))) (x.fst, (loopR x a x_2).snd, valsR x a, ()), Dat.mk (I) (loopR x a x_2).fst, Dat.mk (I) (0 : Int)])))))) := by kernel_rfl
end Go.Proofs.YtdpnakebhpecfaaDoor

/- Synods: the reference's functions keep their contracts. -/
namespace Go.Proofs.YtdpnakebhpecfaaDoor.P
open Go.Vc Go.Proofs.YtdpnakebhpecfaaDoor.V
theorem okBit : PlainOk Tryd.prog glT 34 P.cBit := by
  refine plain_of (CxOk.mk' Eo_ok rfl mixed (gl := glT) GOk.nil GoOk.nil noIt) Tryd.func34 (c := Tryd.f34.body.getD .skip) (rvs := [(.tmp 4, .bool)]) (by kernel_rfl) (by kernel_rfl) (by kernel_rfl) ?_
  intro ds k ⟨hp, hk⟩ hwf
  obtain ⟨s, i, rfl, -⟩ := dest2 hp
  have hk : k [⟨.bool, bitB s i⟩] := hk
  have hs : inK .i64 s := (wf2 hwf).1
  have hi := inK_i64.1 ((wf2 hwf).2 : inK .i64 i)
  refine ⟨anBit s i, ?_⟩
  rw [vcBitR]
  simp only [decide_eq_true_eq, decide_eq_false_iff_not, and_true, true_and, Bool.not_eq_true', Bool.not_eq_false', ne_eq]
  have ret : ∀ x : Nat, bitB s x = bitB s i → k [⟨.bool, decide ((s.tdiv ((2 : Int) ^ x)).tmod 2 = 1)⟩] := by
    intro x hx; rw [bit_of, hx]; exact hk
  refine ⟨⟨0, by omega, by simp, rfl⟩, fun x hx => ⟨fun h => ⟨fun h0 => ⟨by decide, ?_, by rw [inK_i64]; omega, x + 1, by omega, by omega, tdiv_pow s x, by omega⟩, fun h0 => ⟨by decide, (tdiv_in hs x).2, ret x ?_⟩⟩, fun h => ⟨by decide, (tdiv_in hs x).2, ret x ?_⟩⟩⟩
  · rw [tdiv_pow]; exact (tdiv_in hs (x + 1)).1
  · unfold bitB
    by_cases hs0 : 0 ≤ s
    · obtain ⟨n, hn⟩ := Int.eq_ofNat_of_zero_le hs0
      rw [hn, tdivN] at h0
      have h0' : n / 2 ^ x = 0 := by exact_mod_cast h0
      have hlt : n < 2 ^ x := by
        rcases Nat.lt_or_ge n (2 ^ x) with h | h
        · exact h
        · have := Nat.div_pos h (Nat.two_pow_pos x); omega
      have hf : ∀ j, x ≤ j → n.testBit j = false := fun j hj => Nat.testBit_lt_two_pow (Nat.lt_of_lt_of_le hlt (Nat.pow_le_pow_right (by decide) hj))
      have e1 : s.toNat = n := by rw [hn]; rfl
      rw [e1, hf _ (by rw [Int.toNat_natCast]; exact Nat.le_refl _), hf _ (by omega)]
    · have : decide (0 ≤ s) = false := by simpa using hs0
      rw [this]; rfl
  · have : (x : Int).toNat = i.toNat := by omega
    unfold bitB; rw [this]
theorem or_pow_in {s i : Nat} (h : s.testBit i = true) : s ||| 2 ^ i = s := by
  refine Nat.eq_of_testBit_eq fun k => ?_
  rw [Nat.testBit_or, Nat.testBit_two_pow]
  by_cases hk : i = k
  · subst hk; rw [h]; rfl
  · simp [hk]
theorem or_pow_out {s i : Nat} (h : s.testBit i = false) : s ||| 2 ^ i = s + 2 ^ i := by
  have h1 := or_and_add s (2 ^ i)
  have h2 : s &&& 2 ^ i = 0 := by
    refine Nat.eq_of_testBit_eq fun k => ?_
    rw [Nat.testBit_and, Nat.testBit_two_pow, Nat.zero_testBit]
    by_cases hk : i = k
    · subst hk; rw [h]; rfl
    · simp [hk]
  omega
theorem okInR : PlainOk Tryd.prog glT 31 cWithin := by
  refine plain_of (CxOk.mk' Eo_ok rfl mixed (gl := glT) GOk.nil GoOk.nil noIt) Tryd.func31 (c := Tryd.f31.body.getD .skip) (rvs := [(.tmp 6, .bool)]) (by kernel_rfl) (by kernel_rfl) (by kernel_rfl) ?_
  intro ds k ⟨hp, hk⟩ hwf
  obtain ⟨a, b, c, rfl, -⟩ := dest3 hp
  have hk : k [⟨.bool, Go.Proofs.YtdpnakebhpecfaaDoor.inB a b c⟩] := hk
  refine ⟨[joinAll], ?_⟩
  rw [vcInR]
  unfold Go.Proofs.YtdpnakebhpecfaaDoor.inB at hk
  refine ⟨fun h => ?_, fun h => ?_⟩ <;> simpa [h] using hk
theorem okMaskR : PlainOk Tryd.prog glT 32 cMaskR := by
  refine plain_of (CxOk.mk' Eo_ok rfl mixed (gl := glT) (GOk.cons okPow2 Tryd.func12 (by kernel_rfl) (by kernel_rfl) GOk.nil) GoOk.nil noIt) Tryd.func32 (c := Tryd.f32.body.getD .skip) (rvs := [(.tmp 4, .bool)]) (by kernel_rfl) (by kernel_rfl) (by kernel_rfl) ?_
  intro ds k ⟨hp, hk⟩ hwf
  obtain ⟨s, n, rfl, hn, -⟩ := dest2 hp
  have hk : k [⟨.bool, maskB s n⟩] := hk
  refine ⟨[joinAll], ?_⟩
  rw [vcMaskR]
  unfold maskB at hk
  refine ⟨fun h => ⟨⟨hn, trivial⟩, ?_⟩, fun h => ?_⟩ <;> simpa [h] using hk
theorem okWith : PlainOk Tryd.prog glT 41 cWith := by
  refine plain_of (CxOk.mk' Eo_ok rfl mixed (gl := glT) (GOk.cons okBit Tryd.func34 (by kernel_rfl) (by kernel_rfl) (GOk.cons okPow2 Tryd.func12 (by kernel_rfl) (by kernel_rfl) GOk.nil)) GoOk.nil noIt) Tryd.func41 (c := Tryd.f41.body.getD .skip) (rvs := [(.tmp 4, I)]) (by kernel_rfl) (by kernel_rfl) (by kernel_rfl) ?_
  intro ds k ⟨hp, hk⟩ hwf
  obtain ⟨a, i, rfl, ⟨ha, ha'⟩, hi, hi'⟩ := dest2 hp
  have hk : k [⟨I, withM a i⟩] := hk
  obtain ⟨m, rfl⟩ := Int.eq_ofNat_of_zero_le ha
  obtain ⟨n, rfl⟩ := Int.eq_ofNat_of_zero_le hi
  unfold withM at hk
  rw [Int.one_mul, powC] at hk
  simp only [Int.toNat_natCast] at hk
  refine ⟨[], ?_⟩
  rw [vcWithR, bitB_nat]
  have h2 := two_pow_le (n := n) (by omega)
  have h3 := two_pow_pos n
  refine ⟨trivial, fun h => ?_, fun h => ⟨⟨by omega, trivial⟩, ?_, ?_⟩⟩
  · rw [or_pow_in h] at hk; exact hk
  · rw [Int.toNat_natCast, inK_i64]; omega
  · rw [or_pow_out h, Int.natCast_add, Int.natCast_pow] at hk; exact hk
theorem ofR_zero (b a : Int) : ofR [] b a = 0 := rfl
theorem ofR_snoc (l : List Dn) (b a : Int) (d : Dn) : ofR (l ++ [d]) b a = of1 b a (ofR l b a) d := by
  unfold ofR; rw [List.foldl_append]; rfl
theorem ofR_bd {l : List Dn} (h : whoP l) (b a : Int) : 0 ≤ ofR l b a ∧ ofR l b a < 256 := by
  have : ∀ (l : List Dn) (z : Int), whoP l → (0 ≤ z ∧ z < 2 ^ 8) → 0 ≤ l.foldl (of1 b a) z ∧ l.foldl (of1 b a) z < 2 ^ 8 := by
    intro l
    induction l with
    | nil => intro z _ h; exact h
    | cons d r ih =>
      intro z h hz
      rw [List.foldl_cons]
      refine ih _ (fun x hx => h x (.tail _ hx)) ?_
      unfold of1
      split
      · have hd := h d (.head _)
        exact withM_lt (m := 8) hz ⟨hd.1, by omega⟩
      · exact hz
  exact this l 0 h ⟨Int.le_refl _, by decide⟩
theorem whoP_take {l : List Dn} (h : whoP l) (k : Nat) : whoP (l.take k) := fun d hd => h d (List.mem_of_mem_take hd)
theorem okOf : PlainOk Tryd.prog glT 33 cOf := by
  refine plain_of (CxOk.mk' Eo_ok rfl mixed (gl := glT) (GOk.cons okWith Tryd.func41 (by kernel_rfl) (by kernel_rfl) GOk.nil) GoOk.nil noIt) Tryd.func33 (c := Tryd.f33.body.getD .skip) (rvs := [(.tmp 6, I)]) (by kernel_rfl) (by kernel_rfl) (by kernel_rfl) ?_
  intro ds k ⟨hp, hk⟩ hwf
  obtain ⟨x, b, a, rfl, hw⟩ := dest3 hp
  have hk : k [⟨I, ofR x.2.1 b a⟩] := hk
  have hln : x.2.1.length ≤ maxLen := (wf3 hwf).1.2.1.1
  have hml : maxLen ≤ 9223372036854775807 := by decide
  refine ⟨anOf x b a, ?_⟩
  revert hw hk hln
  generalize hx : x.2.1 = l
  intro hw hk hln
  obtain ⟨n, l', v, u⟩ := x
  simp only at hx
  subst hx
  rw [vcOfR]
  simp only [and_true, true_and, eq_self, Int.toNat_natCast, decide_eq_true_eq, decide_eq_false_iff_not]
  refine ⟨⟨0, by omega, by rw [List.take_zero]; rfl, rfl⟩, fun i hi => ⟨fun h1 => ?_, fun h1 => ?_⟩⟩
  · have h1 : i < List.length l' := by omega
    have hs : ofR (List.take (i + 1) l') b a = of1 b a (ofR (List.take i l') b a) (List.getD l' i zD) := by
      rw [Go.Proofs.YtdpnakebhpecfaaDoor.take_snoc zD h1, ofR_snoc]
    have hm : 0 ≤ (List.getD l' i (0, 0, 0, 0, 0, ())).2.2.1 ∧ (List.getD l' i (0, 0, 0, 0, 0, ())).2.2.1 < 8 := hw _ (Go.Proofs.YtdpnakebhpecfaaDoor.getD_mem (z := zD) h1)
    have hb := ofR_bd (whoP_take hw i) b a
    unfold of1 at hs
    refine ⟨by omega, by omega, fun h2 => ⟨by omega, by omega, fun h3 => ⟨by omega, by omega, ⟨⟨hb.1, by omega⟩, hm.1, Int.le_trans (Int.le_of_lt hm.2) (by decide)⟩, inK_i64.2 (by omega), i + 1, by omega, by omega, ?_, by omega⟩, fun h3 => ⟨inK_i64.2 (by omega), i + 1, by omega, by omega, ?_, by omega⟩⟩, fun h2 => ⟨inK_i64.2 (by omega), i + 1, by omega, by omega, ?_, by omega⟩⟩
    · rw [hs, if_pos ⟨h2, h3⟩]
    · rw [hs, if_neg (fun h => h3 h.2)]
    · rw [hs, if_neg (fun h => h2 h.1)]
  · rw [List.take_of_length_le (by omega)]; exact hk
theorem memR_snoc (l : List Dn) (i : Int) (d : Dn) : memR (l ++ [d]) i = mem1 i (memR l i) d := by
  unfold memR; rw [List.foldl_append]; rfl
theorem okMemR : PlainOk Tryd.prog glT 17 cMemR := by
  refine plain_of (CxOk.mk' Eo_ok rfl mixed (gl := glT) GOk.nil GoOk.nil noIt) Tryd.func17 (c := Tryd.f17.body.getD .skip) (rvs := [(.tmp 4, I), (.tmp 5, I), (.tmp 6, I)]) (by kernel_rfl) (by kernel_rfl) (by kernel_rfl) ?_
  intro ds k ⟨hp, hk⟩ hwf
  obtain ⟨x, j, rfl, -⟩ := dest2 hp
  obtain ⟨n, l, v, u⟩ := x
  have hk : k [⟨I, (memR l j).1⟩, ⟨I, (memR l j).2.1⟩, ⟨I, (memR l j).2.2⟩] := hk
  have hln : List.length l ≤ maxLen := (wf2 hwf).1.2.1.1
  have hml : maxLen ≤ 9223372036854775807 := by decide
  refine ⟨anMemR (n, l, v, u) j, ?_⟩
  rw [vcMemR]
  simp only [and_true, true_and, eq_self, Int.toNat_natCast, decide_eq_true_eq, decide_eq_false_iff_not, Bool.not_eq_true', Bool.not_eq_false']
  refine ⟨⟨0, by omega, by rw [List.take_zero]; rfl, by rw [List.take_zero]; rfl, by rw [List.take_zero]; rfl, rfl⟩, fun i hi => ⟨fun h1 => ?_, fun h1 => ?_⟩⟩
  · have h1 : i < List.length l := by omega
    have hs : memR (List.take (i + 1) l) j = mem1 j (memR (List.take i l) j) (List.getD l i zD) := by
      rw [Go.Proofs.YtdpnakebhpecfaaDoor.take_snoc zD h1, memR_snoc]
    unfold mem1 at hs
    refine ⟨by omega, by omega, fun h2 => ?_, fun h2 => ⟨fun h3 => ⟨fun h4 => ?_, fun h4 => ?_⟩, fun h3 => ⟨fun h4 => ?_, fun h4 => ?_⟩⟩⟩
    · rw [if_neg h2] at hs
      exact ⟨inK_i64.2 (by omega), i + 1, by omega, by omega, by rw [hs], by rw [hs], by rw [hs], by omega⟩
    · rw [if_pos h2, if_pos h3, if_pos h4, if_pos h4] at hs
      exact ⟨inK_i64.2 (by omega), i + 1, by omega, by omega, by rw [hs], by rw [hs], by rw [hs], by omega⟩
    · rw [if_pos h2, if_pos h3, if_neg h4, if_neg h4] at hs
      exact ⟨inK_i64.2 (by omega), i + 1, by omega, by omega, by rw [hs], by rw [hs], by rw [hs], by omega⟩
    · rw [if_pos h2, if_neg h3, if_pos h4, if_pos h4] at hs
      exact ⟨inK_i64.2 (by omega), i + 1, by omega, by omega, by rw [hs], by rw [hs], by rw [hs], by omega⟩
    · rw [if_pos h2, if_neg h3, if_neg h4, if_neg h4] at hs
      exact ⟨inK_i64.2 (by omega), i + 1, by omega, by omega, by rw [hs], by rw [hs], by rw [hs], by omega⟩
  · rw [List.take_of_length_le (by omega)]; exact hk
theorem choR_succ (x : SR) (k : Nat) : choR x (k + 1) = choR x k ++ (if moreB x.1 (ofR x.2.1 (k : Int) 1) = true then [x.2.2.1.getD k 0] else []) := by
  unfold choR
  rw [List.range_succ, List.filter_append, List.map_append]
  congr 1
  cases h : moreB x.1 (ofR x.2.1 (k : Int) 1) <;> simp [h]
theorem choR_len (x : SR) (k : Nat) : (choR x k).length ≤ k := by
  unfold choR
  rw [List.length_map]
  exact Nat.le_trans (List.length_filter_le _ _) (by simp)
theorem popN_8 {s : Int} (h0 : 0 ≤ s) (h : s < 256) : popN s.toNat ≤ 8 := by
  have := Go.Proofs.YtdpnakebhpecfaaDoor.popN_le ⟨8, by omega⟩ ⟨s.toNat, by omega⟩ (by show s.toNat < 2 ^ 8; omega)
  exact this
theorem okChoR : PlainOk Tryd.prog glT 19 cChoR := by
  refine plain_of (CxOk.mk' Eo_ok rfl mixed (gl := glT) (GOk.cons okOf Tryd.func33 (by kernel_rfl) (by kernel_rfl) (GOk.cons okManyR Tryd.func22 (by kernel_rfl) (by kernel_rfl) GOk.nil)) GoOk.nil noIt) Tryd.func19 (c := Tryd.f19.body.getD .skip) (rvs := [(.tmp 2, .sl I)]) (by kernel_rfl) (by kernel_rfl) (by kernel_rfl) ?_
  intro ds k ⟨hp, hk⟩ hwf
  obtain ⟨x, rfl, hn, hw, hv⟩ := dest1 hp
  have hk : k [⟨.sl I, choR x 31⟩] := hk
  refine ⟨anChoR x, ?_⟩
  rw [vcChoR]
  have hv : List.length x.snd.snd.fst = 31 := hv
  simp only [and_true, true_and, eq_self, Int.toNat_natCast, decide_eq_true_eq, decide_eq_false_iff_not]
  refine ⟨⟨0, by omega, rfl, rfl⟩, fun i hi => ⟨fun h1 => ?_, fun h1 => ?_⟩⟩
  · have hb := ofR_bd hw (i : Int) 1
    have hp8 := popN_8 hb.1 hb.2
    have hl := choR_len x i
    have hs := choR_succ x i
    refine ⟨⟨hw, hb.2, inK_i64.2 (by omega)⟩, fun h2 => ⟨by omega, by omega, by simp; omega, inK_i64.2 (by omega), i + 1, by omega, by omega, by omega, ?_⟩, fun h2 => ⟨inK_i64.2 (by omega), i + 1, by omega, by omega, by omega, ?_⟩⟩
    · have h3 : moreB x.1 (ofR x.2.1 (i : Int) 1) = true := decide_eq_true h2
      rw [hs, if_pos h3]; rfl
    · rw [hs, if_neg (by unfold moreB; simpa using h2), List.append_nil]
  · have : i = 31 := by omega
    subst this; exact hk
theorem okNewR : PlainOk Tryd.prog glT 15 cNewR := by
  refine plain_of (CxOk.mk' Ep_ok rfl mixed (gl := glT) GOk.nil GoOk.nil noIt) Tryd.func15 (c := Tryd.f15.body.getD .skip) (rvs := [(.cell 2 43, tSR)]) (by kernel_rfl) (by kernel_rfl) (by kernel_rfl) ?_
  intro ds k ⟨hp, hk⟩ hwf
  obtain ⟨n, rfl, -⟩ := dest1 hp
  have hk : k [⟨tSR, newR n⟩] := hk
  refine ⟨anNewR, ?_⟩
  rw [vcNewR]
  simp only [and_true, true_and, eq_self, Int.toNat_natCast, decide_eq_true_eq, decide_eq_false_iff_not, List.length_replicate]
  refine ⟨⟨0, by omega, rfl, rfl⟩, fun i hi => ⟨fun h1 => ⟨by simp; omega, inK_i64.2 (by omega), i + 1, by omega, by omega, by omega, ?_⟩, fun h1 => ?_⟩⟩
  · show List.replicate i (-1 : Int) ++ [-1] = _
    rw [List.replicate_succ']
  · have : i = 31 := by omega
    subst this; exact hk
end Go.Proofs.YtdpnakebhpecfaaDoor.P

/- Synods: what the reference does. -/
namespace Go.Proofs.YtdpnakebhpecfaaDoor.P
open Go.Vc Go.Proofs.YtdpnakebhpecfaaDoor.V
theorem bestR_snoc (l : List Dn) (b v : Int) (d : Dn) : bestR (l ++ [d]) b v = best1 b (bestR l b v) d := by
  unfold bestR; rw [List.foldl_append]; rfl
theorem loopR_len (x : SR) (a : As) : ∀ k, (loopR x a k).2.length ≤ x.2.1.length + k
  | 0 => Nat.le_refl _
  | k + 1 => by
    have ih := loopR_len x a k
    unfold loopR
    split
    · simp only [List.length_append, List.length_singleton]; omega
    · omega
theorem loopR_bd (x : SR) (a : As) : ∀ k, 0 ≤ (loopR x a k).1 ∧ (loopR x a k).1 < 2 ^ k
  | 0 => ⟨Int.le_refl _, by show (0 : Int) < 2 ^ 0; decide⟩
  | k + 1 => by
    have ih := loopR_bd x a k
    have hp := two_pow_pos k
    unfold loopR
    rw [Int.pow_succ]
    split
    · simp only; omega
    · omega
theorem valsR_len (x : SR) (a : As) : (valsR x a).length = x.2.2.1.length := by
  unfold valsR
  split
  · exact List.length_set
  · rfl
theorem doR_vc (n : Int) (l : List Dn) (v : List Int) (a : As) (k : List Dat → Prop) (hs : SrOk (n, l, v, ())) (hl : l.length ≤ 100000) (hk : k [⟨tSR, (doR (n, l, v, ()) a).1⟩, ⟨I, (doR (n, l, v, ()) a).2.1⟩, ⟨I, (doR (n, l, v, ()) a).2.2⟩]) :
    vcF ⟨Eo, [(31, cWithin), (32, cMaskR), (33, cOf), (22, cManyR), (17, cMemR), (34, P.cBit), (12, cPow2)], glT, [], []⟩ (anDoR (n, l, v, ()) a) (Tryd.f16.body.getD .skip) Tryd.f16.ntmps [(.cell 4 43, tSR), (.tmp 5, I), (.tmp 6, I)] [⟨tSR, (n, l, v, ())⟩, ⟨tAs, a⟩] k := by
  rw [vcDoR]
  have hv : List.length v = 31 := hs.v
  have hn : 1 ≤ n ∧ n ≤ 8 := hs.n
  have hw : whoP l := hs.w
  simp only [and_true, true_and, eq_self, Int.toNat_natCast, Bool.not_eq_true', Bool.not_eq_false']
  have bad : okA n.toNat a = false → k [⟨tSR, ((n, l, v, ()) : SR)⟩, ⟨I, (0 : Int)⟩, ⟨I, (1 : Int)⟩] := by
    intro h
    unfold doR at hk
    rw [if_pos h] at hk
    exact hk
  have hkn : ∀ b c d e : Bool, Go.Proofs.YtdpnakebhpecfaaDoor.inB a.1 0 1 = b → Go.Proofs.YtdpnakebhpecfaaDoor.inB a.2.1 0 30 = c → Go.Proofs.YtdpnakebhpecfaaDoor.inB a.2.2.1 0 1000000 = d → maskB a.2.2.2.1 n = e → okA n.toNat a = (b && (c && (d && e))) := by
    rintro _ _ _ _ rfl rfl rfl rfl
    unfold okA maskB
    rw [Int.toNat_natCast]
  refine ⟨fun h => bad ?_, fun h1 => ⟨fun h => bad ?_, fun h2 => ⟨fun h => bad ?_, fun h3 => ⟨by omega, fun h => bad ?_, fun h4 => ?_⟩⟩⟩⟩
  · rw [hkn _ _ _ _ h rfl rfl rfl]; rfl
  · rw [hkn _ _ _ _ h1 h rfl rfl]; rfl
  · rw [hkn _ _ _ _ h1 h2 h rfl]; rfl
  · rw [hkn _ _ _ _ h1 h2 h3 h]; rfl
  have hok : okA n.toNat a = true := by rw [hkn _ _ _ _ h1 h2 h3 h4]; rfl
  have hab : 0 ≤ a.2.1 ∧ a.2.1 ≤ 30 := by unfold Go.Proofs.YtdpnakebhpecfaaDoor.inB at h2; simpa using h2
  have hfin : denyR (n, l, v, ()) a = false → k [⟨tSR, ((n, (loopR (n, l, v, ()) a n.toNat).2, valsR (n, l, v, ()) a, ()) : SR)⟩, ⟨I, (loopR (n, l, v, ()) a n.toNat).1⟩, ⟨I, (0 : Int)⟩] := by
    intro hd
    unfold doR at hk
    rw [if_neg (by rw [hok]; decide), if_neg (by rw [hd]; decide)] at hk
    exact hk
  have hof := ofR_bd hw a.2.1 0
  have hp8 := popN_8 hof.1 hof.2
  refine ⟨⟨fun h5 => ⟨by omega, by omega, fun h6 => ⟨⟨hw, hof.2, inK_i64.2 (by omega)⟩, fun h7 => ?_, fun h7 => ⟨⟨0, by omega, by rw [List.take_zero]; rfl, by rw [List.take_zero]; rfl, rfl⟩, fun i hi => ⟨fun h8 => ?_, fun h8 => ?_⟩⟩⟩, fun h6 => ?_⟩, fun h5 => ?_⟩, fun _ hg => ?_⟩
  · have h5 := of_decide_eq_true h5
    have h6 := of_decide_eq_true h6
    have h7 := of_decide_eq_true h7
    unfold doR at hk
    rw [if_neg (by rw [hok]; decide), if_pos] at hk
    · exact hk
    · unfold denyR moreB
      simp only
      rw [decide_eq_true h5, decide_eq_true h6, decide_eq_false (by omega)]; rfl
  · have h8 : i < l.length := by have := of_decide_eq_true h8; omega
    have hs : bestR (List.take (i + 1) l) a.2.1 a.2.2.1 = best1 a.2.1 (bestR (List.take i l) a.2.1 a.2.2.1) (List.getD l i zD) := by
      rw [Go.Proofs.YtdpnakebhpecfaaDoor.take_snoc zD h8, bestR_snoc]
    unfold best1 at hs
    refine ⟨by omega, by omega, fun h9 => ⟨fun h10 => ⟨fun h11 => ?_, fun h11 => ?_⟩, fun h10 => ?_⟩, fun h9 => ?_⟩
    · rw [if_pos ⟨of_decide_eq_true h9, of_decide_eq_true h10, of_decide_eq_true h11⟩] at hs
      exact ⟨inK_i64.2 (by omega), i + 1, by omega, by omega, by rw [hs], by rw [hs], by omega⟩
    · rw [if_neg (fun h => of_decide_eq_false h11 h.2.2)] at hs
      exact ⟨inK_i64.2 (by omega), i + 1, by omega, by omega, by rw [hs], by rw [hs], by omega⟩
    · rw [if_neg (fun h => of_decide_eq_false h10 h.2.1)] at hs
      exact ⟨inK_i64.2 (by omega), i + 1, by omega, by omega, by rw [hs], by rw [hs], by omega⟩
    · rw [if_neg (fun h => of_decide_eq_false h9 h.1)] at hs
      exact ⟨inK_i64.2 (by omega), i + 1, by omega, by omega, by rw [hs], by rw [hs], by omega⟩
  · have h8 := of_decide_eq_false h8
    have h5 := of_decide_eq_true h5
    have h6 := of_decide_eq_true h6
    have h7 := of_decide_eq_false h7
    refine ⟨by omega, by omega, by omega, 0, ⟨hok, ?_⟩, ?_⟩
    · unfold denyR moreB
      simp only
      rw [decide_eq_true h5, decide_eq_true h6, decide_eq_true (by omega)]; rfl
    · rw [List.take_of_length_le (by omega)]
      unfold valsR
      simp only
      rw [if_pos ⟨h5, h6⟩]
  · have h5 := of_decide_eq_true h5
    have h6 := of_decide_eq_false h6
    refine ⟨0, ⟨hok, ?_⟩, ?_⟩
    · unfold denyR
      simp only
      rw [decide_eq_true h5, decide_eq_false h6]; rfl
    · unfold valsR
      simp only
      rw [if_neg (fun h => h6 h.2)]
  · have h5 := of_decide_eq_false h5
    refine ⟨0, ⟨hok, ?_⟩, ?_⟩
    · unfold denyR
      simp only
      rw [decide_eq_false h5]; rfl
    · unfold valsR
      simp only
      rw [if_neg (fun h => h5 h.1)]
  · have hgd := hg.dn
    have hvl : List.length (valsR (n, l, v, ()) a) = v.length := valsR_len (n, l, v, ()) a
    have hll : ∀ k, (loopR (n, l, v, ()) a k).2.length ≤ l.length + k := loopR_len (n, l, v, ()) a
    have hlb := loopR_bd (n, l, v, ()) a
    refine ⟨by omega, ⟨0, ⟨by omega, hg⟩, ⟨rfl, rfl⟩, rfl⟩, fun i hi => ?_⟩
    have hi8 : i ≤ 8 := by omega
    have hgo : goB (n, l, v, ()) a (i : Int) = (bitB a.2.2.2.1 i && (!(decide (a.1 = 0) && decide (a.2.1 ≤ (memR l i).1)) && !(decide (a.1 = 1) && decide (a.2.1 < (memR l i).1)))) := rfl
    have skip : (i : Int) < n → goB (n, l, v, ()) a (i : Int) = false → inK IntKind.i64 ((i : Int) + 1) ∧ ∃ x_3, (x_3 ≤ n.toNat ∧ Going (n, l, v, ()) a) ∧ n.toNat - x_3 < n.toNat - i ∧ ((loopR (n, l, v, ()) a i).1 = (loopR (n, l, v, ()) a x_3).1 ∧ (i : Int) + 1 = (x_3 : Int)) ∧ (loopR (n, l, v, ()) a i).2 = (loopR (n, l, v, ()) a x_3).2 := by
      intro hlt h
      have hs : loopR (n, l, v, ()) a (i + 1) = loopR (n, l, v, ()) a i := by
        show (if goB (n, l, v, ()) a (i : Int) = true then _ else _) = _
        rw [if_neg (by rw [h]; decide)]
      exact ⟨inK_i64.2 (by omega), i + 1, ⟨by omega, hg⟩, by omega, ⟨by rw [hs], by omega⟩, by rw [hs]⟩
    have tk : (i : Int) < n → goB (n, l, v, ()) a (i : Int) = true → (i : Int) ≤ 61 ∧ inK IntKind.i64 ((loopR (n, l, v, ()) a i).1 + 2 ^ i) ∧
        (decide (a.1 = 0) = true → (loopR (n, l, v, ()) a i).2.length + ((List.replicate 1 ((0, 0, 0, 0, 0, ()) : Dn)).set 0 (0, a.2.1, (i : Int), (memR l i).2.1, (memR l i).2.2, ())).length ≤ 1000000000 ∧ inK IntKind.i64 ((i : Int) + 1) ∧
          ∃ x_3, (x_3 ≤ n.toNat ∧ Going (n, l, v, ()) a) ∧ n.toNat - x_3 < n.toNat - i ∧ ((loopR (n, l, v, ()) a i).1 + 2 ^ i = (loopR (n, l, v, ()) a x_3).1 ∧ (i : Int) + 1 = (x_3 : Int)) ∧
            (loopR (n, l, v, ()) a i).2.append ((List.replicate 1 ((0, 0, 0, 0, 0, ()) : Dn)).set 0 (0, a.2.1, (i : Int), (memR l i).2.1, (memR l i).2.2, ())) = (loopR (n, l, v, ()) a x_3).2) ∧
        (decide (a.1 = 0) = false → (0 ≤ a.2.1 ∧ a.2.1 < ((valsR (n, l, v, ()) a).length : Int)) ∧ (loopR (n, l, v, ()) a i).2.length + ((List.replicate 1 ((0, 0, 0, 0, 0, ()) : Dn)).set 0 (1, a.2.1, (i : Int), 0, (valsR (n, l, v, ()) a).getD a.2.1.toNat 0, ())).length ≤ 1000000000 ∧ inK IntKind.i64 ((i : Int) + 1) ∧
          ∃ x_3, (x_3 ≤ n.toNat ∧ Going (n, l, v, ()) a) ∧ n.toNat - x_3 < n.toNat - i ∧ ((loopR (n, l, v, ()) a i).1 + 2 ^ i = (loopR (n, l, v, ()) a x_3).1 ∧ (i : Int) + 1 = (x_3 : Int)) ∧
            (loopR (n, l, v, ()) a i).2.append ((List.replicate 1 ((0, 0, 0, 0, 0, ()) : Dn)).set 0 (1, a.2.1, (i : Int), 0, (valsR (n, l, v, ()) a).getD a.2.1.toNat 0, ())) = (loopR (n, l, v, ()) a x_3).2) := by
      intro hlt h
      have hs : loopR (n, l, v, ()) a (i + 1) = ((loopR (n, l, v, ()) a i).1 + (2 : Int) ^ i, (loopR (n, l, v, ()) a i).2 ++ [dnR (n, l, v, ()) a (i : Int)]) := by
        show (if goB (n, l, v, ()) a (i : Int) = true then _ else _) = _
        rw [if_pos h]
      have h2 := two_pow_le (n := i) (by omega)
      have h3 := hlb i
      have h4 := hll i
      refine ⟨by omega, inK_i64.2 (by omega), fun h0 => ⟨by simp; omega, inK_i64.2 (by omega), i + 1, ⟨by omega, hg⟩, by omega, ⟨by rw [hs], by omega⟩, ?_⟩, fun h0 => ⟨by omega, by simp; omega, inK_i64.2 (by omega), i + 1, ⟨by omega, hg⟩, by omega, ⟨by rw [hs], by omega⟩, ?_⟩⟩
      · rw [hs]
        simp only
        unfold dnR
        rw [if_pos (of_decide_eq_true h0)]; rfl
      · rw [hs]
        simp only
        unfold dnR
        rw [if_neg (of_decide_eq_false h0)]; rfl
    refine ⟨fun h6 => ?_, fun h6 => ?_⟩
    · have h6 := of_decide_eq_true h6
      refine ⟨fun h7 => skip h6 ?_, fun h7 => ⟨fun h8 => ⟨fun h9 => skip h6 ?_, fun h9 => ⟨fun h10 => ⟨fun h11 => skip h6 ?_, fun h11 => tk h6 ?_⟩, fun h10 => tk h6 ?_⟩⟩, fun h8 => ⟨fun h10 => ⟨fun h11 => skip h6 ?_, fun h11 => tk h6 ?_⟩, fun h10 => tk h6 ?_⟩⟩⟩
      · rw [hgo, h7]; rfl
      · rw [hgo, h7, h8, h9]; rfl
      · rw [hgo, h7, h8, h9, h10, h11]; rfl
      · rw [hgo, h7, h8, h9, h10, h11]; rfl
      · rw [hgo, h7, h8, h9, h10]; rfl
      · rw [hgo, h7, h8, h10, h11]; rfl
      · rw [hgo, h7, h8, h10, h11]; rfl
      · rw [hgo, h7, h8, h10]; rfl
    · have : i = n.toNat := by have := of_decide_eq_false h6; omega
      subst this
      exact hfin hgd
theorem okDoR : PlainOk Tryd.prog glT 16 cDoR := by
  refine plain_of (CxOk.mk' Eo_ok rfl mixed (gl := glT) (GOk.cons okInR Tryd.func31 (by kernel_rfl) (by kernel_rfl) (GOk.cons okMaskR Tryd.func32 (by kernel_rfl) (by kernel_rfl) (GOk.cons okOf Tryd.func33 (by kernel_rfl) (by kernel_rfl) (GOk.cons okManyR Tryd.func22 (by kernel_rfl) (by kernel_rfl) (GOk.cons okMemR Tryd.func17 (by kernel_rfl) (by kernel_rfl) (GOk.cons okBit Tryd.func34 (by kernel_rfl) (by kernel_rfl) (GOk.cons okPow2 Tryd.func12 (by kernel_rfl) (by kernel_rfl) GOk.nil))))))) GoOk.nil noIt) Tryd.func16 (c := Tryd.f16.body.getD .skip) (rvs := [(.cell 4 43, tSR), (.tmp 5, I), (.tmp 6, I)]) (by kernel_rfl) (by kernel_rfl) (by kernel_rfl) ?_
  intro ds k ⟨hp, hk⟩ hwf
  obtain ⟨⟨n, l, v, u⟩, a, rfl, hs, hl⟩ := dest2 hp
  exact ⟨anDoR (n, l, v, u) a, doR_vc n l v a k hs hl hk⟩
end Go.Proofs.YtdpnakebhpecfaaDoor.P

/- Synods: the program does what the reference does (mathematics). -/
namespace Go.Proofs.YtdpnakebhpecfaaDoor.P
open Go.Vc Go.Proofs.YtdpnakebhpecfaaDoor.V
/-- a synod, and what the reference has written of it -/
structure Rel (s : Sy) (x : SR) : Prop where
  n : x.1 = (s.ms.length : Int)
  w : whoP x.2.1
  mem : ∀ i : Nat, i < s.ms.length → memR x.2.1 (i : Int) = ((s.me i).1, (s.me i).2.1, (s.me i).2.2.1)
  pro : ∀ b : Nat, b < 31 → ofR x.2.1 (b : Int) 0 = pS (s.ba b)
  acc : ∀ b : Nat, b < 31 → ofR x.2.1 (b : Int) 1 = aS (s.ba b)
  len : x.2.2.1.length = 31
  val : ∀ b : Nat, b < 31 → x.2.2.1.getD b 0 = if prp (s.ba b) = true then vl (s.ba b) else -1
  pos : ∀ b : Nat, b < 31 → prp (s.ba b) = true → 0 ≤ vl (s.ba b)
  bes : ∀ b : Nat, b < 31 → prp (s.ba b) = false → -1 ≤ bst (s.ba b) ∧ ∀ v, bestR x.2.1 (b : Int) v = (bst (s.ba b), if 0 ≤ bst (s.ba b) then tld (s.ba b) else v)
theorem rel_init {n : Int} (h : 1 ≤ n ∧ n ≤ 8) : Rel (initS n) (newR n) := by
  refine ⟨by rw [init_len]; show n = _; omega, fun d hd => (by cases hd), fun i hi => ?_, fun b hb => ?_, fun b hb => ?_, List.length_replicate, fun b hb => ?_, fun b hb hp => ?_, fun b hb _ => ?_⟩
  · rw [init_len] at hi
    rw [init_me n i hi]; rfl
  · rw [init_ba n b hb]; rfl
  · rw [init_ba n b hb]; rfl
  · rw [init_ba n b hb]
    show (List.replicate 31 (-1 : Int)).getD b 0 = _
    rw [getD_rep 31 _ _ _ hb]; rfl
  · rw [init_ba n b hb] at hp; cases hp
  · rw [init_ba n b hb]
    exact ⟨by decide, fun v => rfl⟩
theorem who_snoc {l : List Dn} (h : whoP l) {d : Dn} (hd : 0 ≤ d.2.2.1 ∧ d.2.2.1 < 8) : whoP (l ++ [d]) := by
  intro y hy
  rcases List.mem_append.1 hy with hy | hy
  · exact h y hy
  · rw [List.mem_singleton.1 hy]; exact hd
theorem rel_promise {s s' : Sy} {x : SR} (R : Rel s x) (m8 : s.ms.length ≤ 8) (i k : Nat) (hi : i < s.ms.length) (hlt : (s.me i).1 < (k : Int)) (hl : s'.ms.length = s.ms.length)
    (hm : ∀ j, s'.me j = if j = i then ((k : Int), (s.me i).2) else s.me j) (hb : ∀ c, s'.ba c = if c = k then (withM (promB (s.ba k) (s.me i)).1 i, (promB (s.ba k) (s.me i)).2) else s.ba c) :
    Rel s' (x.1, x.2.1 ++ [((0 : Int), (k : Int), (i : Int), (s.me i).2.1, (s.me i).2.2.1, ())], x.2.2.1, ()) := by
  have e := promB_1 (s.ba k) (s.me i)
  have hP : ∀ b, prp (s'.ba b) = prp (s.ba b) ∧ vl (s'.ba b) = vl (s.ba b) ∧ aS (s'.ba b) = aS (s.ba b) := fun b => by
    rw [hb b]
    split
    · rename_i hbk
      subst hbk
      have h := e.2.2
      refine ⟨?_, ?_, e.2.1⟩
      · show (promB _ _).2.2.2.2.2.1 = _; rw [h]
      · show (promB _ _).2.2.2.2.1 = _; rw [h]
    · exact ⟨rfl, rfl, rfl⟩
  refine ⟨by rw [hl]; exact R.n, who_snoc R.w ⟨by show (0 : Int) ≤ (i : Int); omega, by show (i : Int) < 8; omega⟩, fun j hj => ?_, fun b hb1 => ?_, fun b hb1 => ?_, R.len, fun b hb1 => ?_, fun b hb1 hp => ?_, fun b hb1 hp => ?_⟩
  · rw [hl] at hj
    show memR (x.2.1 ++ [_]) _ = _
    rw [memR_snoc, R.mem j hj, hm j]
    unfold mem1
    by_cases hji : j = i
    · subst hji
      rw [if_pos rfl, if_pos rfl]
      simp only
      rw [if_pos hlt, if_neg (by decide), if_neg (by decide)]
    · rw [if_neg hji, if_neg (by simp only; omega)]
  · show ofR (x.2.1 ++ [_]) _ _ = _
    rw [ofR_snoc, R.pro b hb1, hb b]
    unfold of1
    by_cases hbk : b = k
    · subst hbk
      rw [if_pos rfl, if_pos ⟨rfl, rfl⟩]
      show withM _ _ = withM _ _
      rw [e.1]
    · rw [if_neg hbk, if_neg (by simp only; omega)]
  · show ofR (x.2.1 ++ [_]) _ _ = _
    rw [ofR_snoc, R.acc b hb1, (hP b).2.2]
    unfold of1
    rw [if_neg (fun h => absurd (show (0 : Int) = 1 from h.2) (by decide))]
  · show x.2.2.1.getD b 0 = _
    rw [(hP b).1, (hP b).2.1]; exact R.val b hb1
  · rw [(hP b).1] at hp
    rw [(hP b).2.1]; exact R.pos b hb1 hp
  · rw [(hP b).1] at hp
    obtain ⟨h1, h2⟩ := R.bes b hb1 hp
    have hs : ∀ v, bestR (x.2.1 ++ [((0 : Int), (k : Int), (i : Int), (s.me i).2.1, (s.me i).2.2.1, ())]) (b : Int) v = best1 b (bst (s.ba b), if 0 ≤ bst (s.ba b) then tld (s.ba b) else v) ((0 : Int), (k : Int), (i : Int), (s.me i).2.1, (s.me i).2.2.1, ()) := fun v => by
      rw [bestR_snoc, h2]
    rw [hb b]
    by_cases hbk : b = k
    · subst hbk
      rw [if_pos rfl]
      unfold promB at *
      by_cases hc : (s.ba b).2.2.1 < (s.me i).2.1
      · rw [if_pos ⟨hc, hp⟩]
        refine ⟨by show -1 ≤ (s.me i).2.1; have : -1 ≤ (s.ba b).2.2.1 := h1; omega, fun v => ?_⟩
        show bestR (x.2.1 ++ [_]) _ _ = _
        rw [hs]
        unfold best1
        rw [if_pos ⟨rfl, rfl, hc⟩]
        show _ = ((s.me i).2.1, if 0 ≤ (s.me i).2.1 then (s.me i).2.2.1 else v)
        rw [if_pos (by have : -1 ≤ (s.ba b).2.2.1 := h1; omega)]
      · rw [if_neg (fun h => hc h.1)]
        refine ⟨h1, fun v => ?_⟩
        show bestR (x.2.1 ++ [_]) _ _ = _
        rw [hs]
        unfold best1
        rw [if_neg (fun h => hc h.2.2)]
    · rw [if_neg hbk]
      refine ⟨h1, fun v => ?_⟩
      show bestR (x.2.1 ++ [_]) _ _ = _
      rw [hs]
      unfold best1
      rw [if_neg (fun h => hbk (by have : (k : Int) = (b : Int) := h.1; omega))]
theorem rel_accept {s s' : Sy} {x : SR} (R : Rel s x) (m8 : s.ms.length ≤ 8) (i k : Nat) (hi : i < s.ms.length) (hle : (s.me i).1 ≤ (k : Int)) (hl : s'.ms.length = s.ms.length)
    (hm : ∀ j, s'.me j = if j = i then ((k : Int), (k : Int), vl (s.ba k), ()) else s.me j) (hb : ∀ c, s'.ba c = if c = k then ((s.ba k).1, withM (s.ba k).2.1 i, (s.ba k).2.2) else s.ba c) :
    Rel s' (x.1, x.2.1 ++ [((1 : Int), (k : Int), (i : Int), (0 : Int), vl (s.ba k), ())], x.2.2.1, ()) := by
  have hP : ∀ b, prp (s'.ba b) = prp (s.ba b) ∧ vl (s'.ba b) = vl (s.ba b) ∧ pS (s'.ba b) = pS (s.ba b) ∧ bst (s'.ba b) = bst (s.ba b) ∧ tld (s'.ba b) = tld (s.ba b) := fun b => by
    rw [hb b]
    split
    · rename_i hbk
      subst hbk
      exact ⟨rfl, rfl, rfl, rfl, rfl⟩
    · exact ⟨rfl, rfl, rfl, rfl, rfl⟩
  refine ⟨by rw [hl]; exact R.n, who_snoc R.w ⟨by show (0 : Int) ≤ (i : Int); omega, by show (i : Int) < 8; omega⟩, fun j hj => ?_, fun b hb1 => ?_, fun b hb1 => ?_, R.len, fun b hb1 => ?_, fun b hb1 hp => ?_, fun b hb1 hp => ?_⟩
  · rw [hl] at hj
    show memR (x.2.1 ++ [_]) _ = _
    rw [memR_snoc, R.mem j hj, hm j]
    unfold mem1
    by_cases hji : j = i
    · subst hji
      rw [if_pos rfl, if_pos rfl]
      simp only
      rw [if_pos trivial, if_pos trivial]
      by_cases h : (s.me j).1 < (k : Int)
      · rw [if_pos h]
      · rw [if_neg h, show (s.me j).1 = (k : Int) by omega]
    · rw [if_neg hji, if_neg (by simp only; omega)]
  · show ofR (x.2.1 ++ [_]) _ _ = _
    rw [ofR_snoc, R.pro b hb1, (hP b).2.2.1]
    unfold of1
    rw [if_neg (fun h => absurd (show (1 : Int) = 0 from h.2) (by decide))]
  · show ofR (x.2.1 ++ [_]) _ _ = _
    rw [ofR_snoc, R.acc b hb1, hb b]
    unfold of1
    by_cases hbk : b = k
    · subst hbk
      rw [if_pos rfl, if_pos ⟨rfl, rfl⟩]
    · rw [if_neg hbk, if_neg (by simp only; omega)]
  · show x.2.2.1.getD b 0 = _
    rw [(hP b).1, (hP b).2.1]; exact R.val b hb1
  · rw [(hP b).1] at hp
    rw [(hP b).2.1]; exact R.pos b hb1 hp
  · rw [(hP b).1] at hp
    obtain ⟨h1, h2⟩ := R.bes b hb1 hp
    rw [(hP b).2.2.2.1, (hP b).2.2.2.2]
    refine ⟨h1, fun v => ?_⟩
    show bestR (x.2.1 ++ [_]) _ _ = _
    rw [bestR_snoc, h2]
    unfold best1
    rw [if_neg (fun h => absurd (show (1 : Int) = 0 from h.2.1) (by decide))]
theorem rel_propose {s s' : Sy} {x : SR} (R : Rel s x) (S : Safe s) (k : Nat) (v : Int) (hk : k < 31) (hv : 0 ≤ v) (hl : s'.ms.length = s.ms.length)
    (hm : ∀ j, s'.me j = s.me j) (hb : ∀ c, s'.ba c = if c = k then prpB (s.ba k) v else s.ba c) :
    Rel s' (x.1, x.2.1, (if x.2.2.1.getD k 0 < 0 then x.2.2.1.set k (bestR x.2.1 (k : Int) v).2 else x.2.2.1), ()) := by
  have e := prpB_1 (s.ba k) v
  have hP : ∀ b, pS (s'.ba b) = pS (s.ba b) ∧ aS (s'.ba b) = aS (s.ba b) ∧ bst (s'.ba b) = bst (s.ba b) ∧ tld (s'.ba b) = tld (s.ba b) := fun b => by
    rw [hb b]
    split
    · rename_i hbk
      subst hbk
      exact ⟨e.1, e.2.1, e.2.2.1, e.2.2.2.1⟩
    · exact ⟨rfl, rfl, rfl, rfl⟩
  have hneg : x.2.2.1.getD k 0 < 0 ↔ prp (s.ba k) = false := by
    rw [R.val k hk]
    constructor
    · intro h
      cases hp : prp (s.ba k) with
      | false => rfl
      | true =>
        rw [if_pos hp] at h
        have := R.pos k hk hp
        omega
    · intro h
      rw [if_neg (by rw [h]; decide)]; decide
  have hvk : prp (s.ba k) = false → vl (prpB (s.ba k) v) = (bestR x.2.1 (k : Int) v).2 := fun hp => by
    rw [(R.bes k hk hp).2 v]
    unfold prpB
    rw [if_neg (by show ¬ prp (s.ba k) = true; rw [hp]; decide)]
  have hvp : 0 ≤ vl (prpB (s.ba k) v) := by
    cases hp : prp (s.ba k) with
    | true =>
      have : vl (prpB (s.ba k) v) = vl (s.ba k) := e.2.2.2.2.2 hp
      rw [this]; exact R.pos k hk hp
    | false =>
      unfold prpB
      rw [if_neg (by show ¬ prp (s.ba k) = true; rw [hp]; decide)]
      show 0 ≤ if 0 ≤ (s.ba k).2.2.1 then (s.ba k).2.2.2.1 else v
      split
      · rename_i h0
        rcases S.bes k hk with h | ⟨h1, h2, h3, h4⟩
        · have : bst (s.ba k) = -1 := h
          have : 0 ≤ bst (s.ba k) := h0
          omega
        · show 0 ≤ tld (s.ba k)
          rw [h4]
          exact R.pos _ (by omega) h3
      · exact hv
  refine ⟨by rw [hl]; exact R.n, R.w, fun j hj => ?_, fun b hb1 => ?_, fun b hb1 => ?_, ?_, fun b hb1 => ?_, fun b hb1 hp => ?_, fun b hb1 hp => ?_⟩
  · rw [hl] at hj
    rw [hm j]; exact R.mem j hj
  · rw [(hP b).1]; exact R.pro b hb1
  · rw [(hP b).2.1]; exact R.acc b hb1
  · show (if _ then _ else _ : List Int).length = 31
    split
    · rw [List.length_set]; exact R.len
    · exact R.len
  · show (if _ then _ else _ : List Int).getD b 0 = _
    rw [hb b]
    by_cases hbk : b = k
    · subst hbk
      rw [if_pos rfl, if_pos (show prp (prpB (s.ba b) v) = true from e.2.2.2.2.1)]
      cases hp : prp (s.ba b) with
      | true =>
        rw [if_neg (fun h => by rw [hneg.1 h] at hp; cases hp), R.val b hb1, if_pos hp]
        exact (e.2.2.2.2.2 hp).symm
      | false =>
        rw [if_pos (hneg.2 hp), getD_set _ _ _ _ _ (by rw [R.len]; omega), if_pos rfl, hvk hp]
    · rw [if_neg hbk]
      split
      · rw [getD_set _ _ _ _ _ (by rw [R.len]; omega), if_neg hbk]; exact R.val b hb1
      · exact R.val b hb1
  · rw [hb b] at hp ⊢
    by_cases hbk : b = k
    · rw [if_pos hbk]; exact hvp
    · rw [if_neg hbk] at hp ⊢; exact R.pos b hb1 hp
  · rw [(hP b).2.2.1, (hP b).2.2.2]
    refine R.bes b hb1 ?_
    rw [hb b] at hp
    by_cases hbk : b = k
    · rw [if_pos hbk, show prp (prpB (s.ba k) v) = true from e.2.2.2.2.1] at hp; cases hp
    · rw [if_neg hbk] at hp; exact hp
end Go.Proofs.YtdpnakebhpecfaaDoor.P

/- Synods: the program does what the reference does. -/
namespace Go.Proofs.YtdpnakebhpecfaaDoor.P
open Go.Vc Go.Proofs.YtdpnakebhpecfaaDoor.V
/-- the things of a set below one -/
def bl (t j : Nat) : List Int := ((List.range j).filter t.testBit).map fun (i : Nat) => (i : Int)
theorem bl_succ (t j : Nat) : bl t (j + 1) = bl t j ++ (if t.testBit j = true then [(j : Int)] else []) := by
  unfold bl
  rw [List.range_succ, List.filter_append, List.map_append]
  congr 1
  cases h : t.testBit j <;> simp [h]
theorem bl_far {t m : Nat} (h : t < 2 ^ m) : ∀ d, bl t (m + d) = bl t m
  | 0 => rfl
  | d + 1 => by
    have hb : t.testBit (m + d) = false := Nat.testBit_lt_two_pow (Nat.lt_of_lt_of_le h (Nat.pow_le_pow_right (by decide) (by omega)))
    rw [← Nat.add_assoc, bl_succ, bl_far h d, if_neg (by rw [hb]; decide), List.append_nil]
theorem bits_bl {t m : Nat} (h : t < 2 ^ m) (hm : m ≤ 8) : bitsOf (t : Int) = bl t m := by
  have h64 : t < 2 ^ 64 := Nat.lt_of_lt_of_le h (Nat.pow_le_pow_right (by decide) (by omega))
  have e : ((t : Int) % 18446744073709551616).toNat = t := by
    have : t < 18446744073709551616 := h64
    omega
  have e2 : bitsOf (t : Int) = bl t 64 := by
    unfold bitsOf bitsN bl
    rw [e, List.range_eq_range']
  rw [e2, show 64 = m + (64 - m) by omega, bl_far h]
theorem bl_lt {t j : Nat} : ∀ y ∈ bl t j, 0 ≤ y ∧ y < (j : Int) := by
  intro y hy
  unfold bl at hy
  obtain ⟨i, hi, rfl⟩ := List.mem_map.1 hy
  have := List.mem_range.1 (List.mem_filter.1 hi).1
  omega
theorem withM_add {d : Int} {j : Nat} (h0 : 0 ≤ d) (h : d < 2 ^ j) : withM d (j : Int) = d + 2 ^ j := by
  obtain ⟨m, rfl⟩ := Int.eq_ofNat_of_zero_le h0
  rw [powC] at h
  unfold withM
  rw [Int.one_mul, Int.toNat_natCast, Int.toNat_natCast, powC, Int.toNat_natCast, or_pow_out (Nat.testBit_lt_two_pow (by omega)), Int.natCast_add]
theorem prep_mid {s : Sy} (k : Int) (l : List Int) (i : Nat) (h : (i : Int) ∉ l) (hl : ∀ y ∈ l, 0 ≤ y ∧ y < (s.ms.length : Int)) : (prepL k s l).1.getD i zM = s.ms.getD i zM := by
  have : ∀ (l : List Int) (x : Rd), (i : Int) ∉ l → x.1.length = s.ms.length → (∀ y ∈ l, 0 ≤ y ∧ y < (s.ms.length : Int)) → (l.foldl (prep1 k) x).1.getD i zM = x.1.getD i zM := by
    intro l
    induction l with
    | nil => intro x _ _ _; rfl
    | cons y r ih =>
      intro x h hx hl
      rw [List.foldl_cons]
      have y0 := hl y (.head _)
      have hyi : i ≠ y.toNat := fun e => h (by
        have : (i : Int) = y := by omega
        rw [this]; exact .head _)
      by_cases hc : k ≤ (x.1.getD y.toNat zM).1
      · rw [show prep1 k x y = x by unfold prep1; simp only [if_pos hc]]
        exact ih x (fun hh => h (.tail _ hh)) hx (fun z hz => hl z (.tail _ hz))
      · rw [prep1_neg hc, ih _ (fun hh => h (.tail _ hh)) (by simp only [List.length_set]; exact hx) (fun z hz => hl z (.tail _ hz))]
        simp only
        rw [getD_set _ _ _ _ _ (by omega), if_neg hyi]
  exact this l _ h rfl hl
theorem acc_mid {ms : List Me} (k v : Int) (l : List Int) (i : Nat) (h : (i : Int) ∉ l) (hl : ∀ y ∈ l, 0 ≤ y ∧ y < (ms.length : Int)) : (accL k v ms l).1.getD i zM = ms.getD i zM := by
  have : ∀ (l : List Int) (x : List Me × Int), (i : Int) ∉ l → x.1.length = ms.length → (∀ y ∈ l, 0 ≤ y ∧ y < (ms.length : Int)) → (l.foldl (acc1 k v) x).1.getD i zM = x.1.getD i zM := by
    intro l
    induction l with
    | nil => intro x _ _ _; rfl
    | cons y r ih =>
      intro x h hx hl
      rw [List.foldl_cons]
      have y0 := hl y (.head _)
      have hyi : i ≠ y.toNat := fun e => h (by
        have : (i : Int) = y := by omega
        rw [this]; exact .head _)
      by_cases hc : k < (x.1.getD y.toNat zM).1
      · rw [show acc1 k v x y = x by unfold acc1; rw [if_pos hc]]
        exact ih x (fun hh => h (.tail _ hh)) hx (fun z hz => hl z (.tail _ hz))
      · rw [show acc1 k v x y = (x.1.set y.toNat (k, k, v, ()), withM x.2 y) by unfold acc1; rw [if_neg hc]]
        rw [ih _ (fun hh => h (.tail _ hh)) (by simp only [List.length_set]; exact hx) (fun z hz => hl z (.tail _ hz))]
        simp only
        rw [getD_set _ _ _ _ _ (by omega), if_neg hyi]
  exact this l _ h rfl hl
theorem bit_nat (t j : Nat) : bitB (t : Int) (j : Int) = t.testBit j := bitB_nat t j
/-- what was asked, and done, so far: promises -/
theorem prep_loop {s : Sy} {x : SR} (R : Rel s x) (hs : SyInv s) (a : As) (h0 : a.1 = 0) (k : Nat) (hk : a.2.1 = (k : Int)) (hk31 : k < 31) (t : Nat) (ht : a.2.2.2.1 = (t : Int)) :
    ∀ j, j ≤ s.ms.length → Rel (midP s k (prepL k s (bl t j))) (x.1, (loopR x a j).2, x.2.2.1, ()) ∧ (prepL k s (bl t j)).2.2 = (loopR x a j).1
  | 0, _ => by
    have hq : k < s.bs.length := by have := hs.ok.b; omega
    have hb := hs.pr _ (getD_mem (z := zB) hq)
    have : midP s k (prepL k s (bl t 0)) = s := by
      show (⟨s.ms, s.bs.set _ (orI (s.bs.getD (k : Int).toNat zB).1 0, (s.bs.getD (k : Int).toNat zB).2)⟩ : Sy) = s
      rw [Int.toNat_natCast, orI_zero hb.1, set_self _ _ _ hq]
    rw [this]
    exact ⟨R, rfl⟩
  | j + 1, hj => by
    obtain ⟨R1, hd⟩ := prep_loop R hs a h0 k hk hk31 t ht j (by omega)
    have m8 := hs.ok.m8
    have hq : k < s.bs.length := by have := hs.ok.b; omega
    have pl := prep_len (k : Int) s (bl t j)
    have hbl : ∀ y ∈ bl t j, 0 ≤ y ∧ y < (s.ms.length : Int) := fun y hy => by have := bl_lt y hy; omega
    have hmj := prep_mid (s := s) (k : Int) (bl t j) j (fun h => by have := bl_lt _ h; omega) hbl
    have hmem := R.mem j (by omega)
    have hgo : goB x a (j : Int) = (t.testBit j && !decide ((k : Int) ≤ (s.me j).1)) := by
      unfold goB
      rw [ht, bit_nat, h0, hk, hmem]
      simp
    rw [bl_succ]
    by_cases htb : t.testBit j = true
    · rw [if_pos htb, prep_snoc]
      have hX : (prepL (k : Int) s (bl t j)).1.getD (j : Int).toNat zM = s.me j := by rw [Int.toNat_natCast]; exact hmj
      by_cases hc : (k : Int) ≤ (s.me j).1
      · have hcX : (k : Int) ≤ ((prepL (k : Int) s (bl t j)).1.getD (j : Int).toNat zM).1 := by rw [hX]; exact hc
        rw [show prep1 (k : Int) (prepL k s (bl t j)) j = prepL k s (bl t j) by unfold prep1; simp only [if_pos hcX]]
        have hl : loopR x a (j + 1) = loopR x a j := by
          show (if goB x a (j : Int) = true then _ else _) = _
          rw [if_neg (by rw [hgo, htb, decide_eq_true hc]; decide)]
        rw [hl]
        exact ⟨R1, hd⟩
      · have hl : loopR x a (j + 1) = ((loopR x a j).1 + (2 : Int) ^ j, (loopR x a j).2 ++ [((0 : Int), (k : Int), (j : Int), (s.me j).2.1, (s.me j).2.2.1, ())]) := by
          show (if goB x a (j : Int) = true then _ else _) = _
          rw [if_pos (by rw [hgo, htb, decide_eq_false hc]; rfl)]
          unfold dnR
          rw [if_pos h0, hk, hmem]
        have hcX : ¬ (k : Int) ≤ ((prepL (k : Int) s (bl t j)).1.getD (j : Int).toNat zM).1 := by rw [hX]; exact hc
        have hb2 := loopR_bd x a j
        have hme : (midP s k (prepL k s (bl t j))).me j = s.me j := hmj
        rw [hl, prep1_neg hcX, hX]
        refine ⟨?_, by simp only; rw [hd, withM_add hb2.1 hb2.2]⟩
        have hR := rel_promise (s' := midP s k ((prepL (k : Int) s (bl t j)).1.set (j : Int).toNat ((k : Int), (s.me j).2), promB (prepL (k : Int) s (bl t j)).2.1 (s.me j), withM (prepL (k : Int) s (bl t j)).2.2 (j : Int))) R1 (by show (prepL _ _ _).1.length ≤ 8; omega) j k (by show j < (prepL _ _ _).1.length; omega) (by rw [hme]; omega) (by show (List.set _ _ _).length = _; rw [List.length_set]; rfl) (fun i => ?_) (fun c => ?_)
        · rw [hme] at hR; exact hR
        · show (List.set _ _ _).getD i zM = _
          rw [getD_set _ _ _ _ _ (by rw [Int.toNat_natCast]; omega), Int.toNat_natCast, hme]
          rfl
        · rw [hme]
          have e1 : (midP s k (prepL k s (bl t j))).ba k = (orI (s.bs.getD k zB).1 (prepL k s (bl t j)).2.2, (prepL k s (bl t j)).2.1.2) := by
            show (s.bs.set _ _).getD _ _ = _
            rw [Int.toNat_natCast, gset _ _ _ _ hq]
          rw [e1]
          show (s.bs.set _ _).getD c zB = _
          rw [Int.toNat_natCast, getD_set _ _ _ _ _ hq]
          split
          · simp only
            rw [orI_withM, (promB_1 _ _).1]
            exact Prod.ext rfl (promB_2 _ _ _).symm
          · rename_i hne
            show _ = (s.bs.set _ _).getD c zB
            rw [Int.toNat_natCast, getD_set _ _ _ _ _ hq, if_neg hne]
    · rw [if_neg htb, List.append_nil]
      have hl : loopR x a (j + 1) = loopR x a j := by
        show (if goB x a (j : Int) = true then _ else _) = _
        rw [if_neg (by rw [hgo, show t.testBit j = false by simpa using htb, Bool.false_and]; decide)]
      rw [hl]
      exact ⟨R1, hd⟩
/-- and acceptances -/
theorem acc_loop {s : Sy} {x : SR} (hs : SyInv s) (hmem : ∀ i : Nat, i < s.ms.length → memR x.2.1 (i : Int) = ((s.me i).1, (s.me i).2.1, (s.me i).2.2.1)) (a : As) (h1 : a.1 = 1) (k : Nat) (hk : a.2.1 = (k : Int)) (hk31 : k < 31) (t : Nat) (ht : a.2.2.2.1 = (t : Int)) (b : Ba)
    (hvb : (valsR x a).getD k 0 = vl b) (R0 : Rel (midA s k b (accL k (vl b) s.ms [])) (x.1, x.2.1, valsR x a, ())) :
    ∀ j, j ≤ s.ms.length → Rel (midA s k b (accL k (vl b) s.ms (bl t j))) (x.1, (loopR x a j).2, valsR x a, ()) ∧ (accL k (vl b) s.ms (bl t j)).2 = (loopR x a j).1
  | 0, _ => ⟨R0, rfl⟩
  | j + 1, hj => by
    obtain ⟨R1, hd⟩ := acc_loop hs hmem a h1 k hk hk31 t ht b hvb R0 j (by omega)
    have m8 := hs.ok.m8
    have hq : k < s.bs.length := by have := hs.ok.b; omega
    have pl := (acc_inv (k : Int) (vl b) s.ms (bl t j)).1
    have hbl : ∀ y ∈ bl t j, 0 ≤ y ∧ y < (s.ms.length : Int) := fun y hy => by have := bl_lt y hy; omega
    have hmj := acc_mid (ms := s.ms) (k : Int) (vl b) (bl t j) j (fun h => by have := bl_lt _ h; omega) hbl
    have hm := hmem j (by omega)
    have hgo : goB x a (j : Int) = (t.testBit j && !decide ((k : Int) < (s.me j).1)) := by
      unfold goB
      rw [ht, bit_nat, h1, hk, hm]
      simp
    rw [bl_succ]
    by_cases htb : t.testBit j = true
    · rw [if_pos htb, acc_snoc]
      have hX : (accL (k : Int) (vl b) s.ms (bl t j)).1.getD (j : Int).toNat zM = s.me j := by rw [Int.toNat_natCast]; exact hmj
      by_cases hc : (k : Int) < (s.me j).1
      · rw [show acc1 (k : Int) (vl b) (accL k (vl b) s.ms (bl t j)) j = accL k (vl b) s.ms (bl t j) by unfold acc1; rw [if_pos (by rw [hX]; exact hc)]]
        have hl : loopR x a (j + 1) = loopR x a j := by
          show (if goB x a (j : Int) = true then _ else _) = _
          rw [if_neg (by rw [hgo, htb, decide_eq_true hc]; decide)]
        rw [hl]
        exact ⟨R1, hd⟩
      · have hl : loopR x a (j + 1) = ((loopR x a j).1 + (2 : Int) ^ j, (loopR x a j).2 ++ [((1 : Int), (k : Int), (j : Int), (0 : Int), vl b, ())]) := by
          show (if goB x a (j : Int) = true then _ else _) = _
          rw [if_pos (by rw [hgo, htb, decide_eq_false hc]; rfl)]
          unfold dnR
          rw [if_neg (by rw [h1]; decide), hk, Int.toNat_natCast, hvb]
        have hb2 := loopR_bd x a j
        have hme : (midA s k b (accL k (vl b) s.ms (bl t j))).me j = s.me j := hmj
        have e1 : (midA s k b (accL k (vl b) s.ms (bl t j))).ba k = (b.1, orI b.2.1 (accL k (vl b) s.ms (bl t j)).2, b.2.2) := by
          show (s.bs.set _ _).getD _ _ = _
          rw [Int.toNat_natCast, gset _ _ _ _ hq]
        have e2 : acc1 (k : Int) (vl b) (accL k (vl b) s.ms (bl t j)) j = ((accL k (vl b) s.ms (bl t j)).1.set (j : Int).toNat ((k : Int), (k : Int), vl b, ()), withM (accL k (vl b) s.ms (bl t j)).2 j) := by unfold acc1; rw [if_neg (by rw [hX]; exact hc)]
        rw [hl, e2]
        refine ⟨?_, by simp only; rw [hd, withM_add hb2.1 hb2.2]⟩
        have hR := rel_accept (s' := midA s k b ((accL (k : Int) (vl b) s.ms (bl t j)).1.set (j : Int).toNat ((k : Int), (k : Int), vl b, ()), withM (accL (k : Int) (vl b) s.ms (bl t j)).2 (j : Int))) R1 (by show (accL _ _ _ _).1.length ≤ 8; omega) j k (by show j < (accL _ _ _ _).1.length; omega) (by rw [hme]; omega) (by show (List.set _ _ _).length = _; rw [List.length_set]; rfl) (fun i => ?_) (fun c => ?_)
        · rw [e1] at hR; exact hR
        · rw [e1]
          show (List.set _ _ _).getD i zM = _
          rw [getD_set _ _ _ _ _ (by rw [Int.toNat_natCast]; omega), Int.toNat_natCast]
          rfl
        · rw [e1]
          show (s.bs.set _ _).getD c zB = _
          rw [Int.toNat_natCast, getD_set _ _ _ _ _ hq]
          split
          · simp only
            rw [orI_withM]
          · rename_i hne
            show _ = (s.bs.set _ _).getD c zB
            rw [Int.toNat_natCast, getD_set _ _ _ _ _ hq, if_neg hne]
    · rw [if_neg htb, List.append_nil]
      have hl : loopR x a (j + 1) = loopR x a j := by
        show (if goB x a (j : Int) = true then _ else _) = _
        rw [if_neg (by rw [hgo, show t.testBit j = false by simpa using htb, Bool.false_and]; decide)]
      rw [hl]
      exact ⟨R1, hd⟩
end Go.Proofs.YtdpnakebhpecfaaDoor.P

/- Synods: what is asked, of both. -/
namespace Go.Proofs.YtdpnakebhpecfaaDoor.P
open Go.Vc Go.Proofs.YtdpnakebhpecfaaDoor.V
theorem more_most {m : Nat} {n set : Int} (h : n = (m : Int)) : moreB n set = mostB m set := by subst h; rfl
theorem rel_do {n : Int} {s : Sy} {x : SR} (R : Rel s x) (g : Good n s) (a : As) :
    Rel (doF s a).2 (doR x a).1 ∧ (doF s a).1.1 = (doR x a).2.1 ∧ (doF s a).1.2 = (doR x a).2.2 ∧ (doR x a).1.2.1.length ≤ x.2.1.length + 8 := by
  have hn : x.1.toNat = s.ms.length := by rw [R.n]; omega
  have m8 := g.inv.ok.m8
  have hb31 := g.inv.ok.b
  unfold doF doR
  rw [hn]
  by_cases hA : okA s.ms.length a = false
  · rw [if_pos hA, if_pos hA]
    exact ⟨R, rfl, rfl, by simp only; omega⟩
  rw [if_neg hA, if_neg hA]
  have hok := okA_of (show okA s.ms.length a = true by simpa using hA)
  obtain ⟨k, hk⟩ := Int.eq_ofNat_of_zero_le hok.2.1.1
  have hk31 : k < 31 := by omega
  obtain ⟨t, ht⟩ := Int.eq_ofNat_of_zero_le hok.2.2.2.1
  have htm : t < 2 ^ s.ms.length := by
    have := hok.2.2.2.2
    rw [ht, powC] at this; omega
  have hbl : bitsOf a.2.2.2.1 = bl t s.ms.length := by rw [ht]; exact bits_bl htm m8
  have hll : (loopR x a s.ms.length).2.length ≤ x.2.1.length + 8 := by have := loopR_len x a s.ms.length; omega
  have hkn : a.2.1.toNat = k := by rw [hk]; exact Int.toNat_natCast k
  by_cases h0 : a.1 = 0
  · have hd : denyR x a = false := by unfold denyR; rw [h0]; rfl
    have hv : valsR x a = x.2.2.1 := by unfold valsR; rw [if_neg (fun h => by rw [h0] at h; exact absurd h.1 (by decide))]
    rw [if_pos h0, if_neg (by rw [hd]; decide), hv]
    obtain ⟨h1, h2⟩ := prep_loop R g.inv a h0 k hk hk31 t ht s.ms.length (Nat.le_refl _)
    have e := prep_inv a.2.1 s (bitsOf a.2.2.2.1)
    refine ⟨?_, ?_, rfl, hll⟩
    · show Rel (prepF s a).2 _
      have : (prepF s a).2 = midP s k (prepL k s (bl t s.ms.length)) := by
        unfold midP prepF
        simp only
        rw [hbl, hk] at *
        rw [← e.1]
      rw [this]; exact h1
    · show (prepL _ _ _).2.2 = _
      rw [hbl, hk]; exact h2
  · have h1 : a.1 = 1 := by omega
    rw [if_neg h0]
    have hpk := R.val k hk31
    have hneg : x.2.2.1.getD k 0 < 0 ↔ prp (s.ba k) = false := by
      rw [hpk]
      constructor
      · intro h
        cases hp : prp (s.ba k) with
        | false => rfl
        | true =>
          rw [if_pos hp] at h
          have := R.pos k hk31 hp
          omega
      · intro h
        rw [if_neg (by rw [h]; decide)]; decide
    have hden : denyR x a = true ↔ ((s.bs.getD a.2.1.toNat zB).2.2.2.2.2.1 = false ∧ mostB s.ms.length (s.bs.getD a.2.1.toNat zB).1 = false) := by
      unfold denyR
      rw [hkn, h1, hk, R.pro k hk31, more_most R.n]
      show (true && (decide (x.2.2.1.getD k 0 < 0) && !mostB s.ms.length (s.ba k).1)) = true ↔ (prp (s.ba k) = false ∧ mostB s.ms.length (s.ba k).1 = false)
      rw [← hneg]
      simp
    by_cases hD : (s.bs.getD a.2.1.toNat zB).2.2.2.2.2.1 = false ∧ mostB s.ms.length (s.bs.getD a.2.1.toNat zB).1 = false
    · rw [if_pos hD, if_pos (hden.2 hD)]
      exact ⟨R, rfl, rfl, by simp only; omega⟩
    · rw [if_neg hD, if_neg (fun h => hD (hden.1 h))]
      have e := prpB_1 (s.ba k) a.2.2.1
      have hq : k < s.bs.length := by omega
      have hb := g.inv.pr _ (getD_mem (z := zB) hq)
      have hs1 := rel_propose (s' := midA s k (prpB (s.ba k) a.2.2.1) (accL k (vl (prpB (s.ba k) a.2.2.1)) s.ms [])) R g.safe k a.2.2.1 hk31 hok.2.2.1.1 rfl (fun j => rfl) (fun c => by
        show (s.bs.set _ _).getD c zB = _
        rw [Int.toNat_natCast, getD_set _ _ _ _ _ hq]
        split
        · rw [show (accL (k : Int) (vl (prpB (s.ba k) a.2.2.1)) s.ms []).2 = 0 from rfl, orI_zero (by rw [e.2.1]; exact hb.2.2.1)]
        · rfl)
      have hva : valsR x a = if x.2.2.1.getD k 0 < 0 then x.2.2.1.set k (bestR x.2.1 (k : Int) a.2.2.1).2 else x.2.2.1 := by
        unfold valsR
        rw [hkn, hk]
        by_cases h : x.2.2.1.getD k 0 < 0
        · rw [if_pos ⟨h1, h⟩, if_pos h]
        · rw [if_neg (fun hh => h hh.2), if_neg h]
      rw [← hva] at hs1
      have hvb : (valsR x a).getD k 0 = vl (prpB (s.ba k) a.2.2.1) := by
        have := hs1.val k hk31
        have hbk : (midA s k (prpB (s.ba k) a.2.2.1) (accL k (vl (prpB (s.ba k) a.2.2.1)) s.ms [])).ba k = ((prpB (s.ba k) a.2.2.1).1, orI (prpB (s.ba k) a.2.2.1).2.1 0, (prpB (s.ba k) a.2.2.1).2.2) := by
          show (s.bs.set _ _).getD _ _ = _
          rw [Int.toNat_natCast, gset _ _ _ _ hq]; rfl
        rw [hbk] at this
        rw [show prp ((prpB (s.ba k) a.2.2.1).1, orI (prpB (s.ba k) a.2.2.1).2.1 0, (prpB (s.ba k) a.2.2.1).2.2) = true from e.2.2.2.2.1, if_pos rfl] at this
        exact this
      obtain ⟨h3, h4⟩ := acc_loop g.inv R.mem a h1 k hk hk31 t ht (prpB (s.ba k) a.2.2.1) hvb hs1 s.ms.length (Nat.le_refl _)
      refine ⟨?_, ?_, rfl, hll⟩
      · show Rel (accF s a).2 _
        have : (accF s a).2 = midA s k (prpB (s.ba k) a.2.2.1) (accL k (vl (prpB (s.ba k) a.2.2.1)) s.ms (bl t s.ms.length)) := by
          unfold midA accF
          simp only
          rw [hbl, hk, Int.toNat_natCast]
          rfl
        rw [this]; exact h3
      · show (accL _ _ _ _).2 = _
        rw [hbl, hk, Int.toNat_natCast]; exact h4
theorem rel_chosen {s : Sy} {x : SR} (R : Rel s x) (hb : s.bs.length = 31) (S : Safe s) : chosenF s = choR x 31 := by
  have key : ∀ k, k ≤ 31 → chosenF ⟨s.ms, s.bs.take k⟩ = choR x k := by
    intro k
    induction k with
    | zero => intro _; rfl
    | succ k ih =>
      intro hk
      rw [take_snoc zB (by omega), chosen_snoc, ih (by omega), choR_succ, R.acc k (by omega), more_most R.n]
      congr 1
      show (if mostB s.ms.length (s.ba k).2.1 = true then [(s.ba k).2.2.2.2.1] else []) = _
      by_cases h : mostB s.ms.length (s.ba k).2.1 = true
      · rw [if_pos h, if_pos h]
        congr 1
        obtain ⟨i, hi⟩ := most_some h
        have hp := (S.acc k (by omega) i hi).2
        rw [R.val k (by omega), if_pos hp]
      · rw [if_neg h, if_neg h]
  have := key 31 (Nat.le_refl _)
  rw [List.take_of_length_le (by omega)] at this
  exact this
end Go.Proofs.YtdpnakebhpecfaaDoor.P

namespace Go.Proofs.YtdpnakebhpecfaaDoor
open Go.RowKit Go.Extern.Stop Go.Stop Go.Extern

/-- errors.As(nil, target). -/
theorem as_nil (t : Value) (w : World) :
    Calls Tryd.prog 40 #[.nilIface, t] w fun e w' => e = .returned (.bool false) ∧ w' = w := by
  go_enter Tryd.func40, Tryd.ntmps40
  go_wp2
  go_ret
  exact ⟨rfl, rfl⟩

/-! ### CLOSED FACTS ON THE MODEL's ENTRIES FOR internal/reflectlite, at this program's types: 25: *p.E · 27: **p.E · 23: error · 45: reflectlite's rtype · 1: how many package-level variables the dump has -/
theorem Tas.valueOf27 (t : Addr) (w : World) : (ReflectliteValue.unpack (.iface 81 (.pointer (some t)))).run Tryd.prog w
    = .ok (.agg #[.pointer (some ⟨3, 81, none⟩), .pointer (some ⟨w.heap.size, 0, none⟩), .int .u64 150]) (w.alloc (.cells #[.pointer (some t)] 81)) := by kernel_rfl
theorem Tas.type27 (a : Addr) (w : World) : (ReflectliteValue.methodAny (ReflectliteValue.valueError "reflectlite.Value.Type" 0) (fun t _ _ _ => ReflectliteType.toType t) #[.agg #[.pointer (some ⟨3, 81, none⟩), .pointer (some a), .int .u64 150]]).run Tryd.prog w
    = .ok (.iface 105 (.agg #[.pointer (some ⟨3, 81, none⟩)])) w := by kernel_rfl
theorem Tas.methodKind (h : Value) (w : World) : (Go.method 247 105 (.agg #[h]) "Kind").run Tryd.prog w = .ok (70, h) w := by kernel_rfl
theorem Tas.kind27 (w : World) : ((ReflectliteType.abiMethod fun t => (fun a : Nat => Value.int IntKind.u8 (a : Int)) <$> Rtype.kind t) #[.pointer (some ⟨3, 81, none⟩)]).run Tryd.prog w = .ok (.int .u8 22) w := by kernel_rfl
theorem Tas.kind25 (w : World) : ((ReflectliteType.abiMethod fun t => (fun a : Nat => Value.int IntKind.u8 (a : Int)) <$> Rtype.kind t) #[.pointer (some ⟨3, 54, none⟩)]).run Tryd.prog w = .ok (.int .u8 2) w := by kernel_rfl

/-! ### THE ENTRIES THAT READ OR WRITE MEMORY: laws with a premise on the cell (after Derived/Lib/ReflectliteSlice.lean's manner: each unfolding a lemma of its own, by rfl) -/
theorem rlm (z : Sem Value) (f : TypeId → Addr → Nat → Nat → Sem Value) (v : Value) :
    ReflectliteValue.method z f #[v] = (do match ← ReflectliteValue.parts v with | none => z | some (t, a, fl) => f t a fl (fl % 32)) := rfl
theorem Tas.parts27 (a : Addr) (w : World) : (ReflectliteValue.parts (.agg #[.pointer (some ⟨3, 81, none⟩), .pointer (some a), .int .u64 150])).run Tryd.prog w = .ok (some (81, a, 150)) w := by kernel_rfl
/-- (Value).IsNil at the Value of a **p.E that is not nil. -/
theorem Tas.isNil27 (a p : Addr) (W : World) (ha : W.cell? a = some (.pointer (some p))) :
    (ReflectliteValue.method (ReflectliteValue.valueError "reflectlite.Value.IsNil" 0) ReflectliteValue.isNil #[.agg #[.pointer (some ⟨3, 81, none⟩), .pointer (some a), .int .u64 150]]).run Tryd.prog W = .ok (.bool false) W := by
  rw [rlm]
  simp only [Sem.run_bind, Tas.parts27, Result.andThen]
  simp [ReflectliteValue.isNil, loadVar, isAgg, underlying, Tryd.underlying81, ha, Result.andThen]

theorem Tas.methodElem (h : Value) (w : World) : (Go.method 247 105 (.agg #[h]) "Elem").run Tryd.prog w = .ok (80, .agg #[h]) w := by kernel_rfl
theorem Tas.methodImplements (h : Value) (w : World) : (Go.method 247 105 (.agg #[h]) "Implements").run Tryd.prog w = .ok (81, .agg #[h]) w := by kernel_rfl
theorem Tas.methodAssignableTo (h : Value) (w : World) : (Go.method 247 105 (.agg #[h]) "AssignableTo").run Tryd.prog w = .ok (78, .agg #[h]) w := by kernel_rfl
theorem Tas.elem27 (w : World) : (ReflectliteType.method ReflectliteType.elem #[.agg #[.pointer (some ⟨3, 81, none⟩)]]).run Tryd.prog w = .ok (.iface 105 (.agg #[.pointer (some ⟨3, 54, none⟩)])) w := by kernel_rfl
theorem Tas.implements25 (w : World) : (ReflectliteType.relation "Implements" ReflectliteType.implements_ #[.agg #[.pointer (some ⟨3, 54, none⟩)], .iface 105 (.agg #[.pointer (some ⟨3, 26, none⟩)])]).run Tryd.prog w = .ok (.bool true) w := by kernel_rfl
theorem Tas.typeOf25 (v : Value) (w : World) : (ReflectliteType.typeOf #[.iface 54 v]).run Tryd.prog w = .ok (.iface 105 (.agg #[.pointer (some ⟨3, 54, none⟩)])) w := by kernel_rfl
theorem Tas.assignable25 (w : World) : (ReflectliteType.relation "AssignableTo" ReflectliteType.assignableTo #[.agg #[.pointer (some ⟨3, 54, none⟩)], .iface 105 (.agg #[.pointer (some ⟨3, 54, none⟩)])]).run Tryd.prog w = .ok (.bool true) w := by kernel_rfl
theorem Tas.valueOf25 (e : Int) (w : World) : (ReflectliteValue.unpack (.iface 54 (.int .i64 e))).run Tryd.prog w
    = .ok (.agg #[.pointer (some ⟨3, 54, none⟩), .pointer (some ⟨w.heap.size, 0, none⟩), .int .u64 130]) (w.alloc (.cells #[.int .i64 e] 54)) := by kernel_rfl

theorem Tas.elemOf27 (w : World) : (Rtype.elem? 81).run Tryd.prog w = .ok (some 54) w := by kernel_rfl
theorem Tas.mk25 (p : Addr) (w : World) : (ReflectliteValue.mk 54 p ReflectliteValue.flagAddr).run Tryd.prog w = .ok (.agg #[.pointer (some ⟨3, 54, none⟩), .pointer (some p), .int .u64 386]) w := by kernel_rfl
/-- (Value).Elem at the Value of a **p.E that is not nil: the Value of the *p.E variable that it points to, addressable. -/
theorem Tas.elemV27 (a p : Addr) (W : World) (ha : W.cell? a = some (.pointer (some p))) :
    (ReflectliteValue.method (ReflectliteValue.valueError "reflectlite.Value.Elem" 0) ReflectliteValue.elem #[.agg #[.pointer (some ⟨3, 81, none⟩), .pointer (some a), .int .u64 150]]).run Tryd.prog W
      = .ok (.agg #[.pointer (some ⟨3, 54, none⟩), .pointer (some p), .int .u64 386]) W := by
  rw [rlm]
  simp only [Sem.run_bind, Tas.parts27, Result.andThen]
  simp [ReflectliteValue.elem, loadVar, isAgg, underlying, Tryd.underlying81, ha, Result.andThen, Tas.elemOf27, Tas.mk25]
theorem rls (v x : Value) : ReflectliteValue.set #[v, x] = (do
    let (some (dst, a, fl), some (src, b, _)) := (← ReflectliteValue.parts v, ← ReflectliteValue.parts x)
      | unsupported (.noEntry "extern/(internal/reflectlite.Value).Set.zeroValue")
    if fl / ReflectliteValue.flagAddr % 2 == 0 then unsupported (.noEntry "extern/(internal/reflectlite.Value).Set.unaddressable")
    let val ← loadVar src b
    if ← Rtype.directlyAssignable dst src then storeVar dst a val
    else if ← Rtype.implements dst src then
      if (← Rtype.kind src) == 20 then
        match val with
        | .nilIface => unsupported (.noEntry "extern/reflectlite: a nil value of one interface type handed on as a value of another")
        | _ => storeVar dst a val
      else storeVar dst a (.iface src val)
    else panicString ("reflectlite.Set: value of type " ++ (← Rtype.spelt src) ++ " is not assignable to type " ++ (← Rtype.spelt dst))
    pure (.tuple #[])) := rfl
theorem Tas.parts25a (a : Addr) (w : World) : (ReflectliteValue.parts (.agg #[.pointer (some ⟨3, 54, none⟩), .pointer (some a), .int .u64 386])).run Tryd.prog w = .ok (some (54, a, 386)) w := by kernel_rfl
theorem Tas.parts25 (a : Addr) (w : World) : (ReflectliteValue.parts (.agg #[.pointer (some ⟨3, 54, none⟩), .pointer (some a), .int .u64 130])).run Tryd.prog w = .ok (some (54, a, 130)) w := by kernel_rfl
theorem Tas.direct25 (w : World) : (Rtype.directlyAssignable 54 54).run Tryd.prog w = .ok true w := by kernel_rfl
theorem Tas.size25 (w : World) : (sizeOf 54).run Tryd.prog w = .ok 1 w := by kernel_rfl
/-- (Value).Set: the *p.E variable at 'ta' gets what the Value's own variable 'b' holds. -/
theorem Tas.set25 (ta b : Addr) (e : Int) (old : Value) (W : World) (hb : W.cell? b = some (.int .i64 e)) (ht : W.cell? ta = some old) (hf : W.frozen? ta = false) :
    (ReflectliteValue.set #[.agg #[.pointer (some ⟨3, 54, none⟩), .pointer (some ta), .int .u64 386], .agg #[.pointer (some ⟨3, 54, none⟩), .pointer (some b), .int .u64 130]]).run Tryd.prog W
      = .ok (.tuple #[]) (W.setCell ta (.int .i64 e)) := by
  rw [rls]
  simp only [Sem.run_bind, Tas.parts25a, Tas.parts25, Result.andThen]
  simp [ReflectliteValue.flagAddr, loadVar, isAgg, underlying, Tryd.underlying54, hb, Result.andThen, Tas.direct25, storeVar, Value.cells, storeCells, Addr.add]
  rw [run_store Tryd.prog W ta _ _ (by rfl)]
  simp [ht, hf]

set_option maxRecDepth 100000 in
set_option maxHeartbeats 4000000 in
theorem as_hit (e : Int) (t : Addr) (old : Value) (w : World) (hg : w.cell? ⟨0, 0, none⟩ = some (.iface 105 (.agg #[.pointer (some ⟨3, 26, none⟩)]))) (ht0 : w.cell? t = some old) (hf0 : w.frozen? t = false) :
    Calls Tryd.prog 40 #[.iface 54 (.int .i64 e), .iface 81 (.pointer (some t))] w fun ev w' => ev = .returned (.bool true) ∧ w' = ((((w.alloc (.cells #[.pointer (some t)] 81)).alloc (.cells #[.pointer (some ⟨3, 81, none⟩), .pointer (some ⟨w.heap.size, 0, none⟩), .int .u64 150] 93)).alloc (.cells #[.pointer (some ⟨3, 81, none⟩), .pointer (some ⟨w.heap.size, 0, none⟩), .int .u64 150] 93)).alloc (.cells #[.int .i64 e] 54)).setCell t (.int .i64 e) := by
  have h6 := @run_callFunc_extern Tryd.prog 47 _ (fun args => ReflectliteValue.unpack (args.getD 0 (.tuple #[]))) Tryd.func47 (by kernel_rfl) (by kernel_rfl) (by kernel_rfl) (by kernel_rfl)
  have h7 := @run_callFunc_extern Tryd.prog 48 _ (ReflectliteValue.methodAny (ReflectliteValue.valueError "reflectlite.Value.Type" 0) (fun t _ _ _ => ReflectliteType.toType t)) Tryd.func48 (by kernel_rfl) (by kernel_rfl) (by kernel_rfl) (by kernel_rfl)
  have h8 := @run_callFunc_extern Tryd.prog 49 _ (ReflectliteValue.method (ReflectliteValue.valueError "reflectlite.Value.IsNil" 0) ReflectliteValue.isNil) Tryd.func49 (by kernel_rfl) (by kernel_rfl) (by kernel_rfl) (by kernel_rfl)
  have h27 := @run_callFunc_extern Tryd.prog 70 _ (ReflectliteType.abiMethod fun t => do pure (.int .u8 (← Rtype.kind t))) Tryd.func70 (by kernel_rfl) (by kernel_rfl) (by kernel_rfl) (by kernel_rfl)
  have h37 := @run_callFunc_extern Tryd.prog 80 _ (ReflectliteType.method ReflectliteType.elem) Tryd.func80 (by kernel_rfl) (by kernel_rfl) (by kernel_rfl) (by kernel_rfl)
  have h38 := @run_callFunc_extern Tryd.prog 81 _ (ReflectliteType.relation "Implements" ReflectliteType.implements_) Tryd.func81 (by kernel_rfl) (by kernel_rfl) (by kernel_rfl) (by kernel_rfl)
  have h10 := @run_callFunc_extern Tryd.prog 53 _ ReflectliteType.typeOf Tryd.func53 (by kernel_rfl) (by kernel_rfl) (by kernel_rfl) (by kernel_rfl)
  have h35 := @run_callFunc_extern Tryd.prog 78 _ (ReflectliteType.relation "AssignableTo" ReflectliteType.assignableTo) Tryd.func78 (by kernel_rfl) (by kernel_rfl) (by kernel_rfl) (by kernel_rfl)
  have h11 := @run_callFunc_extern Tryd.prog 54 _ (ReflectliteValue.method (ReflectliteValue.valueError "reflectlite.Value.Elem" 0) ReflectliteValue.elem) Tryd.func54 (by kernel_rfl) (by kernel_rfl) (by kernel_rfl) (by kernel_rfl)
  have h12 := @run_callFunc_extern Tryd.prog 55 _ ReflectliteValue.set Tryd.func55 (by kernel_rfl) (by kernel_rfl) (by kernel_rfl) (by kernel_rfl)
  have tO := Tas.typeOf25
  have mA := Tas.methodAssignableTo
  have a25 := Tas.assignable25
  have v25 := Tas.valueOf25
  have f6 := Tas.valueOf27
  have f7 := Tas.type27
  have mK := Tas.methodKind
  have mE := Tas.methodElem
  have mI := Tas.methodImplements
  have k27 := Tas.kind27
  have k25 := Tas.kind25
  have e27 := Tas.elem27
  have i25 := Tas.implements25
  have n8 := Tas.isNil27 ⟨w.heap.size, 0, none⟩ t ((w.alloc (.cells #[.pointer (some t)] 81)).alloc (.cells #[.pointer (some ⟨3, 81, none⟩), .pointer (some ⟨w.heap.size, 0, none⟩), .int .u64 150] 93)) (by simp)
  have hlt : 0 < w.heap.size := by
    rcases Nat.eq_zero_or_pos w.heap.size with h0 | h
    · simp [World.cell?, h0] at hg
    · exact h
  have hg2 : ((w.alloc (.cells #[.pointer (some t)] 81)).alloc (.cells #[.pointer (some ⟨3, 81, none⟩), .pointer (some ⟨w.heap.size, 0, none⟩), .int .u64 150] 93)).cell? ⟨0, 0, none⟩ = some (.iface 105 (.agg #[.pointer (some ⟨3, 26, none⟩)])) := by
    rw [World.cell?_alloc_lt _ _ ⟨0, 0, none⟩ (by simp), World.cell?_alloc_lt _ _ ⟨0, 0, none⟩ hlt]; exact hg
  have htl : t.block < w.heap.size := by
    rcases Nat.lt_or_ge t.block w.heap.size with h | h
    · exact h
    · simp [World.cell?, Array.getElem?_eq_none h] at ht0
  have el := Tas.elemV27 ⟨w.heap.size, 0, none⟩ t (((w.alloc (.cells #[.pointer (some t)] 81)).alloc (.cells #[.pointer (some ⟨3, 81, none⟩), .pointer (some ⟨w.heap.size, 0, none⟩), .int .u64 150] 93)).alloc (.cells #[.pointer (some ⟨3, 81, none⟩), .pointer (some ⟨w.heap.size, 0, none⟩), .int .u64 150] 93)) (by rw [World.cell?_alloc_lt _ _ ⟨w.heap.size, 0, none⟩ (by simp; omega)]; simp)
  have st := Tas.set25 t ⟨w.heap.size + 1 + 1 + 1, 0, none⟩ e old ((((w.alloc (.cells #[.pointer (some t)] 81)).alloc (.cells #[.pointer (some ⟨3, 81, none⟩), .pointer (some ⟨w.heap.size, 0, none⟩), .int .u64 150] 93)).alloc (.cells #[.pointer (some ⟨3, 81, none⟩), .pointer (some ⟨w.heap.size, 0, none⟩), .int .u64 150] 93)).alloc (.cells #[.int .i64 e] 54))
    (by rw [World.cell?_alloc_at _ _ _ _ (by simp)]; rfl)
    (by rw [World.cell?_alloc_lt _ _ t (by simp; omega), World.cell?_alloc_lt _ _ t (by simp; omega), World.cell?_alloc_lt _ _ t (by simp; omega), World.cell?_alloc_lt _ _ t htl]; exact ht0)
    (by rw [World.frozen?_alloc_old _ _ t (by simp; omega), World.frozen?_alloc_old _ _ t (by simp; omega), World.frozen?_alloc_old _ _ t (by simp; omega), World.frozen?_alloc_old _ _ t (Nat.ne_of_lt htl)]; exact hf0)
  go_enter Tryd.func40, Tryd.ntmps40
  go_wp2
  refine wp_loop_rounds 1 ?_
  rw [rounds_succ]
  go_wp2
  go_ret
  exact ⟨rfl, rfl⟩
end Go.Proofs.YtdpnakebhpecfaaDoor

/- The number of an error, as the program tells it; is an error the one with a number? -/
namespace Go.Proofs.YtdpnakebhpecfaaDoor
open Go.RowKit Go.Extern.Stop Go.Stop Go.Extern Go.Vc

theorem fr_alloc (w : World) (o : Obj) : Fr (fun _ => False) w (w.alloc o) := ⟨rfl, rfl, rfl, by simp, fun b hb _ => Ext.alloc w o b hb⟩

theorem told_nil (w : World) : Calls Tryd.prog 30 #[.nilIface] w fun e w' => e = .returned (.int .i64 0) ∧ w' = w := by
  go_enter Tryd.func30, Tryd.ntmps30
  go_wp2
  go_ret
  exact ⟨rfl, rfl⟩

set_option maxRecDepth 100000 in
set_option maxHeartbeats 4000000 in
theorem told_hit (n : Int) (w : World) (hg : w.cell? ⟨0, 0, none⟩ = some (.iface 105 (.agg #[.pointer (some ⟨3, 26, none⟩)]))) :
    Calls Tryd.prog 30 #[.iface 54 (.int .i64 n)] w fun e w' => e = .returned (.int .i64 n) ∧ Fr (fun _ => False) w w' := by
  have hlt : 0 < w.heap.size := World.block_lt_of_cell? w ⟨0, 0, none⟩ hg
  have hgA : (w.alloc (.cells #[.int .i64 0] 54)).cell? ⟨0, 0, none⟩ = some (.iface 105 (.agg #[.pointer (some ⟨3, 26, none⟩)])) := by
    rw [World.cell?_alloc_lt _ _ ⟨0, 0, none⟩ hlt]; exact hg
  have htA : (w.alloc (.cells #[.int .i64 0] 54)).cell? ⟨w.heap.size, 0, none⟩ = some (.int .i64 0) := by simp
  have hfA : (w.alloc (.cells #[.int .i64 0] 54)).frozen? ⟨w.heap.size, 0, none⟩ = false := by simp
  go_enter Tryd.func30, Tryd.ntmps30
  go_wp2_with (go_at_call 40; refine (as_hit n _ (.int .i64 0) _ hgA htA hfA).mono ?_; rintro e w' ⟨rfl, rfl⟩)
  go_ret
  exact ⟨rfl, ((((fr_alloc _ _).trans (fr_alloc _ _)).trans (fr_alloc _ _)).trans (fr_alloc _ _)).trans (fr_alloc _ _)⟩

/-- the handle of the type 'error' -/
abbrev hdE : Value := .iface 105 (.agg #[.pointer (some ⟨3, 26, none⟩)])
def glE : List (Nat × Dat) := [(0, ⟨.raw, hdE⟩)]
theorem hd_of {w : World} {ro : Nat → Prop} (h : GlOk glE w ro) : w.cell? ⟨0, 0, none⟩ = some hdE := by
  obtain ⟨_, us, h1, hn⟩ := h 0 _ (List.mem_singleton.2 rfl)
  have hn : us = [hdE] ∧ hdE.oneCell' = true := hn
  exact h1 0 hdE (by rw [hn.1]; rfl)
def cTold : Ctr := cdet [tErr] (fun (n : Int) => inK .i64 n) (fun (n : Int) => [⟨I, n⟩])
theorem okTold : PlainOk Tryd.prog glE 30 cTold := by
  intro ds k hs w R0 vals hR0 hG hD
  obtain ⟨hp, hk⟩ := hs
  obtain ⟨n, rfl, hin⟩ := dest1 hp
  have hk : k [⟨I, n⟩] := hk
  obtain ⟨hl, hd⟩ := hD
  match vals, hl with
  | [v], _ =>
    have hv : Ty.okV w R0 tErr n v := hd 0 ⟨tErr, n⟩ v rfl rfl
    unfold Ty.okV at hv
    simp only [Ty.agg, Bool.false_eq_true, if_false, Ty.ok] at hv
    have hok : ∀ {w' : World} {ro : Nat → Prop}, inK .i64 n → RetOk w' ro [(⟨I, n⟩ : Dat)] (.int .i64 n) := by
      intro w' ro hn
      show Ty.okV _ _ I n _
      unfold Ty.okV
      simp only [Ty.agg, Bool.false_eq_true, if_false, Ty.ok]
      exact ⟨trivial, hn⟩
    rcases hv with ⟨h0, hv⟩ | ⟨h0, hv⟩
    · injection hv with hv
      subst hv
      have h0 : (0 : Int) = n := h0.symm
      subst h0
      refine (show Calls Tryd.prog 30 #[.nilIface] w _ from told_nil w).mono fun e w' ⟨he, hw⟩ => ?_
      subst hw
      exact ⟨Fr.refl _ _, [⟨I, (0 : Int)⟩], _, he, hk, hok hin⟩
    · injection hv with hv
      subst hv
      refine (show Calls Tryd.prog 30 #[.iface 54 (.int .i64 n)] w _ from told_hit n w (hd_of hG)).mono fun e w' ⟨he, hw⟩ => ?_
      exact ⟨hw, [⟨I, n⟩], _, he, hk, hok hin⟩
theorem PlainOk.sub {P : Program} {gl gl' : List (Nat × Dat)} {f : FuncId} {c : Ctr} (hs : ∀ x ∈ gl, x ∈ gl') (h : PlainOk P gl f c) : PlainOk P gl' f c :=
  fun ds k hk w R0 vals hR0 hG hD => h ds k hk w R0 vals hR0 (fun g d hg => hG g d (hs _ hg)) hD
def cError : Ctr := cdet [tErr, I] (fun (n _ : Int) => inK .i64 n ∧ True) (fun (n e : Int) => [⟨.bool, decide (n = e)⟩])
def Er : Env := { tys := [(3, I), (4, .bool), (26, tErr), (54, I)], errT := 54, eqs := [], els := [] }
theorem Er_ok : EnvOk Tryd.prog Er := EnvOk.of_list (by kernel_rfl) (by kernel_rfl) (by kernel_rfl)
set_option linter.unusedVariables false in
theorem vcError (n e : Int) (k : List Dat → Prop) : vcF ⟨Er, [(30, cTold)], glE, [], []⟩ [] (Tryd.f14.body.getD .skip) Tryd.f14.ntmps [(.tmp 4, .bool)] [⟨tErr, n⟩, ⟨I, e⟩] k = (
  IntKind.i64.wrap n = n ∧ k [Dat.mk Ty.bool (decide (n = e))]) := by kernel_rfl
theorem okError : PlainOk Tryd.prog glE 14 cError := by
  refine plain_of (CxOk.mk' Er_ok rfl (by kernel_rfl) (gl := glE) (GOk.cons okTold Tryd.func30 (by kernel_rfl) (by kernel_rfl) GOk.nil) GoOk.nil noIt) Tryd.func14 (c := Tryd.f14.body.getD .skip) (rvs := [(.tmp 4, .bool)]) (by kernel_rfl) (by kernel_rfl) (by kernel_rfl) ?_
  intro ds k ⟨hp, hk⟩ hwf
  obtain ⟨n, e, rfl, hin, -⟩ := dest2 hp
  have hk : k [⟨.bool, decide (n = e)⟩] := hk
  refine ⟨[], ?_⟩
  rw [vcError]
  exact ⟨hin, hk⟩
theorem glE_of {laid : List (String × DataW Unit)} (hm : ("errors.errorType", Rows.laid_errors_errorType) ∈ laid) {W : World} (h : laidMetH Tryd.prog laid W) : GlOk glE W fun b => b < W.heap.size :=
  gl_of_handle (n := "errors.errorType") (u := 105) (ty := 26) (d := Rows.laid_errors_errorType) h hm rfl rfl (by kernel_rfl) (by kernel_rfl) (by kernel_rfl) (by kernel_rfl) rfl
end Go.Proofs.YtdpnakebhpecfaaDoor

/- Synods: the law that the program does what the reference does. -/
namespace Go.Proofs.YtdpnakebhpecfaaDoor.P
open Go.Vc Go.Proofs.YtdpnakebhpecfaaDoor.V
def glA : List (Nat × Dat) := glT ++ glE
theorem subT : ∀ x ∈ glT, x ∈ glA := fun _ h => List.mem_append_left _ h
theorem subE : ∀ x ∈ glE, x ∈ glA := fun _ h => List.mem_append_right _ h
theorem ownSub {P : Program} {gl gl' : List (Nat × Dat)} {f : FuncId} {c : OCtr} (hs : ∀ x ∈ gl, x ∈ gl') (h : OwnOk P gl f c) : OwnOk P gl' f c :=
  fun args ob k hk w M R0 A vals hB hr I => h args ob k hk w M R0 A vals ⟨fun g d hg => hB.gl g d (hs _ hg), hB.lt, hB.me⟩ hr I
def newY (n : Int) : SR := newR n
def doY (x : SR) (a : As) : SR × Int × Int := doR x a
def memY (x : SR) (i : Int) : Int × Int × Int := memR x.2.1 i
def chY (x : SR) : List Int := choR x 31
theorem newY_eq (n : Int) : newY n = newR n := rfl
theorem doY_eq (x : SR) (a : As) : doY x a = doR x a := rfl
theorem memY_eq (x : SR) (i : Int) : memY x i = memR x.2.1 i := rfl
theorem chY_eq (x : SR) : chY x = choR x 31 := rfl
def memX (ms : List Me) (i : Int) : Int × Int × Int := memF ms i
theorem memX_eq (ms : List Me) (i : Int) : memX ms i = memF ms i := rfl
def preY (x : SR) : Prop := SrOk x ∧ x.2.1.length ≤ 100000
theorem preY_eq (x : SR) : preY x ↔ SrOk x ∧ x.2.1.length ≤ 100000 := Iff.rfl
def cNewY : Ctr := cdet [I] (fun _ => True) (fun n => [⟨tSR, newY n⟩])
def cDoY : Ctr := cdet [tSR, tAs] (fun (x : SR) (_ : As) => preY x ∧ True) (fun (x : SR) (a : As) => [⟨tSR, (doY x a).1⟩, ⟨I, (doY x a).2.1⟩, ⟨I, (doY x a).2.2⟩])
def cMemY : Ctr := cdet [tSR, I] (fun _ _ => True) (fun (x : SR) (i : Int) => [⟨I, (memY x i).1⟩, ⟨I, (memY x i).2.1⟩, ⟨I, (memY x i).2.2⟩])
def cMemX : Ctr := cdet [.ptr tSy, I] (fun (p : Option tSy.D) (_ : Int) => ∃ s : tSy.D, p = some s ∧ List.length s.1 ≤ 8) (fun (p : Option tSy.D) (i : Int) => [⟨I, (memX (p.getD ([], [], ())).1 i).1⟩, ⟨I, (memX (p.getD ([], [], ())).1 i).2.1⟩, ⟨I, (memX (p.getD ([], [], ())).1 i).2.2⟩])
def cChoY : Ctr := cdet [tSR] preY (fun (x : SR) => [⟨.sl I, chY x⟩])
/-- the reference once the first so many were asked -/
def xAt (n : Int) (l : List As) (i : Nat) : SR := (l.take i).foldl (fun x a => (doY x a).1) (newY n)
theorem xAt_zero (n : Int) (l : List As) : xAt n l 0 = newY n := rfl
theorem xAt_succ (n : Int) (l : List As) (i : Nat) (h : i < l.length) : xAt n l (i + 1) = (doY (xAt n l i) (l.getD i zA)).1 := by
  unfold xAt; rw [take_snoc zA h, List.foldl_append]; rfl
attribute [irreducible] xAt newY doY memY chY memX preY
theorem okNewY : PlainOk Tryd.prog glA 15 cNewY := by
  refine PlainOk.sub' subT (c := cNewY) ?_
  have := okNewR
  unfold cNewY; simp only [newY_eq]; exact this
theorem okMemY : PlainOk Tryd.prog glA 17 cMemY := by
  refine PlainOk.sub' subT (c := cMemY) ?_
  have := okMemR
  unfold cMemY; simp only [memY_eq]; exact this
theorem okDoY : PlainOk Tryd.prog glA 16 cDoY := by
  refine PlainOk.sub' subT (c := cDoY) ?_
  have := okDoR
  unfold cDoY; simp only [doY_eq, preY_eq, and_true]; exact this
theorem okMemX : PlainOk Tryd.prog glA 13 cMemX := by
  refine PlainOk.lift (c := cMemX) ?_
  have := okMember
  unfold cMemX; simp only [memX_eq]; exact this
theorem okChoY : PlainOk Tryd.prog glA 19 cChoY := by
  refine PlainOk.sub' subT (c := cChoY) ?_
  intro ds k ⟨h1, h2⟩
  obtain ⟨x, rfl, hx⟩ := dest1 h1
  have h3 : k [⟨.sl I, chY x⟩] := h2
  rw [chY_eq] at h3
  exact okChoR _ k ⟨((preY_eq x).1 hx).1, h3⟩
def Ey : Env := { tys := [(3, I), (4, .bool), (22, .sl tAs), (24, .ptr tSy), (26, tErr), (29, .sl I), (33, tAs), (41, .sl tDo), (43, tSR), (55, .sl tMe), (58, tMe), (60, tBa), (61, .ar 31 tBa), (63, tSy), (65, .ptr tBa), (71, .ptr tMe), (75, tDo)], errT := 54, eqs := [], els := [(22, 33), (29, 3), (55, 58), (41, 75)] }
theorem Ey_ok : EnvOk Tryd.prog Ey := EnvOk.of_list (by kernel_rfl) (by kernel_rfl) (by kernel_rfl)
def anPlays (n : Int) (l : List As) : Ann :=
  [joinAll,
   loopAt 8 Nat [] (fun st i => { St.at (St.only st [0, 1, 5, 7]) [(8, .d I (i : Int))] with ob := (sAt n l i).ob ++ [.var 43 tSR (xAt n l i)] }) (fun _ i => i ≤ l.length ∧ i ≤ 60) (fun i => l.length - i),
   loopAt 16 Nat [] (fun st k => St.at (St.only st [0, 1, 5, 7, 8]) [(14, .d I (k : Int))]) (fun _ k => (k : Int) ≤ n ∧ True) (fun k => n.toNat - k)]
end Go.Proofs.YtdpnakebhpecfaaDoor.P

/- What the functions of this seat have to satisfy, by program: each verification condition in plain words. -/
namespace Go.Proofs.YtdpnakebhpecfaaDoor
open Go.Vc Go.Proofs.YtdpnakebhpecfaaDoor.V Go.Proofs.YtdpnakebhpecfaaDoor.P
set_option linter.unusedVariables false
theorem vcPlays (n : Int) (l : List As) (k : List Dat → Prop) : vcF ⟨Ey, [(14, cError), (15, cNewY), (16, cDoY), (17, cMemY), (13, cMemX), (19, cChoY), (18, cInts)], glA, [], [(9, oNew), (10, oDoX), (11, oChX)]⟩ (anPlays n l) (Tryd.f6.body.getD .skip) Tryd.f6.ntmps [(.tmp 4, .bool)] [⟨I, n⟩, ⟨.sl tAs, l⟩] k = (
  (inB n (1 : Int) (8 : Int) = true → (decide (n < (1 : Int)) = true → (inK IntKind.i64 (0 : Int) ∧ True) ∧ k [Dat.mk Ty.bool (decide ((0 : Int) = (1 : Int)))]) ∧ (decide (n < (1 : Int)) = false → (decide ((8 : Int) < n) = true → (inK IntKind.i64 (0 : Int) ∧ True) ∧ k [Dat.mk Ty.bool (decide ((0 : Int) = (1 : Int)))]) ∧ (decide ((8 : Int) < n) = false → ((!decide ((0 : Int) = (0 : Int))) = true → k [Dat.mk Ty.bool false]) ∧ ((!decide ((0 : Int) = (0 : Int))) = false → True ∧ (∃ (x : Nat), (x ≤ l.length ∧ x ≤ (60 : Nat)) ∧ (n = n ∧ l = l ∧ True ∧ ([] : List Nat) = [] ∧ (0 : Int) = (↑x : Int) ∧ True) ∧ ((True ∧ List.replicate (31 : Nat) nB = (sAt n l x).bs ∧ True) ∧ ((58 : Nat) = (58 : Nat) ∧ List.replicate n.toNat nM = (sAt n l x).ms) ∧ ((43 : Nat) = (43 : Nat) ∧ newY n = xAt n l x) ∧ True) ∧ tabD = tabD ∧ hdE = hdE ∧ True) ∧ ∀ (x : Nat), x ≤ l.length ∧ x ≤ (60 : Nat) → (decide ((↑x : Int) < (↑l.length : Int)) = true → (decide ((↑x : Int) < (60 : Int)) = true → (0 : Int) ≤ (↑x : Int) ∧ (↑x : Int) < (↑l.length : Int) ∧ (preY (xAt n l x) ∧ True) ∧ (0 : Int) ≤ (↑x : Int) ∧ (↑x : Int) < (↑l.length : Int) ∧ (preY (xAt n l x) ∧ True) ∧ (n = n ∧ l = l ∧ SV.ps (0 : Nat) = SV.ps (0 : Nat) ∧ SV.pv ((I).pr (((I).pr ((I).pr ((I).pr ((I).pr ((I).pr Ty.un))))).sl.pr ((I).sl.pr Ty.un))) (2 : Nat) [] = SV.pv ((I).pr (((I).pr ((I).pr ((I).pr ((I).pr ((I).pr Ty.un))))).sl.pr ((I).sl.pr Ty.un))) (2 : Nat) [] ∧ (↑x : Int) = (↑x : Int) ∧ (↑x : Int) = (↑x : Int) ∧ l = l ∧ (↑l.length : Int) = (↑l.length : Int) ∧ decide ((↑x : Int) < (↑l.length : Int)) = decide ((↑x : Int) < (↑l.length : Int)) ∧ SV.bt true = SV.bt true ∧ (↑x : Int) = (↑x : Int) ∧ decide ((↑x : Int) < (60 : Int)) = decide ((↑x : Int) < (60 : Int)) ∧ decide ((↑x : Int) < (60 : Int)) = decide ((↑x : Int) < (60 : Int)) ∧ SV.tp [SV.d ((I).pr (((I).pr ((I).pr ((I).pr ((I).pr ((I).pr Ty.un))))).sl.pr ((I).sl.pr Ty.un))) (doY (xAt n l x) (l.getD (↑x : Int).toNat ((0 : Int), (0 : Int), (0 : Int), (0 : Int), ()))).fst, SV.d (I) (doY (xAt n l x) (l.getD (↑x : Int).toNat ((0 : Int), (0 : Int), (0 : Int), (0 : Int), ()))).snd.fst, SV.d (I) (doY (xAt n l x) (l.getD (↑x : Int).toNat ((0 : Int), (0 : Int), (0 : Int), (0 : Int), ()))).snd.snd] = SV.tp [SV.d ((I).pr (((I).pr ((I).pr ((I).pr ((I).pr ((I).pr Ty.un))))).sl.pr ((I).sl.pr Ty.un))) (doY (xAt n l x) (l.getD (↑x : Int).toNat ((0 : Int), (0 : Int), (0 : Int), (0 : Int), ()))).fst, SV.d (I) (doY (xAt n l x) (l.getD (↑x : Int).toNat ((0 : Int), (0 : Int), (0 : Int), (0 : Int), ()))).snd.fst, SV.d (I) (doY (xAt n l x) (l.getD (↑x : Int).toNat ((0 : Int), (0 : Int), (0 : Int), (0 : Int), ()))).snd.snd] ∧ xAt n l x = xAt n l x ∧ l = l ∧ (↑x : Int) = (↑x : Int) ∧ SV.ra ((I).pr ((I).pr ((I).pr ((I).pr Ty.un)))) (l.getD (↑x : Int).toNat ((0 : Int), (0 : Int), (0 : Int), (0 : Int), ())) = SV.ra ((I).pr ((I).pr ((I).pr ((I).pr Ty.un)))) (l.getD (↑x : Int).toNat ((0 : Int), (0 : Int), (0 : Int), (0 : Int), ())) ∧ l.getD (↑x : Int).toNat ((0 : Int), (0 : Int), (0 : Int), (0 : Int), ()) = l.getD (↑x : Int).toNat ((0 : Int), (0 : Int), (0 : Int), (0 : Int), ()) ∧ SV.tp [SV.d ((I).pr (((I).pr ((I).pr ((I).pr ((I).pr ((I).pr Ty.un))))).sl.pr ((I).sl.pr Ty.un))) (doY (xAt n l x) (l.getD (↑x : Int).toNat ((0 : Int), (0 : Int), (0 : Int), (0 : Int), ()))).fst, SV.d (I) (doY (xAt n l x) (l.getD (↑x : Int).toNat ((0 : Int), (0 : Int), (0 : Int), (0 : Int), ()))).snd.fst, SV.d (I) (doY (xAt n l x) (l.getD (↑x : Int).toNat ((0 : Int), (0 : Int), (0 : Int), (0 : Int), ()))).snd.snd] = SV.tp [SV.d ((I).pr (((I).pr ((I).pr ((I).pr ((I).pr ((I).pr Ty.un))))).sl.pr ((I).sl.pr Ty.un))) (doY (xAt n l x) (l.getD (↑x : Int).toNat ((0 : Int), (0 : Int), (0 : Int), (0 : Int), ()))).fst, SV.d (I) (doY (xAt n l x) (l.getD (↑x : Int).toNat ((0 : Int), (0 : Int), (0 : Int), (0 : Int), ()))).snd.fst, SV.d (I) (doY (xAt n l x) (l.getD (↑x : Int).toNat ((0 : Int), (0 : Int), (0 : Int), (0 : Int), ()))).snd.snd] ∧ (doY (xAt n l x) (l.getD (↑x : Int).toNat ((0 : Int), (0 : Int), (0 : Int), (0 : Int), ()))).fst = (doY (xAt n l x) (l.getD (↑x : Int).toNat ((0 : Int), (0 : Int), (0 : Int), (0 : Int), ()))).fst ∧ (doY (xAt n l x) (l.getD (↑x : Int).toNat ((0 : Int), (0 : Int), (0 : Int), (0 : Int), ()))).snd.fst = (doY (xAt n l x) (l.getD (↑x : Int).toNat ((0 : Int), (0 : Int), (0 : Int), (0 : Int), ()))).snd.fst ∧ (doY (xAt n l x) (l.getD (↑x : Int).toNat ((0 : Int), (0 : Int), (0 : Int), (0 : Int), ()))).snd.snd = (doY (xAt n l x) (l.getD (↑x : Int).toNat ((0 : Int), (0 : Int), (0 : Int), (0 : Int), ()))).snd.snd ∧ True) ∧ (0 : Int) ≤ (↑x : Int) ∧ (↑x : Int) < (↑l.length : Int) ∧ SyInv (Sy.mk (sAt n l x).ms (sAt n l x).bs) ∧ (inK IntKind.i64 (doX (Sy.mk (sAt n l x).ms (sAt n l x).bs) (l.getD (↑x : Int).toNat ((0 : Int), (0 : Int), (0 : Int), (0 : Int), ()))).fst.snd ∧ True) ∧ ((!decide ((doX (Sy.mk (sAt n l x).ms (sAt n l x).bs) (l.getD (↑x : Int).toNat ((0 : Int), (0 : Int), (0 : Int), (0 : Int), ()))).fst.snd = (doY (xAt n l x) (l.getD (↑x : Int).toNat ((0 : Int), (0 : Int), (0 : Int), (0 : Int), ()))).snd.snd)) = true → k [Dat.mk Ty.bool false]) ∧ ((!decide ((doX (Sy.mk (sAt n l x).ms (sAt n l x).bs) (l.getD (↑x : Int).toNat ((0 : Int), (0 : Int), (0 : Int), (0 : Int), ()))).fst.snd = (doY (xAt n l x) (l.getD (↑x : Int).toNat ((0 : Int), (0 : Int), (0 : Int), (0 : Int), ()))).snd.snd)) = false → ((!decide ((doX (Sy.mk (sAt n l x).ms (sAt n l x).bs) (l.getD (↑x : Int).toNat ((0 : Int), (0 : Int), (0 : Int), (0 : Int), ()))).fst.fst = (doY (xAt n l x) (l.getD (↑x : Int).toNat ((0 : Int), (0 : Int), (0 : Int), (0 : Int), ()))).snd.fst)) = true → k [Dat.mk Ty.bool false]) ∧ ((!decide ((doX (Sy.mk (sAt n l x).ms (sAt n l x).bs) (l.getD (↑x : Int).toNat ((0 : Int), (0 : Int), (0 : Int), (0 : Int), ()))).fst.fst = (doY (xAt n l x) (l.getD (↑x : Int).toNat ((0 : Int), (0 : Int), (0 : Int), (0 : Int), ()))).snd.fst)) = false → (∃ (x_1 : Nat), ((↑x_1 : Int) ≤ n ∧ True) ∧ (n = n ∧ l = l ∧ True ∧ ([] : List Nat) = [] ∧ (↑x : Int) = (↑x : Int) ∧ (0 : Int) = (↑x_1 : Int) ∧ True) ∧ ((True ∧ (doX (Sy.mk (sAt n l x).ms (sAt n l x).bs) (l.getD (↑x : Int).toNat ((0 : Int), (0 : Int), (0 : Int), (0 : Int), ()))).snd.bs = (doX (Sy.mk (sAt n l x).ms (sAt n l x).bs) (l.getD (↑x : Int).toNat ((0 : Int), (0 : Int), (0 : Int), (0 : Int), ()))).snd.bs ∧ True) ∧ ((43 : Nat) = (43 : Nat) ∧ (doY (xAt n l x) (l.getD (↑x : Int).toNat ((0 : Int), (0 : Int), (0 : Int), (0 : Int), ()))).fst = (doY (xAt n l x) (l.getD (↑x : Int).toNat ((0 : Int), (0 : Int), (0 : Int), (0 : Int), ()))).fst) ∧ ((43 : Nat) = (43 : Nat) ∧ (doY (xAt n l x) (l.getD (↑x : Int).toNat ((0 : Int), (0 : Int), (0 : Int), (0 : Int), ()))).fst = (doY (xAt n l x) (l.getD (↑x : Int).toNat ((0 : Int), (0 : Int), (0 : Int), (0 : Int), ()))).fst) ∧ ((58 : Nat) = (58 : Nat) ∧ (doX (Sy.mk (sAt n l x).ms (sAt n l x).bs) (l.getD (↑x : Int).toNat ((0 : Int), (0 : Int), (0 : Int), (0 : Int), ()))).snd.ms = (doX (Sy.mk (sAt n l x).ms (sAt n l x).bs) (l.getD (↑x : Int).toNat ((0 : Int), (0 : Int), (0 : Int), (0 : Int), ()))).snd.ms) ∧ True) ∧ tabD = tabD ∧ hdE = hdE ∧ True) ∧ ∀ (x_1 : Nat), (↑x_1 : Int) ≤ n ∧ True → (decide ((↑x_1 : Int) < n) = true → True ∧ (∃ (s : tMe.sl.D × ((Ty.ar (31 : Nat) tBa).pr Ty.un).D), some ((doX (Sy.mk (sAt n l x).ms (sAt n l x).bs) (l.getD (↑x : Int).toNat ((0 : Int), (0 : Int), (0 : Int), (0 : Int), ()))).snd.ms, (doX (Sy.mk (sAt n l x).ms (sAt n l x).bs) (l.getD (↑x : Int).toNat ((0 : Int), (0 : Int), (0 : Int), (0 : Int), ()))).snd.bs, ()) = some s ∧ List.length s.fst ≤ (8 : Nat)) ∧ ((!decide ((memX (doX (Sy.mk (sAt n l x).ms (sAt n l x).bs) (l.getD (↑x : Int).toNat ((0 : Int), (0 : Int), (0 : Int), (0 : Int), ()))).snd.ms (↑x_1 : Int)).fst = (memY (doY (xAt n l x) (l.getD (↑x : Int).toNat ((0 : Int), (0 : Int), (0 : Int), (0 : Int), ()))).fst (↑x_1 : Int)).fst)) = true → k [Dat.mk Ty.bool false]) ∧ ((!decide ((memX (doX (Sy.mk (sAt n l x).ms (sAt n l x).bs) (l.getD (↑x : Int).toNat ((0 : Int), (0 : Int), (0 : Int), (0 : Int), ()))).snd.ms (↑x_1 : Int)).fst = (memY (doY (xAt n l x) (l.getD (↑x : Int).toNat ((0 : Int), (0 : Int), (0 : Int), (0 : Int), ()))).fst (↑x_1 : Int)).fst)) = false → ((!decide ((memX (doX (Sy.mk (sAt n l x).ms (sAt n l x).bs) (l.getD (↑x : Int).toNat ((0 : Int), (0 : Int), (0 : Int), (0 : Int), ()))).snd.ms (↑x_1 : Int)).snd.fst = (memY (doY (xAt n l x) (l.getD (↑x : Int).toNat ((0 : Int), (0 : Int), (0 : Int), (0 : Int), ()))).fst (↑x_1 : Int)).snd.fst)) = true → k [Dat.mk Ty.bool false]) ∧ ((!decide ((memX (doX (Sy.mk (sAt n l x).ms (sAt n l x).bs) (l.getD (↑x : Int).toNat ((0 : Int), (0 : Int), (0 : Int), (0 : Int), ()))).snd.ms (↑x_1 : Int)).snd.fst = (memY (doY (xAt n l x) (l.getD (↑x : Int).toNat ((0 : Int), (0 : Int), (0 : Int), (0 : Int), ()))).fst (↑x_1 : Int)).snd.fst)) = false → ((!decide ((memX (doX (Sy.mk (sAt n l x).ms (sAt n l x).bs) (l.getD (↑x : Int).toNat ((0 : Int), (0 : Int), (0 : Int), (0 : Int), ()))).snd.ms (↑x_1 : Int)).snd.snd = (memY (doY (xAt n l x) (l.getD (↑x : Int).toNat ((0 : Int), (0 : Int), (0 : Int), (0 : Int), ()))).fst (↑x_1 : Int)).snd.snd)) = true → k [Dat.mk Ty.bool false]) ∧ ((!decide ((memX (doX (Sy.mk (sAt n l x).ms (sAt n l x).bs) (l.getD (↑x : Int).toNat ((0 : Int), (0 : Int), (0 : Int), (0 : Int), ()))).snd.ms (↑x_1 : Int)).snd.snd = (memY (doY (xAt n l x) (l.getD (↑x : Int).toNat ((0 : Int), (0 : Int), (0 : Int), (0 : Int), ()))).fst (↑x_1 : Int)).snd.snd)) = false → inK IntKind.i64 ((↑x_1 : Int) + (1 : Int)) ∧ ∃ (x_2 : Nat), ((↑x_2 : Int) ≤ n ∧ True) ∧ n.toNat - x_2 < n.toNat - x_1 ∧ (n = n ∧ l = l ∧ True ∧ ([] : List Nat) = [] ∧ (↑x : Int) = (↑x : Int) ∧ (↑x_1 : Int) + (1 : Int) = (↑x_2 : Int) ∧ True) ∧ ((True ∧ (doX (Sy.mk (sAt n l x).ms (sAt n l x).bs) (l.getD (↑x : Int).toNat ((0 : Int), (0 : Int), (0 : Int), (0 : Int), ()))).snd.bs = (doX (Sy.mk (sAt n l x).ms (sAt n l x).bs) (l.getD (↑x : Int).toNat ((0 : Int), (0 : Int), (0 : Int), (0 : Int), ()))).snd.bs ∧ True) ∧ ((43 : Nat) = (43 : Nat) ∧ (doY (xAt n l x) (l.getD (↑x : Int).toNat ((0 : Int), (0 : Int), (0 : Int), (0 : Int), ()))).fst = (doY (xAt n l x) (l.getD (↑x : Int).toNat ((0 : Int), (0 : Int), (0 : Int), (0 : Int), ()))).fst) ∧ ((43 : Nat) = (43 : Nat) ∧ (doY (xAt n l x) (l.getD (↑x : Int).toNat ((0 : Int), (0 : Int), (0 : Int), (0 : Int), ()))).fst = (doY (xAt n l x) (l.getD (↑x : Int).toNat ((0 : Int), (0 : Int), (0 : Int), (0 : Int), ()))).fst) ∧ ((58 : Nat) = (58 : Nat) ∧ (doX (Sy.mk (sAt n l x).ms (sAt n l x).bs) (l.getD (↑x : Int).toNat ((0 : Int), (0 : Int), (0 : Int), (0 : Int), ()))).snd.ms = (doX (Sy.mk (sAt n l x).ms (sAt n l x).bs) (l.getD (↑x : Int).toNat ((0 : Int), (0 : Int), (0 : Int), (0 : Int), ()))).snd.ms) ∧ True) ∧ tabD = tabD ∧ hdE = hdE ∧ True)))) ∧ (decide ((↑x_1 : Int) < n) = false → True ∧ SyInv (Sy.mk (doX (Sy.mk (sAt n l x).ms (sAt n l x).bs) (l.getD (↑x : Int).toNat ((0 : Int), (0 : Int), (0 : Int), (0 : Int), ()))).snd.ms (doX (Sy.mk (sAt n l x).ms (sAt n l x).bs) (l.getD (↑x : Int).toNat ((0 : Int), (0 : Int), (0 : Int), (0 : Int), ()))).snd.bs) ∧ (SrOk (doY (xAt n l x) (l.getD (↑x : Int).toNat ((0 : Int), (0 : Int), (0 : Int), (0 : Int), ()))).fst ∧ (doY (xAt n l x) (l.getD (↑x : Int).toNat ((0 : Int), (0 : Int), (0 : Int), (0 : Int), ()))).fst.snd.fst.length ≤ (100000 : Nat)) ∧ True ∧ ((doY (xAt n l x) (l.getD (↑x : Int).toNat ((0 : Int), (0 : Int), (0 : Int), (0 : Int), ()))).fst = (doY (xAt n l x) (l.getD (↑x : Int).toNat ((0 : Int), (0 : Int), (0 : Int), (0 : Int), ()))).fst ∧ True) ∧ ((!chX (Sy.mk (doX (Sy.mk (sAt n l x).ms (sAt n l x).bs) (l.getD (↑x : Int).toNat ((0 : Int), (0 : Int), (0 : Int), (0 : Int), ()))).snd.ms (doX (Sy.mk (sAt n l x).ms (sAt n l x).bs) (l.getD (↑x : Int).toNat ((0 : Int), (0 : Int), (0 : Int), (0 : Int), ()))).snd.bs) == chY (doY (xAt n l x) (l.getD (↑x : Int).toNat ((0 : Int), (0 : Int), (0 : Int), (0 : Int), ()))).fst) = true → k [Dat.mk Ty.bool false]) ∧ ((!chX (Sy.mk (doX (Sy.mk (sAt n l x).ms (sAt n l x).bs) (l.getD (↑x : Int).toNat ((0 : Int), (0 : Int), (0 : Int), (0 : Int), ()))).snd.ms (doX (Sy.mk (sAt n l x).ms (sAt n l x).bs) (l.getD (↑x : Int).toNat ((0 : Int), (0 : Int), (0 : Int), (0 : Int), ()))).snd.bs) == chY (doY (xAt n l x) (l.getD (↑x : Int).toNat ((0 : Int), (0 : Int), (0 : Int), (0 : Int), ()))).fst) = false → inK IntKind.i64 ((↑x : Int) + (1 : Int)) ∧ ∃ (x_2 : Nat), (x_2 ≤ l.length ∧ x_2 ≤ (60 : Nat)) ∧ l.length - x_2 < l.length - x ∧ (n = n ∧ l = l ∧ True ∧ ([] : List Nat) = [] ∧ (↑x : Int) + (1 : Int) = (↑x_2 : Int) ∧ True) ∧ ((True ∧ (doX (Sy.mk (sAt n l x).ms (sAt n l x).bs) (l.getD (↑x : Int).toNat ((0 : Int), (0 : Int), (0 : Int), (0 : Int), ()))).snd.bs = (sAt n l x_2).bs ∧ True) ∧ ((58 : Nat) = (58 : Nat) ∧ (doX (Sy.mk (sAt n l x).ms (sAt n l x).bs) (l.getD (↑x : Int).toNat ((0 : Int), (0 : Int), (0 : Int), (0 : Int), ()))).snd.ms = (sAt n l x_2).ms) ∧ ((43 : Nat) = (43 : Nat) ∧ (doY (xAt n l x) (l.getD (↑x : Int).toNat ((0 : Int), (0 : Int), (0 : Int), (0 : Int), ()))).fst = xAt n l x_2) ∧ True) ∧ tabD = tabD ∧ hdE = hdE ∧ True))))) ∧ (decide ((↑x : Int) < (60 : Int)) = false → (∃ (s : tMe.sl.D × ((Ty.ar (31 : Nat) tBa).pr Ty.un).D), some ((sAt n l x).ms, (sAt n l x).bs, ()) = some s ∧ List.length s.fst ≤ (8 : Nat)) ∧ (decide ((memX (sAt n l x).ms (-1 : Int)).fst = (-1 : Int)) = true → (decide ((memX (sAt n l x).ms (-1 : Int)).snd.fst = (-1 : Int)) = true → k [Dat.mk Ty.bool (decide ((memX (sAt n l x).ms (-1 : Int)).snd.snd = (0 : Int)))]) ∧ (decide ((memX (sAt n l x).ms (-1 : Int)).snd.fst = (-1 : Int)) = false → k [Dat.mk Ty.bool false])) ∧ (decide ((memX (sAt n l x).ms (-1 : Int)).fst = (-1 : Int)) = false → k [Dat.mk Ty.bool false]))) ∧ (decide ((↑x : Int) < (↑l.length : Int)) = false → (∃ (s : tMe.sl.D × ((Ty.ar (31 : Nat) tBa).pr Ty.un).D), some ((sAt n l x).ms, (sAt n l x).bs, ()) = some s ∧ List.length s.fst ≤ (8 : Nat)) ∧ (decide ((memX (sAt n l x).ms (-1 : Int)).fst = (-1 : Int)) = true → (decide ((memX (sAt n l x).ms (-1 : Int)).snd.fst = (-1 : Int)) = true → k [Dat.mk Ty.bool (decide ((memX (sAt n l x).ms (-1 : Int)).snd.snd = (0 : Int)))]) ∧ (decide ((memX (sAt n l x).ms (-1 : Int)).snd.fst = (-1 : Int)) = false → k [Dat.mk Ty.bool false])) ∧ (decide ((memX (sAt n l x).ms (-1 : Int)).fst = (-1 : Int)) = false → k [Dat.mk Ty.bool false])))))) ∧ (inB n (1 : Int) (8 : Int) = false → (decide (n < (1 : Int)) = true → (inK IntKind.i64 (1 : Int) ∧ True) ∧ k [Dat.mk Ty.bool (decide ((1 : Int) = (1 : Int)))]) ∧ (decide (n < (1 : Int)) = false → (decide ((8 : Int) < n) = true → (inK IntKind.i64 (1 : Int) ∧ True) ∧ k [Dat.mk Ty.bool (decide ((1 : Int) = (1 : Int)))]) ∧ (decide ((8 : Int) < n) = false → ((!decide ((1 : Int) = (0 : Int))) = true → k [Dat.mk Ty.bool false]) ∧ ((!decide ((1 : Int) = (0 : Int))) = false → True ∧ (∃ (x : Nat), (x ≤ l.length ∧ x ≤ (60 : Nat)) ∧ (n = n ∧ l = l ∧ True ∧ ([] : List Nat) = [] ∧ (0 : Int) = (↑x : Int) ∧ True) ∧ (False ∧ False ∧ False ∧ True) ∧ tabD = tabD ∧ hdE = hdE ∧ True) ∧ ∀ (x : Nat), x ≤ l.length ∧ x ≤ (60 : Nat) → (decide ((↑x : Int) < (↑l.length : Int)) = true → (decide ((↑x : Int) < (60 : Int)) = true → False) ∧ (decide ((↑x : Int) < (60 : Int)) = false → (∃ (s : tMe.sl.D × ((Ty.ar (31 : Nat) tBa).pr Ty.un).D), none = some s ∧ List.length s.fst ≤ (8 : Nat)) ∧ (decide ((memX [] (-1 : Int)).fst = (-1 : Int)) = true → (decide ((memX [] (-1 : Int)).snd.fst = (-1 : Int)) = true → k [Dat.mk Ty.bool (decide ((memX [] (-1 : Int)).snd.snd = (0 : Int)))]) ∧ (decide ((memX [] (-1 : Int)).snd.fst = (-1 : Int)) = false → k [Dat.mk Ty.bool false])) ∧ (decide ((memX [] (-1 : Int)).fst = (-1 : Int)) = false → k [Dat.mk Ty.bool false]))) ∧ (decide ((↑x : Int) < (↑l.length : Int)) = false → (∃ (s : tMe.sl.D × ((Ty.ar (31 : Nat) tBa).pr Ty.un).D), none = some s ∧ List.length s.fst ≤ (8 : Nat)) ∧ (decide ((memX [] (-1 : Int)).fst = (-1 : Int)) = true → (decide ((memX [] (-1 : Int)).snd.fst = (-1 : Int)) = true → k [Dat.mk Ty.bool (decide ((memX [] (-1 : Int)).snd.snd = (0 : Int)))]) ∧ (decide ((memX [] (-1 : Int)).snd.fst = (-1 : Int)) = false → k [Dat.mk Ty.bool false])) ∧ (decide ((memX [] (-1 : Int)).fst = (-1 : Int)) = false → k [Dat.mk Ty.bool false]))))))) := by kernel_rfl
end Go.Proofs.YtdpnakebhpecfaaDoor

/- The library's table, as the cards list it, lies in its variable. -/
namespace Go.Proofs.YtdpnakebhpecfaaDoor
open Go.Vc
def Eg : Env := { tys := [(103, .ar 64 (.int .u8))], errT := 54, eqs := [], els := [] }
theorem Eg_ok : EnvOk Tryd.prog Eg := EnvOk.of_list (by kernel_rfl) (by kernel_rfl) (by kernel_rfl)
theorem glOk {W : World} (h : laidMetH Tryd.prog Rows.synodOneRow.laid W) : GlOk glT W fun b => b < W.heap.size :=
  gl_of_laid Eg_ok (n := "math/bits.deBruijn64tab") (T := 103) (by kernel_rfl) h (.tail _ (.head _)) (by kernel_rfl) (by kernel_rfl) (by kernel_rfl) (by decide)
end Go.Proofs.YtdpnakebhpecfaaDoor

/- Synods: the program does what the reference does: the law. -/
namespace Go.Proofs.YtdpnakebhpecfaaDoor.P
open Go.Vc Go.Proofs.YtdpnakebhpecfaaDoor.V
theorem relAt {n : Int} (h : 1 ≤ n ∧ n ≤ 8) (l : List As) : ∀ i, i ≤ l.length → Rel (sAt n l i) (xAt n l i) ∧ (xAt n l i).2.1.length ≤ 8 * i
  | 0, _ => by rw [sAt_zero, xAt_zero, newY_eq]; exact ⟨rel_init h, Nat.le_refl _⟩
  | i + 1, hi => by
    obtain ⟨R, hl⟩ := relAt h l i (by omega)
    have := rel_do R (sAt_good h l i (by omega)) (l.getD i zA)
    rw [sAt_succ n l i (by omega), xAt_succ n l i (by omega), doX_eq, doY_eq]
    exact ⟨this.1, by have := this.2.2.2; omega⟩
theorem preAt {n : Int} (h : 1 ≤ n ∧ n ≤ 8) (l : List As) (i : Nat) (hi : i ≤ l.length) (h60 : i ≤ 61) : preY (xAt n l i) := by
  obtain ⟨R, hl⟩ := relAt h l i hi
  have g := sAt_good h l i hi
  refine (preY_eq _).2 ⟨⟨?_, R.w, R.len⟩, by omega⟩
  rw [R.n, g.len]; omega
theorem doAt {n : Int} (h : 1 ≤ n ∧ n ≤ 8) (l : List As) (i : Nat) (hi : i < l.length) : (doX (sAt n l i) (l.getD i (0, 0, 0, 0, ()))).1.2 = (doY (xAt n l i) (l.getD i (0, 0, 0, 0, ()))).2.2 ∧ (doX (sAt n l i) (l.getD i (0, 0, 0, 0, ()))).1.1 = (doY (xAt n l i) (l.getD i (0, 0, 0, 0, ()))).2.1 := by
  have := rel_do (relAt h l i (by omega)).1 (sAt_good h l i (by omega)) (l.getD i zA)
  rw [doX_eq, doY_eq]
  exact ⟨this.2.2.1, this.2.1⟩
theorem memAt {n : Int} (h : 1 ≤ n ∧ n ≤ 8) (l : List As) (i : Nat) (hi : i ≤ l.length) (k : Nat) (hk : (k : Int) < n) : memX (sAt n l i).ms (k : Int) = memY (xAt n l i) (k : Int) := by
  have R := (relAt h l i hi).1
  have g := (sAt_good h l i hi).len
  rw [memX_eq, memY_eq, R.mem k (by rw [g]; omega)]
  unfold memF
  rw [if_pos (by unfold inB; simp; rw [g]; omega)]
  rfl
theorem memOut (ms : List Me) : memX ms (-1) = (-1, -1, 0) := by
  rw [memX_eq]; unfold memF
  rw [if_neg (by unfold inB; simp)]
theorem chAt {n : Int} (h : 1 ≤ n ∧ n ≤ 8) (l : List As) (i : Nat) (hi : i ≤ l.length) : chX (sAt n l i) = chY (xAt n l i) := by
  have g := sAt_good h l i hi
  rw [chX_eq, chY_eq]
  exact rel_chosen (relAt h l i hi).1 g.inv.ok.b g.safe
theorem xAt_next (n : Int) (l : List As) (x : Nat) (h : x < l.length) : (doY (xAt n l x) (l.getD x (0, 0, 0, 0, ()))).1 = xAt n l (x + 1) := (xAt_succ n l x h).symm
theorem codeY (x : SR) (a : As) : inK .i64 (doY x a).2.2 := by
  rw [doY_eq]; unfold doR
  split
  · exact inK_i64.2 (by simp only; omega)
  · split <;> exact inK_i64.2 (by simp only; omega)
theorem plays_vc (n : Int) (l : List As) (k : List Dat → Prop) (hl : l.length ≤ maxLen) (hk : k [⟨.bool, true⟩]) : vcF ⟨Ey, [(14, cError), (15, cNewY), (16, cDoY), (17, cMemY), (13, cMemX), (19, cChoY), (18, cInts)], glA, [], [(9, oNew), (10, oDoX), (11, oChX)]⟩ (anPlays n l) (Tryd.f6.body.getD .skip) Tryd.f6.ntmps [(.tmp 4, .bool)] [⟨I, n⟩, ⟨.sl tAs, l⟩] k := by
  rw [vcPlays]
  have hml : maxLen ≤ 9223372036854775807 := by decide
  simp only [and_true, true_and, eq_self, sy_eta, initS_ms, initS_bs, Int.toNat_natCast, implies_true, memOut, decide_true, Bool.not_true]
  refine ⟨fun hb => ?_, fun hb => ?_⟩
  · have hr : 1 ≤ n ∧ n ≤ 8 := by unfold inB at hb; simpa using hb
    refine ⟨fun h => absurd (of_decide_eq_true h) (by omega), fun _ => ⟨fun h => absurd (of_decide_eq_true h) (by omega), fun _ => ⟨fun h => absurd h (by decide), fun _ => ⟨⟨0, ⟨by omega, by omega⟩, rfl, by rw [sAt_zero]; rfl, by rw [sAt_zero], (xAt_zero n l).symm⟩, fun x hx => ?_⟩⟩⟩⟩
    have g := sAt_good hr l x hx.1
    have m8 : (sAt n l x).ms.length ≤ 8 := g.inv.ok.m8
    refine ⟨fun h3 => ⟨fun h4 => ?_, fun _ => ⟨⟨_, rfl, m8⟩, fun _ => ⟨fun _ => hk, fun h => absurd h (by decide)⟩, fun h => absurd h (by decide)⟩⟩, fun _ => ⟨⟨_, rfl, m8⟩, fun _ => ⟨fun _ => hk, fun h => absurd h (by decide)⟩, fun h => absurd h (by decide)⟩⟩
    have h1 : x < l.length := by have := of_decide_eq_true h3; omega
    have h60 : x < 60 := by have := of_decide_eq_true h4; omega
    have g' := sAt_good hr l (x + 1) h1
    have m8' : (sAt n l (x + 1)).ms.length ≤ 8 := g'.inv.ok.m8
    have e := doAt hr l x h1
    have p := preAt hr l x hx.1 (by omega)
    have p' := preAt hr l (x + 1) h1 (by omega)
    have hc := codeY (xAt n l x) (l.getD x (0, 0, 0, 0, ()))
    simp only [e.1, e.2, sAt_next n l x h1, xAt_next n l x h1, eq_self, decide_true, Bool.not_true, chAt hr l (x + 1) h1, beq_self_eq_true]
    refine ⟨by omega, by omega, p, by omega, by omega, p, by omega, by omega, g.inv, hc, fun h => absurd h (by decide), fun _ => ⟨fun h => absurd h (by decide), fun _ => ⟨⟨0, by omega, rfl⟩, fun y hy => ⟨fun h5 => ?_, fun _ => ?_⟩⟩⟩⟩
    · have h5 := of_decide_eq_true h5
      have em := memAt hr l (x + 1) h1 y h5
      simp only [em, eq_self, decide_true, Bool.not_true]
      refine ⟨⟨_, rfl, m8'⟩, fun h => absurd h (by decide), fun _ => ⟨fun h => absurd h (by decide), fun _ => ⟨fun h => absurd h (by decide), fun _ => ⟨inK_i64.2 (by omega), y + 1, by omega, by omega, by omega⟩⟩⟩⟩
    · have hi := g'.inv
      refine ⟨hi, (preY_eq _).1 p', fun h => absurd h (by decide), fun _ => ⟨inK_i64.2 (by omega), x + 1, ⟨h1, by omega⟩, by omega, by omega, rfl, rfl, rfl⟩⟩
  · have hn : ¬ (1 ≤ n ∧ n ≤ 8) := by unfold inB at hb; simpa using hb
    have i1 : inK .i64 1 := inK_i64.2 (by decide)
    refine ⟨fun _ => ⟨i1, hk⟩, fun h => ⟨fun _ => ⟨i1, hk⟩, fun h' => ?_⟩⟩
    have h := of_decide_eq_false h
    have h' := of_decide_eq_false h'
    omega
theorem okPlays : PlainOk Tryd.prog glA 6 (cdet [I, .sl tAs] (fun (_ : Int) (_ : List As) => True) (fun _ _ => [⟨.bool, true⟩])) := by
  refine plain_of (CxOk.mk' Ey_ok rfl mixed (gl := glA) (GOk.cons (PlainOk.sub' subE okError) Tryd.func14 (by kernel_rfl) (by kernel_rfl) (GOk.cons okNewY Tryd.func15 (by kernel_rfl) (by kernel_rfl) (GOk.cons okDoY Tryd.func16 (by kernel_rfl) (by kernel_rfl) (GOk.cons okMemY Tryd.func17 (by kernel_rfl) (by kernel_rfl) (GOk.cons okMemX Tryd.func13 (by kernel_rfl) (by kernel_rfl) (GOk.cons okChoY Tryd.func19 (by kernel_rfl) (by kernel_rfl) (GOk.cons (PlainOk.sub' subT okInts) Tryd.func18 (by kernel_rfl) (by kernel_rfl) GOk.nil)))))))
    (GoOk.cons (ownSub subT ownNew) Tryd.func9 (by kernel_rfl) (by kernel_rfl) (GoOk.cons (ownSub subT ownDoX) Tryd.func10 (by kernel_rfl) (by kernel_rfl) (GoOk.cons (ownSub subT ownChX) Tryd.func11 (by kernel_rfl) (by kernel_rfl) GoOk.nil))) noIt) Tryd.func6 (c := Tryd.f6.body.getD .skip) (rvs := [(.tmp 4, .bool)]) (by kernel_rfl) (by kernel_rfl) (by kernel_rfl) ?_
  intro ds k ⟨hp, hk⟩ hwf
  obtain ⟨n, l, rfl, -⟩ := dest2 hp
  exact ⟨_, plays_vc n l k (wf2 hwf).2.1 hk⟩
theorem glOkA {W : World} (h : laidMetH Tryd.prog Rows.synodPlaysRow.laid W) : GlOk glA W fun b => b < W.heap.size :=
  GlOk.append (gl_of_laidM Eg_ok (n := "math/bits.deBruijn64tab") (T := 103) h (.tail _ (.head _)) (by kernel_rfl) (by kernel_rfl) (by kernel_rfl) (by kernel_rfl) (by decide)) (glE_of (.tail _ (.tail _ (.head _))) h)
end Go.Proofs.YtdpnakebhpecfaaDoor.P
