/- Own texts, merged: GV5, GLaw2. -/
import Derived.Test.YtgcliogognkdkaaGORowZ2
/- What the functions of this seat have to satisfy, by program: each verification condition in plain words. -/
namespace Go.Proofs.Ytgcliogognkdkaa
open Go.Vc
set_option linter.unusedVariables false
theorem vcLawGSI (n : Int) (s : List (List Int)) (q : Int) (k : List Dat → Prop) : vcF ⟨Eg, [(22, cFactG), (27, cValues)], [], [], [(23, oPlayed), (24, oRead), (25, oAround), (26, oSync)]⟩ (anSameI n s q) (Try.f7.body.getD .skip) Try.f7.ntmps [(.tmp 6, .bool)] [⟨I, n⟩, ⟨.sl (.sl I), s⟩, ⟨I, q⟩] k = (
  True ∧ ((!true) = true → k [Dat.mk Ty.bool false]) ∧ ((!true) = false → (inB n (1 : Int) (5 : Int) = false → (inB n (1 : Int) (5 : Int) = false → ((!false) = true → (decide (n < (1 : Int)) = true → k [Dat.mk Ty.bool true]) ∧ (decide (n < (1 : Int)) = false → k [Dat.mk Ty.bool (decide ((5 : Int) < n))])) ∧ ((!false) = false → ((!false) = true → (decide (n < (1 : Int)) = true → k [Dat.mk Ty.bool true]) ∧ (decide (n < (1 : Int)) = false → k [Dat.mk Ty.bool (decide ((5 : Int) < n))])) ∧ ((!false) = false → False))) ∧ (inB n (1 : Int) (5 : Int) = true → ((!false) = true → (decide (n < (1 : Int)) = true → k [Dat.mk Ty.bool true]) ∧ (decide (n < (1 : Int)) = false → k [Dat.mk Ty.bool (decide ((5 : Int) < n))])) ∧ ((!false) = false → ((!true) = true → (decide (n < (1 : Int)) = true → k [Dat.mk Ty.bool true]) ∧ (decide (n < (1 : Int)) = false → k [Dat.mk Ty.bool (decide ((5 : Int) < n))])) ∧ ((!true) = false → False)))) ∧ (inB n (1 : Int) (5 : Int) = true → (inB n (1 : Int) (5 : Int) = false → ((!true) = true → (decide (n < (1 : Int)) = true → k [Dat.mk Ty.bool true]) ∧ (decide (n < (1 : Int)) = false → k [Dat.mk Ty.bool (decide ((5 : Int) < n))])) ∧ ((!true) = false → ((!false) = true → (decide (n < (1 : Int)) = true → k [Dat.mk Ty.bool true]) ∧ (decide (n < (1 : Int)) = false → k [Dat.mk Ty.bool (decide ((5 : Int) < n))])) ∧ ((!false) = false → (NOk ((playN n s (60 : Nat)).fst, (playN n s (60 : Nat)).snd.fst, ()) ∧ n = (↑(playN n s (60 : Nat)).fst.length : Int)) ∧ ((!true) = true → k [Dat.mk Ty.bool false]) ∧ ((!true) = false → (NOk ((arF ((playN n s (60 : Nat)).fst, (playN n s (60 : Nat)).snd.fst, ())).fst, (arF ((playN n s (60 : Nat)).fst, (playN n s (60 : Nat)).snd.fst, ())).snd.fst, ()) ∧ n = (↑(arF ((playN n s (60 : Nat)).fst, (playN n s (60 : Nat)).snd.fst, ())).fst.length : Int)) ∧ ((!true) = true → k [Dat.mk Ty.bool false]) ∧ ((!true) = false → (∃ (x : Nat), (x ≤ (2 : Nat) ∧ inB n (1 : Int) (5 : Int) = true) ∧ False) ∧ ∀ (x : Nat), x ≤ (2 : Nat) ∧ inB n (1 : Int) (5 : Int) = true → (decide ((↑x : Int) < (2 : Int)) = true → inK IntKind.i64 (n - (1 : Int)) ∧ (∃ (x_1 : Nat), (x_1 ≤ n.toNat ∧ inB n (1 : Int) (5 : Int) = true) ∧ (n = n ∧ q = q ∧ True ∧ True ∧ (↑x : Int) = (↑x : Int) ∧ n - (1 : Int) = dnI n x_1 ∧ True) ∧ ((True ∧ True ∧ True) ∧ ((74 : Nat) = (74 : Nat) ∧ (ar2 n s).fst = (ar2 n s).fst) ∧ ((3 : Nat) = (3 : Nat) ∧ (ar2 n s).snd.fst = (ar2 n s).snd.fst) ∧ (True ∧ True ∧ True) ∧ ((74 : Nat) = (74 : Nat) ∧ (dnU n s x).fst = (dnP n.toNat (dnU n s (↑x : Int).toNat) x_1).fst) ∧ ((3 : Nat) = (3 : Nat) ∧ (dnU n s x).snd.fst = (dnP n.toNat (dnU n s (↑x : Int).toNat) x_1).snd.fst) ∧ True) ∧ True) ∧ ∀ (x_1 : Nat), x_1 ≤ n.toNat ∧ inB n (1 : Int) (5 : Int) = true → (decide ((0 : Int) ≤ dnI n x_1) = true → (∃ (x_2 : Nat), (x_2 ≤ n.toNat ∧ inB n (1 : Int) (5 : Int) = true) ∧ (n = n ∧ q = q ∧ True ∧ True ∧ (↑x : Int) = (↑x : Int) ∧ dnI n x_1 = dnI n x_1 ∧ (0 : Int) = (↑x_2 : Int) ∧ True) ∧ ((True ∧ True ∧ True) ∧ ((74 : Nat) = (74 : Nat) ∧ (ar2 n s).fst = (ar2 n s).fst) ∧ ((3 : Nat) = (3 : Nat) ∧ (ar2 n s).snd.fst = (ar2 n s).snd.fst) ∧ (True ∧ True ∧ True) ∧ ((74 : Nat) = (74 : Nat) ∧ (dnP n.toNat (dnU n s (↑x : Int).toNat) x_1).fst = (arQ (dnI n x_1).toNat (dnP n.toNat (dnU n s (↑x : Int).toNat) (upI n (dnI n x_1))) x_2).fst) ∧ ((3 : Nat) = (3 : Nat) ∧ (dnP n.toNat (dnU n s (↑x : Int).toNat) x_1).snd.fst = (arQ (dnI n x_1).toNat (dnP n.toNat (dnU n s (↑x : Int).toNat) (upI n (dnI n x_1))) x_2).snd.fst) ∧ True) ∧ True) ∧ ∀ (x_2 : Nat), x_2 ≤ n.toNat ∧ inB n (1 : Int) (5 : Int) = true → (decide ((↑x_2 : Int) < n) = true → ((!decide (dnI n x_1 = (↑x_2 : Int))) = true → NetSh ((arQ (dnI n x_1).toNat (dnP n.toNat (dnU n s (↑x : Int).toNat) (upI n (dnI n x_1))) x_2).fst, (arQ (dnI n x_1).toNat (dnP n.toNat (dnU n s (↑x : Int).toNat) (upI n (dnI n x_1))) x_2).snd.fst, ()) ∧ ((!decide (syncE ((arQ (dnI n x_1).toNat (dnP n.toNat (dnU n s (↑x : Int).toNat) (upI n (dnI n x_1))) x_2).fst, (arQ (dnI n x_1).toNat (dnP n.toNat (dnU n s (↑x : Int).toNat) (upI n (dnI n x_1))) x_2).snd.fst, ()) (dnI n x_1) (↑x_2 : Int) = (0 : Int))) = true → k [Dat.mk Ty.bool false]) ∧ ((!decide (syncE ((arQ (dnI n x_1).toNat (dnP n.toNat (dnU n s (↑x : Int).toNat) (upI n (dnI n x_1))) x_2).fst, (arQ (dnI n x_1).toNat (dnP n.toNat (dnU n s (↑x : Int).toNat) (upI n (dnI n x_1))) x_2).snd.fst, ()) (dnI n x_1) (↑x_2 : Int) = (0 : Int))) = false → inK IntKind.i64 ((↑x_2 : Int) + (1 : Int)) ∧ ∃ (x_3 : Nat), (x_3 ≤ n.toNat ∧ inB n (1 : Int) (5 : Int) = true) ∧ n.toNat - x_3 < n.toNat - x_2 ∧ (n = n ∧ q = q ∧ True ∧ True ∧ (↑x : Int) = (↑x : Int) ∧ dnI n x_1 = dnI n x_1 ∧ (↑x_2 : Int) + (1 : Int) = (↑x_3 : Int) ∧ True) ∧ ((True ∧ True ∧ True) ∧ ((74 : Nat) = (74 : Nat) ∧ (ar2 n s).fst = (ar2 n s).fst) ∧ ((3 : Nat) = (3 : Nat) ∧ (ar2 n s).snd.fst = (ar2 n s).snd.fst) ∧ (True ∧ True ∧ True) ∧ ((74 : Nat) = (74 : Nat) ∧ (syncT ((arQ (dnI n x_1).toNat (dnP n.toNat (dnU n s (↑x : Int).toNat) (upI n (dnI n x_1))) x_2).fst, (arQ (dnI n x_1).toNat (dnP n.toNat (dnU n s (↑x : Int).toNat) (upI n (dnI n x_1))) x_2).snd.fst, ()) (dnI n x_1) (↑x_2 : Int)).fst = (arQ (dnI n x_1).toNat (dnP n.toNat (dnU n s (↑x : Int).toNat) (upI n (dnI n x_1))) x_3).fst) ∧ ((3 : Nat) = (3 : Nat) ∧ (syncT ((arQ (dnI n x_1).toNat (dnP n.toNat (dnU n s (↑x : Int).toNat) (upI n (dnI n x_1))) x_2).fst, (arQ (dnI n x_1).toNat (dnP n.toNat (dnU n s (↑x : Int).toNat) (upI n (dnI n x_1))) x_2).snd.fst, ()) (dnI n x_1) (↑x_2 : Int)).snd.fst = (arQ (dnI n x_1).toNat (dnP n.toNat (dnU n s (↑x : Int).toNat) (upI n (dnI n x_1))) x_3).snd.fst) ∧ True) ∧ True)) ∧ ((!decide (dnI n x_1 = (↑x_2 : Int))) = false → inK IntKind.i64 ((↑x_2 : Int) + (1 : Int)) ∧ ∃ (x_3 : Nat), (x_3 ≤ n.toNat ∧ inB n (1 : Int) (5 : Int) = true) ∧ n.toNat - x_3 < n.toNat - x_2 ∧ (n = n ∧ q = q ∧ True ∧ True ∧ (↑x : Int) = (↑x : Int) ∧ dnI n x_1 = dnI n x_1 ∧ (↑x_2 : Int) + (1 : Int) = (↑x_3 : Int) ∧ True) ∧ ((True ∧ True ∧ True) ∧ ((74 : Nat) = (74 : Nat) ∧ (ar2 n s).fst = (ar2 n s).fst) ∧ ((3 : Nat) = (3 : Nat) ∧ (ar2 n s).snd.fst = (ar2 n s).snd.fst) ∧ (True ∧ True ∧ True) ∧ ((74 : Nat) = (74 : Nat) ∧ (arQ (dnI n x_1).toNat (dnP n.toNat (dnU n s (↑x : Int).toNat) (upI n (dnI n x_1))) x_2).fst = (arQ (dnI n x_1).toNat (dnP n.toNat (dnU n s (↑x : Int).toNat) (upI n (dnI n x_1))) x_3).fst) ∧ ((3 : Nat) = (3 : Nat) ∧ (arQ (dnI n x_1).toNat (dnP n.toNat (dnU n s (↑x : Int).toNat) (upI n (dnI n x_1))) x_2).snd.fst = (arQ (dnI n x_1).toNat (dnP n.toNat (dnU n s (↑x : Int).toNat) (upI n (dnI n x_1))) x_3).snd.fst) ∧ True) ∧ True)) ∧ (decide ((↑x_2 : Int) < n) = false → inK IntKind.i64 (dnI n x_1 - (1 : Int)) ∧ ∃ (x_3 : Nat), (x_3 ≤ n.toNat ∧ inB n (1 : Int) (5 : Int) = true) ∧ n.toNat - x_3 < n.toNat - x_1 ∧ (n = n ∧ q = q ∧ True ∧ True ∧ (↑x : Int) = (↑x : Int) ∧ dnI n x_1 - (1 : Int) = dnI n x_3 ∧ True) ∧ ((True ∧ True ∧ True) ∧ ((74 : Nat) = (74 : Nat) ∧ (ar2 n s).fst = (ar2 n s).fst) ∧ ((3 : Nat) = (3 : Nat) ∧ (ar2 n s).snd.fst = (ar2 n s).snd.fst) ∧ (True ∧ True ∧ True) ∧ ((74 : Nat) = (74 : Nat) ∧ (arQ (dnI n x_1).toNat (dnP n.toNat (dnU n s (↑x : Int).toNat) (upI n (dnI n x_1))) x_2).fst = (dnP n.toNat (dnU n s (↑x : Int).toNat) x_3).fst) ∧ ((3 : Nat) = (3 : Nat) ∧ (arQ (dnI n x_1).toNat (dnP n.toNat (dnU n s (↑x : Int).toNat) (upI n (dnI n x_1))) x_2).snd.fst = (dnP n.toNat (dnU n s (↑x : Int).toNat) x_3).snd.fst) ∧ True) ∧ True)) ∧ (decide ((0 : Int) ≤ dnI n x_1) = false → inK IntKind.i64 ((↑x : Int) + (1 : Int)) ∧ ∃ (x_2 : Nat), (x_2 ≤ (2 : Nat) ∧ inB n (1 : Int) (5 : Int) = true) ∧ (2 : Nat) - x_2 < (2 : Nat) - x ∧ (n = n ∧ q = q ∧ True ∧ True ∧ (↑x : Int) + (1 : Int) = (↑x_2 : Int) ∧ True) ∧ ((True ∧ True ∧ True) ∧ ((74 : Nat) = (74 : Nat) ∧ (ar2 n s).fst = (ar2 n s).fst) ∧ ((3 : Nat) = (3 : Nat) ∧ (ar2 n s).snd.fst = (ar2 n s).snd.fst) ∧ (True ∧ True ∧ True) ∧ ((74 : Nat) = (74 : Nat) ∧ (dnP n.toNat (dnU n s (↑x : Int).toNat) x_1).fst = (dnU n s x_2).fst) ∧ ((3 : Nat) = (3 : Nat) ∧ (dnP n.toNat (dnU n s (↑x : Int).toNat) x_1).snd.fst = (dnU n s x_2).snd.fst) ∧ True) ∧ True)) ∧ (decide ((↑x : Int) < (2 : Int)) = false → NetLen ((ar2 n s).fst, (ar2 n s).snd.fst, ()) ∧ (∃ (x_1 : Nat), (x_1 ≤ n.toNat ∧ inB n (1 : Int) (5 : Int) = true) ∧ (n = n ∧ q = q ∧ True ∧ True ∧ True ∧ (0 : Int) = (↑x_1 : Int) ∧ True) ∧ ((True ∧ True ∧ True) ∧ ((74 : Nat) = (74 : Nat) ∧ (ar2 n s).fst = (ar2 n s).fst) ∧ ((3 : Nat) = (3 : Nat) ∧ (ar2 n s).snd.fst = (ar2 n s).snd.fst) ∧ (True ∧ True ∧ True) ∧ ((74 : Nat) = (74 : Nat) ∧ (dnU n s x).fst = (dnU n s (2 : Nat)).fst) ∧ ((3 : Nat) = (3 : Nat) ∧ (dnU n s x).snd.fst = (dnU n s (2 : Nat)).snd.fst) ∧ ((52 : Nat) = (52 : Nat) ∧ readF ((ar2 n s).fst, (ar2 n s).snd.fst, ()) (0 : Int) q = readF (ar2 n s) (0 : Int) q) ∧ True) ∧ True) ∧ ∀ (x : Nat), x ≤ n.toNat ∧ inB n (1 : Int) (5 : Int) = true → (decide ((↑x : Int) < n) = true → NetLen ((ar2 n s).fst, (ar2 n s).snd.fst, ()) ∧ True ∧ ((!decide (readF ((ar2 n s).fst, (ar2 n s).snd.fst, ()) (↑x : Int) q = readF (ar2 n s) (0 : Int) q)) = true → k [Dat.mk Ty.bool false]) ∧ ((!decide (readF ((ar2 n s).fst, (ar2 n s).snd.fst, ()) (↑x : Int) q = readF (ar2 n s) (0 : Int) q)) = false → NetLen ((dnU n s (2 : Nat)).fst, (dnU n s (2 : Nat)).snd.fst, ()) ∧ True ∧ ((!decide (readF ((dnU n s (2 : Nat)).fst, (dnU n s (2 : Nat)).snd.fst, ()) (↑x : Int) q = readF (ar2 n s) (0 : Int) q)) = true → k [Dat.mk Ty.bool false]) ∧ ((!decide (readF ((dnU n s (2 : Nat)).fst, (dnU n s (2 : Nat)).snd.fst, ()) (↑x : Int) q = readF (ar2 n s) (0 : Int) q)) = false → inK IntKind.i64 ((↑x : Int) + (1 : Int)) ∧ ∃ (x_1 : Nat), (x_1 ≤ n.toNat ∧ inB n (1 : Int) (5 : Int) = true) ∧ n.toNat - x_1 < n.toNat - x ∧ (n = n ∧ q = q ∧ True ∧ True ∧ True ∧ (↑x : Int) + (1 : Int) = (↑x_1 : Int) ∧ True) ∧ ((True ∧ True ∧ True) ∧ ((74 : Nat) = (74 : Nat) ∧ (ar2 n s).fst = (ar2 n s).fst) ∧ ((3 : Nat) = (3 : Nat) ∧ (ar2 n s).snd.fst = (ar2 n s).snd.fst) ∧ (True ∧ True ∧ True) ∧ ((74 : Nat) = (74 : Nat) ∧ (dnU n s (2 : Nat)).fst = (dnU n s (2 : Nat)).fst) ∧ ((3 : Nat) = (3 : Nat) ∧ (dnU n s (2 : Nat)).snd.fst = (dnU n s (2 : Nat)).snd.fst) ∧ ((52 : Nat) = (52 : Nat) ∧ readF (ar2 n s) (0 : Int) q = readF (ar2 n s) (0 : Int) q) ∧ True) ∧ True))) ∧ (decide ((↑x : Int) < n) = false → k [Dat.mk Ty.bool true]))))))) ∧ (inB n (1 : Int) (5 : Int) = true → ((!true) = true → (decide (n < (1 : Int)) = true → k [Dat.mk Ty.bool true]) ∧ (decide (n < (1 : Int)) = false → k [Dat.mk Ty.bool (decide ((5 : Int) < n))])) ∧ ((!true) = false → ((!true) = true → (decide (n < (1 : Int)) = true → k [Dat.mk Ty.bool true]) ∧ (decide (n < (1 : Int)) = false → k [Dat.mk Ty.bool (decide ((5 : Int) < n))])) ∧ ((!true) = false → (NOk ((playN n s (60 : Nat)).fst, (playN n s (60 : Nat)).snd.fst, ()) ∧ n = (↑(playN n s (60 : Nat)).fst.length : Int)) ∧ ((!true) = true → k [Dat.mk Ty.bool false]) ∧ ((!true) = false → (NOk ((arF ((playN n s (60 : Nat)).fst, (playN n s (60 : Nat)).snd.fst, ())).fst, (arF ((playN n s (60 : Nat)).fst, (playN n s (60 : Nat)).snd.fst, ())).snd.fst, ()) ∧ n = (↑(arF ((playN n s (60 : Nat)).fst, (playN n s (60 : Nat)).snd.fst, ())).fst.length : Int)) ∧ ((!true) = true → k [Dat.mk Ty.bool false]) ∧ ((!true) = false → (∃ (x : Nat), (x ≤ (2 : Nat) ∧ inB n (1 : Int) (5 : Int) = true) ∧ (n = n ∧ q = q ∧ True ∧ True ∧ (0 : Int) = (↑x : Int) ∧ True) ∧ ((True ∧ True ∧ True) ∧ ((74 : Nat) = (74 : Nat) ∧ (arF ((arF ((playN n s (60 : Nat)).fst, (playN n s (60 : Nat)).snd.fst, ())).fst, (arF ((playN n s (60 : Nat)).fst, (playN n s (60 : Nat)).snd.fst, ())).snd.fst, ())).fst = (ar2 n s).fst) ∧ ((3 : Nat) = (3 : Nat) ∧ (arF ((arF ((playN n s (60 : Nat)).fst, (playN n s (60 : Nat)).snd.fst, ())).fst, (arF ((playN n s (60 : Nat)).fst, (playN n s (60 : Nat)).snd.fst, ())).snd.fst, ())).snd.fst = (ar2 n s).snd.fst) ∧ (True ∧ True ∧ True) ∧ ((74 : Nat) = (74 : Nat) ∧ (playN n s (60 : Nat)).fst = (dnU n s x).fst) ∧ ((3 : Nat) = (3 : Nat) ∧ (playN n s (60 : Nat)).snd.fst = (dnU n s x).snd.fst) ∧ True) ∧ True) ∧ ∀ (x : Nat), x ≤ (2 : Nat) ∧ inB n (1 : Int) (5 : Int) = true → (decide ((↑x : Int) < (2 : Int)) = true → inK IntKind.i64 (n - (1 : Int)) ∧ (∃ (x_1 : Nat), (x_1 ≤ n.toNat ∧ inB n (1 : Int) (5 : Int) = true) ∧ (n = n ∧ q = q ∧ True ∧ True ∧ (↑x : Int) = (↑x : Int) ∧ n - (1 : Int) = dnI n x_1 ∧ True) ∧ ((True ∧ True ∧ True) ∧ ((74 : Nat) = (74 : Nat) ∧ (ar2 n s).fst = (ar2 n s).fst) ∧ ((3 : Nat) = (3 : Nat) ∧ (ar2 n s).snd.fst = (ar2 n s).snd.fst) ∧ (True ∧ True ∧ True) ∧ ((74 : Nat) = (74 : Nat) ∧ (dnU n s x).fst = (dnP n.toNat (dnU n s (↑x : Int).toNat) x_1).fst) ∧ ((3 : Nat) = (3 : Nat) ∧ (dnU n s x).snd.fst = (dnP n.toNat (dnU n s (↑x : Int).toNat) x_1).snd.fst) ∧ True) ∧ True) ∧ ∀ (x_1 : Nat), x_1 ≤ n.toNat ∧ inB n (1 : Int) (5 : Int) = true → (decide ((0 : Int) ≤ dnI n x_1) = true → (∃ (x_2 : Nat), (x_2 ≤ n.toNat ∧ inB n (1 : Int) (5 : Int) = true) ∧ (n = n ∧ q = q ∧ True ∧ True ∧ (↑x : Int) = (↑x : Int) ∧ dnI n x_1 = dnI n x_1 ∧ (0 : Int) = (↑x_2 : Int) ∧ True) ∧ ((True ∧ True ∧ True) ∧ ((74 : Nat) = (74 : Nat) ∧ (ar2 n s).fst = (ar2 n s).fst) ∧ ((3 : Nat) = (3 : Nat) ∧ (ar2 n s).snd.fst = (ar2 n s).snd.fst) ∧ (True ∧ True ∧ True) ∧ ((74 : Nat) = (74 : Nat) ∧ (dnP n.toNat (dnU n s (↑x : Int).toNat) x_1).fst = (arQ (dnI n x_1).toNat (dnP n.toNat (dnU n s (↑x : Int).toNat) (upI n (dnI n x_1))) x_2).fst) ∧ ((3 : Nat) = (3 : Nat) ∧ (dnP n.toNat (dnU n s (↑x : Int).toNat) x_1).snd.fst = (arQ (dnI n x_1).toNat (dnP n.toNat (dnU n s (↑x : Int).toNat) (upI n (dnI n x_1))) x_2).snd.fst) ∧ True) ∧ True) ∧ ∀ (x_2 : Nat), x_2 ≤ n.toNat ∧ inB n (1 : Int) (5 : Int) = true → (decide ((↑x_2 : Int) < n) = true → ((!decide (dnI n x_1 = (↑x_2 : Int))) = true → NetSh ((arQ (dnI n x_1).toNat (dnP n.toNat (dnU n s (↑x : Int).toNat) (upI n (dnI n x_1))) x_2).fst, (arQ (dnI n x_1).toNat (dnP n.toNat (dnU n s (↑x : Int).toNat) (upI n (dnI n x_1))) x_2).snd.fst, ()) ∧ ((!decide (syncE ((arQ (dnI n x_1).toNat (dnP n.toNat (dnU n s (↑x : Int).toNat) (upI n (dnI n x_1))) x_2).fst, (arQ (dnI n x_1).toNat (dnP n.toNat (dnU n s (↑x : Int).toNat) (upI n (dnI n x_1))) x_2).snd.fst, ()) (dnI n x_1) (↑x_2 : Int) = (0 : Int))) = true → k [Dat.mk Ty.bool false]) ∧ ((!decide (syncE ((arQ (dnI n x_1).toNat (dnP n.toNat (dnU n s (↑x : Int).toNat) (upI n (dnI n x_1))) x_2).fst, (arQ (dnI n x_1).toNat (dnP n.toNat (dnU n s (↑x : Int).toNat) (upI n (dnI n x_1))) x_2).snd.fst, ()) (dnI n x_1) (↑x_2 : Int) = (0 : Int))) = false → inK IntKind.i64 ((↑x_2 : Int) + (1 : Int)) ∧ ∃ (x_3 : Nat), (x_3 ≤ n.toNat ∧ inB n (1 : Int) (5 : Int) = true) ∧ n.toNat - x_3 < n.toNat - x_2 ∧ (n = n ∧ q = q ∧ True ∧ True ∧ (↑x : Int) = (↑x : Int) ∧ dnI n x_1 = dnI n x_1 ∧ (↑x_2 : Int) + (1 : Int) = (↑x_3 : Int) ∧ True) ∧ ((True ∧ True ∧ True) ∧ ((74 : Nat) = (74 : Nat) ∧ (ar2 n s).fst = (ar2 n s).fst) ∧ ((3 : Nat) = (3 : Nat) ∧ (ar2 n s).snd.fst = (ar2 n s).snd.fst) ∧ (True ∧ True ∧ True) ∧ ((74 : Nat) = (74 : Nat) ∧ (syncT ((arQ (dnI n x_1).toNat (dnP n.toNat (dnU n s (↑x : Int).toNat) (upI n (dnI n x_1))) x_2).fst, (arQ (dnI n x_1).toNat (dnP n.toNat (dnU n s (↑x : Int).toNat) (upI n (dnI n x_1))) x_2).snd.fst, ()) (dnI n x_1) (↑x_2 : Int)).fst = (arQ (dnI n x_1).toNat (dnP n.toNat (dnU n s (↑x : Int).toNat) (upI n (dnI n x_1))) x_3).fst) ∧ ((3 : Nat) = (3 : Nat) ∧ (syncT ((arQ (dnI n x_1).toNat (dnP n.toNat (dnU n s (↑x : Int).toNat) (upI n (dnI n x_1))) x_2).fst, (arQ (dnI n x_1).toNat (dnP n.toNat (dnU n s (↑x : Int).toNat) (upI n (dnI n x_1))) x_2).snd.fst, ()) (dnI n x_1) (↑x_2 : Int)).snd.fst = (arQ (dnI n x_1).toNat (dnP n.toNat (dnU n s (↑x : Int).toNat) (upI n (dnI n x_1))) x_3).snd.fst) ∧ True) ∧ True)) ∧ ((!decide (dnI n x_1 = (↑x_2 : Int))) = false → inK IntKind.i64 ((↑x_2 : Int) + (1 : Int)) ∧ ∃ (x_3 : Nat), (x_3 ≤ n.toNat ∧ inB n (1 : Int) (5 : Int) = true) ∧ n.toNat - x_3 < n.toNat - x_2 ∧ (n = n ∧ q = q ∧ True ∧ True ∧ (↑x : Int) = (↑x : Int) ∧ dnI n x_1 = dnI n x_1 ∧ (↑x_2 : Int) + (1 : Int) = (↑x_3 : Int) ∧ True) ∧ ((True ∧ True ∧ True) ∧ ((74 : Nat) = (74 : Nat) ∧ (ar2 n s).fst = (ar2 n s).fst) ∧ ((3 : Nat) = (3 : Nat) ∧ (ar2 n s).snd.fst = (ar2 n s).snd.fst) ∧ (True ∧ True ∧ True) ∧ ((74 : Nat) = (74 : Nat) ∧ (arQ (dnI n x_1).toNat (dnP n.toNat (dnU n s (↑x : Int).toNat) (upI n (dnI n x_1))) x_2).fst = (arQ (dnI n x_1).toNat (dnP n.toNat (dnU n s (↑x : Int).toNat) (upI n (dnI n x_1))) x_3).fst) ∧ ((3 : Nat) = (3 : Nat) ∧ (arQ (dnI n x_1).toNat (dnP n.toNat (dnU n s (↑x : Int).toNat) (upI n (dnI n x_1))) x_2).snd.fst = (arQ (dnI n x_1).toNat (dnP n.toNat (dnU n s (↑x : Int).toNat) (upI n (dnI n x_1))) x_3).snd.fst) ∧ True) ∧ True)) ∧ (decide ((↑x_2 : Int) < n) = false → inK IntKind.i64 (dnI n x_1 - (1 : Int)) ∧ ∃ (x_3 : Nat), (x_3 ≤ n.toNat ∧ inB n (1 : Int) (5 : Int) = true) ∧ n.toNat - x_3 < n.toNat - x_1 ∧ (n = n ∧ q = q ∧ True ∧ True ∧ (↑x : Int) = (↑x : Int) ∧ dnI n x_1 - (1 : Int) = dnI n x_3 ∧ True) ∧ ((True ∧ True ∧ True) ∧ ((74 : Nat) = (74 : Nat) ∧ (ar2 n s).fst = (ar2 n s).fst) ∧ ((3 : Nat) = (3 : Nat) ∧ (ar2 n s).snd.fst = (ar2 n s).snd.fst) ∧ (True ∧ True ∧ True) ∧ ((74 : Nat) = (74 : Nat) ∧ (arQ (dnI n x_1).toNat (dnP n.toNat (dnU n s (↑x : Int).toNat) (upI n (dnI n x_1))) x_2).fst = (dnP n.toNat (dnU n s (↑x : Int).toNat) x_3).fst) ∧ ((3 : Nat) = (3 : Nat) ∧ (arQ (dnI n x_1).toNat (dnP n.toNat (dnU n s (↑x : Int).toNat) (upI n (dnI n x_1))) x_2).snd.fst = (dnP n.toNat (dnU n s (↑x : Int).toNat) x_3).snd.fst) ∧ True) ∧ True)) ∧ (decide ((0 : Int) ≤ dnI n x_1) = false → inK IntKind.i64 ((↑x : Int) + (1 : Int)) ∧ ∃ (x_2 : Nat), (x_2 ≤ (2 : Nat) ∧ inB n (1 : Int) (5 : Int) = true) ∧ (2 : Nat) - x_2 < (2 : Nat) - x ∧ (n = n ∧ q = q ∧ True ∧ True ∧ (↑x : Int) + (1 : Int) = (↑x_2 : Int) ∧ True) ∧ ((True ∧ True ∧ True) ∧ ((74 : Nat) = (74 : Nat) ∧ (ar2 n s).fst = (ar2 n s).fst) ∧ ((3 : Nat) = (3 : Nat) ∧ (ar2 n s).snd.fst = (ar2 n s).snd.fst) ∧ (True ∧ True ∧ True) ∧ ((74 : Nat) = (74 : Nat) ∧ (dnP n.toNat (dnU n s (↑x : Int).toNat) x_1).fst = (dnU n s x_2).fst) ∧ ((3 : Nat) = (3 : Nat) ∧ (dnP n.toNat (dnU n s (↑x : Int).toNat) x_1).snd.fst = (dnU n s x_2).snd.fst) ∧ True) ∧ True)) ∧ (decide ((↑x : Int) < (2 : Int)) = false → NetLen ((ar2 n s).fst, (ar2 n s).snd.fst, ()) ∧ (∃ (x_1 : Nat), (x_1 ≤ n.toNat ∧ inB n (1 : Int) (5 : Int) = true) ∧ (n = n ∧ q = q ∧ True ∧ True ∧ True ∧ (0 : Int) = (↑x_1 : Int) ∧ True) ∧ ((True ∧ True ∧ True) ∧ ((74 : Nat) = (74 : Nat) ∧ (ar2 n s).fst = (ar2 n s).fst) ∧ ((3 : Nat) = (3 : Nat) ∧ (ar2 n s).snd.fst = (ar2 n s).snd.fst) ∧ (True ∧ True ∧ True) ∧ ((74 : Nat) = (74 : Nat) ∧ (dnU n s x).fst = (dnU n s (2 : Nat)).fst) ∧ ((3 : Nat) = (3 : Nat) ∧ (dnU n s x).snd.fst = (dnU n s (2 : Nat)).snd.fst) ∧ ((52 : Nat) = (52 : Nat) ∧ readF ((ar2 n s).fst, (ar2 n s).snd.fst, ()) (0 : Int) q = readF (ar2 n s) (0 : Int) q) ∧ True) ∧ True) ∧ ∀ (x : Nat), x ≤ n.toNat ∧ inB n (1 : Int) (5 : Int) = true → (decide ((↑x : Int) < n) = true → NetLen ((ar2 n s).fst, (ar2 n s).snd.fst, ()) ∧ True ∧ ((!decide (readF ((ar2 n s).fst, (ar2 n s).snd.fst, ()) (↑x : Int) q = readF (ar2 n s) (0 : Int) q)) = true → k [Dat.mk Ty.bool false]) ∧ ((!decide (readF ((ar2 n s).fst, (ar2 n s).snd.fst, ()) (↑x : Int) q = readF (ar2 n s) (0 : Int) q)) = false → NetLen ((dnU n s (2 : Nat)).fst, (dnU n s (2 : Nat)).snd.fst, ()) ∧ True ∧ ((!decide (readF ((dnU n s (2 : Nat)).fst, (dnU n s (2 : Nat)).snd.fst, ()) (↑x : Int) q = readF (ar2 n s) (0 : Int) q)) = true → k [Dat.mk Ty.bool false]) ∧ ((!decide (readF ((dnU n s (2 : Nat)).fst, (dnU n s (2 : Nat)).snd.fst, ()) (↑x : Int) q = readF (ar2 n s) (0 : Int) q)) = false → inK IntKind.i64 ((↑x : Int) + (1 : Int)) ∧ ∃ (x_1 : Nat), (x_1 ≤ n.toNat ∧ inB n (1 : Int) (5 : Int) = true) ∧ n.toNat - x_1 < n.toNat - x ∧ (n = n ∧ q = q ∧ True ∧ True ∧ True ∧ (↑x : Int) + (1 : Int) = (↑x_1 : Int) ∧ True) ∧ ((True ∧ True ∧ True) ∧ ((74 : Nat) = (74 : Nat) ∧ (ar2 n s).fst = (ar2 n s).fst) ∧ ((3 : Nat) = (3 : Nat) ∧ (ar2 n s).snd.fst = (ar2 n s).snd.fst) ∧ (True ∧ True ∧ True) ∧ ((74 : Nat) = (74 : Nat) ∧ (dnU n s (2 : Nat)).fst = (dnU n s (2 : Nat)).fst) ∧ ((3 : Nat) = (3 : Nat) ∧ (dnU n s (2 : Nat)).snd.fst = (dnU n s (2 : Nat)).snd.fst) ∧ ((52 : Nat) = (52 : Nat) ∧ readF (ar2 n s) (0 : Int) q = readF (ar2 n s) (0 : Int) q) ∧ True) ∧ True))) ∧ (decide ((↑x : Int) < n) = false → k [Dat.mk Ty.bool true])))))))))) := by kernel_rfl
end Go.Proofs.Ytgcliogognkdkaa

/- Nets: all have the same; who saw all writes over all. -/
namespace Go.Proofs.Ytgcliogognkdkaa
open Go.Vc Go.Proofs

section
variable {n : Nat} {W : Nat → Int → Prop} {H : Nat → Nat → Va → Prop} {t : Net}
theorem NInv.ok (I : NInv n W H t) : NOk t := ⟨W, H, by rw [I.len]; exact I⟩
theorem arF_eq (I : NInv n W H t) : Ytgcliogognkdkaa.arF t = arP n t n := by unfold Ytgcliogognkdkaa.arF; rw [I.len]
theorem rd_eq (I : NInv n W H t) {p q : Int} (h : inNet t p q = true) : readF t p q = vAt t p.toNat q.toNat := by unfold readF; rw [if_pos h]; rfl
/-- two nets of one size read alike where their lists are alike -/
theorem rd_same {t1 t2 : Net} (h1 : t1.1.length = n) (h2 : t2.1.length = n) {a b q : Int} (ha : 0 ≤ a ∧ a < (n : Int)) (hb : 0 ≤ b ∧ b < (n : Int)) (h : vAt t1 a.toNat q.toNat = vAt t2 b.toNat q.toNat) : readF t1 a q = readF t2 b q := by
  unfold readF
  by_cases hq : 0 ≤ q ∧ q ≤ 3
  · rw [if_pos (inNet_iff.2 (by rw [h1]; exact ⟨ha, hq⟩)), if_pos (inNet_iff.2 (by rw [h2]; exact ⟨hb, hq⟩))]; exact h
  · rw [if_neg (fun e => hq (inNet_iff.1 e).2), if_neg (fun e => hq (inNet_iff.1 e).2)]
end
theorem dnI_to {n : Int} {m : Nat} (hm : m < n.toNat) : (dnI n m).toNat = n.toNat - 1 - m ∧ upI n (dnI n m) = m ∧ 0 ≤ dnI n m ∧ dnI n m < n := by unfold dnI upI; omega
theorem dnI_cast {n : Int} {m : Nat} (hm : m < n.toNat) : dnI n m = ((n.toNat - 1 - m : Nat) : Int) := by unfold dnI; omega

theorem lawGS_vc (n : Int) (s : List (List Int)) (q : Int) (hml : s.length ≤ maxLen) (k : List Dat → Prop) (hk : k [⟨.bool, true⟩]) :
    vcF ⟨Eg, [(22, cFactG), (27, cValues)], [], [], [(23, oPlayed), (24, oRead), (25, oAround), (26, oSync)]⟩ (anSameI n s q) (Try.f7.body.getD .skip) Try.f7.ntmps [(.tmp 6, .bool)] [⟨I, n⟩, ⟨.sl (.sl I), s⟩, ⟨I, q⟩] k := by
  rw [vcLawGSI]
  have ret : ∀ x : Bool, x = true → k [⟨.bool, x⟩] := by rintro _ rfl; exact hk
  have e2 : arF (arF (playN n s 60)) = ar2 n s := rfl
  cases hb : inB n 1 5 with
  | false =>
    simp only [hb, e2, net_eta, decide_eq_true_eq, decide_eq_false_iff_not, Int.toNat_natCast, inK_i64, true_and, and_true, decide_true, decide_false, Bool.not_true, Bool.not_false, Bool.true_eq_false, Bool.false_eq_true, false_implies, forall_const, and_false, false_and, Bool.not_eq_true', Bool.not_eq_false']
    exact ⟨fun _ => hk, fun h1 => ret _ (inB_no hb h1)⟩
  | true =>
    obtain ⟨H, J⟩ := playN_inv hb s (Nat.le_refl 60)
    obtain ⟨n1, n5, m1, m5⟩ := inB5 hb
    have J1 := J.arF
    have J2 : NInv n.toNat (WS s) H (ar2 n s) := J1.arF
    have A2 : Al n.toNat (playN n s 60) (ar2 n s) := by
      have h1 : Al n.toNat (playN n s 60) (arF (playN n s 60)) := by rw [arF_eq J]; exact Al.ar J
      have h2 := Al.p1 J1 h1 n.toNat
      rw [← arF_eq J1] at h2; exact h2
    have Ju : ∀ r, NInv n.toNat (WS s) H (dnU n s r) := fun r => by
      induction r with
      | zero => exact J
      | succ r ih => exact ih.dnP _ _
    have Au : Al n.toNat (playN n s 60) (dnU n s 2) := Al.d1 (Ju 1) (Al.dn J) n.toNat
    have hP : n = ((playN n s 60).1.length : Int) := by rw [J.len]; omega
    have hP1 : n = ((arF (playN n s 60)).1.length : Int) := by rw [J1.len]; omega
    have hread : ∀ x : Nat, x < n.toNat → readF (ar2 n s) (x : Int) q = readF (ar2 n s) 0 q ∧ readF (dnU n s 2) (x : Int) q = readF (ar2 n s) 0 q := fun x hx =>
      ⟨rd_same J2.len J2.len (by omega) (by omega) (Al.same J J2 J2 A2 A2 _ (by omega) (by omega)), rd_same (Ju 2).len J2.len (by omega) (by omega) (Al.same J (Ju 2) J2 Au A2 _ (by omega) (by omega))⟩
    simp only [hb, e2, net_eta, decide_eq_true_eq, decide_eq_false_iff_not, Int.toNat_natCast, inK_i64, true_and, and_true, decide_true, decide_false, Bool.not_true, Bool.not_false, Bool.true_eq_false, Bool.false_eq_true, false_implies, forall_const, and_false, false_and, Bool.not_eq_true', Bool.not_eq_false']
    refine ⟨⟨J.ok, hP⟩, ⟨J1.ok, hP1⟩, ⟨0, by omega, rfl, rfl, rfl⟩, fun x hx => ⟨fun hlt => ⟨by omega, ⟨0, Nat.zero_le _, by unfold dnI; omega, rfl, rfl⟩, fun y hy => ⟨fun hge => ⟨⟨0, Nat.zero_le _, rfl, ?_, ?_⟩, fun z hz => ⟨fun hlz => ?_, fun hgz => ?_⟩⟩, fun hge => ?_⟩⟩, fun hge => ?_⟩⟩
    · have hyn : y < n.toNat := by unfold dnI at hge; omega
      rw [(dnI_to hyn).2.1]; rfl
    · have hyn : y < n.toNat := by unfold dnI at hge; omega
      rw [(dnI_to hyn).2.1]; rfl
    · have hyn : y < n.toNat := by unfold dnI at hge; omega
      obtain ⟨d1, d2, d3, d4⟩ := dnI_to hyn
      have Ia := ((Ju x).dnP n.toNat y).arQ (n.toNat - 1 - y) z
      rw [d1, d2, dnI_cast hyn]
      refine ⟨fun hne => ⟨Ia.sh, fun he => absurd (syncE0 Ia (by omega) (by omega) hne) he, fun he => ⟨by omega, z + 1, by omega, by omega, by omega, ?_⟩⟩, fun he => ⟨by omega, z + 1, by omega, by omega, by omega, ?_⟩⟩
      · rw [arQ_succ, if_pos hne]; exact ⟨rfl, rfl⟩
      · rw [arQ_succ, if_neg (by omega)]; exact ⟨rfl, rfl⟩
    · have hyn : y < n.toNat := by unfold dnI at hge; omega
      obtain ⟨d1, d2, d3, d4⟩ := dnI_to hyn
      have hz' : z = n.toNat := by omega
      rw [d1, d2, hz']
      exact ⟨by omega, y + 1, by omega, by omega, by unfold dnI; omega, rfl, rfl⟩
    · have hy' : y = n.toNat := by unfold dnI at hge; omega
      rw [hy']
      exact ⟨by omega, x + 1, by omega, by omega, by omega, rfl, rfl⟩
    · have hx' : x = 2 := by omega
      subst hx'
      refine ⟨J2.nlen, ⟨0, Nat.zero_le _, rfl, rfl, rfl⟩, fun z hz => ⟨fun hlz => ?_, fun hgz => hk⟩⟩
      obtain ⟨r1, r2⟩ := hread z (by omega)
      exact ⟨J2.nlen, fun h => absurd r1 h, fun _ => ⟨(Ju 2).nlen, fun h => absurd r2 h, fun _ => ⟨by omega, z + 1, by omega, by omega, by omega⟩⟩⟩
theorem okLawGS : PlainOk Try.prog [] 7 cLawGS := by
  refine plain_of (CxOk.mk' Eg_ok (by kernel_rfl) mixed (gl := []) (GOk.cons okFactG Try.func22 (by kernel_rfl) (by kernel_rfl) (GOk.cons okValues Try.func27 (by kernel_rfl) (by kernel_rfl) GOk.nil)) (GoOk.cons ownPlayed Try.func23 (by kernel_rfl) (by kernel_rfl) (GoOk.cons ownRead Try.func24 (by kernel_rfl) (by kernel_rfl) (GoOk.cons ownAround Try.func25 (by kernel_rfl) (by kernel_rfl) (GoOk.cons ownSync Try.func26 (by kernel_rfl) (by kernel_rfl) GoOk.nil)))) noIt) Try.func7 (c := Try.f7.body.getD .skip) (rvs := [(.tmp 6, .bool)]) (by kernel_rfl) (by kernel_rfl) (by kernel_rfl) ?_
  intro ds k ⟨hp, hk⟩ hwf
  obtain ⟨n, s, q, rfl, -⟩ := dest3 hp
  exact ⟨anSameI n s q, lawGS_vc n s q (wf3 hwf).2.1.1 k hk⟩

/-! Who saw all. -/
section
variable {n : Nat} {W : Nat → Int → Prop} {H : Nat → Nat → Va → Prop} {t : Net}
theorem write_at (I : NInv n W H t) {p q v : Int} (h0 : writeE t p q v = 0) (i k : Nat) : vAt (writeT t p q v) i k = if i = p.toNat ∧ k = q.toNat then [newV t p q v] else vAt t i k := by
  obtain ⟨⟨p0, p1⟩, q0, q1⟩ := inNet_iff.1 (writeE_in h0)
  have hpl : p.toNat < t.1.length := by omega
  have hrow : (t.1.getD p.toNat (List.replicate 4 [])).length = 4 := I.row _ (getD_memL hpl)
  unfold writeT; rw [if_pos h0]
  exact vAt_set (t := t) (p := p) (k := q) (l := [newV t p q v]) (w := upW t p) hpl (by rw [hrow]; omega) i k
theorem newV_get (I : NInv n W H t) {p q v : Int} (h0 : writeE t p q v = 0) {i : Nat} (hi : i < n) :
    (newV t p q v).1.getD i 0 = if i = p.toNat then t.2.1.getD p.toNat 0 + 1 else (accU (vAt t p.toNat q.toNat) n (vAt t p.toNat q.toNat).length).getD i 0 := by
  obtain ⟨⟨p0, p1⟩, q0, q1⟩ := inNet_iff.1 (writeE_in h0)
  have hpn : p.toNat < n := by rw [← I.len]; omega
  show (List.set _ _ _).getD i 0 = _
  have hvals : valsAt t p q = vAt t p.toNat q.toNat := rfl
  have hu : (upW t p).getD p.toNat 0 = t.2.1.getD p.toNat 0 + 1 := by
    unfold upW; rw [getD_setL _ _ _ _ _ (by rw [I.wr]; exact hpn), if_pos rfl]
  rw [getD_setL _ _ _ _ _ (by rw [accU_len, I.len]; exact hpn), hu, hvals, I.len]
theorem newV_len (I : NInv n W H t) (p q v : Int) : (newV t p q v).1.length = n := by
  show (List.set _ _ _).length = n
  rw [List.length_set, accU_len, I.len]
theorem acc_wr (I : NInv n W H t) {p q : Nat} {i : Nat} (hi : i < n) : (accU (vAt t p q) n (vAt t p q).length).getD i 0 ≤ t.2.1.getD i 0 := by
  rcases accU_at (fun w h => I.ln h) hi _ (Nat.le_refl _) with e | ⟨w, hw, e⟩
  · rw [e]; exact (I.cnt i hi).1
  · rw [← e]
    obtain ⟨p', hp'⟩ := I.mem _ _ _ hw
    exact (I.hb _ _ _ hp' i hi).2
theorem newV_over (I : NInv n W H t) {p q v : Int} (h0 : writeE t p q v = 0) {x : Va} (hx : x ∈ vAt t p.toNat q.toNat) : sawB (newV t p q v) x = true := by
  refine sawB_all.2 fun i hi => ?_
  rw [newV_len I] at hi
  rw [newV_get I h0 hi]
  have h2 := accU_mem (fun w h => I.ln h) hi hx
  have h3 := acc_wr I (p := p.toNat) (q := q.toNat) hi
  split
  · rename_i e; subst e; omega
  · exact h2
/-- What is written where all have the same is all that is left. -/
theorem over_all (I : NInv n W H t) {p q v : Int} (h0 : writeE t p q v = 0) (hall : ∀ i, i < n → vAt t i q.toNat = vAt t p.toNat q.toNat) {H' : Nat → Nat → Va → Prop} {W' : Nat → Int → Prop} (I' : NInv n W' H' (writeT t p q v)) {i : Nat} (hi : i < n) :
    vAt (arF (writeT t p q v)) i q.toNat = [newV t p q v] := by
  obtain ⟨⟨p0, p1⟩, q0, q1⟩ := inNet_iff.1 (writeE_in h0)
  have hpn : p.toNat < n := by rw [← I.len]; omega
  have J := I'.arF
  have A : Al n (writeT t p q v) (arF (writeT t p q v)) := by rw [arF_eq I']; exact Al.ar I'
  have hnew : newV t p q v ∈ vAt (writeT t p q v) p.toNat q.toNat := by rw [write_at I h0, if_pos ⟨rfl, rfl⟩]; exact List.mem_singleton.2 rfl
  have hdown : ∀ x j, x ∈ vAt (writeT t p q v) j q.toNat → sawB (newV t p q v) x = true := fun x j hx => by
    have hj : j < n := Nat.lt_of_not_le fun h => I'.out hx h
    rw [write_at I h0] at hx
    split at hx
    · rw [List.mem_singleton] at hx; rw [hx]; exact saw_refl _
    · rw [hall j hj] at hx; exact newV_over I h0 hx
  obtain ⟨w, hw, hs⟩ := A.2 i p.toNat hi hpn _ _ hnew
  obtain ⟨j, hj⟩ := A.1 _ _ _ hw
  have hs2 := hdown w j hj
  have e1 := saw_anti (by rw [J.ln hw, newV_len I]) hs hs2
  obtain ⟨p1', hp1'⟩ := J.mem _ _ _ hw
  obtain ⟨p2', hp2'⟩ := I'.mem _ _ _ hnew
  have e2 : w = newV t p q v := J.hf _ _ _ _ _ hp1' hp2' e1
  subst e2
  refine SV'.ext (J.sv _ _) (List.pairwise_singleton ..) fun x => ⟨fun hx => ?_, fun hx => ?_⟩
  · obtain ⟨j', hj'⟩ := A.1 _ _ _ hx
    rw [List.mem_singleton]
    exact (J.anti _ _ _ _ hw hx (hdown x j' hj')).symm
  · rw [List.mem_singleton] at hx; rw [hx]; exact hw
end
theorem lawGO_vc (n : Int) (s : List (List Int)) (p q v : Int) (hml : s.length ≤ maxLen) (k : List Dat → Prop) (hk : k [⟨.bool, true⟩]) :
    vcF ⟨Eg, [(22, cFactG), (27, cValues)], [], [], [(23, oPlayed), (24, oRead), (25, oAround), (28, oWrite)]⟩ (anOver n s p q v) (Try.f8.body.getD .skip) Try.f8.ntmps [(.tmp 10, .bool)] [⟨I, n⟩, ⟨.sl (.sl I), s⟩, ⟨I, p⟩, ⟨I, q⟩, ⟨I, v⟩] k := by
  rw [vcLawGO]
  have ret : ∀ x : Bool, x = true → k [⟨.bool, x⟩] := by rintro _ rfl; exact hk
  have e2 : arF (arF (playN n s 60)) = ar2 n s := rfl
  have e3 : writeT (ar2 n s) p q v = ovT n s p q v := rfl
  have i0 : Int.toNat 0 = 0 := rfl
  cases hb : inB n 1 5 with
  | false =>
    simp only [hb, e2, e3, i0, net_eta, decide_eq_true_eq, decide_eq_false_iff_not, Int.toNat_natCast, inK_i64, true_and, and_true, decide_true, decide_false, Bool.not_true, Bool.not_false, Bool.true_eq_false, Bool.false_eq_true, false_implies, forall_const, and_false, false_and, Bool.not_eq_true', Bool.not_eq_false']
    exact ⟨fun _ => hk, fun h1 => ret _ (inB_no hb h1)⟩
  | true =>
    obtain ⟨H, J⟩ := playN_inv hb s (Nat.le_refl 60)
    obtain ⟨n1, n5, m1, m5⟩ := inB5 hb
    have J1 := J.arF
    have J2 : NInv n.toNat (WS s) H (ar2 n s) := J1.arF
    have A2 : Al n.toNat (playN n s 60) (ar2 n s) := by
      have h1 : Al n.toNat (playN n s 60) (arF (playN n s 60)) := by rw [arF_eq J]; exact Al.ar J
      have h2 := Al.p1 J1 h1 n.toNat
      rw [← arF_eq J1] at h2; exact h2
    have hP : n = ((playN n s 60).1.length : Int) := by rw [J.len]; omega
    have hP1 : n = ((arF (playN n s 60)).1.length : Int) := by rw [J1.len]; omega
    have J2t : ∃ H', NInv n.toNat (fun _ _ => True) H' (ar2 n s) := ⟨H, { J2 with hW := fun _ _ _ _ => trivial }⟩
    obtain ⟨H2, K2⟩ := J2t
    obtain ⟨H3, K3⟩ := K2.write p q v fun _ => trivial
    rw [e3] at K3
    have hP3 : n = ((ovT n s p q v).1.length : Int) := by rw [K3.len]; omega
    simp only [hb, e2, e3, i0, net_eta, decide_eq_true_eq, decide_eq_false_iff_not, Int.toNat_natCast, inK_i64, true_and, and_true, decide_true, decide_false, Bool.not_true, Bool.not_false, Bool.true_eq_false, Bool.false_eq_true, false_implies, forall_const, and_false, false_and, Bool.not_eq_true', Bool.not_eq_false']
    refine ⟨⟨J.ok, hP⟩, ⟨J1.ok, hP1⟩, J2.sh, fun _ => hk, fun h0 => ?_⟩
    have hin := writeE_in h0
    obtain ⟨⟨p0, p1⟩, q0, q1⟩ := inNet_iff.1 hin
    have hl2 : (ar2 n s).1.length = n.toNat := J2.len
    have hpn : p.toNat < n.toNat := by omega
    have hin3 : inNet (ovT n s p q v) p q = true := inNet_iff.2 ⟨⟨p0, by rw [K3.len]; omega⟩, q0, q1⟩
    have hr : readF (ovT n s p q v) p q = [newV (ar2 n s) p q v] := by
      rw [rd_eq K3 hin3, ← e3, write_at K2 h0, if_pos ⟨rfl, rfl⟩]
    have hov : ∀ i, i < n.toNat → vAt (arF (ovT n s p q v)) i q.toNat = [newV (ar2 n s) p q v] := fun i hi =>
      over_all K2 h0 (fun i hi => Al.same J J2 J2 A2 A2 _ hi hpn) K3 hi
    have K4 := K3.arF
    have hall : ∀ x : Nat, x < n.toNat → readF (arF (ovT n s p q v)) (x : Int) q = [newV (ar2 n s) p q v] := fun x hx => by
      rw [rd_eq K4 (inNet_iff.2 ⟨⟨by omega, by rw [K4.len]; omega⟩, q0, q1⟩), Int.toNat_natCast, hov x hx]
    rw [hr]
    refine ⟨K3.nlen, fun h => absurd rfl h, fun _ => ⟨by omega, (by show (0 : Int) < ((1 : Nat) : Int); decide), fun h => absurd rfl h, fun _ => ⟨⟨K3.ok, hP3⟩, ⟨0, Nat.zero_le _, rfl⟩, fun z hz => ⟨fun hlz => ⟨K4.nlen, fun h => absurd (hall z (by omega)) h, fun _ => ⟨by omega, z + 1, by omega, by omega, by omega⟩⟩, fun _ => hk⟩⟩⟩⟩
theorem okLawGO : PlainOk Try.prog [] 8 cLawGO := by
  refine plain_of (CxOk.mk' Eg_ok (by kernel_rfl) mixed (gl := []) (GOk.cons okFactG Try.func22 (by kernel_rfl) (by kernel_rfl) (GOk.cons okValues Try.func27 (by kernel_rfl) (by kernel_rfl) GOk.nil)) (GoOk.cons ownPlayed Try.func23 (by kernel_rfl) (by kernel_rfl) (GoOk.cons ownRead Try.func24 (by kernel_rfl) (by kernel_rfl) (GoOk.cons ownAround Try.func25 (by kernel_rfl) (by kernel_rfl) (GoOk.cons ownWrite Try.func28 (by kernel_rfl) (by kernel_rfl) GoOk.nil)))) noIt) Try.func8 (c := Try.f8.body.getD .skip) (rvs := [(.tmp 10, .bool)]) (by kernel_rfl) (by kernel_rfl) (by kernel_rfl) ?_
  intro ds k ⟨hp, hk⟩ hwf
  obtain ⟨n, s, p, q, v, rfl, -⟩ := dest5 hp
  exact ⟨anOver n s p q v, lawGO_vc n s p q v (hwf ⟨.sl (.sl I), s⟩ (by simp)).1 k hk⟩
end Go.Proofs.Ytgcliogognkdkaa
