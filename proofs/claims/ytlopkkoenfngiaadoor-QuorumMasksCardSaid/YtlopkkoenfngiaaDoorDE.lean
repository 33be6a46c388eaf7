/- How many bits a small number has: the library's function, walked. -/
import Derived.Test.YtlopkkoenfngiaaDoorChecked
import Derived.WalkKit
import Derived.Shelf.RegionOpen
import Derived.Test.YtlopkkoenfngiaaDoorDA
import Derived.Test.YtlopkkoenfngiaaDoorDD
namespace Go.Proofs.YtlopkkoenfngiaaDoor
open Go.RowKit Go.Shelf
attribute [local go_sem] Oper.semAt_some

def pA (x : Int) : Int := IntKind.u64.wrap (bits .and .u64 (x / 2) 6148914691236517205 + bits .and .u64 x 6148914691236517205)
def pB (x : Int) : Int := IntKind.u64.wrap (bits .and .u64 (x / 4) 3689348814741910323 + bits .and .u64 x 3689348814741910323)
def pC (x : Int) : Int := bits .and .u64 (IntKind.u64.wrap (x / 16 + x)) 1085102592571150095
def pD (x : Int) : Int := IntKind.u64.wrap (x + x / 256)
def pE (x : Int) : Int := IntKind.u64.wrap (x + x / 65536)
def pF (x : Int) : Int := IntKind.u64.wrap (x + x / 4294967296)
def popE (x : Int) : Int := bits .and .i64 (wrap64 (pF (pE (pD (pC (pB (pA x))))))) 127
/-- how many bits a number below 256 has -/
def popN (x : Nat) : Nat := ((List.range 8).filter x.testBit).length
theorem popE_eq : ∀ n : Fin 256, popE (n.val : Int) = (popN n.val : Int) := by decide +kernel

theorem many (n : Nat) (hn : n < 256) (w : World) : Calls Tryd.prog 47 #[.int .i64 (n : Int)] w fun e w' => e = .returned (.int .i64 (popN n : Int)) ∧ w' = w := by
  have hw : IntKind.u64.wrap (n : Int) = (n : Int) := by rw [IntKind.wrap_u64]; omega
  have he : popE (n : Int) = (popN n : Int) := popE_eq ⟨n, hn⟩
  go_enter Tryd.func47, Tryd.ntmps47
  go_wp2
  go_ret
  refine ⟨?_, rfl⟩
  rw [← he]
  simp [popE, pA, pB, pC, pD, pE, pF]
end Go.Proofs.YtlopkkoenfngiaaDoor

/- Quorums: what they mask. -/
namespace Go.Proofs.YtlopkkoenfngiaaDoor
open Go.Vc
def cMany : Ctr := cdet [I] (fun (n : Int) => 0 ≤ n ∧ n < 256) (fun (n : Int) => [⟨I, (popN n.toNat : Int)⟩])
def cManyR : Ctr := cdet [I] (fun (n : Int) => n < 256 ∧ True) (fun (n : Int) => [⟨I, (popN n.toNat : Int)⟩])
def popK (x k : Nat) : Nat := ((List.range k).filter x.testBit).length
def anManyR (s : Int) : Ann := [loopAt 2 Nat [] (fun st k => St.at (St.only st [2]) [(0, .d I (s.tdiv (2 ^ k))), (3, .d I (popK s.toNat k : Int))]) (fun _ k => k ≤ 8 ∧ True) (fun k => 9 - k)]
def popI (a b : Int) : Int := (popN (a.toNat &&& b.toNat) : Int)
/-- the least number that two of the first ones have in common -/
def MP (n : Int) (l : List Int) (i j : Nat) (m : Int) : Prop :=
  m ≤ n ∧ (∀ a b, (a < i ∧ b ≤ a ∨ a = i ∧ b < j) → m ≤ popI (l.getD a 0) (l.getD b 0)) ∧ (m = n ∨ ∃ a b, a < l.length ∧ b < l.length ∧ m = popI (l.getD a 0) (l.getD b 0))
def FP (n : Int) (l : List Int) (k : Nat) (f : Int) : Prop :=
  f ≤ n ∧ (∀ x : Nat, x < k → hasB l (complN n (x : Int)) = false → f ≤ (popN x : Int) - 1) ∧ (f = n ∨ ∃ x : Nat, x < 2 ^ n.toNat ∧ hasB l (complN n (x : Int)) = false ∧ f = (popN x : Int) - 1)
def cMasks : Ctr := cgen [I, .sl I] fun n l (k : List Dat → Prop) => ∀ a f : Int, (chkS n l = 0 → (∃ m : Int, MP n l l.length 0 m ∧ a = (m - 1).tdiv 2) ∧ FP n l (2 ^ n.toNat) f) → (chkS n l ≠ 0 → a = 0 ∧ f = 0) → k [⟨I, a⟩, ⟨I, f⟩, ⟨tErr, chkS n l⟩]
def anMasks (n : Int) (l : List Int) : Ann :=
  [joinAll, loopAt 6 (Nat × Int) [] (fun st x => St.at (St.only st [0, 1, 4, 5, 6, 21, 22]) [(23, .d I (x.1 : Int)), (8, .d I x.2)]) (fun _ x => x.1 ≤ l.length ∧ chkS n l = 0 ∧ MP n l x.1 0 x.2) (fun x => l.length - x.1),
   loopAt 9 (Nat × Int) [] (fun st x => St.at (St.only st [0, 1, 4, 5, 6, 10, 21, 22, 23, 31, 32]) [(33, .d I (x.1 : Int)), (8, .d I x.2)]) (fun st x => (x.1 : Int) ≤ st.i 23 + 1 ∧ MP n l (st.i 23).toNat x.1 x.2) (fun x => l.length + 1 - x.1),
   loopAt 16 (Nat × Int) [] (fun st x => St.at (St.only st [0, 1, 4, 6, 8, 47]) [(48, .d I (x.1 : Int)), (5, .d I x.2)]) (fun _ x => x.1 ≤ 2 ^ n.toNat ∧ chkS n l = 0 ∧ FP n l x.1 x.2) (fun x => 2 ^ n.toNat - x.1)]
def tightB (l : List Int) (a : Int) (i j : Nat) : Prop := ∃ p q, (p < i ∧ q < l.length ∨ p = i ∧ q < j) ∧ popI (l.getD p 0) (l.getD q 0) ≤ 2 * a + 2
def iOf (st : St) (i : Nat) : Option Int :=
  match st.tm.getD i .any with
  | .d (.int .i64) n => some n
  | _ => none
def anQM (n : Int) (l : List Int) : Ann :=
  [joinAll, loopAt 11 (Nat × Bool) [] (fun st x => St.at (St.only st [0, 1, 2, 8, 9]) [(12, .d I (x.1 : Int)), (11, .d .bool x.2)]) (fun st x => match iOf st 8 with
      | some a => x.1 ≤ l.length ∧ (x.2 = true ↔ tightB l a x.1 0)
      | none => False) (fun x => l.length - x.1),
   loopAt 14 (Nat × Bool) [] (fun st x => St.at (St.only st [0, 1, 2, 8, 9, 12]) [(13, .d I (x.1 : Int)), (11, .d .bool x.2)]) (fun st x => match iOf st 8, iOf st 12 with
      | some a, some i => x.1 ≤ l.length ∧ (x.2 = true ↔ tightB l a i.toNat x.1)
      | _, _ => False) (fun x => l.length - x.1)]
end Go.Proofs.YtlopkkoenfngiaaDoor

/- What the functions of this seat have to satisfy, by program: each verification condition in plain words. -/
namespace Go.Proofs.YtlopkkoenfngiaaDoor
open Go.Vc
set_option linter.unusedVariables false
theorem vcManyR (s : Int) (k : List Dat → Prop) : vcF ⟨Et, [], glT, [], []⟩ (anManyR s) (Tryd.f23.body.getD .skip) Tryd.f23.ntmps [(.tmp 2, I)] [⟨I, s⟩] k = (
  (∃ (x : Nat), (x ≤ (8 : Nat) ∧ True) ∧ (s = s.tdiv ((2 : Int) ^ x) ∧ (0 : Int) = (0 : Int) ∧ (0 : Int) = (↑(popK s.toNat x) : Int) ∧ True) ∧ True ∧ tabD = tabD ∧ True) ∧ ∀ (x : Nat), x ≤ (8 : Nat) ∧ True → (decide ((0 : Int) < s.tdiv ((2 : Int) ^ x)) = true → (2 : Int) ≠ (0 : Int) ∧ inK IntKind.i64 ((s.tdiv ((2 : Int) ^ x)).tmod (2 : Int)) ∧ inK IntKind.i64 ((↑(popK s.toNat x) : Int) + (s.tdiv ((2 : Int) ^ x)).tmod (2 : Int)) ∧ (2 : Int) ≠ (0 : Int) ∧ inK IntKind.i64 ((s.tdiv ((2 : Int) ^ x)).tdiv (2 : Int)) ∧ ∃ (x_1 : Nat), (x_1 ≤ (8 : Nat) ∧ True) ∧ (9 : Nat) - x_1 < (9 : Nat) - x ∧ ((s.tdiv ((2 : Int) ^ x)).tdiv (2 : Int) = s.tdiv ((2 : Int) ^ x_1) ∧ (0 : Int) = (0 : Int) ∧ (↑(popK s.toNat x) : Int) + (s.tdiv ((2 : Int) ^ x)).tmod (2 : Int) = (↑(popK s.toNat x_1) : Int) ∧ True) ∧ True ∧ tabD = tabD ∧ True) ∧ (decide ((0 : Int) < s.tdiv ((2 : Int) ^ x)) = false → k [Dat.mk (I) (↑(popK s.toNat x) : Int)])) := by kernel_rfl
theorem vcMasks (n : Int) (l : List Int) (k : List Dat → Prop) : vcF ⟨Et, [(20, cCheck), (42, cHas0), (47, cMany)], glT, [], []⟩ (anMasks n l) (Tryd.f22.body.getD .skip) Tryd.f22.ntmps [(.tmp 4, I), (.tmp 5, I), (.tmp 6, tErr)] [⟨I, n⟩, ⟨.sl I, l⟩] k = (
  True ∧ ((!decide (chkS n l = (0 : Int))) = true → k [Dat.mk (I) (0 : Int), Dat.mk (I) (0 : Int), Dat.mk (Ty.err (58 : Nat)) (chkS n l)]) ∧ ((!decide (chkS n l = (0 : Int))) = false → (∃ (x : Nat × Int), (x.fst ≤ l.length ∧ chkS n l = (0 : Int) ∧ MP n l x.fst (0 : Nat) x.snd) ∧ (n = n ∧ l = l ∧ (0 : Int) = (0 : Int) ∧ (0 : Int) = (0 : Int) ∧ (0 : Int) = (0 : Int) ∧ n = x.snd ∧ l = l ∧ (↑l.length : Int) = (↑l.length : Int) ∧ (0 : Int) = (↑x.fst : Int) ∧ True) ∧ True ∧ tabD = tabD ∧ True) ∧ ∀ (x : Nat × Int), x.fst ≤ l.length ∧ chkS n l = (0 : Int) ∧ MP n l x.fst (0 : Nat) x.snd → (decide ((↑x.fst : Int) < (↑l.length : Int)) = true → (0 : Int) ≤ (↑x.fst : Int) ∧ (↑x.fst : Int) < (↑l.length : Int) ∧ inK IntKind.i64 ((↑x.fst : Int) + (1 : Int)) ∧ (0 : Int) ≤ (0 : Int) ∧ (0 : Int) ≤ (↑x.fst : Int) + (1 : Int) ∧ (↑x.fst : Int) + (1 : Int) ≤ (↑l.length : Int) ∧ (∃ (x_1 : Nat × Int), ((↑x_1.fst : Int) ≤ (↑x.fst : Int) + (1 : Int) ∧ MP n l (↑x.fst : Int).toNat x_1.fst x_1.snd) ∧ (n = n ∧ l = l ∧ (0 : Int) = (0 : Int) ∧ (0 : Int) = (0 : Int) ∧ (0 : Int) = (0 : Int) ∧ x.snd = x_1.snd ∧ l.getD (↑x.fst : Int).toNat (0 : Int) = l.getD (↑x.fst : Int).toNat (0 : Int) ∧ l = l ∧ (↑l.length : Int) = (↑l.length : Int) ∧ (↑x.fst : Int) = (↑x.fst : Int) ∧ List.drop (Int.toNat (0 : Int)) (List.take ((↑x.fst : Int) + (1 : Int)).toNat l) = List.drop (Int.toNat (0 : Int)) (List.take ((↑x.fst : Int) + (1 : Int)).toNat l) ∧ (↑(List.drop (Int.toNat (0 : Int)) (List.take ((↑x.fst : Int) + (1 : Int)).toNat l)).length : Int) = (↑(List.drop (Int.toNat (0 : Int)) (List.take ((↑x.fst : Int) + (1 : Int)).toNat l)).length : Int) ∧ (0 : Int) = (↑x_1.fst : Int) ∧ True) ∧ True ∧ tabD = tabD ∧ True) ∧ ∀ (x_1 : Nat × Int), (↑x_1.fst : Int) ≤ (↑x.fst : Int) + (1 : Int) ∧ MP n l (↑x.fst : Int).toNat x_1.fst x_1.snd → (decide ((↑x_1.fst : Int) < (↑(List.drop (Int.toNat (0 : Int)) (List.take ((↑x.fst : Int) + (1 : Int)).toNat l)).length : Int)) = true → (0 : Int) ≤ (↑x_1.fst : Int) ∧ (↑x_1.fst : Int) < (↑(List.drop (Int.toNat (0 : Int)) (List.take ((↑x.fst : Int) + (1 : Int)).toNat l)).length : Int) ∧ (0 : Int) ≤ l.getD (↑x.fst : Int).toNat (0 : Int) ∧ (0 : Int) ≤ (List.drop (Int.toNat (0 : Int)) (List.take ((↑x.fst : Int) + (1 : Int)).toNat l)).getD (↑x_1.fst : Int).toNat (0 : Int) ∧ ((0 : Int) ≤ (↑((l.getD (↑x.fst : Int).toNat (0 : Int)).toNat &&& ((List.drop (Int.toNat (0 : Int)) (List.take ((↑x.fst : Int) + (1 : Int)).toNat l)).getD (↑x_1.fst : Int).toNat (0 : Int)).toNat) : Int) ∧ (↑((l.getD (↑x.fst : Int).toNat (0 : Int)).toNat &&& ((List.drop (Int.toNat (0 : Int)) (List.take ((↑x.fst : Int) + (1 : Int)).toNat l)).getD (↑x_1.fst : Int).toNat (0 : Int)).toNat) : Int) < (256 : Int)) ∧ inK IntKind.i64 ((↑x_1.fst : Int) + (1 : Int)) ∧ ∃ (x_2 : Nat × Int), ((↑x_2.fst : Int) ≤ (↑x.fst : Int) + (1 : Int) ∧ MP n l (↑x.fst : Int).toNat x_2.fst x_2.snd) ∧ l.length + (1 : Nat) - x_2.fst < l.length + (1 : Nat) - x_1.fst ∧ (n = n ∧ l = l ∧ (0 : Int) = (0 : Int) ∧ (0 : Int) = (0 : Int) ∧ (0 : Int) = (0 : Int) ∧ min x_1.snd (↑(popN (↑((l.getD (↑x.fst : Int).toNat (0 : Int)).toNat &&& ((List.drop (Int.toNat (0 : Int)) (List.take ((↑x.fst : Int) + (1 : Int)).toNat l)).getD (↑x_1.fst : Int).toNat (0 : Int)).toNat) : Int).toNat) : Int) = x_2.snd ∧ l.getD (↑x.fst : Int).toNat (0 : Int) = l.getD (↑x.fst : Int).toNat (0 : Int) ∧ l = l ∧ (↑l.length : Int) = (↑l.length : Int) ∧ (↑x.fst : Int) = (↑x.fst : Int) ∧ List.drop (Int.toNat (0 : Int)) (List.take ((↑x.fst : Int) + (1 : Int)).toNat l) = List.drop (Int.toNat (0 : Int)) (List.take ((↑x.fst : Int) + (1 : Int)).toNat l) ∧ (↑(List.drop (Int.toNat (0 : Int)) (List.take ((↑x.fst : Int) + (1 : Int)).toNat l)).length : Int) = (↑(List.drop (Int.toNat (0 : Int)) (List.take ((↑x.fst : Int) + (1 : Int)).toNat l)).length : Int) ∧ (↑x_1.fst : Int) + (1 : Int) = (↑x_2.fst : Int) ∧ True) ∧ True ∧ tabD = tabD ∧ True) ∧ (decide ((↑x_1.fst : Int) < (↑(List.drop (Int.toNat (0 : Int)) (List.take ((↑x.fst : Int) + (1 : Int)).toNat l)).length : Int)) = false → inK IntKind.i64 ((↑x.fst : Int) + (1 : Int)) ∧ ∃ (x_2 : Nat × Int), (x_2.fst ≤ l.length ∧ chkS n l = (0 : Int) ∧ MP n l x_2.fst (0 : Nat) x_2.snd) ∧ l.length - x_2.fst < l.length - x.fst ∧ (n = n ∧ l = l ∧ (0 : Int) = (0 : Int) ∧ (0 : Int) = (0 : Int) ∧ (0 : Int) = (0 : Int) ∧ x_1.snd = x_2.snd ∧ l = l ∧ (↑l.length : Int) = (↑l.length : Int) ∧ (↑x.fst : Int) + (1 : Int) = (↑x_2.fst : Int) ∧ True) ∧ True ∧ tabD = tabD ∧ True)) ∧ (decide ((↑x.fst : Int) < (↑l.length : Int)) = false → (0 : Int) ≤ n ∧ n < (64 : Int) ∧ IntKind.i64.bits = (64 : Nat) ∧ inK IntKind.i64 ((1 : Int) * (2 : Int) ^ n.toNat) ∧ (∃ (x_1 : Nat × Int), (x_1.fst ≤ (2 : Nat) ^ n.toNat ∧ chkS n l = (0 : Int) ∧ FP n l x_1.fst x_1.snd) ∧ (n = n ∧ l = l ∧ (0 : Int) = (0 : Int) ∧ n = x_1.snd ∧ (0 : Int) = (0 : Int) ∧ x.snd = x.snd ∧ (1 : Int) * (2 : Int) ^ n.toNat = (1 : Int) * (2 : Int) ^ n.toNat ∧ (0 : Int) = (↑x_1.fst : Int) ∧ True) ∧ True ∧ tabD = tabD ∧ True) ∧ ∀ (x_1 : Nat × Int), x_1.fst ≤ (2 : Nat) ^ n.toNat ∧ chkS n l = (0 : Int) ∧ FP n l x_1.fst x_1.snd → (decide ((↑x_1.fst : Int) < (1 : Int) * (2 : Int) ^ n.toNat) = true → (0 : Int) ≤ n ∧ n < (64 : Int) ∧ IntKind.i64.bits = (64 : Nat) ∧ inK IntKind.i64 ((1 : Int) * (2 : Int) ^ n.toNat) ∧ inK IntKind.i64 ((1 : Int) * (2 : Int) ^ n.toNat - (1 : Int)) ∧ (0 : Int) ≤ (1 : Int) * (2 : Int) ^ n.toNat - (1 : Int) ∧ (0 : Int) ≤ (↑x_1.fst : Int) ∧ ((0 : Int) ≤ (↑(((1 : Int) * (2 : Int) ^ n.toNat - (1 : Int)).toNat ^^^ ((1 : Int) * (2 : Int) ^ n.toNat - (1 : Int)).toNat &&& (↑x_1.fst : Int).toNat) : Int) ∧ ∀ (s : Int), s ∈ l → (0 : Int) ≤ s) ∧ ((!hasB l (↑(((1 : Int) * (2 : Int) ^ n.toNat - (1 : Int)).toNat ^^^ ((1 : Int) * (2 : Int) ^ n.toNat - (1 : Int)).toNat &&& (↑x_1.fst : Int).toNat) : Int)) = true → ((0 : Int) ≤ (↑x_1.fst : Int) ∧ (↑x_1.fst : Int) < (256 : Int)) ∧ inK IntKind.i64 ((↑(popN (↑x_1.fst : Int).toNat) : Int) - (1 : Int)) ∧ inK IntKind.i64 ((↑x_1.fst : Int) + (1 : Int)) ∧ ∃ (x_2 : Nat × Int), (x_2.fst ≤ (2 : Nat) ^ n.toNat ∧ chkS n l = (0 : Int) ∧ FP n l x_2.fst x_2.snd) ∧ (2 : Nat) ^ n.toNat - x_2.fst < (2 : Nat) ^ n.toNat - x_1.fst ∧ (n = n ∧ l = l ∧ (0 : Int) = (0 : Int) ∧ min x_1.snd ((↑(popN (↑x_1.fst : Int).toNat) : Int) - (1 : Int)) = x_2.snd ∧ (0 : Int) = (0 : Int) ∧ x.snd = x.snd ∧ (1 : Int) * (2 : Int) ^ n.toNat = (1 : Int) * (2 : Int) ^ n.toNat ∧ (↑x_1.fst : Int) + (1 : Int) = (↑x_2.fst : Int) ∧ True) ∧ True ∧ tabD = tabD ∧ True) ∧ ((!hasB l (↑(((1 : Int) * (2 : Int) ^ n.toNat - (1 : Int)).toNat ^^^ ((1 : Int) * (2 : Int) ^ n.toNat - (1 : Int)).toNat &&& (↑x_1.fst : Int).toNat) : Int)) = false → inK IntKind.i64 ((↑x_1.fst : Int) + (1 : Int)) ∧ ∃ (x_2 : Nat × Int), (x_2.fst ≤ (2 : Nat) ^ n.toNat ∧ chkS n l = (0 : Int) ∧ FP n l x_2.fst x_2.snd) ∧ (2 : Nat) ^ n.toNat - x_2.fst < (2 : Nat) ^ n.toNat - x_1.fst ∧ (n = n ∧ l = l ∧ (0 : Int) = (0 : Int) ∧ x_1.snd = x_2.snd ∧ (0 : Int) = (0 : Int) ∧ x.snd = x.snd ∧ (1 : Int) * (2 : Int) ^ n.toNat = (1 : Int) * (2 : Int) ^ n.toNat ∧ (↑x_1.fst : Int) + (1 : Int) = (↑x_2.fst : Int) ∧ True) ∧ True ∧ tabD = tabD ∧ True)) ∧ (decide ((↑x_1.fst : Int) < (1 : Int) * (2 : Int) ^ n.toNat) = false → inK IntKind.i64 (x.snd - (1 : Int)) ∧ (2 : Int) ≠ (0 : Int) ∧ inK IntKind.i64 ((x.snd - (1 : Int)).tdiv (2 : Int)) ∧ k [Dat.mk (I) ((x.snd - (1 : Int)).tdiv (2 : Int)), Dat.mk (I) x_1.snd, Dat.mk (Ty.err (58 : Nat)) (0 : Int)])))) := by kernel_rfl
theorem vcQM (n : Int) (l : List Int) (v : Int) (k : List Dat → Prop) : vcF ⟨Et, [(12, cFact), (22, cMasks), (23, cManyR), (15, cBoth), (14, cPow2), (19, cHas)], glT, [], []⟩ (anQM n l) (Tryd.f6.body.getD .skip) Tryd.f6.ntmps [(.tmp 6, .bool)] [⟨I, n⟩, ⟨.sl I, l⟩, ⟨I, v⟩] k = (
  True ∧ ((!true) = true → k [Dat.mk Ty.bool false]) ∧ ((!true) = false → ∀ (a f : Int), (chkS n l = (0 : Int) → (∃ (m : Int), MP n l l.length (0 : Nat) m ∧ a = (m - (1 : Int)).tdiv (2 : Int)) ∧ FP n l ((2 : Nat) ^ n.toNat) f) → (chkS n l ≠ (0 : Int) → a = (0 : Int) ∧ f = (0 : Int)) → ((!decide (chkS n l = (0 : Int))) = true → (decide (a = (0 : Int)) = true → k [Dat.mk Ty.bool (decide (f = (0 : Int)))]) ∧ (decide (a = (0 : Int)) = false → k [Dat.mk Ty.bool false])) ∧ ((!decide (chkS n l = (0 : Int))) = false → (decide (a < (0 : Int)) = true → k [Dat.mk Ty.bool false]) ∧ (decide (a < (0 : Int)) = false → (decide (f < (0 : Int)) = true → k [Dat.mk Ty.bool false]) ∧ (decide (f < (0 : Int)) = false → (decide (n ≤ f) = true → k [Dat.mk Ty.bool false]) ∧ (decide (n ≤ f) = false → (∃ (x : Nat × Bool), (x.fst ≤ l.length ∧ (x.snd = true ↔ tightB l a x.fst (0 : Nat))) ∧ (n = n ∧ l = l ∧ v = v ∧ a = a ∧ f = f ∧ false = x.snd ∧ (0 : Int) = (↑x.fst : Int) ∧ True) ∧ True ∧ tabD = tabD ∧ True) ∧ ∀ (x : Nat × Bool), x.fst ≤ l.length ∧ (x.snd = true ↔ tightB l a x.fst (0 : Nat)) → (decide ((↑x.fst : Int) < (↑l.length : Int)) = true → (∃ (x_1 : Nat × Bool), (x_1.fst ≤ l.length ∧ (x_1.snd = true ↔ tightB l a (↑x.fst : Int).toNat x_1.fst)) ∧ (n = n ∧ l = l ∧ v = v ∧ a = a ∧ f = f ∧ x.snd = x_1.snd ∧ (↑x.fst : Int) = (↑x.fst : Int) ∧ (0 : Int) = (↑x_1.fst : Int) ∧ True) ∧ True ∧ tabD = tabD ∧ True) ∧ ∀ (x_1 : Nat × Bool), x_1.fst ≤ l.length ∧ (x_1.snd = true ↔ tightB l a (↑x.fst : Int).toNat x_1.fst) → (decide ((↑x_1.fst : Int) < (↑l.length : Int)) = true → ((0 : Int) ≤ (↑x.fst : Int) ∧ (↑x.fst : Int) < (↑l.length : Int) ∧ (0 : Int) ≤ (↑x_1.fst : Int) ∧ (↑x_1.fst : Int) < (↑l.length : Int) ∧ (l.getD (↑x.fst : Int).toNat (0 : Int) < (2305843009213693952 : Int) ∧ True) ∧ ((↑((l.getD (↑x.fst : Int).toNat (0 : Int)).toNat &&& (l.getD (↑x_1.fst : Int).toNat (0 : Int)).toNat) : Int) < (256 : Int) ∧ True) ∧ True) ∧ inK IntKind.i64 ((↑(popN (↑((l.getD (↑x.fst : Int).toNat (0 : Int)).toNat &&& (l.getD (↑x_1.fst : Int).toNat (0 : Int)).toNat) : Int).toNat) : Int) - a) ∧ (decide ((↑(popN (↑((l.getD (↑x.fst : Int).toNat (0 : Int)).toNat &&& (l.getD (↑x_1.fst : Int).toNat (0 : Int)).toNat) : Int).toNat) : Int) - a ≤ a) = true → k [Dat.mk Ty.bool false]) ∧ (decide ((↑(popN (↑((l.getD (↑x.fst : Int).toNat (0 : Int)).toNat &&& (l.getD (↑x_1.fst : Int).toNat (0 : Int)).toNat) : Int).toNat) : Int) - a ≤ a) = false → (x_1.snd = true → inK IntKind.i64 ((↑x_1.fst : Int) + (1 : Int)) ∧ ∃ (x_2 : Nat × Bool), (x_2.fst ≤ l.length ∧ (x_2.snd = true ↔ tightB l a (↑x.fst : Int).toNat x_2.fst)) ∧ l.length - x_2.fst < l.length - x_1.fst ∧ (n = n ∧ l = l ∧ v = v ∧ a = a ∧ f = f ∧ true = x_2.snd ∧ (↑x.fst : Int) = (↑x.fst : Int) ∧ (↑x_1.fst : Int) + (1 : Int) = (↑x_2.fst : Int) ∧ True) ∧ True ∧ tabD = tabD ∧ True) ∧ (x_1.snd = false → inK IntKind.i64 ((↑(popN (↑((l.getD (↑x.fst : Int).toNat (0 : Int)).toNat &&& (l.getD (↑x_1.fst : Int).toNat (0 : Int)).toNat) : Int).toNat) : Int) - a) ∧ inK IntKind.i64 ((↑(popN (↑((l.getD (↑x.fst : Int).toNat (0 : Int)).toNat &&& (l.getD (↑x_1.fst : Int).toNat (0 : Int)).toNat) : Int).toNat) : Int) - a - (1 : Int)) ∧ inK IntKind.i64 (a + (1 : Int)) ∧ inK IntKind.i64 ((↑x_1.fst : Int) + (1 : Int)) ∧ ∃ (x_2 : Nat × Bool), (x_2.fst ≤ l.length ∧ (x_2.snd = true ↔ tightB l a (↑x.fst : Int).toNat x_2.fst)) ∧ l.length - x_2.fst < l.length - x_1.fst ∧ (n = n ∧ l = l ∧ v = v ∧ a = a ∧ f = f ∧ decide ((↑(popN (↑((l.getD (↑x.fst : Int).toNat (0 : Int)).toNat &&& (l.getD (↑x_1.fst : Int).toNat (0 : Int)).toNat) : Int).toNat) : Int) - a - (1 : Int) ≤ a + (1 : Int)) = x_2.snd ∧ (↑x.fst : Int) = (↑x.fst : Int) ∧ (↑x_1.fst : Int) + (1 : Int) = (↑x_2.fst : Int) ∧ True) ∧ True ∧ tabD = tabD ∧ True))) ∧ (decide ((↑x_1.fst : Int) < (↑l.length : Int)) = false → inK IntKind.i64 ((↑x.fst : Int) + (1 : Int)) ∧ ∃ (x_2 : Nat × Bool), (x_2.fst ≤ l.length ∧ (x_2.snd = true ↔ tightB l a x_2.fst (0 : Nat))) ∧ l.length - x_2.fst < l.length - x.fst ∧ (n = n ∧ l = l ∧ v = v ∧ a = a ∧ f = f ∧ x_1.snd = x_2.snd ∧ (↑x.fst : Int) + (1 : Int) = (↑x_2.fst : Int) ∧ True) ∧ True ∧ tabD = tabD ∧ True)) ∧ (decide ((↑x.fst : Int) < (↑l.length : Int)) = false → ((!x.snd) = true → k [Dat.mk Ty.bool false]) ∧ ((!x.snd) = false → (decide (v < (0 : Int)) = true → k [Dat.mk Ty.bool true]) ∧ (decide (v < (0 : Int)) = false → (n ≤ (61 : Int) ∧ True) ∧ (decide ((2 : Int) ^ n.toNat ≤ v) = true → k [Dat.mk Ty.bool true]) ∧ (decide ((2 : Int) ^ n.toNat ≤ v) = false → (v < (256 : Int) ∧ True) ∧ (decide (f < (↑(popN v.toNat) : Int)) = true → k [Dat.mk Ty.bool true]) ∧ (decide (f < (↑(popN v.toNat) : Int)) = false → (n ≤ (61 : Int) ∧ True) ∧ inK IntKind.i64 ((2 : Int) ^ n.toNat - (1 : Int)) ∧ inK IntKind.i64 ((2 : Int) ^ n.toNat - (1 : Int) - v) ∧ True ∧ (decide (hasE n l ((2 : Int) ^ n.toNat - (1 : Int) - v) = (0 : Int)) = true → k [Dat.mk Ty.bool (if hasE n l ((2 : Int) ^ n.toNat - (1 : Int) - v) = (0 : Int) then hasB l ((2 : Int) ^ n.toNat - (1 : Int) - v) else false)]) ∧ (decide (hasE n l ((2 : Int) ^ n.toNat - (1 : Int) - v) = (0 : Int)) = false → k [Dat.mk Ty.bool false])))))))))))) := by kernel_rfl
end Go.Proofs.YtlopkkoenfngiaaDoor

/- Quorums: how many two have in common; how many may fail. -/
namespace Go.Proofs.YtlopkkoenfngiaaDoor
open Go.Vc

theorem popN_pos : ∀ n : Fin 256, n.val ≠ 0 → 0 < popN n.val := by decide +kernel
theorem popN_full : ∀ n : Fin 9, popN (2 ^ n.val - 1) = n.val := by decide +kernel
theorem popN_le : ∀ n : Fin 9, ∀ x : Fin 256, x.val < 2 ^ n.val → popN x.val ≤ n.val := by decide +kernel
theorem compl_sub : ∀ n : Fin 9, ∀ v : Fin 256, v.val < 2 ^ n.val → (2 ^ n.val - 1) ^^^ ((2 ^ n.val - 1) &&& v.val) = 2 ^ n.val - 1 - v.val := by decide +kernel

theorem popI_comm (a b : Int) : popI a b = popI b a := by unfold popI; rw [Nat.and_comm]

theorem mem_pop {n : Int} {l : List Int} (g : Sets n l) {a b : Nat} (ha : a < l.length) (hb : b < l.length) : 1 ≤ popI (l.getD a 0) (l.getD b 0) ∧ popI (l.getD a 0) (l.getD b 0) ≤ n := by
  have h1 := g.mem _ (getD_mem ha)
  have h2 := g.mem _ (getD_mem hb)
  have hm := g.meet _ (getD_mem ha) _ (getD_mem hb)
  have hn := g.rng
  rw [powC] at h1 h2
  have hlt : (l.getD a 0).toNat &&& (l.getD b 0).toNat < 2 ^ n.toNat := Nat.lt_of_le_of_lt Nat.and_le_left (by omega)
  have h256 : (l.getD a 0).toNat &&& (l.getD b 0).toNat < 256 := Nat.lt_of_lt_of_le hlt (pow8 hn.2)
  have p1 := popN_pos ⟨_, h256⟩ hm
  have p2 := popN_le ⟨n.toNat, by omega⟩ ⟨_, h256⟩ hlt
  simp only at p1 p2
  unfold popI
  omega

/-- what is behind the two loops -/
theorem mp_end {n : Int} {l : List Int} (g : Sets n l) {m : Int} (h : MP n l l.length 0 m) : (∀ a b, a < l.length → b < l.length → m ≤ popI (l.getD a 0) (l.getD b 0)) ∧ 1 ≤ m ∧ ∃ a b, a < l.length ∧ b < l.length ∧ m = popI (l.getD a 0) (l.getD b 0) := by
  obtain ⟨h1, h2, h3⟩ := h
  have hall : ∀ a b, a < l.length → b < l.length → m ≤ popI (l.getD a 0) (l.getD b 0) := by
    intro a b ha hb
    rcases Nat.le_total b a with hab | hab
    · exact h2 a b (.inl ⟨ha, hab⟩)
    · rw [popI_comm]; exact h2 b a (.inl ⟨hb, hab⟩)
  have hex : ∃ a b, a < l.length ∧ b < l.length ∧ m = popI (l.getD a 0) (l.getD b 0) := by
    rcases h3 with h3 | h3
    · have h0 := g.len.1
      have hp := mem_pop g h0 h0
      exact ⟨0, 0, h0, h0, by have := hall 0 0 h0 h0; omega⟩
    · exact h3
  refine ⟨hall, ?_, hex⟩
  obtain ⟨a, b, ha, hb, he⟩ := hex
  have := (mem_pop g ha hb).1
  omega

theorem has_full {n : Int} {l : List Int} (g : Sets n l) : hasB l (complN n 0) = true := by
  have e : complN n 0 = ((2 ^ n.toNat - 1 : Nat) : Int) := by
    have := compl_nat n 0
    rw [Nat.and_zero, Nat.xor_zero] at this
    exact this
  rw [e, has_iff g]
  have h0 := getD_mem (l := l) (i := 0) g.len.1
  have hm := g.mem _ h0
  obtain ⟨s, hs⟩ := Int.eq_ofNat_of_zero_le (show 0 ≤ l.getD 0 0 by omega)
  rw [hs] at h0
  refine ⟨s, h0, fun i hi => ?_⟩
  rw [Nat.testBit_two_pow_sub_one]
  exact decide_eq_true (bit_lt (memN g h0).2 hi)
theorem has_none {n : Int} {l : List Int} (g : Sets n l) : hasB l (complN n ((2 ^ n.toNat - 1 : Nat) : Int)) = false := by
  rw [compl_nat, Nat.and_self, Nat.xor_self]
  cases h : hasB l ((0 : Nat) : Int) with
  | false => rfl
  | true =>
    obtain ⟨s, hs, hsub⟩ := (has_iff g 0).1 h
    have h1 := memN g hs
    have := sub_le hsub
    omega

theorem fp_end {n : Int} {l : List Int} (g : Sets n l) {f : Int} (h : FP n l (2 ^ n.toNat) f) : 0 ≤ f ∧ f < n := by
  obtain ⟨h1, h2, h3⟩ := h
  have hn := g.rng
  have hp := Nat.two_pow_pos n.toNat
  have hfull := h2 (2 ^ n.toNat - 1) (by omega) (has_none g)
  have hpf := popN_full ⟨n.toNat, by omega⟩
  simp only at hpf
  rw [hpf] at hfull
  refine ⟨?_, by omega⟩
  rcases h3 with h3 | ⟨x, hx, hb, he⟩
  · omega
  · have hx0 : x ≠ 0 := by
      intro e
      subst e
      have := has_full g
      rw [show ((0 : Nat) : Int) = 0 from rfl] at hb
      rw [hb] at this; cases this
    have := popN_pos ⟨x, Nat.lt_of_lt_of_le hx (pow8 hn.2)⟩ hx0
    simp only at this
    omega
end Go.Proofs.YtlopkkoenfngiaaDoor

/- Quorums: how many bits. -/
namespace Go.Proofs.YtlopkkoenfngiaaDoor
open Go.Vc

theorem okMany : PlainOk Tryd.prog glT 47 cMany := by
  intro ds k hs w R0 vals hR0 hG hD
  obtain ⟨hp, hk⟩ := hs
  obtain ⟨n, rfl, h0, h1⟩ := dest1 hp
  have hk : k [⟨I, (popN n.toNat : Int)⟩] := hk
  obtain ⟨hl, hd⟩ := hD
  match vals, hl with
  | [v], _ =>
    have hv : v = .int .i64 n := by
      have h : Ty.okV w R0 I n v := hd 0 ⟨I, n⟩ v rfl rfl
      unfold Ty.okV at h
      simp only [Ty.agg, Bool.false_eq_true, if_false, Ty.ok] at h
      injection h.1
    subst hv
    obtain ⟨m, rfl⟩ := Int.eq_ofNat_of_zero_le h0
    refine (show Calls Tryd.prog 47 #[.int .i64 (m : Int)] w _ from many m (by omega) w).mono fun e w' ⟨he, hw⟩ => ?_
    subst hw
    refine ⟨Fr.refl _ _, [⟨I, (popN m : Int)⟩], _, he, by simpa using hk, ?_⟩
    have hle := popN_le ⟨8, by omega⟩ ⟨m, by omega⟩ (by show m < 2 ^ 8; omega)
    simp only at hle
    show Ty.okV _ _ I (popN m : Int) _
    unfold Ty.okV
    simp only [Ty.agg, Bool.false_eq_true, if_false, Ty.ok]
    exact ⟨trivial, inK_i64.2 (by omega)⟩

theorem popK_succ (x k : Nat) : popK x (k + 1) = popK x k + (if x.testBit k = true then 1 else 0) := by
  unfold popK
  rw [List.range_succ, List.filter_append, List.length_append, List.filter_cons]
  cases x.testBit k <;> rfl
theorem popK_le (x k : Nat) : popK x k ≤ k := by
  unfold popK
  exact Nat.le_trans (List.length_filter_le _ _) (by simp)
theorem popK_top {x k : Nat} (hx : x < 2 ^ k) (hk : k ≤ 8) : popK x k = popN x := by
  have key : ∀ d, k + d ≤ 8 → popK x (k + d) = popK x k := by
    intro d
    induction d with
    | zero => intro _; rfl
    | succ d ih =>
      intro hd
      have hb : x.testBit (k + d) = false := Nat.testBit_lt_two_pow (Nat.lt_of_lt_of_le hx (Nat.pow_le_pow_right (by decide) (by omega)))
      rw [← Nat.add_assoc, popK_succ, ih (by omega), hb]; rfl
  have := key (8 - k) (by omega)
  rw [show k + (8 - k) = 8 by omega] at this
  rw [← this]; rfl

theorem okManyR : PlainOk Tryd.prog glT 23 cManyR := by
  refine plain_of (CxOk.mk' Et_ok rfl mixed (gl := glT) GOk.nil GoOk.nil noIt) Tryd.func23 (c := Tryd.f23.body.getD .skip) (rvs := [(.tmp 2, I)]) (by kernel_rfl) (by kernel_rfl) (by kernel_rfl) ?_
  intro ds k ⟨hp, hk⟩ hwf
  obtain ⟨s, rfl, h256, -⟩ := dest1 hp
  have hk : k [⟨I, (popN s.toNat : Int)⟩] := hk
  have hs : inK .i64 s := wf1 hwf
  refine ⟨anManyR s, ?_⟩
  rw [vcManyR]
  simp only [decide_eq_true_eq, decide_eq_false_iff_not, and_true, true_and, ne_eq]
  have h20 : ¬ (2 : Int) = 0 := by decide
  refine ⟨⟨0, by omega, by simp, rfl⟩, fun x hx => ⟨fun h => ?_, fun h => ?_⟩⟩
  · have hpos : 0 ≤ s := by
      refine Int.not_lt.1 fun hneg => ?_
      have := Int.tdiv_nonneg (a := -s) (b := (2 : Int) ^ x) (by omega) (Int.le_of_lt (two_pow_pos x))
      rw [Int.neg_tdiv] at this; omega
    obtain ⟨m, rfl⟩ := Int.eq_ofNat_of_zero_le hpos
    simp only [Int.toNat_natCast] at *
    have hx7 : x ≤ 7 := by
      rcases Nat.lt_or_ge x 8 with h1 | h1
      · omega
      · have hx8 : x = 8 := by omega
        subst hx8
        rw [tdivN] at h
        have : m / 2 ^ 8 = 0 := Nat.div_eq_of_lt (by omega)
        rw [this] at h
        exact absurd h (by decide)
    have hle := popK_le m x
    have hmod : ((m : Int).tdiv ((2 : Int) ^ x)).tmod 2 = if m.testBit x = true then 1 else 0 := by
      have h1 := tmod_bit m x
      have h2 := Int.tmod_two_eq ((m : Int).tdiv ((2 : Int) ^ x))
      have h3 := Int.tmod_nonneg (a := (m : Int).tdiv ((2 : Int) ^ x)) 2 (by omega)
      by_cases hb : m.testBit x = true
      · rw [if_pos hb]; exact h1.2 hb
      · rw [if_neg hb]
        have : ¬ ((m : Int).tdiv ((2 : Int) ^ x)).tmod 2 = 1 := fun e => hb (h1.1 e)
        omega
    have hst := popK_succ m x
    refine ⟨h20, (tdiv_in hs x).2, ?_, h20, by rw [tdiv_pow]; exact (tdiv_in hs (x + 1)).1, x + 1, by omega, by omega, tdiv_pow _ _, ?_⟩
    · rw [hmod]
      split <;> exact inK_i64.2 (by omega)
    · rw [hmod, hst]
      split <;> simp
  · have : popK s.toNat x = popN s.toNat := by
      refine popK_top ?_ hx
      by_cases hpos : 0 ≤ s
      · obtain ⟨m, rfl⟩ := Int.eq_ofNat_of_zero_le hpos
        rw [tdivN] at h
        rw [Int.toNat_natCast]
        have h0 : m / 2 ^ x = 0 := by
          generalize m / 2 ^ x = q at h
          omega
        rcases Nat.lt_or_ge m (2 ^ x) with h1 | h1
        · exact h1
        · have := Nat.div_pos h1 (Nat.two_pow_pos x); omega
      · have hneg : s < (0 : Int) := Int.not_le.1 hpos
        have : s.toNat = 0 := Int.toNat_of_nonpos (Int.le_of_lt hneg)
        rw [this]; exact Nat.two_pow_pos x
    rw [this]; exact hk

theorem mp_step {n : Int} {l : List Int} {i j : Nat} {m : Int} (hi : i < l.length) (hj : j ≤ i) (h : MP n l i j m) : MP n l i (j + 1) (min m (popI (l.getD i 0) (l.getD j 0))) := by
  obtain ⟨h1, h2, h3⟩ := h
  refine ⟨by omega, fun a b hab => ?_, ?_⟩
  · by_cases hc : a = i ∧ b = j
    · obtain ⟨rfl, rfl⟩ := hc
      omega
    · have := h2 a b (by omega)
      omega
  · rcases Int.le_total m (popI (l.getD i 0) (l.getD j 0)) with hle | hle
    · rw [Int.min_eq_left hle]; exact h3
    · rw [Int.min_eq_right hle]
      exact .inr ⟨i, j, hi, by omega, rfl⟩
theorem mp_next {n : Int} {l : List Int} {i : Nat} {m : Int} (h : MP n l i (i + 1) m) : MP n l (i + 1) 0 m := by
  obtain ⟨h1, h2, h3⟩ := h
  exact ⟨h1, fun a b hab => h2 a b (by omega), h3⟩

theorem masks_vc (n : Int) (l : List Int) (k : List Dat → Prop) (hk : ∀ a f : Int, (chkS n l = 0 → (∃ m : Int, MP n l l.length 0 m ∧ a = (m - 1).tdiv 2) ∧ FP n l (2 ^ n.toNat) f) → (chkS n l ≠ 0 → a = 0 ∧ f = 0) → k [⟨I, a⟩, ⟨I, f⟩, ⟨tErr, chkS n l⟩]) :
    vcF ⟨Et, [(20, cCheck), (42, cHas0), (47, cMany)], glT, [], []⟩ (anMasks n l) (Tryd.f22.body.getD .skip) Tryd.f22.ntmps [(.tmp 4, I), (.tmp 5, I), (.tmp 6, tErr)] [⟨I, n⟩, ⟨.sl I, l⟩] k := by
  rw [vcMasks]
  simp only [decide_eq_true_eq, decide_eq_false_iff_not, and_true, true_and, Bool.not_eq_true', Bool.not_eq_false', Int.toNat_natCast]
  refine ⟨fun h => hk 0 0 (fun e => absurd e h) fun _ => ⟨rfl, rfl⟩, fun h => ?_⟩
  have g := sets_of h
  have hn := g.rng
  have hlen := g.len
  have hpw := pow8 hn.2
  have hpp := Nat.two_pow_pos n.toNat
  have hpc := powC n.toNat
  rw [h] at hk
  have hmem : ∀ s ∈ l, 0 ≤ s := fun s hs => by have := g.mem s hs; omega
  simp only [h, true_and]
  refine ⟨⟨(0, n), ⟨by simp only; omega, Int.le_refl _, fun a b hab => by omega, .inl rfl⟩, rfl, rfl⟩, fun x ⟨hx, hmp⟩ => ⟨fun hlt => ?_, fun hge => ?_⟩⟩
  · obtain ⟨i, m⟩ := x
    simp only at *
    have hil : i < l.length := by omega
    have htk : ∀ y, y ≤ i → (List.drop (Int.toNat 0) (List.take ((i : Int) + 1).toNat l)).getD y 0 = l.getD y 0 := by
      intro y hy
      have e : List.drop (Int.toNat 0) (List.take ((i : Int) + 1).toNat l) = l.take (i + 1) := by
        rw [show ((i : Int) + 1).toNat = i + 1 by omega]; rfl
      have hlt' : y < (l.take (i + 1)).length := by rw [List.length_take]; omega
      rw [e, getD_at hlt', getD_at (by omega), List.getElem_take]
    have hdl : (List.drop (Int.toNat 0) (List.take ((i : Int) + 1).toNat l)).length = i + 1 := by
      have e : List.drop (Int.toNat 0) (List.take ((i : Int) + 1).toNat l) = l.take (i + 1) := by
        rw [show ((i : Int) + 1).toNat = i + 1 by omega]; rfl
      rw [e, List.length_take]; omega
    rw [hdl]
    refine ⟨by omega, hlt, inK_i64.2 (by omega), by omega, by omega, by omega, ⟨(0, m), ⟨by simp only; omega, hmp⟩, rfl, rfl⟩, fun y ⟨hy, hmy⟩ => ⟨fun hlt2 => ?_, fun hge2 => ?_⟩⟩
    · obtain ⟨j, m2⟩ := y
      simp only at *
      have hji : j ≤ i := by omega
      rw [htk j hji]
      have h1 := hmem _ (getD_mem hil)
      have h2 := hmem _ (getD_mem (l := l) (i := j) (by omega))
      have h3 := g.mem _ (getD_mem hil)
      have hlt256 : (l.getD i 0).toNat &&& (l.getD j 0).toNat < 256 := by
        refine Nat.lt_of_le_of_lt Nat.and_le_left ?_
        rw [hpc] at h3; omega
      exact ⟨by omega, by omega, h1, h2, ⟨by omega, by omega⟩, inK_i64.2 (by omega), (j + 1, min m2 (popI (l.getD i 0) (l.getD j 0))), ⟨by simp only; omega, mp_step hil hji hmy⟩, by simp only; omega, rfl, by simp only; omega⟩
    · obtain ⟨j, m2⟩ := y
      simp only at *
      have hji : j = i + 1 := by omega
      subst hji
      exact ⟨inK_i64.2 (by omega), (i + 1, m2), ⟨by simp only; omega, mp_next hmy⟩, by simp only; omega, rfl, by simp only; omega⟩
  · obtain ⟨i, m⟩ := x
    simp only at *
    have hil : i = l.length := by omega
    subst hil
    have hmpe := mp_end g hmp
    refine ⟨by omega, by omega, rfl, inK_i64.2 (by rw [hpc]; omega), ⟨(0, n), ⟨by simp only; omega, Int.le_refl _, fun a ha => by omega, .inl rfl⟩, rfl, rfl⟩, fun x ⟨hx, hfp⟩ => ⟨fun hlt => ?_, fun hge3 => ?_⟩⟩
    · obtain ⟨x, f⟩ := x
      simp only at *
      have hxl : x < 2 ^ n.toNat := by rw [hpc] at hlt; omega
      have hpx := popN_le ⟨8, by omega⟩ ⟨x, by omega⟩ (by show x < 2 ^ 8; omega)
      simp only at hpx
      refine ⟨by omega, by omega, rfl, inK_i64.2 (by rw [hpc]; omega), inK_i64.2 (by rw [hpc]; omega), by rw [hpc]; omega, by omega, ⟨Int.natCast_nonneg _, hmem⟩, fun hb => ⟨⟨by omega, by omega⟩, inK_i64.2 (by omega), inK_i64.2 (by omega), (x + 1, min f ((popN x : Int) - 1)), ⟨by simp only; omega, ?_⟩, by simp only; omega, rfl, by simp only; omega⟩,
        fun hb => ⟨inK_i64.2 (by omega), (x + 1, f), ⟨by simp only; omega, ?_⟩, by simp only; omega, rfl, by simp only; omega⟩⟩
      · obtain ⟨h1, h2, h3⟩ := hfp
        refine ⟨by omega, fun y hy hyb => ?_, ?_⟩
        · rcases Nat.lt_or_ge y x with h4 | h4
          · have := h2 y h4 hyb; omega
          · have : y = x := by omega
            subst this; omega
        · rcases Int.le_total f ((popN x : Int) - 1) with hle | hle
          · rw [Int.min_eq_left hle]; exact h3
          · rw [Int.min_eq_right hle]
            exact .inr ⟨x, hxl, hb, rfl⟩
      · obtain ⟨h1, h2, h3⟩ := hfp
        refine ⟨h1, fun y hy hyb => ?_, h3⟩
        rcases Nat.lt_or_ge y x with h4 | h4
        · exact h2 y h4 hyb
        · have : y = x := by omega
          subst this
          have hb' : hasB l (complN n (y : Int)) = true := hb
          rw [hb'] at hyb; cases hyb
    · obtain ⟨x, f⟩ := x
      simp only at *
      have hxe : x = 2 ^ n.toNat := by rw [hpc] at hge3; omega
      subst hxe
      have hm1 := hmpe.2.1
      have hm2 := hmp.1
      have hq : 0 ≤ (m - 1).tdiv 2 ∧ (m - 1).tdiv 2 ≤ m - 1 := by
        rw [Int.tdiv_eq_ediv_of_nonneg (by omega)]
        omega
      refine ⟨inK_i64.2 (by omega), by decide, inK_i64.2 (by omega), ?_⟩
      exact hk _ f (fun _ => ⟨⟨m, hmp, rfl⟩, hfp⟩) fun e => absurd rfl e

theorem okMasks : PlainOk Tryd.prog glT 22 cMasks := by
  refine plain_of (CxOk.mk' Et_ok rfl mixed (gl := glT) (GOk.cons okCheck Tryd.func20 (by kernel_rfl) (by kernel_rfl) (GOk.cons okHas0 Tryd.func42 (by kernel_rfl) (by kernel_rfl) (GOk.cons okMany Tryd.func47 (by kernel_rfl) (by kernel_rfl) GOk.nil))) GoOk.nil noIt) Tryd.func22 (c := Tryd.f22.body.getD .skip) (rvs := [(.tmp 4, I), (.tmp 5, I), (.tmp 6, tErr)]) (by kernel_rfl) (by kernel_rfl) (by kernel_rfl) ?_
  intro ds k hs hwf
  obtain ⟨n, l, rfl, h⟩ := gdest2 hs
  exact ⟨anMasks n l, masks_vc n l k h⟩
end Go.Proofs.YtlopkkoenfngiaaDoor

/- Quorums: the law of masks. -/
namespace Go.Proofs.YtlopkkoenfngiaaDoor
open Go.Vc

theorem tight_next {l : List Int} {a : Int} {i j : Nat} : tightB l a i (j + 1) ↔ tightB l a i j ∨ popI (l.getD i 0) (l.getD j 0) ≤ 2 * a + 2 := by
  unfold tightB
  constructor
  · rintro ⟨p, q, h, hp⟩
    by_cases hc : p = i ∧ q = j
    · obtain ⟨rfl, rfl⟩ := hc
      exact .inr hp
    · exact .inl ⟨p, q, by omega, hp⟩
  · rintro (⟨p, q, h, hp⟩ | hp)
    · exact ⟨p, q, by omega, hp⟩
    · exact ⟨i, j, by omega, hp⟩
theorem tight_row {l : List Int} {a : Int} {i : Nat} : tightB l a (i + 1) 0 ↔ tightB l a i l.length := by
  unfold tightB
  constructor
  · rintro ⟨p, q, h, hp⟩; exact ⟨p, q, by omega, hp⟩
  · rintro ⟨p, q, h, hp⟩; exact ⟨p, q, by omega, hp⟩

theorem qm_vc (n : Int) (l : List Int) (v : Int) (k : List Dat → Prop) (hk : k [⟨.bool, true⟩]) :
    vcF ⟨Et, [(12, cFact), (22, cMasks), (23, cManyR), (15, cBoth), (14, cPow2), (19, cHas)], glT, [], []⟩ (anQM n l) (Tryd.f6.body.getD .skip) Tryd.f6.ntmps [(.tmp 6, .bool)] [⟨I, n⟩, ⟨.sl I, l⟩, ⟨I, v⟩] k := by
  rw [vcQM]
  refine ⟨trivial, (fun h => by cases h), fun _ a f hc hx => ⟨fun h => ?_, fun h => ?_⟩⟩
  · have h : chkS n l ≠ 0 := by simpa using h
    obtain ⟨rfl, rfl⟩ := hx h
    exact ⟨fun _ => hk, fun h => by cases h⟩
  · have h : chkS n l = 0 := by simpa using h
    obtain ⟨⟨m, hmp, ha⟩, hfp⟩ := hc h
    have g := sets_of h
    have hn := g.rng
    have hlen := g.len
    have hpw := pow8 hn.2
    have hpp := Nat.two_pow_pos n.toNat
    have hpc := powC n.toNat
    obtain ⟨hall, hm1, hex⟩ := mp_end g hmp
    have hmn := hmp.1
    have hfe := fp_end g hfp
    rw [Int.tdiv_eq_ediv_of_nonneg (by omega)] at ha
    have ha0 : 0 ≤ a ∧ 2 * a ≤ m - 1 ∧ m - 1 ≤ 2 * a + 1 := by omega
    simp only [decide_eq_true_eq, decide_eq_false_iff_not, and_true, true_and, Bool.not_eq_true', Bool.not_eq_false', Int.toNat_natCast]
    refine ⟨fun h => absurd h (by omega), fun _ => ⟨fun h => absurd h (by omega), fun _ => ⟨fun h => absurd h (by omega), fun _ => ⟨⟨(0, false), ⟨by simp only; omega, ?_⟩, rfl, rfl⟩, fun x ⟨hx, hxt⟩ => ⟨fun hlt => ?_, fun hge => ?_⟩⟩⟩⟩⟩
    · refine ⟨(fun h => by cases h), ?_⟩
      rintro ⟨p, q, hpq, _⟩
      simp only at hpq
      omega
    · obtain ⟨i, b⟩ := x
      simp only at *
      have hil : i < l.length := by omega
      refine ⟨⟨(0, b), ⟨by simp only; omega, hxt⟩, rfl, rfl⟩, fun y ⟨hy, hyt⟩ => ⟨fun hlt2 => ?_, fun hge2 => ?_⟩⟩
      · obtain ⟨j, c⟩ := y
        simp only at *
        have hjl : j < l.length := by omega
        have hp := hall i j hil hjl
        have hp2 := mem_pop g hil hjl
        have hpe : ((popN ((l.getD i 0).toNat &&& (l.getD j 0).toNat) : Nat) : Int) = popI (l.getD i 0) (l.getD j 0) := rfl
        have h3 := g.mem _ (getD_mem hil)
        rw [hpc] at h3
        have hlt256 : (l.getD i 0).toNat &&& (l.getD j 0).toNat < 256 := by
          refine Nat.lt_of_le_of_lt Nat.and_le_left ?_
          omega
        refine ⟨⟨by omega, hlt, by omega, hlt2, by omega, by omega⟩, inK_i64.2 (by omega), fun h => absurd h (by omega), fun _ => ⟨fun hct => ⟨inK_i64.2 (by omega), (j + 1, true), ⟨by simp only; omega, ?_⟩, by simp only; omega, rfl, by simp only; omega⟩,
          fun hcf => ⟨inK_i64.2 (by omega), inK_i64.2 (by omega), inK_i64.2 (by omega), inK_i64.2 (by omega), (j + 1, decide (((popN ((l.getD i 0).toNat &&& (l.getD j 0).toNat) : Nat) : Int) - a - 1 ≤ a + 1)), ⟨by simp only; omega, ?_⟩, by simp only; omega, rfl, by simp only; omega⟩⟩⟩
        · exact ⟨fun _ => tight_next.2 (.inl (hyt.1 hct)), fun _ => rfl⟩
        · simp only [decide_eq_true_eq]
          rw [tight_next]
          constructor
          · intro h; exact .inr (by omega)
          · rintro (h | h)
            · have := hyt.2 h
              rw [hcf] at this; cases this
            · omega
      · obtain ⟨j, c⟩ := y
        simp only at *
        have hjl : j = l.length := by omega
        subst hjl
        exact ⟨inK_i64.2 (by omega), (i + 1, c), ⟨by simp only; omega, by rw [hyt, tight_row]⟩, by simp only; omega, rfl, by simp only; omega⟩
    · obtain ⟨i, b⟩ := x
      simp only at *
      have hil : i = l.length := by omega
      subst hil
      have hbt : b = true := by
        rw [hxt]
        obtain ⟨p, q, hp, hq, he⟩ := hex
        exact ⟨p, q, .inl ⟨hp, hq⟩, by omega⟩
      refine ⟨fun h => (by rw [hbt] at h; cases h), fun _ => ⟨fun _ => hk, fun hv0 => ⟨by omega, fun _ => hk, fun hvl => ⟨by rw [hpc] at hvl; omega, fun _ => hk, fun hf => ⟨by omega, inK_i64.2 (by rw [hpc]; omega), inK_i64.2 (by rw [hpc] at hvl ⊢; omega), ?_⟩⟩⟩⟩⟩
      obtain ⟨x, rfl⟩ := Int.eq_ofNat_of_zero_le (show 0 ≤ v by omega)
      have hxl : x < 2 ^ n.toNat := by rw [hpc] at hvl; omega
      have hcs := compl_sub ⟨n.toNat, by omega⟩ ⟨x, by omega⟩ hxl
      simp only at hcs
      have hce : (2 : Int) ^ n.toNat - 1 - (x : Int) = complN n (x : Int) := by
        rw [compl_nat, hcs, hpc]
        omega
      rw [hce]
      have hE : hasE n l (complN n (x : Int)) = 0 := by
        unfold hasE
        rw [if_pos h, if_pos]
        rw [← hce]
        exact mask_mk (by rw [hpc]; omega) (by rw [hpc]; omega)
      have hB : hasB l (complN n (x : Int)) = true := by
        cases hb : hasB l (complN n (x : Int)) with
        | true => rfl
        | false =>
          have := hfp.2.1 x hxl hb
          rw [Int.toNat_natCast] at hf
          omega
      rw [hE, hB]
      exact ⟨fun _ => hk, fun h => absurd rfl h⟩

theorem okQM : PlainOk Tryd.prog glT 6 cLawL := by
  refine plain_of (CxOk.mk' Et_ok rfl mixed (gl := glT) (GOk.cons okFact Tryd.func12 (by kernel_rfl) (by kernel_rfl) (GOk.cons okMasks Tryd.func22 (by kernel_rfl) (by kernel_rfl) (GOk.cons okManyR Tryd.func23 (by kernel_rfl) (by kernel_rfl) (GOk.cons okBoth Tryd.func15 (by kernel_rfl) (by kernel_rfl) (GOk.cons okPow2 Tryd.func14 (by kernel_rfl) (by kernel_rfl) (GOk.cons okHas Tryd.func19 (by kernel_rfl) (by kernel_rfl) GOk.nil)))))) GoOk.nil noIt) Tryd.func6 (c := Tryd.f6.body.getD .skip) (rvs := [(.tmp 6, .bool)]) (by kernel_rfl) (by kernel_rfl) (by kernel_rfl) ?_
  intro ds k ⟨hp, hk⟩ hwf
  obtain ⟨n, l, v, rfl, -⟩ := dest3 hp
  exact ⟨anQM n l, qm_vc n l v k hk⟩
end Go.Proofs.YtlopkkoenfngiaaDoor
