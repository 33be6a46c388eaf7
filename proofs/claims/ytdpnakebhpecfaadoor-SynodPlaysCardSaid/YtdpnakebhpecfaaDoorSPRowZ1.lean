/- Own texts, merged: Rp, Rp2, Rp3, Rp1, Tz, Bt, Pp, Def, V, Ok, Def2, V2, Ok2, Def3, V3, Ok3, Ok4, Rp4, Def4, V4, Ok5, Def5, V5, Ok6, Def6. -/
import Derived.Test.YtdpnakebhpecfaaDoorChecked
import Derived.WalkKit
import Derived.Shelf.RegionOpen
import Derived.Laws.CopyRow
import Derived.Laws.Cells
import Derived.Laws.IdiomRangeMap
import Derived.Deep.RegionHeld
import Derived.Deep.WholeRow
import Derived.Test.YtdpnakebhpecfaaDoorVcC
import Derived.PlainAid
import Derived.Deep.RegionLaw
import Derived.Shelf.Spec.TrailingZeros
import Derived.RangeFuncNested
import Derived.RangeFuncBound
import Derived.RangeFuncCalls
import Derived.RangeFuncLeaves
import Derived.Shelf.Abstract
import Derived.OwnWalkIn
import Derived.TacticsInMore
import Derived.LoopNIn
import Derived.LoopIn
import Derived.Test.YtdpnakebhpecfaaDoorVcQ
import Derived.Test.YtdpnakebhpecfaaDoorRows
import Derived.Test.YtdpnakebhpecfaaDoorVcNB
/- slices.Repeat of one member. -/
namespace Go.Proofs.YtdpnakebhpecfaaDoor
open Go.RowKit Go.Shelf
attribute [local go_sem] Oper.semAt_some
/-- the high half of once so many -/
def hiM (n : Int) : Int :=
  IntKind.u64.wrap
    (IntKind.u64.wrap (IntKind.u64.wrap (IntKind.u64.wrap (bits BinOp.and IntKind.u64 1 4294967295 * bits BinOp.and IntKind.u64 n 4294967295) / 4294967296) / 4294967296) +
      IntKind.u64.wrap (bits BinOp.and IntKind.u64 (IntKind.u64.wrap (IntKind.u64.wrap (bits BinOp.and IntKind.u64 1 4294967295 * bits BinOp.and IntKind.u64 n 4294967295) / 4294967296)) 4294967295 +
          IntKind.u64.wrap (bits BinOp.and IntKind.u64 1 4294967295 * (n / 4294967296))) / 4294967296)
theorem hiM_eq : ∀ n : Fin 9, hiM (n.val : Int) = 0 := by decide +kernel
set_option maxHeartbeats 2000000 in
theorem mul64 (n : Nat) (hn : n ≤ 8) (w : World) : Calls Tryd.prog 36 #[.int .u64 1, .int .u64 (n : Int)] w fun e w' => e = .returned (.tuple #[.int .u64 0, .int .u64 (n : Int)]) ∧ w' = w := by
  go_enter Tryd.func36, Tryd.ntmps36
  go_wp2
  go_ret2
  refine ⟨?_, rfl⟩
  have h := hiM_eq ⟨n, by omega⟩
  unfold hiM at h
  simp only at h
  simp [h]
end Go.Proofs.YtdpnakebhpecfaaDoor

namespace Go.Proofs.YtdpnakebhpecfaaDoor
open Go.RowKit Go.Shelf
def mz : Nat → List Value
  | 0 => []
  | n + 1 => .int .i64 0 :: .int .i64 0 :: .int .i64 0 :: mz n
theorem mk1 (w : World) : (Instr.makeSlice 55 (.int .i64 1) (.int .i64 1)).run Tryd.prog w = .ok (.slice (some ⟨w.heap.size, 0, none⟩) 1 1) (w.alloc (.cells (mz 1).toArray 58)) := by kernel_rfl
theorem mk8 (w : World) : (Instr.makeSlice 55 (.int .i64 8) (.int .i64 8)).run Tryd.prog w = .ok (.slice (some ⟨w.heap.size, 0, none⟩) 8 8) (w.alloc (.cells (mz 8).toArray 58)) := by kernel_rfl
/-- some members copied to a row of the call's own -/
theorem run_copy3 {P : Program} (w : World) (dT sT ty elem : TypeId) (g o dLen dCap : Nat) (a : Addr) (sLen sCap : Nat) (cur : Array Value) (t : TypeId) (cs : List Value)
    (hu : P.underlying dT = some (.slice elem)) (hs : (P.info? elem).map (·.size) = some 3)
    (hg : w.heap[g]? = some (.cells cur t (0, 0))) (hn : cs.length = Nat.min sLen dLen * 3)
    (hsrc : ∀ j v, cs[j]? = some v → w.cell? (a.add j) = some v) (hfit : o + cs.length ≤ cur.size) (h1 : ∀ v ∈ cs, v.oneCell' = true) :
    (Builtin.copy_ #[dT, sT] ty #[.slice (some ⟨g, o, none⟩) dLen dCap, .slice (some a) sLen sCap]).run P w =
      .ok (goInt (Nat.min sLen dLen)) (w.setRow g (cur.toList.take o ++ cs ++ cur.toList.drop (o + cs.length)).toArray) := by
  have hl := run_loadCells_list (P := P) w a cs hsrc
  have hst := run_storeCells_at P g o t cs 0 cur w hg (by simpa using hfit) h1
  cases hq : P.info? elem with
  | none => simp [hq] at hs
  | some i =>
    have hi : i.size = 3 := by simpa [hq] using hs
    simp [Builtin.copy_, run_underlying hu, Builtin.lenOf, Builtin.firstCells, sizeOf, typeInfo, hq, hi, ← hn, hl, hst]
theorem mz_len (n : Nat) : (mz n).length = n * 3 := by
  induction n with
  | zero => rfl
  | succ n ih => simp only [mz, List.length_cons, ih]; omega
/-- the first one is copied -/
theorem copy1 (n : Nat) (hn : 1 ≤ n) (ad : Addr) (c : Nat) (p b v : Int) (w : World) (hlt : ad.block < w.heap.size) (h0 : w.cell? (ad.add 0) = some (.int .i64 p)) (h1 : w.cell? (ad.add 1) = some (.int .i64 b)) (h2 : w.cell? (ad.add 2) = some (.int .i64 v)) :
    (Builtin.copy_ #[55, 55] 3 #[.slice (some ⟨w.heap.size, 0, none⟩) n n, .slice (some ad) 1 c]).run Tryd.prog (w.alloc (.cells (mz n).toArray 58)) =
      .ok (goInt 1) ((w.alloc (.cells (mz n).toArray 58)).setRow w.heap.size (([.int .i64 p, .int .i64 b, .int .i64 v] : List Value) ++ (mz n).drop 3).toArray) := by
  have hml := mz_len n
  have := run_copy3 (P := Tryd.prog) (w.alloc (.cells (mz n).toArray 58)) 55 55 3 58 w.heap.size 0 n n ad 1 c (mz n).toArray 58 [.int .i64 p, .int .i64 b, .int .i64 v] (by kernel_rfl) (by kernel_rfl) (heap_alloc_new w _) (by rw [show Nat.min 1 n = 1 from Nat.min_eq_left hn]; rfl) (fun j u hj => ?_) (by simp; omega) (by simp [Value.oneCell'])
  · rw [show Nat.min 1 n = 1 from Nat.min_eq_left hn] at this
    simpa using this
  · have key : ∀ i x, w.cell? (ad.add i) = some x → (w.alloc (.cells (mz n).toArray 58)).cell? (ad.add i) = some x := fun i x h => by
      rw [World.cell?_alloc_some _ _ _ (by rw [h]; rfl), h]
    match j, hj with
    | 0, hj => injection hj with hj; subst hj; exact key _ _ h0
    | 1, hj => injection hj with hj; subst hj; exact key _ _ h1
    | 2, hj => injection hj with hj; subst hj; exact key _ _ h2
    | _ + 3, hj => simp at hj
end Go.Proofs.YtdpnakebhpecfaaDoor

/- slices.Repeat of one member: the copies. -/
namespace Go.Proofs.YtdpnakebhpecfaaDoor
open Go.RowKit Go.Shelf
def mm (p b v : Int) : List Value := [.int .i64 p, .int .i64 b, .int .i64 v]
/-- so many of them -/
def rp (p b v : Int) (k : Nat) : List Value := (List.replicate k (mm p b v)).flatten
theorem rp_len (p b v : Int) (k : Nat) : (rp p b v k).length = k * 3 := by
  unfold rp
  induction k with
  | zero => rfl
  | succ k ih => rw [List.replicate_succ, List.flatten_cons, List.length_append, ih]; simp only [mm, List.length_cons, List.length_nil]; omega
theorem rp_add (p b v : Int) (j k : Nat) : rp p b v (j + k) = rp p b v j ++ rp p b v k := by
  unfold rp; rw [← List.replicate_append_replicate, List.flatten_append]
theorem mz_drop (n : Nat) : ∀ j, (mz n).drop (j * 3) = mz (n - j)
  | 0 => rfl
  | j + 1 => by
    cases n with
    | zero => simp [mz]
    | succ n =>
      have := mz_drop n j
      rw [show (j + 1) * 3 = j * 3 + 3 by omega, show n + 1 - (j + 1) = n - j by omega, ← this]
      rfl
def rws (p b v : Int) (n k : Nat) : List Value := rp p b v k ++ mz (n - k)
theorem rws_len (p b v : Int) {n k : Nat} (h : k ≤ n) : (rws p b v n k).length = n * 3 := by
  unfold rws; rw [List.length_append, rp_len, mz_len]; omega
theorem rws_one (p b v : Int) (n k : Nat) : ∀ x ∈ rws p b v n k, x.oneCell' = true := by
  intro x hx
  rcases List.mem_append.1 hx with h | h
  · unfold rp at h
    obtain ⟨l, h1, h2⟩ := List.mem_flatten.1 h
    rw [(List.mem_replicate.1 h1).2] at h2
    simp only [mm, List.mem_cons, List.not_mem_nil, or_false] at h2
    rcases h2 with rfl | rfl | rfl <;> rfl
  · have : ∀ n, ∀ x ∈ mz n, x.oneCell' = true := by
      intro n
      induction n with
      | zero => intro x hx; cases hx
      | succ n ih =>
        intro x hx
        simp only [mz, List.mem_cons] at hx
        rcases hx with rfl | rfl | rfl | hx
        · rfl
        · rfl
        · rfl
        · exact ih x hx
    exact this _ x h
theorem rws_step (p b v : Int) {n k m : Nat} (hm : m ≤ k) (h : k + m ≤ n) : (rws p b v n k).take (k * 3) ++ (rws p b v n k).take (m * 3) ++ (rws p b v n k).drop (k * 3 + m * 3) = rws p b v n (k + m) := by
  have e1 : (rws p b v n k).take (k * 3) = rp p b v k := by
    unfold rws; rw [← rp_len p b v k, List.take_left]
  have e2 : (rws p b v n k).take (m * 3) = rp p b v m := by
    unfold rws
    rw [show k = m + (k - m) by omega, rp_add, List.append_assoc, ← rp_len p b v m, List.take_left]
  have e3 : (rws p b v n k).drop (k * 3 + m * 3) = mz (n - (k + m)) := by
    unfold rws
    rw [← List.drop_drop, ← rp_len p b v k, List.drop_left, mz_drop]
    congr 1; omega
  rw [e1, e2, e3]
  unfold rws
  rw [rp_add]
theorem copy1' (n : Nat) (hn : 1 ≤ n) (ad : Addr) (c : Nat) (p b v : Int) (w : World) (hlt : ad.block < w.heap.size) (h0 : w.cell? (ad.add 0) = some (.int .i64 p)) (h1 : w.cell? (ad.add 1) = some (.int .i64 b)) (h2 : w.cell? (ad.add 2) = some (.int .i64 v)) :
    (Builtin.copy_ #[55, 55] 3 #[.slice (some ⟨w.heap.size, 0, none⟩) n n, .slice (some ad) 1 c]).run Tryd.prog (w.alloc (.cells (mz n).toArray 58)) =
      .ok (goInt 1) (w.alloc (.cells (rws p b v n 1).toArray 58)) := by
  rw [copy1 n hn ad c p b v w hlt h0 h1 h2, World.setRow_alloc_new, mz_drop n 1]; rfl
/-- the row's beginning is copied behind itself -/
theorem copyk (n k : Nat) (hk : k ≤ n) (cs : List Value) (hcs : cs.length = n * 3) (hone : ∀ x ∈ cs, x.oneCell' = true) (w : World) :
    (Builtin.copy_ #[55, 55] 3 #[.slice (some ⟨w.heap.size, k * 3, none⟩) (n - k) (n - k), .slice (some ⟨w.heap.size, 0, none⟩) k n]).run Tryd.prog (w.alloc (.cells cs.toArray 58)) =
      .ok (goInt (Nat.min k (n - k))) (w.alloc (.cells (cs.take (k * 3) ++ cs.take (Nat.min k (n - k) * 3) ++ cs.drop (k * 3 + Nat.min k (n - k) * 3)).toArray 58)) := by
  have hmin : Nat.min k (n - k) ≤ k ∧ Nat.min k (n - k) ≤ n - k := ⟨Nat.min_le_left _ _, Nat.min_le_right _ _⟩
  have hlen : (cs.take (Nat.min k (n - k) * 3)).length = Nat.min k (n - k) * 3 := by rw [List.length_take, hcs]; omega
  have := run_copy3 (P := Tryd.prog) (w.alloc (.cells cs.toArray 58)) 55 55 3 58 w.heap.size (k * 3) (n - k) (n - k) ⟨w.heap.size, 0, none⟩ k n cs.toArray 58 (cs.take (Nat.min k (n - k) * 3)) (by kernel_rfl) (by kernel_rfl) (heap_alloc_new w _) hlen
    (fun j u hj => ?_) (by rw [hlen]; simp; omega) (fun x hx => hone x (List.mem_of_mem_take hx))
  · rw [World.setRow_alloc_new, hlen] at this
    exact this
  · have hj' : cs[j]? = some u := by
      rw [List.getElem?_take] at hj
      split at hj
      · exact hj
      · cases hj
    rw [show (⟨w.heap.size, 0, none⟩ : Addr).add j = ⟨w.heap.size, j, none⟩ by rw [Go.Vc.addr_add]; simp]
    rw [cell_of_row _ w.heap.size j cs.toArray 58 (0, 0) (heap_alloc_new w _)]
    simpa using hj'
/-- the members that are there are copied behind themselves -/
theorem copy2 (p b v : Int) (n k : Nat) (hk : k ≤ n) (w : World) :
    (Builtin.copy_ #[55, 55] 3 #[.slice (some ⟨w.heap.size, k * 3, none⟩) (n - k) (n - k), .slice (some ⟨w.heap.size, 0, none⟩) k n]).run Tryd.prog (w.alloc (.cells (rws p b v n k).toArray 58)) =
      .ok (goInt (Nat.min k (n - k))) (w.alloc (.cells (rws p b v n (k + Nat.min k (n - k))).toArray 58)) := by
  have hmin : Nat.min k (n - k) ≤ k ∧ Nat.min k (n - k) ≤ n - k := ⟨Nat.min_le_left _ _, Nat.min_le_right _ _⟩
  rw [copyk n k hk _ (rws_len p b v hk) (rws_one p b v n k) w, rws_step p b v hmin.1 (by omega)]
theorem mkk1 (w : World) : (Instr.makeSlice 55 (.int .i64 (1 : Nat)) (.int .i64 (1 : Nat))).run Tryd.prog w = .ok (.slice (some ⟨w.heap.size, 0, none⟩) 1 1) (w.alloc (.cells (mz 1).toArray 58)) := by kernel_rfl
theorem mkk2 (w : World) : (Instr.makeSlice 55 (.int .i64 (2 : Nat)) (.int .i64 (2 : Nat))).run Tryd.prog w = .ok (.slice (some ⟨w.heap.size, 0, none⟩) 2 2) (w.alloc (.cells (mz 2).toArray 58)) := by kernel_rfl
theorem mkk3 (w : World) : (Instr.makeSlice 55 (.int .i64 (3 : Nat)) (.int .i64 (3 : Nat))).run Tryd.prog w = .ok (.slice (some ⟨w.heap.size, 0, none⟩) 3 3) (w.alloc (.cells (mz 3).toArray 58)) := by kernel_rfl
theorem mkk4 (w : World) : (Instr.makeSlice 55 (.int .i64 (4 : Nat)) (.int .i64 (4 : Nat))).run Tryd.prog w = .ok (.slice (some ⟨w.heap.size, 0, none⟩) 4 4) (w.alloc (.cells (mz 4).toArray 58)) := by kernel_rfl
theorem mkk5 (w : World) : (Instr.makeSlice 55 (.int .i64 (5 : Nat)) (.int .i64 (5 : Nat))).run Tryd.prog w = .ok (.slice (some ⟨w.heap.size, 0, none⟩) 5 5) (w.alloc (.cells (mz 5).toArray 58)) := by kernel_rfl
theorem mkk6 (w : World) : (Instr.makeSlice 55 (.int .i64 (6 : Nat)) (.int .i64 (6 : Nat))).run Tryd.prog w = .ok (.slice (some ⟨w.heap.size, 0, none⟩) 6 6) (w.alloc (.cells (mz 6).toArray 58)) := by kernel_rfl
theorem mkk7 (w : World) : (Instr.makeSlice 55 (.int .i64 (7 : Nat)) (.int .i64 (7 : Nat))).run Tryd.prog w = .ok (.slice (some ⟨w.heap.size, 0, none⟩) 7 7) (w.alloc (.cells (mz 7).toArray 58)) := by kernel_rfl
theorem mkk8 (w : World) : (Instr.makeSlice 55 (.int .i64 (8 : Nat)) (.int .i64 (8 : Nat))).run Tryd.prog w = .ok (.slice (some ⟨w.heap.size, 0, none⟩) 8 8) (w.alloc (.cells (mz 8).toArray 58)) := by kernel_rfl
theorem mks (n : Nat) (h : 1 ≤ n ∧ n ≤ 8) (w : World) : (Instr.makeSlice 55 (.int .i64 n) (.int .i64 n)).run Tryd.prog w = .ok (.slice (some ⟨w.heap.size, 0, none⟩) n n) (w.alloc (.cells (mz n).toArray 58)) := by
  have hc : n = 1 ∨ n = 2 ∨ n = 3 ∨ n = 4 ∨ n = 5 ∨ n = 6 ∨ n = 7 ∨ n = 8 := by omega
  rcases hc with rfl | rfl | rfl | rfl | rfl | rfl | rfl | rfl
  · exact mkk1 w
  · exact mkk2 w
  · exact mkk3 w
  · exact mkk4 w
  · exact mkk5 w
  · exact mkk6 w
  · exact mkk7 w
  · exact mkk8 w
end Go.Proofs.YtdpnakebhpecfaaDoor

/- slices.Repeat of one member: the walk. -/
namespace Go.Proofs.YtdpnakebhpecfaaDoor
open Go.RowKit Go.Shelf
attribute [local go_sem] Oper.semAt_some
/-- a copy, as a step of a region that draws -/
theorem step_copy {P : Program} {ops : Array Oper} {o : Oper} {a : Act} {w : World} {K : Act → World → Prop} {Q : Exit → Act → World → Prop} {E : Prop}
    (hg : o.guard = none) (x y : Operand) (t u : TypeId) (hop : o.op = Op.call { callee := Callee.builtin Builtin.copy, args := #[x, y], argTypes := #[t, u] })
    (v1 v2 : Value) (h1 : a.eval x = v1) (h2 : a.eval y = v2) (v : Value) (w1 : World) (hrun : (Builtin.copy_ #[t, u] o.type #[v1, v2]).run P w = .ok v w1)
    (hK : K (a.put o.dst v) w1) : if Region.wanted o (yielded ops a.tmps) = true then Oper.wp P o a w K Q else E := by
  have hw : Region.wanted o (yielded ops a.tmps) = true := by simp [Region.wanted, hg]
  rw [if_pos hw]
  unfold Oper.wp execOp
  simp only [hop, resolve, invoke, builtin, Sem.run_bind, Sem.run_pure, Result.andThen_ok, List.map_toArray, List.map_cons, List.map_nil, h1, h2, hrun]
  exact hK
set_option maxRecDepth 100000 in
set_option maxHeartbeats 2000000 in
theorem rep1 (n : Nat) (hn : 1 ≤ n ∧ n ≤ 8) (ad : Addr) (c : Nat) (p b v : Int) (w : World) (hlt : ad.block < w.heap.size) (h0 : w.cell? (ad.add 0) = some (.int .i64 p)) (h1 : w.cell? (ad.add 1) = some (.int .i64 b)) (h2 : w.cell? (ad.add 2) = some (.int .i64 v)) :
    Calls Tryd.prog 25 #[.slice (some ad) 1 c, .int .i64 (n : Int)] w fun e w' => e = .returned (.slice (some ⟨w.heap.size, 0, none⟩) n n) ∧ ∃ d, w' = ({ w with drawn := d } : World).alloc (.cells (rws p b v n n).toArray 58) := by
  have hw : IntKind.u64.wrap (n : Int) = (n : Int) := IntWalk.u64_in _ (by omega)
  have hw2 : IntKind.i64.wrap (n : Int) = (n : Int) := IntWalk.i64_in _ (by omega)
  go_enter Tryd.func25, Tryd.ntmps25
  go_wp2_with (first | (go_at_call 36; refine (mul64 n hn.2 _).mono ?_; rintro e w' ⟨rfl, rfl⟩) | (simp only [mks n hn, Result.andThen_ok]) | (simp only [copy1' n hn.1 ad c p b v _ hlt h0 h1 h2, Result.andThen_ok]))
  go_loopw [8] (fun x wr => ∃ k : Nat, 1 ≤ k ∧ k ≤ n ∧ x = .int .i64 (k : Int) ∧ ∃ d : Nat, wr = (({ w' with drawn := d } : World).alloc (.cells (rws p b v n k).toArray 58))) (fun x _ => n - (intOf x).toNat)
  · exact ⟨1, Nat.le_refl _, hn.1, rfl, w'.drawn, rfl⟩
  · obtain ⟨k, hk1, hkn, rfl, d, rfl⟩ := hrel
    go_wp2
    · have hlt : k < n := by assumption
      have hne : ¬ n = k := by omega
      have hcp := copy2 p b v n k hkn ({ w' with drawn := d + 1 } : World)
      have hw3 : (({ w' with drawn := d } : World).alloc (.cells (rws p b v n k).toArray 58)).drew = (({ w' with drawn := d + 1 } : World).alloc (.cells (rws p b v n k).toArray 58)) := rfl
      rw [← hw3] at hcp
      go_region_law (refine step_copy rfl (.tmp 41) (.tmp 44) 55 55 rfl _ _ (by simp [Act.eval, Act.put]; first | done | (exact ⟨rfl, rfl⟩) | rfl) (by simp [Act.eval, Act.put]; first | done | rfl) _ _ hcp ?_)
      have hmin : k.min (n - k) ≤ k ∧ k.min (n - k) ≤ n - k := ⟨Nat.min_le_left _ _, Nat.min_le_right _ _⟩
      have hmin2 : 1 ≤ k.min (n - k) := by show 1 ≤ min k (n - k); omega
      have hwr : IntKind.i64.wrap ((k : Int) + ((k.min (n - k) : Nat) : Int)) = ((k + k.min (n - k) : Nat) : Int) := by rw [IntWalk.i64_in _ (by omega)]; omega
      all_goals go_wp2
      all_goals go_round
      case rel => exact ⟨k + k.min (n - k), by omega, by omega, by first | rfl | (congr 1; omega) | omega, d + 1, rfl⟩
      case measure => simp [intOf]; omega
    · have : k = n := by omega
      subst this
      go_ret
      exact ⟨rfl, d, rfl⟩
end Go.Proofs.YtdpnakebhpecfaaDoor

/- How many zeros a number ends with: the library's function, walked; the iterator over the things of a set. -/
namespace Go.Proofs.YtdpnakebhpecfaaDoor
open Go.RowKit Go.Shelf
attribute [local go_sem] Oper.semAt_some

set_option maxHeartbeats 1000000 in
theorem tz64_core (x k idx : Nat) (w : World) (hx0 : ((x : Int) == 0) = false)
    (key : IntKind.u64.wrap (bits BinOp.and IntKind.u64 (x : Int) (IntKind.u64.wrap (-(x : Int))) * 285870213051353865) / 288230376151711744 = (idx : Int))
    (hi : idx < 64) (hk : k < 64) (hcell : w.cell? ⟨2, idx, none⟩ = some (.int .u8 k)) :
    Calls Tryd.prog 46 #[.int .u64 x] w fun e w' => e = .returned (.int .i64 k) ∧ w' = w := by
  go_enter Tryd.func46, Tryd.ntmps46
  go_wp2_with (simp only [key])
  go_ret
  exact ⟨rfl, rfl⟩

theorem tz64_zero (w : World) : Calls Tryd.prog 46 #[.int .u64 0] w fun e w' => e = .returned (.int .i64 64) ∧ w' = w := by
  go_enter Tryd.func46, Tryd.ntmps46
  go_wp2
  go_ret
  exact ⟨rfl, rfl⟩

theorem tz64 (x : Nat) (hx : x < 18446744073709551616) (w : World) (hT : x ≠ 0 → TabAt 2 Lib.deBruijn64tab w) :
    Calls Tryd.prog 46 #[.int .u64 x] w fun e w' => e = .returned (.int .i64 (Lib.ctz 64 x)) ∧ w' = w := by
  by_cases hx0 : x = 0
  · subst hx0
    exact tz64_zero w
  · obtain ⟨hlow, hk⟩ := Lib.lowest_bit 64 x hx0 hx
    obtain ⟨hi, htab⟩ := Lib.deBruijn64_at _ hk
    have hcell := hT hx0 _ hi
    rw [htab] at hcell
    exact tz64_core x _ _ w (by simp; omega) (tz64_key x _ hx hx0 hlow) hi hk hcell

theorem tz (x : Nat) (hx : x < 18446744073709551616) (w : World) (hT : x ≠ 0 → TabAt 2 Lib.deBruijn64tab w) :
    Calls Tryd.prog 39 #[.int .u64 x] w fun e w' => e = .returned (.int .i64 (Lib.ctz 64 x)) ∧ w' = w := by
  go_enter Tryd.func39, Tryd.ntmps39
  go_wp2_with (go_at_call 46; refine (tz64 x hx _ hT).mono ?_; rintro e w' ⟨rfl, rfl⟩)
  go_ret
  exact ⟨rfl, rfl⟩
end Go.Proofs.YtdpnakebhpecfaaDoor

/- The iterator over the things of a set hands on the places of its bits, rising. -/
namespace Go.Proofs.YtdpnakebhpecfaaDoor
open Go.RowKit Go.Shelf Go.Vc
attribute [local go_sem] Oper.semAt_some

theorem ctz_facts {r : Nat} (h0 : r ≠ 0) (h : r < 2 ^ 64) : Lib.ctz 64 r < 64 ∧ r.testBit (Lib.ctz 64 r) = true ∧ (∀ i, i < Lib.ctz 64 r → r.testBit i = false) ∧ ∀ i, (r &&& (r - 1)).testBit i = (r.testBit i && !decide (i = Lib.ctz 64 r)) := by
  have hc : Lib.ctz 64 r = Lib.ctzFrom 64 r := by unfold Lib.ctz; rw [if_neg h0]
  obtain ⟨m, hm, hlt⟩ := Lib.ctzFrom_spec 64 r (by omega) h
  rw [hc]
  generalize Lib.ctzFrom 64 r = t at *
  have hb : ∀ i, r.testBit i = (decide (t ≤ i) && (2 * m + 1).testBit (i - t)) := by
    intro i; rw [hm, Nat.testBit_two_pow_mul]
  have hpos : 0 < 2 ^ t := Nat.two_pow_pos t
  have hr1 : r - 1 = 2 ^ t * (2 * m) + (2 ^ t - 1) := by
    rw [hm, Nat.mul_add, Nat.mul_one]; omega
  have hb1 : ∀ i, (r - 1).testBit i = if i < t then (2 ^ t - 1).testBit i else (2 * m).testBit (i - t) := by
    intro i; rw [hr1, Nat.testBit_two_pow_mul_add _ (by omega)]
  refine ⟨hlt, ?_, fun i hi => ?_, fun i => ?_⟩
  · rw [hb]; simp
  · rw [hb]; simp; omega
  · rw [Nat.testBit_and, hb1, hb]
    by_cases h1 : i < t
    · rw [if_pos h1]
      have : decide (t ≤ i) = false := by simpa using h1
      rw [this]; simp
    · rw [if_neg h1]
      have : decide (t ≤ i) = true := by simpa using h1
      rw [this, Bool.true_and]
      by_cases h2 : i = t
      · subst h2; simp
      · obtain ⟨j, hj⟩ : ∃ j, i - t = j + 1 := ⟨i - t - 1, by omega⟩
        rw [hj, Nat.testBit_add_one, Nat.testBit_add_one, show (2 * m + 1) / 2 = m by omega, show 2 * m / 2 = m by omega]
        simp [h2]

def u64Of : Value → Nat
  | .int _ n => n.toNat
  | _ => 0
def bitsN (n : Nat) : List Nat := (List.range' 0 64).filter n.testBit

theorem filter_from (f : Nat → Bool) : ∀ (d p t : Nat), p + d = t → t < 64 → (∀ i, p ≤ i → i < t → f i = false) → f t = true → (List.range' p (64 - p)).filter f = t :: (List.range' (t + 1) (64 - (t + 1))).filter f := by
  intro d
  induction d with
  | zero =>
    intro p t ht h64 _ hft
    have : p = t := by omega
    subst this
    rw [show 64 - p = (64 - (p + 1)) + 1 by omega, List.range'_succ, List.filter_cons, if_pos hft]
  | succ d ih =>
    intro p t ht h64 hf hft
    rw [show 64 - p = (64 - (p + 1)) + 1 by omega, List.range'_succ, List.filter_cons, if_neg (by rw [hf p (Nat.le_refl _) (by omega)]; decide)]
    exact ih (p + 1) t (by omega) h64 (fun i h1 h2 => hf i (by omega) h2) hft

set_option maxRecDepth 100000 in
set_option maxHeartbeats 2000000 in
theorem bits1_in (F : Fence) (h45 : F.fn 38) (h46 : F.fn 39) (hro : F.round = none) (htz : ∀ (m x : Nat) (w : World), x < 18446744073709551616 → TabAt 2 Lib.deBruijn64tab w → CallsIn F m Tryd.prog 39 #[.int .u64 x] w fun e w' => e = .returned (.int .i64 (Lib.ctz 64 x)) ∧ w' = w) (n l : Nat) (hn : 1 ≤ n) (b : Nat) (o : Nat) (s : Int) (hs : inK .i64 s) (J Jx : Nat → World → Prop) (W : World)
    (hR : ∀ k W', J k W' → W'.cell? ⟨b, o, none⟩ = some (.int .i64 s) ∧ TabAt 2 Lib.deBruijn64tab W')
    (hY : ∀ m k x W1, ((bitsN (s % 18446744073709551616).toNat).map fun (i : Nat) => Value.int .i64 (i : Int))[k]? = some x → J k W1 →
      YieldAt F m Tryd.prog l #[x] W1 fun e W' => (e = .returned (.bool true) ∧ J (k + 1) W') ∨ (e = .returned (.bool false) ∧ Jx (k + 1) W')) (h0 : J 0 W) :
    CallsIn F n Tryd.prog 38 #[.func (.yield l) #[] #[], .pointer (some ⟨b, o, none⟩)] W fun e W' => (∃ v, e = .returned v) ∧ (J (bitsN (s % 18446744073709551616).toNat).length W' ∨ ∃ k, Jx k W') := by
  obtain ⟨N, hN⟩ : ∃ N, N = (s % 18446744073709551616).toNat := ⟨_, rfl⟩
  have hN64 : N < 18446744073709551616 := by omega
  have hw : IntKind.u64.wrap s = (N : Int) := by rw [IntKind.wrap_u64]; omega
  rw [← hN] at hY ⊢
  refine callsIn_of_wp Tryd.func38 rfl h45 ?_ hro
  simp only [Tryd.ntmps38, List.size_toArray, List.length_cons, List.length_nil, Nat.reduceAdd, Nat.reduceSub, Array.replicate_succ, Array.replicate_zero, List.push_toArray, List.append_toArray, List.nil_append, List.cons_append]
  have hc0 := (hR 0 W h0).1
  gi_wp2
  have hmx : max (s % 18446744073709551616) 0 = (N : Int) := by omega
  simp only [hmx]
  gi_loopw [3] (fun p wr => ∃ (r q k : Nat), p = .int .u64 (r : Int) ∧ r < 18446744073709551616 ∧ q ≤ 64 ∧ (∀ i, r.testBit i = (decide (q ≤ i) && N.testBit i)) ∧ (bitsN N).drop k = (List.range' q (64 - q)).filter N.testBit ∧ k ≤ (bitsN N).length ∧ J k wr)
    (fun p _ => u64Of p)
  case atStart =>
    exact ⟨N, 0, 0, rfl, hN64, by omega, fun i => by simp, rfl, by omega, h0⟩
  case round =>
    obtain ⟨r, q, k, rfl, hr, hq, hb, hd, hk, hJ⟩ := hrel
    obtain ⟨hc, hT⟩ := hR k wr hJ
    by_cases h0 : r = 0
    · subst h0
      have hkl : k = (bitsN N).length := by
        have : (List.range' q (64 - q)).filter N.testBit = [] := by
          rw [List.filter_eq_nil_iff]
          intro i hi
          have hqi := (List.mem_range'_1.1 hi).1
          have := hb i
          simp only [Nat.zero_testBit, decide_eq_true hqi, Bool.true_and] at this
          rw [← this]; decide
        rw [this, List.drop_eq_nil_iff] at hd
        omega
      subst hkl
      gi_wp2
      go_end0
      exact ⟨⟨_, rfl⟩, .inl hJ⟩
    · obtain ⟨f1, f2, f3, f4⟩ := ctz_facts h0 hr
      obtain ⟨t, ht⟩ : ∃ t, t = Lib.ctz 64 r := ⟨_, rfl⟩
      rw [← ht] at f1 f2 f3 f4
      have hqt : q ≤ t := by
        have := hb t; rw [f2] at this
        simp only [Bool.true_eq, Bool.and_eq_true, decide_eq_true_eq] at this; exact this.1
      have hNt : N.testBit t = true := by
        have := hb t; rw [f2] at this
        simp only [Bool.true_eq, Bool.and_eq_true, decide_eq_true_eq] at this; exact this.2
      have hd2 := filter_from N.testBit (t - q) q t (by omega) f1 (fun i h1 h2 => by
        have := hb i; rw [f3 i h2] at this
        simpa [h1] using this.symm) hNt
      rw [hd2] at hd
      have hkl : k < (bitsN N).length := by
        rcases Nat.lt_or_ge k (bitsN N).length with h | h
        · exact h
        · rw [List.drop_of_length_le h] at hd; cases hd
      have hxk : (bitsN N)[k]? = some t := by
        rw [List.drop_eq_getElem_cons hkl] at hd
        injection hd with hd1 _
        rw [List.getElem?_eq_getElem hkl, hd1]
      have hdk : (bitsN N).drop (k + 1) = (List.range' (t + 1) (64 - (t + 1))).filter N.testBit := by
        rw [List.drop_eq_getElem_cons hkl] at hd
        injection hd
      obtain ⟨fn, tmps, assign, body, hy, hRd⟩ := hY (n - 1) k (.int .i64 (t : Int)) wr (by rw [List.getElem?_map, hxk]; rfl) hJ
      have hne : ((r : Int) == 0) = false := by simp; omega
      have hnext : ∀ W', J (k + 1) W' → ∃ (r' q' k' : Nat), (Value.int .u64 ((r &&& (r - 1) : Nat) : Int) : Value) = .int .u64 (r' : Int) ∧ r' < 18446744073709551616 ∧ q' ≤ 64 ∧ (∀ i, r'.testBit i = (decide (q' ≤ i) && N.testBit i)) ∧
          (bitsN N).drop k' = (List.range' q' (64 - q')).filter N.testBit ∧ k' ≤ (bitsN N).length ∧ J k' W' := by
        intro W' hJ'
        refine ⟨r &&& (r - 1), t + 1, k + 1, rfl, Nat.lt_of_le_of_lt Nat.and_le_left hr, f1, fun i => ?_, hdk, hkl, hJ'⟩
        rw [f4, hb]
        by_cases h1 : i = t
        · have hni : decide (t + 1 ≤ i) = false := decide_eq_false (by omega)
          rw [hni, decide_eq_true h1]; simp
        · by_cases h2 : q ≤ i
          · by_cases h3 : t + 1 ≤ i
            · simp [h1, h2, h3]
            · have := hb i; rw [f3 i (by omega)] at this
              simp only [h2, decide_true, Bool.true_and] at this
              rw [← this]; simp
          · have h3 : ¬ t + 1 ≤ i := by omega
            simp [h2, h3]
      have hmeas : u64Of (.int .u64 ((r &&& (r - 1) : Nat) : Int)) < r := by
        show ((r &&& (r - 1) : Nat) : Int).toNat < r
        rw [Int.toNat_natCast]
        have : r &&& (r - 1) ≤ r - 1 := Nat.and_le_right
        omega
      have hand : ∀ (x : Int), x = (r : Int) - 1 → bits .and .u64 (r : Int) x = ((r &&& (r - 1) : Nat) : Int) := by
        intro x hx
        rw [hx, show (r : Int) - 1 = ((r - 1 : Nat) : Int) by omega, bits_and_u64_nat r _ hr (by omega)]
      have htz' := htz
      clear hb hd hdk hd2 f1 f2 f3 f4 hNt hqt hxk hkl hY hR hmx hw hN hN64 hq hk
      subst ht
      gi_wp2_with (gi_at_call 39; refine (htz _ r _ hr hT).mono ?_; rintro e w' ⟨rfl, rfl⟩)
      refine hRd.mono ?_
      rintro e W' (⟨rfl, hJ'⟩ | ⟨rfl, hJx'⟩)
      · have hsub : IntKind.u64.wrap ((r : Int) - 1) = (r : Int) - 1 := by rw [IntKind.wrap_u64]; omega
        have hand' := hand _ rfl
        gi_wp2
        exact ⟨hnext _ hJ', by show _ < ((r : Int)).toNat; rw [Int.toNat_natCast]; exact hmeas⟩
      · gi_wp2
        refine bodyPost_ret (results_none rfl _ _ _) rfl ?_
        exact ⟨⟨_, rfl⟩, .inr ⟨_, hJx'⟩⟩

abbrev tabD : List Int := [0, 1, 56, 2, 57, 49, 28, 3, 61, 58, 42, 50, 38, 29, 17, 4, 62, 47, 59, 36, 45, 43, 51, 22, 53, 39, 33, 30, 24, 18, 12, 5,
  63, 55, 48, 27, 60, 41, 37, 16, 46, 35, 44, 21, 52, 32, 23, 11, 54, 26, 40, 15, 34, 20, 31, 10, 25, 14, 19, 9, 13, 8, 7, 6]
/-- the library's table -/
def glT : List (Nat × Dat) := [(2, ⟨.ar 64 (.int .u8), tabD⟩)]

theorem tab_of {w : World} {ro : Nat → Prop} (h : GlOk glT w ro) : TabAt 2 Lib.deBruijn64tab w := by
  obtain ⟨_, us, h1, hn, css, hcs, hok⟩ := h 2 _ (List.mem_singleton.2 rfl)
  have hlen : css.length = 64 := hok.1
  have hflat : ∀ (xs : List Int) (css : List (List Value)), css.length = xs.length → (∀ (i : Nat) x u, xs[i]? = some x → css[i]? = some u → u = [Value.int .u8 x]) → css.flatten = xs.map (Value.int .u8) := by
    intro xs
    induction xs with
    | nil => intro css h _; cases css with
      | nil => rfl
      | cons => cases h
    | cons x r ih =>
      intro css h hx
      cases css with
      | nil => cases h
      | cons c cs =>
        rw [List.flatten_cons, hx 0 x c rfl rfl, ih cs (by simpa using h) (fun i x u h1 h2 => hx (i + 1) x u (by simpa using h1) (by simpa using h2))]
        rfl
  have hus : us = tabD.map (Value.int .u8) := by
    rw [hcs]
    exact hflat tabD css hok.1 fun i x u h1 h2 => (hok.2 i x u h1 h2).2.1
  intro j hj
  apply h1
  rw [hus, List.getElem?_map]
  have hj' : j < 64 := hj
  have : ∀ j : Fin 64, tabD[j.1]? = some ((Lib.deBruijn64tab.getD j.1 0 : Nat) : Int) := by decide
  rw [this ⟨j, hj'⟩]; rfl

/-- what the iterator over the things of a set hands on -/
def bitsOf (s : Int) : List Int := (bitsN (s % 18446744073709551616).toNat).map fun (i : Nat) => (i : Int)
def cBits : ItC := ⟨.pr (.ptr (.int .i64)) .un, .int .i64, fun x => match x.1 with
  | some s => some (bitsOf s)
  | none => none⟩

theorem itBits : ItOk Tryd.prog glT 38 cBits := by
  refine ⟨⟨_, Tryd.func38, rfl, rfl⟩, fun y xs hy => ?_⟩
  obtain ⟨y1, y2⟩ := y
  cases y1 with
  | none => cases hy
  | some s =>
    have hy : some (bitsOf s) = some xs := hy
    injection hy with hy; subst hy
    refine ⟨fun x hx w ro => ?_, fun caps n l J Jx W hJ hJx hG hY h0 => ?_⟩
    · unfold bitsOf at hx
      obtain ⟨i, hi, rfl⟩ := List.mem_map.1 hx
      have := (List.mem_range'_1.1 (List.mem_filter.1 hi).1).2
      exact ⟨rfl, inK_i64.2 ⟨by omega, by omega⟩⟩
    · have hR0 := (hG 0 W h0).2
      obtain ⟨c1, c2, hcs, ⟨ad, us, hc1, hsp, hblk, hcell, hus, hin⟩, hc2⟩ := hR0
      have hc2' : c2 = [] := hc2
      have hcaps : caps = #[.pointer (some ad)] := by apply Array.toList_inj.1; rw [hcs, hc1, hc2']; rfl
      subst hcaps
      obtain ⟨b, o, sp⟩ := ad
      have hsp' : sp = none := hsp
      subst hsp'
      have hmap : (bitsOf s).map (fun x => (Ty.int .i64).mk ((Ty.int .i64).cv x)) = (bitsN (s % 18446744073709551616).toNat).map fun (i : Nat) => Value.int .i64 (i : Int) := by
        unfold bitsOf; rw [List.map_map]; rfl
      have hlen : ((bitsOf s).map (fun x => (Ty.int .i64).mk ((Ty.int .i64).cv x))).length = (bitsN (s % 18446744073709551616).toNat).length := by rw [hmap, List.length_map]
      have hmap' : (bitsOf s).map (fun x => cBits.e.mk (cBits.e.cv x)) = (bitsN (s % 18446744073709551616).toNat).map fun (i : Nat) => Value.int .i64 (i : Int) := hmap
      have hlen' : ((bitsOf s).map (fun x => cBits.e.mk (cBits.e.cv x))).length = (bitsN (s % 18446744073709551616).toNat).length := hlen
      rw [hlen']
      rw [hmap'] at hY
      have key := bits1_in (FW none) trivial trivial rfl (fun m x w hx hT => callsIn_wide.2 (tz x hx w fun _ => hT)) (n + 1) l (by omega) b o s hin J Jx W (fun k W' hk => ?_) hY h0
      · exact callsIn_FW.2 (callsIn_FW.1 key)
      · obtain ⟨g1, g2⟩ := hG k W' hk
        refine ⟨?_, tab_of g1⟩
        obtain ⟨c1, c2, hcs, ⟨ad, us, hc1, _, _, hcell, hus, _⟩, hc2⟩ := g2
        rw [hc1] at hcs
        have hc2' : c2 = [] := hc2
        rw [hc2'] at hcs
        injection hcs with hcs _
        injection hcs with hcs; injection hcs with hcs
        subst hcs
        have := hcell 0 (.int .i64 s) (by rw [hus]; rfl)
        simpa [addr_add] using this
end Go.Proofs.YtdpnakebhpecfaaDoor

/- How many bits a small number has: the library's function, walked. -/
namespace Go.Proofs.YtdpnakebhpecfaaDoor
open Go.RowKit Go.Shelf
attribute [local go_sem] Oper.semAt_some

def pA (x : Int) : Int := IntKind.u64.wrap (bits .and .u64 (x / 2) 6148914691236517205 + bits .and .u64 x 6148914691236517205)
def pB (x : Int) : Int := IntKind.u64.wrap (bits .and .u64 (x / 4) 3689348814741910323 + bits .and .u64 x 3689348814741910323)
def pC (x : Int) : Int := bits .and .u64 (IntKind.u64.wrap (x / 16 + x)) 1085102592571150095
def pD (x : Int) : Int := IntKind.u64.wrap (x + x / 256)
def pE (x : Int) : Int := IntKind.u64.wrap (x + x / 65536)
def pF (x : Int) : Int := IntKind.u64.wrap (x + x / 4294967296)
def popE (x : Int) : Int := bits .and .i64 (wrap64 (pF (pE (pD (pC (pB (pA x))))))) 127
/-- how many bits a number below 256 has -/
def popN (x : Nat) : Nat := ((List.range 8).filter x.testBit).length
theorem popE_eq : ∀ n : Fin 256, popE (n.val : Int) = (popN n.val : Int) := by decide +kernel

theorem many (n : Nat) (hn : n < 256) (w : World) : Calls Tryd.prog 37 #[.int .i64 (n : Int)] w fun e w' => e = .returned (.int .i64 (popN n : Int)) ∧ w' = w := by
  have hw : IntKind.u64.wrap (n : Int) = (n : Int) := by rw [IntKind.wrap_u64]; omega
  have he : popE (n : Int) = (popN n : Int) := popE_eq ⟨n, hn⟩
  go_enter Tryd.func37, Tryd.ntmps37
  go_wp2
  go_ret
  refine ⟨?_, rfl⟩
  rw [← he]
  simp [popE, pA, pB, pC, pD, pE, pF]
end Go.Proofs.YtdpnakebhpecfaaDoor

/- Synods: what the functions answer. -/
namespace Go.Proofs.YtdpnakebhpecfaaDoor
open Go.Vc
@[match_pattern] abbrev I : Ty := .int .i64
@[match_pattern] abbrev tErr : Ty := .err 54
abbrev tIt : Ty := .fn 38 (.pr (.ptr I) .un)
/-- what one promised, the ballot and the value that it accepted last -/
@[match_pattern] abbrev tMe : Ty := .pr I (.pr I (.pr I .un))
/-- who promised, who accepted, the best ballot told of, its value, what is proposed, whether it is -/
@[match_pattern] abbrev tBa : Ty := .pr I (.pr I (.pr I (.pr I (.pr I (.pr .bool .un)))))
@[match_pattern] abbrev tSy : Ty := .pr (.sl tMe) (.pr (.ar 31 tBa) .un)
/-- kind, ballot, value, to whom -/
@[match_pattern] abbrev tAs : Ty := .pr I (.pr I (.pr I (.pr I .un)))
abbrev Me : Type := Int × Int × Int × Unit
abbrev Ba : Type := Int × Int × Int × Int × Int × Bool × Unit
abbrev As : Type := Int × Int × Int × Int × Unit
def Es : Env := { tys := [(3, I), (4, .bool), (24, .ptr tSy), (26, tErr), (29, .sl I), (33, tAs), (55, .sl tMe), (58, tMe), (60, tBa), (61, .ar 31 tBa), (63, tSy), (65, .ptr tBa), (69, tIt), (71, .ptr tMe)], errT := 54, eqs := [], els := [(29, 3), (55, 58)] }
theorem Es_ok : EnvOk Tryd.prog Es := EnvOk.of_list (by kernel_rfl) (by kernel_rfl) (by kernel_rfl)
theorem mixed : Tryd.prog.follows .mixedOrders = true := by kernel_rfl
def inB (n lo hi : Int) : Bool := decide (lo ≤ n) && decide (n ≤ hi)
def cWithin : Ctr := cdet [I, I, I] (fun _ _ _ => True) (fun a b c => [⟨.bool, inB a b c⟩])
def maskB (s n : Int) : Bool := decide (0 ≤ s) && decide (s < 2 ^ n.toNat)
def cMask : Ctr := cdet [I, I] (fun (_ n : Int) => 0 ≤ n ∧ n ≤ 61) (fun (s n : Int) => [⟨.bool, maskB s n⟩])
def cMany : Ctr := cdet [I] (fun (n : Int) => 0 ≤ n ∧ n < 256) (fun (n : Int) => [⟨I, (popN n.toNat : Int)⟩])
def cBitsF : Ctr := cdet [I] (fun _ => True) (fun (s : Int) => [⟨tIt, some (some s, ())⟩])
def anBits : Ann := [freezeAt 1 [1]]
structure Sy where
  ms : List Me
  bs : List Ba
def Sy.dat (s : Sy) : tSy.D := (s.ms, s.bs, ())
structure SyOk (s : Sy) : Prop where
  m1 : 1 ≤ s.ms.length
  m8 : s.ms.length ≤ 8
  b : s.bs.length = 31
def mostB (m : Nat) (set : Int) : Bool := decide ((m : Int) < 2 * (popN set.toNat : Int))
def cMost : Ctr := cdet [.ptr tSy, I] (fun (p : Option tSy.D) (set : Int) => (∃ s : tSy.D, p = some s ∧ List.length s.1 ≤ 8) ∧ 0 ≤ set ∧ set < 256) (fun (p : Option tSy.D) (set : Int) => [⟨.bool, mostB (List.length (p.getD ([], [], ())).1) set⟩])
end Go.Proofs.YtdpnakebhpecfaaDoor

/- What the functions of this seat have to satisfy, by program: each verification condition in plain words. -/
namespace Go.Proofs.YtdpnakebhpecfaaDoor
open Go.Vc
set_option linter.unusedVariables false
theorem vcWithin (a b c : Int) (k : List Dat → Prop) : vcF ⟨Es, [], [], [], []⟩ [joinAll] (Tryd.f24.body.getD .skip) Tryd.f24.ntmps [(.tmp 6, .bool)] [⟨I, a⟩, ⟨I, b⟩, ⟨I, c⟩] k = (
  (decide (b ≤ a) = true → k [Dat.mk Ty.bool (decide (a ≤ c))]) ∧ (decide (b ≤ a) = false → k [Dat.mk Ty.bool false])) := by kernel_rfl
theorem vcMask (s n : Int) (k : List Dat → Prop) : vcF ⟨Es, [], [], [], []⟩ [joinAll] (Tryd.f26.body.getD .skip) Tryd.f26.ntmps [(.tmp 4, .bool)] [⟨I, s⟩, ⟨I, n⟩] k = (
  (decide ((0 : Int) ≤ s) = true → (0 : Int) ≤ n ∧ n < (64 : Int) ∧ IntKind.i64.bits = (64 : Nat) ∧ inK IntKind.i64 ((1 : Int) * (2 : Int) ^ n.toNat) ∧ k [Dat.mk Ty.bool (decide (s < (1 : Int) * (2 : Int) ^ n.toNat))]) ∧ (decide ((0 : Int) ≤ s) = false → k [Dat.mk Ty.bool false])) := by kernel_rfl
theorem vcBits (s : Int) (k : List Dat → Prop) : vcF ⟨Es, [], glT, [], []⟩ anBits (Tryd.f29.body.getD .skip) Tryd.f29.ntmps [(.tmp 2, tIt)] [⟨I, s⟩] k = (
  k [Dat.mk (Ty.fn (38 : Nat) ((I).ptr.pr Ty.un)) (some (some s, ()))]) := by kernel_rfl
theorem vcMost (s : Sy) (set : Int) (k : List Dat → Prop) : vcF ⟨Es, [(37, cMany)], glT, [], []⟩ [] (Tryd.f28.body.getD .skip) Tryd.f28.ntmps [(.tmp 4, .bool)] [⟨.ptr tSy, some (s.ms, s.bs, ())⟩, ⟨I, set⟩] k = (
  ((0 : Int) ≤ set ∧ set < (256 : Int)) ∧ inK IntKind.i64 ((2 : Int) * (↑(popN set.toNat) : Int)) ∧ k [Dat.mk Ty.bool (decide ((↑s.ms.length : Int) < (2 : Int) * (↑(popN set.toNat) : Int)))]) := by kernel_rfl
theorem vcMember (s : Sy) (i : Int) (k : List Dat → Prop) : vcF ⟨Es, [(24, cWithin)], [], [], []⟩ [] (Tryd.f13.body.getD .skip) Tryd.f13.ntmps [(.tmp 4, I), (.tmp 5, I), (.tmp 6, I)] [⟨.ptr tSy, some (s.ms, s.bs, ())⟩, ⟨I, i⟩] k = (
  inK IntKind.i64 ((↑s.ms.length : Int) - (1 : Int)) ∧ True ∧ ((!inB i (0 : Int) ((↑s.ms.length : Int) - (1 : Int))) = true → k [Dat.mk (I) (-1 : Int), Dat.mk (I) (-1 : Int), Dat.mk (I) (0 : Int)]) ∧ ((!inB i (0 : Int) ((↑s.ms.length : Int) - (1 : Int))) = false → (0 : Int) ≤ i ∧ i < (↑s.ms.length : Int) ∧ k [Dat.mk (I) (s.ms.getD i.toNat ((0 : Int), (0 : Int), (0 : Int), ())).fst, Dat.mk (I) (s.ms.getD i.toNat ((0 : Int), (0 : Int), (0 : Int), ())).snd.fst, Dat.mk (I) (s.ms.getD i.toNat ((0 : Int), (0 : Int), (0 : Int), ())).snd.snd.fst])) := by kernel_rfl
end Go.Proofs.YtdpnakebhpecfaaDoor

/- Synods: the small functions keep their contracts. -/
namespace Go.Proofs.YtdpnakebhpecfaaDoor
open Go.Vc
theorem two_pow_le {n : Nat} (h : n ≤ 62) : (2 : Int) ^ n ≤ 4611686018427387904 := by
  have : 2 ^ n ≤ 2 ^ 62 := Nat.pow_le_pow_right (by decide) h
  have e : (2 : Int) ^ n = ((2 ^ n : Nat) : Int) := by rw [Int.natCast_pow]; rfl
  rw [e]
  exact Int.ofNat_le.2 this
theorem two_pow_pos (n : Nat) : (0 : Int) < (2 : Int) ^ n := Int.pow_pos (by decide)
theorem powC (n : Nat) : (2 : Int) ^ n = ((2 ^ n : Nat) : Int) := by rw [Int.natCast_pow]; rfl
theorem popN_le : ∀ n : Fin 9, ∀ x : Fin 256, x.val < 2 ^ n.val → popN x.val ≤ n.val := by decide +kernel
theorem okWithin : PlainOk Tryd.prog [] 24 cWithin := by
  refine plain_of (CxOk.mk' Es_ok rfl mixed (gl := []) GOk.nil GoOk.nil noIt) Tryd.func24 (c := Tryd.f24.body.getD .skip) (rvs := [(.tmp 6, .bool)]) (by kernel_rfl) (by kernel_rfl) (by kernel_rfl) ?_
  intro ds k ⟨hp, hk⟩ hwf
  obtain ⟨a, b, c, rfl, -⟩ := dest3 hp
  have hk : k [⟨.bool, inB a b c⟩] := hk
  refine ⟨[joinAll], ?_⟩
  rw [vcWithin]
  unfold inB at hk
  refine ⟨fun h => ?_, fun h => ?_⟩ <;> simpa [h] using hk
theorem mask_vc (s n : Int) (k : List Dat → Prop) (h0 : 0 ≤ n) (h61 : n ≤ 61) (hk : k [⟨.bool, maskB s n⟩]) : vcF ⟨Es, [], [], [], []⟩ [joinAll] (Tryd.f26.body.getD .skip) Tryd.f26.ntmps [(.tmp 4, .bool)] [⟨I, s⟩, ⟨I, n⟩] k := by
  rw [vcMask]
  have hp1 := two_pow_le (n := n.toNat) (by omega)
  have hp2 := two_pow_pos n.toNat
  rw [Int.one_mul]
  unfold maskB at hk
  refine ⟨fun h => ⟨h0, by omega, rfl, inK_i64.2 (by omega), ?_⟩, fun h => ?_⟩
  · rw [h, Bool.true_and] at hk; exact hk
  · rw [h, Bool.false_and] at hk; exact hk
theorem okMask : PlainOk Tryd.prog [] 26 cMask := by
  refine plain_of (CxOk.mk' Es_ok rfl mixed (gl := []) GOk.nil GoOk.nil noIt) Tryd.func26 (c := Tryd.f26.body.getD .skip) (rvs := [(.tmp 4, .bool)]) (by kernel_rfl) (by kernel_rfl) (by kernel_rfl) ?_
  intro ds k ⟨hp, hk⟩ hwf
  obtain ⟨s, n, rfl, h0, h61⟩ := dest2 hp
  exact ⟨[joinAll], mask_vc s n k h0 h61 hk⟩
theorem okMany : PlainOk Tryd.prog glT 37 cMany := by
  intro ds k hs w R0 vals hR0 hG hD
  obtain ⟨hp, hk⟩ := hs
  obtain ⟨n, rfl, h0, h1⟩ := dest1 hp
  have hk : k [⟨I, (popN n.toNat : Int)⟩] := hk
  obtain ⟨hl, hd⟩ := hD
  match vals, hl with
  | [v], _ =>
    have hv : v = .int .i64 n := by
      have h : Ty.okV w R0 I n v := hd 0 ⟨I, n⟩ v rfl rfl
      unfold Ty.okV at h
      simp only [Ty.agg, Bool.false_eq_true, if_false, Ty.ok] at h
      injection h.1
    subst hv
    obtain ⟨m, rfl⟩ := Int.eq_ofNat_of_zero_le h0
    refine (show Calls Tryd.prog 37 #[.int .i64 (m : Int)] w _ from many m (by omega) w).mono fun e w' ⟨he, hw⟩ => ?_
    subst hw
    refine ⟨Fr.refl _ _, [⟨I, (popN m : Int)⟩], _, he, by simpa using hk, ?_⟩
    have hle := popN_le ⟨8, by omega⟩ ⟨m, by omega⟩ (by show m < 2 ^ 8; omega)
    simp only at hle
    show Ty.okV _ _ I (popN m : Int) _
    unfold Ty.okV
    simp only [Ty.agg, Bool.false_eq_true, if_false, Ty.ok]
    exact ⟨trivial, inK_i64.2 (by omega)⟩
theorem okBits : PlainOk Tryd.prog glT 29 cBitsF := by
  refine plain_of (CxOk.mk' Es_ok rfl mixed (gl := glT) GOk.nil GoOk.nil noIt) Tryd.func29 (c := Tryd.f29.body.getD .skip) (rvs := [(.tmp 2, tIt)]) (by kernel_rfl) (by kernel_rfl) (by kernel_rfl) ?_
  intro ds k ⟨hp, hk⟩ hwf
  obtain ⟨s, rfl, -⟩ := dest1 hp
  refine ⟨anBits, ?_⟩
  rw [vcBits]
  exact hk
theorem itB : ∀ g c, (g, c) ∈ [(38, cBits)] → ItOk Tryd.prog glT g c := fun g c h => by
  obtain ⟨rfl, rfl⟩ := Prod.mk.inj (List.mem_singleton.1 h)
  exact itBits
theorem most_vc (s : Sy) (set : Int) (k : List Dat → Prop) (h0 : 0 ≤ set) (h1 : set < 256) (hk : k [⟨.bool, mostB s.ms.length set⟩]) :
    vcF ⟨Es, [(37, cMany)], glT, [], []⟩ [] (Tryd.f28.body.getD .skip) Tryd.f28.ntmps [(.tmp 4, .bool)] [⟨.ptr tSy, some (s.ms, s.bs, ())⟩, ⟨I, set⟩] k := by
  rw [vcMost]
  have hle := popN_le ⟨8, by omega⟩ ⟨set.toNat, by omega⟩ (by show set.toNat < 2 ^ 8; omega)
  simp only at hle
  exact ⟨⟨h0, h1⟩, inK_i64.2 (by omega), hk⟩
theorem okMost : PlainOk Tryd.prog glT 28 cMost := by
  refine plain_of (CxOk.mk' Es_ok rfl mixed (gl := glT) (GOk.cons okMany Tryd.func37 (by kernel_rfl) (by kernel_rfl) GOk.nil) GoOk.nil noIt) Tryd.func28 (c := Tryd.f28.body.getD .skip) (rvs := [(.tmp 4, .bool)]) (by kernel_rfl) (by kernel_rfl) (by kernel_rfl) ?_
  intro ds k ⟨hp, hk⟩ hwf
  obtain ⟨p, set, rfl, ⟨⟨ms, bs, u⟩, rfl, h8⟩, h0, h1⟩ := dest2 hp
  exact ⟨[], most_vc ⟨ms, bs⟩ set k h0 h1 hk⟩
/-- what one member stands at -/
def memF (ms : List Me) (i : Int) : Int × Int × Int := if inB i 0 ((ms.length : Int) - 1) = true then ((ms.getD i.toNat (0, 0, 0, ())).1, (ms.getD i.toNat (0, 0, 0, ())).2.1, (ms.getD i.toNat (0, 0, 0, ())).2.2.1) else (-1, -1, 0)
def cMember : Ctr := cdet [.ptr tSy, I] (fun (p : Option tSy.D) (_ : Int) => ∃ s : tSy.D, p = some s ∧ List.length s.1 ≤ 8) (fun (p : Option tSy.D) (i : Int) => [⟨I, (memF (p.getD ([], [], ())).1 i).1⟩, ⟨I, (memF (p.getD ([], [], ())).1 i).2.1⟩, ⟨I, (memF (p.getD ([], [], ())).1 i).2.2⟩])
theorem member_vc (s : Sy) (i : Int) (k : List Dat → Prop) (h8 : s.ms.length ≤ 8) (hk : k [⟨I, (memF s.ms i).1⟩, ⟨I, (memF s.ms i).2.1⟩, ⟨I, (memF s.ms i).2.2⟩]) :
    vcF ⟨Es, [(24, cWithin)], [], [], []⟩ [] (Tryd.f13.body.getD .skip) Tryd.f13.ntmps [(.tmp 4, I), (.tmp 5, I), (.tmp 6, I)] [⟨.ptr tSy, some (s.ms, s.bs, ())⟩, ⟨I, i⟩] k := by
  rw [vcMember]
  refine ⟨inK_i64.2 (by omega), trivial, fun h => ?_, fun h => ?_⟩
  · unfold memF at hk
    rw [if_neg (by simpa using h)] at hk
    exact hk
  · have h : inB i 0 ((s.ms.length : Int) - 1) = true := by simpa using h
    unfold memF at hk
    rw [if_pos h] at hk
    unfold inB at h
    simp only [Bool.and_eq_true, decide_eq_true_eq] at h
    exact ⟨h.1, by omega, hk⟩
theorem okMember : PlainOk Tryd.prog [] 13 cMember := by
  refine plain_of (CxOk.mk' Es_ok rfl mixed (gl := []) (GOk.cons okWithin Tryd.func24 (by kernel_rfl) (by kernel_rfl) GOk.nil) GoOk.nil noIt) Tryd.func13 (c := Tryd.f13.body.getD .skip) (rvs := [(.tmp 4, I), (.tmp 5, I), (.tmp 6, I)]) (by kernel_rfl) (by kernel_rfl) (by kernel_rfl) ?_
  intro ds k ⟨hp, hk⟩ hwf
  obtain ⟨p, i, rfl, ⟨ms, bs, u⟩, rfl, h8⟩ := dest2 hp
  exact ⟨[], member_vc ⟨ms, bs⟩ i k h8 hk⟩
end Go.Proofs.YtdpnakebhpecfaaDoor

/- Synods: what is done. -/
namespace Go.Proofs.YtdpnakebhpecfaaDoor
open Go.Vc
/-- a synod's objects: the struct, its members -/
def Sy.ob (s : Sy) : List Ob := [.st 63 [.os 1, .d (.ar 31 tBa) s.bs], .row 58 tMe s.ms]
abbrev zM : Me := (0, 0, 0, ())
abbrev zB : Ba := (0, 0, 0, 0, 0, false, ())
/-- the states between rounds: members, the ballot, who did it -/
abbrev Rd : Type := List Me × Ba × Int
def withM (did i : Int) : Int := ((did.toNat ||| (1 * (2 : Int) ^ i.toNat).toNat : Nat) : Int)
/-- one is asked to promise -/
def prep1 (k : Int) (x : Rd) (i : Int) : Rd :=
  let m := x.1.getD i.toNat zM
  if k ≤ m.1 then x else
    (x.1.set i.toNat (k, m.2), if x.2.1.2.2.1 < m.2.1 ∧ x.2.1.2.2.2.2.2.1 = false then (x.2.1.1, x.2.1.2.1, m.2.1, m.2.2.1, x.2.1.2.2.2.2) else x.2.1, withM x.2.2 i)
def prepL (k : Int) (s : Sy) (l : List Int) : Rd := l.foldl (prep1 k) (s.ms, s.bs.getD k.toNat zB, 0)
def orI (a b : Int) : Int := ((a.toNat ||| b.toNat : Nat) : Int)
def prepF (s : Sy) (a : As) : Int × Sy :=
  let x := prepL a.2.1 s (bitsOf a.2.2.2.1)
  (x.2.2, ⟨x.1, s.bs.set a.2.1.toNat (orI x.2.1.1 x.2.2, x.2.1.2)⟩)
/-- one is asked to accept -/
def acc1 (k v : Int) (x : List Me × Int) (i : Int) : List Me × Int :=
  if k < (x.1.getD i.toNat zM).1 then x else (x.1.set i.toNat (k, k, v, ()), withM x.2 i)
def accL (k v : Int) (ms : List Me) (l : List Int) : List Me × Int := l.foldl (acc1 k v) (ms, 0)
structure PrepOk (s : Sy) (a : As) : Prop where
  ok : SyOk s
  ka : 0 ≤ a.2.1 ∧ a.2.1 < 31
  to : 0 ≤ a.2.2.2.1 ∧ a.2.2.2.1 < 2 ^ s.ms.length
  pr : ∀ b ∈ s.bs, 0 ≤ b.1 ∧ b.1 < 256 ∧ 0 ≤ b.2.1 ∧ b.2.1 < 256
def oPrep : OCtr := fun args ob k =>
  match args, ob with
  | [.ps 0, .d tAs a, .pf (.ar 31 tBa) 0 1 [q]], [.st 63 [.os 1, .d (.ar 31 tBa) bs], .row 58 tMe ms] => PrepOk ⟨ms, bs⟩ a ∧ q = a.2.1.toNat ∧ k (.d I (prepF ⟨ms, bs⟩ a).1) (prepF ⟨ms, bs⟩ a).2.ob
  | _, _ => False
def anPrep (s : Sy) (a : As) : Ann :=
  [joinAll, rangeAt 4 I (List Int) id (fun st x => { St.only st [3, 4, 5, 6, 7, 12] with ob := ((st.ob.set 0 (.st 63 [.os 1, .d (.ar 31 tBa) (s.bs.set a.2.1.toNat (prepL a.2.1 s x).2.1)])).set 1 (.row 58 tMe (prepL a.2.1 s x).1)).set 5 (.var 3 I (prepL a.2.1 s x).2.2) }) (fun _ _ => True)]
end Go.Proofs.YtdpnakebhpecfaaDoor

/- What the functions of this seat have to satisfy, by program: each verification condition in plain words. -/
namespace Go.Proofs.YtdpnakebhpecfaaDoor
open Go.Vc
set_option linter.unusedVariables false
theorem vcPrep (s : Sy) (a : As) (k : SV → List Ob → Prop) : vcO ⟨Es, [(29, cBitsF)], glT, [(38, cBits)], []⟩ (anPrep s a) (Tryd.f27.body.getD .skip) Tryd.f27.ntmps [(.tmp 6, I)] [.ps 0, .d tAs a, .pf (.ar 31 tBa) 0 1 [a.2.1.toNat]] s.ob k = (
  True ∧ (∃ (x : List Int), True ∧ x = [] ∧ (([] : List Nat) = [] ∧ ([] : List Nat) = [] ∧ ([] : List Nat) = [] ∧ (0 : Int) = (0 : Int) ∧ ([] : List Nat) = [] ∧ some (some a.snd.snd.snd.fst, ()) = some (some a.snd.snd.snd.fst, ()) ∧ True) ∧ ((True ∧ s.bs = s.bs.set a.snd.fst.toNat (prepL a.snd.fst s x).snd.fst ∧ True) ∧ ((58 : Nat) = (58 : Nat) ∧ s.ms = (prepL a.snd.fst s x).fst) ∧ (True ∧ True) ∧ ((33 : Nat) = (33 : Nat) ∧ a = a) ∧ ([a.snd.fst.toNat] = [a.snd.fst.toNat] ∧ True) ∧ ((3 : Nat) = (3 : Nat) ∧ (0 : Int) = (prepL a.snd.fst s x).snd.snd) ∧ True) ∧ True ∧ a = a ∧ [a.snd.fst.toNat] = [a.snd.fst.toNat] ∧ tabD = tabD ∧ True) ∧ (∀ (x : List Int), True → some (some a.snd.snd.snd.fst, ()) = some (some a.snd.snd.snd.fst, ())) ∧ (∀ (x : List Int) (y : Int) (rest : List Int), True → bitsOf a.snd.snd.snd.fst = x ++ y :: rest → (0 : Int) ≤ y ∧ y < (↑(prepL a.snd.fst s x).fst.length : Int) ∧ True ∧ (decide (a.snd.fst ≤ ((prepL a.snd.fst s x).fst.getD y.toNat ((0 : Int), (0 : Int), (0 : Int), ())).fst) = true → ∃ (x_1 : List Int), True ∧ x_1 = x ++ [y] ∧ (([] : List Nat) = [] ∧ ([] : List Nat) = [] ∧ ([] : List Nat) = [] ∧ (0 : Int) = (0 : Int) ∧ ([] : List Nat) = [] ∧ some (some a.snd.snd.snd.fst, ()) = some (some a.snd.snd.snd.fst, ()) ∧ True) ∧ ((True ∧ s.bs.set a.snd.fst.toNat (prepL a.snd.fst s x).snd.fst = s.bs.set a.snd.fst.toNat (prepL a.snd.fst s x_1).snd.fst ∧ True) ∧ ((58 : Nat) = (58 : Nat) ∧ (prepL a.snd.fst s x).fst = (prepL a.snd.fst s x_1).fst) ∧ (True ∧ True) ∧ ((33 : Nat) = (33 : Nat) ∧ a = a) ∧ ([a.snd.fst.toNat] = [a.snd.fst.toNat] ∧ True) ∧ ((3 : Nat) = (3 : Nat) ∧ (prepL a.snd.fst s x).snd.snd = (prepL a.snd.fst s x_1).snd.snd) ∧ True) ∧ True ∧ a = a ∧ [a.snd.fst.toNat] = [a.snd.fst.toNat] ∧ tabD = tabD ∧ True) ∧ (decide (a.snd.fst ≤ ((prepL a.snd.fst s x).fst.getD y.toNat ((0 : Int), (0 : Int), (0 : Int), ())).fst) = false → ((0 : Int) ≤ y ∧ y < (64 : Int) ∧ IntKind.i64.bits = (64 : Nat) ∧ inK IntKind.i64 ((1 : Int) * (2 : Int) ^ y.toNat) ∧ (0 : Int) ≤ (prepL a.snd.fst s x).snd.snd ∧ (0 : Int) ≤ (1 : Int) * (2 : Int) ^ y.toNat ∧ True) ∧ ((decide (((s.bs.set a.snd.fst.toNat (prepL a.snd.fst s x).snd.fst).getD a.snd.fst.toNat ((0 : Int), (0 : Int), (0 : Int), (0 : Int), (0 : Int), false, ())).snd.snd.fst < (((prepL a.snd.fst s x).fst.set y.toNat (a.snd.fst, ((prepL a.snd.fst s x).fst.getD y.toNat ((0 : Int), (0 : Int), (0 : Int), ())).snd)).getD y.toNat ((0 : Int), (0 : Int), (0 : Int), ())).snd.fst) = true → True) ∧ (decide (((s.bs.set a.snd.fst.toNat (prepL a.snd.fst s x).snd.fst).getD a.snd.fst.toNat ((0 : Int), (0 : Int), (0 : Int), (0 : Int), (0 : Int), false, ())).snd.snd.fst < (((prepL a.snd.fst s x).fst.set y.toNat (a.snd.fst, ((prepL a.snd.fst s x).fst.getD y.toNat ((0 : Int), (0 : Int), (0 : Int), ())).snd)).getD y.toNat ((0 : Int), (0 : Int), (0 : Int), ())).snd.fst) = false → True)) ∧ ((decide (((s.bs.set a.snd.fst.toNat (prepL a.snd.fst s x).snd.fst).getD a.snd.fst.toNat ((0 : Int), (0 : Int), (0 : Int), (0 : Int), (0 : Int), false, ())).snd.snd.fst < (((prepL a.snd.fst s x).fst.set y.toNat (a.snd.fst, ((prepL a.snd.fst s x).fst.getD y.toNat ((0 : Int), (0 : Int), (0 : Int), ())).snd)).getD y.toNat ((0 : Int), (0 : Int), (0 : Int), ())).snd.fst) && !((s.bs.set a.snd.fst.toNat (prepL a.snd.fst s x).snd.fst).getD a.snd.fst.toNat ((0 : Int), (0 : Int), (0 : Int), (0 : Int), (0 : Int), false, ())).snd.snd.snd.snd.snd.fst) = true → (SV.pf (Ty.ar (31 : Nat) ((I).pr ((I).pr ((I).pr ((I).pr ((I).pr (Ty.bool.pr Ty.un))))))) (0 : Nat) (1 : Nat) [a.snd.fst.toNat] = SV.pf (Ty.ar (31 : Nat) ((I).pr ((I).pr ((I).pr ((I).pr ((I).pr (Ty.bool.pr Ty.un))))))) (0 : Nat) (1 : Nat) [a.snd.fst.toNat] ∧ True) ∧ ∃ (x_1 : List Int), True ∧ x_1 = x ++ [y] ∧ (([] : List Nat) = [] ∧ ([] : List Nat) = [] ∧ ([] : List Nat) = [] ∧ (0 : Int) = (0 : Int) ∧ ([] : List Nat) = [] ∧ some (some a.snd.snd.snd.fst, ()) = some (some a.snd.snd.snd.fst, ()) ∧ True) ∧ ((True ∧ ((s.bs.set a.snd.fst.toNat (prepL a.snd.fst s x).snd.fst).set a.snd.fst.toNat (((s.bs.set a.snd.fst.toNat (prepL a.snd.fst s x).snd.fst).getD a.snd.fst.toNat ((0 : Int), (0 : Int), (0 : Int), (0 : Int), (0 : Int), false, ())).fst, ((s.bs.set a.snd.fst.toNat (prepL a.snd.fst s x).snd.fst).getD a.snd.fst.toNat ((0 : Int), (0 : Int), (0 : Int), (0 : Int), (0 : Int), false, ())).snd.fst, (((prepL a.snd.fst s x).fst.set y.toNat (a.snd.fst, ((prepL a.snd.fst s x).fst.getD y.toNat ((0 : Int), (0 : Int), (0 : Int), ())).snd)).getD y.toNat ((0 : Int), (0 : Int), (0 : Int), ())).snd.fst, ((s.bs.set a.snd.fst.toNat (prepL a.snd.fst s x).snd.fst).getD a.snd.fst.toNat ((0 : Int), (0 : Int), (0 : Int), (0 : Int), (0 : Int), false, ())).snd.snd.snd)).set a.snd.fst.toNat ((((s.bs.set a.snd.fst.toNat (prepL a.snd.fst s x).snd.fst).set a.snd.fst.toNat (((s.bs.set a.snd.fst.toNat (prepL a.snd.fst s x).snd.fst).getD a.snd.fst.toNat ((0 : Int), (0 : Int), (0 : Int), (0 : Int), (0 : Int), false, ())).fst, ((s.bs.set a.snd.fst.toNat (prepL a.snd.fst s x).snd.fst).getD a.snd.fst.toNat ((0 : Int), (0 : Int), (0 : Int), (0 : Int), (0 : Int), false, ())).snd.fst, (((prepL a.snd.fst s x).fst.set y.toNat (a.snd.fst, ((prepL a.snd.fst s x).fst.getD y.toNat ((0 : Int), (0 : Int), (0 : Int), ())).snd)).getD y.toNat ((0 : Int), (0 : Int), (0 : Int), ())).snd.fst, ((s.bs.set a.snd.fst.toNat (prepL a.snd.fst s x).snd.fst).getD a.snd.fst.toNat ((0 : Int), (0 : Int), (0 : Int), (0 : Int), (0 : Int), false, ())).snd.snd.snd)).getD a.snd.fst.toNat ((0 : Int), (0 : Int), (0 : Int), (0 : Int), (0 : Int), false, ())).fst, (((s.bs.set a.snd.fst.toNat (prepL a.snd.fst s x).snd.fst).set a.snd.fst.toNat (((s.bs.set a.snd.fst.toNat (prepL a.snd.fst s x).snd.fst).getD a.snd.fst.toNat ((0 : Int), (0 : Int), (0 : Int), (0 : Int), (0 : Int), false, ())).fst, ((s.bs.set a.snd.fst.toNat (prepL a.snd.fst s x).snd.fst).getD a.snd.fst.toNat ((0 : Int), (0 : Int), (0 : Int), (0 : Int), (0 : Int), false, ())).snd.fst, (((prepL a.snd.fst s x).fst.set y.toNat (a.snd.fst, ((prepL a.snd.fst s x).fst.getD y.toNat ((0 : Int), (0 : Int), (0 : Int), ())).snd)).getD y.toNat ((0 : Int), (0 : Int), (0 : Int), ())).snd.fst, ((s.bs.set a.snd.fst.toNat (prepL a.snd.fst s x).snd.fst).getD a.snd.fst.toNat ((0 : Int), (0 : Int), (0 : Int), (0 : Int), (0 : Int), false, ())).snd.snd.snd)).getD a.snd.fst.toNat ((0 : Int), (0 : Int), (0 : Int), (0 : Int), (0 : Int), false, ())).snd.fst, (((s.bs.set a.snd.fst.toNat (prepL a.snd.fst s x).snd.fst).set a.snd.fst.toNat (((s.bs.set a.snd.fst.toNat (prepL a.snd.fst s x).snd.fst).getD a.snd.fst.toNat ((0 : Int), (0 : Int), (0 : Int), (0 : Int), (0 : Int), false, ())).fst, ((s.bs.set a.snd.fst.toNat (prepL a.snd.fst s x).snd.fst).getD a.snd.fst.toNat ((0 : Int), (0 : Int), (0 : Int), (0 : Int), (0 : Int), false, ())).snd.fst, (((prepL a.snd.fst s x).fst.set y.toNat (a.snd.fst, ((prepL a.snd.fst s x).fst.getD y.toNat ((0 : Int), (0 : Int), (0 : Int), ())).snd)).getD y.toNat ((0 : Int), (0 : Int), (0 : Int), ())).snd.fst, ((s.bs.set a.snd.fst.toNat (prepL a.snd.fst s x).snd.fst).getD a.snd.fst.toNat ((0 : Int), (0 : Int), (0 : Int), (0 : Int), (0 : Int), false, ())).snd.snd.snd)).getD a.snd.fst.toNat ((0 : Int), (0 : Int), (0 : Int), (0 : Int), (0 : Int), false, ())).snd.snd.fst, (((prepL a.snd.fst s x).fst.set y.toNat (a.snd.fst, ((prepL a.snd.fst s x).fst.getD y.toNat ((0 : Int), (0 : Int), (0 : Int), ())).snd)).getD y.toNat ((0 : Int), (0 : Int), (0 : Int), ())).snd.snd.fst, (((s.bs.set a.snd.fst.toNat (prepL a.snd.fst s x).snd.fst).set a.snd.fst.toNat (((s.bs.set a.snd.fst.toNat (prepL a.snd.fst s x).snd.fst).getD a.snd.fst.toNat ((0 : Int), (0 : Int), (0 : Int), (0 : Int), (0 : Int), false, ())).fst, ((s.bs.set a.snd.fst.toNat (prepL a.snd.fst s x).snd.fst).getD a.snd.fst.toNat ((0 : Int), (0 : Int), (0 : Int), (0 : Int), (0 : Int), false, ())).snd.fst, (((prepL a.snd.fst s x).fst.set y.toNat (a.snd.fst, ((prepL a.snd.fst s x).fst.getD y.toNat ((0 : Int), (0 : Int), (0 : Int), ())).snd)).getD y.toNat ((0 : Int), (0 : Int), (0 : Int), ())).snd.fst, ((s.bs.set a.snd.fst.toNat (prepL a.snd.fst s x).snd.fst).getD a.snd.fst.toNat ((0 : Int), (0 : Int), (0 : Int), (0 : Int), (0 : Int), false, ())).snd.snd.snd)).getD a.snd.fst.toNat ((0 : Int), (0 : Int), (0 : Int), (0 : Int), (0 : Int), false, ())).snd.snd.snd.snd) = s.bs.set a.snd.fst.toNat (prepL a.snd.fst s x_1).snd.fst ∧ True) ∧ ((58 : Nat) = (58 : Nat) ∧ (prepL a.snd.fst s x).fst.set y.toNat (a.snd.fst, ((prepL a.snd.fst s x).fst.getD y.toNat ((0 : Int), (0 : Int), (0 : Int), ())).snd) = (prepL a.snd.fst s x_1).fst) ∧ (True ∧ True) ∧ ((33 : Nat) = (33 : Nat) ∧ a = a) ∧ ([a.snd.fst.toNat] = [a.snd.fst.toNat] ∧ True) ∧ ((3 : Nat) = (3 : Nat) ∧ (↑((prepL a.snd.fst s x).snd.snd.toNat ||| ((1 : Int) * (2 : Int) ^ y.toNat).toNat) : Int) = (prepL a.snd.fst s x_1).snd.snd) ∧ True) ∧ True ∧ a = a ∧ [a.snd.fst.toNat] = [a.snd.fst.toNat] ∧ tabD = tabD ∧ True) ∧ ((decide (((s.bs.set a.snd.fst.toNat (prepL a.snd.fst s x).snd.fst).getD a.snd.fst.toNat ((0 : Int), (0 : Int), (0 : Int), (0 : Int), (0 : Int), false, ())).snd.snd.fst < (((prepL a.snd.fst s x).fst.set y.toNat (a.snd.fst, ((prepL a.snd.fst s x).fst.getD y.toNat ((0 : Int), (0 : Int), (0 : Int), ())).snd)).getD y.toNat ((0 : Int), (0 : Int), (0 : Int), ())).snd.fst) && !((s.bs.set a.snd.fst.toNat (prepL a.snd.fst s x).snd.fst).getD a.snd.fst.toNat ((0 : Int), (0 : Int), (0 : Int), (0 : Int), (0 : Int), false, ())).snd.snd.snd.snd.snd.fst) = false → ∃ (x_1 : List Int), True ∧ x_1 = x ++ [y] ∧ (([] : List Nat) = [] ∧ ([] : List Nat) = [] ∧ ([] : List Nat) = [] ∧ (0 : Int) = (0 : Int) ∧ ([] : List Nat) = [] ∧ some (some a.snd.snd.snd.fst, ()) = some (some a.snd.snd.snd.fst, ()) ∧ True) ∧ ((True ∧ s.bs.set a.snd.fst.toNat (prepL a.snd.fst s x).snd.fst = s.bs.set a.snd.fst.toNat (prepL a.snd.fst s x_1).snd.fst ∧ True) ∧ ((58 : Nat) = (58 : Nat) ∧ (prepL a.snd.fst s x).fst.set y.toNat (a.snd.fst, ((prepL a.snd.fst s x).fst.getD y.toNat ((0 : Int), (0 : Int), (0 : Int), ())).snd) = (prepL a.snd.fst s x_1).fst) ∧ (True ∧ True) ∧ ((33 : Nat) = (33 : Nat) ∧ a = a) ∧ ([a.snd.fst.toNat] = [a.snd.fst.toNat] ∧ True) ∧ ((3 : Nat) = (3 : Nat) ∧ (↑((prepL a.snd.fst s x).snd.snd.toNat ||| ((1 : Int) * (2 : Int) ^ y.toNat).toNat) : Int) = (prepL a.snd.fst s x_1).snd.snd) ∧ True) ∧ True ∧ a = a ∧ [a.snd.fst.toNat] = [a.snd.fst.toNat] ∧ tabD = tabD ∧ True))) ∧ ∀ (x : List Int), True → x = bitsOf a.snd.snd.snd.fst → ((0 : Int) ≤ ((s.bs.set a.snd.fst.toNat (prepL a.snd.fst s x).snd.fst).getD a.snd.fst.toNat ((0 : Int), (0 : Int), (0 : Int), (0 : Int), (0 : Int), false, ())).fst ∧ (0 : Int) ≤ (prepL a.snd.fst s x).snd.snd ∧ True) ∧ k (SV.d (I) (prepL a.snd.fst s x).snd.snd) [Ob.st (63 : Nat) [SV.os (1 : Nat), SV.d (Ty.ar (31 : Nat) ((I).pr ((I).pr ((I).pr ((I).pr ((I).pr (Ty.bool.pr Ty.un))))))) ((s.bs.set a.snd.fst.toNat (prepL a.snd.fst s x).snd.fst).set a.snd.fst.toNat ((↑(Int.toNat ((s.bs.set a.snd.fst.toNat (prepL a.snd.fst s x).snd.fst).getD a.snd.fst.toNat ((0 : Int), (0 : Int), (0 : Int), (0 : Int), (0 : Int), false, ())).fst ||| (prepL a.snd.fst s x).snd.snd.toNat) : Int), ((s.bs.set a.snd.fst.toNat (prepL a.snd.fst s x).snd.fst).getD a.snd.fst.toNat ((0 : Int), (0 : Int), (0 : Int), (0 : Int), (0 : Int), false, ())).snd))], Ob.row (58 : Nat) ((I).pr ((I).pr ((I).pr Ty.un))) (prepL a.snd.fst s x).fst]) := by kernel_rfl
end Go.Proofs.YtdpnakebhpecfaaDoor

/- Synods: promising. -/
namespace Go.Proofs.YtdpnakebhpecfaaDoor
open Go.Vc
theorem gset {α : Type} (l : List α) (q : Nat) (b z : α) (h : q < l.length) : (l.set q b).getD q z = b := by
  rw [List.getD_eq_getElem?_getD, List.getElem?_set, if_pos rfl, if_pos h]; rfl
theorem prep_snoc (k : Int) (s : Sy) (l : List Int) (y : Int) : prepL k s (l ++ [y]) = prep1 k (prepL k s l) y := by
  unfold prepL; rw [List.foldl_append]; rfl
theorem prep_len (k : Int) (s : Sy) (l : List Int) : (prepL k s l).1.length = s.ms.length := by
  unfold prepL
  have : ∀ (l : List Int) (x : Rd), (l.foldl (prep1 k) x).1.length = x.1.length := by
    intro l
    induction l with
    | nil => intro x; rfl
    | cons a r ih =>
      intro x
      rw [List.foldl_cons, ih]
      unfold prep1
      simp only
      split
      · rfl
      · simp
  rw [this]
theorem set_self {α : Type} (l : List α) (q : Nat) (z : α) (h : q < l.length) : l.set q (l.getD q z) = l := by
  refine List.ext_getElem (by simp) fun j h1 h2 => ?_
  rw [List.getElem_set]
  split
  · rename_i e; subst e
    rw [List.getD_eq_getElem?_getD, List.getElem?_eq_getElem h]; rfl
  · rfl
theorem prep_inv (k : Int) (s : Sy) (l : List Int) : (prepL k s l).2.1.1 = (s.bs.getD k.toNat zB).1 ∧ 0 ≤ (prepL k s l).2.2 := by
  unfold prepL
  have : ∀ (l : List Int) (x : Rd), 0 ≤ x.2.2 → (l.foldl (prep1 k) x).2.1.1 = x.2.1.1 ∧ 0 ≤ (l.foldl (prep1 k) x).2.2 := by
    intro l
    induction l with
    | nil => intro x hx; exact ⟨rfl, hx⟩
    | cons a r ih =>
      intro x hx
      rw [List.foldl_cons]
      have h1 : (prep1 k x a).2.1.1 = x.2.1.1 ∧ 0 ≤ (prep1 k x a).2.2 := by
        unfold prep1
        simp only
        split
        · exact ⟨rfl, hx⟩
        · refine ⟨?_, Int.natCast_nonneg _⟩
          split <;> rfl
      obtain ⟨e1, e2⟩ := ih _ h1.2
      exact ⟨e1.trans h1.1, e2⟩
  exact this l _ (Int.le_refl _)
theorem bitsOf_mem {N : Nat} (hN : N < 2 ^ 64) (y : Int) : y ∈ bitsOf (N : Int) ↔ ∃ i : Nat, y = (i : Int) ∧ N.testBit i = true := by
  have e : ((N : Int) % 18446744073709551616).toNat = N := by
    have : N < 18446744073709551616 := hN
    omega
  unfold bitsOf bitsN
  rw [e]
  constructor
  · intro h
    obtain ⟨i, hi, rfl⟩ := List.mem_map.1 h
    exact ⟨i, rfl, (List.mem_filter.1 hi).2⟩
  · rintro ⟨i, rfl, hi⟩
    refine List.mem_map.2 ⟨i, List.mem_filter.2 ⟨List.mem_range'_1.2 ⟨by omega, ?_⟩, hi⟩, rfl⟩
    rcases Nat.lt_or_ge i 64 with h | h
    · omega
    · have := Nat.testBit_lt_two_pow (Nat.lt_of_lt_of_le hN (Nat.pow_le_pow_right (by omega) h))
      rw [this] at hi; cases hi
theorem bit_pos {s : Int} {n : Nat} (h0 : 0 ≤ s) (hs : s < 2 ^ n) (hn : n ≤ 62) {y : Int} (hy : y ∈ bitsOf s) : 0 ≤ y ∧ y < (n : Int) ∧ s.toNat.testBit y.toNat = true := by
  obtain ⟨N, rfl⟩ := Int.eq_ofNat_of_zero_le h0
  have hs' : N < 2 ^ n := by rw [powC] at hs; omega
  have hN : N < 2 ^ 64 := Nat.lt_of_lt_of_le hs' (Nat.pow_le_pow_right (by decide) (by omega))
  obtain ⟨i, rfl, hi⟩ := (bitsOf_mem hN y).1 hy
  refine ⟨by omega, ?_, by simpa using hi⟩
  rcases Nat.lt_or_ge i n with h | h
  · omega
  · have := Nat.testBit_lt_two_pow (Nat.lt_of_lt_of_le hs' (Nat.pow_le_pow_right (by decide) h))
    rw [this] at hi; cases hi
theorem prep_vc (s : Sy) (a : As) (k : SV → List Ob → Prop) (h : PrepOk s a) (hk : k (.d I (prepF s a).1) (prepF s a).2.ob) :
    vcO ⟨Es, [(29, cBitsF)], glT, [(38, cBits)], []⟩ (anPrep s a) (Tryd.f27.body.getD .skip) Tryd.f27.ntmps [(.tmp 6, I)] [.ps 0, .d tAs a, .pf (.ar 31 tBa) 0 1 [a.2.1.toNat]] s.ob k := by
  rw [vcPrep]
  have hka := h.ka
  have hq : a.2.1.toNat < s.bs.length := by have := h.ok.b; omega
  simp only [and_true, true_and, eq_self, exists_eq_left, forall_const, true_implies, implies_true, gset _ _ _ _ hq, List.set_set, Int.one_mul]
  have m8 := h.ok.m8
  have bp : ∀ {x : List Int} {y : Int} {r : List Int}, bitsOf a.2.2.2.1 = x ++ y :: r → 0 ≤ y ∧ y < (s.ms.length : Int) := fun {x y r} e => by
    have := bit_pos h.to.1 h.to.2 (by omega) (y := y) (by rw [e]; simp)
    exact ⟨this.1, this.2.1⟩
  refine ⟨⟨(set_self _ _ _ hq).symm, rfl, rfl⟩, fun x y r e => ?_, fun x e => ?_⟩
  · have hy := bp e
    have hl := prep_len a.2.1 s x
    have hyl : y.toNat < (prepL a.2.1 s x).1.length := by omega
    have hi := prep_inv a.2.1 s x
    have h2 := two_pow_le (n := y.toNat) (by omega)
    have h3 := two_pow_pos y.toNat
    have sn := prep_snoc a.2.1 s x y
    refine ⟨hy.1, by omega, fun hc => ?_, fun hc => ⟨⟨hy.1, by omega, rfl, inK_i64.2 (by omega), hi.2, by omega⟩, fun hd => ?_, fun hd => ?_⟩⟩
    · have : prep1 a.2.1 (prepL a.2.1 s x) y = prepL a.2.1 s x := by
        unfold prep1; simp only; rw [if_pos (of_decide_eq_true hc)]
      rw [sn, this]; exact ⟨rfl, rfl, rfl⟩
    · have hc := of_decide_eq_false hc
      rw [gset _ _ _ _ hyl] at hd ⊢
      simp only [Bool.and_eq_true, decide_eq_true_eq, Bool.not_eq_true'] at hd
      have e1 : prep1 a.2.1 (prepL a.2.1 s x) y = ((prepL a.2.1 s x).1.set y.toNat (a.2.1, ((prepL a.2.1 s x).1.getD y.toNat zM).2), ((prepL a.2.1 s x).2.1.1, (prepL a.2.1 s x).2.1.2.1, ((prepL a.2.1 s x).1.getD y.toNat zM).2.1, ((prepL a.2.1 s x).1.getD y.toNat zM).2.2.1, (prepL a.2.1 s x).2.1.2.2.2.2), withM (prepL a.2.1 s x).2.2 y) := by
        unfold prep1; simp only; rw [if_neg hc, if_pos hd]
      rw [sn, e1]
      exact ⟨rfl, rfl, by unfold withM; rw [Int.one_mul]⟩
    · have hc := of_decide_eq_false hc
      rw [gset _ _ _ _ hyl] at hd
      have hd' : ¬ ((prepL a.2.1 s x).2.1.2.2.1 < ((prepL a.2.1 s x).1.getD y.toNat zM).2.1 ∧ (prepL a.2.1 s x).2.1.2.2.2.2.2.1 = false) := fun hh => by
        have : (decide ((prepL a.2.1 s x).2.1.2.2.1 < ((prepL a.2.1 s x).1.getD y.toNat zM).2.1) && !(prepL a.2.1 s x).2.1.2.2.2.2.2.1) = true := by
          rw [decide_eq_true hh.1, hh.2]; rfl
        rw [this] at hd; cases hd
      have e1 : prep1 a.2.1 (prepL a.2.1 s x) y = ((prepL a.2.1 s x).1.set y.toNat (a.2.1, ((prepL a.2.1 s x).1.getD y.toNat zM).2), (prepL a.2.1 s x).2.1, withM (prepL a.2.1 s x).2.2 y) := by
        unfold prep1; simp only; rw [if_neg hc, if_neg hd']
      rw [sn, e1]
      exact ⟨rfl, rfl, by unfold withM; rw [Int.one_mul]⟩
  · subst e
    have hi := prep_inv a.2.1 s (bitsOf a.2.2.2.1)
    refine ⟨⟨?_, hi.2⟩, hk⟩
    rw [hi.1, List.getD_eq_getElem?_getD, List.getElem?_eq_getElem hq]
    exact (h.pr _ (List.getElem_mem hq)).1
theorem ownPrep : OwnOk Tryd.prog glT 27 oPrep := by
  refine own_of (CxOk.mk' Es_ok rfl mixed (gl := glT) (GOk.cons okBits Tryd.func29 (by kernel_rfl) (by kernel_rfl) GOk.nil) GoOk.nil itB) Tryd.func27 (c := Tryd.f27.body.getD .skip) (rvs := [(.tmp 6, I)]) (by kernel_rfl) (by kernel_rfl) (by kernel_rfl) ?_
  intro args ob k h w1 w2
  clear w1 w2
  unfold oPrep at h
  split at h
  · rename_i a q bs ms
    obtain ⟨h1, rfl, hk⟩ := h
    exact ⟨anPrep ⟨ms, bs⟩ a, prep_vc ⟨ms, bs⟩ a k h1 hk⟩
  · exact h.elim
end Go.Proofs.YtdpnakebhpecfaaDoor

/- Synods: what is asked; what is chosen. -/
namespace Go.Proofs.YtdpnakebhpecfaaDoor
open Go.Vc
/-- the ballot, once a value is proposed in it -/
def prpB (b : Ba) (v : Int) : Ba := if b.2.2.2.2.2.1 = true then b else (b.1, b.2.1, b.2.2.1, b.2.2.2.1, if 0 ≤ b.2.2.1 then b.2.2.2.1 else v, true, ())
def okA (m : Nat) (a : As) : Bool := inB a.1 0 1 && (inB a.2.1 0 30 && (inB a.2.2.1 0 1000000 && maskB a.2.2.2.1 m))
def accF (s : Sy) (a : As) : Int × Sy :=
  let b := prpB (s.bs.getD a.2.1.toNat zB) a.2.2.1
  let x := accL a.2.1 b.2.2.2.2.1 s.ms (bitsOf a.2.2.2.1)
  (x.2, ⟨x.1, s.bs.set a.2.1.toNat (b.1, orI b.2.1 x.2, b.2.2)⟩)
/-- who did what was asked, what is wrong with it, and how it stands then -/
def doF (s : Sy) (a : As) : (Int × Int) × Sy :=
  if okA s.ms.length a = false then ((0, 1), s)
  else if a.1 = 0 then (((prepF s a).1, 0), (prepF s a).2)
  else if (s.bs.getD a.2.1.toNat zB).2.2.2.2.2.1 = false ∧ mostB s.ms.length (s.bs.getD a.2.1.toNat zB).1 = false then ((0, 7), s)
  else (((accF s a).1, 0), (accF s a).2)
structure SyInv (s : Sy) : Prop where
  ok : SyOk s
  pr : ∀ b ∈ s.bs, 0 ≤ b.1 ∧ b.1 < 256 ∧ 0 ≤ b.2.1 ∧ b.2.1 < 256
def oDo : OCtr := fun args ob k =>
  match args, ob with
  | [.ps 0, .d tAs a], [.st 63 [.os 1, .d (.ar 31 tBa) bs], .row 58 tMe ms] => SyInv ⟨ms, bs⟩ ∧ k (.tp [.d I (doF ⟨ms, bs⟩ a).1.1, .d tErr (doF ⟨ms, bs⟩ a).1.2]) (doF ⟨ms, bs⟩ a).2.ob
  | _, _ => False
/-- something may be accepted -/
structure Goes (s : Sy) (a : As) : Prop where
  go : ¬ ((s.bs.getD a.2.1.toNat zB).2.2.2.2.2.1 = false ∧ mostB s.ms.length (s.bs.getD a.2.1.toNat zB).1 = false)
def anDo (s : Sy) (a : As) : Ann :=
  [joinAll,
   meetAt 12 Nat [] (fun st _ => { St.only st [2, 3, 6] with ob := st.ob.set 0 (.st 63 [.os 1, .d (.ar 31 tBa) (s.bs.set a.2.1.toNat (prpB (s.bs.getD a.2.1.toNat zB) a.2.2.1))]) }) (fun _ _ => Goes s a),
   rangeAt 15 I (List Int) id (fun st x => { St.only st [2, 3, 6, 7, 86] with ob := (st.ob.set 1 (.row 58 tMe (accL a.2.1 (prpB (s.bs.getD a.2.1.toNat zB) a.2.2.1).2.2.2.2.1 s.ms x).1)).set 5 (.var 3 I (accL a.2.1 (prpB (s.bs.getD a.2.1.toNat zB) a.2.2.1).2.2.2.2.1 s.ms x).2) }) (fun _ _ => True)]
def chosenF (s : Sy) : List Int := (s.bs.filter fun b => mostB s.ms.length b.2.1).map fun b => b.2.2.2.2.1
def oChosen : OCtr := fun args ob k =>
  match args, ob with
  | [.ps 0], [.st 63 [.os 1, .d (.ar 31 tBa) bs], .row 58 tMe ms] => SyInv ⟨ms, bs⟩ ∧ k (.d (.sl I) (chosenF ⟨ms, bs⟩)) (Sy.mk ms bs).ob
  | _, _ => False
def anChosen (s : Sy) : Ann :=
  [joinAll, loopAt 3 Nat [(3, 3, I)] (fun st i => { St.at (St.only st [0, 3, 9]) [(10, .d I (i : Int))] with ob := st.ob.set 2 (.row 3 I (chosenF ⟨s.ms, s.bs.take i⟩)) }) (fun _ i => i ≤ 31 ∧ True) (fun i => 31 - i)]
end Go.Proofs.YtdpnakebhpecfaaDoor

/- What the functions of this seat have to satisfy, by program: each verification condition in plain words. -/
namespace Go.Proofs.YtdpnakebhpecfaaDoor
open Go.Vc
set_option linter.unusedVariables false
theorem vcDo (s : Sy) (a : As) (k : SV → List Ob → Prop) : vcO ⟨Es, [(24, cWithin), (26, cMask), (29, cBitsF), (28, cMost)], glT, [(38, cBits)], [(27, oPrep)]⟩ (anDo s a) (Tryd.f10.body.getD .skip) Tryd.f10.ntmps [(.tmp 4, I), (.tmp 5, tErr)] [.ps 0, .d tAs a] s.ob k = (
  (True ∧ ((!inB a.fst (0 : Int) (1 : Int)) = true → True) ∧ ((!inB a.fst (0 : Int) (1 : Int)) = false → True ∧ ((!inB a.snd.fst (0 : Int) (30 : Int)) = true → True) ∧ ((!inB a.snd.fst (0 : Int) (30 : Int)) = false → True ∧ ((!inB a.snd.snd.fst (0 : Int) (1000000 : Int)) = true → True) ∧ ((!inB a.snd.snd.fst (0 : Int) (1000000 : Int)) = false → ((0 : Int) ≤ (↑s.ms.length : Int) ∧ (↑s.ms.length : Int) ≤ (61 : Int)) ∧ True)))) ∧ ((!inB a.fst (0 : Int) (1 : Int) || (!inB a.snd.fst (0 : Int) (30 : Int) || (!inB a.snd.snd.fst (0 : Int) (1000000 : Int) || !maskB a.snd.snd.snd.fst (↑s.ms.length : Int)))) = true → (1 : Int) ≠ (0 : Int) ∧ k (SV.tp [SV.d (I) (0 : Int), SV.d (Ty.err (54 : Nat)) (1 : Int)]) [Ob.st (63 : Nat) [SV.os (1 : Nat), SV.d (Ty.ar (31 : Nat) ((I).pr ((I).pr ((I).pr ((I).pr ((I).pr (Ty.bool.pr Ty.un))))))) s.bs], Ob.row (58 : Nat) ((I).pr ((I).pr ((I).pr Ty.un))) s.ms]) ∧ ((!inB a.fst (0 : Int) (1 : Int) || (!inB a.snd.fst (0 : Int) (30 : Int) || (!inB a.snd.snd.fst (0 : Int) (1000000 : Int) || !maskB a.snd.snd.snd.fst (↑s.ms.length : Int)))) = false → (0 : Int) ≤ a.snd.fst ∧ a.snd.fst < (↑(31 : Nat) : Int) ∧ (0 : Int) ≤ a.snd.fst ∧ a.snd.fst < (↑(31 : Nat) : Int) ∧ (SV.ps (0 : Nat) = SV.ps (0 : Nat) ∧ a = a ∧ SV.pv (((I).pr ((I).pr ((I).pr Ty.un))).sl.pr ((Ty.ar (31 : Nat) ((I).pr ((I).pr ((I).pr ((I).pr ((I).pr (Ty.bool.pr Ty.un))))))).pr Ty.un)).ptr (2 : Nat) [] = SV.pv (((I).pr ((I).pr ((I).pr Ty.un))).sl.pr ((Ty.ar (31 : Nat) ((I).pr ((I).pr ((I).pr ((I).pr ((I).pr (Ty.bool.pr Ty.un))))))).pr Ty.un)).ptr (2 : Nat) [] ∧ SV.pv ((I).pr ((I).pr ((I).pr ((I).pr Ty.un)))) (3 : Nat) [] = SV.pv ((I).pr ((I).pr ((I).pr ((I).pr Ty.un)))) (3 : Nat) [] ∧ (0 : Int) = (0 : Int) ∧ (0 : Int) = (0 : Int) ∧ SV.pv ((I).pr ((I).pr ((I).pr ((I).pr Ty.un)))) (3 : Nat) ([] ++ [(0 : Nat)]) = SV.pv ((I).pr ((I).pr ((I).pr ((I).pr Ty.un)))) (3 : Nat) ([] ++ [(0 : Nat)]) ∧ a.fst = a.fst ∧ inB a.fst (0 : Int) (1 : Int) = inB a.fst (0 : Int) (1 : Int) ∧ (!inB a.fst (0 : Int) (1 : Int)) = !inB a.fst (0 : Int) (1 : Int) ∧ (!inB a.fst (0 : Int) (1 : Int)) = !inB a.fst (0 : Int) (1 : Int) ∧ (!inB a.fst (0 : Int) (1 : Int) || !inB a.snd.fst (0 : Int) (30 : Int)) = (!inB a.fst (0 : Int) (1 : Int) || !inB a.snd.fst (0 : Int) (30 : Int)) ∧ (!inB a.fst (0 : Int) (1 : Int) || !inB a.snd.fst (0 : Int) (30 : Int)) = (!inB a.fst (0 : Int) (1 : Int) || !inB a.snd.fst (0 : Int) (30 : Int)) ∧ (!inB a.fst (0 : Int) (1 : Int) || (!inB a.snd.fst (0 : Int) (30 : Int) || !inB a.snd.snd.fst (0 : Int) (1000000 : Int))) = (!inB a.fst (0 : Int) (1 : Int) || (!inB a.snd.fst (0 : Int) (30 : Int) || !inB a.snd.snd.fst (0 : Int) (1000000 : Int))) ∧ (!inB a.fst (0 : Int) (1 : Int) || (!inB a.snd.fst (0 : Int) (30 : Int) || !inB a.snd.snd.fst (0 : Int) (1000000 : Int))) = (!inB a.fst (0 : Int) (1 : Int) || (!inB a.snd.fst (0 : Int) (30 : Int) || !inB a.snd.snd.fst (0 : Int) (1000000 : Int))) ∧ (!inB a.fst (0 : Int) (1 : Int) || (!inB a.snd.fst (0 : Int) (30 : Int) || (!inB a.snd.snd.fst (0 : Int) (1000000 : Int) || !maskB a.snd.snd.snd.fst (↑s.ms.length : Int)))) = (!inB a.fst (0 : Int) (1 : Int) || (!inB a.snd.fst (0 : Int) (30 : Int) || (!inB a.snd.snd.fst (0 : Int) (1000000 : Int) || !maskB a.snd.snd.snd.fst (↑s.ms.length : Int)))) ∧ SV.ps (0 : Nat) = SV.ps (0 : Nat) ∧ SV.pv ((I).pr ((I).pr ((I).pr ((I).pr Ty.un)))) (3 : Nat) ([] ++ [(1 : Nat)]) = SV.pv ((I).pr ((I).pr ((I).pr ((I).pr Ty.un)))) (3 : Nat) ([] ++ [(1 : Nat)]) ∧ a.snd.fst = a.snd.fst ∧ SV.ps (0 : Nat) = SV.ps (0 : Nat) ∧ SV.pf (Ty.ar (31 : Nat) ((I).pr ((I).pr ((I).pr ((I).pr ((I).pr (Ty.bool.pr Ty.un))))))) (0 : Nat) (1 : Nat) [] = SV.pf (Ty.ar (31 : Nat) ((I).pr ((I).pr ((I).pr ((I).pr ((I).pr (Ty.bool.pr Ty.un))))))) (0 : Nat) (1 : Nat) [] ∧ SV.pf (Ty.ar (31 : Nat) ((I).pr ((I).pr ((I).pr ((I).pr ((I).pr (Ty.bool.pr Ty.un))))))) (0 : Nat) (1 : Nat) ([] ++ [Int.toNat a.snd.fst]) = SV.pf (Ty.ar (31 : Nat) ((I).pr ((I).pr ((I).pr ((I).pr ((I).pr (Ty.bool.pr Ty.un))))))) (0 : Nat) (1 : Nat) ([] ++ [Int.toNat a.snd.fst]) ∧ True) ∧ (decide (a.fst = (0 : Int)) = true → PrepOk (Sy.mk s.ms s.bs) a ∧ Int.toNat a.snd.fst = Int.toNat a.snd.fst ∧ k (SV.tp [SV.d (I) (prepL a.snd.fst (Sy.mk s.ms s.bs) (bitsOf a.snd.snd.snd.fst)).snd.snd, SV.d (Ty.err (54 : Nat)) (0 : Int)]) [Ob.st (63 : Nat) [SV.os (1 : Nat), SV.d (Ty.ar (31 : Nat) ((I).pr ((I).pr ((I).pr ((I).pr ((I).pr (Ty.bool.pr Ty.un))))))) (s.bs.set a.snd.fst.toNat (orI (prepL a.snd.fst (Sy.mk s.ms s.bs) (bitsOf a.snd.snd.snd.fst)).snd.fst.fst (prepL a.snd.fst (Sy.mk s.ms s.bs) (bitsOf a.snd.snd.snd.fst)).snd.snd, (prepL a.snd.fst (Sy.mk s.ms s.bs) (bitsOf a.snd.snd.snd.fst)).snd.fst.snd))], Ob.row (58 : Nat) ((I).pr ((I).pr ((I).pr Ty.un))) (prepL a.snd.fst (Sy.mk s.ms s.bs) (bitsOf a.snd.snd.snd.fst)).fst]) ∧ (decide (a.fst = (0 : Int)) = false → (((!(s.bs.getD (Int.toNat a.snd.fst) ((0 : Int), (0 : Int), (0 : Int), (0 : Int), (0 : Int), false, ())).snd.snd.snd.snd.snd.fst) = true → (((∃ (s_1 : tMe.sl.D × ((Ty.ar (31 : Nat) tBa).pr Ty.un).D), some (s.ms, s.bs, ()) = some s_1 ∧ List.length s_1.fst ≤ (8 : Nat)) ∧ (0 : Int) ≤ (s.bs.getD (Int.toNat a.snd.fst) ((0 : Int), (0 : Int), (0 : Int), (0 : Int), (0 : Int), false, ())).fst ∧ (s.bs.getD (Int.toNat a.snd.fst) ((0 : Int), (0 : Int), (0 : Int), (0 : Int), (0 : Int), false, ())).fst < (256 : Int)) ∧ True) ∧ ((!mostB s.ms.length (s.bs.getD (Int.toNat a.snd.fst) ((0 : Int), (0 : Int), (0 : Int), (0 : Int), (0 : Int), false, ())).fst) = true → (7 : Int) ≠ (0 : Int) ∧ k (SV.tp [SV.d (I) (0 : Int), SV.d (Ty.err (54 : Nat)) (7 : Int)]) [Ob.st (63 : Nat) [SV.os (1 : Nat), SV.d (Ty.ar (31 : Nat) ((I).pr ((I).pr ((I).pr ((I).pr ((I).pr (Ty.bool.pr Ty.un))))))) s.bs], Ob.row (58 : Nat) ((I).pr ((I).pr ((I).pr Ty.un))) s.ms]) ∧ ((!mostB s.ms.length (s.bs.getD (Int.toNat a.snd.fst) ((0 : Int), (0 : Int), (0 : Int), (0 : Int), (0 : Int), false, ())).fst) = false → (SV.pf (Ty.ar (31 : Nat) ((I).pr ((I).pr ((I).pr ((I).pr ((I).pr (Ty.bool.pr Ty.un))))))) (0 : Nat) (1 : Nat) ([] ++ [Int.toNat a.snd.fst]) = SV.pf (Ty.ar (31 : Nat) ((I).pr ((I).pr ((I).pr ((I).pr ((I).pr (Ty.bool.pr Ty.un))))))) (0 : Nat) (1 : Nat) ([] ++ [Int.toNat a.snd.fst]) ∧ SV.d (I) a.snd.snd.fst = SV.d (I) a.snd.snd.fst ∧ True) ∧ (decide ((0 : Int) ≤ (((s.bs.set (Int.toNat a.snd.fst) ((s.bs.getD (Int.toNat a.snd.fst) ((0 : Int), (0 : Int), (0 : Int), (0 : Int), (0 : Int), false, ())).fst, (s.bs.getD (Int.toNat a.snd.fst) ((0 : Int), (0 : Int), (0 : Int), (0 : Int), (0 : Int), false, ())).snd.fst, (s.bs.getD (Int.toNat a.snd.fst) ((0 : Int), (0 : Int), (0 : Int), (0 : Int), (0 : Int), false, ())).snd.snd.fst, (s.bs.getD (Int.toNat a.snd.fst) ((0 : Int), (0 : Int), (0 : Int), (0 : Int), (0 : Int), false, ())).snd.snd.snd.fst, (s.bs.getD (Int.toNat a.snd.fst) ((0 : Int), (0 : Int), (0 : Int), (0 : Int), (0 : Int), false, ())).snd.snd.snd.snd.fst, true, (s.bs.getD (Int.toNat a.snd.fst) ((0 : Int), (0 : Int), (0 : Int), (0 : Int), (0 : Int), false, ())).snd.snd.snd.snd.snd.snd)).set (Int.toNat a.snd.fst) (((s.bs.set (Int.toNat a.snd.fst) ((s.bs.getD (Int.toNat a.snd.fst) ((0 : Int), (0 : Int), (0 : Int), (0 : Int), (0 : Int), false, ())).fst, (s.bs.getD (Int.toNat a.snd.fst) ((0 : Int), (0 : Int), (0 : Int), (0 : Int), (0 : Int), false, ())).snd.fst, (s.bs.getD (Int.toNat a.snd.fst) ((0 : Int), (0 : Int), (0 : Int), (0 : Int), (0 : Int), false, ())).snd.snd.fst, (s.bs.getD (Int.toNat a.snd.fst) ((0 : Int), (0 : Int), (0 : Int), (0 : Int), (0 : Int), false, ())).snd.snd.snd.fst, (s.bs.getD (Int.toNat a.snd.fst) ((0 : Int), (0 : Int), (0 : Int), (0 : Int), (0 : Int), false, ())).snd.snd.snd.snd.fst, true, (s.bs.getD (Int.toNat a.snd.fst) ((0 : Int), (0 : Int), (0 : Int), (0 : Int), (0 : Int), false, ())).snd.snd.snd.snd.snd.snd)).getD (Int.toNat a.snd.fst) ((0 : Int), (0 : Int), (0 : Int), (0 : Int), (0 : Int), false, ())).fst, ((s.bs.set (Int.toNat a.snd.fst) ((s.bs.getD (Int.toNat a.snd.fst) ((0 : Int), (0 : Int), (0 : Int), (0 : Int), (0 : Int), false, ())).fst, (s.bs.getD (Int.toNat a.snd.fst) ((0 : Int), (0 : Int), (0 : Int), (0 : Int), (0 : Int), false, ())).snd.fst, (s.bs.getD (Int.toNat a.snd.fst) ((0 : Int), (0 : Int), (0 : Int), (0 : Int), (0 : Int), false, ())).snd.snd.fst, (s.bs.getD (Int.toNat a.snd.fst) ((0 : Int), (0 : Int), (0 : Int), (0 : Int), (0 : Int), false, ())).snd.snd.snd.fst, (s.bs.getD (Int.toNat a.snd.fst) ((0 : Int), (0 : Int), (0 : Int), (0 : Int), (0 : Int), false, ())).snd.snd.snd.snd.fst, true, (s.bs.getD (Int.toNat a.snd.fst) ((0 : Int), (0 : Int), (0 : Int), (0 : Int), (0 : Int), false, ())).snd.snd.snd.snd.snd.snd)).getD (Int.toNat a.snd.fst) ((0 : Int), (0 : Int), (0 : Int), (0 : Int), (0 : Int), false, ())).snd.fst, ((s.bs.set (Int.toNat a.snd.fst) ((s.bs.getD (Int.toNat a.snd.fst) ((0 : Int), (0 : Int), (0 : Int), (0 : Int), (0 : Int), false, ())).fst, (s.bs.getD (Int.toNat a.snd.fst) ((0 : Int), (0 : Int), (0 : Int), (0 : Int), (0 : Int), false, ())).snd.fst, (s.bs.getD (Int.toNat a.snd.fst) ((0 : Int), (0 : Int), (0 : Int), (0 : Int), (0 : Int), false, ())).snd.snd.fst, (s.bs.getD (Int.toNat a.snd.fst) ((0 : Int), (0 : Int), (0 : Int), (0 : Int), (0 : Int), false, ())).snd.snd.snd.fst, (s.bs.getD (Int.toNat a.snd.fst) ((0 : Int), (0 : Int), (0 : Int), (0 : Int), (0 : Int), false, ())).snd.snd.snd.snd.fst, true, (s.bs.getD (Int.toNat a.snd.fst) ((0 : Int), (0 : Int), (0 : Int), (0 : Int), (0 : Int), false, ())).snd.snd.snd.snd.snd.snd)).getD (Int.toNat a.snd.fst) ((0 : Int), (0 : Int), (0 : Int), (0 : Int), (0 : Int), false, ())).snd.snd.fst, ((s.bs.set (Int.toNat a.snd.fst) ((s.bs.getD (Int.toNat a.snd.fst) ((0 : Int), (0 : Int), (0 : Int), (0 : Int), (0 : Int), false, ())).fst, (s.bs.getD (Int.toNat a.snd.fst) ((0 : Int), (0 : Int), (0 : Int), (0 : Int), (0 : Int), false, ())).snd.fst, (s.bs.getD (Int.toNat a.snd.fst) ((0 : Int), (0 : Int), (0 : Int), (0 : Int), (0 : Int), false, ())).snd.snd.fst, (s.bs.getD (Int.toNat a.snd.fst) ((0 : Int), (0 : Int), (0 : Int), (0 : Int), (0 : Int), false, ())).snd.snd.snd.fst, (s.bs.getD (Int.toNat a.snd.fst) ((0 : Int), (0 : Int), (0 : Int), (0 : Int), (0 : Int), false, ())).snd.snd.snd.snd.fst, true, (s.bs.getD (Int.toNat a.snd.fst) ((0 : Int), (0 : Int), (0 : Int), (0 : Int), (0 : Int), false, ())).snd.snd.snd.snd.snd.snd)).getD (Int.toNat a.snd.fst) ((0 : Int), (0 : Int), (0 : Int), (0 : Int), (0 : Int), false, ())).snd.snd.snd.fst, a.snd.snd.fst, ((s.bs.set (Int.toNat a.snd.fst) ((s.bs.getD (Int.toNat a.snd.fst) ((0 : Int), (0 : Int), (0 : Int), (0 : Int), (0 : Int), false, ())).fst, (s.bs.getD (Int.toNat a.snd.fst) ((0 : Int), (0 : Int), (0 : Int), (0 : Int), (0 : Int), false, ())).snd.fst, (s.bs.getD (Int.toNat a.snd.fst) ((0 : Int), (0 : Int), (0 : Int), (0 : Int), (0 : Int), false, ())).snd.snd.fst, (s.bs.getD (Int.toNat a.snd.fst) ((0 : Int), (0 : Int), (0 : Int), (0 : Int), (0 : Int), false, ())).snd.snd.snd.fst, (s.bs.getD (Int.toNat a.snd.fst) ((0 : Int), (0 : Int), (0 : Int), (0 : Int), (0 : Int), false, ())).snd.snd.snd.snd.fst, true, (s.bs.getD (Int.toNat a.snd.fst) ((0 : Int), (0 : Int), (0 : Int), (0 : Int), (0 : Int), false, ())).snd.snd.snd.snd.snd.snd)).getD (Int.toNat a.snd.fst) ((0 : Int), (0 : Int), (0 : Int), (0 : Int), (0 : Int), false, ())).snd.snd.snd.snd.snd)).getD (Int.toNat a.snd.fst) ((0 : Int), (0 : Int), (0 : Int), (0 : Int), (0 : Int), false, ())).snd.snd.fst) = true → True ∧ ∃ (x : Nat), Goes s a ∧ (([] : List Nat) = [] ∧ ([] : List Nat) = [] ∧ ([] : List Nat) = [] ∧ True) ∧ ((True ∧ ((s.bs.set (Int.toNat a.snd.fst) ((s.bs.getD (Int.toNat a.snd.fst) ((0 : Int), (0 : Int), (0 : Int), (0 : Int), (0 : Int), false, ())).fst, (s.bs.getD (Int.toNat a.snd.fst) ((0 : Int), (0 : Int), (0 : Int), (0 : Int), (0 : Int), false, ())).snd.fst, (s.bs.getD (Int.toNat a.snd.fst) ((0 : Int), (0 : Int), (0 : Int), (0 : Int), (0 : Int), false, ())).snd.snd.fst, (s.bs.getD (Int.toNat a.snd.fst) ((0 : Int), (0 : Int), (0 : Int), (0 : Int), (0 : Int), false, ())).snd.snd.snd.fst, (s.bs.getD (Int.toNat a.snd.fst) ((0 : Int), (0 : Int), (0 : Int), (0 : Int), (0 : Int), false, ())).snd.snd.snd.snd.fst, true, (s.bs.getD (Int.toNat a.snd.fst) ((0 : Int), (0 : Int), (0 : Int), (0 : Int), (0 : Int), false, ())).snd.snd.snd.snd.snd.snd)).set (Int.toNat a.snd.fst) (((s.bs.set (Int.toNat a.snd.fst) ((s.bs.getD (Int.toNat a.snd.fst) ((0 : Int), (0 : Int), (0 : Int), (0 : Int), (0 : Int), false, ())).fst, (s.bs.getD (Int.toNat a.snd.fst) ((0 : Int), (0 : Int), (0 : Int), (0 : Int), (0 : Int), false, ())).snd.fst, (s.bs.getD (Int.toNat a.snd.fst) ((0 : Int), (0 : Int), (0 : Int), (0 : Int), (0 : Int), false, ())).snd.snd.fst, (s.bs.getD (Int.toNat a.snd.fst) ((0 : Int), (0 : Int), (0 : Int), (0 : Int), (0 : Int), false, ())).snd.snd.snd.fst, (s.bs.getD (Int.toNat a.snd.fst) ((0 : Int), (0 : Int), (0 : Int), (0 : Int), (0 : Int), false, ())).snd.snd.snd.snd.fst, true, (s.bs.getD (Int.toNat a.snd.fst) ((0 : Int), (0 : Int), (0 : Int), (0 : Int), (0 : Int), false, ())).snd.snd.snd.snd.snd.snd)).getD (Int.toNat a.snd.fst) ((0 : Int), (0 : Int), (0 : Int), (0 : Int), (0 : Int), false, ())).fst, ((s.bs.set (Int.toNat a.snd.fst) ((s.bs.getD (Int.toNat a.snd.fst) ((0 : Int), (0 : Int), (0 : Int), (0 : Int), (0 : Int), false, ())).fst, (s.bs.getD (Int.toNat a.snd.fst) ((0 : Int), (0 : Int), (0 : Int), (0 : Int), (0 : Int), false, ())).snd.fst, (s.bs.getD (Int.toNat a.snd.fst) ((0 : Int), (0 : Int), (0 : Int), (0 : Int), (0 : Int), false, ())).snd.snd.fst, (s.bs.getD (Int.toNat a.snd.fst) ((0 : Int), (0 : Int), (0 : Int), (0 : Int), (0 : Int), false, ())).snd.snd.snd.fst, (s.bs.getD (Int.toNat a.snd.fst) ((0 : Int), (0 : Int), (0 : Int), (0 : Int), (0 : Int), false, ())).snd.snd.snd.snd.fst, true, (s.bs.getD (Int.toNat a.snd.fst) ((0 : Int), (0 : Int), (0 : Int), (0 : Int), (0 : Int), false, ())).snd.snd.snd.snd.snd.snd)).getD (Int.toNat a.snd.fst) ((0 : Int), (0 : Int), (0 : Int), (0 : Int), (0 : Int), false, ())).snd.fst, ((s.bs.set (Int.toNat a.snd.fst) ((s.bs.getD (Int.toNat a.snd.fst) ((0 : Int), (0 : Int), (0 : Int), (0 : Int), (0 : Int), false, ())).fst, (s.bs.getD (Int.toNat a.snd.fst) ((0 : Int), (0 : Int), (0 : Int), (0 : Int), (0 : Int), false, ())).snd.fst, (s.bs.getD (Int.toNat a.snd.fst) ((0 : Int), (0 : Int), (0 : Int), (0 : Int), (0 : Int), false, ())).snd.snd.fst, (s.bs.getD (Int.toNat a.snd.fst) ((0 : Int), (0 : Int), (0 : Int), (0 : Int), (0 : Int), false, ())).snd.snd.snd.fst, (s.bs.getD (Int.toNat a.snd.fst) ((0 : Int), (0 : Int), (0 : Int), (0 : Int), (0 : Int), false, ())).snd.snd.snd.snd.fst, true, (s.bs.getD (Int.toNat a.snd.fst) ((0 : Int), (0 : Int), (0 : Int), (0 : Int), (0 : Int), false, ())).snd.snd.snd.snd.snd.snd)).getD (Int.toNat a.snd.fst) ((0 : Int), (0 : Int), (0 : Int), (0 : Int), (0 : Int), false, ())).snd.snd.fst, ((s.bs.set (Int.toNat a.snd.fst) ((s.bs.getD (Int.toNat a.snd.fst) ((0 : Int), (0 : Int), (0 : Int), (0 : Int), (0 : Int), false, ())).fst, (s.bs.getD (Int.toNat a.snd.fst) ((0 : Int), (0 : Int), (0 : Int), (0 : Int), (0 : Int), false, ())).snd.fst, (s.bs.getD (Int.toNat a.snd.fst) ((0 : Int), (0 : Int), (0 : Int), (0 : Int), (0 : Int), false, ())).snd.snd.fst, (s.bs.getD (Int.toNat a.snd.fst) ((0 : Int), (0 : Int), (0 : Int), (0 : Int), (0 : Int), false, ())).snd.snd.snd.fst, (s.bs.getD (Int.toNat a.snd.fst) ((0 : Int), (0 : Int), (0 : Int), (0 : Int), (0 : Int), false, ())).snd.snd.snd.snd.fst, true, (s.bs.getD (Int.toNat a.snd.fst) ((0 : Int), (0 : Int), (0 : Int), (0 : Int), (0 : Int), false, ())).snd.snd.snd.snd.snd.snd)).getD (Int.toNat a.snd.fst) ((0 : Int), (0 : Int), (0 : Int), (0 : Int), (0 : Int), false, ())).snd.snd.snd.fst, a.snd.snd.fst, ((s.bs.set (Int.toNat a.snd.fst) ((s.bs.getD (Int.toNat a.snd.fst) ((0 : Int), (0 : Int), (0 : Int), (0 : Int), (0 : Int), false, ())).fst, (s.bs.getD (Int.toNat a.snd.fst) ((0 : Int), (0 : Int), (0 : Int), (0 : Int), (0 : Int), false, ())).snd.fst, (s.bs.getD (Int.toNat a.snd.fst) ((0 : Int), (0 : Int), (0 : Int), (0 : Int), (0 : Int), false, ())).snd.snd.fst, (s.bs.getD (Int.toNat a.snd.fst) ((0 : Int), (0 : Int), (0 : Int), (0 : Int), (0 : Int), false, ())).snd.snd.snd.fst, (s.bs.getD (Int.toNat a.snd.fst) ((0 : Int), (0 : Int), (0 : Int), (0 : Int), (0 : Int), false, ())).snd.snd.snd.snd.fst, true, (s.bs.getD (Int.toNat a.snd.fst) ((0 : Int), (0 : Int), (0 : Int), (0 : Int), (0 : Int), false, ())).snd.snd.snd.snd.snd.snd)).getD (Int.toNat a.snd.fst) ((0 : Int), (0 : Int), (0 : Int), (0 : Int), (0 : Int), false, ())).snd.snd.snd.snd.snd)).set (Int.toNat a.snd.fst) ((((s.bs.set (Int.toNat a.snd.fst) ((s.bs.getD (Int.toNat a.snd.fst) ((0 : Int), (0 : Int), (0 : Int), (0 : Int), (0 : Int), false, ())).fst, (s.bs.getD (Int.toNat a.snd.fst) ((0 : Int), (0 : Int), (0 : Int), (0 : Int), (0 : Int), false, ())).snd.fst, (s.bs.getD (Int.toNat a.snd.fst) ((0 : Int), (0 : Int), (0 : Int), (0 : Int), (0 : Int), false, ())).snd.snd.fst, (s.bs.getD (Int.toNat a.snd.fst) ((0 : Int), (0 : Int), (0 : Int), (0 : Int), (0 : Int), false, ())).snd.snd.snd.fst, (s.bs.getD (Int.toNat a.snd.fst) ((0 : Int), (0 : Int), (0 : Int), (0 : Int), (0 : Int), false, ())).snd.snd.snd.snd.fst, true, (s.bs.getD (Int.toNat a.snd.fst) ((0 : Int), (0 : Int), (0 : Int), (0 : Int), (0 : Int), false, ())).snd.snd.snd.snd.snd.snd)).set (Int.toNat a.snd.fst) (((s.bs.set (Int.toNat a.snd.fst) ((s.bs.getD (Int.toNat a.snd.fst) ((0 : Int), (0 : Int), (0 : Int), (0 : Int), (0 : Int), false, ())).fst, (s.bs.getD (Int.toNat a.snd.fst) ((0 : Int), (0 : Int), (0 : Int), (0 : Int), (0 : Int), false, ())).snd.fst, (s.bs.getD (Int.toNat a.snd.fst) ((0 : Int), (0 : Int), (0 : Int), (0 : Int), (0 : Int), false, ())).snd.snd.fst, (s.bs.getD (Int.toNat a.snd.fst) ((0 : Int), (0 : Int), (0 : Int), (0 : Int), (0 : Int), false, ())).snd.snd.snd.fst, (s.bs.getD (Int.toNat a.snd.fst) ((0 : Int), (0 : Int), (0 : Int), (0 : Int), (0 : Int), false, ())).snd.snd.snd.snd.fst, true, (s.bs.getD (Int.toNat a.snd.fst) ((0 : Int), (0 : Int), (0 : Int), (0 : Int), (0 : Int), false, ())).snd.snd.snd.snd.snd.snd)).getD (Int.toNat a.snd.fst) ((0 : Int), (0 : Int), (0 : Int), (0 : Int), (0 : Int), false, ())).fst, ((s.bs.set (Int.toNat a.snd.fst) ((s.bs.getD (Int.toNat a.snd.fst) ((0 : Int), (0 : Int), (0 : Int), (0 : Int), (0 : Int), false, ())).fst, (s.bs.getD (Int.toNat a.snd.fst) ((0 : Int), (0 : Int), (0 : Int), (0 : Int), (0 : Int), false, ())).snd.fst, (s.bs.getD (Int.toNat a.snd.fst) ((0 : Int), (0 : Int), (0 : Int), (0 : Int), (0 : Int), false, ())).snd.snd.fst, (s.bs.getD (Int.toNat a.snd.fst) ((0 : Int), (0 : Int), (0 : Int), (0 : Int), (0 : Int), false, ())).snd.snd.snd.fst, (s.bs.getD (Int.toNat a.snd.fst) ((0 : Int), (0 : Int), (0 : Int), (0 : Int), (0 : Int), false, ())).snd.snd.snd.snd.fst, true, (s.bs.getD (Int.toNat a.snd.fst) ((0 : Int), (0 : Int), (0 : Int), (0 : Int), (0 : Int), false, ())).snd.snd.snd.snd.snd.snd)).getD (Int.toNat a.snd.fst) ((0 : Int), (0 : Int), (0 : Int), (0 : Int), (0 : Int), false, ())).snd.fst, ((s.bs.set (Int.toNat a.snd.fst) ((s.bs.getD (Int.toNat a.snd.fst) ((0 : Int), (0 : Int), (0 : Int), (0 : Int), (0 : Int), false, ())).fst, (s.bs.getD (Int.toNat a.snd.fst) ((0 : Int), (0 : Int), (0 : Int), (0 : Int), (0 : Int), false, ())).snd.fst, (s.bs.getD (Int.toNat a.snd.fst) ((0 : Int), (0 : Int), (0 : Int), (0 : Int), (0 : Int), false, ())).snd.snd.fst, (s.bs.getD (Int.toNat a.snd.fst) ((0 : Int), (0 : Int), (0 : Int), (0 : Int), (0 : Int), false, ())).snd.snd.snd.fst, (s.bs.getD (Int.toNat a.snd.fst) ((0 : Int), (0 : Int), (0 : Int), (0 : Int), (0 : Int), false, ())).snd.snd.snd.snd.fst, true, (s.bs.getD (Int.toNat a.snd.fst) ((0 : Int), (0 : Int), (0 : Int), (0 : Int), (0 : Int), false, ())).snd.snd.snd.snd.snd.snd)).getD (Int.toNat a.snd.fst) ((0 : Int), (0 : Int), (0 : Int), (0 : Int), (0 : Int), false, ())).snd.snd.fst, ((s.bs.set (Int.toNat a.snd.fst) ((s.bs.getD (Int.toNat a.snd.fst) ((0 : Int), (0 : Int), (0 : Int), (0 : Int), (0 : Int), false, ())).fst, (s.bs.getD (Int.toNat a.snd.fst) ((0 : Int), (0 : Int), (0 : Int), (0 : Int), (0 : Int), false, ())).snd.fst, (s.bs.getD (Int.toNat a.snd.fst) ((0 : Int), (0 : Int), (0 : Int), (0 : Int), (0 : Int), false, ())).snd.snd.fst, (s.bs.getD (Int.toNat a.snd.fst) ((0 : Int), (0 : Int), (0 : Int), (0 : Int), (0 : Int), false, ())).snd.snd.snd.fst, (s.bs.getD (Int.toNat a.snd.fst) ((0 : Int), (0 : Int), (0 : Int), (0 : Int), (0 : Int), false, ())).snd.snd.snd.snd.fst, true, (s.bs.getD (Int.toNat a.snd.fst) ((0 : Int), (0 : Int), (0 : Int), (0 : Int), (0 : Int), false, ())).snd.snd.snd.snd.snd.snd)).getD (Int.toNat a.snd.fst) ((0 : Int), (0 : Int), (0 : Int), (0 : Int), (0 : Int), false, ())).snd.snd.snd.fst, a.snd.snd.fst, ((s.bs.set (Int.toNat a.snd.fst) ((s.bs.getD (Int.toNat a.snd.fst) ((0 : Int), (0 : Int), (0 : Int), (0 : Int), (0 : Int), false, ())).fst, (s.bs.getD (Int.toNat a.snd.fst) ((0 : Int), (0 : Int), (0 : Int), (0 : Int), (0 : Int), false, ())).snd.fst, (s.bs.getD (Int.toNat a.snd.fst) ((0 : Int), (0 : Int), (0 : Int), (0 : Int), (0 : Int), false, ())).snd.snd.fst, (s.bs.getD (Int.toNat a.snd.fst) ((0 : Int), (0 : Int), (0 : Int), (0 : Int), (0 : Int), false, ())).snd.snd.snd.fst, (s.bs.getD (Int.toNat a.snd.fst) ((0 : Int), (0 : Int), (0 : Int), (0 : Int), (0 : Int), false, ())).snd.snd.snd.snd.fst, true, (s.bs.getD (Int.toNat a.snd.fst) ((0 : Int), (0 : Int), (0 : Int), (0 : Int), (0 : Int), false, ())).snd.snd.snd.snd.snd.snd)).getD (Int.toNat a.snd.fst) ((0 : Int), (0 : Int), (0 : Int), (0 : Int), (0 : Int), false, ())).snd.snd.snd.snd.snd)).getD (Int.toNat a.snd.fst) ((0 : Int), (0 : Int), (0 : Int), (0 : Int), (0 : Int), false, ())).fst, (((s.bs.set (Int.toNat a.snd.fst) ((s.bs.getD (Int.toNat a.snd.fst) ((0 : Int), (0 : Int), (0 : Int), (0 : Int), (0 : Int), false, ())).fst, (s.bs.getD (Int.toNat a.snd.fst) ((0 : Int), (0 : Int), (0 : Int), (0 : Int), (0 : Int), false, ())).snd.fst, (s.bs.getD (Int.toNat a.snd.fst) ((0 : Int), (0 : Int), (0 : Int), (0 : Int), (0 : Int), false, ())).snd.snd.fst, (s.bs.getD (Int.toNat a.snd.fst) ((0 : Int), (0 : Int), (0 : Int), (0 : Int), (0 : Int), false, ())).snd.snd.snd.fst, (s.bs.getD (Int.toNat a.snd.fst) ((0 : Int), (0 : Int), (0 : Int), (0 : Int), (0 : Int), false, ())).snd.snd.snd.snd.fst, true, (s.bs.getD (Int.toNat a.snd.fst) ((0 : Int), (0 : Int), (0 : Int), (0 : Int), (0 : Int), false, ())).snd.snd.snd.snd.snd.snd)).set (Int.toNat a.snd.fst) (((s.bs.set (Int.toNat a.snd.fst) ((s.bs.getD (Int.toNat a.snd.fst) ((0 : Int), (0 : Int), (0 : Int), (0 : Int), (0 : Int), false, ())).fst, (s.bs.getD (Int.toNat a.snd.fst) ((0 : Int), (0 : Int), (0 : Int), (0 : Int), (0 : Int), false, ())).snd.fst, (s.bs.getD (Int.toNat a.snd.fst) ((0 : Int), (0 : Int), (0 : Int), (0 : Int), (0 : Int), false, ())).snd.snd.fst, (s.bs.getD (Int.toNat a.snd.fst) ((0 : Int), (0 : Int), (0 : Int), (0 : Int), (0 : Int), false, ())).snd.snd.snd.fst, (s.bs.getD (Int.toNat a.snd.fst) ((0 : Int), (0 : Int), (0 : Int), (0 : Int), (0 : Int), false, ())).snd.snd.snd.snd.fst, true, (s.bs.getD (Int.toNat a.snd.fst) ((0 : Int), (0 : Int), (0 : Int), (0 : Int), (0 : Int), false, ())).snd.snd.snd.snd.snd.snd)).getD (Int.toNat a.snd.fst) ((0 : Int), (0 : Int), (0 : Int), (0 : Int), (0 : Int), false, ())).fst, ((s.bs.set (Int.toNat a.snd.fst) ((s.bs.getD (Int.toNat a.snd.fst) ((0 : Int), (0 : Int), (0 : Int), (0 : Int), (0 : Int), false, ())).fst, (s.bs.getD (Int.toNat a.snd.fst) ((0 : Int), (0 : Int), (0 : Int), (0 : Int), (0 : Int), false, ())).snd.fst, (s.bs.getD (Int.toNat a.snd.fst) ((0 : Int), (0 : Int), (0 : Int), (0 : Int), (0 : Int), false, ())).snd.snd.fst, (s.bs.getD (Int.toNat a.snd.fst) ((0 : Int), (0 : Int), (0 : Int), (0 : Int), (0 : Int), false, ())).snd.snd.snd.fst, (s.bs.getD (Int.toNat a.snd.fst) ((0 : Int), (0 : Int), (0 : Int), (0 : Int), (0 : Int), false, ())).snd.snd.snd.snd.fst, true, (s.bs.getD (Int.toNat a.snd.fst) ((0 : Int), (0 : Int), (0 : Int), (0 : Int), (0 : Int), false, ())).snd.snd.snd.snd.snd.snd)).getD (Int.toNat a.snd.fst) ((0 : Int), (0 : Int), (0 : Int), (0 : Int), (0 : Int), false, ())).snd.fst, ((s.bs.set (Int.toNat a.snd.fst) ((s.bs.getD (Int.toNat a.snd.fst) ((0 : Int), (0 : Int), (0 : Int), (0 : Int), (0 : Int), false, ())).fst, (s.bs.getD (Int.toNat a.snd.fst) ((0 : Int), (0 : Int), (0 : Int), (0 : Int), (0 : Int), false, ())).snd.fst, (s.bs.getD (Int.toNat a.snd.fst) ((0 : Int), (0 : Int), (0 : Int), (0 : Int), (0 : Int), false, ())).snd.snd.fst, (s.bs.getD (Int.toNat a.snd.fst) ((0 : Int), (0 : Int), (0 : Int), (0 : Int), (0 : Int), false, ())).snd.snd.snd.fst, (s.bs.getD (Int.toNat a.snd.fst) ((0 : Int), (0 : Int), (0 : Int), (0 : Int), (0 : Int), false, ())).snd.snd.snd.snd.fst, true, (s.bs.getD (Int.toNat a.snd.fst) ((0 : Int), (0 : Int), (0 : Int), (0 : Int), (0 : Int), false, ())).snd.snd.snd.snd.snd.snd)).getD (Int.toNat a.snd.fst) ((0 : Int), (0 : Int), (0 : Int), (0 : Int), (0 : Int), false, ())).snd.snd.fst, ((s.bs.set (Int.toNat a.snd.fst) ((s.bs.getD (Int.toNat a.snd.fst) ((0 : Int), (0 : Int), (0 : Int), (0 : Int), (0 : Int), false, ())).fst, (s.bs.getD (Int.toNat a.snd.fst) ((0 : Int), (0 : Int), (0 : Int), (0 : Int), (0 : Int), false, ())).snd.fst, (s.bs.getD (Int.toNat a.snd.fst) ((0 : Int), (0 : Int), (0 : Int), (0 : Int), (0 : Int), false, ())).snd.snd.fst, (s.bs.getD (Int.toNat a.snd.fst) ((0 : Int), (0 : Int), (0 : Int), (0 : Int), (0 : Int), false, ())).snd.snd.snd.fst, (s.bs.getD (Int.toNat a.snd.fst) ((0 : Int), (0 : Int), (0 : Int), (0 : Int), (0 : Int), false, ())).snd.snd.snd.snd.fst, true, (s.bs.getD (Int.toNat a.snd.fst) ((0 : Int), (0 : Int), (0 : Int), (0 : Int), (0 : Int), false, ())).snd.snd.snd.snd.snd.snd)).getD (Int.toNat a.snd.fst) ((0 : Int), (0 : Int), (0 : Int), (0 : Int), (0 : Int), false, ())).snd.snd.snd.fst, a.snd.snd.fst, ((s.bs.set (Int.toNat a.snd.fst) ((s.bs.getD (Int.toNat a.snd.fst) ((0 : Int), (0 : Int), (0 : Int), (0 : Int), (0 : Int), false, ())).fst, (s.bs.getD (Int.toNat a.snd.fst) ((0 : Int), (0 : Int), (0 : Int), (0 : Int), (0 : Int), false, ())).snd.fst, (s.bs.getD (Int.toNat a.snd.fst) ((0 : Int), (0 : Int), (0 : Int), (0 : Int), (0 : Int), false, ())).snd.snd.fst, (s.bs.getD (Int.toNat a.snd.fst) ((0 : Int), (0 : Int), (0 : Int), (0 : Int), (0 : Int), false, ())).snd.snd.snd.fst, (s.bs.getD (Int.toNat a.snd.fst) ((0 : Int), (0 : Int), (0 : Int), (0 : Int), (0 : Int), false, ())).snd.snd.snd.snd.fst, true, (s.bs.getD (Int.toNat a.snd.fst) ((0 : Int), (0 : Int), (0 : Int), (0 : Int), (0 : Int), false, ())).snd.snd.snd.snd.snd.snd)).getD (Int.toNat a.snd.fst) ((0 : Int), (0 : Int), (0 : Int), (0 : Int), (0 : Int), false, ())).snd.snd.snd.snd.snd)).getD (Int.toNat a.snd.fst) ((0 : Int), (0 : Int), (0 : Int), (0 : Int), (0 : Int), false, ())).snd.fst, (((s.bs.set (Int.toNat a.snd.fst) ((s.bs.getD (Int.toNat a.snd.fst) ((0 : Int), (0 : Int), (0 : Int), (0 : Int), (0 : Int), false, ())).fst, (s.bs.getD (Int.toNat a.snd.fst) ((0 : Int), (0 : Int), (0 : Int), (0 : Int), (0 : Int), false, ())).snd.fst, (s.bs.getD (Int.toNat a.snd.fst) ((0 : Int), (0 : Int), (0 : Int), (0 : Int), (0 : Int), false, ())).snd.snd.fst, (s.bs.getD (Int.toNat a.snd.fst) ((0 : Int), (0 : Int), (0 : Int), (0 : Int), (0 : Int), false, ())).snd.snd.snd.fst, (s.bs.getD (Int.toNat a.snd.fst) ((0 : Int), (0 : Int), (0 : Int), (0 : Int), (0 : Int), false, ())).snd.snd.snd.snd.fst, true, (s.bs.getD (Int.toNat a.snd.fst) ((0 : Int), (0 : Int), (0 : Int), (0 : Int), (0 : Int), false, ())).snd.snd.snd.snd.snd.snd)).set (Int.toNat a.snd.fst) (((s.bs.set (Int.toNat a.snd.fst) ((s.bs.getD (Int.toNat a.snd.fst) ((0 : Int), (0 : Int), (0 : Int), (0 : Int), (0 : Int), false, ())).fst, (s.bs.getD (Int.toNat a.snd.fst) ((0 : Int), (0 : Int), (0 : Int), (0 : Int), (0 : Int), false, ())).snd.fst, (s.bs.getD (Int.toNat a.snd.fst) ((0 : Int), (0 : Int), (0 : Int), (0 : Int), (0 : Int), false, ())).snd.snd.fst, (s.bs.getD (Int.toNat a.snd.fst) ((0 : Int), (0 : Int), (0 : Int), (0 : Int), (0 : Int), false, ())).snd.snd.snd.fst, (s.bs.getD (Int.toNat a.snd.fst) ((0 : Int), (0 : Int), (0 : Int), (0 : Int), (0 : Int), false, ())).snd.snd.snd.snd.fst, true, (s.bs.getD (Int.toNat a.snd.fst) ((0 : Int), (0 : Int), (0 : Int), (0 : Int), (0 : Int), false, ())).snd.snd.snd.snd.snd.snd)).getD (Int.toNat a.snd.fst) ((0 : Int), (0 : Int), (0 : Int), (0 : Int), (0 : Int), false, ())).fst, ((s.bs.set (Int.toNat a.snd.fst) ((s.bs.getD (Int.toNat a.snd.fst) ((0 : Int), (0 : Int), (0 : Int), (0 : Int), (0 : Int), false, ())).fst, (s.bs.getD (Int.toNat a.snd.fst) ((0 : Int), (0 : Int), (0 : Int), (0 : Int), (0 : Int), false, ())).snd.fst, (s.bs.getD (Int.toNat a.snd.fst) ((0 : Int), (0 : Int), (0 : Int), (0 : Int), (0 : Int), false, ())).snd.snd.fst, (s.bs.getD (Int.toNat a.snd.fst) ((0 : Int), (0 : Int), (0 : Int), (0 : Int), (0 : Int), false, ())).snd.snd.snd.fst, (s.bs.getD (Int.toNat a.snd.fst) ((0 : Int), (0 : Int), (0 : Int), (0 : Int), (0 : Int), false, ())).snd.snd.snd.snd.fst, true, (s.bs.getD (Int.toNat a.snd.fst) ((0 : Int), (0 : Int), (0 : Int), (0 : Int), (0 : Int), false, ())).snd.snd.snd.snd.snd.snd)).getD (Int.toNat a.snd.fst) ((0 : Int), (0 : Int), (0 : Int), (0 : Int), (0 : Int), false, ())).snd.fst, ((s.bs.set (Int.toNat a.snd.fst) ((s.bs.getD (Int.toNat a.snd.fst) ((0 : Int), (0 : Int), (0 : Int), (0 : Int), (0 : Int), false, ())).fst, (s.bs.getD (Int.toNat a.snd.fst) ((0 : Int), (0 : Int), (0 : Int), (0 : Int), (0 : Int), false, ())).snd.fst, (s.bs.getD (Int.toNat a.snd.fst) ((0 : Int), (0 : Int), (0 : Int), (0 : Int), (0 : Int), false, ())).snd.snd.fst, (s.bs.getD (Int.toNat a.snd.fst) ((0 : Int), (0 : Int), (0 : Int), (0 : Int), (0 : Int), false, ())).snd.snd.snd.fst, (s.bs.getD (Int.toNat a.snd.fst) ((0 : Int), (0 : Int), (0 : Int), (0 : Int), (0 : Int), false, ())).snd.snd.snd.snd.fst, true, (s.bs.getD (Int.toNat a.snd.fst) ((0 : Int), (0 : Int), (0 : Int), (0 : Int), (0 : Int), false, ())).snd.snd.snd.snd.snd.snd)).getD (Int.toNat a.snd.fst) ((0 : Int), (0 : Int), (0 : Int), (0 : Int), (0 : Int), false, ())).snd.snd.fst, ((s.bs.set (Int.toNat a.snd.fst) ((s.bs.getD (Int.toNat a.snd.fst) ((0 : Int), (0 : Int), (0 : Int), (0 : Int), (0 : Int), false, ())).fst, (s.bs.getD (Int.toNat a.snd.fst) ((0 : Int), (0 : Int), (0 : Int), (0 : Int), (0 : Int), false, ())).snd.fst, (s.bs.getD (Int.toNat a.snd.fst) ((0 : Int), (0 : Int), (0 : Int), (0 : Int), (0 : Int), false, ())).snd.snd.fst, (s.bs.getD (Int.toNat a.snd.fst) ((0 : Int), (0 : Int), (0 : Int), (0 : Int), (0 : Int), false, ())).snd.snd.snd.fst, (s.bs.getD (Int.toNat a.snd.fst) ((0 : Int), (0 : Int), (0 : Int), (0 : Int), (0 : Int), false, ())).snd.snd.snd.snd.fst, true, (s.bs.getD (Int.toNat a.snd.fst) ((0 : Int), (0 : Int), (0 : Int), (0 : Int), (0 : Int), false, ())).snd.snd.snd.snd.snd.snd)).getD (Int.toNat a.snd.fst) ((0 : Int), (0 : Int), (0 : Int), (0 : Int), (0 : Int), false, ())).snd.snd.snd.fst, a.snd.snd.fst, ((s.bs.set (Int.toNat a.snd.fst) ((s.bs.getD (Int.toNat a.snd.fst) ((0 : Int), (0 : Int), (0 : Int), (0 : Int), (0 : Int), false, ())).fst, (s.bs.getD (Int.toNat a.snd.fst) ((0 : Int), (0 : Int), (0 : Int), (0 : Int), (0 : Int), false, ())).snd.fst, (s.bs.getD (Int.toNat a.snd.fst) ((0 : Int), (0 : Int), (0 : Int), (0 : Int), (0 : Int), false, ())).snd.snd.fst, (s.bs.getD (Int.toNat a.snd.fst) ((0 : Int), (0 : Int), (0 : Int), (0 : Int), (0 : Int), false, ())).snd.snd.snd.fst, (s.bs.getD (Int.toNat a.snd.fst) ((0 : Int), (0 : Int), (0 : Int), (0 : Int), (0 : Int), false, ())).snd.snd.snd.snd.fst, true, (s.bs.getD (Int.toNat a.snd.fst) ((0 : Int), (0 : Int), (0 : Int), (0 : Int), (0 : Int), false, ())).snd.snd.snd.snd.snd.snd)).getD (Int.toNat a.snd.fst) ((0 : Int), (0 : Int), (0 : Int), (0 : Int), (0 : Int), false, ())).snd.snd.snd.snd.snd)).getD (Int.toNat a.snd.fst) ((0 : Int), (0 : Int), (0 : Int), (0 : Int), (0 : Int), false, ())).snd.snd.fst, (((s.bs.set (Int.toNat a.snd.fst) ((s.bs.getD (Int.toNat a.snd.fst) ((0 : Int), (0 : Int), (0 : Int), (0 : Int), (0 : Int), false, ())).fst, (s.bs.getD (Int.toNat a.snd.fst) ((0 : Int), (0 : Int), (0 : Int), (0 : Int), (0 : Int), false, ())).snd.fst, (s.bs.getD (Int.toNat a.snd.fst) ((0 : Int), (0 : Int), (0 : Int), (0 : Int), (0 : Int), false, ())).snd.snd.fst, (s.bs.getD (Int.toNat a.snd.fst) ((0 : Int), (0 : Int), (0 : Int), (0 : Int), (0 : Int), false, ())).snd.snd.snd.fst, (s.bs.getD (Int.toNat a.snd.fst) ((0 : Int), (0 : Int), (0 : Int), (0 : Int), (0 : Int), false, ())).snd.snd.snd.snd.fst, true, (s.bs.getD (Int.toNat a.snd.fst) ((0 : Int), (0 : Int), (0 : Int), (0 : Int), (0 : Int), false, ())).snd.snd.snd.snd.snd.snd)).set (Int.toNat a.snd.fst) (((s.bs.set (Int.toNat a.snd.fst) ((s.bs.getD (Int.toNat a.snd.fst) ((0 : Int), (0 : Int), (0 : Int), (0 : Int), (0 : Int), false, ())).fst, (s.bs.getD (Int.toNat a.snd.fst) ((0 : Int), (0 : Int), (0 : Int), (0 : Int), (0 : Int), false, ())).snd.fst, (s.bs.getD (Int.toNat a.snd.fst) ((0 : Int), (0 : Int), (0 : Int), (0 : Int), (0 : Int), false, ())).snd.snd.fst, (s.bs.getD (Int.toNat a.snd.fst) ((0 : Int), (0 : Int), (0 : Int), (0 : Int), (0 : Int), false, ())).snd.snd.snd.fst, (s.bs.getD (Int.toNat a.snd.fst) ((0 : Int), (0 : Int), (0 : Int), (0 : Int), (0 : Int), false, ())).snd.snd.snd.snd.fst, true, (s.bs.getD (Int.toNat a.snd.fst) ((0 : Int), (0 : Int), (0 : Int), (0 : Int), (0 : Int), false, ())).snd.snd.snd.snd.snd.snd)).getD (Int.toNat a.snd.fst) ((0 : Int), (0 : Int), (0 : Int), (0 : Int), (0 : Int), false, ())).fst, ((s.bs.set (Int.toNat a.snd.fst) ((s.bs.getD (Int.toNat a.snd.fst) ((0 : Int), (0 : Int), (0 : Int), (0 : Int), (0 : Int), false, ())).fst, (s.bs.getD (Int.toNat a.snd.fst) ((0 : Int), (0 : Int), (0 : Int), (0 : Int), (0 : Int), false, ())).snd.fst, (s.bs.getD (Int.toNat a.snd.fst) ((0 : Int), (0 : Int), (0 : Int), (0 : Int), (0 : Int), false, ())).snd.snd.fst, (s.bs.getD (Int.toNat a.snd.fst) ((0 : Int), (0 : Int), (0 : Int), (0 : Int), (0 : Int), false, ())).snd.snd.snd.fst, (s.bs.getD (Int.toNat a.snd.fst) ((0 : Int), (0 : Int), (0 : Int), (0 : Int), (0 : Int), false, ())).snd.snd.snd.snd.fst, true, (s.bs.getD (Int.toNat a.snd.fst) ((0 : Int), (0 : Int), (0 : Int), (0 : Int), (0 : Int), false, ())).snd.snd.snd.snd.snd.snd)).getD (Int.toNat a.snd.fst) ((0 : Int), (0 : Int), (0 : Int), (0 : Int), (0 : Int), false, ())).snd.fst, ((s.bs.set (Int.toNat a.snd.fst) ((s.bs.getD (Int.toNat a.snd.fst) ((0 : Int), (0 : Int), (0 : Int), (0 : Int), (0 : Int), false, ())).fst, (s.bs.getD (Int.toNat a.snd.fst) ((0 : Int), (0 : Int), (0 : Int), (0 : Int), (0 : Int), false, ())).snd.fst, (s.bs.getD (Int.toNat a.snd.fst) ((0 : Int), (0 : Int), (0 : Int), (0 : Int), (0 : Int), false, ())).snd.snd.fst, (s.bs.getD (Int.toNat a.snd.fst) ((0 : Int), (0 : Int), (0 : Int), (0 : Int), (0 : Int), false, ())).snd.snd.snd.fst, (s.bs.getD (Int.toNat a.snd.fst) ((0 : Int), (0 : Int), (0 : Int), (0 : Int), (0 : Int), false, ())).snd.snd.snd.snd.fst, true, (s.bs.getD (Int.toNat a.snd.fst) ((0 : Int), (0 : Int), (0 : Int), (0 : Int), (0 : Int), false, ())).snd.snd.snd.snd.snd.snd)).getD (Int.toNat a.snd.fst) ((0 : Int), (0 : Int), (0 : Int), (0 : Int), (0 : Int), false, ())).snd.snd.fst, ((s.bs.set (Int.toNat a.snd.fst) ((s.bs.getD (Int.toNat a.snd.fst) ((0 : Int), (0 : Int), (0 : Int), (0 : Int), (0 : Int), false, ())).fst, (s.bs.getD (Int.toNat a.snd.fst) ((0 : Int), (0 : Int), (0 : Int), (0 : Int), (0 : Int), false, ())).snd.fst, (s.bs.getD (Int.toNat a.snd.fst) ((0 : Int), (0 : Int), (0 : Int), (0 : Int), (0 : Int), false, ())).snd.snd.fst, (s.bs.getD (Int.toNat a.snd.fst) ((0 : Int), (0 : Int), (0 : Int), (0 : Int), (0 : Int), false, ())).snd.snd.snd.fst, (s.bs.getD (Int.toNat a.snd.fst) ((0 : Int), (0 : Int), (0 : Int), (0 : Int), (0 : Int), false, ())).snd.snd.snd.snd.fst, true, (s.bs.getD (Int.toNat a.snd.fst) ((0 : Int), (0 : Int), (0 : Int), (0 : Int), (0 : Int), false, ())).snd.snd.snd.snd.snd.snd)).getD (Int.toNat a.snd.fst) ((0 : Int), (0 : Int), (0 : Int), (0 : Int), (0 : Int), false, ())).snd.snd.snd.fst, a.snd.snd.fst, ((s.bs.set (Int.toNat a.snd.fst) ((s.bs.getD (Int.toNat a.snd.fst) ((0 : Int), (0 : Int), (0 : Int), (0 : Int), (0 : Int), false, ())).fst, (s.bs.getD (Int.toNat a.snd.fst) ((0 : Int), (0 : Int), (0 : Int), (0 : Int), (0 : Int), false, ())).snd.fst, (s.bs.getD (Int.toNat a.snd.fst) ((0 : Int), (0 : Int), (0 : Int), (0 : Int), (0 : Int), false, ())).snd.snd.fst, (s.bs.getD (Int.toNat a.snd.fst) ((0 : Int), (0 : Int), (0 : Int), (0 : Int), (0 : Int), false, ())).snd.snd.snd.fst, (s.bs.getD (Int.toNat a.snd.fst) ((0 : Int), (0 : Int), (0 : Int), (0 : Int), (0 : Int), false, ())).snd.snd.snd.snd.fst, true, (s.bs.getD (Int.toNat a.snd.fst) ((0 : Int), (0 : Int), (0 : Int), (0 : Int), (0 : Int), false, ())).snd.snd.snd.snd.snd.snd)).getD (Int.toNat a.snd.fst) ((0 : Int), (0 : Int), (0 : Int), (0 : Int), (0 : Int), false, ())).snd.snd.snd.snd.snd)).getD (Int.toNat a.snd.fst) ((0 : Int), (0 : Int), (0 : Int), (0 : Int), (0 : Int), false, ())).snd.snd.snd.fst, (((s.bs.set (Int.toNat a.snd.fst) ((s.bs.getD (Int.toNat a.snd.fst) ((0 : Int), (0 : Int), (0 : Int), (0 : Int), (0 : Int), false, ())).fst, (s.bs.getD (Int.toNat a.snd.fst) ((0 : Int), (0 : Int), (0 : Int), (0 : Int), (0 : Int), false, ())).snd.fst, (s.bs.getD (Int.toNat a.snd.fst) ((0 : Int), (0 : Int), (0 : Int), (0 : Int), (0 : Int), false, ())).snd.snd.fst, (s.bs.getD (Int.toNat a.snd.fst) ((0 : Int), (0 : Int), (0 : Int), (0 : Int), (0 : Int), false, ())).snd.snd.snd.fst, (s.bs.getD (Int.toNat a.snd.fst) ((0 : Int), (0 : Int), (0 : Int), (0 : Int), (0 : Int), false, ())).snd.snd.snd.snd.fst, true, (s.bs.getD (Int.toNat a.snd.fst) ((0 : Int), (0 : Int), (0 : Int), (0 : Int), (0 : Int), false, ())).snd.snd.snd.snd.snd.snd)).set (Int.toNat a.snd.fst) (((s.bs.set (Int.toNat a.snd.fst) ((s.bs.getD (Int.toNat a.snd.fst) ((0 : Int), (0 : Int), (0 : Int), (0 : Int), (0 : Int), false, ())).fst, (s.bs.getD (Int.toNat a.snd.fst) ((0 : Int), (0 : Int), (0 : Int), (0 : Int), (0 : Int), false, ())).snd.fst, (s.bs.getD (Int.toNat a.snd.fst) ((0 : Int), (0 : Int), (0 : Int), (0 : Int), (0 : Int), false, ())).snd.snd.fst, (s.bs.getD (Int.toNat a.snd.fst) ((0 : Int), (0 : Int), (0 : Int), (0 : Int), (0 : Int), false, ())).snd.snd.snd.fst, (s.bs.getD (Int.toNat a.snd.fst) ((0 : Int), (0 : Int), (0 : Int), (0 : Int), (0 : Int), false, ())).snd.snd.snd.snd.fst, true, (s.bs.getD (Int.toNat a.snd.fst) ((0 : Int), (0 : Int), (0 : Int), (0 : Int), (0 : Int), false, ())).snd.snd.snd.snd.snd.snd)).getD (Int.toNat a.snd.fst) ((0 : Int), (0 : Int), (0 : Int), (0 : Int), (0 : Int), false, ())).fst, ((s.bs.set (Int.toNat a.snd.fst) ((s.bs.getD (Int.toNat a.snd.fst) ((0 : Int), (0 : Int), (0 : Int), (0 : Int), (0 : Int), false, ())).fst, (s.bs.getD (Int.toNat a.snd.fst) ((0 : Int), (0 : Int), (0 : Int), (0 : Int), (0 : Int), false, ())).snd.fst, (s.bs.getD (Int.toNat a.snd.fst) ((0 : Int), (0 : Int), (0 : Int), (0 : Int), (0 : Int), false, ())).snd.snd.fst, (s.bs.getD (Int.toNat a.snd.fst) ((0 : Int), (0 : Int), (0 : Int), (0 : Int), (0 : Int), false, ())).snd.snd.snd.fst, (s.bs.getD (Int.toNat a.snd.fst) ((0 : Int), (0 : Int), (0 : Int), (0 : Int), (0 : Int), false, ())).snd.snd.snd.snd.fst, true, (s.bs.getD (Int.toNat a.snd.fst) ((0 : Int), (0 : Int), (0 : Int), (0 : Int), (0 : Int), false, ())).snd.snd.snd.snd.snd.snd)).getD (Int.toNat a.snd.fst) ((0 : Int), (0 : Int), (0 : Int), (0 : Int), (0 : Int), false, ())).snd.fst, ((s.bs.set (Int.toNat a.snd.fst) ((s.bs.getD (Int.toNat a.snd.fst) ((0 : Int), (0 : Int), (0 : Int), (0 : Int), (0 : Int), false, ())).fst, (s.bs.getD (Int.toNat a.snd.fst) ((0 : Int), (0 : Int), (0 : Int), (0 : Int), (0 : Int), false, ())).snd.fst, (s.bs.getD (Int.toNat a.snd.fst) ((0 : Int), (0 : Int), (0 : Int), (0 : Int), (0 : Int), false, ())).snd.snd.fst, (s.bs.getD (Int.toNat a.snd.fst) ((0 : Int), (0 : Int), (0 : Int), (0 : Int), (0 : Int), false, ())).snd.snd.snd.fst, (s.bs.getD (Int.toNat a.snd.fst) ((0 : Int), (0 : Int), (0 : Int), (0 : Int), (0 : Int), false, ())).snd.snd.snd.snd.fst, true, (s.bs.getD (Int.toNat a.snd.fst) ((0 : Int), (0 : Int), (0 : Int), (0 : Int), (0 : Int), false, ())).snd.snd.snd.snd.snd.snd)).getD (Int.toNat a.snd.fst) ((0 : Int), (0 : Int), (0 : Int), (0 : Int), (0 : Int), false, ())).snd.snd.fst, ((s.bs.set (Int.toNat a.snd.fst) ((s.bs.getD (Int.toNat a.snd.fst) ((0 : Int), (0 : Int), (0 : Int), (0 : Int), (0 : Int), false, ())).fst, (s.bs.getD (Int.toNat a.snd.fst) ((0 : Int), (0 : Int), (0 : Int), (0 : Int), (0 : Int), false, ())).snd.fst, (s.bs.getD (Int.toNat a.snd.fst) ((0 : Int), (0 : Int), (0 : Int), (0 : Int), (0 : Int), false, ())).snd.snd.fst, (s.bs.getD (Int.toNat a.snd.fst) ((0 : Int), (0 : Int), (0 : Int), (0 : Int), (0 : Int), false, ())).snd.snd.snd.fst, (s.bs.getD (Int.toNat a.snd.fst) ((0 : Int), (0 : Int), (0 : Int), (0 : Int), (0 : Int), false, ())).snd.snd.snd.snd.fst, true, (s.bs.getD (Int.toNat a.snd.fst) ((0 : Int), (0 : Int), (0 : Int), (0 : Int), (0 : Int), false, ())).snd.snd.snd.snd.snd.snd)).getD (Int.toNat a.snd.fst) ((0 : Int), (0 : Int), (0 : Int), (0 : Int), (0 : Int), false, ())).snd.snd.snd.fst, a.snd.snd.fst, ((s.bs.set (Int.toNat a.snd.fst) ((s.bs.getD (Int.toNat a.snd.fst) ((0 : Int), (0 : Int), (0 : Int), (0 : Int), (0 : Int), false, ())).fst, (s.bs.getD (Int.toNat a.snd.fst) ((0 : Int), (0 : Int), (0 : Int), (0 : Int), (0 : Int), false, ())).snd.fst, (s.bs.getD (Int.toNat a.snd.fst) ((0 : Int), (0 : Int), (0 : Int), (0 : Int), (0 : Int), false, ())).snd.snd.fst, (s.bs.getD (Int.toNat a.snd.fst) ((0 : Int), (0 : Int), (0 : Int), (0 : Int), (0 : Int), false, ())).snd.snd.snd.fst, (s.bs.getD (Int.toNat a.snd.fst) ((0 : Int), (0 : Int), (0 : Int), (0 : Int), (0 : Int), false, ())).snd.snd.snd.snd.fst, true, (s.bs.getD (Int.toNat a.snd.fst) ((0 : Int), (0 : Int), (0 : Int), (0 : Int), (0 : Int), false, ())).snd.snd.snd.snd.snd.snd)).getD (Int.toNat a.snd.fst) ((0 : Int), (0 : Int), (0 : Int), (0 : Int), (0 : Int), false, ())).snd.snd.snd.snd.snd)).getD (Int.toNat a.snd.fst) ((0 : Int), (0 : Int), (0 : Int), (0 : Int), (0 : Int), false, ())).snd.snd.snd.fst, (((s.bs.set (Int.toNat a.snd.fst) ((s.bs.getD (Int.toNat a.snd.fst) ((0 : Int), (0 : Int), (0 : Int), (0 : Int), (0 : Int), false, ())).fst, (s.bs.getD (Int.toNat a.snd.fst) ((0 : Int), (0 : Int), (0 : Int), (0 : Int), (0 : Int), false, ())).snd.fst, (s.bs.getD (Int.toNat a.snd.fst) ((0 : Int), (0 : Int), (0 : Int), (0 : Int), (0 : Int), false, ())).snd.snd.fst, (s.bs.getD (Int.toNat a.snd.fst) ((0 : Int), (0 : Int), (0 : Int), (0 : Int), (0 : Int), false, ())).snd.snd.snd.fst, (s.bs.getD (Int.toNat a.snd.fst) ((0 : Int), (0 : Int), (0 : Int), (0 : Int), (0 : Int), false, ())).snd.snd.snd.snd.fst, true, (s.bs.getD (Int.toNat a.snd.fst) ((0 : Int), (0 : Int), (0 : Int), (0 : Int), (0 : Int), false, ())).snd.snd.snd.snd.snd.snd)).set (Int.toNat a.snd.fst) (((s.bs.set (Int.toNat a.snd.fst) ((s.bs.getD (Int.toNat a.snd.fst) ((0 : Int), (0 : Int), (0 : Int), (0 : Int), (0 : Int), false, ())).fst, (s.bs.getD (Int.toNat a.snd.fst) ((0 : Int), (0 : Int), (0 : Int), (0 : Int), (0 : Int), false, ())).snd.fst, (s.bs.getD (Int.toNat a.snd.fst) ((0 : Int), (0 : Int), (0 : Int), (0 : Int), (0 : Int), false, ())).snd.snd.fst, (s.bs.getD (Int.toNat a.snd.fst) ((0 : Int), (0 : Int), (0 : Int), (0 : Int), (0 : Int), false, ())).snd.snd.snd.fst, (s.bs.getD (Int.toNat a.snd.fst) ((0 : Int), (0 : Int), (0 : Int), (0 : Int), (0 : Int), false, ())).snd.snd.snd.snd.fst, true, (s.bs.getD (Int.toNat a.snd.fst) ((0 : Int), (0 : Int), (0 : Int), (0 : Int), (0 : Int), false, ())).snd.snd.snd.snd.snd.snd)).getD (Int.toNat a.snd.fst) ((0 : Int), (0 : Int), (0 : Int), (0 : Int), (0 : Int), false, ())).fst, ((s.bs.set (Int.toNat a.snd.fst) ((s.bs.getD (Int.toNat a.snd.fst) ((0 : Int), (0 : Int), (0 : Int), (0 : Int), (0 : Int), false, ())).fst, (s.bs.getD (Int.toNat a.snd.fst) ((0 : Int), (0 : Int), (0 : Int), (0 : Int), (0 : Int), false, ())).snd.fst, (s.bs.getD (Int.toNat a.snd.fst) ((0 : Int), (0 : Int), (0 : Int), (0 : Int), (0 : Int), false, ())).snd.snd.fst, (s.bs.getD (Int.toNat a.snd.fst) ((0 : Int), (0 : Int), (0 : Int), (0 : Int), (0 : Int), false, ())).snd.snd.snd.fst, (s.bs.getD (Int.toNat a.snd.fst) ((0 : Int), (0 : Int), (0 : Int), (0 : Int), (0 : Int), false, ())).snd.snd.snd.snd.fst, true, (s.bs.getD (Int.toNat a.snd.fst) ((0 : Int), (0 : Int), (0 : Int), (0 : Int), (0 : Int), false, ())).snd.snd.snd.snd.snd.snd)).getD (Int.toNat a.snd.fst) ((0 : Int), (0 : Int), (0 : Int), (0 : Int), (0 : Int), false, ())).snd.fst, ((s.bs.set (Int.toNat a.snd.fst) ((s.bs.getD (Int.toNat a.snd.fst) ((0 : Int), (0 : Int), (0 : Int), (0 : Int), (0 : Int), false, ())).fst, (s.bs.getD (Int.toNat a.snd.fst) ((0 : Int), (0 : Int), (0 : Int), (0 : Int), (0 : Int), false, ())).snd.fst, (s.bs.getD (Int.toNat a.snd.fst) ((0 : Int), (0 : Int), (0 : Int), (0 : Int), (0 : Int), false, ())).snd.snd.fst, (s.bs.getD (Int.toNat a.snd.fst) ((0 : Int), (0 : Int), (0 : Int), (0 : Int), (0 : Int), false, ())).snd.snd.snd.fst, (s.bs.getD (Int.toNat a.snd.fst) ((0 : Int), (0 : Int), (0 : Int), (0 : Int), (0 : Int), false, ())).snd.snd.snd.snd.fst, true, (s.bs.getD (Int.toNat a.snd.fst) ((0 : Int), (0 : Int), (0 : Int), (0 : Int), (0 : Int), false, ())).snd.snd.snd.snd.snd.snd)).getD (Int.toNat a.snd.fst) ((0 : Int), (0 : Int), (0 : Int), (0 : Int), (0 : Int), false, ())).snd.snd.fst, ((s.bs.set (Int.toNat a.snd.fst) ((s.bs.getD (Int.toNat a.snd.fst) ((0 : Int), (0 : Int), (0 : Int), (0 : Int), (0 : Int), false, ())).fst, (s.bs.getD (Int.toNat a.snd.fst) ((0 : Int), (0 : Int), (0 : Int), (0 : Int), (0 : Int), false, ())).snd.fst, (s.bs.getD (Int.toNat a.snd.fst) ((0 : Int), (0 : Int), (0 : Int), (0 : Int), (0 : Int), false, ())).snd.snd.fst, (s.bs.getD (Int.toNat a.snd.fst) ((0 : Int), (0 : Int), (0 : Int), (0 : Int), (0 : Int), false, ())).snd.snd.snd.fst, (s.bs.getD (Int.toNat a.snd.fst) ((0 : Int), (0 : Int), (0 : Int), (0 : Int), (0 : Int), false, ())).snd.snd.snd.snd.fst, true, (s.bs.getD (Int.toNat a.snd.fst) ((0 : Int), (0 : Int), (0 : Int), (0 : Int), (0 : Int), false, ())).snd.snd.snd.snd.snd.snd)).getD (Int.toNat a.snd.fst) ((0 : Int), (0 : Int), (0 : Int), (0 : Int), (0 : Int), false, ())).snd.snd.snd.fst, a.snd.snd.fst, ((s.bs.set (Int.toNat a.snd.fst) ((s.bs.getD (Int.toNat a.snd.fst) ((0 : Int), (0 : Int), (0 : Int), (0 : Int), (0 : Int), false, ())).fst, (s.bs.getD (Int.toNat a.snd.fst) ((0 : Int), (0 : Int), (0 : Int), (0 : Int), (0 : Int), false, ())).snd.fst, (s.bs.getD (Int.toNat a.snd.fst) ((0 : Int), (0 : Int), (0 : Int), (0 : Int), (0 : Int), false, ())).snd.snd.fst, (s.bs.getD (Int.toNat a.snd.fst) ((0 : Int), (0 : Int), (0 : Int), (0 : Int), (0 : Int), false, ())).snd.snd.snd.fst, (s.bs.getD (Int.toNat a.snd.fst) ((0 : Int), (0 : Int), (0 : Int), (0 : Int), (0 : Int), false, ())).snd.snd.snd.snd.fst, true, (s.bs.getD (Int.toNat a.snd.fst) ((0 : Int), (0 : Int), (0 : Int), (0 : Int), (0 : Int), false, ())).snd.snd.snd.snd.snd.snd)).getD (Int.toNat a.snd.fst) ((0 : Int), (0 : Int), (0 : Int), (0 : Int), (0 : Int), false, ())).snd.snd.snd.snd.snd)).getD (Int.toNat a.snd.fst) ((0 : Int), (0 : Int), (0 : Int), (0 : Int), (0 : Int), false, ())).snd.snd.snd.snd.snd) = s.bs.set a.snd.fst.toNat (prpB (s.bs.getD a.snd.fst.toNat zB) a.snd.snd.fst) ∧ True) ∧ ((58 : Nat) = (58 : Nat) ∧ s.ms = s.ms) ∧ (True ∧ True) ∧ ((33 : Nat) = (33 : Nat) ∧ a = a) ∧ ([] ++ [Int.toNat a.snd.fst] = [] ++ [Int.toNat a.snd.fst] ∧ True) ∧ True) ∧ True ∧ a = a ∧ tabD = tabD ∧ True) ∧ (decide ((0 : Int) ≤ (((s.bs.set (Int.toNat a.snd.fst) ((s.bs.getD (Int.toNat a.snd.fst) ((0 : Int), (0 : Int), (0 : Int), (0 : Int), (0 : Int), false, ())).fst, (s.bs.getD (Int.toNat a.snd.fst) ((0 : Int), (0 : Int), (0 : Int), (0 : Int), (0 : Int), false, ())).snd.fst, (s.bs.getD (Int.toNat a.snd.fst) ((0 : Int), (0 : Int), (0 : Int), (0 : Int), (0 : Int), false, ())).snd.snd.fst, (s.bs.getD (Int.toNat a.snd.fst) ((0 : Int), (0 : Int), (0 : Int), (0 : Int), (0 : Int), false, ())).snd.snd.snd.fst, (s.bs.getD (Int.toNat a.snd.fst) ((0 : Int), (0 : Int), (0 : Int), (0 : Int), (0 : Int), false, ())).snd.snd.snd.snd.fst, true, (s.bs.getD (Int.toNat a.snd.fst) ((0 : Int), (0 : Int), (0 : Int), (0 : Int), (0 : Int), false, ())).snd.snd.snd.snd.snd.snd)).set (Int.toNat a.snd.fst) (((s.bs.set (Int.toNat a.snd.fst) ((s.bs.getD (Int.toNat a.snd.fst) ((0 : Int), (0 : Int), (0 : Int), (0 : Int), (0 : Int), false, ())).fst, (s.bs.getD (Int.toNat a.snd.fst) ((0 : Int), (0 : Int), (0 : Int), (0 : Int), (0 : Int), false, ())).snd.fst, (s.bs.getD (Int.toNat a.snd.fst) ((0 : Int), (0 : Int), (0 : Int), (0 : Int), (0 : Int), false, ())).snd.snd.fst, (s.bs.getD (Int.toNat a.snd.fst) ((0 : Int), (0 : Int), (0 : Int), (0 : Int), (0 : Int), false, ())).snd.snd.snd.fst, (s.bs.getD (Int.toNat a.snd.fst) ((0 : Int), (0 : Int), (0 : Int), (0 : Int), (0 : Int), false, ())).snd.snd.snd.snd.fst, true, (s.bs.getD (Int.toNat a.snd.fst) ((0 : Int), (0 : Int), (0 : Int), (0 : Int), (0 : Int), false, ())).snd.snd.snd.snd.snd.snd)).getD (Int.toNat a.snd.fst) ((0 : Int), (0 : Int), (0 : Int), (0 : Int), (0 : Int), false, ())).fst, ((s.bs.set (Int.toNat a.snd.fst) ((s.bs.getD (Int.toNat a.snd.fst) ((0 : Int), (0 : Int), (0 : Int), (0 : Int), (0 : Int), false, ())).fst, (s.bs.getD (Int.toNat a.snd.fst) ((0 : Int), (0 : Int), (0 : Int), (0 : Int), (0 : Int), false, ())).snd.fst, (s.bs.getD (Int.toNat a.snd.fst) ((0 : Int), (0 : Int), (0 : Int), (0 : Int), (0 : Int), false, ())).snd.snd.fst, (s.bs.getD (Int.toNat a.snd.fst) ((0 : Int), (0 : Int), (0 : Int), (0 : Int), (0 : Int), false, ())).snd.snd.snd.fst, (s.bs.getD (Int.toNat a.snd.fst) ((0 : Int), (0 : Int), (0 : Int), (0 : Int), (0 : Int), false, ())).snd.snd.snd.snd.fst, true, (s.bs.getD (Int.toNat a.snd.fst) ((0 : Int), (0 : Int), (0 : Int), (0 : Int), (0 : Int), false, ())).snd.snd.snd.snd.snd.snd)).getD (Int.toNat a.snd.fst) ((0 : Int), (0 : Int), (0 : Int), (0 : Int), (0 : Int), false, ())).snd.fst, ((s.bs.set (Int.toNat a.snd.fst) ((s.bs.getD (Int.toNat a.snd.fst) ((0 : Int), (0 : Int), (0 : Int), (0 : Int), (0 : Int), false, ())).fst, (s.bs.getD (Int.toNat a.snd.fst) ((0 : Int), (0 : Int), (0 : Int), (0 : Int), (0 : Int), false, ())).snd.fst, (s.bs.getD (Int.toNat a.snd.fst) ((0 : Int), (0 : Int), (0 : Int), (0 : Int), (0 : Int), false, ())).snd.snd.fst, (s.bs.getD (Int.toNat a.snd.fst) ((0 : Int), (0 : Int), (0 : Int), (0 : Int), (0 : Int), false, ())).snd.snd.snd.fst, (s.bs.getD (Int.toNat a.snd.fst) ((0 : Int), (0 : Int), (0 : Int), (0 : Int), (0 : Int), false, ())).snd.snd.snd.snd.fst, true, (s.bs.getD (Int.toNat a.snd.fst) ((0 : Int), (0 : Int), (0 : Int), (0 : Int), (0 : Int), false, ())).snd.snd.snd.snd.snd.snd)).getD (Int.toNat a.snd.fst) ((0 : Int), (0 : Int), (0 : Int), (0 : Int), (0 : Int), false, ())).snd.snd.fst, ((s.bs.set (Int.toNat a.snd.fst) ((s.bs.getD (Int.toNat a.snd.fst) ((0 : Int), (0 : Int), (0 : Int), (0 : Int), (0 : Int), false, ())).fst, (s.bs.getD (Int.toNat a.snd.fst) ((0 : Int), (0 : Int), (0 : Int), (0 : Int), (0 : Int), false, ())).snd.fst, (s.bs.getD (Int.toNat a.snd.fst) ((0 : Int), (0 : Int), (0 : Int), (0 : Int), (0 : Int), false, ())).snd.snd.fst, (s.bs.getD (Int.toNat a.snd.fst) ((0 : Int), (0 : Int), (0 : Int), (0 : Int), (0 : Int), false, ())).snd.snd.snd.fst, (s.bs.getD (Int.toNat a.snd.fst) ((0 : Int), (0 : Int), (0 : Int), (0 : Int), (0 : Int), false, ())).snd.snd.snd.snd.fst, true, (s.bs.getD (Int.toNat a.snd.fst) ((0 : Int), (0 : Int), (0 : Int), (0 : Int), (0 : Int), false, ())).snd.snd.snd.snd.snd.snd)).getD (Int.toNat a.snd.fst) ((0 : Int), (0 : Int), (0 : Int), (0 : Int), (0 : Int), false, ())).snd.snd.snd.fst, a.snd.snd.fst, ((s.bs.set (Int.toNat a.snd.fst) ((s.bs.getD (Int.toNat a.snd.fst) ((0 : Int), (0 : Int), (0 : Int), (0 : Int), (0 : Int), false, ())).fst, (s.bs.getD (Int.toNat a.snd.fst) ((0 : Int), (0 : Int), (0 : Int), (0 : Int), (0 : Int), false, ())).snd.fst, (s.bs.getD (Int.toNat a.snd.fst) ((0 : Int), (0 : Int), (0 : Int), (0 : Int), (0 : Int), false, ())).snd.snd.fst, (s.bs.getD (Int.toNat a.snd.fst) ((0 : Int), (0 : Int), (0 : Int), (0 : Int), (0 : Int), false, ())).snd.snd.snd.fst, (s.bs.getD (Int.toNat a.snd.fst) ((0 : Int), (0 : Int), (0 : Int), (0 : Int), (0 : Int), false, ())).snd.snd.snd.snd.fst, true, (s.bs.getD (Int.toNat a.snd.fst) ((0 : Int), (0 : Int), (0 : Int), (0 : Int), (0 : Int), false, ())).snd.snd.snd.snd.snd.snd)).getD (Int.toNat a.snd.fst) ((0 : Int), (0 : Int), (0 : Int), (0 : Int), (0 : Int), false, ())).snd.snd.snd.snd.snd)).getD (Int.toNat a.snd.fst) ((0 : Int), (0 : Int), (0 : Int), (0 : Int), (0 : Int), false, ())).snd.snd.fst) = false → ∃ (x : Nat), Goes s a ∧ (([] : List Nat) = [] ∧ ([] : List Nat) = [] ∧ ([] : List Nat) = [] ∧ True) ∧ ((True ∧ (s.bs.set (Int.toNat a.snd.fst) ((s.bs.getD (Int.toNat a.snd.fst) ((0 : Int), (0 : Int), (0 : Int), (0 : Int), (0 : Int), false, ())).fst, (s.bs.getD (Int.toNat a.snd.fst) ((0 : Int), (0 : Int), (0 : Int), (0 : Int), (0 : Int), false, ())).snd.fst, (s.bs.getD (Int.toNat a.snd.fst) ((0 : Int), (0 : Int), (0 : Int), (0 : Int), (0 : Int), false, ())).snd.snd.fst, (s.bs.getD (Int.toNat a.snd.fst) ((0 : Int), (0 : Int), (0 : Int), (0 : Int), (0 : Int), false, ())).snd.snd.snd.fst, (s.bs.getD (Int.toNat a.snd.fst) ((0 : Int), (0 : Int), (0 : Int), (0 : Int), (0 : Int), false, ())).snd.snd.snd.snd.fst, true, (s.bs.getD (Int.toNat a.snd.fst) ((0 : Int), (0 : Int), (0 : Int), (0 : Int), (0 : Int), false, ())).snd.snd.snd.snd.snd.snd)).set (Int.toNat a.snd.fst) (((s.bs.set (Int.toNat a.snd.fst) ((s.bs.getD (Int.toNat a.snd.fst) ((0 : Int), (0 : Int), (0 : Int), (0 : Int), (0 : Int), false, ())).fst, (s.bs.getD (Int.toNat a.snd.fst) ((0 : Int), (0 : Int), (0 : Int), (0 : Int), (0 : Int), false, ())).snd.fst, (s.bs.getD (Int.toNat a.snd.fst) ((0 : Int), (0 : Int), (0 : Int), (0 : Int), (0 : Int), false, ())).snd.snd.fst, (s.bs.getD (Int.toNat a.snd.fst) ((0 : Int), (0 : Int), (0 : Int), (0 : Int), (0 : Int), false, ())).snd.snd.snd.fst, (s.bs.getD (Int.toNat a.snd.fst) ((0 : Int), (0 : Int), (0 : Int), (0 : Int), (0 : Int), false, ())).snd.snd.snd.snd.fst, true, (s.bs.getD (Int.toNat a.snd.fst) ((0 : Int), (0 : Int), (0 : Int), (0 : Int), (0 : Int), false, ())).snd.snd.snd.snd.snd.snd)).getD (Int.toNat a.snd.fst) ((0 : Int), (0 : Int), (0 : Int), (0 : Int), (0 : Int), false, ())).fst, ((s.bs.set (Int.toNat a.snd.fst) ((s.bs.getD (Int.toNat a.snd.fst) ((0 : Int), (0 : Int), (0 : Int), (0 : Int), (0 : Int), false, ())).fst, (s.bs.getD (Int.toNat a.snd.fst) ((0 : Int), (0 : Int), (0 : Int), (0 : Int), (0 : Int), false, ())).snd.fst, (s.bs.getD (Int.toNat a.snd.fst) ((0 : Int), (0 : Int), (0 : Int), (0 : Int), (0 : Int), false, ())).snd.snd.fst, (s.bs.getD (Int.toNat a.snd.fst) ((0 : Int), (0 : Int), (0 : Int), (0 : Int), (0 : Int), false, ())).snd.snd.snd.fst, (s.bs.getD (Int.toNat a.snd.fst) ((0 : Int), (0 : Int), (0 : Int), (0 : Int), (0 : Int), false, ())).snd.snd.snd.snd.fst, true, (s.bs.getD (Int.toNat a.snd.fst) ((0 : Int), (0 : Int), (0 : Int), (0 : Int), (0 : Int), false, ())).snd.snd.snd.snd.snd.snd)).getD (Int.toNat a.snd.fst) ((0 : Int), (0 : Int), (0 : Int), (0 : Int), (0 : Int), false, ())).snd.fst, ((s.bs.set (Int.toNat a.snd.fst) ((s.bs.getD (Int.toNat a.snd.fst) ((0 : Int), (0 : Int), (0 : Int), (0 : Int), (0 : Int), false, ())).fst, (s.bs.getD (Int.toNat a.snd.fst) ((0 : Int), (0 : Int), (0 : Int), (0 : Int), (0 : Int), false, ())).snd.fst, (s.bs.getD (Int.toNat a.snd.fst) ((0 : Int), (0 : Int), (0 : Int), (0 : Int), (0 : Int), false, ())).snd.snd.fst, (s.bs.getD (Int.toNat a.snd.fst) ((0 : Int), (0 : Int), (0 : Int), (0 : Int), (0 : Int), false, ())).snd.snd.snd.fst, (s.bs.getD (Int.toNat a.snd.fst) ((0 : Int), (0 : Int), (0 : Int), (0 : Int), (0 : Int), false, ())).snd.snd.snd.snd.fst, true, (s.bs.getD (Int.toNat a.snd.fst) ((0 : Int), (0 : Int), (0 : Int), (0 : Int), (0 : Int), false, ())).snd.snd.snd.snd.snd.snd)).getD (Int.toNat a.snd.fst) ((0 : Int), (0 : Int), (0 : Int), (0 : Int), (0 : Int), false, ())).snd.snd.fst, ((s.bs.set (Int.toNat a.snd.fst) ((s.bs.getD (Int.toNat a.snd.fst) ((0 : Int), (0 : Int), (0 : Int), (0 : Int), (0 : Int), false, ())).fst, (s.bs.getD (Int.toNat a.snd.fst) ((0 : Int), (0 : Int), (0 : Int), (0 : Int), (0 : Int), false, ())).snd.fst, (s.bs.getD (Int.toNat a.snd.fst) ((0 : Int), (0 : Int), (0 : Int), (0 : Int), (0 : Int), false, ())).snd.snd.fst, (s.bs.getD (Int.toNat a.snd.fst) ((0 : Int), (0 : Int), (0 : Int), (0 : Int), (0 : Int), false, ())).snd.snd.snd.fst, (s.bs.getD (Int.toNat a.snd.fst) ((0 : Int), (0 : Int), (0 : Int), (0 : Int), (0 : Int), false, ())).snd.snd.snd.snd.fst, true, (s.bs.getD (Int.toNat a.snd.fst) ((0 : Int), (0 : Int), (0 : Int), (0 : Int), (0 : Int), false, ())).snd.snd.snd.snd.snd.snd)).getD (Int.toNat a.snd.fst) ((0 : Int), (0 : Int), (0 : Int), (0 : Int), (0 : Int), false, ())).snd.snd.snd.fst, a.snd.snd.fst, ((s.bs.set (Int.toNat a.snd.fst) ((s.bs.getD (Int.toNat a.snd.fst) ((0 : Int), (0 : Int), (0 : Int), (0 : Int), (0 : Int), false, ())).fst, (s.bs.getD (Int.toNat a.snd.fst) ((0 : Int), (0 : Int), (0 : Int), (0 : Int), (0 : Int), false, ())).snd.fst, (s.bs.getD (Int.toNat a.snd.fst) ((0 : Int), (0 : Int), (0 : Int), (0 : Int), (0 : Int), false, ())).snd.snd.fst, (s.bs.getD (Int.toNat a.snd.fst) ((0 : Int), (0 : Int), (0 : Int), (0 : Int), (0 : Int), false, ())).snd.snd.snd.fst, (s.bs.getD (Int.toNat a.snd.fst) ((0 : Int), (0 : Int), (0 : Int), (0 : Int), (0 : Int), false, ())).snd.snd.snd.snd.fst, true, (s.bs.getD (Int.toNat a.snd.fst) ((0 : Int), (0 : Int), (0 : Int), (0 : Int), (0 : Int), false, ())).snd.snd.snd.snd.snd.snd)).getD (Int.toNat a.snd.fst) ((0 : Int), (0 : Int), (0 : Int), (0 : Int), (0 : Int), false, ())).snd.snd.snd.snd.snd) = s.bs.set a.snd.fst.toNat (prpB (s.bs.getD a.snd.fst.toNat zB) a.snd.snd.fst) ∧ True) ∧ ((58 : Nat) = (58 : Nat) ∧ s.ms = s.ms) ∧ (True ∧ True) ∧ ((33 : Nat) = (33 : Nat) ∧ a = a) ∧ ([] ++ [Int.toNat a.snd.fst] = [] ++ [Int.toNat a.snd.fst] ∧ True) ∧ True) ∧ True ∧ a = a ∧ tabD = tabD ∧ True))) ∧ ((!(s.bs.getD (Int.toNat a.snd.fst) ((0 : Int), (0 : Int), (0 : Int), (0 : Int), (0 : Int), false, ())).snd.snd.snd.snd.snd.fst) = false → ∃ (x : Nat), Goes s a ∧ (([] : List Nat) = [] ∧ ([] : List Nat) = [] ∧ ([] : List Nat) = [] ∧ True) ∧ ((True ∧ s.bs = s.bs.set a.snd.fst.toNat (prpB (s.bs.getD a.snd.fst.toNat zB) a.snd.snd.fst) ∧ True) ∧ ((58 : Nat) = (58 : Nat) ∧ s.ms = s.ms) ∧ (True ∧ True) ∧ ((33 : Nat) = (33 : Nat) ∧ a = a) ∧ ([] ++ [Int.toNat a.snd.fst] = [] ++ [Int.toNat a.snd.fst] ∧ True) ∧ True) ∧ True ∧ a = a ∧ tabD = tabD ∧ True)) ∧ ∀ (x : Nat), Goes s a → True ∧ (∃ (x : List Int), True ∧ x = [] ∧ (([] : List Nat) = [] ∧ ([] : List Nat) = [] ∧ ([] : List Nat) = [] ∧ ([] : List Nat) = [] ∧ some (some a.snd.snd.snd.fst, ()) = some (some a.snd.snd.snd.fst, ()) ∧ True) ∧ ((True ∧ s.bs.set a.snd.fst.toNat (prpB (s.bs.getD a.snd.fst.toNat zB) a.snd.snd.fst) = s.bs.set a.snd.fst.toNat (prpB (s.bs.getD a.snd.fst.toNat zB) a.snd.snd.fst) ∧ True) ∧ ((58 : Nat) = (58 : Nat) ∧ s.ms = (accL a.snd.fst (prpB (s.bs.getD a.snd.fst.toNat zB) a.snd.snd.fst).snd.snd.snd.snd.fst s.ms x).fst) ∧ (True ∧ True) ∧ ((33 : Nat) = (33 : Nat) ∧ a = a) ∧ ([] ++ [Int.toNat a.snd.fst] = [] ++ [Int.toNat a.snd.fst] ∧ True) ∧ ((3 : Nat) = (3 : Nat) ∧ (0 : Int) = (accL a.snd.fst (prpB (s.bs.getD a.snd.fst.toNat zB) a.snd.snd.fst).snd.snd.snd.snd.fst s.ms x).snd) ∧ True) ∧ True ∧ a = a ∧ tabD = tabD ∧ True) ∧ (∀ (x : List Int), True → some (some a.snd.snd.snd.fst, ()) = some (some a.snd.snd.snd.fst, ())) ∧ (∀ (x : List Int) (y : Int) (rest : List Int), True → bitsOf a.snd.snd.snd.fst = x ++ y :: rest → (0 : Int) ≤ y ∧ y < (↑(accL a.snd.fst (prpB (s.bs.getD a.snd.fst.toNat zB) a.snd.snd.fst).snd.snd.snd.snd.fst s.ms x).fst.length : Int) ∧ True ∧ (decide (a.snd.fst < ((accL a.snd.fst (prpB (s.bs.getD a.snd.fst.toNat zB) a.snd.snd.fst).snd.snd.snd.snd.fst s.ms x).fst.getD y.toNat ((0 : Int), (0 : Int), (0 : Int), ())).fst) = true → ∃ (x_1 : List Int), True ∧ x_1 = x ++ [y] ∧ (([] : List Nat) = [] ∧ ([] : List Nat) = [] ∧ ([] : List Nat) = [] ∧ ([] : List Nat) = [] ∧ some (some a.snd.snd.snd.fst, ()) = some (some a.snd.snd.snd.fst, ()) ∧ True) ∧ ((True ∧ s.bs.set a.snd.fst.toNat (prpB (s.bs.getD a.snd.fst.toNat zB) a.snd.snd.fst) = s.bs.set a.snd.fst.toNat (prpB (s.bs.getD a.snd.fst.toNat zB) a.snd.snd.fst) ∧ True) ∧ ((58 : Nat) = (58 : Nat) ∧ (accL a.snd.fst (prpB (s.bs.getD a.snd.fst.toNat zB) a.snd.snd.fst).snd.snd.snd.snd.fst s.ms x).fst = (accL a.snd.fst (prpB (s.bs.getD a.snd.fst.toNat zB) a.snd.snd.fst).snd.snd.snd.snd.fst s.ms x_1).fst) ∧ (True ∧ True) ∧ ((33 : Nat) = (33 : Nat) ∧ a = a) ∧ ([] ++ [Int.toNat a.snd.fst] = [] ++ [Int.toNat a.snd.fst] ∧ True) ∧ ((3 : Nat) = (3 : Nat) ∧ (accL a.snd.fst (prpB (s.bs.getD a.snd.fst.toNat zB) a.snd.snd.fst).snd.snd.snd.snd.fst s.ms x).snd = (accL a.snd.fst (prpB (s.bs.getD a.snd.fst.toNat zB) a.snd.snd.fst).snd.snd.snd.snd.fst s.ms x_1).snd) ∧ True) ∧ True ∧ a = a ∧ tabD = tabD ∧ True) ∧ (decide (a.snd.fst < ((accL a.snd.fst (prpB (s.bs.getD a.snd.fst.toNat zB) a.snd.snd.fst).snd.snd.snd.snd.fst s.ms x).fst.getD y.toNat ((0 : Int), (0 : Int), (0 : Int), ())).fst) = false → True ∧ ((0 : Int) ≤ y ∧ y < (64 : Int) ∧ IntKind.i64.bits = (64 : Nat) ∧ inK IntKind.i64 ((1 : Int) * (2 : Int) ^ y.toNat) ∧ (0 : Int) ≤ (accL a.snd.fst (prpB (s.bs.getD a.snd.fst.toNat zB) a.snd.snd.fst).snd.snd.snd.snd.fst s.ms x).snd ∧ (0 : Int) ≤ (1 : Int) * (2 : Int) ^ y.toNat ∧ True) ∧ ∃ (x_1 : List Int), True ∧ x_1 = x ++ [y] ∧ (([] : List Nat) = [] ∧ ([] : List Nat) = [] ∧ ([] : List Nat) = [] ∧ ([] : List Nat) = [] ∧ some (some a.snd.snd.snd.fst, ()) = some (some a.snd.snd.snd.fst, ()) ∧ True) ∧ ((True ∧ s.bs.set a.snd.fst.toNat (prpB (s.bs.getD a.snd.fst.toNat zB) a.snd.snd.fst) = s.bs.set a.snd.fst.toNat (prpB (s.bs.getD a.snd.fst.toNat zB) a.snd.snd.fst) ∧ True) ∧ ((58 : Nat) = (58 : Nat) ∧ (accL a.snd.fst (prpB (s.bs.getD a.snd.fst.toNat zB) a.snd.snd.fst).snd.snd.snd.snd.fst s.ms x).fst.set y.toNat (a.snd.fst, a.snd.fst, ((s.bs.set a.snd.fst.toNat (prpB (s.bs.getD a.snd.fst.toNat zB) a.snd.snd.fst)).getD (Int.toNat a.snd.fst) ((0 : Int), (0 : Int), (0 : Int), (0 : Int), (0 : Int), false, ())).snd.snd.snd.snd.fst, ()) = (accL a.snd.fst (prpB (s.bs.getD a.snd.fst.toNat zB) a.snd.snd.fst).snd.snd.snd.snd.fst s.ms x_1).fst) ∧ (True ∧ True) ∧ ((33 : Nat) = (33 : Nat) ∧ a = a) ∧ ([] ++ [Int.toNat a.snd.fst] = [] ++ [Int.toNat a.snd.fst] ∧ True) ∧ ((3 : Nat) = (3 : Nat) ∧ (↑((accL a.snd.fst (prpB (s.bs.getD a.snd.fst.toNat zB) a.snd.snd.fst).snd.snd.snd.snd.fst s.ms x).snd.toNat ||| ((1 : Int) * (2 : Int) ^ y.toNat).toNat) : Int) = (accL a.snd.fst (prpB (s.bs.getD a.snd.fst.toNat zB) a.snd.snd.fst).snd.snd.snd.snd.fst s.ms x_1).snd) ∧ True) ∧ True ∧ a = a ∧ tabD = tabD ∧ True)) ∧ ∀ (x : List Int), True → x = bitsOf a.snd.snd.snd.fst → ((0 : Int) ≤ ((s.bs.set a.snd.fst.toNat (prpB (s.bs.getD a.snd.fst.toNat zB) a.snd.snd.fst)).getD (Int.toNat a.snd.fst) ((0 : Int), (0 : Int), (0 : Int), (0 : Int), (0 : Int), false, ())).snd.fst ∧ (0 : Int) ≤ (accL a.snd.fst (prpB (s.bs.getD a.snd.fst.toNat zB) a.snd.snd.fst).snd.snd.snd.snd.fst s.ms x).snd ∧ True) ∧ k (SV.tp [SV.d (I) (accL a.snd.fst (prpB (s.bs.getD a.snd.fst.toNat zB) a.snd.snd.fst).snd.snd.snd.snd.fst s.ms x).snd, SV.d (Ty.err (54 : Nat)) (0 : Int)]) [Ob.st (63 : Nat) [SV.os (1 : Nat), SV.d (Ty.ar (31 : Nat) ((I).pr ((I).pr ((I).pr ((I).pr ((I).pr (Ty.bool.pr Ty.un))))))) ((s.bs.set a.snd.fst.toNat (prpB (s.bs.getD a.snd.fst.toNat zB) a.snd.snd.fst)).set (Int.toNat a.snd.fst) (((s.bs.set a.snd.fst.toNat (prpB (s.bs.getD a.snd.fst.toNat zB) a.snd.snd.fst)).getD (Int.toNat a.snd.fst) ((0 : Int), (0 : Int), (0 : Int), (0 : Int), (0 : Int), false, ())).fst, (↑(Int.toNat ((s.bs.set a.snd.fst.toNat (prpB (s.bs.getD a.snd.fst.toNat zB) a.snd.snd.fst)).getD (Int.toNat a.snd.fst) ((0 : Int), (0 : Int), (0 : Int), (0 : Int), (0 : Int), false, ())).snd.fst ||| (accL a.snd.fst (prpB (s.bs.getD a.snd.fst.toNat zB) a.snd.snd.fst).snd.snd.snd.snd.fst s.ms x).snd.toNat) : Int), ((s.bs.set a.snd.fst.toNat (prpB (s.bs.getD a.snd.fst.toNat zB) a.snd.snd.fst)).getD (Int.toNat a.snd.fst) ((0 : Int), (0 : Int), (0 : Int), (0 : Int), (0 : Int), false, ())).snd.snd))], Ob.row (58 : Nat) ((I).pr ((I).pr ((I).pr Ty.un))) (accL a.snd.fst (prpB (s.bs.getD a.snd.fst.toNat zB) a.snd.snd.fst).snd.snd.snd.snd.fst s.ms x).fst]))) := by kernel_rfl
theorem vcChosen (s : Sy) (k : SV → List Ob → Prop) : vcO ⟨Es, [(28, cMost)], glT, [], []⟩ (anChosen s) (Tryd.f11.body.getD .skip) Tryd.f11.ntmps [(.tmp 2, .sl I)] [.ps 0] s.ob k = (
  (∃ (x : Nat), (x ≤ (31 : Nat) ∧ True) ∧ (True ∧ True ∧ s.bs = s.bs ∧ (0 : Int) = (↑x : Int) ∧ True) ∧ ((True ∧ s.bs = s.bs ∧ True) ∧ ((58 : Nat) = (58 : Nat) ∧ s.ms = s.ms) ∧ ((3 : Nat) = (3 : Nat) ∧ [] = chosenF (Sy.mk s.ms (List.take x s.bs))) ∧ True) ∧ True ∧ tabD = tabD ∧ True) ∧ ∀ (x : Nat), x ≤ (31 : Nat) ∧ True → (decide ((↑x : Int) < (31 : Int)) = true → (0 : Int) ≤ (↑x : Int) ∧ (↑x : Int) < (↑(31 : Nat) : Int) ∧ ((∃ (s_1 : tMe.sl.D × ((Ty.ar (31 : Nat) tBa).pr Ty.un).D), some (s.ms, s.bs, ()) = some s_1 ∧ List.length s_1.fst ≤ (8 : Nat)) ∧ (0 : Int) ≤ (s.bs.getD (↑x : Int).toNat ((0 : Int), (0 : Int), (0 : Int), (0 : Int), (0 : Int), false, ())).snd.fst ∧ (s.bs.getD (↑x : Int).toNat ((0 : Int), (0 : Int), (0 : Int), (0 : Int), (0 : Int), false, ())).snd.fst < (256 : Int)) ∧ (mostB s.ms.length (s.bs.getD (↑x : Int).toNat ((0 : Int), (0 : Int), (0 : Int), (0 : Int), (0 : Int), false, ())).snd.fst = true → (chosenF (Sy.mk s.ms (List.take x s.bs))).length + ((List.replicate (1 : Nat) (0 : Int)).set (0 : Nat) (s.bs.getD (↑x : Int).toNat ((0 : Int), (0 : Int), (0 : Int), (0 : Int), (0 : Int), false, ())).snd.snd.snd.snd.fst).length ≤ (1000000000 : Nat) ∧ inK IntKind.i64 ((↑x : Int) + (1 : Int)) ∧ ∃ (x_1 : Nat), (x_1 ≤ (31 : Nat) ∧ True) ∧ (31 : Nat) - x_1 < (31 : Nat) - x ∧ (True ∧ True ∧ s.bs = s.bs ∧ (↑x : Int) + (1 : Int) = (↑x_1 : Int) ∧ True) ∧ ((True ∧ s.bs = s.bs ∧ True) ∧ ((58 : Nat) = (58 : Nat) ∧ s.ms = s.ms) ∧ ((3 : Nat) = (3 : Nat) ∧ (chosenF (Sy.mk s.ms (List.take x s.bs))).append ((List.replicate (1 : Nat) (0 : Int)).set (0 : Nat) (s.bs.getD (↑x : Int).toNat ((0 : Int), (0 : Int), (0 : Int), (0 : Int), (0 : Int), false, ())).snd.snd.snd.snd.fst) = chosenF (Sy.mk s.ms (List.take x_1 s.bs))) ∧ True) ∧ True ∧ tabD = tabD ∧ True) ∧ (mostB s.ms.length (s.bs.getD (↑x : Int).toNat ((0 : Int), (0 : Int), (0 : Int), (0 : Int), (0 : Int), false, ())).snd.fst = false → inK IntKind.i64 ((↑x : Int) + (1 : Int)) ∧ ∃ (x_1 : Nat), (x_1 ≤ (31 : Nat) ∧ True) ∧ (31 : Nat) - x_1 < (31 : Nat) - x ∧ (True ∧ True ∧ s.bs = s.bs ∧ (↑x : Int) + (1 : Int) = (↑x_1 : Int) ∧ True) ∧ ((True ∧ s.bs = s.bs ∧ True) ∧ ((58 : Nat) = (58 : Nat) ∧ s.ms = s.ms) ∧ ((3 : Nat) = (3 : Nat) ∧ chosenF (Sy.mk s.ms (List.take x s.bs)) = chosenF (Sy.mk s.ms (List.take x_1 s.bs))) ∧ True) ∧ True ∧ tabD = tabD ∧ True)) ∧ (decide ((↑x : Int) < (31 : Int)) = false → k (SV.d (I).sl (chosenF (Sy.mk s.ms (List.take x s.bs)))) [Ob.st (63 : Nat) [SV.os (1 : Nat), SV.d (Ty.ar (31 : Nat) ((I).pr ((I).pr ((I).pr ((I).pr ((I).pr (Ty.bool.pr Ty.un))))))) s.bs], Ob.row (58 : Nat) ((I).pr ((I).pr ((I).pr Ty.un))) s.ms])) := by kernel_rfl
end Go.Proofs.YtdpnakebhpecfaaDoor

/- Synods: choosing. -/
namespace Go.Proofs.YtdpnakebhpecfaaDoor
open Go.Vc
theorem getD_at {α : Type} {l : List α} {z : α} {i : Nat} (h : i < l.length) : l.getD i z = l[i] := by
  rw [List.getD_eq_getElem?_getD, List.getElem?_eq_getElem h]; rfl
theorem take_snoc {α : Type} {l : List α} (z : α) {i : Nat} (h : i < l.length) : l.take (i + 1) = l.take i ++ [l.getD i z] := by
  rw [getD_at h, List.take_succ_eq_append_getElem h]
theorem getD_mem {α : Type} {l : List α} {z : α} {i : Nat} (h : i < l.length) : l.getD i z ∈ l := by
  rw [getD_at h]; exact List.getElem_mem h
theorem chosen_len (s : Sy) : (chosenF s).length ≤ s.bs.length := by
  unfold chosenF; rw [List.length_map]; exact List.length_filter_le _ _
theorem chosen_snoc (ms : List Me) (l : List Ba) (b : Ba) : chosenF ⟨ms, l ++ [b]⟩ = chosenF ⟨ms, l⟩ ++ (if mostB ms.length b.2.1 = true then [b.2.2.2.2.1] else []) := by
  unfold chosenF
  simp only
  rw [List.filter_append, List.map_append]
  congr 1
  cases h : mostB ms.length b.2.1 <;> simp [h]
theorem set1 (y : Int) : (List.replicate 1 (0 : Int)).set 0 y = [y] := rfl
theorem chosen_vc (s : Sy) (k : SV → List Ob → Prop) (h : SyInv s) (hk : k (.d (.sl I) (chosenF s)) s.ob) :
    vcO ⟨Es, [(28, cMost)], glT, [], []⟩ (anChosen s) (Tryd.f11.body.getD .skip) Tryd.f11.ntmps [(.tmp 2, .sl I)] [.ps 0] s.ob k := by
  rw [vcChosen]
  have h31 := h.ok.b
  simp only [and_true, true_and, eq_self, Int.toNat_natCast, set1, List.append_eq]
  refine ⟨⟨0, by omega, rfl, rfl⟩, fun x hx => ⟨fun h1 => ?_, fun h1 => ?_⟩⟩
  · have h1 := of_decide_eq_true h1
    have hxl : x < s.bs.length := by omega
    have hb := h.pr _ (getD_mem (z := zB) hxl)
    have hl := chosen_len ⟨s.ms, s.bs.take x⟩
    have hl2 : (s.bs.take x).length ≤ 31 := by rw [List.length_take]; omega
    have sn := chosen_snoc s.ms (s.bs.take x) (s.bs.getD x zB)
    rw [← take_snoc zB hxl] at sn
    have hl' : (chosenF ⟨s.ms, s.bs.take x⟩).length ≤ 31 := Nat.le_trans hl hl2
    refine ⟨by omega, by omega, ⟨⟨_, rfl, h.ok.m8⟩, hb.2.2.1, hb.2.2.2⟩, fun h2 => ⟨by simp; omega, inK_i64.2 (by omega), x + 1, by omega, by omega, by omega, ?_⟩, fun h2 => ⟨inK_i64.2 (by omega), x + 1, by omega, by omega, by omega, ?_⟩⟩
    · rw [sn, if_pos h2]
    · rw [sn, if_neg (by rw [h2]; decide), List.append_nil]
  · have h1 := of_decide_eq_false h1
    have : x = s.bs.length := by omega
    rw [this, List.take_length]
    exact hk
theorem ownChosen : OwnOk Tryd.prog glT 11 oChosen := by
  refine own_of (CxOk.mk' Es_ok rfl mixed (gl := glT) (GOk.cons okMost Tryd.func28 (by kernel_rfl) (by kernel_rfl) GOk.nil) GoOk.nil noIt) Tryd.func11 (c := Tryd.f11.body.getD .skip) (rvs := [(.tmp 2, .sl I)]) (by kernel_rfl) (by kernel_rfl) (by kernel_rfl) ?_
  intro args ob k h w1 w2
  clear w1 w2
  unfold oChosen at h
  split at h
  · rename_i bs ms
    exact ⟨anChosen ⟨ms, bs⟩, chosen_vc ⟨ms, bs⟩ k h.1 h.2⟩
  · exact h.elim
end Go.Proofs.YtdpnakebhpecfaaDoor

/- Synods: asking. -/
namespace Go.Proofs.YtdpnakebhpecfaaDoor
open Go.Vc
theorem acc_snoc (k v : Int) (ms : List Me) (l : List Int) (y : Int) : accL k v ms (l ++ [y]) = acc1 k v (accL k v ms l) y := by
  unfold accL; rw [List.foldl_append]; rfl
theorem acc_inv (k v : Int) (ms : List Me) (l : List Int) : (accL k v ms l).1.length = ms.length ∧ 0 ≤ (accL k v ms l).2 := by
  unfold accL
  have : ∀ (l : List Int) (x : List Me × Int), 0 ≤ x.2 → (l.foldl (acc1 k v) x).1.length = x.1.length ∧ 0 ≤ (l.foldl (acc1 k v) x).2 := by
    intro l
    induction l with
    | nil => intro x hx; exact ⟨rfl, hx⟩
    | cons a r ih =>
      intro x hx
      rw [List.foldl_cons]
      have h1 : (acc1 k v x a).1.length = x.1.length ∧ 0 ≤ (acc1 k v x a).2 := by
        unfold acc1
        split
        · exact ⟨rfl, hx⟩
        · exact ⟨by simp, Int.natCast_nonneg _⟩
      obtain ⟨e1, e2⟩ := ih _ h1.2
      exact ⟨e1.trans h1.1, e2⟩
  exact this l _ (Int.le_refl _)
theorem okA_eq (m : Nat) (a : As) : (!inB a.1 0 1 || (!inB a.2.1 0 30 || (!inB a.2.2.1 0 1000000 || !maskB a.2.2.2.1 m))) = !okA m a := by
  unfold okA
  cases inB a.1 0 1 <;> cases inB a.2.1 0 30 <;> cases inB a.2.2.1 0 1000000 <;> rfl
theorem okA_of {m : Nat} {a : As} (h : okA m a = true) : (0 ≤ a.1 ∧ a.1 ≤ 1) ∧ (0 ≤ a.2.1 ∧ a.2.1 ≤ 30) ∧ (0 ≤ a.2.2.1 ∧ a.2.2.1 ≤ 1000000) ∧ 0 ≤ a.2.2.2.1 ∧ a.2.2.2.1 < 2 ^ m := by
  unfold okA inB maskB at h
  simpa using h
theorem prp_acc (b : Ba) (v : Int) : (prpB b v).2.1 = b.2.1 := by unfold prpB; split <;> rfl
theorem do_vc (s : Sy) (a : As) (k : SV → List Ob → Prop) (h : SyInv s) (hk : k (.tp [.d I (doF s a).1.1, .d tErr (doF s a).1.2]) (doF s a).2.ob) :
    vcO ⟨Es, [(24, cWithin), (26, cMask), (29, cBitsF), (28, cMost)], glT, [(38, cBits)], [(27, oPrep)]⟩ (anDo s a) (Tryd.f10.body.getD .skip) Tryd.f10.ntmps [(.tmp 4, I), (.tmp 5, tErr)] [.ps 0, .d tAs a] s.ob k := by
  rw [vcDo]
  have m8 := h.ok.m8
  by_cases hka : 0 ≤ a.2.1 ∧ a.2.1 < 31
  · have hq : a.2.1.toNat < s.bs.length := by have := h.ok.b; omega
    simp only [and_true, true_and, eq_self, exists_eq_left, exists_const, forall_const, true_implies, implies_true, gset _ _ _ _ hq, List.set_set, Int.one_mul]
    rw [okA_eq]
    have hb := h.pr _ (getD_mem (z := zB) hq)
    refine ⟨fun _ _ _ => ⟨by omega, by omega⟩, fun hf => ⟨by decide, ?_⟩, fun hf => ⟨hka.1, hka.2, hka.1, hka.2, fun h0 => ?_, fun h0 => ?_⟩⟩
    · have : doF s a = ((0, 1), s) := by unfold doF; rw [if_pos (by simpa using hf)]
      rw [this] at hk; exact hk
    · have hA : okA s.ms.length a = true := by simpa using hf
      have ha := okA_of hA
      have e : doF s a = (((prepF s a).1, 0), (prepF s a).2) := by unfold doF; rw [if_neg (by rw [hA]; decide), if_pos (of_decide_eq_true h0)]
      rw [e] at hk
      exact ⟨⟨h.ok, hka, ha.2.2.2, h.pr⟩, hk⟩
    · have hA : okA s.ms.length a = true := by simpa using hf
      have ha := okA_of hA
      have h0 := of_decide_eq_false h0
      refine ⟨⟨fun hp => ⟨⟨⟨_, rfl, m8⟩, hb.1, hb.2.1⟩, fun hm => ⟨by decide, ?_⟩, fun hm => ⟨fun hc => ⟨⟨fun hh => by rw [hh.2] at hm; cases hm⟩, ?_⟩, fun hc => ⟨⟨fun hh => by rw [hh.2] at hm; cases hm⟩, ?_⟩⟩⟩, fun hp => ⟨⟨fun hh => by rw [hh.1] at hp; cases hp⟩, ?_⟩⟩, fun hg => ⟨⟨rfl, rfl⟩, fun x y r e => ?_, fun x e => ?_⟩⟩
      · have e : doF s a = ((0, 7), s) := by unfold doF; rw [if_neg (by rw [hA]; decide), if_neg h0, if_pos ⟨by simpa using hp, by simpa using hm⟩]
        rw [e] at hk; exact hk
      · have : prpB (s.bs.getD a.2.1.toNat zB) a.2.2.1 = ((s.bs.getD a.2.1.toNat zB).1, (s.bs.getD a.2.1.toNat zB).2.1, (s.bs.getD a.2.1.toNat zB).2.2.1, (s.bs.getD a.2.1.toNat zB).2.2.2.1, (s.bs.getD a.2.1.toNat zB).2.2.2.1, true, ()) := by
          unfold prpB; rw [if_neg (by simpa using hp), if_pos (of_decide_eq_true hc)]
        rw [this]
      · have : prpB (s.bs.getD a.2.1.toNat zB) a.2.2.1 = ((s.bs.getD a.2.1.toNat zB).1, (s.bs.getD a.2.1.toNat zB).2.1, (s.bs.getD a.2.1.toNat zB).2.2.1, (s.bs.getD a.2.1.toNat zB).2.2.2.1, a.2.2.1, true, ()) := by
          unfold prpB; rw [if_neg (by simpa using hp), if_neg (of_decide_eq_false hc)]
        rw [this]
      · have : prpB (s.bs.getD a.2.1.toNat zB) a.2.2.1 = s.bs.getD a.2.1.toNat zB := by
          unfold prpB; rw [if_pos (by simpa using hp)]
        rw [this, set_self _ _ _ hq]
      · have hy := bit_pos ha.2.2.2.1 ha.2.2.2.2 (by omega) (y := y) (by rw [e]; simp)
        obtain ⟨il, i0⟩ := acc_inv a.2.1 (prpB (s.bs.getD a.2.1.toNat zB) a.2.2.1).2.2.2.2.1 s.ms x
        have h2 := two_pow_le (n := y.toNat) (by omega)
        have h3 := two_pow_pos y.toNat
        refine ⟨hy.1, by rw [il]; exact hy.2.1, fun hc => ?_, fun hc => ⟨⟨hy.1, by omega, rfl, inK_i64.2 (by omega), i0, by omega⟩, ?_⟩⟩
        · rw [acc_snoc]
          unfold acc1
          rw [if_pos (of_decide_eq_true hc)]
          exact ⟨rfl, rfl⟩
        · rw [acc_snoc]
          unfold acc1
          rw [if_neg (of_decide_eq_false hc)]
          exact ⟨rfl, by unfold withM; rw [Int.one_mul]⟩
      · subst e
        obtain ⟨il, i0⟩ := acc_inv a.2.1 (prpB (s.bs.getD a.2.1.toNat zB) a.2.2.1).2.2.2.2.1 s.ms (bitsOf a.2.2.2.1)
        have e : doF s a = (((accF s a).1, 0), (accF s a).2) := by unfold doF; rw [if_neg (by rw [hA]; decide), if_neg h0, if_neg hg.go]
        rw [e] at hk
        refine ⟨⟨by rw [prp_acc]; exact hb.2.2.1, i0⟩, hk⟩
  · simp only [and_true, true_and, eq_self, exists_eq_left, exists_const, forall_const, true_implies, implies_true]
    rw [okA_eq]
    refine ⟨fun _ _ _ => ⟨by omega, by omega⟩, fun hf => ⟨by decide, ?_⟩, fun hf => ?_⟩
    · have : doF s a = ((0, 1), s) := by unfold doF; rw [if_pos (by simpa using hf)]
      rw [this] at hk; exact hk
    · have := okA_of (m := s.ms.length) (a := a) (by simpa using hf)
      exact absurd ⟨this.2.1.1, by omega⟩ hka
theorem ownDo : OwnOk Tryd.prog glT 10 oDo := by
  refine own_of (CxOk.mk' Es_ok rfl mixed (gl := glT) (GOk.cons okWithin.lift Tryd.func24 (by kernel_rfl) (by kernel_rfl) (GOk.cons okMask.lift Tryd.func26 (by kernel_rfl) (by kernel_rfl) (GOk.cons okBits Tryd.func29 (by kernel_rfl) (by kernel_rfl) (GOk.cons okMost Tryd.func28 (by kernel_rfl) (by kernel_rfl) GOk.nil)))) (GoOk.cons ownPrep Tryd.func27 (by kernel_rfl) (by kernel_rfl) GoOk.nil) itB) Tryd.func10 (c := Tryd.f10.body.getD .skip) (rvs := [(.tmp 4, I), (.tmp 5, tErr)]) (by kernel_rfl) (by kernel_rfl) (by kernel_rfl) ?_
  intro args ob k h w1 w2
  clear w1 w2
  unfold oDo at h
  split at h
  · rename_i a bs ms
    exact ⟨anDo ⟨ms, bs⟩ a, do_vc ⟨ms, bs⟩ a k h.1 h.2⟩
  · exact h.elim
end Go.Proofs.YtdpnakebhpecfaaDoor

/- slices.Repeat of one member: its contract. -/
namespace Go.Proofs.YtdpnakebhpecfaaDoor
open Go.Vc Go.RowKit
theorem cells_me {w : World} {ro : Nat → Prop} {m : Me} {cs : List Value} (h : tMe.ok w ro m cs) : cs = mm m.1 m.2.1 m.2.2.1 := by
  obtain ⟨c1, c2, rfl, h1, c3, c4, rfl, h2, c5, c6, rfl, h3, h4⟩ := h
  rw [h1.1, h2.1, h3.1, h4]; rfl
theorem me_ok {w : World} {ro : Nat → Prop} {m : Me} {cs : List Value} (h : tMe.ok w ro m cs) (w' : World) (ro' : Nat → Prop) : tMe.ok w' ro' m (mm m.1 m.2.1 m.2.2.1) := by
  rw [← cells_me h]; exact ok_flat (by rfl) h
theorem rep_own {w : World} {M : Ms} {R0 : Nat → Prop} {A : Asg} {s0 : SV} {n : Int} {m : Me} {vals : Array Value} (hn : 1 ≤ n ∧ n ≤ 8)
    (I : Inv w M R0 A ⟨[s0, .d I n], [], []⟩ ⟨vals, []⟩ w) (h0 : (Ty.sl tMe).okV w (Ro R0 w.heap.size A [] w) [m] (vals.getD 0 undef)) :
    Calls Tryd.prog 25 vals w fun e w' => ∃ v s ob' A', e = .returned v ∧ (s = .os 0 ∧ ob' = [.row 58 tMe (List.replicate n.toNat m)]) ∧ Inv w M R0 A' ⟨[s], ob', []⟩ ⟨#[v], []⟩ w' := by
  have hA : A.n = 0 := I.num
  have hl : vals.size = 2 := I.len
  have h1 : Ty.okV w (Ro R0 w.heap.size A [] w) (.int .i64) n (vals.getD 1 undef) := I.tm 1 (.d Go.Proofs.YtdpnakebhpecfaaDoor.I n) rfl
  have h1' : vals.getD 1 undef = .int .i64 n := by
    have := h1.1; simpa using this
  obtain ⟨Ad, c, hc, hlc, hcm, hne⟩ := h0
  obtain ⟨ad, css, rfl, hsp, hro, hok, hcells⟩ := hne (by simp)
  have hv0 : vals.getD 0 undef = .slice (some ad) 1 c := by simpa using hc
  have hvals : vals = #[.slice (some ad) 1 c, .int .i64 n] := by
    apply Array.ext
    · rw [hl]; rfl
    · intro i hi1 hi2
      have e : vals[i] = vals.getD i undef := by rw [Array.getD_eq_getD_getElem?, Array.getElem?_eq_getElem hi1]; rfl
      rw [e]
      match i, hi2 with
      | 0, _ => exact hv0
      | 1, _ => exact h1'
  have hcl : css.length = 1 := hok.1
  obtain ⟨u, rfl⟩ : ∃ u, css = [u] := by
    match css, hcl with
    | [u], _ => exact ⟨u, rfl⟩
  have hu := (hok.2 0 m u rfl rfl).2
  have eu := cells_me hu
  subst eu
  have cell : ∀ j x, (mm m.1 m.2.1 m.2.2.1)[j]? = some x → w.cell? (ad.add j) = some x := fun j x h => hcells j x (by simpa using h)
  obtain ⟨N, rfl⟩ : ∃ N : Nat, n = (N : Int) := ⟨n.toNat, by omega⟩
  subst hvals
  refine (rep1 N ⟨by omega, by omega⟩ ad c m.1 m.2.1 m.2.2.1 w hro.1 (cell 0 _ rfl) (cell 1 _ rfl) (cell 2 _ rfl)).mono ?_
  rintro e w' ⟨rfl, d, rfl⟩
  have J := I.add (w' := ({ w with drawn := d } : World).alloc (.cells (rws m.1 m.2.1 m.2.2.1 N N).toArray 58)) none (fun _ => .slice (some ⟨w.heap.size, 0, none⟩) N N) (fun b => b = w.heap.size) (.row 58 tMe (List.replicate N m))
    ⟨rfl, rfl, rfl, by simp⟩ (fun b hb _ => Ext.alloc ({ w with drawn := d } : World) _ b hb) (fun b hb => .inl (by subst hb; simp)) (fun hr => ?_)
  · refine ⟨_, .os 0, [.row 58 tMe (List.replicate N m)], _, rfl, ⟨rfl, by rw [Int.toNat_natCast]⟩, ⟨J.fr, J.defers, J.mks, J.num, rfl, fun k sv hk => (by cases hk), fun j sv hj => ?_, J.ob, J.dj, J.fp⟩⟩
    match j, hj with
    | 0, hj =>
      injection hj with hj; subst hj
      refine ⟨by show 0 < A.n + 1; omega, ?_⟩
      have := Asg.push_η A (fun _ => .slice (some ⟨w.heap.size, 0, none⟩) N N) (fun b => b = w.heap.size)
      rw [hA] at this
      exact this.symm
    | j + 1, hj => simp at hj
  · refine ⟨List.replicate N (mm m.1 m.2.1 m.2.2.1), ⟨by simp, fun i x u hx hu' => ?_⟩, ?_, fun g hg => ?_⟩
    · rw [List.getElem?_replicate] at hx hu'
      split at hx
      · rename_i hlt
        rw [if_pos hlt] at hu'
        injection hx with hx; injection hu' with hu'; subst hx; subst hu'
        exact ⟨rfl, me_ok hu _ _⟩
      · cases hx
    · rw [Asg.push_η]
      refine ⟨?_, .inr ⟨w.heap.size, N, _, by simp, Nat.zero_le _, heap_alloc_new ({ w with drawn := d } : World) _, by simp, by simp only [maxLen]; omega, ?_, ?_⟩⟩
      · show (rp m.1 m.2.1 m.2.2.1 N).length = _
        rw [rp_len, List.length_replicate]; rfl
      · show (rws m.1 m.2.1 m.2.2.1 N N).toArray.size = N * 3
        rw [List.size_toArray, rws_len _ _ _ (Nat.le_refl N)]
      · show ((rws m.1 m.2.1 m.2.2.1 N N).toArray.toList).take _ = rp m.1 m.2.1 m.2.2.1 N
        rw [List.length_replicate]
        show (rws m.1 m.2.1 m.2.2.1 N N).take (N * 3) = _
        unfold rws
        rw [← rp_len m.1 m.2.1 m.2.2.1 N, List.take_left]
    · rw [Asg.push_η] at hg
      simp only [Value.ownBlock, Option.some.injEq] at hg
      exact (Asg.push_F ..).2 hg.symm
def oRepeat : OCtr := fun args ob k =>
  match args, ob with
  | [.d (.sl tMe) [m], .d I n], [] => (1 ≤ n ∧ n ≤ 8) ∧ k (.os 0) [.row 58 tMe (List.replicate n.toNat m)]
  | [.fs tMe [m], .d I n], [] => (1 ≤ n ∧ n ≤ 8) ∧ k (.os 0) [.row 58 tMe (List.replicate n.toNat m)]
  | _, _ => False
theorem ownRepeat : OwnOk Tryd.prog glT 25 oRepeat := by
  intro args ob k hs w M R0 A vals hB hrd I
  unfold oRepeat at hs
  split at hs
  · rename_i m n
    have h0 := I.tm 0 _ rfl
    refine (rep_own (m := m) hs.1 I h0).mono ?_
    rintro e w' ⟨v, s, ob', A', rfl, ⟨rfl, rfl⟩, hI⟩
    exact ⟨v, _, _, A', rfl, hs.2, hI, fun i hi => absurd hi (by simp [keptN, hds, SV.hd, addN])⟩
  · rename_i m n
    have h0 := I.tm 0 _ rfl
    refine (rep_own (m := m) hs.1 I h0.1).mono ?_
    rintro e w' ⟨v, s, ob', A', rfl, ⟨rfl, rfl⟩, hI⟩
    exact ⟨v, _, _, A', rfl, hs.2, hI, fun i hi => absurd hi (by simp [keptN, hds, SV.hd, addN])⟩
  · exact hs.elim
end Go.Proofs.YtdpnakebhpecfaaDoor

/- Synods: a new one. -/
namespace Go.Proofs.YtdpnakebhpecfaaDoor
open Go.Vc
abbrev nB : Ba := (0, 0, -1, 0, 0, false, ())
abbrev nM : Me := (-1, -1, 0, ())
/-- a new synod -/
def initS (n : Int) : Sy := ⟨List.replicate n.toNat nM, List.replicate 31 nB⟩
def oNew : OCtr := fun args ob k =>
  match args, ob with
  | [.d I n], [] => (inB n 1 8 = true → k (.tp [.ps 0, .d tErr (0 : Int)]) (initS n).ob) ∧ (inB n 1 8 = false → k (.tp [.nilp, .d tErr (1 : Int)]) [])
  | _, _ => False
def iB (i : Nat) : List Ba := List.replicate i nB ++ List.replicate (31 - i) zB
def putB (bs : List Ba) : Ob → Ob
  | .st 63 [a, .d (.ar 31 tBa) _] => .st 63 [a, .d (.ar 31 tBa) bs]
  | o => o
def anNew : Ann :=
  [joinAll, loopAt 5 Nat [] (fun st i => { St.at (St.only st [4]) [(16, .d I (i : Int))] with ob := st.ob.map (putB (iB i)) }) (fun _ i => i ≤ 31 ∧ True) (fun i => 31 - i)]
end Go.Proofs.YtdpnakebhpecfaaDoor

/- What the functions of this seat have to satisfy, by program: each verification condition in plain words. -/
namespace Go.Proofs.YtdpnakebhpecfaaDoor
open Go.Vc
set_option linter.unusedVariables false
theorem vcNew (n : Int) (k : SV → List Ob → Prop) : vcO ⟨Es, [(24, cWithin)], glT, [], [(25, oRepeat)]⟩ anNew (Tryd.f9.body.getD .skip) Tryd.f9.ntmps [(.tmp 2, .un), (.tmp 3, tErr)] [.d I n] [] k = (
  True ∧ ((!inB n (1 : Int) (8 : Int)) = true → (1 : Int) ≠ (0 : Int) ∧ k (SV.tp [SV.nilp, SV.d (Ty.err (54 : Nat)) (1 : Int)]) []) ∧ ((!inB n (1 : Int) (8 : Int)) = false → ((1 : I.D) ≤ n ∧ n ≤ (8 : I.D)) ∧ (∃ (x : Nat), (x ≤ (31 : Nat) ∧ True) ∧ (True ∧ (0 : Int) = (↑x : Int) ∧ True) ∧ (((58 : Nat) = (58 : Nat) ∧ List.replicate n.toNat ((-1 : Int), (-1 : Int), (0 : Int), ()) = List.replicate n.toNat ((-1 : Int), (-1 : Int), (0 : Int), ())) ∧ (True ∧ List.replicate (31 : Nat) ((0 : Int), (0 : Int), (0 : Int), (0 : Int), (0 : Int), false, ()) = iB x ∧ True) ∧ True) ∧ n = n ∧ tabD = tabD ∧ True) ∧ ∀ (x : Nat), x ≤ (31 : Nat) ∧ True → (decide ((↑x : Int) < (31 : Int)) = true → (0 : Int) ≤ (↑x : Int) ∧ (↑x : Int) < (↑(31 : Nat) : Int) ∧ inK IntKind.i64 ((↑x : Int) + (1 : Int)) ∧ ∃ (x_1 : Nat), (x_1 ≤ (31 : Nat) ∧ True) ∧ (31 : Nat) - x_1 < (31 : Nat) - x ∧ (True ∧ (↑x : Int) + (1 : Int) = (↑x_1 : Int) ∧ True) ∧ (((58 : Nat) = (58 : Nat) ∧ List.replicate n.toNat ((-1 : Int), (-1 : Int), (0 : Int), ()) = List.replicate n.toNat ((-1 : Int), (-1 : Int), (0 : Int), ())) ∧ (True ∧ (iB x).set (↑x : Int).toNat (((iB x).getD (↑x : Int).toNat ((0 : Int), (0 : Int), (0 : Int), (0 : Int), (0 : Int), false, ())).fst, ((iB x).getD (↑x : Int).toNat ((0 : Int), (0 : Int), (0 : Int), (0 : Int), (0 : Int), false, ())).snd.fst, (-1 : Int), ((iB x).getD (↑x : Int).toNat ((0 : Int), (0 : Int), (0 : Int), (0 : Int), (0 : Int), false, ())).snd.snd.snd) = iB x_1 ∧ True) ∧ True) ∧ n = n ∧ tabD = tabD ∧ True) ∧ (decide ((↑x : Int) < (31 : Int)) = false → k (SV.tp [SV.ps (0 : Nat), SV.d (Ty.err (54 : Nat)) (0 : Int)]) [Ob.st (63 : Nat) [SV.os (1 : Nat), SV.d (Ty.ar (31 : Nat) ((I).pr ((I).pr ((I).pr ((I).pr ((I).pr (Ty.bool.pr Ty.un))))))) (iB x)], Ob.row (58 : Nat) ((I).pr ((I).pr ((I).pr Ty.un))) (List.replicate n.toNat ((-1 : Int), (-1 : Int), (0 : Int), ()))]))) := by kernel_rfl
end Go.Proofs.YtdpnakebhpecfaaDoor

/- Synods: a new one is made. -/
namespace Go.Proofs.YtdpnakebhpecfaaDoor
open Go.Vc
theorem iB_len (i : Nat) (h : i ≤ 31) : (iB i).length = 31 := by
  unfold iB; rw [List.length_append, List.length_replicate, List.length_replicate]; omega
theorem iB_set (i : Nat) (h : i < 31) : (iB i).set i nB = iB (i + 1) := by
  unfold iB
  rw [List.set_append_right _ _ (by rw [List.length_replicate]; exact Nat.le_refl _), List.length_replicate, Nat.sub_self, show 31 - i = (31 - (i + 1)) + 1 by omega, List.replicate_succ, List.set_cons_zero, List.replicate_succ', List.append_assoc]
  rfl
theorem iB_at (i : Nat) (h : i < 31) : (iB i).getD i zB = zB := by
  unfold iB
  rw [List.getD_eq_getElem?_getD, List.getElem?_append_right (by rw [List.length_replicate]; exact Nat.le_refl _), List.length_replicate, Nat.sub_self, show 31 - i = (31 - (i + 1)) + 1 by omega, List.replicate_succ]
  rfl
theorem new_vc (n : Int) (k : SV → List Ob → Prop) (h1 : inB n 1 8 = true → k (.tp [.ps 0, .d tErr (0 : Int)]) (initS n).ob) (h2 : inB n 1 8 = false → k (.tp [.nilp, .d tErr (1 : Int)]) []) :
    vcO ⟨Es, [(24, cWithin)], glT, [], [(25, oRepeat)]⟩ anNew (Tryd.f9.body.getD .skip) Tryd.f9.ntmps [(.tmp 2, .un), (.tmp 3, tErr)] [.d I n] [] k := by
  rw [vcNew]
  simp only [and_true, true_and, eq_self]
  refine ⟨fun h => ⟨by decide, h2 (by simpa using h)⟩, fun h => ?_⟩
  have hb : inB n 1 8 = true := by simpa using h
  have hr : 1 ≤ n ∧ n ≤ 8 := by unfold inB at hb; simpa using hb
  refine ⟨hr, ⟨0, by omega, rfl, rfl⟩, fun x hx => ⟨fun hlt => ?_, fun hlt => ?_⟩⟩
  · have hlt := of_decide_eq_true hlt
    refine ⟨by omega, by omega, inK_i64.2 (by omega), x + 1, by omega, by omega, by omega, ?_⟩
    rw [Int.toNat_natCast, iB_at x (by omega)]
    exact iB_set x (by omega)
  · have hlt := of_decide_eq_false hlt
    have : x = 31 := by omega
    subst this
    exact h1 hb
theorem ownNew : OwnOk Tryd.prog glT 9 oNew := by
  refine own_of (CxOk.mk' Es_ok rfl mixed (gl := glT) (GOk.cons okWithin.lift Tryd.func24 (by kernel_rfl) (by kernel_rfl) GOk.nil) (GoOk.cons ownRepeat Tryd.func25 (by kernel_rfl) (by kernel_rfl) GoOk.nil) noIt) Tryd.func9 (c := Tryd.f9.body.getD .skip) (rvs := [(.tmp 2, .un), (.tmp 3, tErr)]) (by kernel_rfl) (by kernel_rfl) (by kernel_rfl) ?_
  intro args ob k h w1 w2
  clear w1 w2
  unfold oNew at h
  split at h
  · rename_i n
    exact ⟨anNew, new_vc n k h.1 h.2⟩
  · exact h.elim
end Go.Proofs.YtdpnakebhpecfaaDoor

/- Synods: the laws' helpers. -/
namespace Go.Proofs.YtdpnakebhpecfaaDoor
open Go.Vc
def an1 (α : Type) (r : Nat) (st : St → α → St) (ok : α → Prop) (mu : α → Nat) : Ann := [loopAt r α [] st (fun _ => ok) mu]
def cInts : Ctr := cdet [.sl I, .sl I] (fun _ _ => True) (fun (a b : List Int) => [⟨.bool, a == b⟩])
def anInts (a b : List Int) : Ann := an1 Nat 4 (fun st i => St.at st [(5, .d I (i : Int))]) (fun i => i ≤ a.length ∧ a.take i = b.take i) (fun i => a.length - i)
def cPow2 : Ctr := cdet [I] (fun (n : Int) => n ≤ 61 ∧ True) (fun (n : Int) => [⟨I, (2 : Int) ^ n.toNat⟩])
def anPow2 (n : Int) : Ann := an1 Nat 3 (fun st i => St.at st [(3, .d I ((2 : Int) ^ i)), (4, .d I (i : Int))]) (fun i => i ≤ n.toNat ∧ True) (fun i => n.toNat - i)
/-- what is chosen, of a synod that is only looked at -/
def cChosen : Ctr := cdet [.ptr tSy] (fun (p : Option tSy.D) => ∃ s : Sy, p = some s.dat ∧ SyInv s) (fun (p : Option tSy.D) => [⟨.sl I, chosenF ⟨(p.getD ([], [], ())).1, (p.getD ([], [], ())).2.1⟩⟩])
def anChosenP (s : Sy) : Ann :=
  [joinAll, loopAt 3 Nat [(3, 3, I)] (fun st i => { St.at (St.only st [0, 3, 9]) [(10, .d I (i : Int))] with ob := st.ob.set 0 (.row 3 I (chosenF ⟨s.ms, s.bs.take i⟩)) }) (fun _ i => i ≤ 31 ∧ True) (fun i => 31 - i)]
def cFact : Ctr := cdet [] True [⟨.bool, true⟩]
end Go.Proofs.YtdpnakebhpecfaaDoor

/- What the functions of this seat have to satisfy, by program: each verification condition in plain words. -/
namespace Go.Proofs.YtdpnakebhpecfaaDoor
open Go.Vc
set_option linter.unusedVariables false
theorem vcInts (a b : List Int) (k : List Dat → Prop) : vcF ⟨Es, [], glT, [], []⟩ (anInts a b) (Tryd.f18.body.getD .skip) Tryd.f18.ntmps [(.tmp 4, .bool)] [⟨.sl I, a⟩, ⟨.sl I, b⟩] k = (
  ((!decide ((↑a.length : Int) = (↑b.length : Int))) = true → k [Dat.mk Ty.bool false]) ∧ ((!decide ((↑a.length : Int) = (↑b.length : Int))) = false → (∃ (x : Nat), (x ≤ a.length ∧ List.take x a = List.take x b) ∧ (a = a ∧ b = b ∧ false = false ∧ (0 : Int) = (↑x : Int) ∧ a = a ∧ (↑a.length : Int) = (↑a.length : Int) ∧ b = b ∧ (↑b.length : Int) = (↑b.length : Int) ∧ (!decide ((↑a.length : Int) = (↑b.length : Int))) = !decide ((↑a.length : Int) = (↑b.length : Int)) ∧ True) ∧ True ∧ tabD = tabD ∧ True) ∧ ∀ (x : Nat), x ≤ a.length ∧ List.take x a = List.take x b → (decide ((↑x : Int) < (↑a.length : Int)) = true → (0 : Int) ≤ (↑x : Int) ∧ (↑x : Int) < (↑a.length : Int) ∧ (0 : Int) ≤ (↑x : Int) ∧ (↑x : Int) < (↑b.length : Int) ∧ ((!decide (a.getD (↑x : Int).toNat (0 : Int) = b.getD (↑x : Int).toNat (0 : Int))) = true → k [Dat.mk Ty.bool false]) ∧ ((!decide (a.getD (↑x : Int).toNat (0 : Int) = b.getD (↑x : Int).toNat (0 : Int))) = false → inK IntKind.i64 ((↑x : Int) + (1 : Int)) ∧ ∃ (x_1 : Nat), (x_1 ≤ a.length ∧ List.take x_1 a = List.take x_1 b) ∧ a.length - x_1 < a.length - x ∧ (a = a ∧ b = b ∧ false = false ∧ (↑x : Int) + (1 : Int) = (↑x_1 : Int) ∧ a = a ∧ (↑a.length : Int) = (↑a.length : Int) ∧ b = b ∧ (↑b.length : Int) = (↑b.length : Int) ∧ (!decide ((↑a.length : Int) = (↑b.length : Int))) = !decide ((↑a.length : Int) = (↑b.length : Int)) ∧ True) ∧ True ∧ tabD = tabD ∧ True)) ∧ (decide ((↑x : Int) < (↑a.length : Int)) = false → k [Dat.mk Ty.bool true]))) := by kernel_rfl
theorem vcPow2 (n : Int) (k : List Dat → Prop) : vcF ⟨Es, [], glT, [], []⟩ (anPow2 n) (Tryd.f12.body.getD .skip) Tryd.f12.ntmps [(.tmp 2, I)] [⟨I, n⟩] k = (
  (∃ (x : Nat), (x ≤ n.toNat ∧ True) ∧ (n = n ∧ (0 : Int) = (0 : Int) ∧ (1 : Int) = (2 : Int) ^ x ∧ (0 : Int) = (↑x : Int) ∧ True) ∧ True ∧ tabD = tabD ∧ True) ∧ ∀ (x : Nat), x ≤ n.toNat ∧ True → (decide ((↑x : Int) < n) = true → inK IntKind.i64 ((2 : Int) ^ x * (2 : Int)) ∧ inK IntKind.i64 ((↑x : Int) + (1 : Int)) ∧ ∃ (x_1 : Nat), (x_1 ≤ n.toNat ∧ True) ∧ n.toNat - x_1 < n.toNat - x ∧ (n = n ∧ (0 : Int) = (0 : Int) ∧ (2 : Int) ^ x * (2 : Int) = (2 : Int) ^ x_1 ∧ (↑x : Int) + (1 : Int) = (↑x_1 : Int) ∧ True) ∧ True ∧ tabD = tabD ∧ True) ∧ (decide ((↑x : Int) < n) = false → k [Dat.mk (I) ((2 : Int) ^ x)])) := by kernel_rfl
theorem vcChosenP (s : Sy) (k : List Dat → Prop) : vcF ⟨Es, [(28, cMost)], glT, [], []⟩ (anChosenP s) (Tryd.f11.body.getD .skip) Tryd.f11.ntmps [(.tmp 2, .sl I)] [⟨.ptr tSy, some s.dat⟩] k = (
  (∃ (x : Nat), (x ≤ (31 : Nat) ∧ True) ∧ (some s.dat = some s.dat ∧ True ∧ s.bs = s.bs ∧ (0 : Int) = (↑x : Int) ∧ True) ∧ (((3 : Nat) = (3 : Nat) ∧ [] = chosenF (Sy.mk s.ms (List.take x s.bs))) ∧ True) ∧ tabD = tabD ∧ True) ∧ ∀ (x : Nat), x ≤ (31 : Nat) ∧ True → (decide ((↑x : Int) < (31 : Int)) = true → (0 : Int) ≤ (↑x : Int) ∧ (↑x : Int) < (↑(31 : Nat) : Int) ∧ ((∃ (s_1 : tMe.sl.D × ((Ty.ar (31 : Nat) tBa).pr Ty.un).D), some s.dat = some s_1 ∧ List.length s_1.fst ≤ (8 : Nat)) ∧ (0 : Int) ≤ (s.bs.getD (↑x : Int).toNat ((0 : Int), (0 : Int), (0 : Int), (0 : Int), (0 : Int), false, ())).snd.fst ∧ (s.bs.getD (↑x : Int).toNat ((0 : Int), (0 : Int), (0 : Int), (0 : Int), (0 : Int), false, ())).snd.fst < (256 : Int)) ∧ (mostB s.ms.length (s.bs.getD (↑x : Int).toNat ((0 : Int), (0 : Int), (0 : Int), (0 : Int), (0 : Int), false, ())).snd.fst = true → (chosenF (Sy.mk s.ms (List.take x s.bs))).length + ((List.replicate (1 : Nat) (0 : Int)).set (0 : Nat) (s.bs.getD (↑x : Int).toNat ((0 : Int), (0 : Int), (0 : Int), (0 : Int), (0 : Int), false, ())).snd.snd.snd.snd.fst).length ≤ (1000000000 : Nat) ∧ inK IntKind.i64 ((↑x : Int) + (1 : Int)) ∧ ∃ (x_1 : Nat), (x_1 ≤ (31 : Nat) ∧ True) ∧ (31 : Nat) - x_1 < (31 : Nat) - x ∧ (some s.dat = some s.dat ∧ True ∧ s.bs = s.bs ∧ (↑x : Int) + (1 : Int) = (↑x_1 : Int) ∧ True) ∧ (((3 : Nat) = (3 : Nat) ∧ (chosenF (Sy.mk s.ms (List.take x s.bs))).append ((List.replicate (1 : Nat) (0 : Int)).set (0 : Nat) (s.bs.getD (↑x : Int).toNat ((0 : Int), (0 : Int), (0 : Int), (0 : Int), (0 : Int), false, ())).snd.snd.snd.snd.fst) = chosenF (Sy.mk s.ms (List.take x_1 s.bs))) ∧ True) ∧ tabD = tabD ∧ True) ∧ (mostB s.ms.length (s.bs.getD (↑x : Int).toNat ((0 : Int), (0 : Int), (0 : Int), (0 : Int), (0 : Int), false, ())).snd.fst = false → inK IntKind.i64 ((↑x : Int) + (1 : Int)) ∧ ∃ (x_1 : Nat), (x_1 ≤ (31 : Nat) ∧ True) ∧ (31 : Nat) - x_1 < (31 : Nat) - x ∧ (some s.dat = some s.dat ∧ True ∧ s.bs = s.bs ∧ (↑x : Int) + (1 : Int) = (↑x_1 : Int) ∧ True) ∧ (((3 : Nat) = (3 : Nat) ∧ chosenF (Sy.mk s.ms (List.take x s.bs)) = chosenF (Sy.mk s.ms (List.take x_1 s.bs))) ∧ True) ∧ tabD = tabD ∧ True)) ∧ (decide ((↑x : Int) < (31 : Int)) = false → k [Dat.mk (I).sl (chosenF (Sy.mk s.ms (List.take x s.bs)))])) := by kernel_rfl
theorem vcFact (k : List Dat → Prop) : vcF ⟨Es, [(18, cInts)], glT, [], [(9, oNew), (10, oDo), (11, oChosen)]⟩ [joinAll] (Tryd.f8.body.getD .skip) Tryd.f8.ntmps [(.tmp 0, .bool)] [] k = (
  (inB (3 : Int) (1 : Int) (8 : Int) = true → ((!decide ((0 : Int) = (0 : Int))) = true → k [Dat.mk Ty.bool false]) ∧ ((!decide ((0 : Int) = (0 : Int))) = false → SyInv (Sy.mk (List.replicate (Int.toNat (3 : Int)) nM) (List.replicate (31 : Nat) nB)) ∧ SyInv (Sy.mk (((List.replicate (Int.toNat (3 : Int)) nM).set (↑(0 : Nat) : Int).toNat ((1 : Int), (-1 : Int), (0 : Int), ())).set (↑((0 : Nat) + (1 : Nat)) : Int).toNat ((1 : Int), (-1 : Int), (0 : Int), ())) ((List.replicate (31 : Nat) nB).set (Int.toNat (1 : Int)) (orI (0 : Int) (withM (withM (0 : Int) (↑(0 : Nat) : Int)) (↑((0 : Nat) + (1 : Nat)) : Int)), (0 : Int), (-1 : Int), (0 : Int), (0 : Int), false, ()))) ∧ SyInv (Sy.mk (((((List.replicate (Int.toNat (3 : Int)) nM).set (↑(0 : Nat) : Int).toNat ((1 : Int), (-1 : Int), (0 : Int), ())).set (↑((0 : Nat) + (1 : Nat)) : Int).toNat ((1 : Int), (-1 : Int), (0 : Int), ())).set (↑(0 : Nat) : Int).toNat ((1 : Int), (1 : Int), if (0 : Int) ≤ (-1 : Int) then (0 : Int) else (5 : Int), ())).set (↑((0 : Nat) + (1 : Nat)) : Int).toNat ((1 : Int), (1 : Int), if (0 : Int) ≤ (-1 : Int) then (0 : Int) else (5 : Int), ())) (((List.replicate (31 : Nat) nB).set (Int.toNat (1 : Int)) (orI (0 : Int) (withM (withM (0 : Int) (↑(0 : Nat) : Int)) (↑((0 : Nat) + (1 : Nat)) : Int)), (0 : Int), (-1 : Int), (0 : Int), (0 : Int), false, ())).set (Int.toNat (1 : Int)) (orI (0 : Int) (withM (withM (0 : Int) (↑(0 : Nat) : Int)) (↑((0 : Nat) + (1 : Nat)) : Int)), orI (0 : Int) (withM (withM (0 : Int) (↑(0 : Nat) : Int)) (↑((0 : Nat) + (1 : Nat)) : Int)), (-1 : Int), (0 : Int), if (0 : Int) ≤ (-1 : Int) then (0 : Int) else (5 : Int), true, ()))) ∧ SyInv (Sy.mk (((((((List.replicate (Int.toNat (3 : Int)) nM).set (↑(0 : Nat) : Int).toNat ((1 : Int), (-1 : Int), (0 : Int), ())).set (↑((0 : Nat) + (1 : Nat)) : Int).toNat ((1 : Int), (-1 : Int), (0 : Int), ())).set (↑(0 : Nat) : Int).toNat ((1 : Int), (1 : Int), if (0 : Int) ≤ (-1 : Int) then (0 : Int) else (5 : Int), ())).set (↑((0 : Nat) + (1 : Nat)) : Int).toNat ((1 : Int), (1 : Int), if (0 : Int) ≤ (-1 : Int) then (0 : Int) else (5 : Int), ())).set (↑((0 : Nat) + (1 : Nat)) : Int).toNat ((2 : Int), (1 : Int), if (0 : Int) ≤ (-1 : Int) then (0 : Int) else (5 : Int), ())).set (↑((0 : Nat) + (1 : Nat) + (1 : Nat)) : Int).toNat ((2 : Int), (-1 : Int), (0 : Int), ())) ((((List.replicate (31 : Nat) nB).set (Int.toNat (1 : Int)) (orI (0 : Int) (withM (withM (0 : Int) (↑(0 : Nat) : Int)) (↑((0 : Nat) + (1 : Nat)) : Int)), (0 : Int), (-1 : Int), (0 : Int), (0 : Int), false, ())).set (Int.toNat (1 : Int)) (orI (0 : Int) (withM (withM (0 : Int) (↑(0 : Nat) : Int)) (↑((0 : Nat) + (1 : Nat)) : Int)), orI (0 : Int) (withM (withM (0 : Int) (↑(0 : Nat) : Int)) (↑((0 : Nat) + (1 : Nat)) : Int)), (-1 : Int), (0 : Int), if (0 : Int) ≤ (-1 : Int) then (0 : Int) else (5 : Int), true, ())).set (Int.toNat (2 : Int)) (orI (0 : Int) (withM (withM (0 : Int) (↑((0 : Nat) + (1 : Nat)) : Int)) (↑((0 : Nat) + (1 : Nat) + (1 : Nat)) : Int)), (0 : Int), (1 : Int), if (0 : Int) ≤ (-1 : Int) then (0 : Int) else (5 : Int), (0 : Int), false, ()))) ∧ (decide ((0 : Int) = (0 : Int)) = true → (decide ((0 : Int) = (0 : Int)) = true → (decide ((0 : Int) = (0 : Int)) = true → (decide ((0 : Int) = (0 : Int)) = true → (decide (withM (withM (0 : Int) (↑(0 : Nat) : Int)) (↑((0 : Nat) + (1 : Nat)) : Int) = (3 : Int)) = true → (decide (withM (withM (0 : Int) (↑(0 : Nat) : Int)) (↑((0 : Nat) + (1 : Nat)) : Int) = (3 : Int)) = true → SyInv (Sy.mk (((((((((List.replicate (Int.toNat (3 : Int)) nM).set (↑(0 : Nat) : Int).toNat ((1 : Int), (-1 : Int), (0 : Int), ())).set (↑((0 : Nat) + (1 : Nat)) : Int).toNat ((1 : Int), (-1 : Int), (0 : Int), ())).set (↑(0 : Nat) : Int).toNat ((1 : Int), (1 : Int), if (0 : Int) ≤ (-1 : Int) then (0 : Int) else (5 : Int), ())).set (↑((0 : Nat) + (1 : Nat)) : Int).toNat ((1 : Int), (1 : Int), if (0 : Int) ≤ (-1 : Int) then (0 : Int) else (5 : Int), ())).set (↑((0 : Nat) + (1 : Nat)) : Int).toNat ((2 : Int), (1 : Int), if (0 : Int) ≤ (-1 : Int) then (0 : Int) else (5 : Int), ())).set (↑((0 : Nat) + (1 : Nat) + (1 : Nat)) : Int).toNat ((2 : Int), (-1 : Int), (0 : Int), ())).set (↑((0 : Nat) + (1 : Nat)) : Int).toNat ((2 : Int), (2 : Int), if (0 : Int) ≤ (1 : Int) then if (0 : Int) ≤ (-1 : Int) then (0 : Int) else (5 : Int) else (9 : Int), ())).set (↑((0 : Nat) + (1 : Nat) + (1 : Nat)) : Int).toNat ((2 : Int), (2 : Int), if (0 : Int) ≤ (1 : Int) then if (0 : Int) ≤ (-1 : Int) then (0 : Int) else (5 : Int) else (9 : Int), ())) (((((List.replicate (31 : Nat) nB).set (Int.toNat (1 : Int)) (orI (0 : Int) (withM (withM (0 : Int) (↑(0 : Nat) : Int)) (↑((0 : Nat) + (1 : Nat)) : Int)), (0 : Int), (-1 : Int), (0 : Int), (0 : Int), false, ())).set (Int.toNat (1 : Int)) (orI (0 : Int) (withM (withM (0 : Int) (↑(0 : Nat) : Int)) (↑((0 : Nat) + (1 : Nat)) : Int)), orI (0 : Int) (withM (withM (0 : Int) (↑(0 : Nat) : Int)) (↑((0 : Nat) + (1 : Nat)) : Int)), (-1 : Int), (0 : Int), if (0 : Int) ≤ (-1 : Int) then (0 : Int) else (5 : Int), true, ())).set (Int.toNat (2 : Int)) (orI (0 : Int) (withM (withM (0 : Int) (↑((0 : Nat) + (1 : Nat)) : Int)) (↑((0 : Nat) + (1 : Nat) + (1 : Nat)) : Int)), (0 : Int), (1 : Int), if (0 : Int) ≤ (-1 : Int) then (0 : Int) else (5 : Int), (0 : Int), false, ())).set (Int.toNat (2 : Int)) (orI (0 : Int) (withM (withM (0 : Int) (↑((0 : Nat) + (1 : Nat)) : Int)) (↑((0 : Nat) + (1 : Nat) + (1 : Nat)) : Int)), orI (0 : Int) (withM (withM (0 : Int) (↑((0 : Nat) + (1 : Nat)) : Int)) (↑((0 : Nat) + (1 : Nat) + (1 : Nat)) : Int)), (1 : Int), if (0 : Int) ≤ (-1 : Int) then (0 : Int) else (5 : Int), if (0 : Int) ≤ (1 : Int) then if (0 : Int) ≤ (-1 : Int) then (0 : Int) else (5 : Int) else (9 : Int), true, ()))) ∧ True ∧ k [Dat.mk Ty.bool (chosenF (Sy.mk (((((((((List.replicate (Int.toNat (3 : Int)) nM).set (↑(0 : Nat) : Int).toNat ((1 : Int), (-1 : Int), (0 : Int), ())).set (↑((0 : Nat) + (1 : Nat)) : Int).toNat ((1 : Int), (-1 : Int), (0 : Int), ())).set (↑(0 : Nat) : Int).toNat ((1 : Int), (1 : Int), if (0 : Int) ≤ (-1 : Int) then (0 : Int) else (5 : Int), ())).set (↑((0 : Nat) + (1 : Nat)) : Int).toNat ((1 : Int), (1 : Int), if (0 : Int) ≤ (-1 : Int) then (0 : Int) else (5 : Int), ())).set (↑((0 : Nat) + (1 : Nat)) : Int).toNat ((2 : Int), (1 : Int), if (0 : Int) ≤ (-1 : Int) then (0 : Int) else (5 : Int), ())).set (↑((0 : Nat) + (1 : Nat) + (1 : Nat)) : Int).toNat ((2 : Int), (-1 : Int), (0 : Int), ())).set (↑((0 : Nat) + (1 : Nat)) : Int).toNat ((2 : Int), (2 : Int), if (0 : Int) ≤ (1 : Int) then if (0 : Int) ≤ (-1 : Int) then (0 : Int) else (5 : Int) else (9 : Int), ())).set (↑((0 : Nat) + (1 : Nat) + (1 : Nat)) : Int).toNat ((2 : Int), (2 : Int), if (0 : Int) ≤ (1 : Int) then if (0 : Int) ≤ (-1 : Int) then (0 : Int) else (5 : Int) else (9 : Int), ())) (((((List.replicate (31 : Nat) nB).set (Int.toNat (1 : Int)) (orI (0 : Int) (withM (withM (0 : Int) (↑(0 : Nat) : Int)) (↑((0 : Nat) + (1 : Nat)) : Int)), (0 : Int), (-1 : Int), (0 : Int), (0 : Int), false, ())).set (Int.toNat (1 : Int)) (orI (0 : Int) (withM (withM (0 : Int) (↑(0 : Nat) : Int)) (↑((0 : Nat) + (1 : Nat)) : Int)), orI (0 : Int) (withM (withM (0 : Int) (↑(0 : Nat) : Int)) (↑((0 : Nat) + (1 : Nat)) : Int)), (-1 : Int), (0 : Int), if (0 : Int) ≤ (-1 : Int) then (0 : Int) else (5 : Int), true, ())).set (Int.toNat (2 : Int)) (orI (0 : Int) (withM (withM (0 : Int) (↑((0 : Nat) + (1 : Nat)) : Int)) (↑((0 : Nat) + (1 : Nat) + (1 : Nat)) : Int)), (0 : Int), (1 : Int), if (0 : Int) ≤ (-1 : Int) then (0 : Int) else (5 : Int), (0 : Int), false, ())).set (Int.toNat (2 : Int)) (orI (0 : Int) (withM (withM (0 : Int) (↑((0 : Nat) + (1 : Nat)) : Int)) (↑((0 : Nat) + (1 : Nat) + (1 : Nat)) : Int)), orI (0 : Int) (withM (withM (0 : Int) (↑((0 : Nat) + (1 : Nat)) : Int)) (↑((0 : Nat) + (1 : Nat) + (1 : Nat)) : Int)), (1 : Int), if (0 : Int) ≤ (-1 : Int) then (0 : Int) else (5 : Int), if (0 : Int) ≤ (1 : Int) then if (0 : Int) ≤ (-1 : Int) then (0 : Int) else (5 : Int) else (9 : Int), true, ()))) == ((List.replicate (2 : Nat) (0 : Int)).set (0 : Nat) (5 : Int)).set (1 : Nat) (5 : Int))]) ∧ (decide (withM (withM (0 : Int) (↑(0 : Nat) : Int)) (↑((0 : Nat) + (1 : Nat)) : Int) = (3 : Int)) = false → k [Dat.mk Ty.bool false])) ∧ (decide (withM (withM (0 : Int) (↑(0 : Nat) : Int)) (↑((0 : Nat) + (1 : Nat)) : Int) = (3 : Int)) = false → k [Dat.mk Ty.bool false])) ∧ (decide ((0 : Int) = (0 : Int)) = false → k [Dat.mk Ty.bool false])) ∧ (decide ((0 : Int) = (0 : Int)) = false → k [Dat.mk Ty.bool false])) ∧ (decide ((0 : Int) = (0 : Int)) = false → k [Dat.mk Ty.bool false])) ∧ (decide ((0 : Int) = (0 : Int)) = false → k [Dat.mk Ty.bool false]))) ∧ (inB (3 : Int) (1 : Int) (8 : Int) = false → ((!decide ((1 : Int) = (0 : Int))) = true → k [Dat.mk Ty.bool false]) ∧ ((!decide ((1 : Int) = (0 : Int))) = false → False))) := by kernel_rfl
end Go.Proofs.YtdpnakebhpecfaaDoor

/- Synods: the laws' helpers keep their contracts. -/
namespace Go.Proofs.YtdpnakebhpecfaaDoor
open Go.Vc
theorem ints_vc (a b : List Int) (k : List Dat → Prop) (hl : a.length ≤ maxLen) (hk : k [⟨.bool, a == b⟩]) : vcF ⟨Es, [], glT, [], []⟩ (anInts a b) (Tryd.f18.body.getD .skip) Tryd.f18.ntmps [(.tmp 4, .bool)] [⟨.sl I, a⟩, ⟨.sl I, b⟩] k := by
  rw [vcInts]
  have hml : maxLen ≤ 9223372036854775807 := by decide
  simp only [decide_eq_true_eq, decide_eq_false_iff_not, and_true, true_and, Bool.not_eq_true', Bool.not_eq_false', Int.toNat_natCast, inK_i64]
  have ret : ∀ x : Bool, (a == b) = x → k [⟨.bool, x⟩] := by rintro _ rfl; exact hk
  refine ⟨fun h => ret _ ?_, fun h => ⟨⟨0, ⟨by omega, rfl⟩, rfl⟩, fun x ⟨hx, ht⟩ => ⟨fun hlt => ⟨by omega, hlt, by omega, by omega, fun hne => ret _ ?_, fun he => ⟨by omega, x + 1, ⟨by omega, ?_⟩, by omega, by omega⟩⟩, fun hge => ret _ ?_⟩⟩⟩
  · simp only [beq_eq_false_iff_ne, ne_eq]; intro he; exact h (by rw [he])
  · simp only [beq_eq_false_iff_ne, ne_eq]; intro h; exact hne (by rw [h])
  · have h1 : x < a.length := by omega
    have h2 : x < b.length := by omega
    rw [List.take_add_one, List.take_add_one, ht]
    rw [List.getD_eq_getElem?_getD, List.getD_eq_getElem?_getD, List.getElem?_eq_getElem h1, List.getElem?_eq_getElem h2] at he
    rw [List.getElem?_eq_getElem h1, List.getElem?_eq_getElem h2]
    simp only [Option.getD_some] at he
    rw [he]
  · have h1 : x = a.length := by omega
    rw [h1, List.take_length, List.take_of_length_le (by omega)] at ht
    simp [ht]

theorem okInts : PlainOk Tryd.prog glT 18 cInts := by
  refine plain_of (CxOk.mk' Es_ok rfl mixed (gl := glT) GOk.nil GoOk.nil noIt) Tryd.func18 (c := Tryd.f18.body.getD .skip) (rvs := [(.tmp 4, .bool)]) (by kernel_rfl) (by kernel_rfl) (by kernel_rfl) ?_
  intro ds k ⟨hp, hk⟩ hwf
  obtain ⟨a, b, rfl, -⟩ := dest2 hp
  exact ⟨anInts a b, ints_vc a b k (wf2 hwf).1.1 hk⟩

theorem okPow2 : PlainOk Tryd.prog glT 12 cPow2 := by
  refine plain_of (CxOk.mk' Es_ok rfl mixed (gl := glT) GOk.nil GoOk.nil noIt) Tryd.func12 (c := Tryd.f12.body.getD .skip) (rvs := [(.tmp 2, I)]) (by kernel_rfl) (by kernel_rfl) (by kernel_rfl) ?_
  intro ds k ⟨hp, hk⟩ hwf
  obtain ⟨n, rfl, hn, -⟩ := dest1 hp
  have hk : k [⟨I, (2 : Int) ^ n.toNat⟩] := hk
  refine ⟨anPow2 n, ?_⟩
  rw [vcPow2]
  simp only [decide_eq_true_eq, decide_eq_false_iff_not, inK_i64, and_true, true_and]
  refine ⟨⟨0, by omega, rfl, rfl⟩, fun x hx => ⟨fun h => ?_, fun h => ?_⟩⟩
  · have h1 := two_pow_le (n := x + 1) (by omega)
    have h2 := two_pow_pos (x + 1)
    rw [Int.pow_succ] at h1 h2
    refine ⟨by omega, by omega, x + 1, by omega, by omega, by rw [Int.pow_succ], by omega⟩
  · have : x = n.toNat := by omega
    rw [this]; exact hk
theorem syi {s : Sy} (h : (1 ≤ s.ms.length ∧ s.ms.length ≤ 8 ∧ s.bs.length = 31) ∧ ∀ b ∈ s.bs, 0 ≤ b.1 ∧ b.1 < 256 ∧ 0 ≤ b.2.1 ∧ b.2.1 < 256) : SyInv s := ⟨⟨h.1.1, h.1.2.1, h.1.2.2⟩, h.2⟩
theorem fact_vc (k : List Dat → Prop) (hk : k [⟨.bool, true⟩]) : vcF ⟨Es, [(18, cInts)], glT, [], [(9, oNew), (10, oDo), (11, oChosen)]⟩ [joinAll] (Tryd.f8.body.getD .skip) Tryd.f8.ntmps [(.tmp 0, .bool)] [] k := by
  rw [vcFact]
  refine ⟨fun _ => ⟨fun h => absurd h (by decide), fun _ => ⟨syi (by decide +kernel), syi (by decide +kernel), syi (by decide +kernel), syi (by decide +kernel), ?_⟩⟩, fun h => absurd h (by decide)⟩
  repeat (refine ⟨fun _ => ?_, fun h => absurd h (by decide +kernel)⟩)
  refine ⟨syi (by decide +kernel), trivial, ?_⟩
  refine cast (congrArg (fun b => k [Dat.mk Ty.bool b]) (Eq.symm ?_)) hk
  decide +kernel
theorem okFact : PlainOk Tryd.prog glT 8 cFact := by
  refine plain_of (CxOk.mk' Es_ok rfl mixed (gl := glT) (GOk.cons okInts Tryd.func18 (by kernel_rfl) (by kernel_rfl) GOk.nil) (GoOk.cons ownNew Tryd.func9 (by kernel_rfl) (by kernel_rfl) (GoOk.cons ownDo Tryd.func10 (by kernel_rfl) (by kernel_rfl) (GoOk.cons ownChosen Tryd.func11 (by kernel_rfl) (by kernel_rfl) GoOk.nil))) noIt) Tryd.func8 (c := Tryd.f8.body.getD .skip) (rvs := [(.tmp 0, .bool)]) (by kernel_rfl) (by kernel_rfl) (by kernel_rfl) ?_
  intro ds k ⟨hp, hk⟩ hwf
  obtain ⟨rfl, -⟩ := dest0 hp
  exact ⟨_, fact_vc k hk⟩
end Go.Proofs.YtdpnakebhpecfaaDoor

/- Synods: the laws. -/
namespace Go.Proofs.YtdpnakebhpecfaaDoor
open Go.Vc
def doX (s : Sy) (a : As) : (Int × Int) × Sy := doF s a
theorem doX_eq (s : Sy) (a : As) : doX s a = doF s a := rfl
def chX (s : Sy) : List Int := chosenF s
theorem chX_eq (s : Sy) : chX s = chosenF s := rfl
def oDoX : OCtr := fun args ob k =>
  match args, ob with
  | [.ps 0, .d tAs a], [.st 63 [.os 1, .d (.ar 31 tBa) bs], .row 58 tMe ms] => SyInv ⟨ms, bs⟩ ∧ k (.tp [.d I (doX ⟨ms, bs⟩ a).1.1, .d tErr (doX ⟨ms, bs⟩ a).1.2]) (doX ⟨ms, bs⟩ a).2.ob
  | _, _ => False
def oChX : OCtr := fun args ob k =>
  match args, ob with
  | [.ps 0], [.st 63 [.os 1, .d (.ar 31 tBa) bs], .row 58 tMe ms] => SyInv ⟨ms, bs⟩ ∧ k (.d (.sl I) (chX ⟨ms, bs⟩)) (Sy.mk ms bs).ob
  | _, _ => False
theorem ownDoX : OwnOk Tryd.prog glT 10 oDoX := ownDo
theorem ownChX : OwnOk Tryd.prog glT 11 oChX := ownChosen
/-- how it stands once the first so many were asked -/
def sAt (n : Int) (l : List As) (i : Nat) : Sy := (l.take i).foldl (fun s a => (doX s a).2) (initS n)
def gAt (n : Int) (l : List As) (i : Nat) : Sy := (l.take i).foldl (fun s a => if a.2.1 < 30 then (doX s a).2 else s) (initS n)
abbrev zA : As := (0, 0, 0, 0, ())
theorem sAt_zero (n : Int) (l : List As) : sAt n l 0 = initS n := rfl
theorem sAt_succ (n : Int) (l : List As) (i : Nat) (h : i < l.length) : sAt n l (i + 1) = (doX (sAt n l i) (l.getD i zA)).2 := by
  unfold sAt; rw [take_snoc zA h, List.foldl_append]; rfl
theorem gAt_zero (n : Int) (l : List As) : gAt n l 0 = initS n := rfl
theorem gAt_succ (n : Int) (l : List As) (i : Nat) (h : i < l.length) : gAt n l (i + 1) = if (l.getD i zA).2.1 < 30 then (doX (gAt n l i) (l.getD i zA)).2 else gAt n l i := by
  unfold gAt; rw [take_snoc zA h, List.foldl_append]; rfl
attribute [irreducible] sAt gAt doX chX
def El : Env := { tys := [(3, I), (4, .bool), (22, .sl tAs), (24, .ptr tSy), (26, tErr), (29, .sl I), (33, tAs), (55, .sl tMe), (58, tMe), (60, tBa), (61, .ar 31 tBa), (63, tSy), (65, .ptr tBa), (71, .ptr tMe)], errT := 54, eqs := [], els := [(22, 33), (29, 3), (55, 58)] }
theorem El_ok : EnvOk Tryd.prog El := EnvOk.of_list (by kernel_rfl) (by kernel_rfl) (by kernel_rfl)
def anOne (n : Int) (l : List As) : Ann :=
  [joinAll,
   loopAt 9 Nat [] (fun st i => { St.at (St.only st [0, 1, 6]) [(8, .d (.sl I) (chX (sAt n l i))), (9, .d I (i : Int))] with ob := (sAt n l i).ob }) (fun _ i => i ≤ l.length ∧ True) (fun i => l.length - i),
   loopAt 14 Nat [] (fun st k => St.at (St.only st [0, 1, 6, 8, 9, 10]) [(11, .d I (k : Int))]) (fun _ k => k ≤ 31 ∧ True) (fun k => 32 - k)]
def anGoes (n : Int) (l : List As) : Ann :=
  [joinAll,
   loopAt 8 Nat [] (fun st i => { St.at (St.only st [0, 1, 2, 8]) [(10, .d I (i : Int))] with ob := (gAt n l i).ob }) (fun _ i => i ≤ l.length ∧ True) (fun i => l.length - i)]
/-- asked before -/
def askB (l : List As) (b v : Int) (j : Nat) : Bool := decide (b = -1) || (l.take j).any (fun a => decide (a.1 = 1) && decide (a.2.2.1 = v))
def was0 (n : Int) (i : Nat) : List Int := List.replicate i (-1) ++ List.replicate (n.toNat - i) 0
def wasM (s s' : Sy) (k : Nat) : List Int := (s'.ms.take k).map (·.1) ++ (s.ms.drop k).map (·.1)
def anAsked (n : Int) (l : List As) : Ann :=
  [joinAll,
   loopAt 9 Nat [] (fun st i => { St.at (St.only st [0, 1, 6, 8]) [(9, .d I (i : Int))] with ob := st.ob.set 2 (.row 3 I (was0 n i)) }) (fun _ i => i ≤ n.toNat ∧ True) (fun i => n.toNat - i),
   loopAt 13 Nat [] (fun st i => { St.at (St.only st [0, 1, 6, 8]) [(10, .d I (i : Int))] with ob := (sAt n l i).ob ++ [.row 3 I ((sAt n l i).ms.map (·.1))] }) (fun _ i => i ≤ l.length ∧ True) (fun i => l.length - i),
   loopAt 17 Nat [] (fun st k => { St.at (St.only st [0, 1, 6, 8, 10]) [(11, .d I (k : Int))] with ob := (sAt n l ((st.i 10).toNat + 1)).ob ++ [.row 3 I (wasM (sAt n l (st.i 10).toNat) (sAt n l ((st.i 10).toNat + 1)) k)] }) (fun _ k => k ≤ n.toNat ∧ True) (fun k => n.toNat - k),
   loopAt 25 Nat [] (fun st j => St.at (St.only st [0, 1, 6, 8, 10, 11, 12, 13, 14]) [(15, .d .bool (askB l (st.i 13) (st.i 14) j)), (16, .d I (j : Int))]) (fun st j => j ≤ (st.i 10).toNat + 1 ∧ True) (fun j => l.length + 1 - j)]
end Go.Proofs.YtdpnakebhpecfaaDoor
