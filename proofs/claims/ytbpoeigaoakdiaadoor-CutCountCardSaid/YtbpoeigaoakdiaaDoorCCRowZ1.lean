/- Own texts, merged: As, Er, GDef, GV, GOk, GOk2, GDef2, GV2, GOk3, GDef3, GV3, GOk4, GDef4, GM, SDef, SM, SV, SOk, HDef, HM, HV, HOk, HOk2, Tz. -/
import Derived.Test.YtbpoeigaoakdiaaDoorChecked
import Derived.WalkKit
import Derived.LaidEql
import Derived.Stop.Asserts
import Derived.RowKitTokens
import Derived.Test.YtbpoeigaoakdiaaDoorVcQ
import Derived.Test.YtbpoeigaoakdiaaDoorVcPA
import Derived.Test.YtbpoeigaoakdiaaDoorRows
import Derived.Shelf.Spec.TrailingZeros
import Derived.RangeFuncNested
import Derived.RangeFuncBound
import Derived.RangeFuncCalls
import Derived.RangeFuncLeaves
import Derived.Shelf.Abstract
import Derived.Shelf.RegionOpen
import Derived.OwnWalkIn
import Derived.TacticsInMore
import Derived.LoopNIn
import Derived.LoopIn
namespace Go.Proofs.YtbpoeigaoakdiaaDoor
open Go.RowKit Go.Extern.Stop Go.Stop Go.Extern

/-- errors.As(nil, target). -/
theorem as_nil (t : Value) (w : World) :
    Calls Tryd.prog 66 #[.nilIface, t] w fun e w' => e = .returned (.bool false) ∧ w' = w := by
  go_enter Tryd.func66, Tryd.ntmps66
  go_wp2
  go_ret
  exact ⟨rfl, rfl⟩

/-! ### CLOSED FACTS ON THE MODEL's ENTRIES FOR internal/reflectlite, at this program's types: 25: *p.E · 27: **p.E · 23: error · 45: reflectlite's rtype · 1: how many package-level variables the dump has -/
theorem Tas.valueOf27 (t : Addr) (w : World) : (ReflectliteValue.unpack (.iface 105 (.pointer (some t)))).run Tryd.prog w
    = .ok (.agg #[.pointer (some ⟨3, 105, none⟩), .pointer (some ⟨w.heap.size, 0, none⟩), .int .u64 150]) (w.alloc (.cells #[.pointer (some t)] 105)) := by kernel_rfl
theorem Tas.type27 (a : Addr) (w : World) : (ReflectliteValue.methodAny (ReflectliteValue.valueError "reflectlite.Value.Type" 0) (fun t _ _ _ => ReflectliteType.toType t) #[.agg #[.pointer (some ⟨3, 105, none⟩), .pointer (some a), .int .u64 150]]).run Tryd.prog w
    = .ok (.iface 135 (.agg #[.pointer (some ⟨3, 105, none⟩)])) w := by kernel_rfl
theorem Tas.methodKind (h : Value) (w : World) : (Go.method 287 135 (.agg #[h]) "Kind").run Tryd.prog w = .ok (112, h) w := by kernel_rfl
theorem Tas.kind27 (w : World) : ((ReflectliteType.abiMethod fun t => (fun a : Nat => Value.int IntKind.u8 (a : Int)) <$> Rtype.kind t) #[.pointer (some ⟨3, 105, none⟩)]).run Tryd.prog w = .ok (.int .u8 22) w := by kernel_rfl
theorem Tas.kind25 (w : World) : ((ReflectliteType.abiMethod fun t => (fun a : Nat => Value.int IntKind.u8 (a : Int)) <$> Rtype.kind t) #[.pointer (some ⟨3, 71, none⟩)]).run Tryd.prog w = .ok (.int .u8 2) w := by kernel_rfl

/-! ### THE ENTRIES THAT READ OR WRITE MEMORY: laws with a premise on the cell (after Derived/Lib/ReflectliteSlice.lean's manner: each unfolding a lemma of its own, by rfl) -/
theorem rlm (z : Sem Value) (f : TypeId → Addr → Nat → Nat → Sem Value) (v : Value) :
    ReflectliteValue.method z f #[v] = (do match ← ReflectliteValue.parts v with | none => z | some (t, a, fl) => f t a fl (fl % 32)) := rfl
theorem Tas.parts27 (a : Addr) (w : World) : (ReflectliteValue.parts (.agg #[.pointer (some ⟨3, 105, none⟩), .pointer (some a), .int .u64 150])).run Tryd.prog w = .ok (some (105, a, 150)) w := by kernel_rfl
/-- (Value).IsNil at the Value of a **p.E that is not nil. -/
theorem Tas.isNil27 (a p : Addr) (W : World) (ha : W.cell? a = some (.pointer (some p))) :
    (ReflectliteValue.method (ReflectliteValue.valueError "reflectlite.Value.IsNil" 0) ReflectliteValue.isNil #[.agg #[.pointer (some ⟨3, 105, none⟩), .pointer (some a), .int .u64 150]]).run Tryd.prog W = .ok (.bool false) W := by
  rw [rlm]
  simp only [Sem.run_bind, Tas.parts27, Result.andThen]
  simp [ReflectliteValue.isNil, loadVar, isAgg, underlying, Tryd.underlying105, ha, Result.andThen]

theorem Tas.methodElem (h : Value) (w : World) : (Go.method 287 135 (.agg #[h]) "Elem").run Tryd.prog w = .ok (122, .agg #[h]) w := by kernel_rfl
theorem Tas.methodImplements (h : Value) (w : World) : (Go.method 287 135 (.agg #[h]) "Implements").run Tryd.prog w = .ok (123, .agg #[h]) w := by kernel_rfl
theorem Tas.methodAssignableTo (h : Value) (w : World) : (Go.method 287 135 (.agg #[h]) "AssignableTo").run Tryd.prog w = .ok (120, .agg #[h]) w := by kernel_rfl
theorem Tas.elem27 (w : World) : (ReflectliteType.method ReflectliteType.elem #[.agg #[.pointer (some ⟨3, 105, none⟩)]]).run Tryd.prog w = .ok (.iface 135 (.agg #[.pointer (some ⟨3, 71, none⟩)])) w := by kernel_rfl
theorem Tas.implements25 (w : World) : (ReflectliteType.relation "Implements" ReflectliteType.implements_ #[.agg #[.pointer (some ⟨3, 71, none⟩)], .iface 135 (.agg #[.pointer (some ⟨3, 28, none⟩)])]).run Tryd.prog w = .ok (.bool true) w := by kernel_rfl
theorem Tas.typeOf25 (v : Value) (w : World) : (ReflectliteType.typeOf #[.iface 71 v]).run Tryd.prog w = .ok (.iface 135 (.agg #[.pointer (some ⟨3, 71, none⟩)])) w := by kernel_rfl
theorem Tas.assignable25 (w : World) : (ReflectliteType.relation "AssignableTo" ReflectliteType.assignableTo #[.agg #[.pointer (some ⟨3, 71, none⟩)], .iface 135 (.agg #[.pointer (some ⟨3, 71, none⟩)])]).run Tryd.prog w = .ok (.bool true) w := by kernel_rfl
theorem Tas.valueOf25 (e : Int) (w : World) : (ReflectliteValue.unpack (.iface 71 (.int .i64 e))).run Tryd.prog w
    = .ok (.agg #[.pointer (some ⟨3, 71, none⟩), .pointer (some ⟨w.heap.size, 0, none⟩), .int .u64 130]) (w.alloc (.cells #[.int .i64 e] 71)) := by kernel_rfl

theorem Tas.elemOf27 (w : World) : (Rtype.elem? 105).run Tryd.prog w = .ok (some 71) w := by kernel_rfl
theorem Tas.mk25 (p : Addr) (w : World) : (ReflectliteValue.mk 71 p ReflectliteValue.flagAddr).run Tryd.prog w = .ok (.agg #[.pointer (some ⟨3, 71, none⟩), .pointer (some p), .int .u64 386]) w := by kernel_rfl
/-- (Value).Elem at the Value of a **p.E that is not nil: the Value of the *p.E variable that it points to, addressable. -/
theorem Tas.elemV27 (a p : Addr) (W : World) (ha : W.cell? a = some (.pointer (some p))) :
    (ReflectliteValue.method (ReflectliteValue.valueError "reflectlite.Value.Elem" 0) ReflectliteValue.elem #[.agg #[.pointer (some ⟨3, 105, none⟩), .pointer (some a), .int .u64 150]]).run Tryd.prog W
      = .ok (.agg #[.pointer (some ⟨3, 71, none⟩), .pointer (some p), .int .u64 386]) W := by
  rw [rlm]
  simp only [Sem.run_bind, Tas.parts27, Result.andThen]
  simp [ReflectliteValue.elem, loadVar, isAgg, underlying, Tryd.underlying105, ha, Result.andThen, Tas.elemOf27, Tas.mk25]
theorem rls (v x : Value) : ReflectliteValue.set #[v, x] = (do
    let (some (dst, a, fl), some (src, b, _)) := (← ReflectliteValue.parts v, ← ReflectliteValue.parts x)
      | unsupported (.noEntry "extern/(internal/reflectlite.Value).Set.zeroValue")
    if fl / ReflectliteValue.flagAddr % 2 == 0 then unsupported (.noEntry "extern/(internal/reflectlite.Value).Set.unaddressable")
    let val ← loadVar src b
    if ← Rtype.directlyAssignable dst src then storeVar dst a val
    else if ← Rtype.implements dst src then
      if (← Rtype.kind src) == 20 then
        match val with
        | .nilIface => unsupported (.noEntry "extern/reflectlite: a nil value of one interface type handed on as a value of another")
        | _ => storeVar dst a val
      else storeVar dst a (.iface src val)
    else panicString ("reflectlite.Set: value of type " ++ (← Rtype.spelt src) ++ " is not assignable to type " ++ (← Rtype.spelt dst))
    pure (.tuple #[])) := rfl
theorem Tas.parts25a (a : Addr) (w : World) : (ReflectliteValue.parts (.agg #[.pointer (some ⟨3, 71, none⟩), .pointer (some a), .int .u64 386])).run Tryd.prog w = .ok (some (71, a, 386)) w := by kernel_rfl
theorem Tas.parts25 (a : Addr) (w : World) : (ReflectliteValue.parts (.agg #[.pointer (some ⟨3, 71, none⟩), .pointer (some a), .int .u64 130])).run Tryd.prog w = .ok (some (71, a, 130)) w := by kernel_rfl
theorem Tas.direct25 (w : World) : (Rtype.directlyAssignable 71 71).run Tryd.prog w = .ok true w := by kernel_rfl
theorem Tas.size25 (w : World) : (sizeOf 71).run Tryd.prog w = .ok 1 w := by kernel_rfl
/-- (Value).Set: the *p.E variable at 'ta' gets what the Value's own variable 'b' holds. -/
theorem Tas.set25 (ta b : Addr) (e : Int) (old : Value) (W : World) (hb : W.cell? b = some (.int .i64 e)) (ht : W.cell? ta = some old) (hf : W.frozen? ta = false) :
    (ReflectliteValue.set #[.agg #[.pointer (some ⟨3, 71, none⟩), .pointer (some ta), .int .u64 386], .agg #[.pointer (some ⟨3, 71, none⟩), .pointer (some b), .int .u64 130]]).run Tryd.prog W
      = .ok (.tuple #[]) (W.setCell ta (.int .i64 e)) := by
  rw [rls]
  simp only [Sem.run_bind, Tas.parts25a, Tas.parts25, Result.andThen]
  simp [ReflectliteValue.flagAddr, loadVar, isAgg, underlying, Tryd.underlying71, hb, Result.andThen, Tas.direct25, storeVar, Value.cells, storeCells, Addr.add]
  rw [run_store Tryd.prog W ta _ _ (by rfl)]
  simp [ht, hf]

set_option maxRecDepth 100000 in
set_option maxHeartbeats 4000000 in
theorem as_hit (e : Int) (t : Addr) (old : Value) (w : World) (hg : w.cell? ⟨0, 0, none⟩ = some (.iface 135 (.agg #[.pointer (some ⟨3, 28, none⟩)]))) (ht0 : w.cell? t = some old) (hf0 : w.frozen? t = false) :
    Calls Tryd.prog 66 #[.iface 71 (.int .i64 e), .iface 105 (.pointer (some t))] w fun ev w' => ev = .returned (.bool true) ∧ w' = ((((w.alloc (.cells #[.pointer (some t)] 105)).alloc (.cells #[.pointer (some ⟨3, 105, none⟩), .pointer (some ⟨w.heap.size, 0, none⟩), .int .u64 150] 114)).alloc (.cells #[.pointer (some ⟨3, 105, none⟩), .pointer (some ⟨w.heap.size, 0, none⟩), .int .u64 150] 114)).alloc (.cells #[.int .i64 e] 71)).setCell t (.int .i64 e) := by
  have h6 := @run_callFunc_extern Tryd.prog 73 _ (fun args => ReflectliteValue.unpack (args.getD 0 (.tuple #[]))) Tryd.func73 (by kernel_rfl) (by kernel_rfl) (by kernel_rfl) (by kernel_rfl)
  have h7 := @run_callFunc_extern Tryd.prog 74 _ (ReflectliteValue.methodAny (ReflectliteValue.valueError "reflectlite.Value.Type" 0) (fun t _ _ _ => ReflectliteType.toType t)) Tryd.func74 (by kernel_rfl) (by kernel_rfl) (by kernel_rfl) (by kernel_rfl)
  have h8 := @run_callFunc_extern Tryd.prog 75 _ (ReflectliteValue.method (ReflectliteValue.valueError "reflectlite.Value.IsNil" 0) ReflectliteValue.isNil) Tryd.func75 (by kernel_rfl) (by kernel_rfl) (by kernel_rfl) (by kernel_rfl)
  have h27 := @run_callFunc_extern Tryd.prog 112 _ (ReflectliteType.abiMethod fun t => do pure (.int .u8 (← Rtype.kind t))) Tryd.func112 (by kernel_rfl) (by kernel_rfl) (by kernel_rfl) (by kernel_rfl)
  have h37 := @run_callFunc_extern Tryd.prog 122 _ (ReflectliteType.method ReflectliteType.elem) Tryd.func122 (by kernel_rfl) (by kernel_rfl) (by kernel_rfl) (by kernel_rfl)
  have h38 := @run_callFunc_extern Tryd.prog 123 _ (ReflectliteType.relation "Implements" ReflectliteType.implements_) Tryd.func123 (by kernel_rfl) (by kernel_rfl) (by kernel_rfl) (by kernel_rfl)
  have h10 := @run_callFunc_extern Tryd.prog 89 _ ReflectliteType.typeOf Tryd.func89 (by kernel_rfl) (by kernel_rfl) (by kernel_rfl) (by kernel_rfl)
  have h35 := @run_callFunc_extern Tryd.prog 120 _ (ReflectliteType.relation "AssignableTo" ReflectliteType.assignableTo) Tryd.func120 (by kernel_rfl) (by kernel_rfl) (by kernel_rfl) (by kernel_rfl)
  have h11 := @run_callFunc_extern Tryd.prog 90 _ (ReflectliteValue.method (ReflectliteValue.valueError "reflectlite.Value.Elem" 0) ReflectliteValue.elem) Tryd.func90 (by kernel_rfl) (by kernel_rfl) (by kernel_rfl) (by kernel_rfl)
  have h12 := @run_callFunc_extern Tryd.prog 91 _ ReflectliteValue.set Tryd.func91 (by kernel_rfl) (by kernel_rfl) (by kernel_rfl) (by kernel_rfl)
  have tO := Tas.typeOf25
  have mA := Tas.methodAssignableTo
  have a25 := Tas.assignable25
  have v25 := Tas.valueOf25
  have f6 := Tas.valueOf27
  have f7 := Tas.type27
  have mK := Tas.methodKind
  have mE := Tas.methodElem
  have mI := Tas.methodImplements
  have k27 := Tas.kind27
  have k25 := Tas.kind25
  have e27 := Tas.elem27
  have i25 := Tas.implements25
  have n8 := Tas.isNil27 ⟨w.heap.size, 0, none⟩ t ((w.alloc (.cells #[.pointer (some t)] 105)).alloc (.cells #[.pointer (some ⟨3, 105, none⟩), .pointer (some ⟨w.heap.size, 0, none⟩), .int .u64 150] 114)) (by simp)
  have hlt : 0 < w.heap.size := by
    rcases Nat.eq_zero_or_pos w.heap.size with h0 | h
    · simp [World.cell?, h0] at hg
    · exact h
  have hg2 : ((w.alloc (.cells #[.pointer (some t)] 105)).alloc (.cells #[.pointer (some ⟨3, 105, none⟩), .pointer (some ⟨w.heap.size, 0, none⟩), .int .u64 150] 114)).cell? ⟨0, 0, none⟩ = some (.iface 135 (.agg #[.pointer (some ⟨3, 28, none⟩)])) := by
    rw [World.cell?_alloc_lt _ _ ⟨0, 0, none⟩ (by simp), World.cell?_alloc_lt _ _ ⟨0, 0, none⟩ hlt]; exact hg
  have htl : t.block < w.heap.size := by
    rcases Nat.lt_or_ge t.block w.heap.size with h | h
    · exact h
    · simp [World.cell?, Array.getElem?_eq_none h] at ht0
  have el := Tas.elemV27 ⟨w.heap.size, 0, none⟩ t (((w.alloc (.cells #[.pointer (some t)] 105)).alloc (.cells #[.pointer (some ⟨3, 105, none⟩), .pointer (some ⟨w.heap.size, 0, none⟩), .int .u64 150] 114)).alloc (.cells #[.pointer (some ⟨3, 105, none⟩), .pointer (some ⟨w.heap.size, 0, none⟩), .int .u64 150] 114)) (by rw [World.cell?_alloc_lt _ _ ⟨w.heap.size, 0, none⟩ (by simp; omega)]; simp)
  have st := Tas.set25 t ⟨w.heap.size + 1 + 1 + 1, 0, none⟩ e old ((((w.alloc (.cells #[.pointer (some t)] 105)).alloc (.cells #[.pointer (some ⟨3, 105, none⟩), .pointer (some ⟨w.heap.size, 0, none⟩), .int .u64 150] 114)).alloc (.cells #[.pointer (some ⟨3, 105, none⟩), .pointer (some ⟨w.heap.size, 0, none⟩), .int .u64 150] 114)).alloc (.cells #[.int .i64 e] 71))
    (by rw [World.cell?_alloc_at _ _ _ _ (by simp)]; rfl)
    (by rw [World.cell?_alloc_lt _ _ t (by simp; omega), World.cell?_alloc_lt _ _ t (by simp; omega), World.cell?_alloc_lt _ _ t (by simp; omega), World.cell?_alloc_lt _ _ t htl]; exact ht0)
    (by rw [World.frozen?_alloc_old _ _ t (by simp; omega), World.frozen?_alloc_old _ _ t (by simp; omega), World.frozen?_alloc_old _ _ t (by simp; omega), World.frozen?_alloc_old _ _ t (Nat.ne_of_lt htl)]; exact hf0)
  go_enter Tryd.func66, Tryd.ntmps66
  go_wp2
  refine wp_loop_rounds 1 ?_
  rw [rounds_succ]
  go_wp2
  go_ret
  exact ⟨rfl, rfl⟩
end Go.Proofs.YtbpoeigaoakdiaaDoor

/- The number of an error, as the program tells it; is an error the one with a number? -/
namespace Go.Proofs.YtbpoeigaoakdiaaDoor
open Go.RowKit Go.Extern.Stop Go.Stop Go.Extern Go.Vc
abbrev I : Ty := .int .i64
abbrev tErr : Ty := .err 71

theorem fr_alloc (w : World) (o : Obj) : Fr (fun _ => False) w (w.alloc o) := ⟨rfl, rfl, rfl, by simp, fun b hb _ => Ext.alloc w o b hb, fun _ => Nat.le_refl _⟩

theorem told_nil (w : World) : Calls Tryd.prog 43 #[.nilIface] w fun e w' => e = .returned (.int .i64 0) ∧ w' = w := by
  go_enter Tryd.func43, Tryd.ntmps43
  go_wp2
  go_ret
  exact ⟨rfl, rfl⟩

set_option maxRecDepth 100000 in
set_option maxHeartbeats 4000000 in
theorem told_hit (n : Int) (w : World) (hg : w.cell? ⟨0, 0, none⟩ = some (.iface 135 (.agg #[.pointer (some ⟨3, 28, none⟩)]))) :
    Calls Tryd.prog 43 #[.iface 71 (.int .i64 n)] w fun e w' => e = .returned (.int .i64 n) ∧ Fr (fun _ => False) w w' := by
  have hlt : 0 < w.heap.size := World.block_lt_of_cell? w ⟨0, 0, none⟩ hg
  have hgA : (w.alloc (.cells #[.int .i64 0] 71)).cell? ⟨0, 0, none⟩ = some (.iface 135 (.agg #[.pointer (some ⟨3, 28, none⟩)])) := by
    rw [World.cell?_alloc_lt _ _ ⟨0, 0, none⟩ hlt]; exact hg
  have htA : (w.alloc (.cells #[.int .i64 0] 71)).cell? ⟨w.heap.size, 0, none⟩ = some (.int .i64 0) := by simp
  have hfA : (w.alloc (.cells #[.int .i64 0] 71)).frozen? ⟨w.heap.size, 0, none⟩ = false := by simp
  go_enter Tryd.func43, Tryd.ntmps43
  go_wp2_with (go_at_call 66; refine (as_hit n _ (.int .i64 0) _ hgA htA hfA).mono ?_; rintro e w' ⟨rfl, rfl⟩)
  go_ret
  exact ⟨rfl, ((((fr_alloc _ _).trans (fr_alloc _ _)).trans (fr_alloc _ _)).trans (fr_alloc _ _)).trans (fr_alloc _ _)⟩

/-- the handle of the type 'error' -/
abbrev hdE : Value := .iface 135 (.agg #[.pointer (some ⟨3, 28, none⟩)])
def glE : List (Nat × Dat) := [(0, ⟨.raw, hdE⟩)]
theorem hd_of {w : World} {ro : Nat → Prop} (h : GlOk glE w ro) : w.cell? ⟨0, 0, none⟩ = some hdE := by
  obtain ⟨_, us, h1, hn⟩ := h 0 _ (List.mem_singleton.2 rfl)
  have hn : us = [hdE] ∧ hdE.oneCell' = true := hn
  exact h1 0 hdE (by rw [hn.1]; rfl)
def cTold : Ctr := cdet [tErr] (fun (n : Int) => inK .i64 n) (fun (n : Int) => [⟨I, n⟩])
theorem okTold : PlainOk Tryd.prog glE 43 cTold := by
  intro ds k hs w R0 vals hR0 hG hD
  obtain ⟨hp, hk⟩ := hs
  obtain ⟨n, rfl, hin⟩ := dest1 hp
  have hk : k [⟨I, n⟩] := hk
  obtain ⟨hl, hd⟩ := hD
  match vals, hl with
  | [v], _ =>
    have hv : Ty.okV w R0 tErr n v := hd 0 ⟨tErr, n⟩ v rfl rfl
    unfold Ty.okV at hv
    simp only [Ty.agg, Bool.false_eq_true, if_false, Ty.ok] at hv
    have hok : ∀ {w' : World} {ro : Nat → Prop}, inK .i64 n → RetOk w' ro [(⟨I, n⟩ : Dat)] (.int .i64 n) := by
      intro w' ro hn
      show Ty.okV _ _ I n _
      unfold Ty.okV
      simp only [Ty.agg, Bool.false_eq_true, if_false, Ty.ok]
      exact ⟨trivial, hn⟩
    rcases hv with ⟨h0, hv⟩ | ⟨h0, hv⟩
    · injection hv with hv
      subst hv
      have h0 : (0 : Int) = n := h0.symm
      subst h0
      refine (show Calls Tryd.prog 43 #[.nilIface] w _ from told_nil w).mono fun e w' ⟨he, hw⟩ => ?_
      subst hw
      exact ⟨Fr.refl _ _, [⟨I, (0 : Int)⟩], _, he, hk, hok hin⟩
    · injection hv with hv
      subst hv
      refine (show Calls Tryd.prog 43 #[.iface 71 (.int .i64 n)] w _ from told_hit n w (hd_of hG)).mono fun e w' ⟨he, hw⟩ => ?_
      exact ⟨hw, [⟨I, n⟩], _, he, hk, hok hin⟩
theorem PlainOk.sub {P : Program} {gl gl' : List (Nat × Dat)} {f : FuncId} {c : Ctr} (hs : ∀ x ∈ gl, x ∈ gl') (h : PlainOk P gl f c) : PlainOk P gl' f c :=
  fun ds k hk w R0 vals hR0 hG hD => h ds k hk w R0 vals hR0 (fun g d hg => hG g d (hs _ hg)) hD
def cError : Ctr := cdet [tErr, I] (fun (n _ : Int) => inK .i64 n ∧ True) (fun (n e : Int) => [⟨.bool, decide (n = e)⟩])
def Er : Env := { tys := [(3, I), (4, .bool), (28, tErr), (71, I)], errT := 71, eqs := [], els := [] }
theorem Er_ok : EnvOk Tryd.prog Er := EnvOk.of_list (by kernel_rfl) (by kernel_rfl) (by kernel_rfl)
set_option linter.unusedVariables false in
theorem vcError (n e : Int) (k : List Dat → Prop) : vcF ⟨Er, [(43, cTold)], glE, [], []⟩ [] (Tryd.f9.body.getD .skip) Tryd.f9.ntmps [(.tmp 4, .bool)] [⟨tErr, n⟩, ⟨I, e⟩] k = (
  IntKind.i64.wrap n = n ∧ k [Dat.mk Ty.bool (decide (n = e))]) := by kernel_rfl
theorem okError : PlainOk Tryd.prog glE 9 cError := by
  refine plain_of (CxOk.mk' Er_ok rfl (by kernel_rfl) (gl := glE) (GOk.cons okTold Tryd.func43 (by kernel_rfl) (by kernel_rfl) GOk.nil) GoOk.nil noIt) Tryd.func9 (c := Tryd.f9.body.getD .skip) (rvs := [(.tmp 4, .bool)]) (by kernel_rfl) (by kernel_rfl) (by kernel_rfl) ?_
  intro ds k ⟨hp, hk⟩ hwf
  obtain ⟨n, e, rfl, hin, -⟩ := dest2 hp
  have hk : k [⟨.bool, decide (n = e)⟩] := hk
  refine ⟨[], ?_⟩
  rw [vcError]
  exact ⟨hin, hk⟩
theorem glE_of {laid : List (String × DataW Unit)} (hm : ("errors.errorType", Rows.laid_errors_errorType) ∈ laid) {W : World} (h : laidMetH Tryd.prog laid W) : GlOk glE W fun b => b < W.heap.size :=
  gl_of_handle (n := "errors.errorType") (u := 135) (ty := 28) (d := Rows.laid_errors_errorType) h hm rfl rfl (by kernel_rfl) (by kernel_rfl) (by kernel_rfl) (by kernel_rfl) rfl
end Go.Proofs.YtbpoeigaoakdiaaDoor

/- Traces: what the program's functions answer. -/
namespace Go.Proofs.YtbpoeigaoakdiaaDoor
open Go.Vc
abbrev tEv : Ty := .pr I (.pr I .un)
abbrev tTr : Ty := .pr I (.pr (.sl tEv) .un)
abbrev Ev := Int × Int × Unit
abbrev Tr := Int × List Ev × Unit
def Et : Env := { tys := [(3, I), (4, .bool), (5, .int .u8), (22, .sl tEv), (24, tTr), (28, tErr), (30, .sl I), (70, tEv), (74, .ar 5 I), (61, .sl (.sl I))], errT := 71, eqs := [], els := [(22, 70), (30, 3), (61, 30)] }
def an1 (α : Type) (r : Nat) (st : St → α → St) (ok : α → Prop) (mu : α → Nat) : Ann := [loopAt r α [] st (fun _ => ok) mu]
theorem Et_ok : EnvOk Tryd.prog Et := EnvOk.of_list (by kernel_rfl) (by kernel_rfl) (by kernel_rfl)
def inB (n lo hi : Int) : Bool := decide (lo ≤ n) && decide (n ≤ hi)
def cWithin : Ctr := cdet [I, I, I] (fun _ _ _ => True) (fun a b c => [⟨.bool, inB a b c⟩])
def cPow2 : Ctr := cdet [I] (fun (n : Int) => n ≤ 61 ∧ True) (fun (n : Int) => [⟨I, (2 : Int) ^ n.toNat⟩])
def bitB (s i : Int) : Bool := decide (0 ≤ s) && s.toNat.testBit i.toNat
def cBit : Ctr := cdet [I, I] (fun _ _ => True) (fun s i => [⟨.bool, bitB s i⟩])
def subN : Nat → Nat → Int → Bool
  | 0, _, _ => true
  | f + 1, a, b => if a = 0 then true else if a % 2 = 1 ∧ b.tmod 2 = 0 then false else subN f (a / 2) (b.tdiv 2)
/-- are all things of the one set in the other one? -/
def subB (a b : Int) : Bool := subN a.toNat a.toNat b
def cSub : Ctr := cdet [I, I] (fun _ _ => True) (fun a b => [⟨.bool, subB a b⟩])
/-- what is wrong with an event -/
def evErr (p : Int) (l : List Ev) (i : Nat) : Int :=
  if (inB (l.getD i (0, 0, ())).1 0 (p - 1) && inB (l.getD i (0, 0, ())).2.1 (-1) ((i : Int) - 1)) = false then 1
  else if 0 ≤ (l.getD i (0, 0, ())).2.1 ∧ (l.getD (l.getD i (0, 0, ())).2.1.toNat (0, 0, ())).1 = (l.getD i (0, 0, ())).1 then 6 else 0
def evsErr (p : Int) (l : List Ev) : Nat → Nat → Int
  | 0, _ => 0
  | f + 1, i => if evErr p l i = 0 then evsErr p l f (i + 1) else evErr p l i
def chk (t : Tr) : Int := if inB t.1 1 5 = false then 1 else if 24 < t.2.1.length then 4 else evsErr t.1 t.2.1 t.2.1.length 0
def cCheck : Ctr := cdet [tTr] (fun _ => True) (fun t => [⟨tErr, chk t⟩])
-- the loops
def anPow2 (n : Int) : Ann := an1 Nat 3 (fun st i => St.at st [(3, .d I ((2 : Int) ^ i)), (4, .d I (i : Int))]) (fun i => i ≤ n.toNat ∧ True) (fun i => n.toNat - i)
def anBit (s i : Int) : Ann := an1 Nat 2 (fun st k => St.at st [(0, .d I (s.tdiv (2 ^ k))), (5, .d I (k : Int))]) (fun k => k ≤ i.toNat ∧ True) (fun k => i.toNat - k)
def anSub (a b : Int) : Ann := an1 (Int × Int) 1 (fun st x => St.at st [(0, .d I x.1), (1, .d I x.2)]) (fun x => subB a b = subB x.1 x.2 ∧ inK .i64 x.1 ∧ inK .i64 x.2) (fun x => x.1.toNat)
def anCheck (t : Tr) : Ann := an1 Nat 6 (fun st i => St.at st [(18, .d I (i : Int)), (3, .any), (4, .any)]) (fun i => chk t = evsErr t.1 t.2.1 (t.2.1.length - i) i ∧ i ≤ t.2.1.length) (fun i => t.2.1.length - i)
end Go.Proofs.YtbpoeigaoakdiaaDoor

/- What the functions of this seat have to satisfy, by program: each verification condition in plain words. -/
namespace Go.Proofs.YtbpoeigaoakdiaaDoor
open Go.Vc
set_option linter.unusedVariables false
theorem vcWithin (a b c : Int) (k : List Dat → Prop) : vcF ⟨Et, [], [], [], []⟩ [] (Tryd.f44.body.getD .skip) Tryd.f44.ntmps [(.tmp 6, .bool)] [⟨I, a⟩, ⟨I, b⟩, ⟨I, c⟩] k = (
  (decide (b ≤ a) = true → k [Dat.mk Ty.bool (decide (a ≤ c))]) ∧ (decide (b ≤ a) = false → k [Dat.mk Ty.bool false])) := by kernel_rfl
theorem vcPow2 (n : Int) (k : List Dat → Prop) : vcF ⟨Et, [], [], [], []⟩ (anPow2 n) (Tryd.f56.body.getD .skip) Tryd.f56.ntmps [(.tmp 2, I)] [⟨I, n⟩] k = (
  (∃ (x : Nat), (x ≤ n.toNat ∧ True) ∧ (n = n ∧ (0 : Int) = (0 : Int) ∧ (1 : Int) = (2 : Int) ^ x ∧ (0 : Int) = (↑x : Int) ∧ True) ∧ True ∧ True) ∧ ∀ (x : Nat), x ≤ n.toNat ∧ True → (decide ((↑x : Int) < n) = true → inK IntKind.i64 ((2 : Int) ^ x * (2 : Int)) ∧ inK IntKind.i64 ((↑x : Int) + (1 : Int)) ∧ ∃ (x_1 : Nat), (x_1 ≤ n.toNat ∧ True) ∧ n.toNat - x_1 < n.toNat - x ∧ (n = n ∧ (0 : Int) = (0 : Int) ∧ (2 : Int) ^ x * (2 : Int) = (2 : Int) ^ x_1 ∧ (↑x : Int) + (1 : Int) = (↑x_1 : Int) ∧ True) ∧ True ∧ True) ∧ (decide ((↑x : Int) < n) = false → k [Dat.mk (I) ((2 : Int) ^ x)])) := by kernel_rfl
theorem vcBit (s i : Int) (k : List Dat → Prop) : vcF ⟨Et, [], [], [], []⟩ (anBit s i) (Tryd.f49.body.getD .skip) Tryd.f49.ntmps [(.tmp 4, .bool)] [⟨I, s⟩, ⟨I, i⟩] k = (
  (∃ (x : Nat), (x ≤ i.toNat ∧ True) ∧ (s = s.tdiv ((2 : Int) ^ x) ∧ i = i ∧ false = false ∧ (0 : Int) = (↑x : Int) ∧ True) ∧ True ∧ True) ∧ ∀ (x : Nat), x ≤ i.toNat ∧ True → (decide ((↑x : Int) < i) = true → ((!decide (s.tdiv ((2 : Int) ^ x) = (0 : Int))) = true → (2 : Int) ≠ (0 : Int) ∧ inK IntKind.i64 ((s.tdiv ((2 : Int) ^ x)).tdiv (2 : Int)) ∧ inK IntKind.i64 ((↑x : Int) + (1 : Int)) ∧ ∃ (x_1 : Nat), (x_1 ≤ i.toNat ∧ True) ∧ i.toNat - x_1 < i.toNat - x ∧ ((s.tdiv ((2 : Int) ^ x)).tdiv (2 : Int) = s.tdiv ((2 : Int) ^ x_1) ∧ i = i ∧ false = false ∧ (↑x : Int) + (1 : Int) = (↑x_1 : Int) ∧ True) ∧ True ∧ True) ∧ ((!decide (s.tdiv ((2 : Int) ^ x) = (0 : Int))) = false → (2 : Int) ≠ (0 : Int) ∧ inK IntKind.i64 ((s.tdiv ((2 : Int) ^ x)).tmod (2 : Int)) ∧ k [Dat.mk Ty.bool (decide ((s.tdiv ((2 : Int) ^ x)).tmod (2 : Int) = (1 : Int)))])) ∧ (decide ((↑x : Int) < i) = false → (2 : Int) ≠ (0 : Int) ∧ inK IntKind.i64 ((s.tdiv ((2 : Int) ^ x)).tmod (2 : Int)) ∧ k [Dat.mk Ty.bool (decide ((s.tdiv ((2 : Int) ^ x)).tmod (2 : Int) = (1 : Int)))])) := by kernel_rfl
theorem vcSub (a b : Int) (k : List Dat → Prop) : vcF ⟨Et, [], [], [], []⟩ (anSub a b) (Tryd.f57.body.getD .skip) Tryd.f57.ntmps [(.tmp 4, .bool)] [⟨I, a⟩, ⟨I, b⟩] k = (
  (∃ (x : Int × Int), (subB a b = subB x.fst x.snd ∧ inK IntKind.i64 x.fst ∧ inK IntKind.i64 x.snd) ∧ (a = x.fst ∧ b = x.snd ∧ false = false ∧ True) ∧ True ∧ True) ∧ ∀ (x : Int × Int), subB a b = subB x.fst x.snd ∧ inK IntKind.i64 x.fst ∧ inK IntKind.i64 x.snd → (decide ((0 : Int) < x.fst) = true → (2 : Int) ≠ (0 : Int) ∧ inK IntKind.i64 (x.fst.tmod (2 : Int)) ∧ (decide (x.fst.tmod (2 : Int) = (1 : Int)) = true → (2 : Int) ≠ (0 : Int) ∧ inK IntKind.i64 (x.snd.tmod (2 : Int)) ∧ (decide (x.snd.tmod (2 : Int) = (0 : Int)) = true → k [Dat.mk Ty.bool false]) ∧ (decide (x.snd.tmod (2 : Int) = (0 : Int)) = false → (2 : Int) ≠ (0 : Int) ∧ inK IntKind.i64 (x.fst.tdiv (2 : Int)) ∧ (2 : Int) ≠ (0 : Int) ∧ inK IntKind.i64 (x.snd.tdiv (2 : Int)) ∧ ∃ (x_1 : Int × Int), (subB a b = subB x_1.fst x_1.snd ∧ inK IntKind.i64 x_1.fst ∧ inK IntKind.i64 x_1.snd) ∧ x_1.fst.toNat < x.fst.toNat ∧ (x.fst.tdiv (2 : Int) = x_1.fst ∧ x.snd.tdiv (2 : Int) = x_1.snd ∧ false = false ∧ True) ∧ True ∧ True)) ∧ (decide (x.fst.tmod (2 : Int) = (1 : Int)) = false → (2 : Int) ≠ (0 : Int) ∧ inK IntKind.i64 (x.fst.tdiv (2 : Int)) ∧ (2 : Int) ≠ (0 : Int) ∧ inK IntKind.i64 (x.snd.tdiv (2 : Int)) ∧ ∃ (x_1 : Int × Int), (subB a b = subB x_1.fst x_1.snd ∧ inK IntKind.i64 x_1.fst ∧ inK IntKind.i64 x_1.snd) ∧ x_1.fst.toNat < x.fst.toNat ∧ (x.fst.tdiv (2 : Int) = x_1.fst ∧ x.snd.tdiv (2 : Int) = x_1.snd ∧ false = false ∧ True) ∧ True ∧ True)) ∧ (decide ((0 : Int) < x.fst) = false → k [Dat.mk Ty.bool true])) := by kernel_rfl
theorem vcCheck (t : Tr) (k : List Dat → Prop) : vcF ⟨Et, [(44, cWithin)], [], [], []⟩ (anCheck t) (Tryd.f10.body.getD .skip) Tryd.f10.ntmps [(.tmp 2, tErr)] [⟨tTr, t⟩] k = (
  True ∧ ((!inB t.fst (1 : Int) (5 : Int)) = true → (1 : Int) ≠ (0 : Int) ∧ k [Dat.mk (Ty.err (71 : Nat)) (1 : Int)]) ∧ ((!inB t.fst (1 : Int) (5 : Int)) = false → (decide ((24 : Int) < (↑(List.length t.snd.fst) : Int)) = true → (4 : Int) ≠ (0 : Int) ∧ k [Dat.mk (Ty.err (71 : Nat)) (4 : Int)]) ∧ (decide ((24 : Int) < (↑(List.length t.snd.fst) : Int)) = false → (∃ (x : Nat), (chk t = evsErr t.fst t.snd.fst (t.snd.fst.length - x) x ∧ x ≤ t.snd.fst.length) ∧ (t = t ∧ ([] : List Nat) = [] ∧ (0 : Int) = (0 : Int) ∧ [] ++ [(0 : Nat)] = [] ++ [(0 : Nat)] ∧ t.fst = t.fst ∧ inB t.fst (1 : Int) (5 : Int) = inB t.fst (1 : Int) (5 : Int) ∧ (!inB t.fst (1 : Int) (5 : Int)) = !inB t.fst (1 : Int) (5 : Int) ∧ [] ++ [(1 : Nat)] = [] ++ [(1 : Nat)] ∧ t.snd.fst = t.snd.fst ∧ (↑(List.length t.snd.fst) : Int) = (↑(List.length t.snd.fst) : Int) ∧ decide ((24 : Int) < (↑(List.length t.snd.fst) : Int)) = decide ((24 : Int) < (↑(List.length t.snd.fst) : Int)) ∧ [] ++ [(1 : Nat)] = [] ++ [(1 : Nat)] ∧ t.snd.fst = t.snd.fst ∧ (↑(List.length t.snd.fst) : Int) = (↑(List.length t.snd.fst) : Int) ∧ (0 : Int) = (↑x : Int) ∧ True) ∧ (((24 : Nat) = (24 : Nat) ∧ t = t) ∧ True) ∧ True) ∧ ∀ (x : Nat), chk t = evsErr t.fst t.snd.fst (t.snd.fst.length - x) x ∧ x ≤ t.snd.fst.length → (decide ((↑x : Int) < (↑(List.length t.snd.fst) : Int)) = true → (0 : Int) ≤ (↑x : Int) ∧ (↑x : Int) < (↑(List.length t.snd.fst) : Int) ∧ inK IntKind.i64 (t.fst - (1 : Int)) ∧ True ∧ ((!inB (List.getD t.snd.fst (↑x : Int).toNat ((0 : Int), (0 : Int), ())).fst (0 : Int) (t.fst - (1 : Int))) = true → (1 : Int) ≠ (0 : Int) ∧ k [Dat.mk (Ty.err (71 : Nat)) (1 : Int)]) ∧ ((!inB (List.getD t.snd.fst (↑x : Int).toNat ((0 : Int), (0 : Int), ())).fst (0 : Int) (t.fst - (1 : Int))) = false → inK IntKind.i64 ((↑x : Int) - (1 : Int)) ∧ True ∧ ((!inB (List.getD t.snd.fst (↑x : Int).toNat ((0 : Int), (0 : Int), ())).snd.fst (-1 : Int) ((↑x : Int) - (1 : Int))) = true → (1 : Int) ≠ (0 : Int) ∧ k [Dat.mk (Ty.err (71 : Nat)) (1 : Int)]) ∧ ((!inB (List.getD t.snd.fst (↑x : Int).toNat ((0 : Int), (0 : Int), ())).snd.fst (-1 : Int) ((↑x : Int) - (1 : Int))) = false → (decide ((0 : Int) ≤ (List.getD t.snd.fst (↑x : Int).toNat ((0 : Int), (0 : Int), ())).snd.fst) = true → (0 : Int) ≤ (List.getD t.snd.fst (↑x : Int).toNat ((0 : Int), (0 : Int), ())).snd.fst ∧ (List.getD t.snd.fst (↑x : Int).toNat ((0 : Int), (0 : Int), ())).snd.fst < (↑(List.length t.snd.fst) : Int) ∧ (decide ((List.getD t.snd.fst (Int.toNat (List.getD t.snd.fst (↑x : Int).toNat ((0 : Int), (0 : Int), ())).snd.fst) ((0 : Int), (0 : Int), ())).fst = (List.getD t.snd.fst (↑x : Int).toNat ((0 : Int), (0 : Int), ())).fst) = true → (6 : Int) ≠ (0 : Int) ∧ k [Dat.mk (Ty.err (71 : Nat)) (6 : Int)]) ∧ (decide ((List.getD t.snd.fst (Int.toNat (List.getD t.snd.fst (↑x : Int).toNat ((0 : Int), (0 : Int), ())).snd.fst) ((0 : Int), (0 : Int), ())).fst = (List.getD t.snd.fst (↑x : Int).toNat ((0 : Int), (0 : Int), ())).fst) = false → inK IntKind.i64 ((↑x : Int) + (1 : Int)) ∧ ∃ (x_1 : Nat), (chk t = evsErr t.fst t.snd.fst (t.snd.fst.length - x_1) x_1 ∧ x_1 ≤ t.snd.fst.length) ∧ t.snd.fst.length - x_1 < t.snd.fst.length - x ∧ (t = t ∧ ([] : List Nat) = [] ∧ (0 : Int) = (0 : Int) ∧ [] ++ [(0 : Nat)] = [] ++ [(0 : Nat)] ∧ t.fst = t.fst ∧ inB t.fst (1 : Int) (5 : Int) = inB t.fst (1 : Int) (5 : Int) ∧ (!inB t.fst (1 : Int) (5 : Int)) = !inB t.fst (1 : Int) (5 : Int) ∧ [] ++ [(1 : Nat)] = [] ++ [(1 : Nat)] ∧ t.snd.fst = t.snd.fst ∧ (↑(List.length t.snd.fst) : Int) = (↑(List.length t.snd.fst) : Int) ∧ decide ((24 : Int) < (↑(List.length t.snd.fst) : Int)) = decide ((24 : Int) < (↑(List.length t.snd.fst) : Int)) ∧ [] ++ [(1 : Nat)] = [] ++ [(1 : Nat)] ∧ t.snd.fst = t.snd.fst ∧ (↑(List.length t.snd.fst) : Int) = (↑(List.length t.snd.fst) : Int) ∧ (↑x : Int) + (1 : Int) = (↑x_1 : Int) ∧ True) ∧ (((24 : Nat) = (24 : Nat) ∧ t = t) ∧ True) ∧ True)) ∧ (decide ((0 : Int) ≤ (List.getD t.snd.fst (↑x : Int).toNat ((0 : Int), (0 : Int), ())).snd.fst) = false → inK IntKind.i64 ((↑x : Int) + (1 : Int)) ∧ ∃ (x_1 : Nat), (chk t = evsErr t.fst t.snd.fst (t.snd.fst.length - x_1) x_1 ∧ x_1 ≤ t.snd.fst.length) ∧ t.snd.fst.length - x_1 < t.snd.fst.length - x ∧ (t = t ∧ ([] : List Nat) = [] ∧ (0 : Int) = (0 : Int) ∧ [] ++ [(0 : Nat)] = [] ++ [(0 : Nat)] ∧ t.fst = t.fst ∧ inB t.fst (1 : Int) (5 : Int) = inB t.fst (1 : Int) (5 : Int) ∧ (!inB t.fst (1 : Int) (5 : Int)) = !inB t.fst (1 : Int) (5 : Int) ∧ [] ++ [(1 : Nat)] = [] ++ [(1 : Nat)] ∧ t.snd.fst = t.snd.fst ∧ (↑(List.length t.snd.fst) : Int) = (↑(List.length t.snd.fst) : Int) ∧ decide ((24 : Int) < (↑(List.length t.snd.fst) : Int)) = decide ((24 : Int) < (↑(List.length t.snd.fst) : Int)) ∧ [] ++ [(1 : Nat)] = [] ++ [(1 : Nat)] ∧ t.snd.fst = t.snd.fst ∧ (↑(List.length t.snd.fst) : Int) = (↑(List.length t.snd.fst) : Int) ∧ (↑x : Int) + (1 : Int) = (↑x_1 : Int) ∧ True) ∧ (((24 : Nat) = (24 : Nat) ∧ t = t) ∧ True) ∧ True)))) ∧ (decide ((↑x : Int) < (↑(List.length t.snd.fst) : Int)) = false → k [Dat.mk (Ty.err (71 : Nat)) (0 : Int)])))) := by kernel_rfl
end Go.Proofs.YtbpoeigaoakdiaaDoor

/- Traces: the small functions keep their contracts. -/
namespace Go.Proofs.YtbpoeigaoakdiaaDoor
open Go.Vc

theorem mixed : Tryd.prog.follows .mixedOrders = true := by kernel_rfl

theorem okWithin : PlainOk Tryd.prog [] 44 cWithin := by
  refine plain_of (CxOk.mk' Et_ok rfl mixed (gl := []) GOk.nil GoOk.nil noIt) Tryd.func44 (c := Tryd.f44.body.getD .skip) (rvs := [(.tmp 6, .bool)]) (by kernel_rfl) (by kernel_rfl) (by kernel_rfl) ?_
  intro ds k ⟨hp, hk⟩ hwf
  obtain ⟨a, b, c, rfl, -⟩ := dest3 hp
  have hk : k [⟨.bool, inB a b c⟩] := hk
  refine ⟨[], ?_⟩
  rw [vcWithin]
  unfold inB at hk
  refine ⟨fun h => ?_, fun h => ?_⟩ <;> simpa [h] using hk

theorem two_pow_le {n : Nat} (h : n ≤ 62) : (2 : Int) ^ n ≤ 4611686018427387904 := by
  have : 2 ^ n ≤ 2 ^ 62 := Nat.pow_le_pow_right (by decide) h
  have h2 : ((2 ^ n : Nat) : Int) ≤ ((2 ^ 62 : Nat) : Int) := Int.ofNat_le.2 this
  rw [Int.natCast_pow] at h2
  exact h2
theorem two_pow_pos (n : Nat) : (0 : Int) < (2 : Int) ^ n := Int.pow_pos (by decide)

theorem okPow2 : PlainOk Tryd.prog [] 56 cPow2 := by
  refine plain_of (CxOk.mk' Et_ok rfl mixed (gl := []) GOk.nil GoOk.nil noIt) Tryd.func56 (c := Tryd.f56.body.getD .skip) (rvs := [(.tmp 2, I)]) (by kernel_rfl) (by kernel_rfl) (by kernel_rfl) ?_
  intro ds k ⟨hp, hk⟩ hwf
  obtain ⟨n, rfl, hn, -⟩ := dest1 hp
  have hk : k [⟨I, (2 : Int) ^ n.toNat⟩] := hk
  refine ⟨anPow2 n, ?_⟩
  rw [vcPow2]
  simp only [decide_eq_true_eq, decide_eq_false_iff_not, inK_i64, and_true, true_and]
  refine ⟨⟨0, by omega, rfl, rfl⟩, fun x hx => ⟨fun h => ?_, fun h => ?_⟩⟩
  · have h1 := two_pow_le (n := x + 1) (by omega)
    have h2 := two_pow_pos (x + 1)
    rw [Int.pow_succ] at h1 h2
    refine ⟨by omega, by omega, x + 1, by omega, by omega, by rw [Int.pow_succ], by omega⟩
  · have : x = n.toNat := by omega
    rw [this]; exact hk

theorem tdivN (n x : Nat) : (n : Int).tdiv ((2 : Int) ^ x) = ((n / 2 ^ x : Nat) : Int) := by
  rw [show (2 : Int) ^ x = ((2 ^ x : Nat) : Int) by rw [Int.natCast_pow]; rfl, ← Int.ofNat_tdiv]
theorem tdiv_pow (s : Int) (x : Nat) : (s.tdiv ((2 : Int) ^ x)).tdiv 2 = s.tdiv ((2 : Int) ^ (x + 1)) := by
  have key : ∀ n : Nat, ((n : Int).tdiv ((2 : Int) ^ x)).tdiv 2 = (n : Int).tdiv ((2 : Int) ^ (x + 1)) := by
    intro n
    rw [tdivN, tdivN, Nat.pow_succ, ← Nat.div_div_eq_div_mul]
    have := tdivN (n / 2 ^ x) 1
    simpa using this
  rcases Int.le_total 0 s with h | h
  · obtain ⟨n, rfl⟩ := Int.eq_ofNat_of_zero_le h
    exact key n
  · obtain ⟨n, hn⟩ := Int.eq_ofNat_of_zero_le (show 0 ≤ -s by omega)
    have e : s = -(n : Int) := by omega
    rw [e, Int.neg_tdiv, Int.neg_tdiv, Int.neg_tdiv, key]

theorem bit_of {s : Int} {x : Nat} : decide ((s.tdiv ((2 : Int) ^ x)).tmod 2 = 1) = bitB s x := by
  unfold bitB
  by_cases h : 0 ≤ s
  · obtain ⟨n, rfl⟩ := Int.eq_ofNat_of_zero_le h
    have e : ((n : Int).tdiv ((2 : Int) ^ x)).tmod 2 = ((n / 2 ^ x % 2 : Nat) : Int) := by
      rw [show (2 : Int) ^ x = ((2 ^ x : Nat) : Int) by rw [Int.natCast_pow]; rfl, ← Int.ofNat_tdiv]
      exact (Int.ofNat_tmod _ 2).symm
    rw [e]
    simp only [h, decide_true, Bool.true_and, Int.toNat_natCast]
    rw [Nat.testBit_eq_decide_div_mod_eq]
    apply decide_eq_decide.2
    exact ⟨fun h => by exact_mod_cast h, fun h => by exact_mod_cast h⟩
  · have hd : decide (0 ≤ s) = false := by simpa using h
    rw [hd, Bool.false_and]
    have hle : s.tdiv ((2 : Int) ^ x) ≤ 0 := by
      have := Int.tdiv_nonneg (a := -s) (b := (2 : Int) ^ x) (by omega) (Int.le_of_lt (two_pow_pos x))
      rw [Int.neg_tdiv] at this; omega
    simp only [decide_eq_false_iff_not]
    intro hc
    have h2 := Int.tmod_nonneg (a := -(s.tdiv ((2 : Int) ^ x))) 2 (by omega)
    rw [Int.neg_tmod] at h2
    omega

theorem tdiv_in {s : Int} (h : inK .i64 s) (x : Nat) : inK .i64 (s.tdiv ((2 : Int) ^ x)) ∧ inK .i64 ((s.tdiv ((2 : Int) ^ x)).tmod 2) := by
  rw [inK_i64] at h
  have key : ∀ n : Nat, ((n : Int).tdiv ((2 : Int) ^ x)) ≤ n ∧ 0 ≤ ((n : Int).tdiv ((2 : Int) ^ x)) := by
    intro n
    rw [tdivN]
    have h := Nat.div_le_self n (2 ^ x)
    generalize n / 2 ^ x = q at h
    omega
  have hb : -9223372036854775808 ≤ s.tdiv ((2 : Int) ^ x) ∧ s.tdiv ((2 : Int) ^ x) ≤ 9223372036854775807 := by
    rcases Int.le_total 0 s with h0 | h0
    · obtain ⟨n, rfl⟩ := Int.eq_ofNat_of_zero_le h0
      have := key n; omega
    · obtain ⟨n, hn⟩ := Int.eq_ofNat_of_zero_le (show 0 ≤ -s by omega)
      have e : s = -(n : Int) := by omega
      have := key n
      rw [e, Int.neg_tdiv]; omega
  refine ⟨inK_i64.2 hb, inK_i64.2 ?_⟩
  generalize s.tdiv ((2 : Int) ^ x) = q at hb
  have := Int.tmod_two_eq q
  omega

theorem okBit : PlainOk Tryd.prog [] 49 cBit := by
  refine plain_of (CxOk.mk' Et_ok rfl mixed (gl := []) GOk.nil GoOk.nil noIt) Tryd.func49 (c := Tryd.f49.body.getD .skip) (rvs := [(.tmp 4, .bool)]) (by kernel_rfl) (by kernel_rfl) (by kernel_rfl) ?_
  intro ds k ⟨hp, hk⟩ hwf
  obtain ⟨s, i, rfl, -⟩ := dest2 hp
  have hk : k [⟨.bool, bitB s i⟩] := hk
  have hs : inK .i64 s := (wf2 hwf).1
  have hi := inK_i64.1 ((wf2 hwf).2 : inK .i64 i)
  refine ⟨anBit s i, ?_⟩
  rw [vcBit]
  simp only [decide_eq_true_eq, decide_eq_false_iff_not, and_true, true_and, Bool.not_eq_true', Bool.not_eq_false', ne_eq]
  have ret : ∀ x : Nat, bitB s x = bitB s i → k [⟨.bool, decide ((s.tdiv ((2 : Int) ^ x)).tmod 2 = 1)⟩] := by
    intro x hx; rw [bit_of, hx]; exact hk
  refine ⟨⟨0, by omega, by simp, rfl⟩, fun x hx => ⟨fun h => ⟨fun h0 => ⟨by decide, ?_, by rw [inK_i64]; omega, x + 1, by omega, by omega, tdiv_pow s x, by omega⟩, fun h0 => ⟨by decide, (tdiv_in hs x).2, ret x ?_⟩⟩, fun h => ⟨by decide, (tdiv_in hs x).2, ret x ?_⟩⟩⟩
  · rw [tdiv_pow]; exact (tdiv_in hs (x + 1)).1
  · unfold bitB
    by_cases hs0 : 0 ≤ s
    · obtain ⟨n, hn⟩ := Int.eq_ofNat_of_zero_le hs0
      rw [hn, tdivN] at h0
      have h0' : n / 2 ^ x = 0 := by exact_mod_cast h0
      have hlt : n < 2 ^ x := by
        rcases Nat.lt_or_ge n (2 ^ x) with h | h
        · exact h
        · have := Nat.div_pos h (Nat.two_pow_pos x); omega
      have hf : ∀ j, x ≤ j → n.testBit j = false := fun j hj => Nat.testBit_lt_two_pow (Nat.lt_of_lt_of_le hlt (Nat.pow_le_pow_right (by decide) hj))
      have e1 : s.toNat = n := by rw [hn]; rfl
      rw [e1, hf _ (by rw [Int.toNat_natCast]; exact Nat.le_refl _), hf _ (by omega)]
    · have : decide (0 ≤ s) = false := by simpa using hs0
      rw [this]; rfl
  · have : (x : Int).toNat = i.toNat := by omega
    unfold bitB; rw [this]
end Go.Proofs.YtbpoeigaoakdiaaDoor

/- Traces: sets in sets; what is wrong with a trace. -/
namespace Go.Proofs.YtbpoeigaoakdiaaDoor
open Go.Vc

theorem subN_fuel : ∀ (f g a : Nat) (b : Int), a ≤ f → a ≤ g → subN f a b = subN g a b := by
  intro f
  induction f with
  | zero =>
    intro g a b h1 h2
    have : a = 0 := by omega
    subst this
    cases g <;> simp [subN]
  | succ f ih =>
    intro g a b h1 h2
    cases g with
    | zero =>
      have : a = 0 := by omega
      subst this
      simp [subN]
    | succ g =>
      unfold subN
      by_cases h : a = 0
      · simp [h]
      · rw [if_neg h, if_neg h, ih g (a / 2) (b.tdiv 2) (by omega) (by omega)]

theorem subB_pos {a b : Int} (h : 0 < a) : subB a b = if a.tmod 2 = 1 ∧ b.tmod 2 = 0 then false else subB (a.tdiv 2) (b.tdiv 2) := by
  obtain ⟨n, rfl⟩ := Int.eq_ofNat_of_zero_le (Int.le_of_lt h)
  have hn : 0 < n := by omega
  have e1 : ((n : Int).tdiv 2) = ((n / 2 : Nat) : Int) := by simp
  have e2 : ((n : Int).tmod 2 = 1) ↔ n % 2 = 1 := by
    have : (n : Int).tmod 2 = ((n % 2 : Nat) : Int) := (Int.ofNat_tmod n 2).symm
    rw [this]; omega
  rw [e1]
  unfold subB
  simp only [Int.toNat_natCast, e2]
  obtain ⟨m, rfl⟩ : ∃ m, n = m + 1 := ⟨n - 1, by omega⟩
  rw [subN, if_neg (by omega)]
  rw [subN_fuel m ((m + 1) / 2) ((m + 1) / 2) _ (by omega) (Nat.le_refl _)]

theorem subB_neg {a b : Int} (h : ¬ 0 < a) : subB a b = true := by
  unfold subB
  have : a.toNat = 0 := by omega
  rw [this]; rfl

theorem half_in {q : Int} (h : inK .i64 q) : inK .i64 (q.tmod 2) ∧ inK .i64 (q.tdiv 2) := by
  have h1 := tdiv_in h 0
  have h2 := tdiv_in h 1
  simp only [Int.pow_zero, Int.tdiv_one] at h1
  rw [Int.pow_succ, Int.pow_zero, Int.one_mul] at h2
  exact ⟨h1.2, h2.1⟩

theorem okSub : PlainOk Tryd.prog [] 57 cSub := by
  refine plain_of (CxOk.mk' Et_ok rfl mixed (gl := []) GOk.nil GoOk.nil noIt) Tryd.func57 (c := Tryd.f57.body.getD .skip) (rvs := [(.tmp 4, .bool)]) (by kernel_rfl) (by kernel_rfl) (by kernel_rfl) ?_
  intro ds k ⟨hp, hk⟩ hwf
  obtain ⟨a, b, rfl, -⟩ := dest2 hp
  have hk : k [⟨.bool, subB a b⟩] := hk
  have ha : inK .i64 a := (wf2 hwf).1
  have hb : inK .i64 b := (wf2 hwf).2
  refine ⟨anSub a b, ?_⟩
  rw [vcSub]
  simp only [decide_eq_true_eq, decide_eq_false_iff_not, and_true, true_and, ne_eq]
  have ret : ∀ x : Bool, subB a b = x → k [⟨.bool, x⟩] := by rintro _ rfl; exact hk
  have h20 : ¬ (2 : Int) = 0 := by decide
  refine ⟨⟨(a, b), ⟨rfl, ha, hb⟩, rfl, rfl⟩, fun x ⟨h1, h2, h3⟩ => ⟨fun h => ?_, fun h => ret _ (by rw [h1, subB_neg h])⟩⟩
  have hst := subB_pos (b := x.2) h
  have hlt : (x.1.tdiv 2).toNat < x.1.toNat := by
    obtain ⟨n, hn⟩ := Int.eq_ofNat_of_zero_le (Int.le_of_lt h)
    have e1 : (x.1.tdiv 2) = ((n / 2 : Nat) : Int) := by rw [hn]; simp
    rw [e1]; omega
  refine ⟨h20, (half_in h2).1, fun h4 => ⟨h20, (half_in h3).1, fun h5 => ret _ (by rw [h1, hst, if_pos ⟨h4, h5⟩]), fun h5 => ⟨h20, (half_in h2).2, h20, (half_in h3).2, (x.1.tdiv 2, x.2.tdiv 2), ⟨by rw [h1, hst, if_neg (fun h => h5 h.2)], (half_in h2).2, (half_in h3).2⟩, hlt, rfl, rfl⟩⟩,
    fun h4 => ⟨h20, (half_in h2).2, h20, (half_in h3).2, (x.1.tdiv 2, x.2.tdiv 2), ⟨by rw [h1, hst, if_neg (fun h => h4 h.1)], (half_in h2).2, (half_in h3).2⟩, hlt, rfl, rfl⟩⟩

theorem okCheck : PlainOk Tryd.prog [] 10 cCheck := by
  refine plain_of (CxOk.mk' Et_ok rfl mixed (gl := []) (GOk.cons okWithin Tryd.func44 (by kernel_rfl) (by kernel_rfl) GOk.nil) GoOk.nil noIt) Tryd.func10 (c := Tryd.f10.body.getD .skip) (rvs := [(.tmp 2, tErr)]) (by kernel_rfl) (by kernel_rfl) (by kernel_rfl) ?_
  intro ds k ⟨hp, hk⟩ hwf
  obtain ⟨t, rfl, -⟩ := dest1 hp
  revert hk hwf
  revert t
  intro (t : Tr) _ hk hwf
  have hk : k [⟨tErr, chk t⟩] := hk
  have ht : inK .i64 t.1 := (wf1 hwf).1
  refine ⟨anCheck t, ?_⟩
  rw [vcCheck]
  have ret : ∀ x : Int, chk t = x → k [⟨tErr, x⟩] := by rintro _ rfl; exact hk
  simp only [decide_eq_true_eq, decide_eq_false_iff_not, and_true, true_and, ne_eq, Bool.not_eq_true', Bool.not_eq_false', Int.toNat_natCast]
  have h10 : ¬ (1 : Int) = 0 := by decide
  have h40 : ¬ (4 : Int) = 0 := by decide
  have h60 : ¬ (6 : Int) = 0 := by decide
  refine ⟨fun h => ⟨h10, ret _ (by unfold chk; rw [if_pos h])⟩, fun h => ⟨fun g => ⟨h40, ret _ (by unfold chk; rw [if_neg (by rw [h]; decide), if_pos (by omega)])⟩, fun g => ?_⟩⟩
  have hp : 1 ≤ t.1 ∧ t.1 ≤ 5 := by simpa [inB] using h
  have hlen : t.2.1.length ≤ 24 := by omega
  have hc0 : chk t = evsErr t.1 t.2.1 t.2.1.length 0 := by
    unfold chk; rw [if_neg (by rw [h]; decide), if_neg (by omega)]
  have hstep : ∀ x, x < t.2.1.length → evsErr t.1 t.2.1 (t.2.1.length - x) x = if evErr t.1 t.2.1 x = 0 then evsErr t.1 t.2.1 (t.2.1.length - (x + 1)) (x + 1) else evErr t.1 t.2.1 x := by
    intro x hx
    rw [show t.2.1.length - x = (t.2.1.length - (x + 1)) + 1 by omega]
    rfl
  refine ⟨⟨0, ⟨hc0, Nat.zero_le _⟩, rfl⟩, fun x ⟨hx, hxl⟩ => ⟨fun hlt => ?_, fun hge => ret _ ?_⟩⟩
  · have hst := hstep x (by omega)
    have bad : ∀ n, evErr t.1 t.2.1 x = n → n ≠ 0 → k [⟨tErr, n⟩] := fun n h1 h2 => ret n (by rw [hx, hst, if_neg (by rw [h1]; exact h2), h1])
    have good : evErr t.1 t.2.1 x = 0 → inK IntKind.i64 ((x : Int) + 1) ∧ ∃ x', (chk t = evsErr t.1 t.2.1 (t.2.1.length - x') x' ∧ x' ≤ t.2.1.length) ∧ t.2.1.length - x' < t.2.1.length - x ∧ (x : Int) + 1 = (x' : Int) := fun h1 =>
      ⟨inK_i64.2 (by omega), x + 1, ⟨by rw [hx, hst, if_pos h1], by omega⟩, by omega, by omega⟩
    refine ⟨by omega, hlt, inK_i64.2 (by omega), fun h1 => ⟨h10, bad 1 ?_ h10⟩, fun h1 => ⟨inK_i64.2 (by omega), fun h2 => ⟨h10, bad 1 ?_ h10⟩, fun h2 => ⟨fun h3 => ⟨h3, ?_, fun h4 => ⟨h60, bad 6 ?_ h60⟩, fun h4 => good ?_⟩, fun h3 => good ?_⟩⟩⟩
    · unfold evErr; rw [if_pos (by rw [h1]; rfl)]
    · unfold evErr; rw [if_pos (by rw [h1, h2]; rfl)]
    · have : (t.2.1.getD x (0, 0, ())).2.1 ≤ (x : Int) - 1 := by
        simp only [inB, Bool.and_eq_true, decide_eq_true_eq] at h2; exact h2.2
      omega
    · unfold evErr; rw [if_neg (by rw [h1, h2]; decide), if_pos ⟨h3, h4⟩]
    · unfold evErr; rw [if_neg (by rw [h1, h2]; decide), if_neg (fun h => h4 h.2)]
    · unfold evErr; rw [if_neg (by rw [h1, h2]; decide), if_neg (fun h => h3 h.1)]
  · have : x = t.2.1.length := by omega
    rw [hx, this, Nat.sub_self]; rfl
end Go.Proofs.YtbpoeigaoakdiaaDoor

/- Traces: what happened before what. -/
namespace Go.Proofs.YtbpoeigaoakdiaaDoor
open Go.Vc
def bst (l : List Ev) : Nat → List Nat × List Nat
  | 0 => (List.replicate l.length 0, List.replicate 5 0)
  | i + 1 =>
    ((bst l i).1.set i (if 0 ≤ (l.getD i (0, 0, ())).2.1 then (bst l i).2.getD (l.getD i (0, 0, ())).1.toNat 0 ||| ((bst l i).1.getD (l.getD i (0, 0, ())).2.1.toNat 0 ||| 2 ^ (l.getD i (0, 0, ())).2.1.toNat) else (bst l i).2.getD (l.getD i (0, 0, ())).1.toNat 0),
     (bst l i).2.set (l.getD i (0, 0, ())).1.toNat ((if 0 ≤ (l.getD i (0, 0, ())).2.1 then (bst l i).2.getD (l.getD i (0, 0, ())).1.toNat 0 ||| ((bst l i).1.getD (l.getD i (0, 0, ())).2.1.toNat 0 ||| 2 ^ (l.getD i (0, 0, ())).2.1.toNat) else (bst l i).2.getD (l.getD i (0, 0, ())).1.toNat 0) ||| 2 ^ i))
def ints (l : List Nat) : List Int := l.map fun (n : Nat) => (n : Int)
/-- of each event all that happened before it -/
def befN (t : Tr) : List Nat := (bst t.2.1 t.2.1.length).1
def bef (t : Tr) : List Int := if chk t = 0 then ints (befN t) else []
def cBefore : Ctr := cdet [tTr] (fun _ => True) (fun t => [⟨.sl I, bef t⟩, ⟨tErr, chk t⟩])
def anBefore (t : Tr) : Ann := an1 Nat 7 (fun st i => { St.at st [(21, .d I (i : Int)), (7, .any), (8, .any)] with ob := (st.ob.set 1 (.row 3 I (ints (bst t.2.1 i).1))).set 2 (.var 74 (.ar 5 I) (ints (bst t.2.1 i).2)) }) (fun i => i ≤ t.2.1.length ∧ chk t = 0) (fun i => t.2.1.length - i)
end Go.Proofs.YtbpoeigaoakdiaaDoor

/- What the functions of this seat have to satisfy, by program: each verification condition in plain words. -/
namespace Go.Proofs.YtbpoeigaoakdiaaDoor
open Go.Vc
set_option linter.unusedVariables false
theorem vcBefore (t : Tr) (k : List Dat → Prop) : vcF ⟨Et, [(10, cCheck)], [], [], []⟩ (anBefore t) (Tryd.f13.body.getD .skip) Tryd.f13.ntmps [(.tmp 2, .sl I), (.tmp 3, tErr)] [⟨tTr, t⟩] k = (
  True ∧ ((!decide (chk t = (0 : Int))) = true → k [Dat.mk (I).sl [], Dat.mk (Ty.err (71 : Nat)) (chk t)]) ∧ ((!decide (chk t = (0 : Int))) = false → (0 : Int) ≤ (↑(List.length t.snd.fst) : Int) ∧ (↑(List.length t.snd.fst) : Int) ≤ (↑(List.length t.snd.fst) : Int) ∧ (↑(List.length t.snd.fst) : Int) ≤ (1000000000 : Int) ∧ (∃ (x : Nat), (x ≤ t.snd.fst.length ∧ chk t = (0 : Int)) ∧ (t = t ∧ ([] : List Nat) = [] ∧ True ∧ (0 : Int) = (0 : Int) ∧ chk t = chk t ∧ True ∧ ([] : List Nat) = [] ∧ t = t ∧ chk t = chk t ∧ chk t = chk t ∧ (!decide (chk t = (0 : Int))) = !decide (chk t = (0 : Int)) ∧ [] ++ [(1 : Nat)] = [] ++ [(1 : Nat)] ∧ t.snd.fst = t.snd.fst ∧ (↑(List.length t.snd.fst) : Int) = (↑(List.length t.snd.fst) : Int) ∧ True ∧ [] ++ [(1 : Nat)] = [] ++ [(1 : Nat)] ∧ t.snd.fst = t.snd.fst ∧ (↑(List.length t.snd.fst) : Int) = (↑(List.length t.snd.fst) : Int) ∧ (0 : Int) = (↑x : Int) ∧ True) ∧ (((24 : Nat) = (24 : Nat) ∧ t = t) ∧ ((3 : Nat) = (3 : Nat) ∧ List.replicate (↑(List.length t.snd.fst) : Int).toNat (0 : Int) = ints (bst t.snd.fst x).fst) ∧ ((74 : Nat) = (74 : Nat) ∧ List.replicate (5 : Nat) (0 : Int) = ints (bst t.snd.fst x).snd) ∧ True) ∧ True) ∧ ∀ (x : Nat), x ≤ t.snd.fst.length ∧ chk t = (0 : Int) → (decide ((↑x : Int) < (↑(List.length t.snd.fst) : Int)) = true → (0 : Int) ≤ (↑x : Int) ∧ (↑x : Int) < (↑(List.length t.snd.fst) : Int) ∧ (0 : Int) ≤ (List.getD t.snd.fst (↑x : Int).toNat ((0 : Int), (0 : Int), ())).fst ∧ (List.getD t.snd.fst (↑x : Int).toNat ((0 : Int), (0 : Int), ())).fst < (↑(5 : Nat) : Int) ∧ (0 : Int) ≤ (↑x : Int) ∧ (↑x : Int) < (↑(ints (bst t.snd.fst x).fst).length : Int) ∧ (decide ((0 : Int) ≤ (List.getD t.snd.fst (↑x : Int).toNat ((0 : Int), (0 : Int), ())).snd.fst) = true → (0 : Int) ≤ (↑x : Int) ∧ (↑x : Int) < (↑((ints (bst t.snd.fst x).fst).set (↑x : Int).toNat ((ints (bst t.snd.fst x).snd).getD (Int.toNat (List.getD t.snd.fst (↑x : Int).toNat ((0 : Int), (0 : Int), ())).fst) (0 : Int))).length : Int) ∧ (0 : Int) ≤ (List.getD t.snd.fst (↑x : Int).toNat ((0 : Int), (0 : Int), ())).snd.fst ∧ (List.getD t.snd.fst (↑x : Int).toNat ((0 : Int), (0 : Int), ())).snd.fst < (↑((ints (bst t.snd.fst x).fst).set (↑x : Int).toNat ((ints (bst t.snd.fst x).snd).getD (Int.toNat (List.getD t.snd.fst (↑x : Int).toNat ((0 : Int), (0 : Int), ())).fst) (0 : Int))).length : Int) ∧ (0 : Int) ≤ (List.getD t.snd.fst (↑x : Int).toNat ((0 : Int), (0 : Int), ())).snd.fst ∧ (List.getD t.snd.fst (↑x : Int).toNat ((0 : Int), (0 : Int), ())).snd.fst < (64 : Int) ∧ IntKind.i64.bits = (64 : Nat) ∧ inK IntKind.i64 ((1 : Int) * (2 : Int) ^ Int.toNat (List.getD t.snd.fst (↑x : Int).toNat ((0 : Int), (0 : Int), ())).snd.fst) ∧ (0 : Int) ≤ ((ints (bst t.snd.fst x).fst).set (↑x : Int).toNat ((ints (bst t.snd.fst x).snd).getD (Int.toNat (List.getD t.snd.fst (↑x : Int).toNat ((0 : Int), (0 : Int), ())).fst) (0 : Int))).getD (Int.toNat (List.getD t.snd.fst (↑x : Int).toNat ((0 : Int), (0 : Int), ())).snd.fst) (0 : Int) ∧ (0 : Int) ≤ (1 : Int) * (2 : Int) ^ Int.toNat (List.getD t.snd.fst (↑x : Int).toNat ((0 : Int), (0 : Int), ())).snd.fst ∧ (0 : Int) ≤ ((ints (bst t.snd.fst x).fst).set (↑x : Int).toNat ((ints (bst t.snd.fst x).snd).getD (Int.toNat (List.getD t.snd.fst (↑x : Int).toNat ((0 : Int), (0 : Int), ())).fst) (0 : Int))).getD (↑x : Int).toNat (0 : Int) ∧ (0 : Int) ≤ (↑((((ints (bst t.snd.fst x).fst).set (↑x : Int).toNat ((ints (bst t.snd.fst x).snd).getD (Int.toNat (List.getD t.snd.fst (↑x : Int).toNat ((0 : Int), (0 : Int), ())).fst) (0 : Int))).getD (Int.toNat (List.getD t.snd.fst (↑x : Int).toNat ((0 : Int), (0 : Int), ())).snd.fst) (0 : Int)).toNat ||| ((1 : Int) * (2 : Int) ^ Int.toNat (List.getD t.snd.fst (↑x : Int).toNat ((0 : Int), (0 : Int), ())).snd.fst).toNat) : Int) ∧ (0 : Int) ≤ (↑x : Int) ∧ (↑x : Int) < (↑((ints (bst t.snd.fst x).fst).set (↑x : Int).toNat ((ints (bst t.snd.fst x).snd).getD (Int.toNat (List.getD t.snd.fst (↑x : Int).toNat ((0 : Int), (0 : Int), ())).fst) (0 : Int))).length : Int) ∧ (0 : Int) ≤ (↑x : Int) ∧ (↑x : Int) < (↑(((ints (bst t.snd.fst x).fst).set (↑x : Int).toNat ((ints (bst t.snd.fst x).snd).getD (Int.toNat (List.getD t.snd.fst (↑x : Int).toNat ((0 : Int), (0 : Int), ())).fst) (0 : Int))).set (↑x : Int).toNat (↑((((ints (bst t.snd.fst x).fst).set (↑x : Int).toNat ((ints (bst t.snd.fst x).snd).getD (Int.toNat (List.getD t.snd.fst (↑x : Int).toNat ((0 : Int), (0 : Int), ())).fst) (0 : Int))).getD (↑x : Int).toNat (0 : Int)).toNat ||| (↑((((ints (bst t.snd.fst x).fst).set (↑x : Int).toNat ((ints (bst t.snd.fst x).snd).getD (Int.toNat (List.getD t.snd.fst (↑x : Int).toNat ((0 : Int), (0 : Int), ())).fst) (0 : Int))).getD (Int.toNat (List.getD t.snd.fst (↑x : Int).toNat ((0 : Int), (0 : Int), ())).snd.fst) (0 : Int)).toNat ||| ((1 : Int) * (2 : Int) ^ Int.toNat (List.getD t.snd.fst (↑x : Int).toNat ((0 : Int), (0 : Int), ())).snd.fst).toNat) : Int).toNat) : Int)).length : Int) ∧ (0 : Int) ≤ (↑x : Int) ∧ (↑x : Int) < (64 : Int) ∧ IntKind.i64.bits = (64 : Nat) ∧ inK IntKind.i64 ((1 : Int) * (2 : Int) ^ (↑x : Int).toNat) ∧ (0 : Int) ≤ (((ints (bst t.snd.fst x).fst).set (↑x : Int).toNat ((ints (bst t.snd.fst x).snd).getD (Int.toNat (List.getD t.snd.fst (↑x : Int).toNat ((0 : Int), (0 : Int), ())).fst) (0 : Int))).set (↑x : Int).toNat (↑((((ints (bst t.snd.fst x).fst).set (↑x : Int).toNat ((ints (bst t.snd.fst x).snd).getD (Int.toNat (List.getD t.snd.fst (↑x : Int).toNat ((0 : Int), (0 : Int), ())).fst) (0 : Int))).getD (↑x : Int).toNat (0 : Int)).toNat ||| (↑((((ints (bst t.snd.fst x).fst).set (↑x : Int).toNat ((ints (bst t.snd.fst x).snd).getD (Int.toNat (List.getD t.snd.fst (↑x : Int).toNat ((0 : Int), (0 : Int), ())).fst) (0 : Int))).getD (Int.toNat (List.getD t.snd.fst (↑x : Int).toNat ((0 : Int), (0 : Int), ())).snd.fst) (0 : Int)).toNat ||| ((1 : Int) * (2 : Int) ^ Int.toNat (List.getD t.snd.fst (↑x : Int).toNat ((0 : Int), (0 : Int), ())).snd.fst).toNat) : Int).toNat) : Int)).getD (↑x : Int).toNat (0 : Int) ∧ (0 : Int) ≤ (1 : Int) * (2 : Int) ^ (↑x : Int).toNat ∧ (0 : Int) ≤ (List.getD t.snd.fst (↑x : Int).toNat ((0 : Int), (0 : Int), ())).fst ∧ (List.getD t.snd.fst (↑x : Int).toNat ((0 : Int), (0 : Int), ())).fst < (↑(5 : Nat) : Int) ∧ inK IntKind.i64 ((↑x : Int) + (1 : Int)) ∧ ∃ (x_1 : Nat), (x_1 ≤ t.snd.fst.length ∧ chk t = (0 : Int)) ∧ t.snd.fst.length - x_1 < t.snd.fst.length - x ∧ (t = t ∧ ([] : List Nat) = [] ∧ True ∧ (0 : Int) = (0 : Int) ∧ chk t = chk t ∧ True ∧ ([] : List Nat) = [] ∧ t = t ∧ chk t = chk t ∧ chk t = chk t ∧ (!decide (chk t = (0 : Int))) = !decide (chk t = (0 : Int)) ∧ [] ++ [(1 : Nat)] = [] ++ [(1 : Nat)] ∧ t.snd.fst = t.snd.fst ∧ (↑(List.length t.snd.fst) : Int) = (↑(List.length t.snd.fst) : Int) ∧ True ∧ [] ++ [(1 : Nat)] = [] ++ [(1 : Nat)] ∧ t.snd.fst = t.snd.fst ∧ (↑(List.length t.snd.fst) : Int) = (↑(List.length t.snd.fst) : Int) ∧ (↑x : Int) + (1 : Int) = (↑x_1 : Int) ∧ True) ∧ (((24 : Nat) = (24 : Nat) ∧ t = t) ∧ ((3 : Nat) = (3 : Nat) ∧ ((ints (bst t.snd.fst x).fst).set (↑x : Int).toNat ((ints (bst t.snd.fst x).snd).getD (Int.toNat (List.getD t.snd.fst (↑x : Int).toNat ((0 : Int), (0 : Int), ())).fst) (0 : Int))).set (↑x : Int).toNat (↑((((ints (bst t.snd.fst x).fst).set (↑x : Int).toNat ((ints (bst t.snd.fst x).snd).getD (Int.toNat (List.getD t.snd.fst (↑x : Int).toNat ((0 : Int), (0 : Int), ())).fst) (0 : Int))).getD (↑x : Int).toNat (0 : Int)).toNat ||| (↑((((ints (bst t.snd.fst x).fst).set (↑x : Int).toNat ((ints (bst t.snd.fst x).snd).getD (Int.toNat (List.getD t.snd.fst (↑x : Int).toNat ((0 : Int), (0 : Int), ())).fst) (0 : Int))).getD (Int.toNat (List.getD t.snd.fst (↑x : Int).toNat ((0 : Int), (0 : Int), ())).snd.fst) (0 : Int)).toNat ||| ((1 : Int) * (2 : Int) ^ Int.toNat (List.getD t.snd.fst (↑x : Int).toNat ((0 : Int), (0 : Int), ())).snd.fst).toNat) : Int).toNat) : Int) = ints (bst t.snd.fst x_1).fst) ∧ ((74 : Nat) = (74 : Nat) ∧ (ints (bst t.snd.fst x).snd).set (Int.toNat (List.getD t.snd.fst (↑x : Int).toNat ((0 : Int), (0 : Int), ())).fst) (↑(((((ints (bst t.snd.fst x).fst).set (↑x : Int).toNat ((ints (bst t.snd.fst x).snd).getD (Int.toNat (List.getD t.snd.fst (↑x : Int).toNat ((0 : Int), (0 : Int), ())).fst) (0 : Int))).set (↑x : Int).toNat (↑((((ints (bst t.snd.fst x).fst).set (↑x : Int).toNat ((ints (bst t.snd.fst x).snd).getD (Int.toNat (List.getD t.snd.fst (↑x : Int).toNat ((0 : Int), (0 : Int), ())).fst) (0 : Int))).getD (↑x : Int).toNat (0 : Int)).toNat ||| (↑((((ints (bst t.snd.fst x).fst).set (↑x : Int).toNat ((ints (bst t.snd.fst x).snd).getD (Int.toNat (List.getD t.snd.fst (↑x : Int).toNat ((0 : Int), (0 : Int), ())).fst) (0 : Int))).getD (Int.toNat (List.getD t.snd.fst (↑x : Int).toNat ((0 : Int), (0 : Int), ())).snd.fst) (0 : Int)).toNat ||| ((1 : Int) * (2 : Int) ^ Int.toNat (List.getD t.snd.fst (↑x : Int).toNat ((0 : Int), (0 : Int), ())).snd.fst).toNat) : Int).toNat) : Int)).getD (↑x : Int).toNat (0 : Int)).toNat ||| ((1 : Int) * (2 : Int) ^ (↑x : Int).toNat).toNat) : Int) = ints (bst t.snd.fst x_1).snd) ∧ True) ∧ True) ∧ (decide ((0 : Int) ≤ (List.getD t.snd.fst (↑x : Int).toNat ((0 : Int), (0 : Int), ())).snd.fst) = false → (0 : Int) ≤ (↑x : Int) ∧ (↑x : Int) < (↑((ints (bst t.snd.fst x).fst).set (↑x : Int).toNat ((ints (bst t.snd.fst x).snd).getD (Int.toNat (List.getD t.snd.fst (↑x : Int).toNat ((0 : Int), (0 : Int), ())).fst) (0 : Int))).length : Int) ∧ (0 : Int) ≤ (↑x : Int) ∧ (↑x : Int) < (64 : Int) ∧ IntKind.i64.bits = (64 : Nat) ∧ inK IntKind.i64 ((1 : Int) * (2 : Int) ^ (↑x : Int).toNat) ∧ (0 : Int) ≤ ((ints (bst t.snd.fst x).fst).set (↑x : Int).toNat ((ints (bst t.snd.fst x).snd).getD (Int.toNat (List.getD t.snd.fst (↑x : Int).toNat ((0 : Int), (0 : Int), ())).fst) (0 : Int))).getD (↑x : Int).toNat (0 : Int) ∧ (0 : Int) ≤ (1 : Int) * (2 : Int) ^ (↑x : Int).toNat ∧ (0 : Int) ≤ (List.getD t.snd.fst (↑x : Int).toNat ((0 : Int), (0 : Int), ())).fst ∧ (List.getD t.snd.fst (↑x : Int).toNat ((0 : Int), (0 : Int), ())).fst < (↑(5 : Nat) : Int) ∧ inK IntKind.i64 ((↑x : Int) + (1 : Int)) ∧ ∃ (x_1 : Nat), (x_1 ≤ t.snd.fst.length ∧ chk t = (0 : Int)) ∧ t.snd.fst.length - x_1 < t.snd.fst.length - x ∧ (t = t ∧ ([] : List Nat) = [] ∧ True ∧ (0 : Int) = (0 : Int) ∧ chk t = chk t ∧ True ∧ ([] : List Nat) = [] ∧ t = t ∧ chk t = chk t ∧ chk t = chk t ∧ (!decide (chk t = (0 : Int))) = !decide (chk t = (0 : Int)) ∧ [] ++ [(1 : Nat)] = [] ++ [(1 : Nat)] ∧ t.snd.fst = t.snd.fst ∧ (↑(List.length t.snd.fst) : Int) = (↑(List.length t.snd.fst) : Int) ∧ True ∧ [] ++ [(1 : Nat)] = [] ++ [(1 : Nat)] ∧ t.snd.fst = t.snd.fst ∧ (↑(List.length t.snd.fst) : Int) = (↑(List.length t.snd.fst) : Int) ∧ (↑x : Int) + (1 : Int) = (↑x_1 : Int) ∧ True) ∧ (((24 : Nat) = (24 : Nat) ∧ t = t) ∧ ((3 : Nat) = (3 : Nat) ∧ (ints (bst t.snd.fst x).fst).set (↑x : Int).toNat ((ints (bst t.snd.fst x).snd).getD (Int.toNat (List.getD t.snd.fst (↑x : Int).toNat ((0 : Int), (0 : Int), ())).fst) (0 : Int)) = ints (bst t.snd.fst x_1).fst) ∧ ((74 : Nat) = (74 : Nat) ∧ (ints (bst t.snd.fst x).snd).set (Int.toNat (List.getD t.snd.fst (↑x : Int).toNat ((0 : Int), (0 : Int), ())).fst) (↑((((ints (bst t.snd.fst x).fst).set (↑x : Int).toNat ((ints (bst t.snd.fst x).snd).getD (Int.toNat (List.getD t.snd.fst (↑x : Int).toNat ((0 : Int), (0 : Int), ())).fst) (0 : Int))).getD (↑x : Int).toNat (0 : Int)).toNat ||| ((1 : Int) * (2 : Int) ^ (↑x : Int).toNat).toNat) : Int) = ints (bst t.snd.fst x_1).snd) ∧ True) ∧ True)) ∧ (decide ((↑x : Int) < (↑(List.length t.snd.fst) : Int)) = false → k [Dat.mk (I).sl (ints (bst t.snd.fst x).fst), Dat.mk (Ty.err (71 : Nat)) (0 : Int)]))) := by kernel_rfl
end Go.Proofs.YtbpoeigaoakdiaaDoor

/- Traces: Before keeps its contract. -/
namespace Go.Proofs.YtbpoeigaoakdiaaDoor
open Go.Vc

theorem ints_getD (l : List Nat) (j : Nat) : (ints l).getD j (0 : Int) = ((l.getD j 0 : Nat) : Int) := by
  simp only [ints, List.getD_eq_getElem?_getD, List.getElem?_map]
  cases l[j]? <;> rfl
theorem ints_set (l : List Nat) (j n : Nat) : (ints l).set j (n : Int) = ints (l.set j n) := by simp [ints, List.map_set]
theorem ints_len (l : List Nat) : (ints l).length = l.length := by simp [ints]
theorem ints_rep (n : Nat) : List.replicate n (0 : Int) = ints (List.replicate n 0) := by simp [ints]
theorem one_shl (n : Nat) : (1 : Int) * (2 : Int) ^ n = ((2 ^ n : Nat) : Int) := by rw [Int.one_mul, Int.natCast_pow]; rfl

/-- A trace with which nothing is wrong. -/
structure Good (t : Tr) : Prop where
  procs : 1 ≤ t.1 ∧ t.1 ≤ 5
  len : t.2.1.length ≤ 24
  ev : ∀ i, i < t.2.1.length → 0 ≤ (t.2.1.getD i (0, 0, ())).1 ∧ (t.2.1.getD i (0, 0, ())).1 ≤ t.1 - 1 ∧ -1 ≤ (t.2.1.getD i (0, 0, ())).2.1 ∧ (t.2.1.getD i (0, 0, ())).2.1 ≤ (i : Int) - 1 ∧
    (0 ≤ (t.2.1.getD i (0, 0, ())).2.1 → (t.2.1.getD (t.2.1.getD i (0, 0, ())).2.1.toNat (0, 0, ())).1 ≠ (t.2.1.getD i (0, 0, ())).1)

theorem evsErr_zero {p : Int} {l : List Ev} : ∀ {f i : Nat}, evsErr p l f i = 0 → ∀ j, i ≤ j → j < i + f → evErr p l j = 0 := by
  intro f
  induction f with
  | zero => intro i _ j h1 h2; omega
  | succ f ih =>
    intro i h j h1 h2
    unfold evsErr at h
    split at h
    · rename_i h0
      by_cases hj : j = i
      · rw [hj]; exact h0
      · exact ih h j (by omega) (by omega)
    · rename_i h0; exact absurd h h0

theorem good_of {t : Tr} (h : chk t = 0) : Good t := by
  unfold chk at h
  split at h
  · cases h
  · rename_i h1
    split at h
    · cases h
    · rename_i h2
      have hp : 1 ≤ t.1 ∧ t.1 ≤ 5 := by simpa [inB] using h1
      refine ⟨hp, by omega, fun i hi => ?_⟩
      have he := evsErr_zero h i (Nat.zero_le _) (by omega)
      unfold evErr at he
      split at he
      · cases he
      · rename_i h3
        split at he
        · cases he
        · rename_i h4
          have h3' : (0 ≤ (t.2.1.getD i (0, 0, ())).1 ∧ (t.2.1.getD i (0, 0, ())).1 ≤ t.1 - 1) ∧ -1 ≤ (t.2.1.getD i (0, 0, ())).2.1 ∧ (t.2.1.getD i (0, 0, ())).2.1 ≤ (i : Int) - 1 := by
            simpa only [inB, Bool.not_eq_false, Bool.and_eq_true, decide_eq_true_eq] using h3
          exact ⟨h3'.1.1, h3'.1.2, h3'.2.1, h3'.2.2, fun h0 hc => h4 ⟨h0, hc⟩⟩

theorem bst_len (l : List Ev) : ∀ i, (bst l i).1.length = l.length ∧ (bst l i).2.length = 5
  | 0 => by simp [bst]
  | i + 1 => by
    have := bst_len l i
    simp [bst, this.1, this.2]

theorem getD_set_self {l : List Nat} {i n : Nat} (h : i < l.length) : (l.set i n).getD i 0 = n := by
  simp [List.getD_eq_getElem?_getD, h]
theorem getD_set_ne {l : List Nat} {i j n : Nat} (h : i ≠ j) : (l.set i n).getD j 0 = l.getD j 0 := by
  simp [List.getD_eq_getElem?_getD, List.getElem?_set_ne h]

theorem before_vc (t : Tr) (k : List Dat → Prop) (hk : k [⟨.sl I, bef t⟩, ⟨tErr, chk t⟩]) : vcF ⟨Et, [(10, cCheck)], [], [], []⟩ (anBefore t) (Tryd.f13.body.getD .skip) Tryd.f13.ntmps [(.tmp 2, .sl I), (.tmp 3, tErr)] [⟨tTr, t⟩] k := by
  rw [vcBefore]
  simp only [decide_eq_true_eq, decide_eq_false_iff_not, and_true, true_and, Bool.not_eq_true', Bool.not_eq_false', Int.toNat_natCast, one_shl, ints_rep, ints_getD, ints_set, ints_len, List.length_set]
  refine ⟨fun h => ?_, fun h => ?_⟩
  · have : bef t = [] := by unfold bef; rw [if_neg h]
    rw [← this]; exact hk
  · have g := good_of h
    have hl := g.len
    have hshl : ∀ j : Nat, j ≤ 61 → inK .i64 ((2 ^ j : Nat) : Int) := by
      intro j hj
      have h1 := two_pow_le (n := j) (by omega)
      have h2 := two_pow_pos j
      have e : ((2 ^ j : Nat) : Int) = (2 : Int) ^ j := by rw [Int.natCast_pow]; rfl
      rw [e, inK_i64]
      omega
    have hN : ∀ n : Nat, (0 : Int) ≤ (n : Int) := fun n => Int.natCast_nonneg n
    have hb0 : befN t = (bst t.2.1 t.2.1.length).1 := rfl
    refine ⟨by omega, Int.le_refl _, by omega, ⟨0, ⟨by omega, h⟩, rfl, rfl, rfl⟩, fun x ⟨hx, _⟩ => ⟨fun hlt => ?_, fun hge => ?_⟩⟩
    · obtain ⟨b1, b2⟩ := bst_len t.2.1 x
      obtain ⟨p0, p1, f0, f1, _⟩ := g.ev x (by omega)
      have hpr := g.procs
      have h5 : ((5 : Nat) : Int) = 5 := rfl
      refine ⟨hN _, hlt, p0, by omega, hN _, by omega, fun h0 => ?_, fun h0 => ?_⟩
      · have hfl : (t.2.1.getD x (0, 0, ())).2.1.toNat < x := by omega
        refine ⟨hN _, by omega, h0, by omega, h0, by omega, rfl, hshl _ (by omega), hN _, hN _, hN _, hN _, hN _, by omega, hN _, by omega, hN _, by omega, rfl, hshl _ (by omega), hN _, hN _, p0, by omega, inK_i64.2 (by omega), x + 1, ⟨by omega, h⟩, by omega, by omega, ?_, ?_⟩
        · rw [List.set_set, getD_set_self (by omega), getD_set_ne (by omega)]
          simp only [bst, if_pos h0]
        · rw [getD_set_self (by rw [List.length_set]; omega), getD_set_self (by omega), getD_set_ne (by omega)]
          simp only [bst, if_pos h0]
      · refine ⟨hN _, by omega, hN _, by omega, rfl, hshl _ (by omega), hN _, hN _, p0, by omega, inK_i64.2 (by omega), x + 1, ⟨by omega, h⟩, by omega, by omega, ?_, ?_⟩
        · simp only [bst, if_neg h0]
        · rw [getD_set_self (by omega)]
          simp only [bst, if_neg h0]
    · have : x = t.2.1.length := by omega
      rw [this]
      have e : bef t = ints (bst t.2.1 t.2.1.length).1 := by unfold bef; rw [if_pos h, hb0]
      rw [← e]
      rw [h] at hk
      exact hk

theorem okBefore : PlainOk Tryd.prog [] 13 cBefore := by
  refine plain_of (CxOk.mk' Et_ok rfl mixed (gl := []) (GOk.cons okCheck Tryd.func10 (by kernel_rfl) (by kernel_rfl) GOk.nil) GoOk.nil noIt) Tryd.func13 (c := Tryd.f13.body.getD .skip) (rvs := [(.tmp 2, .sl I), (.tmp 3, tErr)]) (by kernel_rfl) (by kernel_rfl) (by kernel_rfl) ?_
  intro ds k ⟨hp, hk⟩ hwf
  obtain ⟨t, rfl, -⟩ := dest1 hp
  exact ⟨anBefore t, before_vc t k hk⟩
end Go.Proofs.YtbpoeigaoakdiaaDoor

/- Traces: the small trace that the laws try first. -/
namespace Go.Proofs.YtbpoeigaoakdiaaDoor
open Go.Vc
def talkT : Tr := (2, [(0, -1, ()), (1, 0, ()), (0, -1, ())], ())
def cTalk : Ctr := cdet [] True [⟨tTr, talkT⟩]
def cInts : Ctr := cdet [.sl I, .sl I] (fun _ _ => True) (fun (a b : List Int) => [⟨.bool, a == b⟩])
def cFact : Ctr := cdet [] True [⟨.bool, true⟩]
def anInts (a b : List Int) : Ann := an1 Nat 4 (fun st i => St.at st [(5, .d I (i : Int))]) (fun i => i ≤ a.length ∧ a.take i = b.take i) (fun i => a.length - i)
end Go.Proofs.YtbpoeigaoakdiaaDoor

/- What the functions of this seat have to satisfy, by program: each verification condition in plain words. -/
namespace Go.Proofs.YtbpoeigaoakdiaaDoor
open Go.Vc
set_option linter.unusedVariables false
theorem vcTalk (k : List Dat → Prop) : vcF ⟨Et, [], [], [], []⟩ [] (Tryd.f51.body.getD .skip) Tryd.f51.ntmps [(.cell 0 24, tTr)] [] k = (
  k [Dat.mk (tTr) ((2 : Int), (((List.replicate (3 : Nat) ((0 : Int), (0 : Int), ())).set (0 : Nat) ((0 : Int), (-1 : Int), ())).set (1 : Nat) ((1 : Int), (0 : Int), ())).set (2 : Nat) ((0 : Int), (-1 : Int), ()), ())]) := by kernel_rfl
theorem vcInts (a b : List Int) (k : List Dat → Prop) : vcF ⟨Et, [], [], [], []⟩ (anInts a b) (Tryd.f14.body.getD .skip) Tryd.f14.ntmps [(.tmp 4, .bool)] [⟨.sl I, a⟩, ⟨.sl I, b⟩] k = (
  ((!decide ((↑a.length : Int) = (↑b.length : Int))) = true → k [Dat.mk Ty.bool false]) ∧ ((!decide ((↑a.length : Int) = (↑b.length : Int))) = false → (∃ (x : Nat), (x ≤ a.length ∧ List.take x a = List.take x b) ∧ (a = a ∧ b = b ∧ false = false ∧ (0 : Int) = (↑x : Int) ∧ a = a ∧ (↑a.length : Int) = (↑a.length : Int) ∧ b = b ∧ (↑b.length : Int) = (↑b.length : Int) ∧ (!decide ((↑a.length : Int) = (↑b.length : Int))) = !decide ((↑a.length : Int) = (↑b.length : Int)) ∧ True) ∧ True ∧ True) ∧ ∀ (x : Nat), x ≤ a.length ∧ List.take x a = List.take x b → (decide ((↑x : Int) < (↑a.length : Int)) = true → (0 : Int) ≤ (↑x : Int) ∧ (↑x : Int) < (↑a.length : Int) ∧ (0 : Int) ≤ (↑x : Int) ∧ (↑x : Int) < (↑b.length : Int) ∧ ((!decide (a.getD (↑x : Int).toNat (0 : Int) = b.getD (↑x : Int).toNat (0 : Int))) = true → k [Dat.mk Ty.bool false]) ∧ ((!decide (a.getD (↑x : Int).toNat (0 : Int) = b.getD (↑x : Int).toNat (0 : Int))) = false → inK IntKind.i64 ((↑x : Int) + (1 : Int)) ∧ ∃ (x_1 : Nat), (x_1 ≤ a.length ∧ List.take x_1 a = List.take x_1 b) ∧ a.length - x_1 < a.length - x ∧ (a = a ∧ b = b ∧ false = false ∧ (↑x : Int) + (1 : Int) = (↑x_1 : Int) ∧ a = a ∧ (↑a.length : Int) = (↑a.length : Int) ∧ b = b ∧ (↑b.length : Int) = (↑b.length : Int) ∧ (!decide ((↑a.length : Int) = (↑b.length : Int))) = !decide ((↑a.length : Int) = (↑b.length : Int)) ∧ True) ∧ True ∧ True)) ∧ (decide ((↑x : Int) < (↑a.length : Int)) = false → k [Dat.mk Ty.bool true]))) := by kernel_rfl
end Go.Proofs.YtbpoeigaoakdiaaDoor

/- Traces: the small trace that the laws try first. -/
namespace Go.Proofs.YtbpoeigaoakdiaaDoor
open Go.Vc

theorem okTalk : PlainOk Tryd.prog [] 51 cTalk := by
  refine plain_of (CxOk.mk' Et_ok rfl mixed (gl := []) GOk.nil GoOk.nil noIt) Tryd.func51 (c := Tryd.f51.body.getD .skip) (rvs := [(.cell 0 24, tTr)]) (by kernel_rfl) (by kernel_rfl) (by kernel_rfl) ?_
  intro ds k ⟨hp, hk⟩ hwf
  obtain ⟨rfl, -⟩ := dest0 hp
  refine ⟨[], ?_⟩
  rw [vcTalk]
  exact hk

theorem ints_vc (a b : List Int) (k : List Dat → Prop) (hl : a.length ≤ maxLen) (hk : k [⟨.bool, a == b⟩]) : vcF ⟨Et, [], [], [], []⟩ (anInts a b) (Tryd.f14.body.getD .skip) Tryd.f14.ntmps [(.tmp 4, .bool)] [⟨.sl I, a⟩, ⟨.sl I, b⟩] k := by
  rw [vcInts]
  have hml : maxLen ≤ 9223372036854775807 := by decide
  simp only [decide_eq_true_eq, decide_eq_false_iff_not, and_true, true_and, Bool.not_eq_true', Bool.not_eq_false', Int.toNat_natCast, inK_i64]
  have ret : ∀ x : Bool, (a == b) = x → k [⟨.bool, x⟩] := by rintro _ rfl; exact hk
  refine ⟨fun h => ret _ ?_, fun h => ⟨⟨0, ⟨by omega, rfl⟩, rfl⟩, fun x ⟨hx, ht⟩ => ⟨fun hlt => ⟨by omega, hlt, by omega, by omega, fun hne => ret _ ?_, fun he => ⟨by omega, x + 1, ⟨by omega, ?_⟩, by omega, by omega⟩⟩, fun hge => ret _ ?_⟩⟩⟩
  · simp only [beq_eq_false_iff_ne, ne_eq]; intro he; exact h (by rw [he])
  · simp only [beq_eq_false_iff_ne, ne_eq]; intro h; exact hne (by rw [h])
  · have h1 : x < a.length := by omega
    have h2 : x < b.length := by omega
    rw [List.take_add_one, List.take_add_one, ht]
    rw [List.getD_eq_getElem?_getD, List.getD_eq_getElem?_getD, List.getElem?_eq_getElem h1, List.getElem?_eq_getElem h2] at he
    rw [List.getElem?_eq_getElem h1, List.getElem?_eq_getElem h2]
    simp only [Option.getD_some] at he
    rw [he]
  · have h1 : x = a.length := by omega
    rw [h1, List.take_length, List.take_of_length_le (by omega)] at ht
    simp [ht]

theorem okInts : PlainOk Tryd.prog [] 14 cInts := by
  refine plain_of (CxOk.mk' Et_ok rfl mixed (gl := []) GOk.nil GoOk.nil noIt) Tryd.func14 (c := Tryd.f14.body.getD .skip) (rvs := [(.tmp 4, .bool)]) (by kernel_rfl) (by kernel_rfl) (by kernel_rfl) ?_
  intro ds k ⟨hp, hk⟩ hwf
  obtain ⟨a, b, rfl, -⟩ := dest2 hp
  exact ⟨anInts a b, ints_vc a b k (wf2 hwf).1.1 hk⟩

end Go.Proofs.YtbpoeigaoakdiaaDoor

/- Traces: the law that what happened before is the least order. -/
namespace Go.Proofs.YtbpoeigaoakdiaaDoor
open Go.Vc
/-- one is to be behind the other one: it is ahead of it at its process, or it heard of it -/
def mustP (t : Tr) (i j : Nat) : Prop := (t.2.1.getD j (0, 0, ())).1 = (t.2.1.getD i (0, 0, ())).1 ∨ (t.2.1.getD i (0, 0, ())).2.1 = (j : Int)
def pairP (t : Tr) (o : List Int) (i j : Nat) : Prop :=
  0 ≤ o.getD i 0 ∧ (mustP t i j → bitB (o.getD i 0) j = true) ∧ (bitB (o.getD i 0) j = true → subB (o.getD j 0) (o.getD i 0) = true)
def goodP (t : Tr) (o : List Int) (g : Bool) (i j : Nat) : Prop :=
  g = true → o.length = t.2.1.length ∧ (∀ a b, a < i → b < a → pairP t o a b) ∧ ∀ b, b < j → pairP t o i b
end Go.Proofs.YtbpoeigaoakdiaaDoor

/- What happened before what, as sets of numbers: the facts that the laws of traces ask. -/
namespace Go.Proofs.YtbpoeigaoakdiaaDoor
open Go.Vc

/-- what happened before event i -/
def bB (l : List Ev) (i : Nat) : Nat := (bst l (i + 1)).1.getD i 0
def prc (l : List Ev) (i : Nat) : Nat := (l.getD i (0, 0, ())).1.toNat
def frm (l : List Ev) (i : Nat) : Int := (l.getD i (0, 0, ())).2.1

theorem bst_keep (l : List Ev) {i : Nat} (hi : i < l.length) : ∀ m, i < m → (bst l m).1.getD i 0 = bB l i := by
  intro m
  induction m with
  | zero => intro h; omega
  | succ m ih =>
    intro h
    by_cases hm : i = m
    · subst hm; rfl
    · rw [← ih (by omega)]
      simp only [bst]
      rw [getD_set_ne (fun e => hm e.symm)]

theorem bB_eq (l : List Ev) {i : Nat} (hi : i < l.length) (hf : frm l i < (i : Int)) :
    bB l i = if 0 ≤ frm l i then (bst l i).2.getD (prc l i) 0 ||| (bB l (frm l i).toNat ||| 2 ^ (frm l i).toNat) else (bst l i).2.getD (prc l i) 0 := by
  have hl := (bst_len l i).1
  unfold bB
  simp only [bst]
  rw [getD_set_self (by omega)]
  show (if 0 ≤ frm l i then _ else _) = _
  split
  · rename_i h
    rw [show (bst l i).1.getD (l.getD i (0, 0, ())).2.1.toNat 0 = bB l (frm l i).toNat from bst_keep l (by show (frm l i).toNat < _; omega) i (by show (frm l i).toNat < _; omega)]
    rfl
  · rfl

/-- the last event of a process -/
theorem last_of (l : List Ev) (hp : ∀ i, i < l.length → prc l i < 5) : ∀ m, m ≤ l.length → ∀ p, p < 5 →
    ((bst l m).2.getD p 0 = 0 ∧ ∀ j, j < m → prc l j ≠ p) ∨ ∃ j, j < m ∧ prc l j = p ∧ (∀ j', j < j' → j' < m → prc l j' ≠ p) ∧ (bst l m).2.getD p 0 = bB l j ||| 2 ^ j := by
  intro m
  induction m with
  | zero =>
    intro _ p hp5
    refine .inl ⟨?_, fun j hj => by omega⟩
    simp only [bst, List.getD_eq_getElem?_getD, List.getElem?_replicate]
    split <;> rfl
  | succ m ih =>
    intro hm p hp5
    have hl := (bst_len l m)
    have hstep : (bst l (m + 1)).2 = (bst l m).2.set (prc l m) (bB l m ||| 2 ^ m) := by
      have : bB l m = (if 0 ≤ (l.getD m (0, 0, ())).2.1 then (bst l m).2.getD (l.getD m (0, 0, ())).1.toNat 0 ||| ((bst l m).1.getD (l.getD m (0, 0, ())).2.1.toNat 0 ||| 2 ^ (l.getD m (0, 0, ())).2.1.toNat) else (bst l m).2.getD (l.getD m (0, 0, ())).1.toNat 0) := by
        unfold bB
        simp only [bst]
        rw [getD_set_self (by omega)]
      rw [this]; rfl
    rw [hstep]
    by_cases h : prc l m = p
    · refine .inr ⟨m, by omega, h, fun j' h1 h2 => by omega, ?_⟩
      rw [h, getD_set_self (by omega)]
    · rw [getD_set_ne h]
      rcases ih (by omega) p hp5 with ⟨h1, h2⟩ | ⟨j, h1, h2, h3, h4⟩
      · refine .inl ⟨h1, fun j hj => ?_⟩
        by_cases hjm : j = m
        · rw [hjm]; exact h
        · exact h2 j (by omega)
      · refine .inr ⟨j, by omega, h2, fun j' hj1 hj2 => ?_, h4⟩
        by_cases hjm : j' = m
        · rw [hjm]; exact h
        · exact h3 j' hj1 (by omega)

/-- is it one of those straight ahead of the other? -/
def justB (l : List Ev) (i j : Nat) : Prop := j < i ∧ ((prc l j = prc l i ∧ ∀ j', j < j' → j' < i → prc l j' ≠ prc l i) ∨ frm l i = (j : Int))

theorem bit_or2 {a j k : Nat} : (a ||| 2 ^ j).testBit k = true ↔ a.testBit k = true ∨ k = j := by
  rw [Nat.testBit_or, Nat.testBit_two_pow, Bool.or_eq_true, decide_eq_true_eq]
  exact ⟨fun h => h.imp id Eq.symm, fun h => h.imp id Eq.symm⟩

theorem bB_bit {l : List Ev} (hp : ∀ i, i < l.length → prc l i < 5) (hf : ∀ i, i < l.length → frm l i < (i : Int)) {i : Nat} (hi : i < l.length) (k : Nat) :
    (bB l i).testBit k = true ↔ ∃ j, justB l i j ∧ ((bB l j).testBit k = true ∨ k = j) := by
  have hlast := last_of l hp i (by omega) (prc l i) (hp i hi)
  have hbit : ((bst l i).2.getD (prc l i) 0).testBit k = true ↔ ∃ j, (j < i ∧ prc l j = prc l i ∧ ∀ j', j < j' → j' < i → prc l j' ≠ prc l i) ∧ ((bB l j).testBit k = true ∨ k = j) := by
    rcases hlast with ⟨h1, h2⟩ | ⟨j, h1, h2, h3, h4⟩
    · rw [h1]
      constructor
      · intro h; simp at h
      · rintro ⟨j, ⟨h3, h4, _⟩, _⟩; exact absurd h4 (h2 j h3)
    · rw [h4, bit_or2]
      constructor
      · intro h; exact ⟨j, ⟨h1, h2, h3⟩, h⟩
      · rintro ⟨j', ⟨k1, k2, k3⟩, h⟩
        have : j' = j := by
          rcases Nat.lt_trichotomy j' j with h | h | h
          · exact absurd h2 (k3 j h h1)
          · exact h
          · exact absurd k2 (h3 j' h k1)
        rw [this] at h; exact h
  rw [bB_eq l hi (hf i hi)]
  split
  · rename_i h0
    rw [Nat.testBit_or, Bool.or_eq_true, hbit, bit_or2]
    constructor
    · rintro (⟨j, ⟨h1, h2, h3⟩, h⟩ | h)
      · exact ⟨j, ⟨h1, .inl ⟨h2, h3⟩⟩, h⟩
      · exact ⟨(frm l i).toNat, ⟨by have := hf i hi; omega, .inr (by omega)⟩, h⟩
    · rintro ⟨j, ⟨h1, h2 | h2⟩, h⟩
      · exact .inl ⟨j, ⟨h1, h2.1, h2.2⟩, h⟩
      · have : (frm l i).toNat = j := by omega
        rw [this]; exact .inr h
  · rename_i h0
    rw [hbit]
    constructor
    · rintro ⟨j, ⟨h1, h2, h3⟩, h⟩
      exact ⟨j, ⟨h1, .inl ⟨h2, h3⟩⟩, h⟩
    · rintro ⟨j, ⟨h1, h2 | h2⟩, h⟩
      · exact ⟨j, ⟨h1, h2.1, h2.2⟩, h⟩
      · omega

section
variable {l : List Ev} (hp : ∀ i, i < l.length → prc l i < 5) (hf : ∀ i, i < l.length → frm l i < (i : Int))
include hp hf

theorem bB_less {i : Nat} (hi : i < l.length) {k : Nat} (h : (bB l i).testBit k = true) : k < i := by
  induction i using Nat.strongRecOn with
  | _ i ih =>
    obtain ⟨j, hj, h⟩ := (bB_bit hp hf hi k).1 h
    rcases h with h | h
    · have := ih j hj.1 (by have := hj.1; omega) h
      have := hj.1; omega
    · have := hj.1; omega

theorem bB_lt {i : Nat} (hi : i < l.length) : bB l i < 2 ^ i := by
  apply Nat.lt_pow_two_of_testBit
  intro k hk
  cases h : (bB l i).testBit k with
  | false => rfl
  | true => have := bB_less hp hf hi h; omega

theorem bB_must {i j : Nat} (hi : i < l.length) (hj : j < i) (h : prc l j = prc l i ∨ frm l i = (j : Int)) : (bB l i).testBit j = true := by
  rcases h with h | h
  · -- the last one of its process
    have key : ∀ d j, i - j = d → j < i → prc l j = prc l i → (bB l i).testBit j = true := by
      intro d
      induction d using Nat.strongRecOn with
      | _ d ihd =>
        intro j hd hj h
        by_cases hc : ∃ j', j < j' ∧ j' < i ∧ prc l j' = prc l i
        · obtain ⟨j1, h1, h2, h3⟩ := hc
          -- the first one behind j: take any; by induction on i inside
          have hb1 := ihd (i - j1) (by omega) j1 rfl h2 h3
          have hin : (bB l j1).testBit j = true := by
            have : ∀ i', i' < i → j < i' → i' < l.length → prc l j = prc l i' → (bB l i').testBit j = true := by
              intro i'
              induction i' using Nat.strongRecOn with
              | _ i' ih' =>
                intro a1 a2 a3 a4
                by_cases hc' : ∃ j', j < j' ∧ j' < i' ∧ prc l j' = prc l i' ∧ ∀ j'', j' < j'' → j'' < i' → prc l j'' ≠ prc l i'
                · obtain ⟨j2, b1, b2, b3, b4⟩ := hc'
                  refine (bB_bit hp hf a3 j).2 ⟨j2, ⟨b2, .inl ⟨b3, b4⟩⟩, .inl (ih' j2 b2 (by omega) b1 (by omega) (by rw [b3]; exact a4))⟩
                · refine (bB_bit hp hf a3 j).2 ⟨j, ⟨a2, .inl ⟨a4, ?_⟩⟩, .inr rfl⟩
                  intro j' c1 c2 c3
                  -- then there is a last one
                  have : ∃ j', j < j' ∧ j' < i' ∧ prc l j' = prc l i' ∧ ∀ j'', j' < j'' → j'' < i' → prc l j'' ≠ prc l i' := by
                    have hmax : ∀ d j', i' - j' = d → j < j' → j' < i' → prc l j' = prc l i' → ∃ j', j < j' ∧ j' < i' ∧ prc l j' = prc l i' ∧ ∀ j'', j' < j'' → j'' < i' → prc l j'' ≠ prc l i' := by
                      intro d
                      induction d using Nat.strongRecOn with
                      | _ d ihm =>
                        intro j' e0 e1 e2 e3
                        by_cases hx : ∃ j'', j' < j'' ∧ j'' < i' ∧ prc l j'' = prc l i'
                        · obtain ⟨j'', f1, f2, f3⟩ := hx
                          exact ihm (i' - j'') (by omega) j'' rfl (by omega) f2 f3
                        · exact ⟨j', e1, e2, e3, fun j'' g1 g2 g3 => hx ⟨j'', g1, g2, g3⟩⟩
                    exact hmax _ j' rfl c1 c2 c3
                  exact hc' this
            exact this j1 h2 h1 (by omega) (by rw [h, h3])
          have trans : ∀ i', i' ≤ i → i' < l.length → ∀ k m, (bB l i').testBit k = true → (bB l k).testBit m = true → (bB l i').testBit m = true := by
            intro i'
            induction i' using Nat.strongRecOn with
            | _ i' ih' =>
              intro a1 a2 k m hk hm
              obtain ⟨q, hq, hk'⟩ := (bB_bit hp hf a2 k).1 hk
              rcases hk' with hk' | hk'
              · exact (bB_bit hp hf a2 m).2 ⟨q, hq, .inl (ih' q hq.1 (by have := hq.1; omega) (by have := hq.1; omega) k m hk' hm)⟩
              · subst hk'
                exact (bB_bit hp hf a2 m).2 ⟨k, hq, .inl hm⟩
          exact trans i (Nat.le_refl _) hi j1 j hb1 hin
        · exact (bB_bit hp hf hi j).2 ⟨j, ⟨hj, .inl ⟨h, fun j' h1 h2 h3 => hc ⟨j', h1, h2, h3⟩⟩⟩, .inr rfl⟩
    exact key _ j rfl hj h
  · exact (bB_bit hp hf hi j).2 ⟨j, ⟨hj, .inr h⟩, .inr rfl⟩

theorem bB_trans {i : Nat} (hi : i < l.length) {k m : Nat} (hk : (bB l i).testBit k = true) (hm : (bB l k).testBit m = true) : (bB l i).testBit m = true := by
  induction i using Nat.strongRecOn with
  | _ i ih =>
    obtain ⟨q, hq, hk'⟩ := (bB_bit hp hf hi k).1 hk
    rcases hk' with hk' | hk'
    · exact (bB_bit hp hf hi m).2 ⟨q, hq, .inl (ih q hq.1 (by have := hq.1; omega) hk')⟩
    · subst hk'
      exact (bB_bit hp hf hi m).2 ⟨k, hq, .inl hm⟩
end
end Go.Proofs.YtbpoeigaoakdiaaDoor

/- Traces told in another order: events by their names. -/
namespace Go.Proofs.YtbpoeigaoakdiaaDoor
open Go.Vc
abbrev tNa : Ty := .ar 2 I
abbrev tNE : Ty := .pr (.ar 2 I) (.pr tEv .un)
abbrev NE := List Int × Ev × Unit
def Em : Env := { tys := [(3, I), (4, .bool), (5, .int .u8), (22, .sl tEv), (24, tTr), (28, tErr), (30, .sl I), (70, tEv), (74, .ar 5 I), (79, .ar 2 I), (81, tNE), (77, .sl tNE), (76, .nm)], errT := 71, eqs := [70], els := [(22, 70), (30, 3), (77, 81)], mps := [(76, (79, 70))] }
theorem Em_ok : EnvOk Tryd.prog Em := EnvOk.of_list (by kernel_rfl) (by kernel_rfl) (by kernel_rfl)
/-- the events by their names, of the first i; how many of each process came -/
def namU (l : List Ev) : Nat → List NE × List Int
  | 0 => ([], List.replicate 5 0)
  | i + 1 =>
    ((namU l i).1 ++ [([(l.getD i (0, 0, ())).1, (namU l i).2.getD (l.getD i (0, 0, ())).1.toNat 0],
        (if 0 ≤ (l.getD i (0, 0, ())).2.1 then (((namU l i).1.getD (l.getD i (0, 0, ())).2.1.toNat ([0, 0], (0, 0, ()), ())).1.getD 0 0, ((namU l i).1.getD (l.getD i (0, 0, ())).2.1.toNat ([0, 0], (0, 0, ()), ())).1.getD 1 0, ()) else (-1, -1, ())), ())],
     (namU l i).2.set (l.getD i (0, 0, ())).1.toNat ((namU l i).2.getD (l.getD i (0, 0, ())).1.toNat 0 + 1))
def nmd (l : List Ev) : List NE := (namU l l.length).1
def cNamed : Ctr := cdet [tTr] (fun (t : Tr) => chk t = 0 ∧ True) (fun (t : Tr) => [⟨.sl tNE, nmd t.2.1⟩])
def anNamed (t : Tr) : Ann :=
  [loopAt 4 Nat [(4, 81, tNE)] (fun st i => { St.at (St.only st [1, 3, 4, 9, 10]) [(11, .d I (i : Int))] with ob := [.var 24 tTr t, .var 74 (.ar 5 I) (namU t.2.1 i).2, .row 81 tNE (namU t.2.1 i).1] }) (fun _ i => i ≤ t.2.1.length ∧ True) (fun i => t.2.1.length - i)]
/-- what each name heard of, of the first i -/
def putU (l : List NE) (i : Nat) : List (List Int × Ev) := (l.take i).foldl (fun m x => mpPut m x.1 x.2.1) []
def mapT (l : List Ev) : List (List Int × Ev) := putU (nmd l) l.length
def sameB (t u : Tr) : Bool := decide (t.1 = u.1) && (decide (t.2.1.length = u.2.1.length) && (nmd u.2.1).all fun x => decide (mpGet (mapT t.2.1) x.1 = some x.2.1))
def smErr (t u : Tr) : Int := if chk t = 0 then chk u else chk t
def smR (t u : Tr) : Bool := decide (smErr t u = 0) && sameB t u
def cSame2 : Ctr := cdet [tTr, tTr] (fun _ _ => True) (fun t u => [⟨.bool, smR t u⟩, ⟨tErr, smErr t u⟩])
def anSame2 (t u : Tr) : Ann :=
  [joinAll, loopAt 11 Nat [] (fun st i => { St.at (St.only st [2, 3, 8, 41, 42]) [(43, .d I (i : Int))] with ob := [.var 24 tTr t, .var 24 tTr u, .mp 2 tEv (putU (nmd t.2.1) i)] }) (fun _ i => i ≤ t.2.1.length ∧ True) (fun i => t.2.1.length - i),
   loopAt 16 Nat [] (fun st i => { St.at (St.only st [2, 3, 8, 54, 55]) [(56, .d I (i : Int))] with ob := [.var 24 tTr t, .var 24 tTr u, .mp 2 tEv (mapT t.2.1)] }) (fun _ i => i ≤ u.2.1.length ∧ ∀ j, j < i → mpGet (mapT t.2.1) ((nmd u.2.1).getD j ([0, 0], (0, 0, ()), ())).1 = some ((nmd u.2.1).getD j ([0, 0], (0, 0, ()), ())).2.1) (fun i => u.2.1.length - i)]
end Go.Proofs.YtbpoeigaoakdiaaDoor

/- Traces told in another order: names of events, plainly; two that are told the other way round. -/
namespace Go.Proofs.YtbpoeigaoakdiaaDoor
open Go.Vc

/-- how many of the first i events are of a process -/
def cntP (l : List Ev) (p : Nat) : Nat → Nat
  | 0 => 0
  | i + 1 => if prc l i = p then cntP l p i + 1 else cntP l p i
theorem cntP_le (l : List Ev) (p : Nat) : ∀ i, cntP l p i ≤ i
  | 0 => Nat.le_refl _
  | i + 1 => by
    have := cntP_le l p i
    simp only [cntP]; split <;> omega
theorem cntP_mono (l : List Ev) (p : Nat) {i j : Nat} (h : i ≤ j) : cntP l p i ≤ cntP l p j := by
  induction j with
  | zero => have : i = 0 := by omega
            subst this; exact Nat.le_refl _
  | succ j ih =>
    by_cases hj : i = j + 1
    · subst hj; exact Nat.le_refl _
    · refine Nat.le_trans (ih (by omega)) ?_
      simp only [cntP]; split <;> omega
/-- the name of an event; what it heard of, by its name -/
def nmE (l : List Ev) (i : Nat) : List Int := [(l.getD i (0, 0, ())).1, (cntP l (prc l i) i : Int)]
def hrE (l : List Ev) (i : Nat) : Ev :=
  if 0 ≤ frm l i then ((l.getD (frm l i).toNat (0, 0, ())).1, (cntP l (prc l (frm l i).toNat) (frm l i).toNat : Int), ()) else (-1, -1, ())
def neE (l : List Ev) (i : Nat) : NE := (nmE l i, hrE l i, ())

theorem namU_len (l : List Ev) : ∀ i, (namU l i).1.length = i ∧ (namU l i).2.length = 5
  | 0 => ⟨rfl, rfl⟩
  | i + 1 => by
    obtain ⟨h1, h2⟩ := namU_len l i
    simp only [namU, List.length_append, List.length_cons, List.length_nil, List.length_set]
    exact ⟨by omega, h2⟩
theorem getDI_set {l : List Int} {i j : Nat} {v : Int} (h : i < l.length) : (l.set i v).getD j 0 = if i = j then v else l.getD j 0 := by
  rw [List.getD_eq_getElem?_getD, List.getD_eq_getElem?_getD, List.getElem?_set]
  by_cases hij : i = j
  · subst hij; simp [h]
  · simp [hij]
theorem getDA_app {α : Type} (l : List α) (y z : α) (j : Nat) : (l ++ [y]).getD j z = if j = l.length then y else l.getD j z := by
  rw [List.getD_eq_getElem?_getD, List.getD_eq_getElem?_getD]
  by_cases h : j < l.length
  · rw [List.getElem?_append_left h, if_neg (by omega)]
  · rw [List.getElem?_append_right (by omega)]
    by_cases h2 : j = l.length
    · subst h2; simp
    · rw [if_neg h2, List.getElem?_eq_none (by simp; omega), List.getElem?_eq_none (by omega)]
theorem namU_cnt (l : List Ev) (hp : ∀ i, i < l.length → prc l i < 5) : ∀ i, i ≤ l.length → ∀ p, p < 5 → (namU l i).2.getD p 0 = (cntP l p i : Int)
  | 0, _, p, h5 => by
    show (List.replicate 5 (0 : Int)).getD p 0 = 0
    rw [List.getD_eq_getElem?_getD, List.getElem?_replicate, if_pos h5]; rfl
  | i + 1, hi, p, h5 => by
    have ih := namU_cnt l hp i (by omega)
    have hpi := hp i (by omega)
    have e1 : (l.getD i (0, 0, ())).1.toNat = prc l i := rfl
    simp only [namU, e1]
    rw [getDI_set (by rw [(namU_len l i).2]; exact hpi), ih _ hpi]
    simp only [cntP]
    by_cases h : prc l i = p
    · subst h; rw [if_pos rfl, if_pos rfl]; omega
    · rw [if_neg h, if_neg h]; exact ih p h5
theorem namU_at (l : List Ev) (hp : ∀ i, i < l.length → prc l i < 5) (hf : ∀ i, i < l.length → frm l i < (i : Int)) : ∀ m, m ≤ l.length → ∀ i, i < m → ∀ z, (namU l m).1.getD i z = neE l i
  | 0, _, i, h, _ => absurd h (Nat.not_lt_zero _)
  | m + 1, hm, i, h, z => by
    have ih := namU_at l hp hf m (by omega)
    have hl := (namU_len l m).1
    have hpm := hp m (by omega)
    have hfm := hf m (by omega)
    have hc := namU_cnt l hp m (by omega)
    simp only [namU]
    rw [getDA_app, hl]
    by_cases hi : i = m
    · subst hi
      rw [if_pos rfl]
      have e1 : (l.getD i (0, 0, ())).1.toNat = prc l i := rfl
      have e2 : (l.getD i (0, 0, ())).2.1 = frm l i := rfl
      simp only [e1, e2, hc _ hpm]
      unfold neE nmE hrE
      by_cases h0 : 0 ≤ frm l i
      · rw [if_pos h0, if_pos h0, ih (frm l i).toNat (by omega)]
        rfl
      · rw [if_neg h0, if_neg h0]
    · rw [if_neg hi]; exact ih i (by omega) z
theorem nmd_len (l : List Ev) : (nmd l).length = l.length := (namU_len l _).1
theorem nmd_at {l : List Ev} (hp : ∀ i, i < l.length → prc l i < 5) (hf : ∀ i, i < l.length → frm l i < (i : Int)) {i : Nat} (hi : i < l.length) (z : NE) : (nmd l).getD i z = neE l i := namU_at l hp hf l.length (Nat.le_refl _) i hi z

/-- names part the events -/
theorem nmE_inj {l : List Ev} {i j : Nat} (hij : i < j) : nmE l i ≠ nmE l j := by
  intro h
  simp only [nmE, List.cons.injEq, and_true] at h
  obtain ⟨h1, h2⟩ := h
  have hp : prc l i = prc l j := by unfold prc; rw [h1]
  rw [hp] at h2
  have h3 : cntP l (prc l j) (i + 1) = cntP l (prc l j) i + 1 := by simp only [cntP]; rw [if_pos hp]
  have h4 := cntP_mono l (prc l j) (i := i + 1) (j := j) (by omega)
  omega

theorem mpGet_put {β : Type} (m : List (List Int × β)) (k : List Int) (y : β) (q : List Int) : mpGet (mpPut m k y) q = if k = q then some y else mpGet m q := by
  induction m with
  | nil => simp only [mpPut, mpGet]
  | cons e r ih =>
    simp only [mpPut]
    by_cases h : e.1 = k
    · rw [if_pos h]
      simp only [mpGet]
      by_cases h2 : k = q
      · rw [if_pos h2, if_pos h2]
      · rw [if_neg h2, if_neg h2, if_neg (by rw [h]; exact h2)]
    · rw [if_neg h]
      simp only [mpGet]
      by_cases h2 : e.1 = q
      · rw [if_pos h2, if_pos h2, if_neg (fun e2 => h (h2.trans e2.symm))]
      · rw [if_neg h2, if_neg h2]; exact ih
theorem putU_succ (L : List NE) {i : Nat} (h : i < L.length) (z : NE) : putU L (i + 1) = mpPut (putU L i) (L.getD i z).1 (L.getD i z).2.1 := by
  unfold putU
  rw [List.take_add_one, List.getElem?_eq_getElem h, List.foldl_append, List.getD_eq_getElem?_getD, List.getElem?_eq_getElem h]
  rfl
theorem putU_get (L : List NE) (z : NE) (hd : ∀ i j, i < j → j < L.length → (L.getD i z).1 ≠ (L.getD j z).1) : ∀ m, m ≤ L.length → ∀ j, j < m → mpGet (putU L m) (L.getD j z).1 = some (L.getD j z).2.1
  | 0, _, j, h => absurd h (Nat.not_lt_zero _)
  | m + 1, hm, j, h => by
    rw [putU_succ L (by omega) z, mpGet_put]
    by_cases hj : j = m
    · subst hj; rw [if_pos rfl]
    · rw [if_neg (fun e => hd j m (by omega) (by omega) e.symm)]
      exact putU_get L z hd m (by omega) j (by omega)

theorem good_prc' {t : Tr} (g : Good t) : ∀ i, i < t.2.1.length → prc t.2.1 i < 5 := by
  intro i hi
  have := g.ev i hi
  have := g.procs
  unfold prc
  omega
theorem good_frm' {t : Tr} (g : Good t) : ∀ i, i < t.2.1.length → frm t.2.1 i < (i : Int) := by
  intro i hi
  have := (g.ev i hi).2.2.2.1
  show (t.2.1.getD i (0, 0, ())).2.1 < _
  omega
theorem mapT_at {t : Tr} (g : Good t) {i : Nat} (hi : i < t.2.1.length) : mpGet (mapT t.2.1) (nmE t.2.1 i) = some (hrE t.2.1 i) := by
  have hat := fun i (hi : i < t.2.1.length) => nmd_at (good_prc' g) (good_frm' g) hi ([0, 0], (0, 0, ()), ())
  have := putU_get (nmd t.2.1) ([0, 0], (0, 0, ()), ()) (fun i j hij hj => by
    rw [nmd_len] at hj
    rw [hat i (by omega), hat j hj]
    exact nmE_inj hij) t.2.1.length (by rw [nmd_len]; exact Nat.le_refl _) i hi
  rw [hat i hi] at this
  exact this
theorem nmd_mem {t : Tr} (g : Good t) {x : NE} (h : x ∈ nmd t.2.1) : ∃ i, i < t.2.1.length ∧ x = neE t.2.1 i := by
  obtain ⟨i, hi⟩ := List.getElem?_of_mem h
  obtain ⟨h1, h2⟩ := List.getElem?_eq_some_iff.1 hi
  rw [nmd_len] at h1
  refine ⟨i, h1, ?_⟩
  rw [← nmd_at (good_prc' g) (good_frm' g) h1 x, List.getD_eq_getElem?_getD, hi]; rfl
/-- two traces whose events have the same names and heard of the same -/
theorem same_of {t u : Tr} (gt : Good t) (gu : Good u) (hp : t.1 = u.1) (hl : t.2.1.length = u.2.1.length) (h : ∀ k, k < u.2.1.length → ∃ j, j < t.2.1.length ∧ neE u.2.1 k = neE t.2.1 j) : sameB t u = true := by
  unfold sameB
  rw [Bool.and_eq_true, Bool.and_eq_true, decide_eq_true_eq, decide_eq_true_eq, List.all_eq_true]
  refine ⟨hp, hl, fun x hx => ?_⟩
  obtain ⟨k, hk, rfl⟩ := nmd_mem gu hx
  obtain ⟨j, hj, e⟩ := h k hk
  rw [e, decide_eq_true_eq]
  exact mapT_at gt hj

/-! Two events told the other way round. -/

def sgN (i k : Nat) : Nat := if k + 1 = i then i else if k = i then i - 1 else k
def sgI (i : Nat) (f : Int) : Int := if f = (i : Int) then (i : Int) - 1 else if f = (i : Int) - 1 then (i : Int) else f
def swE (l : List Ev) (i k : Nat) : Ev := ((l.getD (sgN i k) (0, 0, ())).1, sgI i (l.getD (sgN i k) (0, 0, ())).2.1, ())
def swU (l : List Ev) (i n : Nat) : List Ev := (List.range n).map (swE l i)
def swT (t : Tr) (i : Nat) : Tr := (t.1, swU t.2.1 i t.2.1.length, ())
theorem swU_len (l : List Ev) (i n : Nat) : (swU l i n).length = n := by simp [swU]
theorem swU_at (l : List Ev) (i : Nat) {n k : Nat} (h : k < n) (z : Ev) : (swU l i n).getD k z = swE l i k := by
  unfold swU
  rw [List.getD_eq_getElem?_getD, List.getElem?_map, List.getElem?_range h]; rfl
theorem sgN_lt {i k n : Nat} (h0 : 0 < i) (hi : i < n) (hk : k < n) : sgN i k < n := by unfold sgN; split <;> (try split) <;> omega
theorem sgN_sg {i k : Nat} (h0 : 0 < i) : sgN i (sgN i k) = k := by unfold sgN; split <;> split <;> (try split) <;> omega
theorem sgI_nat {i : Nat} {f : Int} (h0 : 0 < i) (hf : 0 ≤ f) : sgI i f = (sgN i f.toNat : Int) := by
  unfold sgI sgN
  by_cases a : f = (i : Int)
  · rw [if_pos a, if_neg (by omega), if_pos (by omega)]; omega
  · by_cases b : f = (i : Int) - 1
    · rw [if_neg a, if_pos b, if_pos (by omega)]
    · rw [if_neg a, if_neg b, if_neg (by omega), if_neg (by omega)]; omega
theorem sgI_neg {i : Nat} {f : Int} (h0 : 0 < i) (hf : f < 0) : sgI i f = f := by unfold sgI; split <;> (try split) <;> omega

theorem sw_good {t : Tr} {i : Nat} (g : Good t) (h0 : 0 < i) (hi : i < t.2.1.length) (hfr : (t.2.1.getD i (0, 0, ())).2.1 ≠ (i : Int) - 1) : Good (swT t i) := by
  have hlen : (swT t i).2.1.length = t.2.1.length := swU_len _ _ _
  refine ⟨g.procs, by rw [hlen]; exact g.len, fun k hk => ?_⟩
  rw [hlen] at hk
  have hat : ∀ k, k < t.2.1.length → (swT t i).2.1.getD k (0, 0, ()) = swE t.2.1 i k := fun k hk => swU_at t.2.1 i hk _
  have hs := sgN_lt h0 hi hk
  obtain ⟨a1, a2, a3, a4, a5⟩ := g.ev (sgN i k) hs
  rw [hat k hk]
  generalize hq : t.2.1.getD (sgN i k) (0, 0, ()) = e at *
  have he : swE t.2.1 i k = (e.1, sgI i e.2.1, ()) := by unfold swE; rw [hq]
  rw [he]
  show 0 ≤ e.1 ∧ e.1 ≤ t.1 - 1 ∧ -1 ≤ sgI i e.2.1 ∧ sgI i e.2.1 ≤ (k : Int) - 1 ∧ (0 ≤ sgI i e.2.1 → ((swT t i).2.1.getD (sgI i e.2.1).toNat (0, 0, ())).1 ≠ e.1)
  by_cases hf : 0 ≤ e.2.1
  · have hb : (e.2.1.toNat : Int) = e.2.1 := Int.toNat_of_nonneg hf
    have hsg := sgI_nat h0 hf
    have hlt : sgN i e.2.1.toNat < k := by
      have hk2 : sgN i k = i → e.2.1 ≠ (i : Int) - 1 := fun h => by rw [h] at hq; rw [← hq]; exact hfr
      unfold sgN at hk2 a4 ⊢
      split at a4 <;> (try split at a4) <;> split <;> (try split) <;> simp_all <;> omega
    rw [hsg]
    refine ⟨a1, a2, by omega, by omega, fun _ => ?_⟩
    rw [Int.toNat_natCast, hat _ (by omega)]
    show (t.2.1.getD (sgN i (sgN i e.2.1.toNat)) (0, 0, ())).1 ≠ e.1
    rw [sgN_sg h0]
    exact a5 hf
  · rw [sgI_neg h0 (by omega)]
    exact ⟨a1, a2, a3, by omega, fun h => absurd h hf⟩

theorem sw_prc {t : Tr} {i : Nat} {k : Nat} (hk : k < t.2.1.length) : prc (swT t i).2.1 k = prc t.2.1 (sgN i k) := by
  unfold prc
  rw [show (swT t i).2.1.getD k (0, 0, ()) = swE t.2.1 i k from swU_at t.2.1 i hk _]; rfl
theorem sw_frm {t : Tr} {i : Nat} {k : Nat} (hk : k < t.2.1.length) : frm (swT t i).2.1 k = sgI i (frm t.2.1 (sgN i k)) := by
  unfold frm
  rw [show (swT t i).2.1.getD k (0, 0, ()) = swE t.2.1 i k from swU_at t.2.1 i hk _]; rfl

theorem sw_cnt {t : Tr} {i : Nat} (h0 : 0 < i) (p : Nat) : ∀ k, k ≤ t.2.1.length → cntP (swT t i).2.1 p k = if k = i then (if prc t.2.1 i = p then cntP t.2.1 p (i - 1) + 1 else cntP t.2.1 p (i - 1)) else cntP t.2.1 p k
  | 0, _ => by rw [if_neg (by omega)]; rfl
  | k + 1, hk => by
    have ih := sw_cnt (t := t) h0 p k (by omega)
    have hs := sw_prc (t := t) (i := i) (k := k) (by omega)
    have hstep : cntP (swT t i).2.1 p (k + 1) = if prc t.2.1 (sgN i k) = p then cntP (swT t i).2.1 p k + 1 else cntP (swT t i).2.1 p k := by simp only [cntP, hs]
    rw [hstep, ih]
    clear hstep ih hs
    by_cases h1 : k + 1 = i
    · have e1 : sgN i k = i := by unfold sgN; rw [if_pos h1]
      have e2 : i - 1 = k := by omega
      have hki : ¬ k = i := by omega
      simp only [if_pos h1, if_neg hki, e1, e2]
    · rw [if_neg h1]
      by_cases h2 : k = i
      · subst h2
        have e1 : sgN k k = k - 1 := by unfold sgN; rw [if_neg (by omega), if_pos rfl]
        obtain ⟨m, rfl⟩ : ∃ m, k = m + 1 := ⟨k - 1, by omega⟩
        rw [if_pos rfl, e1, Nat.add_sub_cancel]
        simp only [cntP]
        split <;> split <;> omega
      · have e1 : sgN i k = k := by unfold sgN; rw [if_neg h1, if_neg h2]
        rw [if_neg h2, e1]
        simp only [cntP]

theorem sw_cnt_at {t : Tr} {i : Nat} (g : Good t) (h0 : 0 < i) (hi : i < t.2.1.length) (hpr : (t.2.1.getD i (0, 0, ())).1 ≠ (t.2.1.getD (i - 1) (0, 0, ())).1) {k : Nat} (hk : k < t.2.1.length) : cntP (swT t i).2.1 (prc t.2.1 (sgN i k)) k = cntP t.2.1 (prc t.2.1 (sgN i k)) (sgN i k) := by
  rw [sw_cnt h0 _ k (by omega)]
  have hne : prc t.2.1 i ≠ prc t.2.1 (i - 1) := by
    have a1 := (g.ev i hi).1
    have a2 := (g.ev (i - 1) (by omega)).1
    unfold prc
    omega
  obtain ⟨m, rfl⟩ : ∃ m, i = m + 1 := ⟨i - 1, by omega⟩
  by_cases h1 : k + 1 = m + 1
  · have e1 : sgN (m + 1) k = m + 1 := by unfold sgN; rw [if_pos h1]
    have e2 : k = m := by omega
    subst e2
    rw [if_neg (by omega), e1]
    simp only [cntP]
    rw [if_neg (fun e => hne (by simpa using e.symm))]
  · by_cases h2 : k = m + 1
    · subst h2
      have e1 : sgN (m + 1) (m + 1) = m := by unfold sgN; rw [if_neg (by omega), if_pos rfl]; rfl
      rw [if_pos rfl, e1, if_neg (by simpa using hne)]
      rfl
    · have e1 : sgN (m + 1) k = k := by unfold sgN; rw [if_neg h1, if_neg h2]
      rw [if_neg h2, e1]

theorem sw_ne {t : Tr} {i : Nat} (g : Good t) (h0 : 0 < i) (hi : i < t.2.1.length) (hpr : (t.2.1.getD i (0, 0, ())).1 ≠ (t.2.1.getD (i - 1) (0, 0, ())).1) {k : Nat} (hk : k < t.2.1.length) : neE (swT t i).2.1 k = neE t.2.1 (sgN i k) := by
  have hs := sgN_lt h0 hi hk
  have hat : ∀ k, k < t.2.1.length → (swT t i).2.1.getD k (0, 0, ()) = swE t.2.1 i k := fun k hk => swU_at t.2.1 i hk _
  have h1 : nmE (swT t i).2.1 k = nmE t.2.1 (sgN i k) := by
    unfold nmE
    rw [hat k hk, sw_prc hk, sw_cnt_at g h0 hi hpr hk]; rfl
  have h2 : hrE (swT t i).2.1 k = hrE t.2.1 (sgN i k) := by
    unfold hrE
    rw [sw_frm hk]
    by_cases hf : 0 ≤ frm t.2.1 (sgN i k)
    · have hlt := good_frm' g (sgN i k) hs
      have hfl : (frm t.2.1 (sgN i k)).toNat < t.2.1.length := by omega
      have hsl := sgN_lt h0 hi hfl
      rw [sgI_nat h0 hf, if_pos hf, if_pos (by omega), Int.toNat_natCast, hat _ hsl, sw_prc hsl, sw_cnt_at g h0 hi hpr hsl]
      unfold swE
      rw [sgN_sg h0]
    · rw [sgI_neg h0 (by omega), if_neg hf, if_neg hf]
  unfold neE
  rw [h1, h2]

theorem sw_same {t : Tr} {i : Nat} (g : Good t) (h0 : 0 < i) (hi : i < t.2.1.length) (hpr : (t.2.1.getD i (0, 0, ())).1 ≠ (t.2.1.getD (i - 1) (0, 0, ())).1) (hfr : (t.2.1.getD i (0, 0, ())).2.1 ≠ (i : Int) - 1) : sameB t (swT t i) = true ∧ sameB (swT t i) t = true := by
  have gu := sw_good g h0 hi hfr
  have hlen : (swT t i).2.1.length = t.2.1.length := swU_len _ _ _
  refine ⟨same_of g gu rfl hlen.symm fun k hk => ?_, same_of gu g rfl hlen fun k hk => ?_⟩
  · rw [hlen] at hk
    exact ⟨sgN i k, sgN_lt h0 hi hk, sw_ne g h0 hi hpr hk⟩
  · refine ⟨sgN i k, by rw [hlen]; exact sgN_lt h0 hi hk, ?_⟩
    rw [sw_ne g h0 hi hpr (sgN_lt h0 hi hk), sgN_sg h0]

theorem same_self {t : Tr} (g : Good t) : sameB t t = true := same_of g g rfl rfl fun k hk => ⟨k, hk, rfl⟩

/-- a trace all of whose events are right is right -/
theorem chk_of {t : Tr} (g : Good t) : chk t = 0 := by
  have h1 : inB t.1 1 5 = true := by simp [inB, g.procs.1, g.procs.2]
  have h2 : ∀ i, i < t.2.1.length → evErr t.1 t.2.1 i = 0 := by
    intro i hi
    obtain ⟨a1, a2, a3, a4, a5⟩ := g.ev i hi
    unfold evErr
    have hb : (inB (t.2.1.getD i (0, 0, ())).1 0 (t.1 - 1) && inB (t.2.1.getD i (0, 0, ())).2.1 (-1) ((i : Int) - 1)) = true := by
      simp only [inB, Bool.and_eq_true, decide_eq_true_eq]; exact ⟨⟨a1, a2⟩, a3, a4⟩
    rw [if_neg (by rw [hb]; decide), if_neg]
    rintro ⟨b1, b2⟩
    exact a5 b1 b2
  have h3 : ∀ f i, i + f ≤ t.2.1.length → evsErr t.1 t.2.1 f i = 0 := by
    intro f
    induction f with
    | zero => intro i _; rfl
    | succ f ih =>
      intro i hi
      simp only [evsErr]
      rw [if_pos (h2 i (by omega))]
      exact ih (i + 1) (by omega)
  unfold chk
  rw [if_neg (by rw [h1]; decide), if_neg (by have := g.len; omega)]
  exact h3 _ 0 (by omega)
end Go.Proofs.YtbpoeigaoakdiaaDoor

/- What the functions of this seat have to satisfy, by program: each verification condition in plain words. -/
namespace Go.Proofs.YtbpoeigaoakdiaaDoor
open Go.Vc
set_option linter.unusedVariables false
theorem vcNamed (t : Tr) (k : List Dat → Prop) : vcF ⟨Em, [], [], [], []⟩ (anNamed t) (Tryd.f48.body.getD .skip) Tryd.f48.ntmps [(.tmp 2, .sl tNE)] [⟨tTr, t⟩] k = (
  (∃ (x : Nat), (x ≤ t.snd.fst.length ∧ True) ∧ (([] : List Nat) = [] ∧ ([] : List Nat) = [] ∧ True ∧ t.snd.fst = t.snd.fst ∧ (↑(List.length t.snd.fst) : Int) = (↑(List.length t.snd.fst) : Int) ∧ (0 : Int) = (↑x : Int) ∧ True) ∧ (((24 : Nat) = (24 : Nat) ∧ t = t) ∧ ((74 : Nat) = (74 : Nat) ∧ List.replicate (5 : Nat) (0 : Int) = (namU t.snd.fst x).snd) ∧ ((81 : Nat) = (81 : Nat) ∧ [] = (namU t.snd.fst x).fst) ∧ True) ∧ True) ∧ ∀ (x : Nat), x ≤ t.snd.fst.length ∧ True → (decide ((↑x : Int) < (↑(List.length t.snd.fst) : Int)) = true → (0 : Int) ≤ (↑x : Int) ∧ (↑x : Int) < (↑(List.length t.snd.fst) : Int) ∧ (0 : Int) ≤ (List.getD t.snd.fst (↑x : Int).toNat ((0 : Int), (0 : Int), ())).fst ∧ (List.getD t.snd.fst (↑x : Int).toNat ((0 : Int), (0 : Int), ())).fst < (↑(5 : Nat) : Int) ∧ (0 : Int) ≤ (List.getD t.snd.fst (↑x : Int).toNat ((0 : Int), (0 : Int), ())).fst ∧ (List.getD t.snd.fst (↑x : Int).toNat ((0 : Int), (0 : Int), ())).fst < (↑(5 : Nat) : Int) ∧ (SV.pv (tTr) (0 : Nat) [] = SV.pv (tTr) (0 : Nat) [] ∧ SV.pv (Ty.ar (5 : Nat) (I)) (1 : Nat) [] = SV.pv (Ty.ar (5 : Nat) (I)) (1 : Nat) [] ∧ SV.os (2 : Nat) = SV.os (2 : Nat) ∧ SV.pv (tEv) (3 : Nat) [] = SV.pv (tEv) (3 : Nat) [] ∧ t.snd.fst = t.snd.fst ∧ (↑(List.length t.snd.fst) : Int) = (↑(List.length t.snd.fst) : Int) ∧ (↑x : Int) = (↑x : Int) ∧ decide ((↑x : Int) < (↑(List.length t.snd.fst) : Int)) = decide ((↑x : Int) < (↑(List.length t.snd.fst) : Int)) ∧ SV.ra (tEv) (List.getD t.snd.fst (↑x : Int).toNat ((0 : Int), (0 : Int), ())) = SV.ra (tEv) (List.getD t.snd.fst (↑x : Int).toNat ((0 : Int), (0 : Int), ())) ∧ List.getD t.snd.fst (↑x : Int).toNat ((0 : Int), (0 : Int), ()) = List.getD t.snd.fst (↑x : Int).toNat ((0 : Int), (0 : Int), ()) ∧ SV.pv (tEv) (3 : Nat) ([] ++ [(0 : Nat)]) = SV.pv (tEv) (3 : Nat) ([] ++ [(0 : Nat)]) ∧ (List.getD t.snd.fst (↑x : Int).toNat ((0 : Int), (0 : Int), ())).fst = (List.getD t.snd.fst (↑x : Int).toNat ((0 : Int), (0 : Int), ())).fst ∧ SV.pv (tEv) (3 : Nat) ([] ++ [(0 : Nat)]) = SV.pv (tEv) (3 : Nat) ([] ++ [(0 : Nat)]) ∧ (List.getD t.snd.fst (↑x : Int).toNat ((0 : Int), (0 : Int), ())).fst = (List.getD t.snd.fst (↑x : Int).toNat ((0 : Int), (0 : Int), ())).fst ∧ SV.pv (Ty.ar (5 : Nat) (I)) (1 : Nat) ([] ++ [Int.toNat (List.getD t.snd.fst (↑x : Int).toNat ((0 : Int), (0 : Int), ())).fst]) = SV.pv (Ty.ar (5 : Nat) (I)) (1 : Nat) ([] ++ [Int.toNat (List.getD t.snd.fst (↑x : Int).toNat ((0 : Int), (0 : Int), ())).fst]) ∧ (namU t.snd.fst x).snd.getD (Int.toNat (List.getD t.snd.fst (↑x : Int).toNat ((0 : Int), (0 : Int), ())).fst) (0 : Int) = (namU t.snd.fst x).snd.getD (Int.toNat (List.getD t.snd.fst (↑x : Int).toNat ((0 : Int), (0 : Int), ())).fst) (0 : Int) ∧ ((List.replicate (2 : Nat) (0 : Int)).set (0 : Nat) (List.getD t.snd.fst (↑x : Int).toNat ((0 : Int), (0 : Int), ())).fst).set (1 : Nat) ((namU t.snd.fst x).snd.getD (Int.toNat (List.getD t.snd.fst (↑x : Int).toNat ((0 : Int), (0 : Int), ())).fst) (0 : Int)) = ((List.replicate (2 : Nat) (0 : Int)).set (0 : Nat) (List.getD t.snd.fst (↑x : Int).toNat ((0 : Int), (0 : Int), ())).fst).set (1 : Nat) ((namU t.snd.fst x).snd.getD (Int.toNat (List.getD t.snd.fst (↑x : Int).toNat ((0 : Int), (0 : Int), ())).fst) (0 : Int)) ∧ ((-1 : Int), (-1 : Int), ()) = ((-1 : Int), (-1 : Int), ()) ∧ (((List.replicate (2 : Nat) (0 : Int)).set (0 : Nat) (List.getD t.snd.fst (↑x : Int).toNat ((0 : Int), (0 : Int), ())).fst).set (1 : Nat) ((namU t.snd.fst x).snd.getD (Int.toNat (List.getD t.snd.fst (↑x : Int).toNat ((0 : Int), (0 : Int), ())).fst) (0 : Int)), ((-1 : Int), (-1 : Int), ()), ()) = (((List.replicate (2 : Nat) (0 : Int)).set (0 : Nat) (List.getD t.snd.fst (↑x : Int).toNat ((0 : Int), (0 : Int), ())).fst).set (1 : Nat) ((namU t.snd.fst x).snd.getD (Int.toNat (List.getD t.snd.fst (↑x : Int).toNat ((0 : Int), (0 : Int), ())).fst) (0 : Int)), ((-1 : Int), (-1 : Int), ()), ()) ∧ True) ∧ (decide ((0 : Int) ≤ (List.getD t.snd.fst (↑x : Int).toNat ((0 : Int), (0 : Int), ())).snd.fst) = true → (0 : Int) ≤ (List.getD t.snd.fst (↑x : Int).toNat ((0 : Int), (0 : Int), ())).snd.fst ∧ (List.getD t.snd.fst (↑x : Int).toNat ((0 : Int), (0 : Int), ())).snd.fst < (↑(namU t.snd.fst x).fst.length : Int) ∧ (0 : Int) ≤ (0 : Int) ∧ (0 : Int) < (↑(2 : Nat) : Int) ∧ (0 : Int) ≤ (List.getD t.snd.fst (↑x : Int).toNat ((0 : Int), (0 : Int), ())).snd.fst ∧ (List.getD t.snd.fst (↑x : Int).toNat ((0 : Int), (0 : Int), ())).snd.fst < (↑(namU t.snd.fst x).fst.length : Int) ∧ (0 : Int) ≤ (1 : Int) ∧ (1 : Int) < (↑(2 : Nat) : Int) ∧ (0 : Int) ≤ (List.getD t.snd.fst (↑x : Int).toNat ((0 : Int), (0 : Int), ())).fst ∧ (List.getD t.snd.fst (↑x : Int).toNat ((0 : Int), (0 : Int), ())).fst < (↑(5 : Nat) : Int) ∧ inK IntKind.i64 ((namU t.snd.fst x).snd.getD (Int.toNat (List.getD t.snd.fst (↑x : Int).toNat ((0 : Int), (0 : Int), ())).fst) (0 : Int) + (1 : Int)) ∧ (0 : Int) ≤ (List.getD t.snd.fst (↑x : Int).toNat ((0 : Int), (0 : Int), ())).fst ∧ (List.getD t.snd.fst (↑x : Int).toNat ((0 : Int), (0 : Int), ())).fst < (↑(5 : Nat) : Int) ∧ (namU t.snd.fst x).fst.length + ((List.replicate (1 : Nat) (List.replicate (2 : Nat) (0 : Int), ((0 : Int), (0 : Int), ()), ())).set (0 : Nat) (((List.replicate (2 : Nat) (0 : Int)).set (0 : Nat) (List.getD t.snd.fst (↑x : Int).toNat ((0 : Int), (0 : Int), ())).fst).set (1 : Nat) ((namU t.snd.fst x).snd.getD (Int.toNat (List.getD t.snd.fst (↑x : Int).toNat ((0 : Int), (0 : Int), ())).fst) (0 : Int)), (List.getD ((namU t.snd.fst x).fst.getD (Int.toNat (List.getD t.snd.fst (↑x : Int).toNat ((0 : Int), (0 : Int), ())).snd.fst) (List.replicate (2 : Nat) (0 : Int), ((0 : Int), (0 : Int), ()), ())).fst (Int.toNat (0 : Int)) (0 : Int), List.getD ((namU t.snd.fst x).fst.getD (Int.toNat (List.getD t.snd.fst (↑x : Int).toNat ((0 : Int), (0 : Int), ())).snd.fst) (List.replicate (2 : Nat) (0 : Int), ((0 : Int), (0 : Int), ()), ())).fst (Int.toNat (1 : Int)) (0 : Int), ()), ())).length ≤ (1000000000 : Nat) ∧ inK IntKind.i64 ((↑x : Int) + (1 : Int)) ∧ ∃ (x_1 : Nat), (x_1 ≤ t.snd.fst.length ∧ True) ∧ t.snd.fst.length - x_1 < t.snd.fst.length - x ∧ (([] : List Nat) = [] ∧ ([] : List Nat) = [] ∧ True ∧ t.snd.fst = t.snd.fst ∧ (↑(List.length t.snd.fst) : Int) = (↑(List.length t.snd.fst) : Int) ∧ (↑x : Int) + (1 : Int) = (↑x_1 : Int) ∧ True) ∧ (((24 : Nat) = (24 : Nat) ∧ t = t) ∧ ((74 : Nat) = (74 : Nat) ∧ (namU t.snd.fst x).snd.set (Int.toNat (List.getD t.snd.fst (↑x : Int).toNat ((0 : Int), (0 : Int), ())).fst) ((namU t.snd.fst x).snd.getD (Int.toNat (List.getD t.snd.fst (↑x : Int).toNat ((0 : Int), (0 : Int), ())).fst) (0 : Int) + (1 : Int)) = (namU t.snd.fst x_1).snd) ∧ ((81 : Nat) = (81 : Nat) ∧ (namU t.snd.fst x).fst.append ((List.replicate (1 : Nat) (List.replicate (2 : Nat) (0 : Int), ((0 : Int), (0 : Int), ()), ())).set (0 : Nat) (((List.replicate (2 : Nat) (0 : Int)).set (0 : Nat) (List.getD t.snd.fst (↑x : Int).toNat ((0 : Int), (0 : Int), ())).fst).set (1 : Nat) ((namU t.snd.fst x).snd.getD (Int.toNat (List.getD t.snd.fst (↑x : Int).toNat ((0 : Int), (0 : Int), ())).fst) (0 : Int)), (List.getD ((namU t.snd.fst x).fst.getD (Int.toNat (List.getD t.snd.fst (↑x : Int).toNat ((0 : Int), (0 : Int), ())).snd.fst) (List.replicate (2 : Nat) (0 : Int), ((0 : Int), (0 : Int), ()), ())).fst (Int.toNat (0 : Int)) (0 : Int), List.getD ((namU t.snd.fst x).fst.getD (Int.toNat (List.getD t.snd.fst (↑x : Int).toNat ((0 : Int), (0 : Int), ())).snd.fst) (List.replicate (2 : Nat) (0 : Int), ((0 : Int), (0 : Int), ()), ())).fst (Int.toNat (1 : Int)) (0 : Int), ()), ())) = (namU t.snd.fst x_1).fst) ∧ True) ∧ True) ∧ (decide ((0 : Int) ≤ (List.getD t.snd.fst (↑x : Int).toNat ((0 : Int), (0 : Int), ())).snd.fst) = false → (0 : Int) ≤ (List.getD t.snd.fst (↑x : Int).toNat ((0 : Int), (0 : Int), ())).fst ∧ (List.getD t.snd.fst (↑x : Int).toNat ((0 : Int), (0 : Int), ())).fst < (↑(5 : Nat) : Int) ∧ inK IntKind.i64 ((namU t.snd.fst x).snd.getD (Int.toNat (List.getD t.snd.fst (↑x : Int).toNat ((0 : Int), (0 : Int), ())).fst) (0 : Int) + (1 : Int)) ∧ (0 : Int) ≤ (List.getD t.snd.fst (↑x : Int).toNat ((0 : Int), (0 : Int), ())).fst ∧ (List.getD t.snd.fst (↑x : Int).toNat ((0 : Int), (0 : Int), ())).fst < (↑(5 : Nat) : Int) ∧ (namU t.snd.fst x).fst.length + ((List.replicate (1 : Nat) (List.replicate (2 : Nat) (0 : Int), ((0 : Int), (0 : Int), ()), ())).set (0 : Nat) (((List.replicate (2 : Nat) (0 : Int)).set (0 : Nat) (List.getD t.snd.fst (↑x : Int).toNat ((0 : Int), (0 : Int), ())).fst).set (1 : Nat) ((namU t.snd.fst x).snd.getD (Int.toNat (List.getD t.snd.fst (↑x : Int).toNat ((0 : Int), (0 : Int), ())).fst) (0 : Int)), ((-1 : Int), (-1 : Int), ()), ())).length ≤ (1000000000 : Nat) ∧ inK IntKind.i64 ((↑x : Int) + (1 : Int)) ∧ ∃ (x_1 : Nat), (x_1 ≤ t.snd.fst.length ∧ True) ∧ t.snd.fst.length - x_1 < t.snd.fst.length - x ∧ (([] : List Nat) = [] ∧ ([] : List Nat) = [] ∧ True ∧ t.snd.fst = t.snd.fst ∧ (↑(List.length t.snd.fst) : Int) = (↑(List.length t.snd.fst) : Int) ∧ (↑x : Int) + (1 : Int) = (↑x_1 : Int) ∧ True) ∧ (((24 : Nat) = (24 : Nat) ∧ t = t) ∧ ((74 : Nat) = (74 : Nat) ∧ (namU t.snd.fst x).snd.set (Int.toNat (List.getD t.snd.fst (↑x : Int).toNat ((0 : Int), (0 : Int), ())).fst) ((namU t.snd.fst x).snd.getD (Int.toNat (List.getD t.snd.fst (↑x : Int).toNat ((0 : Int), (0 : Int), ())).fst) (0 : Int) + (1 : Int)) = (namU t.snd.fst x_1).snd) ∧ ((81 : Nat) = (81 : Nat) ∧ (namU t.snd.fst x).fst.append ((List.replicate (1 : Nat) (List.replicate (2 : Nat) (0 : Int), ((0 : Int), (0 : Int), ()), ())).set (0 : Nat) (((List.replicate (2 : Nat) (0 : Int)).set (0 : Nat) (List.getD t.snd.fst (↑x : Int).toNat ((0 : Int), (0 : Int), ())).fst).set (1 : Nat) ((namU t.snd.fst x).snd.getD (Int.toNat (List.getD t.snd.fst (↑x : Int).toNat ((0 : Int), (0 : Int), ())).fst) (0 : Int)), ((-1 : Int), (-1 : Int), ()), ())) = (namU t.snd.fst x_1).fst) ∧ True) ∧ True)) ∧ (decide ((↑x : Int) < (↑(List.length t.snd.fst) : Int)) = false → k [Dat.mk ((Ty.ar (2 : Nat) (I)).pr ((tEv).pr Ty.un)).sl (namU t.snd.fst x).fst])) := by kernel_rfl
theorem vcSame2 (t u : Tr) (k : List Dat → Prop) : vcF ⟨Em, [(10, cCheck), (48, cNamed)], [], [], []⟩ (anSame2 t u) (Tryd.f17.body.getD .skip) Tryd.f17.ntmps [(.tmp 4, .bool), (.tmp 5, tErr)] [⟨tTr, t⟩, ⟨tTr, u⟩] k = (
  True ∧ ((!decide (chk t = (0 : Int))) = true → k [Dat.mk Ty.bool false, Dat.mk (Ty.err (71 : Nat)) (chk t)]) ∧ ((!decide (chk t = (0 : Int))) = false → True ∧ ((!decide (chk u = (0 : Int))) = true → k [Dat.mk Ty.bool false, Dat.mk (Ty.err (71 : Nat)) (chk u)]) ∧ ((!decide (chk u = (0 : Int))) = false → ((!decide (t.fst = u.fst)) = true → k [Dat.mk Ty.bool false, Dat.mk (Ty.err (71 : Nat)) (0 : Int)]) ∧ ((!decide (t.fst = u.fst)) = false → ((!decide ((↑(List.length t.snd.fst) : Int) = (↑(List.length u.snd.fst) : Int))) = true → k [Dat.mk Ty.bool false, Dat.mk (Ty.err (71 : Nat)) (0 : Int)]) ∧ ((!decide ((↑(List.length t.snd.fst) : Int) = (↑(List.length u.snd.fst) : Int))) = false → (chk t = (0 : Int) ∧ True) ∧ (∃ (x : Nat), (x ≤ t.snd.fst.length ∧ True) ∧ (([] : List Nat) = [] ∧ ([] : List Nat) = [] ∧ True ∧ nmd t.snd.fst = nmd t.snd.fst ∧ (↑(nmd t.snd.fst).length : Int) = (↑(nmd t.snd.fst).length : Int) ∧ (0 : Int) = (↑x : Int) ∧ True) ∧ (((24 : Nat) = (24 : Nat) ∧ t = t) ∧ ((24 : Nat) = (24 : Nat) ∧ u = u) ∧ ((2 : Nat) = (2 : Nat) ∧ [] = putU (nmd t.snd.fst) x) ∧ True) ∧ True) ∧ ∀ (x : Nat), x ≤ t.snd.fst.length ∧ True → (decide ((↑x : Int) < (↑(nmd t.snd.fst).length : Int)) = true → (0 : Int) ≤ (↑x : Int) ∧ (↑x : Int) < (↑(nmd t.snd.fst).length : Int) ∧ inK IntKind.i64 ((↑x : Int) + (1 : Int)) ∧ ∃ (x_1 : Nat), (x_1 ≤ t.snd.fst.length ∧ True) ∧ t.snd.fst.length - x_1 < t.snd.fst.length - x ∧ (([] : List Nat) = [] ∧ ([] : List Nat) = [] ∧ True ∧ nmd t.snd.fst = nmd t.snd.fst ∧ (↑(nmd t.snd.fst).length : Int) = (↑(nmd t.snd.fst).length : Int) ∧ (↑x : Int) + (1 : Int) = (↑x_1 : Int) ∧ True) ∧ (((24 : Nat) = (24 : Nat) ∧ t = t) ∧ ((24 : Nat) = (24 : Nat) ∧ u = u) ∧ ((2 : Nat) = (2 : Nat) ∧ mpPut (putU (nmd t.snd.fst) x) ((nmd t.snd.fst).getD (↑x : Int).toNat (List.replicate (2 : Nat) (0 : Int), ((0 : Int), (0 : Int), ()), ())).fst ((nmd t.snd.fst).getD (↑x : Int).toNat (List.replicate (2 : Nat) (0 : Int), ((0 : Int), (0 : Int), ()), ())).snd.fst = putU (nmd t.snd.fst) x_1) ∧ True) ∧ True) ∧ (decide ((↑x : Int) < (↑(nmd t.snd.fst).length : Int)) = false → (chk u = (0 : Int) ∧ True) ∧ (∃ (x_1 : Nat), (x_1 ≤ u.snd.fst.length ∧ ∀ (j : Nat), j < x_1 → mpGet (mapT t.snd.fst) ((nmd u.snd.fst).getD j ([(0 : Int), (0 : Int)], ((0 : Int), (0 : Int), ()), ())).fst = some ((nmd u.snd.fst).getD j ([(0 : Int), (0 : Int)], ((0 : Int), (0 : Int), ()), ())).snd.fst) ∧ (([] : List Nat) = [] ∧ ([] : List Nat) = [] ∧ True ∧ nmd u.snd.fst = nmd u.snd.fst ∧ (↑(nmd u.snd.fst).length : Int) = (↑(nmd u.snd.fst).length : Int) ∧ (0 : Int) = (↑x_1 : Int) ∧ True) ∧ (((24 : Nat) = (24 : Nat) ∧ t = t) ∧ ((24 : Nat) = (24 : Nat) ∧ u = u) ∧ ((2 : Nat) = (2 : Nat) ∧ putU (nmd t.snd.fst) x = mapT t.snd.fst) ∧ True) ∧ True) ∧ ∀ (x : Nat), (x ≤ u.snd.fst.length ∧ ∀ (j : Nat), j < x → mpGet (mapT t.snd.fst) ((nmd u.snd.fst).getD j ([(0 : Int), (0 : Int)], ((0 : Int), (0 : Int), ()), ())).fst = some ((nmd u.snd.fst).getD j ([(0 : Int), (0 : Int)], ((0 : Int), (0 : Int), ()), ())).snd.fst) → (decide ((↑x : Int) < (↑(nmd u.snd.fst).length : Int)) = true → (0 : Int) ≤ (↑x : Int) ∧ (↑x : Int) < (↑(nmd u.snd.fst).length : Int) ∧ ((!(mpGet (mapT t.snd.fst) ((nmd u.snd.fst).getD (↑x : Int).toNat (List.replicate (2 : Nat) (0 : Int), ((0 : Int), (0 : Int), ()), ())).fst).isSome) = true → k [Dat.mk Ty.bool false, Dat.mk (Ty.err (71 : Nat)) (0 : Int)]) ∧ ((!(mpGet (mapT t.snd.fst) ((nmd u.snd.fst).getD (↑x : Int).toNat (List.replicate (2 : Nat) (0 : Int), ((0 : Int), (0 : Int), ()), ())).fst).isSome) = false → ((!(decide ((match mpGet (mapT t.snd.fst) ((nmd u.snd.fst).getD (↑x : Int).toNat (List.replicate (2 : Nat) (0 : Int), ((0 : Int), (0 : Int), ()), ())).fst with | some x => x | none => ((0 : Int), (0 : Int), ())).fst = ((nmd u.snd.fst).getD (↑x : Int).toNat (List.replicate (2 : Nat) (0 : Int), ((0 : Int), (0 : Int), ()), ())).snd.fst.fst) && (decide ((match mpGet (mapT t.snd.fst) ((nmd u.snd.fst).getD (↑x : Int).toNat (List.replicate (2 : Nat) (0 : Int), ((0 : Int), (0 : Int), ()), ())).fst with | some x => x | none => ((0 : Int), (0 : Int), ())).snd.fst = ((nmd u.snd.fst).getD (↑x : Int).toNat (List.replicate (2 : Nat) (0 : Int), ((0 : Int), (0 : Int), ()), ())).snd.fst.snd.fst) && true))) = true → k [Dat.mk Ty.bool false, Dat.mk (Ty.err (71 : Nat)) (0 : Int)]) ∧ ((!(decide ((match mpGet (mapT t.snd.fst) ((nmd u.snd.fst).getD (↑x : Int).toNat (List.replicate (2 : Nat) (0 : Int), ((0 : Int), (0 : Int), ()), ())).fst with | some x => x | none => ((0 : Int), (0 : Int), ())).fst = ((nmd u.snd.fst).getD (↑x : Int).toNat (List.replicate (2 : Nat) (0 : Int), ((0 : Int), (0 : Int), ()), ())).snd.fst.fst) && (decide ((match mpGet (mapT t.snd.fst) ((nmd u.snd.fst).getD (↑x : Int).toNat (List.replicate (2 : Nat) (0 : Int), ((0 : Int), (0 : Int), ()), ())).fst with | some x => x | none => ((0 : Int), (0 : Int), ())).snd.fst = ((nmd u.snd.fst).getD (↑x : Int).toNat (List.replicate (2 : Nat) (0 : Int), ((0 : Int), (0 : Int), ()), ())).snd.fst.snd.fst) && true))) = false → inK IntKind.i64 ((↑x : Int) + (1 : Int)) ∧ ∃ (x_1 : Nat), (x_1 ≤ u.snd.fst.length ∧ ∀ (j : Nat), j < x_1 → mpGet (mapT t.snd.fst) ((nmd u.snd.fst).getD j ([(0 : Int), (0 : Int)], ((0 : Int), (0 : Int), ()), ())).fst = some ((nmd u.snd.fst).getD j ([(0 : Int), (0 : Int)], ((0 : Int), (0 : Int), ()), ())).snd.fst) ∧ u.snd.fst.length - x_1 < u.snd.fst.length - x ∧ (([] : List Nat) = [] ∧ ([] : List Nat) = [] ∧ True ∧ nmd u.snd.fst = nmd u.snd.fst ∧ (↑(nmd u.snd.fst).length : Int) = (↑(nmd u.snd.fst).length : Int) ∧ (↑x : Int) + (1 : Int) = (↑x_1 : Int) ∧ True) ∧ (((24 : Nat) = (24 : Nat) ∧ t = t) ∧ ((24 : Nat) = (24 : Nat) ∧ u = u) ∧ ((2 : Nat) = (2 : Nat) ∧ mapT t.snd.fst = mapT t.snd.fst) ∧ True) ∧ True))) ∧ (decide ((↑x : Int) < (↑(nmd u.snd.fst).length : Int)) = false → k [Dat.mk Ty.bool true, Dat.mk (Ty.err (71 : Nat)) (0 : Int)]))))))) := by kernel_rfl
end Go.Proofs.YtbpoeigaoakdiaaDoor

/- Traces told in another order: names, and whether two traces are one: the functions keep their contracts. -/
namespace Go.Proofs.YtbpoeigaoakdiaaDoor
open Go.Vc

theorem named_vc (t : Tr) (h : chk t = 0) (k : List Dat → Prop) (hk : k [⟨.sl tNE, nmd t.2.1⟩]) : vcF ⟨Em, [], [], [], []⟩ (anNamed t) (Tryd.f48.body.getD .skip) Tryd.f48.ntmps [(.tmp 2, .sl tNE)] [⟨tTr, t⟩] k := by
  rw [vcNamed]
  have g := good_of h
  have hlen := g.len
  have hpr := g.procs
  simp only [decide_eq_true_eq, decide_eq_false_iff_not, and_true, true_and, Int.toNat_natCast, eq_self, inK_i64, List.set_cons_zero, List.length_cons, List.length_nil, List.length_set, List.length_replicate]
  refine ⟨⟨0, Nat.zero_le _, rfl, rfl, rfl⟩, fun x hx => ⟨fun hlt => ?_, fun hge => ?_⟩⟩
  · have hxl : x < t.2.1.length := by omega
    obtain ⟨p0, p1, f0, f1, _⟩ := g.ev x hxl
    obtain ⟨l1, l2⟩ := namU_len t.2.1 x
    have hp5 : (t.2.1.getD x (0, 0, ())).1.toNat < 5 := by omega
    have hc := namU_cnt t.2.1 (good_prc' g) x (by omega) _ hp5
    have hcl := cntP_le t.2.1 (t.2.1.getD x (0, 0, ())).1.toNat x
    have e5 : ((5 : Nat) : Int) = 5 := rfl
    have e2 : ((2 : Nat) : Int) = 2 := rfl
    simp only [e5, e2]
    refine ⟨by omega, hlt, p0, by omega, p0, by omega, fun hf => ?_, fun hf => ?_⟩
    · refine ⟨hf, by omega, by omega, by omega, hf, by omega, by omega, by omega, p0, by omega, by omega, p0, by omega, by omega, by omega, x + 1, by omega, by omega, by omega, rfl, ?_⟩
      simp only [namU, if_pos hf]
      rfl
    · refine ⟨p0, by omega, by omega, p0, by omega, by omega, by omega, x + 1, by omega, by omega, by omega, rfl, ?_⟩
      simp only [namU, if_neg hf]
      rfl
  · have : x = t.2.1.length := by omega
    subst this
    exact hk
theorem okNamed : PlainOk Tryd.prog [] 48 cNamed := by
  refine plain_of (CxOk.mk' Em_ok (by kernel_rfl) mixed (gl := []) GOk.nil GoOk.nil noIt) Tryd.func48 (c := Tryd.f48.body.getD .skip) (rvs := [(.tmp 2, .sl tNE)]) (by kernel_rfl) (by kernel_rfl) (by kernel_rfl) ?_
  intro ds k ⟨hp, hk⟩ hwf
  obtain ⟨t, rfl, h, -⟩ := dest1 hp
  exact ⟨anNamed t, named_vc t h k hk⟩

theorem ev_eq {a b : Ev} (h1 : a.1 = b.1) (h2 : a.2.1 = b.2.1) : a = b := by
  obtain ⟨x1, x2, x3⟩ := a
  obtain ⟨b1, b2, b3⟩ := b
  simp only at h1 h2
  subst h1; subst h2; rfl

theorem same2_vc (t u : Tr) (k : List Dat → Prop) (hk : k [⟨.bool, smR t u⟩, ⟨tErr, smErr t u⟩]) : vcF ⟨Em, [(10, cCheck), (48, cNamed)], [], [], []⟩ (anSame2 t u) (Tryd.f17.body.getD .skip) Tryd.f17.ntmps [(.tmp 4, .bool), (.tmp 5, tErr)] [⟨tTr, t⟩, ⟨tTr, u⟩] k := by
  rw [vcSame2]
  have ret : ∀ (b : Bool) (e : Int), smErr t u = e → smR t u = b → k [⟨.bool, b⟩, ⟨tErr, e⟩] := by rintro _ _ rfl rfl; exact hk
  simp only [decide_eq_true_eq, decide_eq_false_iff_not, and_true, true_and, Int.toNat_natCast, eq_self, inK_i64, Bool.not_eq_true', Bool.not_eq_false', Bool.and_true, forall_const]
  refine ⟨fun h => ret _ _ (by unfold smErr; rw [if_neg h]) (by unfold smR smErr; rw [if_neg h, decide_eq_false h]; rfl), fun h => ⟨fun h2 => ret _ _ (by unfold smErr; rw [if_pos h]) (by unfold smR smErr; rw [if_pos h, decide_eq_false h2]; rfl), fun h2 => ?_⟩⟩
  have hE : smErr t u = 0 := by unfold smErr; rw [if_pos h]; exact h2
  have hR : smR t u = sameB t u := by unfold smR; rw [hE]; rfl
  have gt := good_of h
  have gu := good_of h2
  have l1 := nmd_len t.2.1
  have l2 := nmd_len u.2.1
  have b1 := gt.len
  have b2 := gu.len
  refine ⟨fun h3 => ret _ _ hE (by rw [hR]; unfold sameB; rw [decide_eq_false h3]; rfl), fun h3 => ⟨fun h4 => ret _ _ hE (by rw [hR]; unfold sameB; rw [decide_eq_true h3, decide_eq_false (by omega)]; rfl), fun h4 => ⟨h, ⟨0, Nat.zero_le _, rfl, rfl⟩, fun x hx => ⟨fun hlt => ?_, fun hge => ?_⟩⟩⟩⟩
  · exact ⟨by omega, hlt, by omega, x + 1, by omega, by omega, by omega, (putU_succ _ (by omega) _).symm⟩
  · have hxe : x = t.2.1.length := by omega
    subst hxe
    refine ⟨h2, ⟨0, ⟨Nat.zero_le _, fun j hj => absurd hj (Nat.not_lt_zero _)⟩, rfl, rfl⟩, fun y ⟨hy, hall⟩ => ⟨fun hlt => ?_, fun hge => ret _ _ hE ?_⟩⟩
    · have hyl : y < (nmd u.2.1).length := by omega
      have hmem : ∀ z, (nmd u.2.1).getD y z ∈ nmd u.2.1 := fun z => by
        rw [List.getD_eq_getElem?_getD, List.getElem?_eq_getElem hyl]; exact List.getElem_mem hyl
      have bad : mpGet (mapT t.2.1) ((nmd u.2.1).getD y (List.replicate 2 0, (0, 0, ()), ())).1 ≠ some ((nmd u.2.1).getD y (List.replicate 2 0, (0, 0, ()), ())).2.1 → smR t u = false := by
        intro hne
        rw [hR]
        cases hs : sameB t u with
        | false => rfl
        | true =>
          unfold sameB at hs
          rw [Bool.and_eq_true, Bool.and_eq_true, List.all_eq_true] at hs
          have := hs.2.2 _ (hmem (List.replicate 2 0, (0, 0, ()), ()))
          rw [decide_eq_true_eq] at this
          exact absurd this hne
      refine ⟨by omega, hlt, fun hn => ret _ _ hE (bad fun e => by rw [e] at hn; cases hn), fun hs => ⟨fun hn => ret _ _ hE (bad fun e => ?_), fun he => ⟨by omega, y + 1, ⟨by omega, fun j hj => ?_⟩, by omega, by omega⟩⟩⟩
      · rw [Bool.and_eq_false_iff, decide_eq_false_iff_not, decide_eq_false_iff_not, e] at hn
        rcases hn with h | h <;> exact h rfl
      · by_cases hj2 : j = y
        · subst hj2
          rw [Bool.and_eq_true, decide_eq_true_eq, decide_eq_true_eq] at he
          obtain ⟨v, hv⟩ := Option.isSome_iff_exists.1 hs
          rw [hv] at he
          exact hv.trans (congrArg some (ev_eq he.1 he.2))
        · exact hall j (by omega)
    · rw [hR]
      have hye : y = u.2.1.length := by omega
      unfold sameB
      rw [Bool.and_eq_true, Bool.and_eq_true, decide_eq_true_eq, decide_eq_true_eq, List.all_eq_true]
      refine ⟨h3, by omega, fun x hx => ?_⟩
      obtain ⟨i, hi⟩ := List.getElem?_of_mem hx
      have hil := (List.getElem?_eq_some_iff.1 hi).1
      have := hall i (by omega)
      rw [List.getD_eq_getElem?_getD, hi] at this
      rw [decide_eq_true_eq]
      exact this

theorem okSame2 : PlainOk Tryd.prog [] 17 cSame2 := by
  refine plain_of (CxOk.mk' Em_ok (by kernel_rfl) mixed (gl := []) (GOk.cons okCheck Tryd.func10 (by kernel_rfl) (by kernel_rfl) (GOk.cons okNamed Tryd.func48 (by kernel_rfl) (by kernel_rfl) GOk.nil)) GoOk.nil noIt) Tryd.func17 (c := Tryd.f17.body.getD .skip) (rvs := [(.tmp 4, .bool), (.tmp 5, tErr)]) (by kernel_rfl) (by kernel_rfl) (by kernel_rfl) ?_
  intro ds k ⟨hp, hk⟩ hwf
  obtain ⟨t, u, rfl, -⟩ := dest2 hp
  exact ⟨anSame2 t u, same2_vc t u k hk⟩
end Go.Proofs.YtbpoeigaoakdiaaDoor

/- Traces: the document's answers. -/
namespace Go.Proofs.YtbpoeigaoakdiaaDoor.H
open Go.Vc
def cRTrace : Ctr := cdet [tTr] (fun _ => True) (fun t => [⟨I, chk t⟩])
def anRTrace (t : Tr) : Ann := [joinAll, loopAt 6 Nat [] (fun st i => St.at (St.only st [1]) [(3, .d I (i : Int))]) (fun _ i => chk t = evsErr t.1 t.2.1 (t.2.1.length - i) i ∧ i ≤ t.2.1.length) (fun i => t.2.1.length - i)]
def cBoth : Ctr := cdet [I, I] (fun (a b : Int) => a < 2305843009213693952 ∧ True) (fun (a b : Int) => [⟨I, ((a.toNat &&& b.toNat : Nat) : Int)⟩])
def anBoth (a b : Int) : Ann := [joinAll, loopAt 3 Nat [] (fun st k => St.at (St.only st [4]) [(0, .d I (a.tdiv (2 ^ k))), (1, .d I (b.tdiv (2 ^ k))), (5, .d I (((a.toNat &&& b.toNat) % 2 ^ k : Nat) : Int)), (6, .d I ((2 : Int) ^ k))]) (fun _ k => k ≤ 61 ∧ True) (fun k => 62 - k)]
def setP (a : Int) : Prop := 0 ≤ a ∧ a < 1152921504606846976
def cEither : Ctr := cdet [I, I] (fun (a b : Int) => setP a ∧ setP b) (fun (a b : Int) => [⟨I, ((a.toNat ||| b.toNat : Nat) : Int)⟩])
def cWith : Ctr := cdet [I, I] (fun (a i : Int) => setP a ∧ 0 ≤ i ∧ i ≤ 59) (fun (a i : Int) => [⟨I, ((a.toNat ||| 2 ^ i.toNat : Nat) : Int)⟩])
abbrev evA (l : List Ev) (i : Nat) : Ev := l.getD i (0, 0, ())
/-- which of its process an event is, of the first j -/
def nthU (l : List Ev) (i : Nat) : Nat → Nat
  | 0 => 0
  | j + 1 => if (evA l j).1 = (evA l i).1 then nthU l i j + 1 else nthU l i j
def nth (l : List Ev) (i : Nat) : Nat := nthU l i i
def cNth : Ctr := cdet [tTr, I] (fun (t : Tr) (i : Int) => 0 ≤ i ∧ i < t.2.1.length) (fun (t : Tr) (i : Int) => [⟨I, (nth t.2.1 i.toNat : Int)⟩])
def anNth (t : Tr) (i : Int) : Ann := [joinAll, loopAt 3 Nat [] (fun st j => St.at (St.only st [1, 2]) [(5, .d I (nthU t.2.1 i.toNat j : Int)), (6, .d I (j : Int))]) (fun _ j => j ≤ i.toNat ∧ nthU t.2.1 i.toNat j ≤ j) (fun j => i.toNat - j)]
def mustB (l : List Ev) (i j : Nat) : Bool := decide ((evA l j).1 = (evA l i).1) || decide ((evA l i).2.1 = (j : Int))
/-- of an event what happened before it, pair by pair -/
def setU (l : List Ev) (i : Nat) : Nat → Nat
  | 0 => 0
  | j + 1 => if mustB l i j = true then setU l i j ||| (bB l j ||| 2 ^ j) else setU l i j
def bBs (l : List Ev) (i : Nat) : List Int := (List.range i).map fun j => ((bB l j : Nat) : Int)
def cRBefore : Ctr := cdet [tTr] (fun (t : Tr) => chk t = 0 ∧ True) (fun (t : Tr) => [⟨.sl I, ints (befN t)⟩])
def anRBefore (t : Tr) : Ann := [joinAll,
  loopAt 3 Nat [(3, 3, I)] (fun st i => { St.at (St.only st [1, 3]) [(4, .d I (i : Int))] with ob := [.var 24 tTr t, .row 3 I (bBs t.2.1 i)] }) (fun _ i => i ≤ t.2.1.length ∧ True) (fun i => t.2.1.length - i),
  loopAt 7 Nat [] (fun st j => St.at (St.only st [1, 3, 4]) [(5, .d I (setU t.2.1 (st.i 4).toNat j : Int)), (6, .d I (j : Int))]) (fun st j => j ≤ (st.i 4).toNat ∧ True) (fun j => t.2.1.length - j)]
/-- the places of a process's events among the first k -/
def ofU (l : List Ev) (p : Int) (k : Nat) : List Int := ((List.range k).filter fun i => decide ((l.getD i (0, 0, ())).1 = p)).map fun (i : Nat) => (i : Int)
def ofT (t : Tr) (p : Int) : List Int := ofU t.2.1 p t.2.1.length
def ofE (t : Tr) (p : Int) : Int := if chk t = 0 then (if inB p 0 (t.1 - 1) = true then 0 else 1) else chk t
def cROf : Ctr := cdet [tTr, I] (fun t _ => chk t = 0 ∧ True) (fun t p => [⟨.sl I, ofT t p⟩])
def anROf (t : Tr) (p : Int) : Ann := [joinAll, loopAt 3 Nat [(5, 3, I)] (fun st i => { St.at (St.only st [1, 2, 5]) [(6, .d I (i : Int))] with ob := [.var 24 tTr t, .row 3 I (ofU t.2.1 p i)] }) (fun _ i => i ≤ t.2.1.length ∧ True) (fun i => t.2.1.length - i)]
def cOf : Ctr := cdet [tTr, I] (fun _ _ => True) (fun t p => [⟨.sl I, if ofE t p = 0 then ofT t p else []⟩, ⟨tErr, ofE t p⟩])
def anOf (t : Tr) (p : Int) : Ann :=
  [joinAll, loopAt 8 Nat [(7, 3, I)] (fun st i => { St.at (St.only st [0, 1, 2, 4, 5, 7, 23, 24]) [(25, .d I (i : Int))] with ob := st.ob.set 1 (.row 3 I (ofU t.2.1 p i)) }) (fun _ i => i ≤ t.2.1.length ∧ chk t = 0) (fun i => t.2.1.length - i)]
/-- does what event i heard of stand for what event j of the other trace heard of? -/
def mtB (t u : Tr) (i j : Nat) : Bool :=
  (decide ((evA t.2.1 i).2.1 < 0) && decide ((evA u.2.1 j).2.1 < 0)) || (decide (0 ≤ (evA t.2.1 i).2.1) && decide (0 ≤ (evA u.2.1 j).2.1) && decide ((evA t.2.1 (evA t.2.1 i).2.1.toNat).1 = (evA u.2.1 (evA u.2.1 j).2.1.toNat).1) && decide (nth t.2.1 (evA t.2.1 i).2.1.toNat = nth u.2.1 (evA u.2.1 j).2.1.toNat))
def sameN (t u : Tr) (i j : Nat) : Bool := decide ((evA t.2.1 i).1 = (evA u.2.1 j).1) && decide (nth t.2.1 i = nth u.2.1 j)
def foundU (t u : Tr) (i : Nat) : Nat → Bool
  | 0 => false
  | j + 1 => if sameN t u i j = true then mtB t u i j else foundU t u i j
def rsB (t u : Tr) : Bool := decide (t.1 = u.1) && (decide (t.2.1.length = u.2.1.length) && (List.range t.2.1.length).all fun i => foundU t u i u.2.1.length)
def cRSame : Ctr := cdet [tTr, tTr] (fun t u => chk t = 0 ∧ chk u = 0) (fun t u => [⟨.bool, sameB t u⟩])
def anRSame (t u : Tr) : Ann :=
  [joinAll, loopAt 4 Nat [] (fun st i => St.at (St.only st [2, 3]) [(5, .d I (i : Int))]) (fun _ i => i ≤ t.2.1.length ∧ ∀ m, m < i → foundU t u m u.2.1.length = true) (fun i => t.2.1.length - i),
   loopAt 8 Nat [] (fun st j => St.at (St.only st [2, 3, 5]) [(6, .d .bool (foundU t u (st.i 5).toNat j)), (7, .d I (j : Int))]) (fun _ j => j ≤ u.2.1.length ∧ True) (fun j => u.2.1.length - j)]
def cLawT : Ctr := cdet [tTr, tTr, I] (fun _ _ _ => True) (fun _ _ _ => [⟨.bool, true⟩])
end Go.Proofs.YtbpoeigaoakdiaaDoor.H

/- Traces: the document's answers are the program's: the facts. -/
namespace Go.Proofs.YtbpoeigaoakdiaaDoor.H
open Go.Vc

theorem or_and_add (a : Nat) : ∀ b : Nat, (a ||| b) + (a &&& b) = a + b := by
  induction a using Nat.strongRecOn with
  | _ a ih =>
    intro b
    by_cases ha : a = 0
    · subst ha; simp
    · have h := ih (a / 2) (by omega) (b / 2)
      have h1 : (a ||| b) / 2 = a / 2 ||| b / 2 := Nat.or_div_two
      have h2 : (a &&& b) / 2 = a / 2 &&& b / 2 := Nat.and_div_two
      have h3 : (a ||| b) % 2 = 1 ↔ a % 2 = 1 ∨ b % 2 = 1 := Nat.or_mod_two_eq_one
      have h4 : (a &&& b) % 2 = 1 ↔ a % 2 = 1 ∧ b % 2 = 1 := Nat.and_mod_two_eq_one
      omega
theorem or_pow_in {s i : Nat} (h : s.testBit i = true) : s ||| 2 ^ i = s := by
  refine Nat.eq_of_testBit_eq fun k => ?_
  rw [Nat.testBit_or, Nat.testBit_two_pow]
  by_cases hk : i = k
  · subst hk; rw [h]; rfl
  · simp [hk]
theorem or_pow_out {s i : Nat} (h : s.testBit i = false) : s ||| 2 ^ i = s + 2 ^ i := by
  have h1 := or_and_add s (2 ^ i)
  have h2 : s &&& 2 ^ i = 0 := by
    refine Nat.eq_of_testBit_eq fun k => ?_
    rw [Nat.testBit_and, Nat.testBit_two_pow, Nat.zero_testBit]
    by_cases hk : i = k
    · subst hk; rw [h]; rfl
    · simp [hk]
  omega

structure Gd (l : List Ev) : Prop where
  p : ∀ i, i < l.length → prc l i < 5
  f : ∀ i, i < l.length → frm l i < (i : Int)
  n : ∀ i, i < l.length → 0 ≤ (evA l i).1
  len : l.length ≤ 24
theorem gd_of {t : Tr} (h : chk t = 0) : Gd t.2.1 := by
  have g := good_of h
  refine ⟨fun i hi => ?_, fun i hi => ?_, fun i hi => (g.ev i hi).1, g.len⟩
  · have h1 := g.ev i hi; have h2 := g.procs; unfold prc; omega
  · have h1 := g.ev i hi; unfold frm; omega
theorem prc_eq {l : List Ev} (g : Gd l) {i j : Nat} (hi : i < l.length) (hj : j < l.length) : (evA l j).1 = (evA l i).1 ↔ prc l j = prc l i := by
  have h1 := g.n i hi
  have h2 := g.n j hj
  unfold prc
  unfold evA at *
  omega

theorem must_iff {l : List Ev} (g : Gd l) {i j : Nat} (hi : i < l.length) (hj : j < i) : mustB l i j = true ↔ prc l j = prc l i ∨ frm l i = (j : Int) := by
  unfold mustB
  rw [Bool.or_eq_true, decide_eq_true_eq, decide_eq_true_eq, prc_eq g hi (by omega)]
  rfl
theorem setU_bit (l : List Ev) (i k : Nat) : ∀ j, (setU l i j).testBit k = true ↔ ∃ m, m < j ∧ mustB l i m = true ∧ ((bB l m).testBit k = true ∨ k = m) := by
  intro j
  induction j with
  | zero => simp [setU]
  | succ j ih =>
    unfold setU
    by_cases hm : mustB l i j = true
    · rw [if_pos hm, Nat.testBit_or, Bool.or_eq_true, ih, bit_or2]
      constructor
      · rintro (⟨m, h1, h2, h3⟩ | h)
        · exact ⟨m, by omega, h2, h3⟩
        · exact ⟨j, by omega, hm, h⟩
      · rintro ⟨m, h1, h2, h3⟩
        by_cases hj : m = j
        · subst hj; exact .inr h3
        · exact .inl ⟨m, by omega, h2, h3⟩
    · rw [if_neg hm, ih]
      constructor
      · rintro ⟨m, h1, h2, h3⟩; exact ⟨m, by omega, h2, h3⟩
      · rintro ⟨m, h1, h2, h3⟩
        by_cases hj : m = j
        · subst hj; exact absurd h2 hm
        · exact ⟨m, by omega, h2, h3⟩
theorem setU_lt {l : List Ev} (g : Gd l) {i : Nat} (hi : i < l.length) : ∀ j, j ≤ i → setU l i j < 2 ^ j := by
  intro j
  induction j with
  | zero => intro _; exact Nat.two_pow_pos 0
  | succ j ih =>
    intro hj
    have h1 := ih (by omega)
    have h2 := bB_lt g.p g.f (i := j) (by omega)
    have hp : 2 ^ j < 2 ^ (j + 1) := Nat.pow_lt_pow_right (by decide) (by omega)
    unfold setU
    split
    · exact Nat.or_lt_two_pow (by omega) (Nat.or_lt_two_pow (by omega) hp)
    · omega
theorem set_eq {l : List Ev} (g : Gd l) {i : Nat} (hi : i < l.length) : setU l i i = bB l i := by
  refine Nat.eq_of_testBit_eq fun k => ?_
  have key : (setU l i i).testBit k = true ↔ (bB l i).testBit k = true := by
    rw [setU_bit]
    constructor
    · rintro ⟨m, h1, h2, h3⟩
      have hb := bB_must g.p g.f hi h1 ((must_iff g hi h1).1 h2)
      rcases h3 with h | h
      · exact bB_trans g.p g.f hi hb h
      · rw [h]; exact hb
    · intro h
      obtain ⟨j, hj, h2⟩ := (bB_bit g.p g.f hi k).1 h
      refine ⟨j, hj.1, (must_iff g hi hj.1).2 ?_, h2⟩
      rcases hj.2 with h3 | h3
      · exact .inl h3.1
      · exact .inr h3
  cases h1 : (setU l i i).testBit k <;> cases h2 : (bB l i).testBit k <;> simp_all
theorem bBs_all {t : Tr} (g : Gd t.2.1) : bBs t.2.1 t.2.1.length = ints (befN t) := by
  unfold bBs ints befN
  refine List.ext_getElem (by simp [(bst_len t.2.1 t.2.1.length).1]) fun i h1 h2 => ?_
  have hi : i < t.2.1.length := by simpa using h1
  have := bst_keep t.2.1 hi t.2.1.length hi
  rw [List.getElem_map, List.getElem_map, List.getElem_range]
  rw [List.getD_eq_getElem?_getD, List.getElem?_eq_getElem (by rw [(bst_len t.2.1 t.2.1.length).1]; exact hi)] at this
  rw [← this]; rfl
theorem bBs_at {l : List Ev} {i j : Nat} (h : j < i) : (bBs l i).getD j 0 = ((bB l j : Nat) : Int) := by
  unfold bBs
  rw [List.getD_eq_getElem?_getD, List.getElem?_map, List.getElem?_range h]; rfl
theorem bBs_len (l : List Ev) (i : Nat) : (bBs l i).length = i := by simp [bBs]
theorem bBs_succ (l : List Ev) (i : Nat) : bBs l (i + 1) = bBs l i ++ [((bB l i : Nat) : Int)] := by unfold bBs; rw [List.range_succ, List.map_append]; rfl
theorem bef_at {t : Tr} {i : Nat} (hi : i < t.2.1.length) : (ints (befN t)).getD i 0 = ((bB t.2.1 i : Nat) : Int) := by
  rw [ints_getD]; unfold befN; rw [bst_keep t.2.1 hi t.2.1.length hi]

/-! Which of its process. -/
theorem nthU_le (l : List Ev) (i : Nat) : ∀ j, nthU l i j ≤ j := by
  intro j
  induction j with
  | zero => exact Nat.le_refl _
  | succ j ih => unfold nthU; split <;> omega
theorem nthU_proc {l : List Ev} {i i' : Nat} (h : (evA l i).1 = (evA l i').1) : ∀ j, nthU l i j = nthU l i' j := by
  intro j
  induction j with
  | zero => rfl
  | succ j ih => unfold nthU; rw [ih, h]
theorem nthU_mono (l : List Ev) (i : Nat) {a b : Nat} (h : a ≤ b) : nthU l i a ≤ nthU l i b := by
  induction b with
  | zero => rw [Nat.le_zero.1 h]; exact Nat.le_refl _
  | succ b ih =>
    by_cases hb : a = b + 1
    · rw [hb]; exact Nat.le_refl _
    · have := ih (by omega)
      rw [nthU]
      split <;> omega
theorem nthU_same {l : List Ev} {i a b : Nat} (h : a ≤ b) (hn : ∀ j, a ≤ j → j < b → (evA l j).1 ≠ (evA l i).1) : nthU l i b = nthU l i a := by
  induction b with
  | zero => rw [Nat.le_zero.1 h]
  | succ b ih =>
    by_cases hb : a = b + 1
    · rw [hb]
    · rw [nthU, if_neg (hn b (by omega) (by omega))]
      exact ih (by omega) fun j h1 h2 => hn j h1 (by omega)
theorem nth_last {l : List Ev} {i j : Nat} (hj : j < i) (hp : (evA l j).1 = (evA l i).1) : (nth l j : Int) + 1 = (nth l i : Int) ↔ ∀ m, j < m → m < i → (evA l m).1 ≠ (evA l i).1 := by
  have h1 : nth l j = nthU l i j := nthU_proc hp j
  have h2 : nthU l i (j + 1) = nthU l i j + 1 := by rw [nthU, if_pos hp]
  constructor
  · intro he m hm1 hm2 hc
    have h3 : nthU l i (m + 1) = nthU l i m + 1 := by rw [nthU, if_pos hc]
    have h4 := nthU_mono l i (show j + 1 ≤ m by omega)
    have h5 := nthU_mono l i (show m + 1 ≤ i by omega)
    unfold nth at he h1
    omega
  · intro hn
    have h3 := nthU_same (l := l) (i := i) (show j + 1 ≤ i by omega) fun m h4 h5 => hn m (by omega) h5
    unfold nth at h1 ⊢
    omega
/-! The two ways to tell whether two traces are one. -/
theorem nthU_cnt {l : List Ev} (g : Gd l) {i : Nat} (hi : i < l.length) : ∀ j, j ≤ l.length → nthU l i j = cntP l (prc l i) j
  | 0, _ => rfl
  | j + 1, hj => by
    have ih := nthU_cnt g hi j (by omega)
    have he := prc_eq g hi (j := j) (by omega)
    simp only [nthU, cntP, ih]
    by_cases h : (evA l j).1 = (evA l i).1
    · rw [if_pos h, if_pos (he.1 h)]
    · rw [if_neg h, if_neg (fun e => h (he.2 e))]
theorem nth_cnt {l : List Ev} (g : Gd l) {i : Nat} (hi : i < l.length) : nth l i = cntP l (prc l i) i := nthU_cnt g hi i (by omega)
theorem sameN_iff {t u : Tr} (gt : Gd t.2.1) (gu : Gd u.2.1) {i j : Nat} (hi : i < t.2.1.length) (hj : j < u.2.1.length) : sameN t u i j = true ↔ nmE t.2.1 i = nmE u.2.1 j := by
  unfold sameN nmE
  rw [Bool.and_eq_true, decide_eq_true_eq, decide_eq_true_eq, nth_cnt gt hi, nth_cnt gu hj]
  simp only [List.cons.injEq, and_true, Int.natCast_inj]
theorem mtB_iff {t u : Tr} (gt : Gd t.2.1) (gu : Gd u.2.1) {i j : Nat} (hi : i < t.2.1.length) (hj : j < u.2.1.length) : mtB t u i j = true ↔ hrE t.2.1 i = hrE u.2.1 j := by
  have h1 := gt.f i hi
  have h2 := gu.f j hj
  unfold mtB hrE
  by_cases a : 0 ≤ frm t.2.1 i <;> by_cases b : 0 ≤ frm u.2.1 j
  · rw [if_pos a, if_pos b]
    have a' : 0 ≤ (evA t.2.1 i).2.1 := a
    have b' : 0 ≤ (evA u.2.1 j).2.1 := b
    rw [decide_eq_false (show ¬ (evA t.2.1 i).2.1 < 0 by omega), decide_eq_true a', decide_eq_true b']
    simp only [Bool.false_and, Bool.false_or, Bool.true_and, Bool.and_eq_true, decide_eq_true_eq, Prod.mk.injEq, and_true]
    have e1 := nth_cnt gt (i := (frm t.2.1 i).toNat) (by omega)
    have e2 := nth_cnt gu (i := (frm u.2.1 j).toNat) (by omega)
    rw [show (evA t.2.1 i).2.1 = frm t.2.1 i from rfl, show (evA u.2.1 j).2.1 = frm u.2.1 j from rfl, e1, e2, Int.natCast_inj]
  · rw [if_pos a, if_neg b]
    have a' : 0 ≤ (evA t.2.1 i).2.1 := a
    have b' : ¬ 0 ≤ (evA u.2.1 j).2.1 := b
    rw [decide_eq_false (show ¬ (evA t.2.1 i).2.1 < 0 by omega), decide_eq_false b']
    simp only [Bool.false_and, Bool.false_or, Bool.and_false, Bool.false_eq_true, false_iff, Prod.mk.injEq, and_true, not_and]
    intro e
    have := gt.n (frm t.2.1 i).toNat (by omega)
    unfold evA at this
    omega
  · rw [if_neg a, if_pos b]
    have a' : ¬ 0 ≤ (evA t.2.1 i).2.1 := a
    have b' : 0 ≤ (evA u.2.1 j).2.1 := b
    rw [decide_eq_false (show ¬ (evA u.2.1 j).2.1 < 0 by omega), decide_eq_false a']
    simp only [Bool.false_and, Bool.false_or, Bool.and_false, Bool.false_eq_true, false_iff, Prod.mk.injEq, and_true, not_and]
    intro e
    have := gu.n (frm u.2.1 j).toNat (by omega)
    unfold evA at this
    omega
  · rw [if_neg a, if_neg b]
    have a' : ¬ 0 ≤ (evA t.2.1 i).2.1 := a
    have b' : ¬ 0 ≤ (evA u.2.1 j).2.1 := b
    rw [decide_eq_true (show (evA t.2.1 i).2.1 < 0 by omega), decide_eq_true (show (evA u.2.1 j).2.1 < 0 by omega)]
    simp
theorem nmE_eq {l : List Ev} {i j : Nat} (h : nmE l i = nmE l j) : i = j := by
  rcases Nat.lt_trichotomy i j with h1 | h1 | h1
  · exact absurd h (nmE_inj h1)
  · exact h1
  · exact absurd h.symm (nmE_inj h1)
theorem foundU_iff {t u : Tr} (gt : Gd t.2.1) (gu : Gd u.2.1) {i : Nat} (hi : i < t.2.1.length) : ∀ n, n ≤ u.2.1.length → (foundU t u i n = true ↔ ∃ j, j < n ∧ neE t.2.1 i = neE u.2.1 j)
  | 0, _ => by simp [foundU]
  | n + 1, hn => by
    have ih := foundU_iff gt gu hi n (by omega)
    have hs := sameN_iff gt gu hi (j := n) (by omega)
    have hm := mtB_iff gt gu hi (j := n) (by omega)
    unfold foundU
    by_cases h : sameN t u i n = true
    · rw [if_pos h, hm]
      constructor
      · intro e; exact ⟨n, by omega, by unfold neE; rw [hs.1 h, e]⟩
      · rintro ⟨j, hj, e⟩
        simp only [neE, Prod.mk.injEq, and_true] at e
        have : n = j := nmE_eq ((hs.1 h).symm.trans e.1)
        rw [this]; exact e.2
    · rw [if_neg h, ih]
      constructor
      · rintro ⟨j, hj, e⟩; exact ⟨j, by omega, e⟩
      · rintro ⟨j, hj, e⟩
        by_cases hjn : j = n
        · subst hjn
          simp only [neE, Prod.mk.injEq, and_true] at e
          exact absurd (hs.2 e.1) h
        · exact ⟨j, by omega, e⟩
theorem pig : ∀ (n : Nat) (f : Nat → Nat), (∀ i, i ≤ n → f i < n) → ∃ i j, i < j ∧ j ≤ n ∧ f i = f j
  | 0, f, h => absurd (h 0 (Nat.le_refl _)) (Nat.not_lt_zero _)
  | n + 1, f, h => by
    by_cases hit : ∃ i, i ≤ n ∧ f i = f (n + 1)
    · obtain ⟨i, hi, e⟩ := hit
      exact ⟨i, n + 1, by omega, Nat.le_refl _, e⟩
    · have hno : ∀ i, i ≤ n → f i ≠ f (n + 1) := fun i hi e => hit ⟨i, hi, e⟩
      have hv := h (n + 1) (Nat.le_refl _)
      obtain ⟨i, j, hij, hj, e⟩ := pig n (fun i => if f i = n then f (n + 1) else f i) fun i hi => by
        show (if f i = n then f (n + 1) else f i) < n
        have h1 := h i (by omega)
        have h2 := hno i hi
        split <;> omega
      have a1 := hno i (by omega)
      have a2 := hno j hj
      refine ⟨i, j, hij, by omega, ?_⟩
      split at e <;> split at e <;> omega
theorem inj_onto {n : Nat} {f : Nat → Nat} (h1 : ∀ i, i < n → f i < n) (h2 : ∀ i j, i < n → j < n → f i = f j → i = j) {k : Nat} (hk : k < n) : ∃ i, i < n ∧ f i = k := by
  refine Classical.byContradiction fun hno => ?_
  have hno : ∀ i, i < n → f i ≠ k := fun i hi e => hno ⟨i, hi, e⟩
  obtain ⟨i, j, hij, hjn, e⟩ := pig n (fun i => if i = n then k else f i) fun i hi => by
    show (if i = n then k else f i) < n
    split
    · exact hk
    · exact h1 i (by omega)
  rw [if_neg (by omega)] at e
  by_cases hj : j = n
  · rw [if_pos hj] at e; exact hno i (by omega) e
  · rw [if_neg hj] at e
    have := h2 i j (by omega) (by omega) e
    omega
theorem putU_mem (L : List NE) (z : NE) : ∀ m, m ≤ L.length → ∀ q v, mpGet (putU L m) q = some v → ∃ j, j < m ∧ (L.getD j z).1 = q ∧ (L.getD j z).2.1 = v
  | 0, _, q, v, h => by simp [putU, mpGet] at h
  | m + 1, hm, q, v, h => by
    rw [putU_succ L (by omega) z, mpGet_put] at h
    split at h
    · rename_i e
      exact ⟨m, by omega, e, Option.some.inj h⟩
    · obtain ⟨j, hj, h⟩ := putU_mem L z m (by omega) q v h
      exact ⟨j, by omega, h⟩
theorem mapT_mem {t : Tr} (g : Good t) {q : List Int} {v : Ev} (h : mpGet (mapT t.2.1) q = some v) : ∃ j, j < t.2.1.length ∧ q = nmE t.2.1 j ∧ v = hrE t.2.1 j := by
  unfold mapT at h
  rw [← nmd_len] at h
  obtain ⟨j, hj, h1, h2⟩ := putU_mem _ ([0, 0], (0, 0, ()), ()) _ (Nat.le_refl _) _ _ h
  rw [nmd_len] at hj
  rw [nmd_at (good_prc' g) (good_frm' g) hj] at h1 h2
  exact ⟨j, hj, h1.symm, h2.symm⟩
theorem sameB_iff {t u : Tr} (gt : Good t) (gu : Good u) : sameB t u = true ↔ t.1 = u.1 ∧ t.2.1.length = u.2.1.length ∧ ∀ k, k < u.2.1.length → ∃ j, j < t.2.1.length ∧ neE u.2.1 k = neE t.2.1 j := by
  constructor
  · intro h
    unfold sameB at h
    rw [Bool.and_eq_true, Bool.and_eq_true, decide_eq_true_eq, decide_eq_true_eq, List.all_eq_true] at h
    obtain ⟨h1, h2, h3⟩ := h
    refine ⟨h1, h2, fun k hk => ?_⟩
    have hmem : (nmd u.2.1).getD k ([0, 0], (0, 0, ()), ()) ∈ nmd u.2.1 := by
      rw [List.getD_eq_getElem?_getD, List.getElem?_eq_getElem (by rw [nmd_len]; exact hk)]; exact List.getElem_mem _
    have := h3 _ hmem
    rw [nmd_at (good_prc' gu) (good_frm' gu) hk, decide_eq_true_eq] at this
    obtain ⟨j, hj, e1, e2⟩ := mapT_mem gt this
    have e1 : nmE u.2.1 k = nmE t.2.1 j := e1
    have e2 : hrE u.2.1 k = hrE t.2.1 j := e2
    exact ⟨j, hj, by unfold neE; rw [e1, e2]⟩
  · rintro ⟨h1, h2, h3⟩
    exact same_of gt gu h1 h2 h3
theorem rs_same {t u : Tr} (gt : Good t) (gu : Good u) (gdt : Gd t.2.1) (gdu : Gd u.2.1) : (t.1 = u.1 ∧ t.2.1.length = u.2.1.length ∧ ∀ i, i < t.2.1.length → foundU t u i u.2.1.length = true) ↔ sameB t u = true := by
  rw [sameB_iff gt gu]
  have hf := fun i (hi : i < t.2.1.length) => foundU_iff gdt gdu hi u.2.1.length (Nat.le_refl _)
  constructor
  · rintro ⟨h1, h2, h3⟩
    refine ⟨h1, h2, fun k hk => ?_⟩
    have h4 : ∀ i, ∃ j, i < t.2.1.length → j < t.2.1.length ∧ neE t.2.1 i = neE u.2.1 j := fun i => by
      by_cases hi : i < t.2.1.length
      · obtain ⟨j, hj, e⟩ := (hf i hi).1 (h3 i hi)
        exact ⟨j, fun _ => ⟨by omega, e⟩⟩
      · exact ⟨0, fun h => absurd h hi⟩
    obtain ⟨f, hff⟩ := Classical.axiomOfChoice h4
    obtain ⟨i, hi, e⟩ := inj_onto (f := f) (fun i hi => (hff i hi).1) (fun i j hi hj e => by
      have a := (hff i hi).2
      have b := (hff j hj).2
      rw [e, ← b] at a
      simp only [neE, Prod.mk.injEq, and_true] at a
      exact nmE_eq a.1) (k := k) (by omega)
    exact ⟨i, hi, by rw [(hff i hi).2, e]⟩
  · rintro ⟨h1, h2, h3⟩
    refine ⟨h1, h2, fun i hi => (hf i hi).2 ?_⟩
    have h4 : ∀ k, ∃ j, k < u.2.1.length → j < u.2.1.length ∧ neE u.2.1 k = neE t.2.1 j := fun k => by
      by_cases hk : k < u.2.1.length
      · obtain ⟨j, hj, e⟩ := h3 k hk
        exact ⟨j, fun _ => ⟨by omega, e⟩⟩
      · exact ⟨0, fun h => absurd h hk⟩
    obtain ⟨f, hff⟩ := Classical.axiomOfChoice h4
    obtain ⟨k, hk, e⟩ := inj_onto (f := f) (fun i hi => (hff i hi).1) (fun i j hi hj e => by
      have a := (hff i hi).2
      have b := (hff j hj).2
      rw [e, ← b] at a
      simp only [neE, Prod.mk.injEq, and_true] at a
      exact nmE_eq a.1) (k := i) (by omega)
    exact ⟨k, hk, by rw [(hff k hk).2, e]⟩
end Go.Proofs.YtbpoeigaoakdiaaDoor.H

/- What the functions of this seat have to satisfy, by program: each verification condition in plain words. -/
namespace Go.Proofs.YtbpoeigaoakdiaaDoor
open Go.Vc H
set_option linter.unusedVariables false
theorem vcRIn (a b c : Int) (k : List Dat → Prop) : vcF ⟨Em, [], [], [], []⟩ [joinAll] (Tryd.f42.body.getD .skip) Tryd.f42.ntmps [(.tmp 6, .bool)] [⟨I, a⟩, ⟨I, b⟩, ⟨I, c⟩] k = (
  (decide (b ≤ a) = true → k [Dat.mk Ty.bool (decide (a ≤ c))]) ∧ (decide (b ≤ a) = false → k [Dat.mk Ty.bool false])) := by kernel_rfl
theorem vcRTrace (t : Tr) (k : List Dat → Prop) : vcF ⟨Em, [(42, cWithin)], [], [], []⟩ (anRTrace t) (Tryd.f8.body.getD .skip) Tryd.f8.ntmps [(.tmp 2, I)] [⟨tTr, t⟩] k = (
  True ∧ ((!inB t.fst (1 : Int) (5 : Int)) = true → k [Dat.mk (I) (1 : Int)]) ∧ ((!inB t.fst (1 : Int) (5 : Int)) = false → (decide ((24 : Int) < (↑(List.length t.snd.fst) : Int)) = true → k [Dat.mk (I) (4 : Int)]) ∧ (decide ((24 : Int) < (↑(List.length t.snd.fst) : Int)) = false → (∃ (x : Nat), (chk t = evsErr t.fst t.snd.fst (t.snd.fst.length - x) x ∧ x ≤ t.snd.fst.length) ∧ (([] : List Nat) = [] ∧ (0 : Int) = (↑x : Int) ∧ True) ∧ (((24 : Nat) = (24 : Nat) ∧ t = t) ∧ True) ∧ True) ∧ ∀ (x : Nat), chk t = evsErr t.fst t.snd.fst (t.snd.fst.length - x) x ∧ x ≤ t.snd.fst.length → (decide ((↑x : Int) < (↑(List.length t.snd.fst) : Int)) = true → (0 : Int) ≤ (↑x : Int) ∧ (↑x : Int) < (↑(List.length t.snd.fst) : Int) ∧ inK IntKind.i64 (t.fst - (1 : Int)) ∧ True ∧ ((!inB (List.getD t.snd.fst (↑x : Int).toNat ((0 : Int), (0 : Int), ())).fst (0 : Int) (t.fst - (1 : Int))) = true → k [Dat.mk (I) (1 : Int)]) ∧ ((!inB (List.getD t.snd.fst (↑x : Int).toNat ((0 : Int), (0 : Int), ())).fst (0 : Int) (t.fst - (1 : Int))) = false → inK IntKind.i64 ((↑x : Int) - (1 : Int)) ∧ True ∧ ((!inB (List.getD t.snd.fst (↑x : Int).toNat ((0 : Int), (0 : Int), ())).snd.fst (-1 : Int) ((↑x : Int) - (1 : Int))) = true → k [Dat.mk (I) (1 : Int)]) ∧ ((!inB (List.getD t.snd.fst (↑x : Int).toNat ((0 : Int), (0 : Int), ())).snd.fst (-1 : Int) ((↑x : Int) - (1 : Int))) = false → ((decide ((0 : Int) ≤ (List.getD t.snd.fst (↑x : Int).toNat ((0 : Int), (0 : Int), ())).snd.fst) = true → (0 : Int) ≤ (List.getD t.snd.fst (↑x : Int).toNat ((0 : Int), (0 : Int), ())).snd.fst ∧ (List.getD t.snd.fst (↑x : Int).toNat ((0 : Int), (0 : Int), ())).snd.fst < (↑(List.length t.snd.fst) : Int) ∧ True) ∧ (decide ((0 : Int) ≤ (List.getD t.snd.fst (↑x : Int).toNat ((0 : Int), (0 : Int), ())).snd.fst) = false → True)) ∧ ((decide ((0 : Int) ≤ (List.getD t.snd.fst (↑x : Int).toNat ((0 : Int), (0 : Int), ())).snd.fst) && decide ((List.getD t.snd.fst (Int.toNat (List.getD t.snd.fst (↑x : Int).toNat ((0 : Int), (0 : Int), ())).snd.fst) ((0 : Int), (0 : Int), ())).fst = (List.getD t.snd.fst (↑x : Int).toNat ((0 : Int), (0 : Int), ())).fst)) = true → k [Dat.mk (I) (6 : Int)]) ∧ ((decide ((0 : Int) ≤ (List.getD t.snd.fst (↑x : Int).toNat ((0 : Int), (0 : Int), ())).snd.fst) && decide ((List.getD t.snd.fst (Int.toNat (List.getD t.snd.fst (↑x : Int).toNat ((0 : Int), (0 : Int), ())).snd.fst) ((0 : Int), (0 : Int), ())).fst = (List.getD t.snd.fst (↑x : Int).toNat ((0 : Int), (0 : Int), ())).fst)) = false → inK IntKind.i64 ((↑x : Int) + (1 : Int)) ∧ ∃ (x_1 : Nat), (chk t = evsErr t.fst t.snd.fst (t.snd.fst.length - x_1) x_1 ∧ x_1 ≤ t.snd.fst.length) ∧ t.snd.fst.length - x_1 < t.snd.fst.length - x ∧ (([] : List Nat) = [] ∧ (↑x : Int) + (1 : Int) = (↑x_1 : Int) ∧ True) ∧ (((24 : Nat) = (24 : Nat) ∧ t = t) ∧ True) ∧ True)))) ∧ (decide ((↑x : Int) < (↑(List.length t.snd.fst) : Int)) = false → k [Dat.mk (I) (0 : Int)])))) := by kernel_rfl
theorem vcBoth (a b : Int) (k : List Dat → Prop) : vcF ⟨Em, [], [], [], []⟩ (anBoth a b) (Tryd.f67.body.getD .skip) Tryd.f67.ntmps [(.tmp 4, I)] [⟨I, a⟩, ⟨I, b⟩] k = (
  (∃ (x : Nat), (x ≤ (61 : Nat) ∧ True) ∧ (a = a.tdiv ((2 : Int) ^ x) ∧ b = b.tdiv ((2 : Int) ^ x) ∧ (0 : Int) = (0 : Int) ∧ (0 : Int) = (↑((a.toNat &&& b.toNat) % (2 : Nat) ^ x) : Int) ∧ (1 : Int) = (2 : Int) ^ x ∧ True) ∧ True ∧ True) ∧ ∀ (x : Nat), x ≤ (61 : Nat) ∧ True → (decide ((0 : Int) < a.tdiv ((2 : Int) ^ x)) = true → (decide ((0 : Int) < b.tdiv ((2 : Int) ^ x)) = true → (2 : Int) ≠ (0 : Int) ∧ inK IntKind.i64 ((a.tdiv ((2 : Int) ^ x)).tmod (2 : Int)) ∧ (decide ((a.tdiv ((2 : Int) ^ x)).tmod (2 : Int) = (1 : Int)) = true → (2 : Int) ≠ (0 : Int) ∧ inK IntKind.i64 ((b.tdiv ((2 : Int) ^ x)).tmod (2 : Int)) ∧ (decide ((b.tdiv ((2 : Int) ^ x)).tmod (2 : Int) = (1 : Int)) = true → inK IntKind.i64 ((↑((a.toNat &&& b.toNat) % (2 : Nat) ^ x) : Int) + (2 : Int) ^ x) ∧ (2 : Int) ≠ (0 : Int) ∧ inK IntKind.i64 ((a.tdiv ((2 : Int) ^ x)).tdiv (2 : Int)) ∧ (2 : Int) ≠ (0 : Int) ∧ inK IntKind.i64 ((b.tdiv ((2 : Int) ^ x)).tdiv (2 : Int)) ∧ inK IntKind.i64 ((2 : Int) ^ x * (2 : Int)) ∧ ∃ (x_1 : Nat), (x_1 ≤ (61 : Nat) ∧ True) ∧ (62 : Nat) - x_1 < (62 : Nat) - x ∧ ((a.tdiv ((2 : Int) ^ x)).tdiv (2 : Int) = a.tdiv ((2 : Int) ^ x_1) ∧ (b.tdiv ((2 : Int) ^ x)).tdiv (2 : Int) = b.tdiv ((2 : Int) ^ x_1) ∧ (0 : Int) = (0 : Int) ∧ (↑((a.toNat &&& b.toNat) % (2 : Nat) ^ x) : Int) + (2 : Int) ^ x = (↑((a.toNat &&& b.toNat) % (2 : Nat) ^ x_1) : Int) ∧ (2 : Int) ^ x * (2 : Int) = (2 : Int) ^ x_1 ∧ True) ∧ True ∧ True) ∧ (decide ((b.tdiv ((2 : Int) ^ x)).tmod (2 : Int) = (1 : Int)) = false → (2 : Int) ≠ (0 : Int) ∧ inK IntKind.i64 ((a.tdiv ((2 : Int) ^ x)).tdiv (2 : Int)) ∧ (2 : Int) ≠ (0 : Int) ∧ inK IntKind.i64 ((b.tdiv ((2 : Int) ^ x)).tdiv (2 : Int)) ∧ inK IntKind.i64 ((2 : Int) ^ x * (2 : Int)) ∧ ∃ (x_1 : Nat), (x_1 ≤ (61 : Nat) ∧ True) ∧ (62 : Nat) - x_1 < (62 : Nat) - x ∧ ((a.tdiv ((2 : Int) ^ x)).tdiv (2 : Int) = a.tdiv ((2 : Int) ^ x_1) ∧ (b.tdiv ((2 : Int) ^ x)).tdiv (2 : Int) = b.tdiv ((2 : Int) ^ x_1) ∧ (0 : Int) = (0 : Int) ∧ (↑((a.toNat &&& b.toNat) % (2 : Nat) ^ x) : Int) = (↑((a.toNat &&& b.toNat) % (2 : Nat) ^ x_1) : Int) ∧ (2 : Int) ^ x * (2 : Int) = (2 : Int) ^ x_1 ∧ True) ∧ True ∧ True)) ∧ (decide ((a.tdiv ((2 : Int) ^ x)).tmod (2 : Int) = (1 : Int)) = false → (2 : Int) ≠ (0 : Int) ∧ inK IntKind.i64 ((a.tdiv ((2 : Int) ^ x)).tdiv (2 : Int)) ∧ (2 : Int) ≠ (0 : Int) ∧ inK IntKind.i64 ((b.tdiv ((2 : Int) ^ x)).tdiv (2 : Int)) ∧ inK IntKind.i64 ((2 : Int) ^ x * (2 : Int)) ∧ ∃ (x_1 : Nat), (x_1 ≤ (61 : Nat) ∧ True) ∧ (62 : Nat) - x_1 < (62 : Nat) - x ∧ ((a.tdiv ((2 : Int) ^ x)).tdiv (2 : Int) = a.tdiv ((2 : Int) ^ x_1) ∧ (b.tdiv ((2 : Int) ^ x)).tdiv (2 : Int) = b.tdiv ((2 : Int) ^ x_1) ∧ (0 : Int) = (0 : Int) ∧ (↑((a.toNat &&& b.toNat) % (2 : Nat) ^ x) : Int) = (↑((a.toNat &&& b.toNat) % (2 : Nat) ^ x_1) : Int) ∧ (2 : Int) ^ x * (2 : Int) = (2 : Int) ^ x_1 ∧ True) ∧ True ∧ True)) ∧ (decide ((0 : Int) < b.tdiv ((2 : Int) ^ x)) = false → k [Dat.mk (I) (↑((a.toNat &&& b.toNat) % (2 : Nat) ^ x) : Int)])) ∧ (decide ((0 : Int) < a.tdiv ((2 : Int) ^ x)) = false → k [Dat.mk (I) (↑((a.toNat &&& b.toNat) % (2 : Nat) ^ x) : Int)])) := by kernel_rfl
theorem vcEither (a b : Int) (k : List Dat → Prop) : vcF ⟨Em, [(67, cBoth)], [], [], []⟩ [] (Tryd.f45.body.getD .skip) Tryd.f45.ntmps [(.tmp 4, I)] [⟨I, a⟩, ⟨I, b⟩] k = (
  inK IntKind.i64 (a + b) ∧ (a < (2305843009213693952 : Int) ∧ True) ∧ inK IntKind.i64 (a + b - (↑(a.toNat &&& b.toNat) : Int)) ∧ k [Dat.mk (I) (a + b - (↑(a.toNat &&& b.toNat) : Int))]) := by kernel_rfl
theorem vcWith (a i : Int) (k : List Dat → Prop) : vcF ⟨Em, [(49, cBit), (56, cPow2)], [], [], []⟩ [] (Tryd.f46.body.getD .skip) Tryd.f46.ntmps [(.tmp 4, I)] [⟨I, a⟩, ⟨I, i⟩] k = (
  True ∧ (bitB a i = true → k [Dat.mk (I) a]) ∧ (bitB a i = false → (i ≤ (61 : Int) ∧ True) ∧ inK IntKind.i64 (a + (2 : Int) ^ i.toNat) ∧ k [Dat.mk (I) (a + (2 : Int) ^ i.toNat)])) := by kernel_rfl
theorem vcNth (t : Tr) (i : Int) (k : List Dat → Prop) : vcF ⟨Em, [], [], [], []⟩ (anNth t i) (Tryd.f47.body.getD .skip) Tryd.f47.ntmps [(.tmp 4, I)] [⟨tTr, t⟩, ⟨I, i⟩] k = (
  (∃ (x : Nat), (x ≤ i.toNat ∧ nthU t.snd.fst i.toNat x ≤ x) ∧ (i = i ∧ ([] : List Nat) = [] ∧ (0 : Int) = (↑(nthU t.snd.fst i.toNat x) : Int) ∧ (0 : Int) = (↑x : Int) ∧ True) ∧ (((24 : Nat) = (24 : Nat) ∧ t = t) ∧ True) ∧ True) ∧ ∀ (x : Nat), x ≤ i.toNat ∧ nthU t.snd.fst i.toNat x ≤ x → (decide ((↑x : Int) < i) = true → ((0 : Int) ≤ (↑x : Int) ∧ (↑x : Int) < (↑(List.length t.snd.fst) : Int) ∧ (0 : Int) ≤ i ∧ i < (↑(List.length t.snd.fst) : Int) ∧ True) ∧ (decide ((List.getD t.snd.fst (↑x : Int).toNat ((0 : Int), (0 : Int), ())).fst = (List.getD t.snd.fst i.toNat ((0 : Int), (0 : Int), ())).fst) = true → inK IntKind.i64 ((↑(nthU t.snd.fst i.toNat x) : Int) + (1 : Int)) ∧ inK IntKind.i64 ((↑x : Int) + (1 : Int)) ∧ ∃ (x_1 : Nat), (x_1 ≤ i.toNat ∧ nthU t.snd.fst i.toNat x_1 ≤ x_1) ∧ i.toNat - x_1 < i.toNat - x ∧ (i = i ∧ ([] : List Nat) = [] ∧ (↑(nthU t.snd.fst i.toNat x) : Int) + (1 : Int) = (↑(nthU t.snd.fst i.toNat x_1) : Int) ∧ (↑x : Int) + (1 : Int) = (↑x_1 : Int) ∧ True) ∧ (((24 : Nat) = (24 : Nat) ∧ t = t) ∧ True) ∧ True) ∧ (decide ((List.getD t.snd.fst (↑x : Int).toNat ((0 : Int), (0 : Int), ())).fst = (List.getD t.snd.fst i.toNat ((0 : Int), (0 : Int), ())).fst) = false → inK IntKind.i64 ((↑x : Int) + (1 : Int)) ∧ ∃ (x_1 : Nat), (x_1 ≤ i.toNat ∧ nthU t.snd.fst i.toNat x_1 ≤ x_1) ∧ i.toNat - x_1 < i.toNat - x ∧ (i = i ∧ ([] : List Nat) = [] ∧ (↑(nthU t.snd.fst i.toNat x) : Int) = (↑(nthU t.snd.fst i.toNat x_1) : Int) ∧ (↑x : Int) + (1 : Int) = (↑x_1 : Int) ∧ True) ∧ (((24 : Nat) = (24 : Nat) ∧ t = t) ∧ True) ∧ True)) ∧ (decide ((↑x : Int) < i) = false → k [Dat.mk (I) (↑(nthU t.snd.fst i.toNat x) : Int)])) := by kernel_rfl
theorem vcRBefore (t : Tr) (k : List Dat → Prop) : vcF ⟨Em, [(45, cEither), (46, cWith)], [], [], []⟩ (anRBefore t) (Tryd.f11.body.getD .skip) Tryd.f11.ntmps [(.tmp 2, .sl I)] [⟨tTr, t⟩] k = (
  (∃ (x : Nat), (x ≤ t.snd.fst.length ∧ True) ∧ (([] : List Nat) = [] ∧ True ∧ (0 : Int) = (↑x : Int) ∧ True) ∧ (((24 : Nat) = (24 : Nat) ∧ t = t) ∧ ((3 : Nat) = (3 : Nat) ∧ [] = bBs t.snd.fst x) ∧ True) ∧ True) ∧ ∀ (x : Nat), x ≤ t.snd.fst.length ∧ True → (decide ((↑x : Int) < (↑(List.length t.snd.fst) : Int)) = true → (∃ (x_1 : Nat), (x_1 ≤ (↑x : Int).toNat ∧ True) ∧ (([] : List Nat) = [] ∧ True ∧ (↑x : Int) = (↑x : Int) ∧ (0 : Int) = (↑(setU t.snd.fst (↑x : Int).toNat x_1) : Int) ∧ (0 : Int) = (↑x_1 : Int) ∧ True) ∧ (((24 : Nat) = (24 : Nat) ∧ t = t) ∧ ((3 : Nat) = (3 : Nat) ∧ bBs t.snd.fst x = bBs t.snd.fst x) ∧ True) ∧ True) ∧ ∀ (x_1 : Nat), x_1 ≤ (↑x : Int).toNat ∧ True → (decide ((↑x_1 : Int) < (↑x : Int)) = true → ((0 : Int) ≤ (↑x_1 : Int) ∧ (↑x_1 : Int) < (↑(List.length t.snd.fst) : Int) ∧ (0 : Int) ≤ (↑x : Int) ∧ (↑x : Int) < (↑(List.length t.snd.fst) : Int) ∧ (decide ((List.getD t.snd.fst (↑x_1 : Int).toNat ((0 : Int), (0 : Int), ())).fst = (List.getD t.snd.fst (↑x : Int).toNat ((0 : Int), (0 : Int), ())).fst) = true → True) ∧ (decide ((List.getD t.snd.fst (↑x_1 : Int).toNat ((0 : Int), (0 : Int), ())).fst = (List.getD t.snd.fst (↑x : Int).toNat ((0 : Int), (0 : Int), ())).fst) = false → (0 : Int) ≤ (↑x : Int) ∧ (↑x : Int) < (↑(List.length t.snd.fst) : Int) ∧ True)) ∧ ((decide ((List.getD t.snd.fst (↑x_1 : Int).toNat ((0 : Int), (0 : Int), ())).fst = (List.getD t.snd.fst (↑x : Int).toNat ((0 : Int), (0 : Int), ())).fst) || decide ((List.getD t.snd.fst (↑x : Int).toNat ((0 : Int), (0 : Int), ())).snd.fst = (↑x_1 : Int))) = true → (0 : Int) ≤ (↑x_1 : Int) ∧ (↑x_1 : Int) < (↑(bBs t.snd.fst x).length : Int) ∧ (H.setP ((bBs t.snd.fst x).getD (↑x_1 : Int).toNat (0 : Int)) ∧ (0 : Int) ≤ (↑x_1 : Int) ∧ (↑x_1 : Int) ≤ (59 : Int)) ∧ (H.setP (↑(setU t.snd.fst (↑x : Int).toNat x_1) : Int) ∧ H.setP (↑(((bBs t.snd.fst x).getD (↑x_1 : Int).toNat (0 : Int)).toNat ||| (2 : Nat) ^ (↑x_1 : Int).toNat) : Int)) ∧ inK IntKind.i64 ((↑x_1 : Int) + (1 : Int)) ∧ ∃ (x_2 : Nat), (x_2 ≤ (↑x : Int).toNat ∧ True) ∧ t.snd.fst.length - x_2 < t.snd.fst.length - x_1 ∧ (([] : List Nat) = [] ∧ True ∧ (↑x : Int) = (↑x : Int) ∧ (↑((↑(setU t.snd.fst (↑x : Int).toNat x_1) : Int).toNat ||| (↑(((bBs t.snd.fst x).getD (↑x_1 : Int).toNat (0 : Int)).toNat ||| (2 : Nat) ^ (↑x_1 : Int).toNat) : Int).toNat) : Int) = (↑(setU t.snd.fst (↑x : Int).toNat x_2) : Int) ∧ (↑x_1 : Int) + (1 : Int) = (↑x_2 : Int) ∧ True) ∧ (((24 : Nat) = (24 : Nat) ∧ t = t) ∧ ((3 : Nat) = (3 : Nat) ∧ bBs t.snd.fst x = bBs t.snd.fst x) ∧ True) ∧ True) ∧ ((decide ((List.getD t.snd.fst (↑x_1 : Int).toNat ((0 : Int), (0 : Int), ())).fst = (List.getD t.snd.fst (↑x : Int).toNat ((0 : Int), (0 : Int), ())).fst) || decide ((List.getD t.snd.fst (↑x : Int).toNat ((0 : Int), (0 : Int), ())).snd.fst = (↑x_1 : Int))) = false → inK IntKind.i64 ((↑x_1 : Int) + (1 : Int)) ∧ ∃ (x_2 : Nat), (x_2 ≤ (↑x : Int).toNat ∧ True) ∧ t.snd.fst.length - x_2 < t.snd.fst.length - x_1 ∧ (([] : List Nat) = [] ∧ True ∧ (↑x : Int) = (↑x : Int) ∧ (↑(setU t.snd.fst (↑x : Int).toNat x_1) : Int) = (↑(setU t.snd.fst (↑x : Int).toNat x_2) : Int) ∧ (↑x_1 : Int) + (1 : Int) = (↑x_2 : Int) ∧ True) ∧ (((24 : Nat) = (24 : Nat) ∧ t = t) ∧ ((3 : Nat) = (3 : Nat) ∧ bBs t.snd.fst x = bBs t.snd.fst x) ∧ True) ∧ True)) ∧ (decide ((↑x_1 : Int) < (↑x : Int)) = false → (bBs t.snd.fst x).length + ((List.replicate (1 : Nat) (0 : Int)).set (0 : Nat) (↑(setU t.snd.fst (↑x : Int).toNat x_1) : Int)).length ≤ (1000000000 : Nat) ∧ inK IntKind.i64 ((↑x : Int) + (1 : Int)) ∧ ∃ (x_2 : Nat), (x_2 ≤ t.snd.fst.length ∧ True) ∧ t.snd.fst.length - x_2 < t.snd.fst.length - x ∧ (([] : List Nat) = [] ∧ True ∧ (↑x : Int) + (1 : Int) = (↑x_2 : Int) ∧ True) ∧ (((24 : Nat) = (24 : Nat) ∧ t = t) ∧ ((3 : Nat) = (3 : Nat) ∧ (bBs t.snd.fst x).append ((List.replicate (1 : Nat) (0 : Int)).set (0 : Nat) (↑(setU t.snd.fst (↑x : Int).toNat x_1) : Int)) = bBs t.snd.fst x_2) ∧ True) ∧ True)) ∧ (decide ((↑x : Int) < (↑(List.length t.snd.fst) : Int)) = false → k [Dat.mk (I).sl (bBs t.snd.fst x)])) := by kernel_rfl
theorem vcROf (t : Tr) (p : Int) (k : List Dat → Prop) : vcF ⟨Em, [], [], [], []⟩ (anROf t p) (Tryd.f12.body.getD .skip) Tryd.f12.ntmps [(.tmp 4, .sl I)] [⟨tTr, t⟩, ⟨I, p⟩] k = (
  (∃ (x : Nat), (x ≤ t.snd.fst.length ∧ True) ∧ (p = p ∧ ([] : List Nat) = [] ∧ True ∧ (0 : Int) = (↑x : Int) ∧ True) ∧ (((24 : Nat) = (24 : Nat) ∧ t = t) ∧ ((3 : Nat) = (3 : Nat) ∧ [] = ofU t.snd.fst p x) ∧ True) ∧ True) ∧ ∀ (x : Nat), x ≤ t.snd.fst.length ∧ True → (decide ((↑x : Int) < (↑(List.length t.snd.fst) : Int)) = true → (0 : Int) ≤ (↑x : Int) ∧ (↑x : Int) < (↑(List.length t.snd.fst) : Int) ∧ (decide ((List.getD t.snd.fst (↑x : Int).toNat ((0 : Int), (0 : Int), ())).fst = p) = true → (ofU t.snd.fst p x).length + ((List.replicate (1 : Nat) (0 : Int)).set (0 : Nat) (↑x : Int)).length ≤ (1000000000 : Nat) ∧ inK IntKind.i64 ((↑x : Int) + (1 : Int)) ∧ ∃ (x_1 : Nat), (x_1 ≤ t.snd.fst.length ∧ True) ∧ t.snd.fst.length - x_1 < t.snd.fst.length - x ∧ (p = p ∧ ([] : List Nat) = [] ∧ True ∧ (↑x : Int) + (1 : Int) = (↑x_1 : Int) ∧ True) ∧ (((24 : Nat) = (24 : Nat) ∧ t = t) ∧ ((3 : Nat) = (3 : Nat) ∧ (ofU t.snd.fst p x).append ((List.replicate (1 : Nat) (0 : Int)).set (0 : Nat) (↑x : Int)) = ofU t.snd.fst p x_1) ∧ True) ∧ True) ∧ (decide ((List.getD t.snd.fst (↑x : Int).toNat ((0 : Int), (0 : Int), ())).fst = p) = false → inK IntKind.i64 ((↑x : Int) + (1 : Int)) ∧ ∃ (x_1 : Nat), (x_1 ≤ t.snd.fst.length ∧ True) ∧ t.snd.fst.length - x_1 < t.snd.fst.length - x ∧ (p = p ∧ ([] : List Nat) = [] ∧ True ∧ (↑x : Int) + (1 : Int) = (↑x_1 : Int) ∧ True) ∧ (((24 : Nat) = (24 : Nat) ∧ t = t) ∧ ((3 : Nat) = (3 : Nat) ∧ ofU t.snd.fst p x = ofU t.snd.fst p x_1) ∧ True) ∧ True)) ∧ (decide ((↑x : Int) < (↑(List.length t.snd.fst) : Int)) = false → k [Dat.mk (I).sl (ofU t.snd.fst p x)])) := by kernel_rfl
theorem vcOf (t : Tr) (p : Int) (k : List Dat → Prop) : vcF ⟨Em, [(10, cCheck), (44, cWithin)], [], [], []⟩ (anOf t p) (Tryd.f15.body.getD .skip) Tryd.f15.ntmps [(.tmp 4, .sl I), (.tmp 5, tErr)] [⟨tTr, t⟩, ⟨I, p⟩] k = (
  True ∧ ((!decide (chk t = (0 : Int))) = true → k [Dat.mk (I).sl [], Dat.mk (Ty.err (71 : Nat)) (chk t)]) ∧ ((!decide (chk t = (0 : Int))) = false → inK IntKind.i64 (t.fst - (1 : Int)) ∧ True ∧ ((!inB p (0 : Int) (t.fst - (1 : Int))) = true → (1 : Int) ≠ (0 : Int) ∧ k [Dat.mk (I).sl [], Dat.mk (Ty.err (71 : Nat)) (1 : Int)]) ∧ ((!inB p (0 : Int) (t.fst - (1 : Int))) = false → (∃ (x : Nat), (x ≤ t.snd.fst.length ∧ chk t = (0 : Int)) ∧ (t = t ∧ p = p ∧ ([] : List Nat) = [] ∧ True ∧ (0 : Int) = (0 : Int) ∧ True ∧ t.snd.fst = t.snd.fst ∧ (↑(List.length t.snd.fst) : Int) = (↑(List.length t.snd.fst) : Int) ∧ (0 : Int) = (↑x : Int) ∧ True) ∧ (((24 : Nat) = (24 : Nat) ∧ t = t) ∧ ((3 : Nat) = (3 : Nat) ∧ [] = ofU t.snd.fst p x) ∧ True) ∧ True) ∧ ∀ (x : Nat), x ≤ t.snd.fst.length ∧ chk t = (0 : Int) → (decide ((↑x : Int) < (↑(List.length t.snd.fst) : Int)) = true → (0 : Int) ≤ (↑x : Int) ∧ (↑x : Int) < (↑(List.length t.snd.fst) : Int) ∧ (decide ((List.getD t.snd.fst (↑x : Int).toNat ((0 : Int), (0 : Int), ())).fst = p) = true → (ofU t.snd.fst p x).length + ((List.replicate (1 : Nat) (0 : Int)).set (0 : Nat) (↑x : Int)).length ≤ (1000000000 : Nat) ∧ inK IntKind.i64 ((↑x : Int) + (1 : Int)) ∧ ∃ (x_1 : Nat), (x_1 ≤ t.snd.fst.length ∧ chk t = (0 : Int)) ∧ t.snd.fst.length - x_1 < t.snd.fst.length - x ∧ (t = t ∧ p = p ∧ ([] : List Nat) = [] ∧ True ∧ (0 : Int) = (0 : Int) ∧ True ∧ t.snd.fst = t.snd.fst ∧ (↑(List.length t.snd.fst) : Int) = (↑(List.length t.snd.fst) : Int) ∧ (↑x : Int) + (1 : Int) = (↑x_1 : Int) ∧ True) ∧ (((24 : Nat) = (24 : Nat) ∧ t = t) ∧ ((3 : Nat) = (3 : Nat) ∧ (ofU t.snd.fst p x).append ((List.replicate (1 : Nat) (0 : Int)).set (0 : Nat) (↑x : Int)) = ofU t.snd.fst p x_1) ∧ True) ∧ True) ∧ (decide ((List.getD t.snd.fst (↑x : Int).toNat ((0 : Int), (0 : Int), ())).fst = p) = false → inK IntKind.i64 ((↑x : Int) + (1 : Int)) ∧ ∃ (x_1 : Nat), (x_1 ≤ t.snd.fst.length ∧ chk t = (0 : Int)) ∧ t.snd.fst.length - x_1 < t.snd.fst.length - x ∧ (t = t ∧ p = p ∧ ([] : List Nat) = [] ∧ True ∧ (0 : Int) = (0 : Int) ∧ True ∧ t.snd.fst = t.snd.fst ∧ (↑(List.length t.snd.fst) : Int) = (↑(List.length t.snd.fst) : Int) ∧ (↑x : Int) + (1 : Int) = (↑x_1 : Int) ∧ True) ∧ (((24 : Nat) = (24 : Nat) ∧ t = t) ∧ ((3 : Nat) = (3 : Nat) ∧ ofU t.snd.fst p x = ofU t.snd.fst p x_1) ∧ True) ∧ True)) ∧ (decide ((↑x : Int) < (↑(List.length t.snd.fst) : Int)) = false → k [Dat.mk (I).sl (ofU t.snd.fst p x), Dat.mk (Ty.err (71 : Nat)) (0 : Int)])))) := by kernel_rfl
end Go.Proofs.YtbpoeigaoakdiaaDoor

/- Traces: the document's functions keep their contracts. -/
namespace Go.Proofs.YtbpoeigaoakdiaaDoor.H
open Go.Vc

theorem okRIn : PlainOk Tryd.prog [] 42 cWithin := by
  refine plain_of (CxOk.mk' Em_ok (by kernel_rfl) mixed (gl := []) GOk.nil GoOk.nil noIt) Tryd.func42 (c := Tryd.f42.body.getD .skip) (rvs := [(.tmp 6, .bool)]) (by kernel_rfl) (by kernel_rfl) (by kernel_rfl) ?_
  intro ds k ⟨hp, hk⟩ hwf
  obtain ⟨a, b, c, rfl, -⟩ := dest3 hp
  have hk : k [⟨.bool, inB a b c⟩] := hk
  refine ⟨[joinAll], ?_⟩
  rw [vcRIn]
  unfold inB at hk
  refine ⟨fun h => ?_, fun h => ?_⟩ <;> simpa [h] using hk

theorem rtrace_vc (t : Tr) (ht : inK .i64 t.1) (k : List Dat → Prop) (hk : k [⟨I, chk t⟩]) : vcF ⟨Em, [(42, cWithin)], [], [], []⟩ (anRTrace t) (Tryd.f8.body.getD .skip) Tryd.f8.ntmps [(.tmp 2, I)] [⟨tTr, t⟩] k := by
  rw [vcRTrace]
  have ret : ∀ x : Int, chk t = x → k [⟨I, x⟩] := by rintro _ rfl; exact hk
  simp only [decide_eq_true_eq, decide_eq_false_iff_not, and_true, true_and, ne_eq, Bool.not_eq_true', Bool.not_eq_false', Int.toNat_natCast]
  refine ⟨fun h => ret _ (by unfold chk; rw [if_pos h]), fun h => ⟨fun g => ret _ (by unfold chk; rw [if_neg (by rw [h]; decide), if_pos (by omega)]), fun g => ?_⟩⟩
  have hp : 1 ≤ t.1 ∧ t.1 ≤ 5 := by simpa [inB] using h
  have hlen : t.2.1.length ≤ 24 := by omega
  have hc0 : chk t = evsErr t.1 t.2.1 t.2.1.length 0 := by
    unfold chk; rw [if_neg (by rw [h]; decide), if_neg (by omega)]
  have hstep : ∀ x, x < t.2.1.length → evsErr t.1 t.2.1 (t.2.1.length - x) x = if evErr t.1 t.2.1 x = 0 then evsErr t.1 t.2.1 (t.2.1.length - (x + 1)) (x + 1) else evErr t.1 t.2.1 x := by
    intro x hx
    rw [show t.2.1.length - x = (t.2.1.length - (x + 1)) + 1 by omega]
    rfl
  refine ⟨⟨0, ⟨hc0, Nat.zero_le _⟩, rfl⟩, fun x ⟨hx, hxl⟩ => ⟨fun hlt => ?_, fun hge => ret _ ?_⟩⟩
  · have hst := hstep x (by omega)
    have bad : ∀ n, evErr t.1 t.2.1 x = n → n ≠ 0 → k [⟨I, n⟩] := fun n h1 h2 => ret n (by rw [hx, hst, if_neg (by rw [h1]; exact h2), h1])
    have good : evErr t.1 t.2.1 x = 0 → inK IntKind.i64 ((x : Int) + 1) ∧ ∃ x', (chk t = evsErr t.1 t.2.1 (t.2.1.length - x') x' ∧ x' ≤ t.2.1.length) ∧ t.2.1.length - x' < t.2.1.length - x ∧ (x : Int) + 1 = (x' : Int) := fun h1 =>
      ⟨inK_i64.2 (by omega), x + 1, ⟨by rw [hx, hst, if_pos h1], by omega⟩, by omega, by omega⟩
    have hpi : inK .i64 (t.1 - 1) := inK_i64.2 (by omega)
    refine ⟨by omega, hlt, hpi, fun h1 => bad 1 ?_ (by decide), fun h1 => ⟨inK_i64.2 (by omega), fun h2 => bad 1 ?_ (by decide), fun h2 => ⟨⟨fun h3 => ⟨h3, ?_⟩, fun _ => trivial⟩, fun h4 => bad 6 ?_ (by decide), fun h4 => good ?_⟩⟩⟩
    · unfold evErr; rw [if_pos (by rw [h1]; rfl)]
    · unfold evErr; rw [if_pos (by rw [h1, h2]; rfl)]
    · have : (t.2.1.getD x (0, 0, ())).2.1 ≤ (x : Int) - 1 := by
        simp only [inB, Bool.and_eq_true, decide_eq_true_eq] at h2; exact h2.2
      omega
    · rw [Bool.and_eq_true, decide_eq_true_eq, decide_eq_true_eq] at h4
      unfold evErr; rw [if_neg (by rw [h1, h2]; decide), if_pos h4]
    · unfold evErr; rw [if_neg (by rw [h1, h2]; decide), if_neg]
      rintro ⟨ha, hb⟩
      rw [decide_eq_true ha, decide_eq_true hb] at h4
      cases h4
  · have : x = t.2.1.length := by omega
    rw [hx, this, Nat.sub_self]; rfl

theorem okRTrace : PlainOk Tryd.prog [] 8 cRTrace := by
  refine plain_of (CxOk.mk' Em_ok (by kernel_rfl) mixed (gl := []) (GOk.cons okRIn Tryd.func42 (by kernel_rfl) (by kernel_rfl) GOk.nil) GoOk.nil noIt) Tryd.func8 (c := Tryd.f8.body.getD .skip) (rvs := [(.tmp 2, I)]) (by kernel_rfl) (by kernel_rfl) (by kernel_rfl) ?_
  intro ds k ⟨hp, hk⟩ hwf
  obtain ⟨t, rfl, -⟩ := dest1 hp
  exact ⟨anRTrace t, rtrace_vc t (wf1 hwf).1 k hk⟩

theorem bitB_nat (a k : Nat) : bitB (a : Int) (k : Int) = a.testBit k := by
  unfold bitB
  simp
theorem both_step (a b x : Nat) : (a &&& b) % 2 ^ (x + 1) = (a &&& b) % 2 ^ x + (if a.testBit x = true ∧ b.testBit x = true then 2 ^ x else 0) := by
  have h : (a.testBit x = true ∧ b.testBit x = true) ↔ (a &&& b) / 2 ^ x % 2 = 1 := by
    have := Nat.testBit_and a b x
    rw [Nat.testBit_eq_decide_div_mod_eq] at this
    rw [← Bool.and_eq_true, ← this, decide_eq_true_eq]
  rw [Nat.mod_pow_succ]
  by_cases hb : (a &&& b) / 2 ^ x % 2 = 1
  · rw [if_pos (h.2 hb), hb, Nat.mul_one]
  · have h0 : (a &&& b) / 2 ^ x % 2 = 0 := by omega
    rw [if_neg (fun e => hb (h.1 e)), h0, Nat.mul_zero]

theorem tmod_bit (n x : Nat) : (((n : Int).tdiv ((2 : Int) ^ x)).tmod 2 = 1) ↔ n.testBit x = true := by
  have h := bit_of (s := (n : Int)) (x := x)
  rw [bitB_nat] at h
  constructor
  · intro e; rw [← h]; exact decide_eq_true e
  · intro e; rw [e] at h; exact of_decide_eq_true h

theorem okBoth : PlainOk Tryd.prog [] 67 cBoth := by
  refine plain_of (CxOk.mk' Em_ok (by kernel_rfl) mixed (gl := []) GOk.nil GoOk.nil noIt) Tryd.func67 (c := Tryd.f67.body.getD .skip) (rvs := [(.tmp 4, I)]) (by kernel_rfl) (by kernel_rfl) (by kernel_rfl) ?_
  intro ds k ⟨hp, hk⟩ hwf
  obtain ⟨a, b, rfl, ha61, -⟩ := dest2 hp
  have hk : k [⟨I, ((a.toNat &&& b.toNat : Nat) : Int)⟩] := hk
  have ha : inK .i64 a := (wf2 hwf).1
  have hb : inK .i64 b := (wf2 hwf).2
  have hbi := inK_i64.1 hb
  refine ⟨anBoth a b, ?_⟩
  rw [vcBoth]
  simp only [decide_eq_true_eq, decide_eq_false_iff_not, and_true, true_and, ne_eq]
  have h20 : ¬ (2 : Int) = 0 := by decide
  have fin : ∀ (s : Int) (x : Nat), ¬ 0 < s.tdiv ((2 : Int) ^ x) → s.toNat < 2 ^ x := by
    intro s x h
    by_cases hs : 0 ≤ s
    · obtain ⟨n, rfl⟩ := Int.eq_ofNat_of_zero_le hs
      rw [tdivN] at h
      have h0 : n / 2 ^ x = 0 := by
        generalize n / 2 ^ x = q at h
        omega
      rcases Nat.lt_or_ge n (2 ^ x) with h | h
      · exact h
      · have := Nat.div_pos h (Nat.two_pow_pos x); omega
    · have : s.toNat = 0 := by omega
      rw [this]; exact Nat.two_pow_pos x
  have fink : ∀ x : Nat, (a.toNat &&& b.toNat) < 2 ^ x → k [⟨I, (((a.toNat &&& b.toNat) % 2 ^ x : Nat) : Int)⟩] := by
    intro x h; rw [Nat.mod_eq_of_lt h]; exact hk
  refine ⟨⟨0, by omega, by simp, by simp, by simp [Nat.mod_one], rfl⟩, fun x hx => ⟨fun hA => ⟨fun hB => ?_, fun hB => fink x (Nat.lt_of_le_of_lt Nat.and_le_right (fin b x hB))⟩, fun hA => fink x (Nat.lt_of_le_of_lt Nat.and_le_left (fin a x hA))⟩⟩
  have hpos := two_pow_pos x
  have hapos : 0 ≤ a := by
    refine Int.not_lt.1 fun hneg => ?_
    have := Int.tdiv_nonneg (a := -a) (b := (2 : Int) ^ x) (by omega) (by omega)
    rw [Int.neg_tdiv] at this; omega
  have hbpos : 0 ≤ b := by
    refine Int.not_lt.1 fun hneg => ?_
    have := Int.tdiv_nonneg (a := -b) (b := (2 : Int) ^ x) (by omega) (by omega)
    rw [Int.neg_tdiv] at this; omega
  obtain ⟨m, rfl⟩ := Int.eq_ofNat_of_zero_le hapos
  obtain ⟨n, rfl⟩ := Int.eq_ofNat_of_zero_le hbpos
  simp only [Int.toNat_natCast] at *
  have hx60 : x ≤ 60 := by
    rcases Nat.lt_or_ge x 61 with h | h
    · omega
    · rw [tdivN] at hA
      have h61 : (2 : Nat) ^ 61 = 2305843009213693952 := by decide
      have hpw : 2 ^ 61 ≤ 2 ^ x := Nat.pow_le_pow_right (by decide) h
      have hm61 : m < 2 ^ 61 := by rw [h61]; omega
      have h0 : m / 2 ^ x = 0 := Nat.div_eq_of_lt (Nat.lt_of_lt_of_le hm61 hpw)
      rw [h0] at hA
      exact absurd hA (by decide)
  have hp2 : (2 : Int) ^ x * 2 = 2 ^ (x + 1) := by rw [Int.pow_succ]
  have hple := two_pow_le (n := x + 1) (by omega)
  have hplx : (2 : Int) ^ x ≤ 2 ^ (x + 1) := by rw [← hp2]; omega
  have hcast : ((2 ^ x : Nat) : Int) = (2 : Int) ^ x := by rw [Int.natCast_pow]; rfl
  have hmod : (((m &&& n) % 2 ^ x : Nat) : Int) < (2 : Int) ^ x := by
    rw [← hcast]; exact Int.ofNat_lt.2 (Nat.mod_lt _ (Nat.two_pow_pos x))
  have hst := both_step m n x
  have nxt : ∀ v : Int, (v = (((m &&& n) % 2 ^ (x + 1) : Nat) : Int)) → ¬(2 : Int) = 0 ∧ inK .i64 (((m : Int).tdiv ((2 : Int) ^ x)).tdiv 2) ∧ ¬(2 : Int) = 0 ∧ inK .i64 (((n : Int).tdiv ((2 : Int) ^ x)).tdiv 2) ∧ inK .i64 ((2 : Int) ^ x * 2) ∧ ∃ x_1 : Nat, x_1 ≤ 61 ∧ 62 - x_1 < 62 - x ∧ ((m : Int).tdiv ((2 : Int) ^ x)).tdiv 2 = (m : Int).tdiv ((2 : Int) ^ x_1) ∧
      ((n : Int).tdiv ((2 : Int) ^ x)).tdiv 2 = (n : Int).tdiv ((2 : Int) ^ x_1) ∧ v = (((m &&& n) % 2 ^ x_1 : Nat) : Int) ∧ (2 : Int) ^ x * 2 = 2 ^ x_1 := by
    intro v hv
    refine ⟨h20, by rw [tdiv_pow]; exact (tdiv_in ha (x + 1)).1, h20, by rw [tdiv_pow]; exact (tdiv_in hb (x + 1)).1, inK_i64.2 (by rw [hp2]; omega), x + 1, by omega, by omega, tdiv_pow _ _, tdiv_pow _ _, hv, hp2⟩
  refine ⟨h20, (tdiv_in ha x).2, fun hAb => ⟨h20, (tdiv_in hb x).2, fun hBb => ⟨inK_i64.2 (by omega), nxt _ ?_⟩, fun hBb => nxt _ ?_⟩, fun hAb => nxt _ ?_⟩
  · rw [tmod_bit] at hAb hBb
    rw [hst, if_pos ⟨hAb, hBb⟩]
    omega
  · rw [tmod_bit] at hBb
    rw [hst, if_neg (fun h => hBb h.2)]; rfl
  · rw [tmod_bit] at hAb
    rw [hst, if_neg (fun h => hAb h.1)]; rfl


theorem either_eq (a b : Int) (ha : 0 ≤ a) (hb : 0 ≤ b) : a + b - ((a.toNat &&& b.toNat : Nat) : Int) = ((a.toNat ||| b.toNat : Nat) : Int) ∧ 0 ≤ a + b - ((a.toNat &&& b.toNat : Nat) : Int) ∧ a + b - ((a.toNat &&& b.toNat : Nat) : Int) ≤ a + b := by
  have h := or_and_add a.toNat b.toNat
  generalize a.toNat &&& b.toNat = p at *
  generalize a.toNat ||| b.toNat = q at *
  omega
theorem okEither : PlainOk Tryd.prog [] 45 cEither := by
  refine plain_of (CxOk.mk' Em_ok (by kernel_rfl) mixed (gl := []) (GOk.cons okBoth Tryd.func67 (by kernel_rfl) (by kernel_rfl) GOk.nil) GoOk.nil noIt) Tryd.func45 (c := Tryd.f45.body.getD .skip) (rvs := [(.tmp 4, I)]) (by kernel_rfl) (by kernel_rfl) (by kernel_rfl) ?_
  intro ds k ⟨hp, hk⟩ hwf
  obtain ⟨a, b, rfl, ⟨ha, ha'⟩, hb, hb'⟩ := dest2 hp
  have hk : k [⟨I, ((a.toNat ||| b.toNat : Nat) : Int)⟩] := hk
  refine ⟨[], ?_⟩
  rw [vcEither]
  obtain ⟨he, h1, h2⟩ := either_eq a b ha hb
  have ha'' : a < (1152921504606846976 : Int) := ha'
  have hb'' : b < (1152921504606846976 : Int) := hb'
  refine ⟨inK_i64.2 ⟨by have := Int.add_nonneg ha hb; omega, by have := Int.add_lt_add ha'' hb''; omega⟩, ⟨by omega, trivial⟩, inK_i64.2 ⟨by omega, by have := Int.add_lt_add ha'' hb''; omega⟩, ?_⟩
  rw [he]; exact hk

theorem okWith : PlainOk Tryd.prog [] 46 cWith := by
  refine plain_of (CxOk.mk' Em_ok (by kernel_rfl) mixed (gl := []) (GOk.cons okBit Tryd.func49 (by kernel_rfl) (by kernel_rfl) (GOk.cons okPow2 Tryd.func56 (by kernel_rfl) (by kernel_rfl) GOk.nil)) GoOk.nil noIt) Tryd.func46 (c := Tryd.f46.body.getD .skip) (rvs := [(.tmp 4, I)]) (by kernel_rfl) (by kernel_rfl) (by kernel_rfl) ?_
  intro ds k ⟨hp, hk⟩ hwf
  obtain ⟨a, i, rfl, ⟨ha, ha'⟩, hi, hi'⟩ := dest2 hp
  have hk : k [⟨I, ((a.toNat ||| 2 ^ i.toNat : Nat) : Int)⟩] := hk
  obtain ⟨m, rfl⟩ := Int.eq_ofNat_of_zero_le ha
  obtain ⟨n, rfl⟩ := Int.eq_ofNat_of_zero_le hi
  simp only [Int.toNat_natCast] at hk
  refine ⟨[], ?_⟩
  rw [vcWith, bitB_nat]
  have h2 := two_pow_le (n := n) (by omega)
  have h3 := two_pow_pos n
  refine ⟨trivial, fun h => ?_, fun h => ⟨⟨by omega, trivial⟩, ?_, ?_⟩⟩
  · rw [or_pow_in h] at hk; exact hk
  · rw [Int.toNat_natCast, inK_i64]; omega
  · rw [or_pow_out h, Int.natCast_add, Int.natCast_pow] at hk; exact hk

theorem nth_vc (t : Tr) (i : Int) (hi : 0 ≤ i ∧ i < t.2.1.length) (hl : t.2.1.length ≤ maxLen) (k : List Dat → Prop) (hk : k [⟨I, (nth t.2.1 i.toNat : Int)⟩]) : vcF ⟨Em, [], [], [], []⟩ (anNth t i) (Tryd.f47.body.getD .skip) Tryd.f47.ntmps [(.tmp 4, I)] [⟨tTr, t⟩, ⟨I, i⟩] k := by
  rw [vcNth]
  have hml : maxLen ≤ 9223372036854775807 := by decide
  simp only [decide_eq_true_eq, decide_eq_false_iff_not, and_true, true_and, Int.toNat_natCast, inK_i64]
  refine ⟨⟨0, ⟨Nat.zero_le _, Nat.le_refl _⟩, rfl, rfl⟩, fun x ⟨hx, hn⟩ => ⟨fun hlt => ⟨⟨by omega, by omega, hi.1, hi.2⟩, fun he => ?_, fun he => ?_⟩, fun hge => ?_⟩⟩
  · have e : nthU t.2.1 i.toNat (x + 1) = nthU t.2.1 i.toNat x + 1 := by rw [nthU, if_pos he]
    exact ⟨by omega, by omega, x + 1, ⟨by omega, by omega⟩, by omega, by rw [e]; rfl, rfl⟩
  · have e : nthU t.2.1 i.toNat (x + 1) = nthU t.2.1 i.toNat x := by rw [nthU, if_neg he]
    exact ⟨by omega, x + 1, ⟨by omega, by omega⟩, by omega, by rw [e], rfl⟩
  · have : x = i.toNat := by omega
    rw [this]; exact hk
theorem okNth : PlainOk Tryd.prog [] 47 cNth := by
  refine plain_of (CxOk.mk' Em_ok (by kernel_rfl) mixed (gl := []) GOk.nil GoOk.nil noIt) Tryd.func47 (c := Tryd.f47.body.getD .skip) (rvs := [(.tmp 4, I)]) (by kernel_rfl) (by kernel_rfl) (by kernel_rfl) ?_
  intro ds k ⟨hp, hk⟩ hwf
  obtain ⟨t, i, rfl, hi⟩ := dest2 hp
  exact ⟨anNth t i, nth_vc t i hi (wf2 hwf).1.2.1.1 k hk⟩

theorem small_of {n m : Nat} (h : n < 2 ^ m) (hm : m ≤ 25) : setP (n : Int) := by
  have : 2 ^ m ≤ 2 ^ 25 := Nat.pow_le_pow_right (by decide) hm
  unfold setP
  omega
theorem rbefore_vc (t : Tr) (hc : chk t = 0) (k : List Dat → Prop) (hk : k [⟨.sl I, ints (befN t)⟩]) : vcF ⟨Em, [(45, cEither), (46, cWith)], [], [], []⟩ (anRBefore t) (Tryd.f11.body.getD .skip) Tryd.f11.ntmps [(.tmp 2, .sl I)] [⟨tTr, t⟩] k := by
  rw [vcRBefore]
  have g := gd_of hc
  simp only [decide_eq_true_eq, decide_eq_false_iff_not, and_true, true_and, Int.toNat_natCast, inK_i64, bBs_len]
  have hl := g.len
  refine ⟨⟨0, Nat.zero_le _, rfl, rfl⟩, fun x hx => ⟨fun hlt => ?_, fun hge => ?_⟩⟩
  · have hxl : x < t.2.1.length := by omega
    refine ⟨⟨0, Nat.zero_le _, rfl, rfl⟩, fun y hy => ⟨fun hyx => ?_, fun hyx => ?_⟩⟩
    · have hyx : y < x := by omega
      refine ⟨⟨by omega, by omega, by omega, hlt, fun _ => trivial, fun _ => ⟨by omega, hlt⟩⟩, fun hm => ?_, fun hm => ?_⟩
      · have hm' : mustB t.2.1 x y = true := hm
        have hb := bB_lt g.p g.f (i := y) (by omega)
        have hs := setU_lt g hxl y (by omega)
        rw [bBs_at hyx, Int.toNat_natCast]
        refine ⟨by omega, by omega, ⟨small_of hb (by omega), by omega, by omega⟩, ⟨small_of hs (by omega), small_of (m := y + 1) (Nat.or_lt_two_pow (Nat.lt_trans hb (Nat.pow_lt_pow_right (by decide) (by omega))) (Nat.pow_lt_pow_right (by decide) (by omega))) (by omega)⟩, by omega, y + 1, by omega, by omega, ?_, rfl⟩
        rw [setU, if_pos hm']
      · have hm' : ¬ mustB t.2.1 x y = true := by
          intro h
          unfold mustB at h
          rw [hm] at h
          cases h
        refine ⟨by omega, y + 1, by omega, by omega, ?_, rfl⟩
        rw [setU, if_neg hm']
    · have hyx : y = x := by omega
      subst hyx
      rw [set_eq g hxl]
      refine ⟨by simp; omega, by omega, y + 1, by omega, by omega, rfl, ?_⟩
      rw [bBs_succ]; rfl
  · have : x = t.2.1.length := by omega
    rw [this, bBs_all g]; exact hk
theorem okRBefore : PlainOk Tryd.prog [] 11 cRBefore := by
  refine plain_of (CxOk.mk' Em_ok (by kernel_rfl) mixed (gl := []) (GOk.cons okEither Tryd.func45 (by kernel_rfl) (by kernel_rfl) (GOk.cons okWith Tryd.func46 (by kernel_rfl) (by kernel_rfl) GOk.nil)) GoOk.nil noIt) Tryd.func11 (c := Tryd.f11.body.getD .skip) (rvs := [(.tmp 2, .sl I)]) (by kernel_rfl) (by kernel_rfl) (by kernel_rfl) ?_
  intro ds k ⟨hp, hk⟩ hwf
  obtain ⟨t, rfl, hc, -⟩ := dest1 hp
  exact ⟨anRBefore t, rbefore_vc t hc k hk⟩
end Go.Proofs.YtbpoeigaoakdiaaDoor.H

/- Traces: a process's events: the document's answers. -/
namespace Go.Proofs.YtbpoeigaoakdiaaDoor.H
open Go.Vc

theorem ofU_succ (l : List Ev) (p : Int) (k : Nat) : ofU l p (k + 1) = ofU l p k ++ (if (l.getD k (0, 0, ())).1 = p then [(k : Int)] else []) := by
  unfold ofU
  rw [List.range_succ, List.filter_append, List.map_append]
  congr 1
  rw [List.filter_cons]
  by_cases h : (l.getD k (0, 0, ())).1 = p
  · rw [if_pos (decide_eq_true h), if_pos h]; rfl
  · rw [if_neg (by simpa using h), if_neg h]; rfl
theorem ofU_len (l : List Ev) (p : Int) (k : Nat) : (ofU l p k).length ≤ k := by
  unfold ofU
  rw [List.length_map]
  exact Nat.le_trans (List.length_filter_le _ _) (by simp)

theorem rof_vc (t : Tr) (p : Int) (h : chk t = 0) (k : List Dat → Prop) (hk : k [⟨.sl I, ofT t p⟩]) :
    vcF ⟨Em, [], [], [], []⟩ (anROf t p) (Tryd.f12.body.getD .skip) Tryd.f12.ntmps [(.tmp 4, .sl I)] [⟨tTr, t⟩, ⟨I, p⟩] k := by
  rw [vcROf]
  have hl := (good_of h).len
  simp only [decide_eq_true_eq, decide_eq_false_iff_not, and_true, true_and, Int.toNat_natCast]
  refine ⟨⟨0, by omega, rfl, rfl⟩, fun x hx => ⟨fun hlt => ⟨by omega, hlt, fun he => ⟨?_, inK_i64.2 (by omega), x + 1, by omega, by omega, rfl, ?_⟩, fun he => ⟨inK_i64.2 (by omega), x + 1, by omega, by omega, rfl, ?_⟩⟩, fun hge => ?_⟩⟩
  · have := ofU_len t.2.1 p x
    simp only [List.replicate, List.set, List.length_cons, List.length_nil]
    omega
  · rw [ofU_succ, if_pos he]; rfl
  · rw [ofU_succ, if_neg he, List.append_nil]
  · have : x = t.2.1.length := by omega
    subst this
    exact hk
theorem okROf : PlainOk Tryd.prog [] 12 cROf := by
  refine plain_of (CxOk.mk' Em_ok (by kernel_rfl) mixed (gl := []) GOk.nil GoOk.nil noIt) Tryd.func12 (c := Tryd.f12.body.getD .skip) (rvs := [(.tmp 4, .sl I)]) (by kernel_rfl) (by kernel_rfl) (by kernel_rfl) ?_
  intro ds k ⟨hp, hk⟩ hwf
  obtain ⟨t, p, rfl, h, -⟩ := dest2 hp
  exact ⟨anROf t p, rof_vc t p h k hk⟩

theorem of_vc (t : Tr) (p : Int) (k : List Dat → Prop) (hk : k [⟨.sl I, if ofE t p = 0 then ofT t p else []⟩, ⟨tErr, ofE t p⟩]) :
    vcF ⟨Em, [(10, cCheck), (44, cWithin)], [], [], []⟩ (anOf t p) (Tryd.f15.body.getD .skip) Tryd.f15.ntmps [(.tmp 4, .sl I), (.tmp 5, tErr)] [⟨tTr, t⟩, ⟨I, p⟩] k := by
  rw [vcOf]
  simp only [decide_eq_true_eq, decide_eq_false_iff_not, and_true, true_and, Bool.not_eq_true', Bool.not_eq_false', Int.toNat_natCast]
  refine ⟨fun h => ?_, fun h => ?_⟩
  · have e : ofE t p = chk t := by unfold ofE; rw [if_neg h]
    rw [e, if_neg h] at hk; exact hk
  · have g := good_of h
    have hl := g.len
    have hpr := g.procs
    refine ⟨inK_i64.2 (by omega), fun hw => ⟨by decide, ?_⟩, fun hw => ⟨⟨0, ⟨by omega, h⟩, rfl, rfl⟩, fun x ⟨hx, _⟩ => ⟨fun hlt => ⟨by omega, hlt, fun he => ⟨?_, inK_i64.2 (by omega), x + 1, ⟨by omega, h⟩, by omega, rfl, ?_⟩, fun he => ⟨inK_i64.2 (by omega), x + 1, ⟨by omega, h⟩, by omega, rfl, ?_⟩⟩, fun hge => ?_⟩⟩⟩
    · have e : ofE t p = 1 := by unfold ofE; rw [if_pos h, if_neg (by rw [hw]; decide)]
      rw [e] at hk; exact hk
    · have := ofU_len t.2.1 p x
      simp only [List.replicate, List.set, List.length_cons, List.length_nil]
      omega
    · rw [ofU_succ, if_pos he]; rfl
    · rw [ofU_succ, if_neg he, List.append_nil]
    · have : x = t.2.1.length := by omega
      subst this
      have e : ofE t p = 0 := by unfold ofE; rw [if_pos h, if_pos hw]
      rw [e] at hk; exact hk
theorem okOf : PlainOk Tryd.prog [] 15 cOf := by
  refine plain_of (CxOk.mk' Em_ok (by kernel_rfl) mixed (gl := []) (GOk.cons okCheck Tryd.func10 (by kernel_rfl) (by kernel_rfl) (GOk.cons okWithin Tryd.func44 (by kernel_rfl) (by kernel_rfl) GOk.nil)) GoOk.nil noIt) Tryd.func15 (c := Tryd.f15.body.getD .skip) (rvs := [(.tmp 4, .sl I), (.tmp 5, tErr)]) (by kernel_rfl) (by kernel_rfl) (by kernel_rfl) ?_
  intro ds k ⟨hp, hk⟩ hwf
  obtain ⟨t, p, rfl, -⟩ := dest2 hp
  exact ⟨anOf t p, of_vc t p k hk⟩

theorem evsErr_in {p : Int} {l : List Ev} : ∀ (f i : Nat), 0 ≤ evsErr p l f i ∧ evsErr p l f i ≤ 6 := by
  intro f
  induction f with
  | zero => intro i; unfold evsErr; omega
  | succ f ih =>
    intro i
    unfold evsErr
    split
    · exact ih _
    · unfold evErr
      split
      · omega
      · split <;> omega
theorem chk_in (t : Tr) : 0 ≤ chk t ∧ chk t ≤ 6 := by
  unfold chk
  split
  · omega
  · split
    · omega
    · exact evsErr_in _ _
theorem ofE_in (t : Tr) (p : Int) : 0 ≤ ofE t p ∧ ofE t p ≤ 6 := by
  have := chk_in t
  unfold ofE
  split
  · split <;> omega
  · omega
theorem lift {f : FuncId} {c : Ctr} {gl : List (Nat × Dat)} (h : PlainOk Tryd.prog [] f c) : PlainOk Tryd.prog gl f c := PlainOk.sub (fun x hx => by cases hx) h
end Go.Proofs.YtbpoeigaoakdiaaDoor.H

/- How many zeros a number ends with: the library's function, walked; the iterator over the things of a set. -/
namespace Go.Proofs.YtbpoeigaoakdiaaDoor
open Go.RowKit Go.Shelf
attribute [local go_sem] Oper.semAt_some

set_option maxHeartbeats 1000000 in
theorem tz64_core (x k idx : Nat) (w : World) (hx0 : ((x : Int) == 0) = false)
    (key : IntKind.u64.wrap (bits BinOp.and IntKind.u64 (x : Int) (IntKind.u64.wrap (-(x : Int))) * 285870213051353865) / 288230376151711744 = (idx : Int))
    (hi : idx < 64) (hk : k < 64) (hcell : w.cell? ⟨2, idx, none⟩ = some (.int .u8 k)) :
    Calls Tryd.prog 78 #[.int .u64 x] w fun e w' => e = .returned (.int .i64 k) ∧ w' = w := by
  go_enter Tryd.func78, Tryd.ntmps78
  go_wp2_with (simp only [key])
  go_ret
  exact ⟨rfl, rfl⟩

theorem tz64_zero (w : World) : Calls Tryd.prog 78 #[.int .u64 0] w fun e w' => e = .returned (.int .i64 64) ∧ w' = w := by
  go_enter Tryd.func78, Tryd.ntmps78
  go_wp2
  go_ret
  exact ⟨rfl, rfl⟩

theorem tz64 (x : Nat) (hx : x < 18446744073709551616) (w : World) (hT : x ≠ 0 → TabAt 2 Lib.deBruijn64tab w) :
    Calls Tryd.prog 78 #[.int .u64 x] w fun e w' => e = .returned (.int .i64 (Lib.ctz 64 x)) ∧ w' = w := by
  by_cases hx0 : x = 0
  · subst hx0
    exact tz64_zero w
  · obtain ⟨hlow, hk⟩ := Lib.lowest_bit 64 x hx0 hx
    obtain ⟨hi, htab⟩ := Lib.deBruijn64_at _ hk
    have hcell := hT hx0 _ hi
    rw [htab] at hcell
    exact tz64_core x _ _ w (by simp; omega) (tz64_key x _ hx hx0 hlow) hi hk hcell

theorem tz (x : Nat) (hx : x < 18446744073709551616) (w : World) (hT : x ≠ 0 → TabAt 2 Lib.deBruijn64tab w) :
    Calls Tryd.prog 69 #[.int .u64 x] w fun e w' => e = .returned (.int .i64 (Lib.ctz 64 x)) ∧ w' = w := by
  go_enter Tryd.func69, Tryd.ntmps69
  go_wp2_with (go_at_call 78; refine (tz64 x hx _ hT).mono ?_; rintro e w' ⟨rfl, rfl⟩)
  go_ret
  exact ⟨rfl, rfl⟩
end Go.Proofs.YtbpoeigaoakdiaaDoor
