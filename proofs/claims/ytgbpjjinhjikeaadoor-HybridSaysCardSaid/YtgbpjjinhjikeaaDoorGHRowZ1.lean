/- Own texts, merged: As, Er, GDef, GV, GOk, GOk2, GDef2, GV2, GOk3, GDef3, GV3, GOk4, GDef5, GV5, GOk5, GDef4, GM, GM4, GDef6, GM5, GRDef, GRM, GRV, GROk. -/
import Derived.Test.YtgbpjjinhjikeaaDoorChecked
import Derived.WalkKit
import Derived.LaidEql
import Derived.Stop.Asserts
import Derived.RowKitTokens
import Derived.Test.YtgbpjjinhjikeaaDoorVcQ
import Derived.Test.YtgbpjjinhjikeaaDoorVcPA
import Derived.Test.YtgbpjjinhjikeaaDoorRows
namespace Go.Proofs.YtgbpjjinhjikeaaDoor
open Go.RowKit Go.Extern.Stop Go.Stop Go.Extern

/-- errors.As(nil, target). -/
theorem as_nil (t : Value) (w : World) :
    Calls Tryd.prog 42 #[.nilIface, t] w fun e w' => e = .returned (.bool false) ∧ w' = w := by
  go_enter Tryd.func42, Tryd.ntmps42
  go_wp2
  go_ret
  exact ⟨rfl, rfl⟩

/-! ### CLOSED FACTS ON THE MODEL's ENTRIES FOR internal/reflectlite, at this program's types: 25: *p.E · 27: **p.E · 23: error · 45: reflectlite's rtype · 1: how many package-level variables the dump has -/
theorem Tas.valueOf27 (t : Addr) (w : World) : (ReflectliteValue.unpack (.iface 85 (.pointer (some t)))).run Tryd.prog w
    = .ok (.agg #[.pointer (some ⟨3, 85, none⟩), .pointer (some ⟨w.heap.size, 0, none⟩), .int .u64 150]) (w.alloc (.cells #[.pointer (some t)] 85)) := by kernel_rfl
theorem Tas.type27 (a : Addr) (w : World) : (ReflectliteValue.methodAny (ReflectliteValue.valueError "reflectlite.Value.Type" 0) (fun t _ _ _ => ReflectliteType.toType t) #[.agg #[.pointer (some ⟨3, 85, none⟩), .pointer (some a), .int .u64 150]]).run Tryd.prog w
    = .ok (.iface 107 (.agg #[.pointer (some ⟨3, 85, none⟩)])) w := by kernel_rfl
theorem Tas.methodKind (h : Value) (w : World) : (Go.method 251 107 (.agg #[h]) "Kind").run Tryd.prog w = .ok (70, h) w := by kernel_rfl
theorem Tas.kind27 (w : World) : ((ReflectliteType.abiMethod fun t => (fun a : Nat => Value.int IntKind.u8 (a : Int)) <$> Rtype.kind t) #[.pointer (some ⟨3, 85, none⟩)]).run Tryd.prog w = .ok (.int .u8 22) w := by kernel_rfl
theorem Tas.kind25 (w : World) : ((ReflectliteType.abiMethod fun t => (fun a : Nat => Value.int IntKind.u8 (a : Int)) <$> Rtype.kind t) #[.pointer (some ⟨3, 63, none⟩)]).run Tryd.prog w = .ok (.int .u8 2) w := by kernel_rfl

/-! ### THE ENTRIES THAT READ OR WRITE MEMORY: laws with a premise on the cell (after Derived/Lib/ReflectliteSlice.lean's manner: each unfolding a lemma of its own, by rfl) -/
theorem rlm (z : Sem Value) (f : TypeId → Addr → Nat → Nat → Sem Value) (v : Value) :
    ReflectliteValue.method z f #[v] = (do match ← ReflectliteValue.parts v with | none => z | some (t, a, fl) => f t a fl (fl % 32)) := rfl
theorem Tas.parts27 (a : Addr) (w : World) : (ReflectliteValue.parts (.agg #[.pointer (some ⟨3, 85, none⟩), .pointer (some a), .int .u64 150])).run Tryd.prog w = .ok (some (85, a, 150)) w := by kernel_rfl
/-- (Value).IsNil at the Value of a **p.E that is not nil. -/
theorem Tas.isNil27 (a p : Addr) (W : World) (ha : W.cell? a = some (.pointer (some p))) :
    (ReflectliteValue.method (ReflectliteValue.valueError "reflectlite.Value.IsNil" 0) ReflectliteValue.isNil #[.agg #[.pointer (some ⟨3, 85, none⟩), .pointer (some a), .int .u64 150]]).run Tryd.prog W = .ok (.bool false) W := by
  rw [rlm]
  simp only [Sem.run_bind, Tas.parts27, Result.andThen]
  simp [ReflectliteValue.isNil, loadVar, isAgg, underlying, Tryd.underlying85, ha, Result.andThen]

theorem Tas.methodElem (h : Value) (w : World) : (Go.method 251 107 (.agg #[h]) "Elem").run Tryd.prog w = .ok (80, .agg #[h]) w := by kernel_rfl
theorem Tas.methodImplements (h : Value) (w : World) : (Go.method 251 107 (.agg #[h]) "Implements").run Tryd.prog w = .ok (81, .agg #[h]) w := by kernel_rfl
theorem Tas.methodAssignableTo (h : Value) (w : World) : (Go.method 251 107 (.agg #[h]) "AssignableTo").run Tryd.prog w = .ok (78, .agg #[h]) w := by kernel_rfl
theorem Tas.elem27 (w : World) : (ReflectliteType.method ReflectliteType.elem #[.agg #[.pointer (some ⟨3, 85, none⟩)]]).run Tryd.prog w = .ok (.iface 107 (.agg #[.pointer (some ⟨3, 63, none⟩)])) w := by kernel_rfl
theorem Tas.implements25 (w : World) : (ReflectliteType.relation "Implements" ReflectliteType.implements_ #[.agg #[.pointer (some ⟨3, 63, none⟩)], .iface 107 (.agg #[.pointer (some ⟨3, 28, none⟩)])]).run Tryd.prog w = .ok (.bool true) w := by kernel_rfl
theorem Tas.typeOf25 (v : Value) (w : World) : (ReflectliteType.typeOf #[.iface 63 v]).run Tryd.prog w = .ok (.iface 107 (.agg #[.pointer (some ⟨3, 63, none⟩)])) w := by kernel_rfl
theorem Tas.assignable25 (w : World) : (ReflectliteType.relation "AssignableTo" ReflectliteType.assignableTo #[.agg #[.pointer (some ⟨3, 63, none⟩)], .iface 107 (.agg #[.pointer (some ⟨3, 63, none⟩)])]).run Tryd.prog w = .ok (.bool true) w := by kernel_rfl
theorem Tas.valueOf25 (e : Int) (w : World) : (ReflectliteValue.unpack (.iface 63 (.int .i64 e))).run Tryd.prog w
    = .ok (.agg #[.pointer (some ⟨3, 63, none⟩), .pointer (some ⟨w.heap.size, 0, none⟩), .int .u64 130]) (w.alloc (.cells #[.int .i64 e] 63)) := by kernel_rfl

theorem Tas.elemOf27 (w : World) : (Rtype.elem? 85).run Tryd.prog w = .ok (some 63) w := by kernel_rfl
theorem Tas.mk25 (p : Addr) (w : World) : (ReflectliteValue.mk 63 p ReflectliteValue.flagAddr).run Tryd.prog w = .ok (.agg #[.pointer (some ⟨3, 63, none⟩), .pointer (some p), .int .u64 386]) w := by kernel_rfl
/-- (Value).Elem at the Value of a **p.E that is not nil: the Value of the *p.E variable that it points to, addressable. -/
theorem Tas.elemV27 (a p : Addr) (W : World) (ha : W.cell? a = some (.pointer (some p))) :
    (ReflectliteValue.method (ReflectliteValue.valueError "reflectlite.Value.Elem" 0) ReflectliteValue.elem #[.agg #[.pointer (some ⟨3, 85, none⟩), .pointer (some a), .int .u64 150]]).run Tryd.prog W
      = .ok (.agg #[.pointer (some ⟨3, 63, none⟩), .pointer (some p), .int .u64 386]) W := by
  rw [rlm]
  simp only [Sem.run_bind, Tas.parts27, Result.andThen]
  simp [ReflectliteValue.elem, loadVar, isAgg, underlying, Tryd.underlying85, ha, Result.andThen, Tas.elemOf27, Tas.mk25]
theorem rls (v x : Value) : ReflectliteValue.set #[v, x] = (do
    let (some (dst, a, fl), some (src, b, _)) := (← ReflectliteValue.parts v, ← ReflectliteValue.parts x)
      | unsupported (.noEntry "extern/(internal/reflectlite.Value).Set.zeroValue")
    if fl / ReflectliteValue.flagAddr % 2 == 0 then unsupported (.noEntry "extern/(internal/reflectlite.Value).Set.unaddressable")
    let val ← loadVar src b
    if ← Rtype.directlyAssignable dst src then storeVar dst a val
    else if ← Rtype.implements dst src then
      if (← Rtype.kind src) == 20 then
        match val with
        | .nilIface => unsupported (.noEntry "extern/reflectlite: a nil value of one interface type handed on as a value of another")
        | _ => storeVar dst a val
      else storeVar dst a (.iface src val)
    else panicString ("reflectlite.Set: value of type " ++ (← Rtype.spelt src) ++ " is not assignable to type " ++ (← Rtype.spelt dst))
    pure (.tuple #[])) := rfl
theorem Tas.parts25a (a : Addr) (w : World) : (ReflectliteValue.parts (.agg #[.pointer (some ⟨3, 63, none⟩), .pointer (some a), .int .u64 386])).run Tryd.prog w = .ok (some (63, a, 386)) w := by kernel_rfl
theorem Tas.parts25 (a : Addr) (w : World) : (ReflectliteValue.parts (.agg #[.pointer (some ⟨3, 63, none⟩), .pointer (some a), .int .u64 130])).run Tryd.prog w = .ok (some (63, a, 130)) w := by kernel_rfl
theorem Tas.direct25 (w : World) : (Rtype.directlyAssignable 63 63).run Tryd.prog w = .ok true w := by kernel_rfl
theorem Tas.size25 (w : World) : (sizeOf 63).run Tryd.prog w = .ok 1 w := by kernel_rfl
/-- (Value).Set: the *p.E variable at 'ta' gets what the Value's own variable 'b' holds. -/
theorem Tas.set25 (ta b : Addr) (e : Int) (old : Value) (W : World) (hb : W.cell? b = some (.int .i64 e)) (ht : W.cell? ta = some old) (hf : W.frozen? ta = false) :
    (ReflectliteValue.set #[.agg #[.pointer (some ⟨3, 63, none⟩), .pointer (some ta), .int .u64 386], .agg #[.pointer (some ⟨3, 63, none⟩), .pointer (some b), .int .u64 130]]).run Tryd.prog W
      = .ok (.tuple #[]) (W.setCell ta (.int .i64 e)) := by
  rw [rls]
  simp only [Sem.run_bind, Tas.parts25a, Tas.parts25, Result.andThen]
  simp [ReflectliteValue.flagAddr, loadVar, isAgg, underlying, Tryd.underlying63, hb, Result.andThen, Tas.direct25, storeVar, Value.cells, storeCells, Addr.add]
  rw [run_store Tryd.prog W ta _ _ (by rfl)]
  simp [ht, hf]

set_option maxRecDepth 100000 in
set_option maxHeartbeats 4000000 in
theorem as_hit (e : Int) (t : Addr) (old : Value) (w : World) (hg : w.cell? ⟨0, 0, none⟩ = some (.iface 107 (.agg #[.pointer (some ⟨3, 28, none⟩)]))) (ht0 : w.cell? t = some old) (hf0 : w.frozen? t = false) :
    Calls Tryd.prog 42 #[.iface 63 (.int .i64 e), .iface 85 (.pointer (some t))] w fun ev w' => ev = .returned (.bool true) ∧ w' = ((((w.alloc (.cells #[.pointer (some t)] 85)).alloc (.cells #[.pointer (some ⟨3, 85, none⟩), .pointer (some ⟨w.heap.size, 0, none⟩), .int .u64 150] 93)).alloc (.cells #[.pointer (some ⟨3, 85, none⟩), .pointer (some ⟨w.heap.size, 0, none⟩), .int .u64 150] 93)).alloc (.cells #[.int .i64 e] 63)).setCell t (.int .i64 e) := by
  have h6 := @run_callFunc_extern Tryd.prog 47 _ (fun args => ReflectliteValue.unpack (args.getD 0 (.tuple #[]))) Tryd.func47 (by kernel_rfl) (by kernel_rfl) (by kernel_rfl) (by kernel_rfl)
  have h7 := @run_callFunc_extern Tryd.prog 48 _ (ReflectliteValue.methodAny (ReflectliteValue.valueError "reflectlite.Value.Type" 0) (fun t _ _ _ => ReflectliteType.toType t)) Tryd.func48 (by kernel_rfl) (by kernel_rfl) (by kernel_rfl) (by kernel_rfl)
  have h8 := @run_callFunc_extern Tryd.prog 49 _ (ReflectliteValue.method (ReflectliteValue.valueError "reflectlite.Value.IsNil" 0) ReflectliteValue.isNil) Tryd.func49 (by kernel_rfl) (by kernel_rfl) (by kernel_rfl) (by kernel_rfl)
  have h27 := @run_callFunc_extern Tryd.prog 70 _ (ReflectliteType.abiMethod fun t => do pure (.int .u8 (← Rtype.kind t))) Tryd.func70 (by kernel_rfl) (by kernel_rfl) (by kernel_rfl) (by kernel_rfl)
  have h37 := @run_callFunc_extern Tryd.prog 80 _ (ReflectliteType.method ReflectliteType.elem) Tryd.func80 (by kernel_rfl) (by kernel_rfl) (by kernel_rfl) (by kernel_rfl)
  have h38 := @run_callFunc_extern Tryd.prog 81 _ (ReflectliteType.relation "Implements" ReflectliteType.implements_) Tryd.func81 (by kernel_rfl) (by kernel_rfl) (by kernel_rfl) (by kernel_rfl)
  have h10 := @run_callFunc_extern Tryd.prog 53 _ ReflectliteType.typeOf Tryd.func53 (by kernel_rfl) (by kernel_rfl) (by kernel_rfl) (by kernel_rfl)
  have h35 := @run_callFunc_extern Tryd.prog 78 _ (ReflectliteType.relation "AssignableTo" ReflectliteType.assignableTo) Tryd.func78 (by kernel_rfl) (by kernel_rfl) (by kernel_rfl) (by kernel_rfl)
  have h11 := @run_callFunc_extern Tryd.prog 54 _ (ReflectliteValue.method (ReflectliteValue.valueError "reflectlite.Value.Elem" 0) ReflectliteValue.elem) Tryd.func54 (by kernel_rfl) (by kernel_rfl) (by kernel_rfl) (by kernel_rfl)
  have h12 := @run_callFunc_extern Tryd.prog 55 _ ReflectliteValue.set Tryd.func55 (by kernel_rfl) (by kernel_rfl) (by kernel_rfl) (by kernel_rfl)
  have tO := Tas.typeOf25
  have mA := Tas.methodAssignableTo
  have a25 := Tas.assignable25
  have v25 := Tas.valueOf25
  have f6 := Tas.valueOf27
  have f7 := Tas.type27
  have mK := Tas.methodKind
  have mE := Tas.methodElem
  have mI := Tas.methodImplements
  have k27 := Tas.kind27
  have k25 := Tas.kind25
  have e27 := Tas.elem27
  have i25 := Tas.implements25
  have n8 := Tas.isNil27 ⟨w.heap.size, 0, none⟩ t ((w.alloc (.cells #[.pointer (some t)] 85)).alloc (.cells #[.pointer (some ⟨3, 85, none⟩), .pointer (some ⟨w.heap.size, 0, none⟩), .int .u64 150] 93)) (by simp)
  have hlt : 0 < w.heap.size := by
    rcases Nat.eq_zero_or_pos w.heap.size with h0 | h
    · simp [World.cell?, h0] at hg
    · exact h
  have hg2 : ((w.alloc (.cells #[.pointer (some t)] 85)).alloc (.cells #[.pointer (some ⟨3, 85, none⟩), .pointer (some ⟨w.heap.size, 0, none⟩), .int .u64 150] 93)).cell? ⟨0, 0, none⟩ = some (.iface 107 (.agg #[.pointer (some ⟨3, 28, none⟩)])) := by
    rw [World.cell?_alloc_lt _ _ ⟨0, 0, none⟩ (by simp), World.cell?_alloc_lt _ _ ⟨0, 0, none⟩ hlt]; exact hg
  have htl : t.block < w.heap.size := by
    rcases Nat.lt_or_ge t.block w.heap.size with h | h
    · exact h
    · simp [World.cell?, Array.getElem?_eq_none h] at ht0
  have el := Tas.elemV27 ⟨w.heap.size, 0, none⟩ t (((w.alloc (.cells #[.pointer (some t)] 85)).alloc (.cells #[.pointer (some ⟨3, 85, none⟩), .pointer (some ⟨w.heap.size, 0, none⟩), .int .u64 150] 93)).alloc (.cells #[.pointer (some ⟨3, 85, none⟩), .pointer (some ⟨w.heap.size, 0, none⟩), .int .u64 150] 93)) (by rw [World.cell?_alloc_lt _ _ ⟨w.heap.size, 0, none⟩ (by simp; omega)]; simp)
  have st := Tas.set25 t ⟨w.heap.size + 1 + 1 + 1, 0, none⟩ e old ((((w.alloc (.cells #[.pointer (some t)] 85)).alloc (.cells #[.pointer (some ⟨3, 85, none⟩), .pointer (some ⟨w.heap.size, 0, none⟩), .int .u64 150] 93)).alloc (.cells #[.pointer (some ⟨3, 85, none⟩), .pointer (some ⟨w.heap.size, 0, none⟩), .int .u64 150] 93)).alloc (.cells #[.int .i64 e] 63))
    (by rw [World.cell?_alloc_at _ _ _ _ (by simp)]; rfl)
    (by rw [World.cell?_alloc_lt _ _ t (by simp; omega), World.cell?_alloc_lt _ _ t (by simp; omega), World.cell?_alloc_lt _ _ t (by simp; omega), World.cell?_alloc_lt _ _ t htl]; exact ht0)
    (by rw [World.frozen?_alloc_old _ _ t (by simp; omega), World.frozen?_alloc_old _ _ t (by simp; omega), World.frozen?_alloc_old _ _ t (by simp; omega), World.frozen?_alloc_old _ _ t (Nat.ne_of_lt htl)]; exact hf0)
  go_enter Tryd.func42, Tryd.ntmps42
  go_wp2
  refine wp_loop_rounds 1 ?_
  rw [rounds_succ]
  go_wp2
  go_ret
  exact ⟨rfl, rfl⟩
end Go.Proofs.YtgbpjjinhjikeaaDoor

/- The number of an error, as the program tells it; is an error the one with a number? -/
namespace Go.Proofs.YtgbpjjinhjikeaaDoor
open Go.RowKit Go.Extern.Stop Go.Stop Go.Extern Go.Vc
abbrev I : Ty := .int .i64
abbrev tErr : Ty := .err 63

theorem fr_alloc (w : World) (o : Obj) : Fr (fun _ => False) w (w.alloc o) := ⟨rfl, rfl, rfl, by simp, fun b hb _ => Ext.alloc w o b hb⟩

theorem told_nil (w : World) : Calls Tryd.prog 31 #[.nilIface] w fun e w' => e = .returned (.int .i64 0) ∧ w' = w := by
  go_enter Tryd.func31, Tryd.ntmps31
  go_wp2
  go_ret
  exact ⟨rfl, rfl⟩

set_option maxRecDepth 100000 in
set_option maxHeartbeats 4000000 in
theorem told_hit (n : Int) (w : World) (hg : w.cell? ⟨0, 0, none⟩ = some (.iface 107 (.agg #[.pointer (some ⟨3, 28, none⟩)]))) :
    Calls Tryd.prog 31 #[.iface 63 (.int .i64 n)] w fun e w' => e = .returned (.int .i64 n) ∧ Fr (fun _ => False) w w' := by
  have hlt : 0 < w.heap.size := World.block_lt_of_cell? w ⟨0, 0, none⟩ hg
  have hgA : (w.alloc (.cells #[.int .i64 0] 63)).cell? ⟨0, 0, none⟩ = some (.iface 107 (.agg #[.pointer (some ⟨3, 28, none⟩)])) := by
    rw [World.cell?_alloc_lt _ _ ⟨0, 0, none⟩ hlt]; exact hg
  have htA : (w.alloc (.cells #[.int .i64 0] 63)).cell? ⟨w.heap.size, 0, none⟩ = some (.int .i64 0) := by simp
  have hfA : (w.alloc (.cells #[.int .i64 0] 63)).frozen? ⟨w.heap.size, 0, none⟩ = false := by simp
  go_enter Tryd.func31, Tryd.ntmps31
  go_wp2_with (go_at_call 42; refine (as_hit n _ (.int .i64 0) _ hgA htA hfA).mono ?_; rintro e w' ⟨rfl, rfl⟩)
  go_ret
  exact ⟨rfl, ((((fr_alloc _ _).trans (fr_alloc _ _)).trans (fr_alloc _ _)).trans (fr_alloc _ _)).trans (fr_alloc _ _)⟩

/-- the handle of the type 'error' -/
abbrev hdE : Value := .iface 107 (.agg #[.pointer (some ⟨3, 28, none⟩)])
def glE : List (Nat × Dat) := [(0, ⟨.raw, hdE⟩)]
theorem hd_of {w : World} {ro : Nat → Prop} (h : GlOk glE w ro) : w.cell? ⟨0, 0, none⟩ = some hdE := by
  obtain ⟨_, us, h1, hn⟩ := h 0 _ (List.mem_singleton.2 rfl)
  have hn : us = [hdE] ∧ hdE.oneCell' = true := hn
  exact h1 0 hdE (by rw [hn.1]; rfl)
def cTold : Ctr := cdet [tErr] (fun (n : Int) => inK .i64 n) (fun (n : Int) => [⟨I, n⟩])
theorem okTold : PlainOk Tryd.prog glE 31 cTold := by
  intro ds k hs w R0 vals hR0 hG hD
  obtain ⟨hp, hk⟩ := hs
  obtain ⟨n, rfl, hin⟩ := dest1 hp
  have hk : k [⟨I, n⟩] := hk
  obtain ⟨hl, hd⟩ := hD
  match vals, hl with
  | [v], _ =>
    have hv : Ty.okV w R0 tErr n v := hd 0 ⟨tErr, n⟩ v rfl rfl
    unfold Ty.okV at hv
    simp only [Ty.agg, Bool.false_eq_true, if_false, Ty.ok] at hv
    have hok : ∀ {w' : World} {ro : Nat → Prop}, inK .i64 n → RetOk w' ro [(⟨I, n⟩ : Dat)] (.int .i64 n) := by
      intro w' ro hn
      show Ty.okV _ _ I n _
      unfold Ty.okV
      simp only [Ty.agg, Bool.false_eq_true, if_false, Ty.ok]
      exact ⟨trivial, hn⟩
    rcases hv with ⟨h0, hv⟩ | ⟨h0, hv⟩
    · injection hv with hv
      subst hv
      have h0 : (0 : Int) = n := h0.symm
      subst h0
      refine (show Calls Tryd.prog 31 #[.nilIface] w _ from told_nil w).mono fun e w' ⟨he, hw⟩ => ?_
      subst hw
      exact ⟨Fr.refl _ _, [⟨I, (0 : Int)⟩], _, he, hk, hok hin⟩
    · injection hv with hv
      subst hv
      refine (show Calls Tryd.prog 31 #[.iface 63 (.int .i64 n)] w _ from told_hit n w (hd_of hG)).mono fun e w' ⟨he, hw⟩ => ?_
      exact ⟨hw, [⟨I, n⟩], _, he, hk, hok hin⟩
theorem PlainOk.sub {P : Program} {gl gl' : List (Nat × Dat)} {f : FuncId} {c : Ctr} (hs : ∀ x ∈ gl, x ∈ gl') (h : PlainOk P gl f c) : PlainOk P gl' f c :=
  fun ds k hk w R0 vals hR0 hG hD => h ds k hk w R0 vals hR0 (fun g d hg => hG g d (hs _ hg)) hD
def cError : Ctr := cdet [tErr, I] (fun (n _ : Int) => inK .i64 n ∧ True) (fun (n e : Int) => [⟨.bool, decide (n = e)⟩])
def Er : Env := { tys := [(3, I), (4, .bool), (28, tErr), (63, I)], errT := 63, eqs := [], els := [] }
theorem Er_ok : EnvOk Tryd.prog Er := EnvOk.of_list (by kernel_rfl) (by kernel_rfl) (by kernel_rfl)
set_option linter.unusedVariables false in
theorem vcError (n e : Int) (k : List Dat → Prop) : vcF ⟨Er, [(31, cTold)], glE, [], []⟩ [] (Tryd.f9.body.getD .skip) Tryd.f9.ntmps [(.tmp 4, .bool)] [⟨tErr, n⟩, ⟨I, e⟩] k = (
  IntKind.i64.wrap n = n ∧ k [Dat.mk Ty.bool (decide (n = e))]) := by kernel_rfl
theorem okError : PlainOk Tryd.prog glE 9 cError := by
  refine plain_of (CxOk.mk' Er_ok rfl (by kernel_rfl) (gl := glE) (GOk.cons okTold Tryd.func31 (by kernel_rfl) (by kernel_rfl) GOk.nil) GoOk.nil noIt) Tryd.func9 (c := Tryd.f9.body.getD .skip) (rvs := [(.tmp 4, .bool)]) (by kernel_rfl) (by kernel_rfl) (by kernel_rfl) ?_
  intro ds k ⟨hp, hk⟩ hwf
  obtain ⟨n, e, rfl, hin, -⟩ := dest2 hp
  have hk : k [⟨.bool, decide (n = e)⟩] := hk
  refine ⟨[], ?_⟩
  rw [vcError]
  exact ⟨hin, hk⟩
theorem glE_of {laid : List (String × DataW Unit)} (hm : ("errors.errorType", Rows.laid_errors_errorType) ∈ laid) {W : World} (h : laidMetH Tryd.prog laid W) : GlOk glE W fun b => b < W.heap.size :=
  gl_of_handle (n := "errors.errorType") (u := 107) (ty := 28) (d := Rows.laid_errors_errorType) h hm rfl rfl (by kernel_rfl) (by kernel_rfl) (by kernel_rfl) (by kernel_rfl) rfl
end Go.Proofs.YtgbpjjinhjikeaaDoor

/- Traces: what the program's functions answer. -/
namespace Go.Proofs.YtgbpjjinhjikeaaDoor
open Go.Vc
abbrev tEv : Ty := .pr I (.pr I .un)
abbrev tTr : Ty := .pr I (.pr (.sl tEv) .un)
abbrev Ev := Int × Int × Unit
abbrev Tr := Int × List Ev × Unit
def Et : Env := { tys := [(3, I), (4, .bool), (5, .int .u8), (22, .sl tEv), (24, tTr), (28, tErr), (30, .sl I), (62, tEv), (66, .ar 5 I), (81, .sl (.sl I))], errT := 63, eqs := [], els := [(22, 62), (30, 3), (81, 30)] }
def an1 (α : Type) (r : Nat) (st : St → α → St) (ok : α → Prop) (mu : α → Nat) : Ann := [loopAt r α [] st (fun _ => ok) mu]
theorem Et_ok : EnvOk Tryd.prog Et := EnvOk.of_list (by kernel_rfl) (by kernel_rfl) (by kernel_rfl)
def inB (n lo hi : Int) : Bool := decide (lo ≤ n) && decide (n ≤ hi)
def cWithin : Ctr := cdet [I, I, I] (fun _ _ _ => True) (fun a b c => [⟨.bool, inB a b c⟩])
def cPow2 : Ctr := cdet [I] (fun (n : Int) => n ≤ 61 ∧ True) (fun (n : Int) => [⟨I, (2 : Int) ^ n.toNat⟩])
def bitB (s i : Int) : Bool := decide (0 ≤ s) && s.toNat.testBit i.toNat
def cBit : Ctr := cdet [I, I] (fun _ _ => True) (fun s i => [⟨.bool, bitB s i⟩])
def subN : Nat → Nat → Int → Bool
  | 0, _, _ => true
  | f + 1, a, b => if a = 0 then true else if a % 2 = 1 ∧ b.tmod 2 = 0 then false else subN f (a / 2) (b.tdiv 2)
/-- are all things of the one set in the other one? -/
def subB (a b : Int) : Bool := subN a.toNat a.toNat b
def cSub : Ctr := cdet [I, I] (fun _ _ => True) (fun a b => [⟨.bool, subB a b⟩])
/-- what is wrong with an event -/
def evErr (p : Int) (l : List Ev) (i : Nat) : Int :=
  if (inB (l.getD i (0, 0, ())).1 0 (p - 1) && inB (l.getD i (0, 0, ())).2.1 (-1) ((i : Int) - 1)) = false then 1
  else if 0 ≤ (l.getD i (0, 0, ())).2.1 ∧ (l.getD (l.getD i (0, 0, ())).2.1.toNat (0, 0, ())).1 = (l.getD i (0, 0, ())).1 then 6 else 0
def evsErr (p : Int) (l : List Ev) : Nat → Nat → Int
  | 0, _ => 0
  | f + 1, i => if evErr p l i = 0 then evsErr p l f (i + 1) else evErr p l i
def chk (t : Tr) : Int := if inB t.1 1 5 = false then 1 else if 24 < t.2.1.length then 4 else evsErr t.1 t.2.1 t.2.1.length 0
def cCheck : Ctr := cdet [tTr] (fun _ => True) (fun t => [⟨tErr, chk t⟩])
-- the loops
def anPow2 (n : Int) : Ann := an1 Nat 3 (fun st i => St.at st [(3, .d I ((2 : Int) ^ i)), (4, .d I (i : Int))]) (fun i => i ≤ n.toNat ∧ True) (fun i => n.toNat - i)
def anBit (s i : Int) : Ann := an1 Nat 2 (fun st k => St.at st [(0, .d I (s.tdiv (2 ^ k))), (5, .d I (k : Int))]) (fun k => k ≤ i.toNat ∧ True) (fun k => i.toNat - k)
def anSub (a b : Int) : Ann := an1 (Int × Int) 1 (fun st x => St.at st [(0, .d I x.1), (1, .d I x.2)]) (fun x => subB a b = subB x.1 x.2 ∧ inK .i64 x.1 ∧ inK .i64 x.2) (fun x => x.1.toNat)
def anCheck (t : Tr) : Ann := an1 Nat 6 (fun st i => St.at st [(18, .d I (i : Int)), (3, .any), (4, .any)]) (fun i => chk t = evsErr t.1 t.2.1 (t.2.1.length - i) i ∧ i ≤ t.2.1.length) (fun i => t.2.1.length - i)
end Go.Proofs.YtgbpjjinhjikeaaDoor

/- What the functions of this seat have to satisfy, by program: each verification condition in plain words. -/
namespace Go.Proofs.YtgbpjjinhjikeaaDoor
open Go.Vc
set_option linter.unusedVariables false
theorem vcWithin (a b c : Int) (k : List Dat → Prop) : vcF ⟨Et, [], [], [], []⟩ [] (Tryd.f32.body.getD .skip) Tryd.f32.ntmps [(.tmp 6, .bool)] [⟨I, a⟩, ⟨I, b⟩, ⟨I, c⟩] k = (
  (decide (b ≤ a) = true → k [Dat.mk Ty.bool (decide (a ≤ c))]) ∧ (decide (b ≤ a) = false → k [Dat.mk Ty.bool false])) := by kernel_rfl
theorem vcPow2 (n : Int) (k : List Dat → Prop) : vcF ⟨Et, [], [], [], []⟩ (anPow2 n) (Tryd.f44.body.getD .skip) Tryd.f44.ntmps [(.tmp 2, I)] [⟨I, n⟩] k = (
  (∃ (x : Nat), (x ≤ n.toNat ∧ True) ∧ (n = n ∧ (0 : Int) = (0 : Int) ∧ (1 : Int) = (2 : Int) ^ x ∧ (0 : Int) = (↑x : Int) ∧ True) ∧ True ∧ True) ∧ ∀ (x : Nat), x ≤ n.toNat ∧ True → (decide ((↑x : Int) < n) = true → inK IntKind.i64 ((2 : Int) ^ x * (2 : Int)) ∧ inK IntKind.i64 ((↑x : Int) + (1 : Int)) ∧ ∃ (x_1 : Nat), (x_1 ≤ n.toNat ∧ True) ∧ n.toNat - x_1 < n.toNat - x ∧ (n = n ∧ (0 : Int) = (0 : Int) ∧ (2 : Int) ^ x * (2 : Int) = (2 : Int) ^ x_1 ∧ (↑x : Int) + (1 : Int) = (↑x_1 : Int) ∧ True) ∧ True ∧ True) ∧ (decide ((↑x : Int) < n) = false → k [Dat.mk (I) ((2 : Int) ^ x)])) := by kernel_rfl
theorem vcBit (s i : Int) (k : List Dat → Prop) : vcF ⟨Et, [], [], [], []⟩ (anBit s i) (Tryd.f27.body.getD .skip) Tryd.f27.ntmps [(.tmp 4, .bool)] [⟨I, s⟩, ⟨I, i⟩] k = (
  (∃ (x : Nat), (x ≤ i.toNat ∧ True) ∧ (s = s.tdiv ((2 : Int) ^ x) ∧ i = i ∧ false = false ∧ (0 : Int) = (↑x : Int) ∧ True) ∧ True ∧ True) ∧ ∀ (x : Nat), x ≤ i.toNat ∧ True → (decide ((↑x : Int) < i) = true → ((!decide (s.tdiv ((2 : Int) ^ x) = (0 : Int))) = true → (2 : Int) ≠ (0 : Int) ∧ inK IntKind.i64 ((s.tdiv ((2 : Int) ^ x)).tdiv (2 : Int)) ∧ inK IntKind.i64 ((↑x : Int) + (1 : Int)) ∧ ∃ (x_1 : Nat), (x_1 ≤ i.toNat ∧ True) ∧ i.toNat - x_1 < i.toNat - x ∧ ((s.tdiv ((2 : Int) ^ x)).tdiv (2 : Int) = s.tdiv ((2 : Int) ^ x_1) ∧ i = i ∧ false = false ∧ (↑x : Int) + (1 : Int) = (↑x_1 : Int) ∧ True) ∧ True ∧ True) ∧ ((!decide (s.tdiv ((2 : Int) ^ x) = (0 : Int))) = false → (2 : Int) ≠ (0 : Int) ∧ inK IntKind.i64 ((s.tdiv ((2 : Int) ^ x)).tmod (2 : Int)) ∧ k [Dat.mk Ty.bool (decide ((s.tdiv ((2 : Int) ^ x)).tmod (2 : Int) = (1 : Int)))])) ∧ (decide ((↑x : Int) < i) = false → (2 : Int) ≠ (0 : Int) ∧ inK IntKind.i64 ((s.tdiv ((2 : Int) ^ x)).tmod (2 : Int)) ∧ k [Dat.mk Ty.bool (decide ((s.tdiv ((2 : Int) ^ x)).tmod (2 : Int) = (1 : Int)))])) := by kernel_rfl
theorem vcSub (a b : Int) (k : List Dat → Prop) : vcF ⟨Et, [], [], [], []⟩ (anSub a b) (Tryd.f28.body.getD .skip) Tryd.f28.ntmps [(.tmp 4, .bool)] [⟨I, a⟩, ⟨I, b⟩] k = (
  (∃ (x : Int × Int), (subB a b = subB x.fst x.snd ∧ inK IntKind.i64 x.fst ∧ inK IntKind.i64 x.snd) ∧ (a = x.fst ∧ b = x.snd ∧ false = false ∧ True) ∧ True ∧ True) ∧ ∀ (x : Int × Int), subB a b = subB x.fst x.snd ∧ inK IntKind.i64 x.fst ∧ inK IntKind.i64 x.snd → (decide ((0 : Int) < x.fst) = true → (2 : Int) ≠ (0 : Int) ∧ inK IntKind.i64 (x.fst.tmod (2 : Int)) ∧ (decide (x.fst.tmod (2 : Int) = (1 : Int)) = true → (2 : Int) ≠ (0 : Int) ∧ inK IntKind.i64 (x.snd.tmod (2 : Int)) ∧ (decide (x.snd.tmod (2 : Int) = (0 : Int)) = true → k [Dat.mk Ty.bool false]) ∧ (decide (x.snd.tmod (2 : Int) = (0 : Int)) = false → (2 : Int) ≠ (0 : Int) ∧ inK IntKind.i64 (x.fst.tdiv (2 : Int)) ∧ (2 : Int) ≠ (0 : Int) ∧ inK IntKind.i64 (x.snd.tdiv (2 : Int)) ∧ ∃ (x_1 : Int × Int), (subB a b = subB x_1.fst x_1.snd ∧ inK IntKind.i64 x_1.fst ∧ inK IntKind.i64 x_1.snd) ∧ x_1.fst.toNat < x.fst.toNat ∧ (x.fst.tdiv (2 : Int) = x_1.fst ∧ x.snd.tdiv (2 : Int) = x_1.snd ∧ false = false ∧ True) ∧ True ∧ True)) ∧ (decide (x.fst.tmod (2 : Int) = (1 : Int)) = false → (2 : Int) ≠ (0 : Int) ∧ inK IntKind.i64 (x.fst.tdiv (2 : Int)) ∧ (2 : Int) ≠ (0 : Int) ∧ inK IntKind.i64 (x.snd.tdiv (2 : Int)) ∧ ∃ (x_1 : Int × Int), (subB a b = subB x_1.fst x_1.snd ∧ inK IntKind.i64 x_1.fst ∧ inK IntKind.i64 x_1.snd) ∧ x_1.fst.toNat < x.fst.toNat ∧ (x.fst.tdiv (2 : Int) = x_1.fst ∧ x.snd.tdiv (2 : Int) = x_1.snd ∧ false = false ∧ True) ∧ True ∧ True)) ∧ (decide ((0 : Int) < x.fst) = false → k [Dat.mk Ty.bool true])) := by kernel_rfl
theorem vcCheck (t : Tr) (k : List Dat → Prop) : vcF ⟨Et, [(32, cWithin)], [], [], []⟩ (anCheck t) (Tryd.f10.body.getD .skip) Tryd.f10.ntmps [(.tmp 2, tErr)] [⟨tTr, t⟩] k = (
  True ∧ ((!inB t.fst (1 : Int) (5 : Int)) = true → (1 : Int) ≠ (0 : Int) ∧ k [Dat.mk (Ty.err (63 : Nat)) (1 : Int)]) ∧ ((!inB t.fst (1 : Int) (5 : Int)) = false → (decide ((24 : Int) < (↑(List.length t.snd.fst) : Int)) = true → (4 : Int) ≠ (0 : Int) ∧ k [Dat.mk (Ty.err (63 : Nat)) (4 : Int)]) ∧ (decide ((24 : Int) < (↑(List.length t.snd.fst) : Int)) = false → (∃ (x : Nat), (chk t = evsErr t.fst t.snd.fst (t.snd.fst.length - x) x ∧ x ≤ t.snd.fst.length) ∧ (t = t ∧ ([] : List Nat) = [] ∧ (0 : Int) = (0 : Int) ∧ [] ++ [(0 : Nat)] = [] ++ [(0 : Nat)] ∧ t.fst = t.fst ∧ inB t.fst (1 : Int) (5 : Int) = inB t.fst (1 : Int) (5 : Int) ∧ (!inB t.fst (1 : Int) (5 : Int)) = !inB t.fst (1 : Int) (5 : Int) ∧ [] ++ [(1 : Nat)] = [] ++ [(1 : Nat)] ∧ t.snd.fst = t.snd.fst ∧ (↑(List.length t.snd.fst) : Int) = (↑(List.length t.snd.fst) : Int) ∧ decide ((24 : Int) < (↑(List.length t.snd.fst) : Int)) = decide ((24 : Int) < (↑(List.length t.snd.fst) : Int)) ∧ [] ++ [(1 : Nat)] = [] ++ [(1 : Nat)] ∧ t.snd.fst = t.snd.fst ∧ (↑(List.length t.snd.fst) : Int) = (↑(List.length t.snd.fst) : Int) ∧ (0 : Int) = (↑x : Int) ∧ True) ∧ (((24 : Nat) = (24 : Nat) ∧ t = t) ∧ True) ∧ True) ∧ ∀ (x : Nat), chk t = evsErr t.fst t.snd.fst (t.snd.fst.length - x) x ∧ x ≤ t.snd.fst.length → (decide ((↑x : Int) < (↑(List.length t.snd.fst) : Int)) = true → (0 : Int) ≤ (↑x : Int) ∧ (↑x : Int) < (↑(List.length t.snd.fst) : Int) ∧ inK IntKind.i64 (t.fst - (1 : Int)) ∧ True ∧ ((!inB (List.getD t.snd.fst (↑x : Int).toNat ((0 : Int), (0 : Int), ())).fst (0 : Int) (t.fst - (1 : Int))) = true → (1 : Int) ≠ (0 : Int) ∧ k [Dat.mk (Ty.err (63 : Nat)) (1 : Int)]) ∧ ((!inB (List.getD t.snd.fst (↑x : Int).toNat ((0 : Int), (0 : Int), ())).fst (0 : Int) (t.fst - (1 : Int))) = false → inK IntKind.i64 ((↑x : Int) - (1 : Int)) ∧ True ∧ ((!inB (List.getD t.snd.fst (↑x : Int).toNat ((0 : Int), (0 : Int), ())).snd.fst (-1 : Int) ((↑x : Int) - (1 : Int))) = true → (1 : Int) ≠ (0 : Int) ∧ k [Dat.mk (Ty.err (63 : Nat)) (1 : Int)]) ∧ ((!inB (List.getD t.snd.fst (↑x : Int).toNat ((0 : Int), (0 : Int), ())).snd.fst (-1 : Int) ((↑x : Int) - (1 : Int))) = false → (decide ((0 : Int) ≤ (List.getD t.snd.fst (↑x : Int).toNat ((0 : Int), (0 : Int), ())).snd.fst) = true → (0 : Int) ≤ (List.getD t.snd.fst (↑x : Int).toNat ((0 : Int), (0 : Int), ())).snd.fst ∧ (List.getD t.snd.fst (↑x : Int).toNat ((0 : Int), (0 : Int), ())).snd.fst < (↑(List.length t.snd.fst) : Int) ∧ (decide ((List.getD t.snd.fst (Int.toNat (List.getD t.snd.fst (↑x : Int).toNat ((0 : Int), (0 : Int), ())).snd.fst) ((0 : Int), (0 : Int), ())).fst = (List.getD t.snd.fst (↑x : Int).toNat ((0 : Int), (0 : Int), ())).fst) = true → (6 : Int) ≠ (0 : Int) ∧ k [Dat.mk (Ty.err (63 : Nat)) (6 : Int)]) ∧ (decide ((List.getD t.snd.fst (Int.toNat (List.getD t.snd.fst (↑x : Int).toNat ((0 : Int), (0 : Int), ())).snd.fst) ((0 : Int), (0 : Int), ())).fst = (List.getD t.snd.fst (↑x : Int).toNat ((0 : Int), (0 : Int), ())).fst) = false → inK IntKind.i64 ((↑x : Int) + (1 : Int)) ∧ ∃ (x_1 : Nat), (chk t = evsErr t.fst t.snd.fst (t.snd.fst.length - x_1) x_1 ∧ x_1 ≤ t.snd.fst.length) ∧ t.snd.fst.length - x_1 < t.snd.fst.length - x ∧ (t = t ∧ ([] : List Nat) = [] ∧ (0 : Int) = (0 : Int) ∧ [] ++ [(0 : Nat)] = [] ++ [(0 : Nat)] ∧ t.fst = t.fst ∧ inB t.fst (1 : Int) (5 : Int) = inB t.fst (1 : Int) (5 : Int) ∧ (!inB t.fst (1 : Int) (5 : Int)) = !inB t.fst (1 : Int) (5 : Int) ∧ [] ++ [(1 : Nat)] = [] ++ [(1 : Nat)] ∧ t.snd.fst = t.snd.fst ∧ (↑(List.length t.snd.fst) : Int) = (↑(List.length t.snd.fst) : Int) ∧ decide ((24 : Int) < (↑(List.length t.snd.fst) : Int)) = decide ((24 : Int) < (↑(List.length t.snd.fst) : Int)) ∧ [] ++ [(1 : Nat)] = [] ++ [(1 : Nat)] ∧ t.snd.fst = t.snd.fst ∧ (↑(List.length t.snd.fst) : Int) = (↑(List.length t.snd.fst) : Int) ∧ (↑x : Int) + (1 : Int) = (↑x_1 : Int) ∧ True) ∧ (((24 : Nat) = (24 : Nat) ∧ t = t) ∧ True) ∧ True)) ∧ (decide ((0 : Int) ≤ (List.getD t.snd.fst (↑x : Int).toNat ((0 : Int), (0 : Int), ())).snd.fst) = false → inK IntKind.i64 ((↑x : Int) + (1 : Int)) ∧ ∃ (x_1 : Nat), (chk t = evsErr t.fst t.snd.fst (t.snd.fst.length - x_1) x_1 ∧ x_1 ≤ t.snd.fst.length) ∧ t.snd.fst.length - x_1 < t.snd.fst.length - x ∧ (t = t ∧ ([] : List Nat) = [] ∧ (0 : Int) = (0 : Int) ∧ [] ++ [(0 : Nat)] = [] ++ [(0 : Nat)] ∧ t.fst = t.fst ∧ inB t.fst (1 : Int) (5 : Int) = inB t.fst (1 : Int) (5 : Int) ∧ (!inB t.fst (1 : Int) (5 : Int)) = !inB t.fst (1 : Int) (5 : Int) ∧ [] ++ [(1 : Nat)] = [] ++ [(1 : Nat)] ∧ t.snd.fst = t.snd.fst ∧ (↑(List.length t.snd.fst) : Int) = (↑(List.length t.snd.fst) : Int) ∧ decide ((24 : Int) < (↑(List.length t.snd.fst) : Int)) = decide ((24 : Int) < (↑(List.length t.snd.fst) : Int)) ∧ [] ++ [(1 : Nat)] = [] ++ [(1 : Nat)] ∧ t.snd.fst = t.snd.fst ∧ (↑(List.length t.snd.fst) : Int) = (↑(List.length t.snd.fst) : Int) ∧ (↑x : Int) + (1 : Int) = (↑x_1 : Int) ∧ True) ∧ (((24 : Nat) = (24 : Nat) ∧ t = t) ∧ True) ∧ True)))) ∧ (decide ((↑x : Int) < (↑(List.length t.snd.fst) : Int)) = false → k [Dat.mk (Ty.err (63 : Nat)) (0 : Int)])))) := by kernel_rfl
end Go.Proofs.YtgbpjjinhjikeaaDoor

/- Traces: the small functions keep their contracts. -/
namespace Go.Proofs.YtgbpjjinhjikeaaDoor
open Go.Vc

theorem mixed : Tryd.prog.follows .mixedOrders = true := by kernel_rfl

theorem okWithin : PlainOk Tryd.prog [] 32 cWithin := by
  refine plain_of (CxOk.mk' Et_ok rfl mixed (gl := []) GOk.nil GoOk.nil noIt) Tryd.func32 (c := Tryd.f32.body.getD .skip) (rvs := [(.tmp 6, .bool)]) (by kernel_rfl) (by kernel_rfl) (by kernel_rfl) ?_
  intro ds k ⟨hp, hk⟩ hwf
  obtain ⟨a, b, c, rfl, -⟩ := dest3 hp
  have hk : k [⟨.bool, inB a b c⟩] := hk
  refine ⟨[], ?_⟩
  rw [vcWithin]
  unfold inB at hk
  refine ⟨fun h => ?_, fun h => ?_⟩ <;> simpa [h] using hk

theorem two_pow_le {n : Nat} (h : n ≤ 62) : (2 : Int) ^ n ≤ 4611686018427387904 := by
  have : 2 ^ n ≤ 2 ^ 62 := Nat.pow_le_pow_right (by decide) h
  have h2 : ((2 ^ n : Nat) : Int) ≤ ((2 ^ 62 : Nat) : Int) := Int.ofNat_le.2 this
  rw [Int.natCast_pow] at h2
  exact h2
theorem two_pow_pos (n : Nat) : (0 : Int) < (2 : Int) ^ n := Int.pow_pos (by decide)

theorem okPow2 : PlainOk Tryd.prog [] 44 cPow2 := by
  refine plain_of (CxOk.mk' Et_ok rfl mixed (gl := []) GOk.nil GoOk.nil noIt) Tryd.func44 (c := Tryd.f44.body.getD .skip) (rvs := [(.tmp 2, I)]) (by kernel_rfl) (by kernel_rfl) (by kernel_rfl) ?_
  intro ds k ⟨hp, hk⟩ hwf
  obtain ⟨n, rfl, hn, -⟩ := dest1 hp
  have hk : k [⟨I, (2 : Int) ^ n.toNat⟩] := hk
  refine ⟨anPow2 n, ?_⟩
  rw [vcPow2]
  simp only [decide_eq_true_eq, decide_eq_false_iff_not, inK_i64, and_true, true_and]
  refine ⟨⟨0, by omega, rfl, rfl⟩, fun x hx => ⟨fun h => ?_, fun h => ?_⟩⟩
  · have h1 := two_pow_le (n := x + 1) (by omega)
    have h2 := two_pow_pos (x + 1)
    rw [Int.pow_succ] at h1 h2
    refine ⟨by omega, by omega, x + 1, by omega, by omega, by rw [Int.pow_succ], by omega⟩
  · have : x = n.toNat := by omega
    rw [this]; exact hk

theorem tdivN (n x : Nat) : (n : Int).tdiv ((2 : Int) ^ x) = ((n / 2 ^ x : Nat) : Int) := by
  rw [show (2 : Int) ^ x = ((2 ^ x : Nat) : Int) by rw [Int.natCast_pow]; rfl, ← Int.ofNat_tdiv]
theorem tdiv_pow (s : Int) (x : Nat) : (s.tdiv ((2 : Int) ^ x)).tdiv 2 = s.tdiv ((2 : Int) ^ (x + 1)) := by
  have key : ∀ n : Nat, ((n : Int).tdiv ((2 : Int) ^ x)).tdiv 2 = (n : Int).tdiv ((2 : Int) ^ (x + 1)) := by
    intro n
    rw [tdivN, tdivN, Nat.pow_succ, ← Nat.div_div_eq_div_mul]
    have := tdivN (n / 2 ^ x) 1
    simpa using this
  rcases Int.le_total 0 s with h | h
  · obtain ⟨n, rfl⟩ := Int.eq_ofNat_of_zero_le h
    exact key n
  · obtain ⟨n, hn⟩ := Int.eq_ofNat_of_zero_le (show 0 ≤ -s by omega)
    have e : s = -(n : Int) := by omega
    rw [e, Int.neg_tdiv, Int.neg_tdiv, Int.neg_tdiv, key]

theorem bit_of {s : Int} {x : Nat} : decide ((s.tdiv ((2 : Int) ^ x)).tmod 2 = 1) = bitB s x := by
  unfold bitB
  by_cases h : 0 ≤ s
  · obtain ⟨n, rfl⟩ := Int.eq_ofNat_of_zero_le h
    have e : ((n : Int).tdiv ((2 : Int) ^ x)).tmod 2 = ((n / 2 ^ x % 2 : Nat) : Int) := by
      rw [show (2 : Int) ^ x = ((2 ^ x : Nat) : Int) by rw [Int.natCast_pow]; rfl, ← Int.ofNat_tdiv]
      exact (Int.ofNat_tmod _ 2).symm
    rw [e]
    simp only [h, decide_true, Bool.true_and, Int.toNat_natCast]
    rw [Nat.testBit_eq_decide_div_mod_eq]
    apply decide_eq_decide.2
    exact ⟨fun h => by exact_mod_cast h, fun h => by exact_mod_cast h⟩
  · have hd : decide (0 ≤ s) = false := by simpa using h
    rw [hd, Bool.false_and]
    have hle : s.tdiv ((2 : Int) ^ x) ≤ 0 := by
      have := Int.tdiv_nonneg (a := -s) (b := (2 : Int) ^ x) (by omega) (Int.le_of_lt (two_pow_pos x))
      rw [Int.neg_tdiv] at this; omega
    simp only [decide_eq_false_iff_not]
    intro hc
    have h2 := Int.tmod_nonneg (a := -(s.tdiv ((2 : Int) ^ x))) 2 (by omega)
    rw [Int.neg_tmod] at h2
    omega

theorem tdiv_in {s : Int} (h : inK .i64 s) (x : Nat) : inK .i64 (s.tdiv ((2 : Int) ^ x)) ∧ inK .i64 ((s.tdiv ((2 : Int) ^ x)).tmod 2) := by
  rw [inK_i64] at h
  have key : ∀ n : Nat, ((n : Int).tdiv ((2 : Int) ^ x)) ≤ n ∧ 0 ≤ ((n : Int).tdiv ((2 : Int) ^ x)) := by
    intro n
    rw [tdivN]
    have h := Nat.div_le_self n (2 ^ x)
    generalize n / 2 ^ x = q at h
    omega
  have hb : -9223372036854775808 ≤ s.tdiv ((2 : Int) ^ x) ∧ s.tdiv ((2 : Int) ^ x) ≤ 9223372036854775807 := by
    rcases Int.le_total 0 s with h0 | h0
    · obtain ⟨n, rfl⟩ := Int.eq_ofNat_of_zero_le h0
      have := key n; omega
    · obtain ⟨n, hn⟩ := Int.eq_ofNat_of_zero_le (show 0 ≤ -s by omega)
      have e : s = -(n : Int) := by omega
      have := key n
      rw [e, Int.neg_tdiv]; omega
  refine ⟨inK_i64.2 hb, inK_i64.2 ?_⟩
  generalize s.tdiv ((2 : Int) ^ x) = q at hb
  have := Int.tmod_two_eq q
  omega

theorem okBit : PlainOk Tryd.prog [] 27 cBit := by
  refine plain_of (CxOk.mk' Et_ok rfl mixed (gl := []) GOk.nil GoOk.nil noIt) Tryd.func27 (c := Tryd.f27.body.getD .skip) (rvs := [(.tmp 4, .bool)]) (by kernel_rfl) (by kernel_rfl) (by kernel_rfl) ?_
  intro ds k ⟨hp, hk⟩ hwf
  obtain ⟨s, i, rfl, -⟩ := dest2 hp
  have hk : k [⟨.bool, bitB s i⟩] := hk
  have hs : inK .i64 s := (wf2 hwf).1
  have hi := inK_i64.1 ((wf2 hwf).2 : inK .i64 i)
  refine ⟨anBit s i, ?_⟩
  rw [vcBit]
  simp only [decide_eq_true_eq, decide_eq_false_iff_not, and_true, true_and, Bool.not_eq_true', Bool.not_eq_false', ne_eq]
  have ret : ∀ x : Nat, bitB s x = bitB s i → k [⟨.bool, decide ((s.tdiv ((2 : Int) ^ x)).tmod 2 = 1)⟩] := by
    intro x hx; rw [bit_of, hx]; exact hk
  refine ⟨⟨0, by omega, by simp, rfl⟩, fun x hx => ⟨fun h => ⟨fun h0 => ⟨by decide, ?_, by rw [inK_i64]; omega, x + 1, by omega, by omega, tdiv_pow s x, by omega⟩, fun h0 => ⟨by decide, (tdiv_in hs x).2, ret x ?_⟩⟩, fun h => ⟨by decide, (tdiv_in hs x).2, ret x ?_⟩⟩⟩
  · rw [tdiv_pow]; exact (tdiv_in hs (x + 1)).1
  · unfold bitB
    by_cases hs0 : 0 ≤ s
    · obtain ⟨n, hn⟩ := Int.eq_ofNat_of_zero_le hs0
      rw [hn, tdivN] at h0
      have h0' : n / 2 ^ x = 0 := by exact_mod_cast h0
      have hlt : n < 2 ^ x := by
        rcases Nat.lt_or_ge n (2 ^ x) with h | h
        · exact h
        · have := Nat.div_pos h (Nat.two_pow_pos x); omega
      have hf : ∀ j, x ≤ j → n.testBit j = false := fun j hj => Nat.testBit_lt_two_pow (Nat.lt_of_lt_of_le hlt (Nat.pow_le_pow_right (by decide) hj))
      have e1 : s.toNat = n := by rw [hn]; rfl
      rw [e1, hf _ (by rw [Int.toNat_natCast]; exact Nat.le_refl _), hf _ (by omega)]
    · have : decide (0 ≤ s) = false := by simpa using hs0
      rw [this]; rfl
  · have : (x : Int).toNat = i.toNat := by omega
    unfold bitB; rw [this]
end Go.Proofs.YtgbpjjinhjikeaaDoor

/- Traces: sets in sets; what is wrong with a trace. -/
namespace Go.Proofs.YtgbpjjinhjikeaaDoor
open Go.Vc

theorem subN_fuel : ∀ (f g a : Nat) (b : Int), a ≤ f → a ≤ g → subN f a b = subN g a b := by
  intro f
  induction f with
  | zero =>
    intro g a b h1 h2
    have : a = 0 := by omega
    subst this
    cases g <;> simp [subN]
  | succ f ih =>
    intro g a b h1 h2
    cases g with
    | zero =>
      have : a = 0 := by omega
      subst this
      simp [subN]
    | succ g =>
      unfold subN
      by_cases h : a = 0
      · simp [h]
      · rw [if_neg h, if_neg h, ih g (a / 2) (b.tdiv 2) (by omega) (by omega)]

theorem subB_pos {a b : Int} (h : 0 < a) : subB a b = if a.tmod 2 = 1 ∧ b.tmod 2 = 0 then false else subB (a.tdiv 2) (b.tdiv 2) := by
  obtain ⟨n, rfl⟩ := Int.eq_ofNat_of_zero_le (Int.le_of_lt h)
  have hn : 0 < n := by omega
  have e1 : ((n : Int).tdiv 2) = ((n / 2 : Nat) : Int) := by simp
  have e2 : ((n : Int).tmod 2 = 1) ↔ n % 2 = 1 := by
    have : (n : Int).tmod 2 = ((n % 2 : Nat) : Int) := (Int.ofNat_tmod n 2).symm
    rw [this]; omega
  rw [e1]
  unfold subB
  simp only [Int.toNat_natCast, e2]
  obtain ⟨m, rfl⟩ : ∃ m, n = m + 1 := ⟨n - 1, by omega⟩
  rw [subN, if_neg (by omega)]
  rw [subN_fuel m ((m + 1) / 2) ((m + 1) / 2) _ (by omega) (Nat.le_refl _)]

theorem subB_neg {a b : Int} (h : ¬ 0 < a) : subB a b = true := by
  unfold subB
  have : a.toNat = 0 := by omega
  rw [this]; rfl

theorem half_in {q : Int} (h : inK .i64 q) : inK .i64 (q.tmod 2) ∧ inK .i64 (q.tdiv 2) := by
  have h1 := tdiv_in h 0
  have h2 := tdiv_in h 1
  simp only [Int.pow_zero, Int.tdiv_one] at h1
  rw [Int.pow_succ, Int.pow_zero, Int.one_mul] at h2
  exact ⟨h1.2, h2.1⟩

theorem okSub : PlainOk Tryd.prog [] 28 cSub := by
  refine plain_of (CxOk.mk' Et_ok rfl mixed (gl := []) GOk.nil GoOk.nil noIt) Tryd.func28 (c := Tryd.f28.body.getD .skip) (rvs := [(.tmp 4, .bool)]) (by kernel_rfl) (by kernel_rfl) (by kernel_rfl) ?_
  intro ds k ⟨hp, hk⟩ hwf
  obtain ⟨a, b, rfl, -⟩ := dest2 hp
  have hk : k [⟨.bool, subB a b⟩] := hk
  have ha : inK .i64 a := (wf2 hwf).1
  have hb : inK .i64 b := (wf2 hwf).2
  refine ⟨anSub a b, ?_⟩
  rw [vcSub]
  simp only [decide_eq_true_eq, decide_eq_false_iff_not, and_true, true_and, ne_eq]
  have ret : ∀ x : Bool, subB a b = x → k [⟨.bool, x⟩] := by rintro _ rfl; exact hk
  have h20 : ¬ (2 : Int) = 0 := by decide
  refine ⟨⟨(a, b), ⟨rfl, ha, hb⟩, rfl, rfl⟩, fun x ⟨h1, h2, h3⟩ => ⟨fun h => ?_, fun h => ret _ (by rw [h1, subB_neg h])⟩⟩
  have hst := subB_pos (b := x.2) h
  have hlt : (x.1.tdiv 2).toNat < x.1.toNat := by
    obtain ⟨n, hn⟩ := Int.eq_ofNat_of_zero_le (Int.le_of_lt h)
    have e1 : (x.1.tdiv 2) = ((n / 2 : Nat) : Int) := by rw [hn]; simp
    rw [e1]; omega
  refine ⟨h20, (half_in h2).1, fun h4 => ⟨h20, (half_in h3).1, fun h5 => ret _ (by rw [h1, hst, if_pos ⟨h4, h5⟩]), fun h5 => ⟨h20, (half_in h2).2, h20, (half_in h3).2, (x.1.tdiv 2, x.2.tdiv 2), ⟨by rw [h1, hst, if_neg (fun h => h5 h.2)], (half_in h2).2, (half_in h3).2⟩, hlt, rfl, rfl⟩⟩,
    fun h4 => ⟨h20, (half_in h2).2, h20, (half_in h3).2, (x.1.tdiv 2, x.2.tdiv 2), ⟨by rw [h1, hst, if_neg (fun h => h4 h.1)], (half_in h2).2, (half_in h3).2⟩, hlt, rfl, rfl⟩⟩

theorem okCheck : PlainOk Tryd.prog [] 10 cCheck := by
  refine plain_of (CxOk.mk' Et_ok rfl mixed (gl := []) (GOk.cons okWithin Tryd.func32 (by kernel_rfl) (by kernel_rfl) GOk.nil) GoOk.nil noIt) Tryd.func10 (c := Tryd.f10.body.getD .skip) (rvs := [(.tmp 2, tErr)]) (by kernel_rfl) (by kernel_rfl) (by kernel_rfl) ?_
  intro ds k ⟨hp, hk⟩ hwf
  obtain ⟨t, rfl, -⟩ := dest1 hp
  revert hk hwf
  revert t
  intro (t : Tr) _ hk hwf
  have hk : k [⟨tErr, chk t⟩] := hk
  have ht : inK .i64 t.1 := (wf1 hwf).1
  refine ⟨anCheck t, ?_⟩
  rw [vcCheck]
  have ret : ∀ x : Int, chk t = x → k [⟨tErr, x⟩] := by rintro _ rfl; exact hk
  simp only [decide_eq_true_eq, decide_eq_false_iff_not, and_true, true_and, ne_eq, Bool.not_eq_true', Bool.not_eq_false', Int.toNat_natCast]
  have h10 : ¬ (1 : Int) = 0 := by decide
  have h40 : ¬ (4 : Int) = 0 := by decide
  have h60 : ¬ (6 : Int) = 0 := by decide
  refine ⟨fun h => ⟨h10, ret _ (by unfold chk; rw [if_pos h])⟩, fun h => ⟨fun g => ⟨h40, ret _ (by unfold chk; rw [if_neg (by rw [h]; decide), if_pos (by omega)])⟩, fun g => ?_⟩⟩
  have hp : 1 ≤ t.1 ∧ t.1 ≤ 5 := by simpa [inB] using h
  have hlen : t.2.1.length ≤ 24 := by omega
  have hc0 : chk t = evsErr t.1 t.2.1 t.2.1.length 0 := by
    unfold chk; rw [if_neg (by rw [h]; decide), if_neg (by omega)]
  have hstep : ∀ x, x < t.2.1.length → evsErr t.1 t.2.1 (t.2.1.length - x) x = if evErr t.1 t.2.1 x = 0 then evsErr t.1 t.2.1 (t.2.1.length - (x + 1)) (x + 1) else evErr t.1 t.2.1 x := by
    intro x hx
    rw [show t.2.1.length - x = (t.2.1.length - (x + 1)) + 1 by omega]
    rfl
  refine ⟨⟨0, ⟨hc0, Nat.zero_le _⟩, rfl⟩, fun x ⟨hx, hxl⟩ => ⟨fun hlt => ?_, fun hge => ret _ ?_⟩⟩
  · have hst := hstep x (by omega)
    have bad : ∀ n, evErr t.1 t.2.1 x = n → n ≠ 0 → k [⟨tErr, n⟩] := fun n h1 h2 => ret n (by rw [hx, hst, if_neg (by rw [h1]; exact h2), h1])
    have good : evErr t.1 t.2.1 x = 0 → inK IntKind.i64 ((x : Int) + 1) ∧ ∃ x', (chk t = evsErr t.1 t.2.1 (t.2.1.length - x') x' ∧ x' ≤ t.2.1.length) ∧ t.2.1.length - x' < t.2.1.length - x ∧ (x : Int) + 1 = (x' : Int) := fun h1 =>
      ⟨inK_i64.2 (by omega), x + 1, ⟨by rw [hx, hst, if_pos h1], by omega⟩, by omega, by omega⟩
    refine ⟨by omega, hlt, inK_i64.2 (by omega), fun h1 => ⟨h10, bad 1 ?_ h10⟩, fun h1 => ⟨inK_i64.2 (by omega), fun h2 => ⟨h10, bad 1 ?_ h10⟩, fun h2 => ⟨fun h3 => ⟨h3, ?_, fun h4 => ⟨h60, bad 6 ?_ h60⟩, fun h4 => good ?_⟩, fun h3 => good ?_⟩⟩⟩
    · unfold evErr; rw [if_pos (by rw [h1]; rfl)]
    · unfold evErr; rw [if_pos (by rw [h1, h2]; rfl)]
    · have : (t.2.1.getD x (0, 0, ())).2.1 ≤ (x : Int) - 1 := by
        simp only [inB, Bool.and_eq_true, decide_eq_true_eq] at h2; exact h2.2
      omega
    · unfold evErr; rw [if_neg (by rw [h1, h2]; decide), if_pos ⟨h3, h4⟩]
    · unfold evErr; rw [if_neg (by rw [h1, h2]; decide), if_neg (fun h => h4 h.2)]
    · unfold evErr; rw [if_neg (by rw [h1, h2]; decide), if_neg (fun h => h3 h.1)]
  · have : x = t.2.1.length := by omega
    rw [hx, this, Nat.sub_self]; rfl
end Go.Proofs.YtgbpjjinhjikeaaDoor

/- Traces: what happened before what. -/
namespace Go.Proofs.YtgbpjjinhjikeaaDoor
open Go.Vc
def bst (l : List Ev) : Nat → List Nat × List Nat
  | 0 => (List.replicate l.length 0, List.replicate 5 0)
  | i + 1 =>
    ((bst l i).1.set i (if 0 ≤ (l.getD i (0, 0, ())).2.1 then (bst l i).2.getD (l.getD i (0, 0, ())).1.toNat 0 ||| ((bst l i).1.getD (l.getD i (0, 0, ())).2.1.toNat 0 ||| 2 ^ (l.getD i (0, 0, ())).2.1.toNat) else (bst l i).2.getD (l.getD i (0, 0, ())).1.toNat 0),
     (bst l i).2.set (l.getD i (0, 0, ())).1.toNat ((if 0 ≤ (l.getD i (0, 0, ())).2.1 then (bst l i).2.getD (l.getD i (0, 0, ())).1.toNat 0 ||| ((bst l i).1.getD (l.getD i (0, 0, ())).2.1.toNat 0 ||| 2 ^ (l.getD i (0, 0, ())).2.1.toNat) else (bst l i).2.getD (l.getD i (0, 0, ())).1.toNat 0) ||| 2 ^ i))
def ints (l : List Nat) : List Int := l.map fun (n : Nat) => (n : Int)
/-- of each event all that happened before it -/
def befN (t : Tr) : List Nat := (bst t.2.1 t.2.1.length).1
def bef (t : Tr) : List Int := if chk t = 0 then ints (befN t) else []
def cBefore : Ctr := cdet [tTr] (fun _ => True) (fun t => [⟨.sl I, bef t⟩, ⟨tErr, chk t⟩])
def anBefore (t : Tr) : Ann := an1 Nat 7 (fun st i => { St.at st [(21, .d I (i : Int)), (7, .any), (8, .any)] with ob := (st.ob.set 1 (.row 3 I (ints (bst t.2.1 i).1))).set 2 (.var 66 (.ar 5 I) (ints (bst t.2.1 i).2)) }) (fun i => i ≤ t.2.1.length ∧ chk t = 0) (fun i => t.2.1.length - i)
end Go.Proofs.YtgbpjjinhjikeaaDoor

/- What the functions of this seat have to satisfy, by program: each verification condition in plain words. -/
namespace Go.Proofs.YtgbpjjinhjikeaaDoor
open Go.Vc
set_option linter.unusedVariables false
theorem vcBefore (t : Tr) (k : List Dat → Prop) : vcF ⟨Et, [(10, cCheck)], [], [], []⟩ (anBefore t) (Tryd.f13.body.getD .skip) Tryd.f13.ntmps [(.tmp 2, .sl I), (.tmp 3, tErr)] [⟨tTr, t⟩] k = (
  True ∧ ((!decide (chk t = (0 : Int))) = true → k [Dat.mk (I).sl [], Dat.mk (Ty.err (63 : Nat)) (chk t)]) ∧ ((!decide (chk t = (0 : Int))) = false → (0 : Int) ≤ (↑(List.length t.snd.fst) : Int) ∧ (↑(List.length t.snd.fst) : Int) ≤ (↑(List.length t.snd.fst) : Int) ∧ (↑(List.length t.snd.fst) : Int) ≤ (1000000000 : Int) ∧ (∃ (x : Nat), (x ≤ t.snd.fst.length ∧ chk t = (0 : Int)) ∧ (t = t ∧ ([] : List Nat) = [] ∧ True ∧ (0 : Int) = (0 : Int) ∧ chk t = chk t ∧ True ∧ ([] : List Nat) = [] ∧ t = t ∧ chk t = chk t ∧ chk t = chk t ∧ (!decide (chk t = (0 : Int))) = !decide (chk t = (0 : Int)) ∧ [] ++ [(1 : Nat)] = [] ++ [(1 : Nat)] ∧ t.snd.fst = t.snd.fst ∧ (↑(List.length t.snd.fst) : Int) = (↑(List.length t.snd.fst) : Int) ∧ True ∧ [] ++ [(1 : Nat)] = [] ++ [(1 : Nat)] ∧ t.snd.fst = t.snd.fst ∧ (↑(List.length t.snd.fst) : Int) = (↑(List.length t.snd.fst) : Int) ∧ (0 : Int) = (↑x : Int) ∧ True) ∧ (((24 : Nat) = (24 : Nat) ∧ t = t) ∧ ((3 : Nat) = (3 : Nat) ∧ List.replicate (↑(List.length t.snd.fst) : Int).toNat (0 : Int) = ints (bst t.snd.fst x).fst) ∧ ((66 : Nat) = (66 : Nat) ∧ List.replicate (5 : Nat) (0 : Int) = ints (bst t.snd.fst x).snd) ∧ True) ∧ True) ∧ ∀ (x : Nat), x ≤ t.snd.fst.length ∧ chk t = (0 : Int) → (decide ((↑x : Int) < (↑(List.length t.snd.fst) : Int)) = true → (0 : Int) ≤ (↑x : Int) ∧ (↑x : Int) < (↑(List.length t.snd.fst) : Int) ∧ (0 : Int) ≤ (List.getD t.snd.fst (↑x : Int).toNat ((0 : Int), (0 : Int), ())).fst ∧ (List.getD t.snd.fst (↑x : Int).toNat ((0 : Int), (0 : Int), ())).fst < (↑(5 : Nat) : Int) ∧ (0 : Int) ≤ (↑x : Int) ∧ (↑x : Int) < (↑(ints (bst t.snd.fst x).fst).length : Int) ∧ (decide ((0 : Int) ≤ (List.getD t.snd.fst (↑x : Int).toNat ((0 : Int), (0 : Int), ())).snd.fst) = true → (0 : Int) ≤ (↑x : Int) ∧ (↑x : Int) < (↑((ints (bst t.snd.fst x).fst).set (↑x : Int).toNat ((ints (bst t.snd.fst x).snd).getD (Int.toNat (List.getD t.snd.fst (↑x : Int).toNat ((0 : Int), (0 : Int), ())).fst) (0 : Int))).length : Int) ∧ (0 : Int) ≤ (List.getD t.snd.fst (↑x : Int).toNat ((0 : Int), (0 : Int), ())).snd.fst ∧ (List.getD t.snd.fst (↑x : Int).toNat ((0 : Int), (0 : Int), ())).snd.fst < (↑((ints (bst t.snd.fst x).fst).set (↑x : Int).toNat ((ints (bst t.snd.fst x).snd).getD (Int.toNat (List.getD t.snd.fst (↑x : Int).toNat ((0 : Int), (0 : Int), ())).fst) (0 : Int))).length : Int) ∧ (0 : Int) ≤ (List.getD t.snd.fst (↑x : Int).toNat ((0 : Int), (0 : Int), ())).snd.fst ∧ (List.getD t.snd.fst (↑x : Int).toNat ((0 : Int), (0 : Int), ())).snd.fst < (64 : Int) ∧ IntKind.i64.bits = (64 : Nat) ∧ inK IntKind.i64 ((1 : Int) * (2 : Int) ^ Int.toNat (List.getD t.snd.fst (↑x : Int).toNat ((0 : Int), (0 : Int), ())).snd.fst) ∧ (0 : Int) ≤ ((ints (bst t.snd.fst x).fst).set (↑x : Int).toNat ((ints (bst t.snd.fst x).snd).getD (Int.toNat (List.getD t.snd.fst (↑x : Int).toNat ((0 : Int), (0 : Int), ())).fst) (0 : Int))).getD (Int.toNat (List.getD t.snd.fst (↑x : Int).toNat ((0 : Int), (0 : Int), ())).snd.fst) (0 : Int) ∧ (0 : Int) ≤ (1 : Int) * (2 : Int) ^ Int.toNat (List.getD t.snd.fst (↑x : Int).toNat ((0 : Int), (0 : Int), ())).snd.fst ∧ (0 : Int) ≤ ((ints (bst t.snd.fst x).fst).set (↑x : Int).toNat ((ints (bst t.snd.fst x).snd).getD (Int.toNat (List.getD t.snd.fst (↑x : Int).toNat ((0 : Int), (0 : Int), ())).fst) (0 : Int))).getD (↑x : Int).toNat (0 : Int) ∧ (0 : Int) ≤ (↑((((ints (bst t.snd.fst x).fst).set (↑x : Int).toNat ((ints (bst t.snd.fst x).snd).getD (Int.toNat (List.getD t.snd.fst (↑x : Int).toNat ((0 : Int), (0 : Int), ())).fst) (0 : Int))).getD (Int.toNat (List.getD t.snd.fst (↑x : Int).toNat ((0 : Int), (0 : Int), ())).snd.fst) (0 : Int)).toNat ||| ((1 : Int) * (2 : Int) ^ Int.toNat (List.getD t.snd.fst (↑x : Int).toNat ((0 : Int), (0 : Int), ())).snd.fst).toNat) : Int) ∧ (0 : Int) ≤ (↑x : Int) ∧ (↑x : Int) < (↑((ints (bst t.snd.fst x).fst).set (↑x : Int).toNat ((ints (bst t.snd.fst x).snd).getD (Int.toNat (List.getD t.snd.fst (↑x : Int).toNat ((0 : Int), (0 : Int), ())).fst) (0 : Int))).length : Int) ∧ (0 : Int) ≤ (↑x : Int) ∧ (↑x : Int) < (↑(((ints (bst t.snd.fst x).fst).set (↑x : Int).toNat ((ints (bst t.snd.fst x).snd).getD (Int.toNat (List.getD t.snd.fst (↑x : Int).toNat ((0 : Int), (0 : Int), ())).fst) (0 : Int))).set (↑x : Int).toNat (↑((((ints (bst t.snd.fst x).fst).set (↑x : Int).toNat ((ints (bst t.snd.fst x).snd).getD (Int.toNat (List.getD t.snd.fst (↑x : Int).toNat ((0 : Int), (0 : Int), ())).fst) (0 : Int))).getD (↑x : Int).toNat (0 : Int)).toNat ||| (↑((((ints (bst t.snd.fst x).fst).set (↑x : Int).toNat ((ints (bst t.snd.fst x).snd).getD (Int.toNat (List.getD t.snd.fst (↑x : Int).toNat ((0 : Int), (0 : Int), ())).fst) (0 : Int))).getD (Int.toNat (List.getD t.snd.fst (↑x : Int).toNat ((0 : Int), (0 : Int), ())).snd.fst) (0 : Int)).toNat ||| ((1 : Int) * (2 : Int) ^ Int.toNat (List.getD t.snd.fst (↑x : Int).toNat ((0 : Int), (0 : Int), ())).snd.fst).toNat) : Int).toNat) : Int)).length : Int) ∧ (0 : Int) ≤ (↑x : Int) ∧ (↑x : Int) < (64 : Int) ∧ IntKind.i64.bits = (64 : Nat) ∧ inK IntKind.i64 ((1 : Int) * (2 : Int) ^ (↑x : Int).toNat) ∧ (0 : Int) ≤ (((ints (bst t.snd.fst x).fst).set (↑x : Int).toNat ((ints (bst t.snd.fst x).snd).getD (Int.toNat (List.getD t.snd.fst (↑x : Int).toNat ((0 : Int), (0 : Int), ())).fst) (0 : Int))).set (↑x : Int).toNat (↑((((ints (bst t.snd.fst x).fst).set (↑x : Int).toNat ((ints (bst t.snd.fst x).snd).getD (Int.toNat (List.getD t.snd.fst (↑x : Int).toNat ((0 : Int), (0 : Int), ())).fst) (0 : Int))).getD (↑x : Int).toNat (0 : Int)).toNat ||| (↑((((ints (bst t.snd.fst x).fst).set (↑x : Int).toNat ((ints (bst t.snd.fst x).snd).getD (Int.toNat (List.getD t.snd.fst (↑x : Int).toNat ((0 : Int), (0 : Int), ())).fst) (0 : Int))).getD (Int.toNat (List.getD t.snd.fst (↑x : Int).toNat ((0 : Int), (0 : Int), ())).snd.fst) (0 : Int)).toNat ||| ((1 : Int) * (2 : Int) ^ Int.toNat (List.getD t.snd.fst (↑x : Int).toNat ((0 : Int), (0 : Int), ())).snd.fst).toNat) : Int).toNat) : Int)).getD (↑x : Int).toNat (0 : Int) ∧ (0 : Int) ≤ (1 : Int) * (2 : Int) ^ (↑x : Int).toNat ∧ (0 : Int) ≤ (List.getD t.snd.fst (↑x : Int).toNat ((0 : Int), (0 : Int), ())).fst ∧ (List.getD t.snd.fst (↑x : Int).toNat ((0 : Int), (0 : Int), ())).fst < (↑(5 : Nat) : Int) ∧ inK IntKind.i64 ((↑x : Int) + (1 : Int)) ∧ ∃ (x_1 : Nat), (x_1 ≤ t.snd.fst.length ∧ chk t = (0 : Int)) ∧ t.snd.fst.length - x_1 < t.snd.fst.length - x ∧ (t = t ∧ ([] : List Nat) = [] ∧ True ∧ (0 : Int) = (0 : Int) ∧ chk t = chk t ∧ True ∧ ([] : List Nat) = [] ∧ t = t ∧ chk t = chk t ∧ chk t = chk t ∧ (!decide (chk t = (0 : Int))) = !decide (chk t = (0 : Int)) ∧ [] ++ [(1 : Nat)] = [] ++ [(1 : Nat)] ∧ t.snd.fst = t.snd.fst ∧ (↑(List.length t.snd.fst) : Int) = (↑(List.length t.snd.fst) : Int) ∧ True ∧ [] ++ [(1 : Nat)] = [] ++ [(1 : Nat)] ∧ t.snd.fst = t.snd.fst ∧ (↑(List.length t.snd.fst) : Int) = (↑(List.length t.snd.fst) : Int) ∧ (↑x : Int) + (1 : Int) = (↑x_1 : Int) ∧ True) ∧ (((24 : Nat) = (24 : Nat) ∧ t = t) ∧ ((3 : Nat) = (3 : Nat) ∧ ((ints (bst t.snd.fst x).fst).set (↑x : Int).toNat ((ints (bst t.snd.fst x).snd).getD (Int.toNat (List.getD t.snd.fst (↑x : Int).toNat ((0 : Int), (0 : Int), ())).fst) (0 : Int))).set (↑x : Int).toNat (↑((((ints (bst t.snd.fst x).fst).set (↑x : Int).toNat ((ints (bst t.snd.fst x).snd).getD (Int.toNat (List.getD t.snd.fst (↑x : Int).toNat ((0 : Int), (0 : Int), ())).fst) (0 : Int))).getD (↑x : Int).toNat (0 : Int)).toNat ||| (↑((((ints (bst t.snd.fst x).fst).set (↑x : Int).toNat ((ints (bst t.snd.fst x).snd).getD (Int.toNat (List.getD t.snd.fst (↑x : Int).toNat ((0 : Int), (0 : Int), ())).fst) (0 : Int))).getD (Int.toNat (List.getD t.snd.fst (↑x : Int).toNat ((0 : Int), (0 : Int), ())).snd.fst) (0 : Int)).toNat ||| ((1 : Int) * (2 : Int) ^ Int.toNat (List.getD t.snd.fst (↑x : Int).toNat ((0 : Int), (0 : Int), ())).snd.fst).toNat) : Int).toNat) : Int) = ints (bst t.snd.fst x_1).fst) ∧ ((66 : Nat) = (66 : Nat) ∧ (ints (bst t.snd.fst x).snd).set (Int.toNat (List.getD t.snd.fst (↑x : Int).toNat ((0 : Int), (0 : Int), ())).fst) (↑(((((ints (bst t.snd.fst x).fst).set (↑x : Int).toNat ((ints (bst t.snd.fst x).snd).getD (Int.toNat (List.getD t.snd.fst (↑x : Int).toNat ((0 : Int), (0 : Int), ())).fst) (0 : Int))).set (↑x : Int).toNat (↑((((ints (bst t.snd.fst x).fst).set (↑x : Int).toNat ((ints (bst t.snd.fst x).snd).getD (Int.toNat (List.getD t.snd.fst (↑x : Int).toNat ((0 : Int), (0 : Int), ())).fst) (0 : Int))).getD (↑x : Int).toNat (0 : Int)).toNat ||| (↑((((ints (bst t.snd.fst x).fst).set (↑x : Int).toNat ((ints (bst t.snd.fst x).snd).getD (Int.toNat (List.getD t.snd.fst (↑x : Int).toNat ((0 : Int), (0 : Int), ())).fst) (0 : Int))).getD (Int.toNat (List.getD t.snd.fst (↑x : Int).toNat ((0 : Int), (0 : Int), ())).snd.fst) (0 : Int)).toNat ||| ((1 : Int) * (2 : Int) ^ Int.toNat (List.getD t.snd.fst (↑x : Int).toNat ((0 : Int), (0 : Int), ())).snd.fst).toNat) : Int).toNat) : Int)).getD (↑x : Int).toNat (0 : Int)).toNat ||| ((1 : Int) * (2 : Int) ^ (↑x : Int).toNat).toNat) : Int) = ints (bst t.snd.fst x_1).snd) ∧ True) ∧ True) ∧ (decide ((0 : Int) ≤ (List.getD t.snd.fst (↑x : Int).toNat ((0 : Int), (0 : Int), ())).snd.fst) = false → (0 : Int) ≤ (↑x : Int) ∧ (↑x : Int) < (↑((ints (bst t.snd.fst x).fst).set (↑x : Int).toNat ((ints (bst t.snd.fst x).snd).getD (Int.toNat (List.getD t.snd.fst (↑x : Int).toNat ((0 : Int), (0 : Int), ())).fst) (0 : Int))).length : Int) ∧ (0 : Int) ≤ (↑x : Int) ∧ (↑x : Int) < (64 : Int) ∧ IntKind.i64.bits = (64 : Nat) ∧ inK IntKind.i64 ((1 : Int) * (2 : Int) ^ (↑x : Int).toNat) ∧ (0 : Int) ≤ ((ints (bst t.snd.fst x).fst).set (↑x : Int).toNat ((ints (bst t.snd.fst x).snd).getD (Int.toNat (List.getD t.snd.fst (↑x : Int).toNat ((0 : Int), (0 : Int), ())).fst) (0 : Int))).getD (↑x : Int).toNat (0 : Int) ∧ (0 : Int) ≤ (1 : Int) * (2 : Int) ^ (↑x : Int).toNat ∧ (0 : Int) ≤ (List.getD t.snd.fst (↑x : Int).toNat ((0 : Int), (0 : Int), ())).fst ∧ (List.getD t.snd.fst (↑x : Int).toNat ((0 : Int), (0 : Int), ())).fst < (↑(5 : Nat) : Int) ∧ inK IntKind.i64 ((↑x : Int) + (1 : Int)) ∧ ∃ (x_1 : Nat), (x_1 ≤ t.snd.fst.length ∧ chk t = (0 : Int)) ∧ t.snd.fst.length - x_1 < t.snd.fst.length - x ∧ (t = t ∧ ([] : List Nat) = [] ∧ True ∧ (0 : Int) = (0 : Int) ∧ chk t = chk t ∧ True ∧ ([] : List Nat) = [] ∧ t = t ∧ chk t = chk t ∧ chk t = chk t ∧ (!decide (chk t = (0 : Int))) = !decide (chk t = (0 : Int)) ∧ [] ++ [(1 : Nat)] = [] ++ [(1 : Nat)] ∧ t.snd.fst = t.snd.fst ∧ (↑(List.length t.snd.fst) : Int) = (↑(List.length t.snd.fst) : Int) ∧ True ∧ [] ++ [(1 : Nat)] = [] ++ [(1 : Nat)] ∧ t.snd.fst = t.snd.fst ∧ (↑(List.length t.snd.fst) : Int) = (↑(List.length t.snd.fst) : Int) ∧ (↑x : Int) + (1 : Int) = (↑x_1 : Int) ∧ True) ∧ (((24 : Nat) = (24 : Nat) ∧ t = t) ∧ ((3 : Nat) = (3 : Nat) ∧ (ints (bst t.snd.fst x).fst).set (↑x : Int).toNat ((ints (bst t.snd.fst x).snd).getD (Int.toNat (List.getD t.snd.fst (↑x : Int).toNat ((0 : Int), (0 : Int), ())).fst) (0 : Int)) = ints (bst t.snd.fst x_1).fst) ∧ ((66 : Nat) = (66 : Nat) ∧ (ints (bst t.snd.fst x).snd).set (Int.toNat (List.getD t.snd.fst (↑x : Int).toNat ((0 : Int), (0 : Int), ())).fst) (↑((((ints (bst t.snd.fst x).fst).set (↑x : Int).toNat ((ints (bst t.snd.fst x).snd).getD (Int.toNat (List.getD t.snd.fst (↑x : Int).toNat ((0 : Int), (0 : Int), ())).fst) (0 : Int))).getD (↑x : Int).toNat (0 : Int)).toNat ||| ((1 : Int) * (2 : Int) ^ (↑x : Int).toNat).toNat) : Int) = ints (bst t.snd.fst x_1).snd) ∧ True) ∧ True)) ∧ (decide ((↑x : Int) < (↑(List.length t.snd.fst) : Int)) = false → k [Dat.mk (I).sl (ints (bst t.snd.fst x).fst), Dat.mk (Ty.err (63 : Nat)) (0 : Int)]))) := by kernel_rfl
end Go.Proofs.YtgbpjjinhjikeaaDoor

/- Traces: Before keeps its contract. -/
namespace Go.Proofs.YtgbpjjinhjikeaaDoor
open Go.Vc

theorem ints_getD (l : List Nat) (j : Nat) : (ints l).getD j (0 : Int) = ((l.getD j 0 : Nat) : Int) := by
  simp only [ints, List.getD_eq_getElem?_getD, List.getElem?_map]
  cases l[j]? <;> rfl
theorem ints_set (l : List Nat) (j n : Nat) : (ints l).set j (n : Int) = ints (l.set j n) := by simp [ints, List.map_set]
theorem ints_len (l : List Nat) : (ints l).length = l.length := by simp [ints]
theorem ints_rep (n : Nat) : List.replicate n (0 : Int) = ints (List.replicate n 0) := by simp [ints]
theorem one_shl (n : Nat) : (1 : Int) * (2 : Int) ^ n = ((2 ^ n : Nat) : Int) := by rw [Int.one_mul, Int.natCast_pow]; rfl

/-- A trace with which nothing is wrong. -/
structure Good (t : Tr) : Prop where
  procs : 1 ≤ t.1 ∧ t.1 ≤ 5
  len : t.2.1.length ≤ 24
  ev : ∀ i, i < t.2.1.length → 0 ≤ (t.2.1.getD i (0, 0, ())).1 ∧ (t.2.1.getD i (0, 0, ())).1 ≤ t.1 - 1 ∧ -1 ≤ (t.2.1.getD i (0, 0, ())).2.1 ∧ (t.2.1.getD i (0, 0, ())).2.1 ≤ (i : Int) - 1 ∧
    (0 ≤ (t.2.1.getD i (0, 0, ())).2.1 → (t.2.1.getD (t.2.1.getD i (0, 0, ())).2.1.toNat (0, 0, ())).1 ≠ (t.2.1.getD i (0, 0, ())).1)

theorem evsErr_zero {p : Int} {l : List Ev} : ∀ {f i : Nat}, evsErr p l f i = 0 → ∀ j, i ≤ j → j < i + f → evErr p l j = 0 := by
  intro f
  induction f with
  | zero => intro i _ j h1 h2; omega
  | succ f ih =>
    intro i h j h1 h2
    unfold evsErr at h
    split at h
    · rename_i h0
      by_cases hj : j = i
      · rw [hj]; exact h0
      · exact ih h j (by omega) (by omega)
    · rename_i h0; exact absurd h h0

theorem good_of {t : Tr} (h : chk t = 0) : Good t := by
  unfold chk at h
  split at h
  · cases h
  · rename_i h1
    split at h
    · cases h
    · rename_i h2
      have hp : 1 ≤ t.1 ∧ t.1 ≤ 5 := by simpa [inB] using h1
      refine ⟨hp, by omega, fun i hi => ?_⟩
      have he := evsErr_zero h i (Nat.zero_le _) (by omega)
      unfold evErr at he
      split at he
      · cases he
      · rename_i h3
        split at he
        · cases he
        · rename_i h4
          have h3' : (0 ≤ (t.2.1.getD i (0, 0, ())).1 ∧ (t.2.1.getD i (0, 0, ())).1 ≤ t.1 - 1) ∧ -1 ≤ (t.2.1.getD i (0, 0, ())).2.1 ∧ (t.2.1.getD i (0, 0, ())).2.1 ≤ (i : Int) - 1 := by
            simpa only [inB, Bool.not_eq_false, Bool.and_eq_true, decide_eq_true_eq] using h3
          exact ⟨h3'.1.1, h3'.1.2, h3'.2.1, h3'.2.2, fun h0 hc => h4 ⟨h0, hc⟩⟩

theorem bst_len (l : List Ev) : ∀ i, (bst l i).1.length = l.length ∧ (bst l i).2.length = 5
  | 0 => by simp [bst]
  | i + 1 => by
    have := bst_len l i
    simp [bst, this.1, this.2]

theorem getD_set_self {l : List Nat} {i n : Nat} (h : i < l.length) : (l.set i n).getD i 0 = n := by
  simp [List.getD_eq_getElem?_getD, h]
theorem getD_set_ne {l : List Nat} {i j n : Nat} (h : i ≠ j) : (l.set i n).getD j 0 = l.getD j 0 := by
  simp [List.getD_eq_getElem?_getD, List.getElem?_set_ne h]

theorem before_vc (t : Tr) (k : List Dat → Prop) (hk : k [⟨.sl I, bef t⟩, ⟨tErr, chk t⟩]) : vcF ⟨Et, [(10, cCheck)], [], [], []⟩ (anBefore t) (Tryd.f13.body.getD .skip) Tryd.f13.ntmps [(.tmp 2, .sl I), (.tmp 3, tErr)] [⟨tTr, t⟩] k := by
  rw [vcBefore]
  simp only [decide_eq_true_eq, decide_eq_false_iff_not, and_true, true_and, Bool.not_eq_true', Bool.not_eq_false', Int.toNat_natCast, one_shl, ints_rep, ints_getD, ints_set, ints_len, List.length_set]
  refine ⟨fun h => ?_, fun h => ?_⟩
  · have : bef t = [] := by unfold bef; rw [if_neg h]
    rw [← this]; exact hk
  · have g := good_of h
    have hl := g.len
    have hshl : ∀ j : Nat, j ≤ 61 → inK .i64 ((2 ^ j : Nat) : Int) := by
      intro j hj
      have h1 := two_pow_le (n := j) (by omega)
      have h2 := two_pow_pos j
      have e : ((2 ^ j : Nat) : Int) = (2 : Int) ^ j := by rw [Int.natCast_pow]; rfl
      rw [e, inK_i64]
      omega
    have hN : ∀ n : Nat, (0 : Int) ≤ (n : Int) := fun n => Int.natCast_nonneg n
    have hb0 : befN t = (bst t.2.1 t.2.1.length).1 := rfl
    refine ⟨by omega, Int.le_refl _, by omega, ⟨0, ⟨by omega, h⟩, rfl, rfl, rfl⟩, fun x ⟨hx, _⟩ => ⟨fun hlt => ?_, fun hge => ?_⟩⟩
    · obtain ⟨b1, b2⟩ := bst_len t.2.1 x
      obtain ⟨p0, p1, f0, f1, _⟩ := g.ev x (by omega)
      have hpr := g.procs
      have h5 : ((5 : Nat) : Int) = 5 := rfl
      refine ⟨hN _, hlt, p0, by omega, hN _, by omega, fun h0 => ?_, fun h0 => ?_⟩
      · have hfl : (t.2.1.getD x (0, 0, ())).2.1.toNat < x := by omega
        refine ⟨hN _, by omega, h0, by omega, h0, by omega, rfl, hshl _ (by omega), hN _, hN _, hN _, hN _, hN _, by omega, hN _, by omega, hN _, by omega, rfl, hshl _ (by omega), hN _, hN _, p0, by omega, inK_i64.2 (by omega), x + 1, ⟨by omega, h⟩, by omega, by omega, ?_, ?_⟩
        · rw [List.set_set, getD_set_self (by omega), getD_set_ne (by omega)]
          simp only [bst, if_pos h0]
        · rw [getD_set_self (by rw [List.length_set]; omega), getD_set_self (by omega), getD_set_ne (by omega)]
          simp only [bst, if_pos h0]
      · refine ⟨hN _, by omega, hN _, by omega, rfl, hshl _ (by omega), hN _, hN _, p0, by omega, inK_i64.2 (by omega), x + 1, ⟨by omega, h⟩, by omega, by omega, ?_, ?_⟩
        · simp only [bst, if_neg h0]
        · rw [getD_set_self (by omega)]
          simp only [bst, if_neg h0]
    · have : x = t.2.1.length := by omega
      rw [this]
      have e : bef t = ints (bst t.2.1 t.2.1.length).1 := by unfold bef; rw [if_pos h, hb0]
      rw [← e]
      rw [h] at hk
      exact hk

theorem okBefore : PlainOk Tryd.prog [] 13 cBefore := by
  refine plain_of (CxOk.mk' Et_ok rfl mixed (gl := []) (GOk.cons okCheck Tryd.func10 (by kernel_rfl) (by kernel_rfl) GOk.nil) GoOk.nil noIt) Tryd.func13 (c := Tryd.f13.body.getD .skip) (rvs := [(.tmp 2, .sl I), (.tmp 3, tErr)]) (by kernel_rfl) (by kernel_rfl) (by kernel_rfl) ?_
  intro ds k ⟨hp, hk⟩ hwf
  obtain ⟨t, rfl, -⟩ := dest1 hp
  exact ⟨anBefore t, before_vc t k hk⟩
end Go.Proofs.YtgbpjjinhjikeaaDoor

/- Traces: the small trace that the laws try first. -/
namespace Go.Proofs.YtgbpjjinhjikeaaDoor
open Go.Vc
def talkT : Tr := (2, [(0, -1, ()), (1, 0, ()), (0, -1, ())], ())
def cTalk : Ctr := cdet [] True [⟨tTr, talkT⟩]
def cInts : Ctr := cdet [.sl I, .sl I] (fun _ _ => True) (fun (a b : List Int) => [⟨.bool, a == b⟩])
def cFact : Ctr := cdet [] True [⟨.bool, true⟩]
def anInts (a b : List Int) : Ann := an1 Nat 4 (fun st i => St.at st [(5, .d I (i : Int))]) (fun i => i ≤ a.length ∧ a.take i = b.take i) (fun i => a.length - i)
end Go.Proofs.YtgbpjjinhjikeaaDoor

/- What the functions of this seat have to satisfy, by program: each verification condition in plain words. -/
namespace Go.Proofs.YtgbpjjinhjikeaaDoor
open Go.Vc
set_option linter.unusedVariables false
theorem vcTalk (k : List Dat → Prop) : vcF ⟨Et, [], [], [], []⟩ [] (Tryd.f38.body.getD .skip) Tryd.f38.ntmps [(.cell 0 24, tTr)] [] k = (
  k [Dat.mk (tTr) ((2 : Int), (((List.replicate (3 : Nat) ((0 : Int), (0 : Int), ())).set (0 : Nat) ((0 : Int), (-1 : Int), ())).set (1 : Nat) ((1 : Int), (0 : Int), ())).set (2 : Nat) ((0 : Int), (-1 : Int), ()), ())]) := by kernel_rfl
theorem vcInts (a b : List Int) (k : List Dat → Prop) : vcF ⟨Et, [], [], [], []⟩ (anInts a b) (Tryd.f14.body.getD .skip) Tryd.f14.ntmps [(.tmp 4, .bool)] [⟨.sl I, a⟩, ⟨.sl I, b⟩] k = (
  ((!decide ((↑a.length : Int) = (↑b.length : Int))) = true → k [Dat.mk Ty.bool false]) ∧ ((!decide ((↑a.length : Int) = (↑b.length : Int))) = false → (∃ (x : Nat), (x ≤ a.length ∧ List.take x a = List.take x b) ∧ (a = a ∧ b = b ∧ false = false ∧ (0 : Int) = (↑x : Int) ∧ a = a ∧ (↑a.length : Int) = (↑a.length : Int) ∧ b = b ∧ (↑b.length : Int) = (↑b.length : Int) ∧ (!decide ((↑a.length : Int) = (↑b.length : Int))) = !decide ((↑a.length : Int) = (↑b.length : Int)) ∧ True) ∧ True ∧ True) ∧ ∀ (x : Nat), x ≤ a.length ∧ List.take x a = List.take x b → (decide ((↑x : Int) < (↑a.length : Int)) = true → (0 : Int) ≤ (↑x : Int) ∧ (↑x : Int) < (↑a.length : Int) ∧ (0 : Int) ≤ (↑x : Int) ∧ (↑x : Int) < (↑b.length : Int) ∧ ((!decide (a.getD (↑x : Int).toNat (0 : Int) = b.getD (↑x : Int).toNat (0 : Int))) = true → k [Dat.mk Ty.bool false]) ∧ ((!decide (a.getD (↑x : Int).toNat (0 : Int) = b.getD (↑x : Int).toNat (0 : Int))) = false → inK IntKind.i64 ((↑x : Int) + (1 : Int)) ∧ ∃ (x_1 : Nat), (x_1 ≤ a.length ∧ List.take x_1 a = List.take x_1 b) ∧ a.length - x_1 < a.length - x ∧ (a = a ∧ b = b ∧ false = false ∧ (↑x : Int) + (1 : Int) = (↑x_1 : Int) ∧ a = a ∧ (↑a.length : Int) = (↑a.length : Int) ∧ b = b ∧ (↑b.length : Int) = (↑b.length : Int) ∧ (!decide ((↑a.length : Int) = (↑b.length : Int))) = !decide ((↑a.length : Int) = (↑b.length : Int)) ∧ True) ∧ True ∧ True)) ∧ (decide ((↑x : Int) < (↑a.length : Int)) = false → k [Dat.mk Ty.bool true]))) := by kernel_rfl
end Go.Proofs.YtgbpjjinhjikeaaDoor

/- Traces: the small trace that the laws try first. -/
namespace Go.Proofs.YtgbpjjinhjikeaaDoor
open Go.Vc

theorem okTalk : PlainOk Tryd.prog [] 38 cTalk := by
  refine plain_of (CxOk.mk' Et_ok rfl mixed (gl := []) GOk.nil GoOk.nil noIt) Tryd.func38 (c := Tryd.f38.body.getD .skip) (rvs := [(.cell 0 24, tTr)]) (by kernel_rfl) (by kernel_rfl) (by kernel_rfl) ?_
  intro ds k ⟨hp, hk⟩ hwf
  obtain ⟨rfl, -⟩ := dest0 hp
  refine ⟨[], ?_⟩
  rw [vcTalk]
  exact hk

theorem ints_vc (a b : List Int) (k : List Dat → Prop) (hl : a.length ≤ maxLen) (hk : k [⟨.bool, a == b⟩]) : vcF ⟨Et, [], [], [], []⟩ (anInts a b) (Tryd.f14.body.getD .skip) Tryd.f14.ntmps [(.tmp 4, .bool)] [⟨.sl I, a⟩, ⟨.sl I, b⟩] k := by
  rw [vcInts]
  have hml : maxLen ≤ 9223372036854775807 := by decide
  simp only [decide_eq_true_eq, decide_eq_false_iff_not, and_true, true_and, Bool.not_eq_true', Bool.not_eq_false', Int.toNat_natCast, inK_i64]
  have ret : ∀ x : Bool, (a == b) = x → k [⟨.bool, x⟩] := by rintro _ rfl; exact hk
  refine ⟨fun h => ret _ ?_, fun h => ⟨⟨0, ⟨by omega, rfl⟩, rfl⟩, fun x ⟨hx, ht⟩ => ⟨fun hlt => ⟨by omega, hlt, by omega, by omega, fun hne => ret _ ?_, fun he => ⟨by omega, x + 1, ⟨by omega, ?_⟩, by omega, by omega⟩⟩, fun hge => ret _ ?_⟩⟩⟩
  · simp only [beq_eq_false_iff_ne, ne_eq]; intro he; exact h (by rw [he])
  · simp only [beq_eq_false_iff_ne, ne_eq]; intro h; exact hne (by rw [h])
  · have h1 : x < a.length := by omega
    have h2 : x < b.length := by omega
    rw [List.take_add_one, List.take_add_one, ht]
    rw [List.getD_eq_getElem?_getD, List.getD_eq_getElem?_getD, List.getElem?_eq_getElem h1, List.getElem?_eq_getElem h2] at he
    rw [List.getElem?_eq_getElem h1, List.getElem?_eq_getElem h2]
    simp only [Option.getD_some] at he
    rw [he]
  · have h1 : x = a.length := by omega
    rw [h1, List.take_length, List.take_of_length_le (by omega)] at ht
    simp [ht]

theorem okInts : PlainOk Tryd.prog [] 14 cInts := by
  refine plain_of (CxOk.mk' Et_ok rfl mixed (gl := []) GOk.nil GoOk.nil noIt) Tryd.func14 (c := Tryd.f14.body.getD .skip) (rvs := [(.tmp 4, .bool)]) (by kernel_rfl) (by kernel_rfl) (by kernel_rfl) ?_
  intro ds k ⟨hp, hk⟩ hwf
  obtain ⟨a, b, rfl, -⟩ := dest2 hp
  exact ⟨anInts a b, ints_vc a b k (wf2 hwf).1.1 hk⟩

end Go.Proofs.YtgbpjjinhjikeaaDoor

/- Clocks that count and look at the time: what the functions answer. -/
namespace Go.Proofs.YtgbpjjinhjikeaaDoor
open Go.Vc
abbrev tSt : Ty := .pr I (.pr I .un)
abbrev Stp := Int × Int × Unit
def Eh : Env := { tys := [(3, .int .i64), (4, .bool), (5, .int .u8), (9, .str), (22, .sl (.pr I (.pr I .un))), (24, .pr I (.pr (.sl (.pr I (.pr I .un))) .un)), (30, .sl I), (28, .err 63), (62, .pr I (.pr I .un)), (45, .sl (.pr I (.pr I .un))), (42, .pr I (.pr I .un)), (66, .ar 5 I), (75, .ar 5 (.pr I (.pr I .un)))], errT := 63, eqs := [42], els := [(22, 62), (30, 3), (45, 42)] }
theorem Eh_ok : EnvOk Tryd.prog Eh := EnvOk.of_list (by kernel_rfl) (by kernel_rfl) (by kernel_rfl)
def timeB (n : Int) : Bool := inB n 0 1000000
/-- what is wrong with a trace and its times -/
def hchk (t : Tr) (ts : List Int) : Int := if chk t = 0 then (if ts.length = t.2.1.length then (if ts.all timeB then 0 else 1) else 3) else chk t
def cHChk : Ctr := cdet [tTr, .sl I] (fun _ _ => True) (fun t ts => [⟨tErr, hchk t ts⟩])
def small (n : Int) : Prop := 0 ≤ n ∧ n ≤ 1000
def nextS (a b : Stp) (now : Int) : Stp :=
  (max (max a.1 b.1) now,
   if max (max a.1 b.1) now = b.1 then max (if max (max a.1 b.1) now = a.1 then a.2.1 + 1 else 0) (b.2.1 + 1) else if max (max a.1 b.1) now = a.1 then a.2.1 + 1 else 0, ())
def cNext : Ctr := cdet [tSt, tSt, I] (fun (a b : Stp) _ => small a.2.1 ∧ small b.2.1 ∧ True) (fun a b (n : Int) => [⟨tSt, nextS a b n⟩])
def noS : Stp := (-1, 0, ())
def sst (l : List Ev) (ts : List Int) : Nat → List Stp × List Stp
  | 0 => ([], List.replicate 5 noS)
  | i + 1 =>
    ((sst l ts i).1 ++ [nextS ((sst l ts i).2.getD (l.getD i (0, 0, ())).1.toNat (0, 0, ())) (if 0 ≤ (l.getD i (0, 0, ())).2.1 then (sst l ts i).1.getD (l.getD i (0, 0, ())).2.1.toNat (0, 0, ()) else noS) (ts.getD i 0)],
     (sst l ts i).2.set (l.getD i (0, 0, ())).1.toNat (nextS ((sst l ts i).2.getD (l.getD i (0, 0, ())).1.toNat (0, 0, ())) (if 0 ≤ (l.getD i (0, 0, ())).2.1 then (sst l ts i).1.getD (l.getD i (0, 0, ())).2.1.toNat (0, 0, ()) else noS) (ts.getD i 0)))
def stamps (t : Tr) (ts : List Int) : List Stp := if hchk t ts = 0 then (sst t.2.1 ts t.2.1.length).1 else []
def cStamps : Ctr := cdet [tTr, .sl I] (fun _ _ => True) (fun t ts => [⟨.sl tSt, stamps t ts⟩, ⟨tErr, hchk t ts⟩])
def cSame : Ctr := cdet [.sl tSt, .sl tSt] (fun _ _ => True) (fun (a b : List Stp) => [⟨.bool, decide (a = b)⟩])
def cHFact : Ctr := cdet [] True [⟨.bool, true⟩]
-- the loops
def anHChk (t : Tr) (ts : List Int) : Ann := an1 Nat 7 (fun st i => St.at st [(22, .d I (i : Int)), (7, .any)]) (fun i => i ≤ ts.length ∧ (ts.take i).all timeB = true) (fun i => ts.length - i)
def anStamps (t : Tr) (ts : List Int) : Ann :=
  [loopAt 6 Nat [] (fun st i => { St.at st [(19, .d I (i : Int)), (8, .any)] with ob := st.ob.set 1 (.var 75 (.ar 5 tSt) (List.replicate i noS ++ List.replicate (5 - i) (0, 0, ()))) }) (fun _ i => i ≤ 5 ∧ True) (fun i => 5 - i),
   loopAt 12 Nat [(9, 42, tSt)] (fun st i => { St.at st [(29, .d I (i : Int)), (10, .any), (11, .any), (12, .any)] with ob := (st.ob.set 1 (.var 75 (.ar 5 tSt) (sst t.2.1 ts i).2)).set 2 (.row 42 tSt (sst t.2.1 ts i).1) }) (fun _ i => i ≤ t.2.1.length ∧ True) (fun i => t.2.1.length - i)]
def anSame (a b : List Stp) : Ann := an1 Nat 4 (fun st i => St.at st [(5, .d I (i : Int))]) (fun i => i ≤ a.length ∧ a.take i = b.take i) (fun i => a.length - i)
def lateL (ts : List Int) (by_ : Int) (i : Nat) : List Int := (ts.take i).map fun n => n + by_
def anLate (t : Tr) (ts : List Int) (by_ : Int) : Ann :=
  [joinAll, freezeAt 14 [10],
   loopAt 11 Nat [(10, 3, I)] (fun st i => { St.at (St.only st [0, 1, 2, 3, 6, 8, 10]) [(11, .d I (i : Int))] with ob := st.ob.set 1 (.row 3 I (lateL ts by_ i)) }) (fun _ i => i ≤ ts.length ∧ True) (fun i => ts.length - i),
   loopAt 17 Nat [] (fun st i => St.at (St.only st [0, 1, 2, 3, 6, 8, 10, 12]) [(14, .d I (i : Int))]) (fun _ i => i ≤ ts.length ∧ ∀ j, j < i → ts.getD j 0 + by_ ≤ 1000000) (fun i => ts.length - i),
   loopAt 25 Nat [] (fun st i => St.at (St.only st [0, 1, 2, 3, 6, 8, 10, 12]) [(15, .d I (i : Int))]) (fun _ i => i ≤ t.2.1.length ∧ True) (fun i => t.2.1.length - i)]
end Go.Proofs.YtgbpjjinhjikeaaDoor

/- What the functions of this seat have to satisfy, by program: each verification condition in plain words. -/
namespace Go.Proofs.YtgbpjjinhjikeaaDoor
open Go.Vc
set_option linter.unusedVariables false
theorem vcHChk (t : Tr) (ts : List Int) (k : List Dat → Prop) : vcF ⟨Eh, [(10, cCheck), (32, cWithin)], [], [], []⟩ (anHChk t ts) (Tryd.f19.body.getD .skip) Tryd.f19.ntmps [(.tmp 4, tErr)] [⟨tTr, t⟩, ⟨.sl I, ts⟩] k = (
  True ∧ ((!decide (chk t = (0 : Int))) = true → k [Dat.mk (Ty.err (63 : Nat)) (chk t)]) ∧ ((!decide (chk t = (0 : Int))) = false → ((!decide ((↑ts.length : Int) = (↑(List.length t.snd.fst) : Int))) = true → (3 : Int) ≠ (0 : Int) ∧ k [Dat.mk (Ty.err (63 : Nat)) (3 : Int)]) ∧ ((!decide ((↑ts.length : Int) = (↑(List.length t.snd.fst) : Int))) = false → (∃ (x : Nat), (x ≤ ts.length ∧ (List.take x ts).all timeB = true) ∧ (t = t ∧ ts = ts ∧ ([] : List Nat) = [] ∧ (0 : Int) = (0 : Int) ∧ chk t = chk t ∧ t = t ∧ chk t = chk t ∧ chk t = chk t ∧ (!decide (chk t = (0 : Int))) = !decide (chk t = (0 : Int)) ∧ ts = ts ∧ (↑ts.length : Int) = (↑ts.length : Int) ∧ [] ++ [(1 : Nat)] = [] ++ [(1 : Nat)] ∧ t.snd.fst = t.snd.fst ∧ (↑(List.length t.snd.fst) : Int) = (↑(List.length t.snd.fst) : Int) ∧ (!decide ((↑ts.length : Int) = (↑(List.length t.snd.fst) : Int))) = !decide ((↑ts.length : Int) = (↑(List.length t.snd.fst) : Int)) ∧ ts = ts ∧ (↑ts.length : Int) = (↑ts.length : Int) ∧ (0 : Int) = (↑x : Int) ∧ True) ∧ (((24 : Nat) = (24 : Nat) ∧ t = t) ∧ True) ∧ True) ∧ ∀ (x : Nat), x ≤ ts.length ∧ (List.take x ts).all timeB = true → (decide ((↑x : Int) < (↑ts.length : Int)) = true → (0 : Int) ≤ (↑x : Int) ∧ (↑x : Int) < (↑ts.length : Int) ∧ True ∧ ((!inB (ts.getD (↑x : Int).toNat (0 : Int)) (0 : Int) (1000000 : Int)) = true → (1 : Int) ≠ (0 : Int) ∧ k [Dat.mk (Ty.err (63 : Nat)) (1 : Int)]) ∧ ((!inB (ts.getD (↑x : Int).toNat (0 : Int)) (0 : Int) (1000000 : Int)) = false → inK IntKind.i64 ((↑x : Int) + (1 : Int)) ∧ ∃ (x_1 : Nat), (x_1 ≤ ts.length ∧ (List.take x_1 ts).all timeB = true) ∧ ts.length - x_1 < ts.length - x ∧ (t = t ∧ ts = ts ∧ ([] : List Nat) = [] ∧ (0 : Int) = (0 : Int) ∧ chk t = chk t ∧ t = t ∧ chk t = chk t ∧ chk t = chk t ∧ (!decide (chk t = (0 : Int))) = !decide (chk t = (0 : Int)) ∧ ts = ts ∧ (↑ts.length : Int) = (↑ts.length : Int) ∧ [] ++ [(1 : Nat)] = [] ++ [(1 : Nat)] ∧ t.snd.fst = t.snd.fst ∧ (↑(List.length t.snd.fst) : Int) = (↑(List.length t.snd.fst) : Int) ∧ (!decide ((↑ts.length : Int) = (↑(List.length t.snd.fst) : Int))) = !decide ((↑ts.length : Int) = (↑(List.length t.snd.fst) : Int)) ∧ ts = ts ∧ (↑ts.length : Int) = (↑ts.length : Int) ∧ (↑x : Int) + (1 : Int) = (↑x_1 : Int) ∧ True) ∧ (((24 : Nat) = (24 : Nat) ∧ t = t) ∧ True) ∧ True)) ∧ (decide ((↑x : Int) < (↑ts.length : Int)) = false → k [Dat.mk (Ty.err (63 : Nat)) (0 : Int)])))) := by kernel_rfl
theorem vcNext (a b : Stp) (n : Int) (k : List Dat → Prop) : vcF ⟨Eh, [], [], [], []⟩ [] (Tryd.f37.body.getD .skip) Tryd.f37.ntmps [(.cell 6 42, tSt)] [⟨tSt, a⟩, ⟨tSt, b⟩, ⟨I, n⟩] k = (
  (decide (max (max a.fst b.fst) n = a.fst) = true → inK IntKind.i64 (a.snd.fst + (1 : Int)) ∧ (decide (max (max a.fst b.fst) n = b.fst) = true → inK IntKind.i64 (b.snd.fst + (1 : Int)) ∧ k [Dat.mk (tEv) (max (max a.fst b.fst) n, max (a.snd.fst + (1 : Int)) (b.snd.fst + (1 : Int)), ())]) ∧ (decide (max (max a.fst b.fst) n = b.fst) = false → k [Dat.mk (tEv) (max (max a.fst b.fst) n, a.snd.fst + (1 : Int), ())])) ∧ (decide (max (max a.fst b.fst) n = a.fst) = false → (decide (max (max a.fst b.fst) n = b.fst) = true → inK IntKind.i64 (b.snd.fst + (1 : Int)) ∧ k [Dat.mk (tEv) (max (max a.fst b.fst) n, max (0 : Int) (b.snd.fst + (1 : Int)), ())]) ∧ (decide (max (max a.fst b.fst) n = b.fst) = false → k [Dat.mk (tEv) (max (max a.fst b.fst) n, (0 : Int), ())]))) := by kernel_rfl
theorem vcStamps (t : Tr) (ts : List Int) (k : List Dat → Prop) : vcF ⟨Eh, [(19, cHChk), (37, cNext)], [], [], []⟩ (anStamps t ts) (Tryd.f21.body.getD .skip) Tryd.f21.ntmps [(.tmp 4, .sl tSt), (.tmp 5, tErr)] [⟨tTr, t⟩, ⟨.sl I, ts⟩] k = (
  True ∧ ((!decide (hchk t ts = (0 : Int))) = true → k [Dat.mk (tEv).sl [], Dat.mk (Ty.err (63 : Nat)) (hchk t ts)]) ∧ ((!decide (hchk t ts = (0 : Int))) = false → (∃ (x : Nat), (x ≤ (5 : Nat) ∧ True) ∧ (t = t ∧ ts = ts ∧ ([] : List Nat) = [] ∧ True ∧ (0 : Int) = (0 : Int) ∧ hchk t ts = hchk t ts ∧ ([] : List Nat) = [] ∧ t = t ∧ ts = ts ∧ hchk t ts = hchk t ts ∧ hchk t ts = hchk t ts ∧ (!decide (hchk t ts = (0 : Int))) = !decide (hchk t ts = (0 : Int)) ∧ (0 : Int) = (↑x : Int) ∧ True) ∧ (((24 : Nat) = (24 : Nat) ∧ t = t) ∧ ((75 : Nat) = (75 : Nat) ∧ List.replicate (5 : Nat) ((0 : Int), (0 : Int), ()) = List.replicate x noS ++ List.replicate ((5 : Nat) - x) ((0 : Int), (0 : Int), ())) ∧ True) ∧ True) ∧ ∀ (x : Nat), x ≤ (5 : Nat) ∧ True → (decide ((↑x : Int) < (5 : Int)) = true → (0 : Int) ≤ (↑x : Int) ∧ (↑x : Int) < (↑(5 : Nat) : Int) ∧ inK IntKind.i64 ((↑x : Int) + (1 : Int)) ∧ ∃ (x_1 : Nat), (x_1 ≤ (5 : Nat) ∧ True) ∧ (5 : Nat) - x_1 < (5 : Nat) - x ∧ (t = t ∧ ts = ts ∧ ([] : List Nat) = [] ∧ True ∧ (0 : Int) = (0 : Int) ∧ hchk t ts = hchk t ts ∧ ([] : List Nat) = [] ∧ t = t ∧ ts = ts ∧ hchk t ts = hchk t ts ∧ hchk t ts = hchk t ts ∧ (!decide (hchk t ts = (0 : Int))) = !decide (hchk t ts = (0 : Int)) ∧ (↑x : Int) + (1 : Int) = (↑x_1 : Int) ∧ True) ∧ (((24 : Nat) = (24 : Nat) ∧ t = t) ∧ ((75 : Nat) = (75 : Nat) ∧ (List.replicate x noS ++ List.replicate ((5 : Nat) - x) ((0 : Int), (0 : Int), ())).set (↑x : Int).toNat ((-1 : Int), (0 : Int), ()) = List.replicate x_1 noS ++ List.replicate ((5 : Nat) - x_1) ((0 : Int), (0 : Int), ())) ∧ True) ∧ True) ∧ (decide ((↑x : Int) < (5 : Int)) = false → (∃ (x_1 : Nat), (x_1 ≤ t.snd.fst.length ∧ True) ∧ (t = t ∧ ts = ts ∧ ([] : List Nat) = [] ∧ True ∧ (0 : Int) = (0 : Int) ∧ hchk t ts = hchk t ts ∧ ([] : List Nat) = [] ∧ True ∧ t = t ∧ ts = ts ∧ hchk t ts = hchk t ts ∧ hchk t ts = hchk t ts ∧ (!decide (hchk t ts = (0 : Int))) = !decide (hchk t ts = (0 : Int)) ∧ (↑x : Int) = (↑x : Int) ∧ decide ((↑x : Int) < (5 : Int)) = decide ((↑x : Int) < (5 : Int)) ∧ [] ++ [(1 : Nat)] = [] ++ [(1 : Nat)] ∧ t.snd.fst = t.snd.fst ∧ (↑(List.length t.snd.fst) : Int) = (↑(List.length t.snd.fst) : Int) ∧ (0 : Int) = (↑x_1 : Int) ∧ True) ∧ (((24 : Nat) = (24 : Nat) ∧ t = t) ∧ ((75 : Nat) = (75 : Nat) ∧ List.replicate x noS ++ List.replicate ((5 : Nat) - x) ((0 : Int), (0 : Int), ()) = (sst t.snd.fst ts x_1).snd) ∧ ((42 : Nat) = (42 : Nat) ∧ [] = (sst t.snd.fst ts x_1).fst) ∧ True) ∧ True) ∧ ∀ (x_1 : Nat), x_1 ≤ t.snd.fst.length ∧ True → (decide ((↑x_1 : Int) < (↑(List.length t.snd.fst) : Int)) = true → (0 : Int) ≤ (↑x_1 : Int) ∧ (↑x_1 : Int) < (↑(List.length t.snd.fst) : Int) ∧ (decide ((0 : Int) ≤ (List.getD t.snd.fst (↑x_1 : Int).toNat ((0 : Int), (0 : Int), ())).snd.fst) = true → (0 : Int) ≤ (List.getD t.snd.fst (↑x_1 : Int).toNat ((0 : Int), (0 : Int), ())).snd.fst ∧ (List.getD t.snd.fst (↑x_1 : Int).toNat ((0 : Int), (0 : Int), ())).snd.fst < (↑(sst t.snd.fst ts x_1).fst.length : Int) ∧ (0 : Int) ≤ (List.getD t.snd.fst (↑x_1 : Int).toNat ((0 : Int), (0 : Int), ())).fst ∧ (List.getD t.snd.fst (↑x_1 : Int).toNat ((0 : Int), (0 : Int), ())).fst < (↑(5 : Nat) : Int) ∧ (0 : Int) ≤ (↑x_1 : Int) ∧ (↑x_1 : Int) < (↑ts.length : Int) ∧ (small ((sst t.snd.fst ts x_1).snd.getD (Int.toNat (List.getD t.snd.fst (↑x_1 : Int).toNat ((0 : Int), (0 : Int), ())).fst) ((0 : Int), (0 : Int), ())).snd.fst ∧ small ((sst t.snd.fst ts x_1).fst.getD (Int.toNat (List.getD t.snd.fst (↑x_1 : Int).toNat ((0 : Int), (0 : Int), ())).snd.fst) ((0 : Int), (0 : Int), ())).snd.fst ∧ True) ∧ (0 : Int) ≤ (List.getD t.snd.fst (↑x_1 : Int).toNat ((0 : Int), (0 : Int), ())).fst ∧ (List.getD t.snd.fst (↑x_1 : Int).toNat ((0 : Int), (0 : Int), ())).fst < (↑(5 : Nat) : Int) ∧ (0 : Int) ≤ (List.getD t.snd.fst (↑x_1 : Int).toNat ((0 : Int), (0 : Int), ())).fst ∧ (List.getD t.snd.fst (↑x_1 : Int).toNat ((0 : Int), (0 : Int), ())).fst < (↑(5 : Nat) : Int) ∧ (sst t.snd.fst ts x_1).fst.length + ((List.replicate (1 : Nat) ((0 : Int), (0 : Int), ())).set (0 : Nat) (((sst t.snd.fst ts x_1).snd.set (Int.toNat (List.getD t.snd.fst (↑x_1 : Int).toNat ((0 : Int), (0 : Int), ())).fst) (nextS ((sst t.snd.fst ts x_1).snd.getD (Int.toNat (List.getD t.snd.fst (↑x_1 : Int).toNat ((0 : Int), (0 : Int), ())).fst) ((0 : Int), (0 : Int), ())) ((sst t.snd.fst ts x_1).fst.getD (Int.toNat (List.getD t.snd.fst (↑x_1 : Int).toNat ((0 : Int), (0 : Int), ())).snd.fst) ((0 : Int), (0 : Int), ())) (ts.getD (↑x_1 : Int).toNat (0 : Int)))).getD (Int.toNat (List.getD t.snd.fst (↑x_1 : Int).toNat ((0 : Int), (0 : Int), ())).fst) ((0 : Int), (0 : Int), ()))).length ≤ (1000000000 : Nat) ∧ inK IntKind.i64 ((↑x_1 : Int) + (1 : Int)) ∧ ∃ (x_2 : Nat), (x_2 ≤ t.snd.fst.length ∧ True) ∧ t.snd.fst.length - x_2 < t.snd.fst.length - x_1 ∧ (t = t ∧ ts = ts ∧ ([] : List Nat) = [] ∧ True ∧ (0 : Int) = (0 : Int) ∧ hchk t ts = hchk t ts ∧ ([] : List Nat) = [] ∧ True ∧ t = t ∧ ts = ts ∧ hchk t ts = hchk t ts ∧ hchk t ts = hchk t ts ∧ (!decide (hchk t ts = (0 : Int))) = !decide (hchk t ts = (0 : Int)) ∧ (↑x : Int) = (↑x : Int) ∧ decide ((↑x : Int) < (5 : Int)) = decide ((↑x : Int) < (5 : Int)) ∧ [] ++ [(1 : Nat)] = [] ++ [(1 : Nat)] ∧ t.snd.fst = t.snd.fst ∧ (↑(List.length t.snd.fst) : Int) = (↑(List.length t.snd.fst) : Int) ∧ (↑x_1 : Int) + (1 : Int) = (↑x_2 : Int) ∧ True) ∧ (((24 : Nat) = (24 : Nat) ∧ t = t) ∧ ((75 : Nat) = (75 : Nat) ∧ (sst t.snd.fst ts x_1).snd.set (Int.toNat (List.getD t.snd.fst (↑x_1 : Int).toNat ((0 : Int), (0 : Int), ())).fst) (nextS ((sst t.snd.fst ts x_1).snd.getD (Int.toNat (List.getD t.snd.fst (↑x_1 : Int).toNat ((0 : Int), (0 : Int), ())).fst) ((0 : Int), (0 : Int), ())) ((sst t.snd.fst ts x_1).fst.getD (Int.toNat (List.getD t.snd.fst (↑x_1 : Int).toNat ((0 : Int), (0 : Int), ())).snd.fst) ((0 : Int), (0 : Int), ())) (ts.getD (↑x_1 : Int).toNat (0 : Int))) = (sst t.snd.fst ts x_2).snd) ∧ ((42 : Nat) = (42 : Nat) ∧ (sst t.snd.fst ts x_1).fst.append ((List.replicate (1 : Nat) ((0 : Int), (0 : Int), ())).set (0 : Nat) (((sst t.snd.fst ts x_1).snd.set (Int.toNat (List.getD t.snd.fst (↑x_1 : Int).toNat ((0 : Int), (0 : Int), ())).fst) (nextS ((sst t.snd.fst ts x_1).snd.getD (Int.toNat (List.getD t.snd.fst (↑x_1 : Int).toNat ((0 : Int), (0 : Int), ())).fst) ((0 : Int), (0 : Int), ())) ((sst t.snd.fst ts x_1).fst.getD (Int.toNat (List.getD t.snd.fst (↑x_1 : Int).toNat ((0 : Int), (0 : Int), ())).snd.fst) ((0 : Int), (0 : Int), ())) (ts.getD (↑x_1 : Int).toNat (0 : Int)))).getD (Int.toNat (List.getD t.snd.fst (↑x_1 : Int).toNat ((0 : Int), (0 : Int), ())).fst) ((0 : Int), (0 : Int), ()))) = (sst t.snd.fst ts x_2).fst) ∧ True) ∧ True) ∧ (decide ((0 : Int) ≤ (List.getD t.snd.fst (↑x_1 : Int).toNat ((0 : Int), (0 : Int), ())).snd.fst) = false → (0 : Int) ≤ (List.getD t.snd.fst (↑x_1 : Int).toNat ((0 : Int), (0 : Int), ())).fst ∧ (List.getD t.snd.fst (↑x_1 : Int).toNat ((0 : Int), (0 : Int), ())).fst < (↑(5 : Nat) : Int) ∧ (0 : Int) ≤ (↑x_1 : Int) ∧ (↑x_1 : Int) < (↑ts.length : Int) ∧ (small ((sst t.snd.fst ts x_1).snd.getD (Int.toNat (List.getD t.snd.fst (↑x_1 : Int).toNat ((0 : Int), (0 : Int), ())).fst) ((0 : Int), (0 : Int), ())).snd.fst ∧ small (0 : Int) ∧ True) ∧ (0 : Int) ≤ (List.getD t.snd.fst (↑x_1 : Int).toNat ((0 : Int), (0 : Int), ())).fst ∧ (List.getD t.snd.fst (↑x_1 : Int).toNat ((0 : Int), (0 : Int), ())).fst < (↑(5 : Nat) : Int) ∧ (0 : Int) ≤ (List.getD t.snd.fst (↑x_1 : Int).toNat ((0 : Int), (0 : Int), ())).fst ∧ (List.getD t.snd.fst (↑x_1 : Int).toNat ((0 : Int), (0 : Int), ())).fst < (↑(5 : Nat) : Int) ∧ (sst t.snd.fst ts x_1).fst.length + ((List.replicate (1 : Nat) ((0 : Int), (0 : Int), ())).set (0 : Nat) (((sst t.snd.fst ts x_1).snd.set (Int.toNat (List.getD t.snd.fst (↑x_1 : Int).toNat ((0 : Int), (0 : Int), ())).fst) (nextS ((sst t.snd.fst ts x_1).snd.getD (Int.toNat (List.getD t.snd.fst (↑x_1 : Int).toNat ((0 : Int), (0 : Int), ())).fst) ((0 : Int), (0 : Int), ())) ((-1 : Int), (0 : Int), ()) (ts.getD (↑x_1 : Int).toNat (0 : Int)))).getD (Int.toNat (List.getD t.snd.fst (↑x_1 : Int).toNat ((0 : Int), (0 : Int), ())).fst) ((0 : Int), (0 : Int), ()))).length ≤ (1000000000 : Nat) ∧ inK IntKind.i64 ((↑x_1 : Int) + (1 : Int)) ∧ ∃ (x_2 : Nat), (x_2 ≤ t.snd.fst.length ∧ True) ∧ t.snd.fst.length - x_2 < t.snd.fst.length - x_1 ∧ (t = t ∧ ts = ts ∧ ([] : List Nat) = [] ∧ True ∧ (0 : Int) = (0 : Int) ∧ hchk t ts = hchk t ts ∧ ([] : List Nat) = [] ∧ True ∧ t = t ∧ ts = ts ∧ hchk t ts = hchk t ts ∧ hchk t ts = hchk t ts ∧ (!decide (hchk t ts = (0 : Int))) = !decide (hchk t ts = (0 : Int)) ∧ (↑x : Int) = (↑x : Int) ∧ decide ((↑x : Int) < (5 : Int)) = decide ((↑x : Int) < (5 : Int)) ∧ [] ++ [(1 : Nat)] = [] ++ [(1 : Nat)] ∧ t.snd.fst = t.snd.fst ∧ (↑(List.length t.snd.fst) : Int) = (↑(List.length t.snd.fst) : Int) ∧ (↑x_1 : Int) + (1 : Int) = (↑x_2 : Int) ∧ True) ∧ (((24 : Nat) = (24 : Nat) ∧ t = t) ∧ ((75 : Nat) = (75 : Nat) ∧ (sst t.snd.fst ts x_1).snd.set (Int.toNat (List.getD t.snd.fst (↑x_1 : Int).toNat ((0 : Int), (0 : Int), ())).fst) (nextS ((sst t.snd.fst ts x_1).snd.getD (Int.toNat (List.getD t.snd.fst (↑x_1 : Int).toNat ((0 : Int), (0 : Int), ())).fst) ((0 : Int), (0 : Int), ())) ((-1 : Int), (0 : Int), ()) (ts.getD (↑x_1 : Int).toNat (0 : Int))) = (sst t.snd.fst ts x_2).snd) ∧ ((42 : Nat) = (42 : Nat) ∧ (sst t.snd.fst ts x_1).fst.append ((List.replicate (1 : Nat) ((0 : Int), (0 : Int), ())).set (0 : Nat) (((sst t.snd.fst ts x_1).snd.set (Int.toNat (List.getD t.snd.fst (↑x_1 : Int).toNat ((0 : Int), (0 : Int), ())).fst) (nextS ((sst t.snd.fst ts x_1).snd.getD (Int.toNat (List.getD t.snd.fst (↑x_1 : Int).toNat ((0 : Int), (0 : Int), ())).fst) ((0 : Int), (0 : Int), ())) ((-1 : Int), (0 : Int), ()) (ts.getD (↑x_1 : Int).toNat (0 : Int)))).getD (Int.toNat (List.getD t.snd.fst (↑x_1 : Int).toNat ((0 : Int), (0 : Int), ())).fst) ((0 : Int), (0 : Int), ()))) = (sst t.snd.fst ts x_2).fst) ∧ True) ∧ True)) ∧ (decide ((↑x_1 : Int) < (↑(List.length t.snd.fst) : Int)) = false → k [Dat.mk (tEv).sl (sst t.snd.fst ts x_1).fst, Dat.mk (Ty.err (63 : Nat)) (0 : Int)])))) := by kernel_rfl
theorem vcSame (a b : List Stp) (k : List Dat → Prop) : vcF ⟨Eh, [], [], [], []⟩ (anSame a b) (Tryd.f22.body.getD .skip) Tryd.f22.ntmps [(.tmp 4, .bool)] [⟨.sl tSt, a⟩, ⟨.sl tSt, b⟩] k = (
  ((!decide ((↑a.length : Int) = (↑b.length : Int))) = true → k [Dat.mk Ty.bool false]) ∧ ((!decide ((↑a.length : Int) = (↑b.length : Int))) = false → (∃ (x : Nat), (x ≤ a.length ∧ List.take x a = List.take x b) ∧ (a = a ∧ b = b ∧ false = false ∧ (0 : Int) = (↑x : Int) ∧ a = a ∧ (↑a.length : Int) = (↑a.length : Int) ∧ b = b ∧ (↑b.length : Int) = (↑b.length : Int) ∧ (!decide ((↑a.length : Int) = (↑b.length : Int))) = !decide ((↑a.length : Int) = (↑b.length : Int)) ∧ True) ∧ True ∧ True) ∧ ∀ (x : Nat), x ≤ a.length ∧ List.take x a = List.take x b → (decide ((↑x : Int) < (↑a.length : Int)) = true → (0 : Int) ≤ (↑x : Int) ∧ (↑x : Int) < (↑a.length : Int) ∧ (0 : Int) ≤ (↑x : Int) ∧ (↑x : Int) < (↑b.length : Int) ∧ ((!(decide ((a.getD (↑x : Int).toNat ((0 : Int), (0 : Int), ())).fst = (b.getD (↑x : Int).toNat ((0 : Int), (0 : Int), ())).fst) && (decide ((a.getD (↑x : Int).toNat ((0 : Int), (0 : Int), ())).snd.fst = (b.getD (↑x : Int).toNat ((0 : Int), (0 : Int), ())).snd.fst) && true))) = true → k [Dat.mk Ty.bool false]) ∧ ((!(decide ((a.getD (↑x : Int).toNat ((0 : Int), (0 : Int), ())).fst = (b.getD (↑x : Int).toNat ((0 : Int), (0 : Int), ())).fst) && (decide ((a.getD (↑x : Int).toNat ((0 : Int), (0 : Int), ())).snd.fst = (b.getD (↑x : Int).toNat ((0 : Int), (0 : Int), ())).snd.fst) && true))) = false → inK IntKind.i64 ((↑x : Int) + (1 : Int)) ∧ ∃ (x_1 : Nat), (x_1 ≤ a.length ∧ List.take x_1 a = List.take x_1 b) ∧ a.length - x_1 < a.length - x ∧ (a = a ∧ b = b ∧ false = false ∧ (↑x : Int) + (1 : Int) = (↑x_1 : Int) ∧ a = a ∧ (↑a.length : Int) = (↑a.length : Int) ∧ b = b ∧ (↑b.length : Int) = (↑b.length : Int) ∧ (!decide ((↑a.length : Int) = (↑b.length : Int))) = !decide ((↑a.length : Int) = (↑b.length : Int)) ∧ True) ∧ True ∧ True)) ∧ (decide ((↑x : Int) < (↑a.length : Int)) = false → k [Dat.mk Ty.bool true]))) := by kernel_rfl
end Go.Proofs.YtgbpjjinhjikeaaDoor

/- Clocks that count and look at the time: the functions keep their contracts. -/
namespace Go.Proofs.YtgbpjjinhjikeaaDoor
open Go.Vc

theorem take_all {α : Type} {p : α → Bool} {l : List α} {z : α} {x : Nat} (h : (l.take x).all p = true) (hp : p (l.getD x z) = true) : (l.take (x + 1)).all p = true := by
  by_cases hx : x < l.length
  · rw [List.take_add_one, List.all_append, h, List.getElem?_eq_getElem hx]
    rw [List.getD_eq_getElem?_getD, List.getElem?_eq_getElem hx] at hp
    simpa using hp
  · rw [List.take_of_length_le (by omega)]
    rwa [List.take_of_length_le (by omega)] at h

theorem hchk_vc (t : Tr) (ts : List Int) (k : List Dat → Prop) (hl : ts.length ≤ maxLen) (hk : k [⟨tErr, hchk t ts⟩]) : vcF ⟨Eh, [(10, cCheck), (32, cWithin)], [], [], []⟩ (anHChk t ts) (Tryd.f19.body.getD .skip) Tryd.f19.ntmps [(.tmp 4, tErr)] [⟨tTr, t⟩, ⟨.sl I, ts⟩] k := by
  rw [vcHChk]
  have hml : maxLen ≤ 9223372036854775807 := by decide
  have ret : ∀ x : Int, hchk t ts = x → k [⟨tErr, x⟩] := by rintro _ rfl; exact hk
  simp only [decide_eq_true_eq, decide_eq_false_iff_not, and_true, true_and, Bool.not_eq_true', Bool.not_eq_false', Int.toNat_natCast, eq_self, inK_i64]
  refine ⟨fun h => ret _ (by unfold hchk; rw [if_neg h]), fun h => ⟨fun g => ⟨by decide, ret _ ?_⟩, fun g => ⟨⟨0, ⟨Nat.zero_le _, rfl⟩, rfl⟩, fun x ⟨hx, ha⟩ => ⟨fun hlt => ⟨by omega, by omega, fun hb => ⟨by decide, ret _ ?_⟩, fun hb => ⟨by omega, x + 1, ⟨by omega, take_all ha hb⟩, by omega, by omega⟩⟩, fun hge => ret _ ?_⟩⟩⟩⟩
  · unfold hchk; rw [if_pos h, if_neg (by omega)]
  · unfold hchk
    rw [if_pos h, if_pos (by omega), if_neg]
    intro hall
    rw [List.all_eq_true] at hall
    have hx' : x < ts.length := by omega
    have := hall (ts.getD x 0) (by rw [List.getD_eq_getElem?_getD, List.getElem?_eq_getElem hx']; exact List.getElem_mem hx')
    unfold timeB at this
    rw [hb] at this; cases this
  · unfold hchk
    have : x = ts.length := by omega
    rw [this, List.take_length] at ha
    rw [if_pos h, if_pos (by omega), if_pos ha]

theorem okHChk : PlainOk Tryd.prog [] 19 cHChk := by
  refine plain_of (CxOk.mk' Eh_ok (by kernel_rfl) mixed (gl := []) (GOk.cons okCheck Tryd.func10 (by kernel_rfl) (by kernel_rfl) (GOk.cons okWithin Tryd.func32 (by kernel_rfl) (by kernel_rfl) GOk.nil)) GoOk.nil noIt) Tryd.func19 (c := Tryd.f19.body.getD .skip) (rvs := [(.tmp 4, tErr)]) (by kernel_rfl) (by kernel_rfl) (by kernel_rfl) ?_
  intro ds k ⟨hp, hk⟩ hwf
  obtain ⟨t, ts, rfl, -⟩ := dest2 hp
  exact ⟨anHChk t ts, hchk_vc t ts k (wf2 hwf).2.1 hk⟩

theorem okNext : PlainOk Tryd.prog [] 37 cNext := by
  refine plain_of (CxOk.mk' Eh_ok (by kernel_rfl) mixed (gl := []) GOk.nil GoOk.nil noIt) Tryd.func37 (c := Tryd.f37.body.getD .skip) (rvs := [(.cell 6 42, tSt)]) (by kernel_rfl) (by kernel_rfl) (by kernel_rfl) ?_
  intro ds k ⟨hp, hk⟩ hwf
  obtain ⟨a, b, n, rfl, hab⟩ := dest3 hp
  refine ⟨[], ?_⟩
  clear hp hwf
  revert hk hab
  revert a b n
  intro (a : Stp) (b : Stp) (n : Int) hab hk
  have hk : k [⟨tSt, nextS a b n⟩] := hk
  obtain ⟨ha, hb, _⟩ := hab
  rw [vcNext]
  have ret : ∀ x : Stp, nextS a b n = x → k [⟨tSt, x⟩] := by rintro _ rfl; exact hk
  unfold small at ha hb
  simp only [decide_eq_true_eq, decide_eq_false_iff_not, inK_i64]
  refine ⟨fun h1 => ⟨by omega, fun h2 => ⟨by omega, ret _ ?_⟩, fun h2 => ret _ ?_⟩, fun h1 => ⟨fun h2 => ⟨by omega, ret _ ?_⟩, fun h2 => ret _ ?_⟩⟩
  · unfold nextS; rw [if_pos h2, if_pos h1]
  · unfold nextS; rw [if_neg h2, if_pos h1]
  · unfold nextS; rw [if_pos h2, if_neg h1]
  · unfold nextS; rw [if_neg h2, if_neg h1]

theorem nextS_count (a b : Stp) (n : Int) {m : Int} (ha : 0 ≤ a.2.1 ∧ a.2.1 ≤ m) (hb : 0 ≤ b.2.1 ∧ b.2.1 ≤ m) : 0 ≤ (nextS a b n).2.1 ∧ (nextS a b n).2.1 ≤ m + 1 := by
  unfold nextS
  dsimp only
  split <;> split <;> omega

theorem getD_app {α : Type} (l : List α) (s z : α) (j : Nat) : (l ++ [s]).getD j z = if j = l.length then s else l.getD j z := by
  rw [List.getD_eq_getElem?_getD, List.getD_eq_getElem?_getD]
  split
  · rename_i h; subst h; simp
  · rename_i h
    by_cases hj : j < l.length
    · rw [List.getElem?_append_left hj]
    · rw [List.getElem?_eq_none (by simp; omega), List.getElem?_eq_none (by omega)]
theorem getD_set' {α : Type} (l : List α) (s z : α) (i j : Nat) : (l.set i s).getD j z = if i = j ∧ i < l.length then s else l.getD j z := by
  rw [List.getD_eq_getElem?_getD, List.getD_eq_getElem?_getD, List.getElem?_set]
  split
  · rename_i h; subst h
    split
    · rename_i h; rw [if_pos ⟨rfl, h⟩]; rfl
    · rename_i h; rw [if_neg (by omega), List.getElem?_eq_none (by omega)]
  · rename_i h; rw [if_neg (by omega)]

theorem sst_len (l : List Ev) (ts : List Int) : ∀ i, (sst l ts i).1.length = i ∧ (sst l ts i).2.length = 5
  | 0 => by simp [sst]
  | i + 1 => by
    have := sst_len l ts i
    simp [sst, this.1, this.2]

theorem sst_count (l : List Ev) (ts : List Int) : ∀ i j, (0 ≤ ((sst l ts i).1.getD j (0, 0, ())).2.1 ∧ ((sst l ts i).1.getD j (0, 0, ())).2.1 ≤ (i : Int)) ∧ (0 ≤ ((sst l ts i).2.getD j (0, 0, ())).2.1 ∧ ((sst l ts i).2.getD j (0, 0, ())).2.1 ≤ (i : Int)) := by
  intro i
  induction i with
  | zero =>
    intro j
    simp only [sst, List.getD_eq_getElem?_getD, List.getElem?_replicate, List.getElem?_nil, Option.getD_none]
    refine ⟨by omega, ?_⟩
    split
    · simp [noS]
    · simp
  | succ i ih =>
    intro j
    have hn : ∀ b : Stp, (0 ≤ b.2.1 ∧ b.2.1 ≤ (i : Int)) → 0 ≤ (nextS ((sst l ts i).2.getD (l.getD i (0, 0, ())).1.toNat (0, 0, ())) b (ts.getD i 0)).2.1 ∧ (nextS ((sst l ts i).2.getD (l.getD i (0, 0, ())).1.toNat (0, 0, ())) b (ts.getD i 0)).2.1 ≤ (i : Int) + 1 := fun b hb =>
      nextS_count _ _ _ (ih _).2 hb
    have hb : (0 : Int) ≤ (if 0 ≤ (l.getD i (0, 0, ())).2.1 then (sst l ts i).1.getD (l.getD i (0, 0, ())).2.1.toNat (0, 0, ()) else noS).2.1 ∧ (if 0 ≤ (l.getD i (0, 0, ())).2.1 then (sst l ts i).1.getD (l.getD i (0, 0, ())).2.1.toNat (0, 0, ()) else noS).2.1 ≤ (i : Int) := by
      split
      · exact (ih _).1
      · simp [noS]
    have h1 := hn _ hb
    have h2 := ih j
    simp only [sst, getD_app, getD_set']
    refine ⟨?_, ?_⟩
    · split
      · omega
      · omega
    · split
      · omega
      · omega

theorem rep_set {α : Type} (a z : α) {x m : Nat} (h : x < m) : (List.replicate x a ++ List.replicate (m - x) z).set x a = List.replicate (x + 1) a ++ List.replicate (m - (x + 1)) z := by
  rw [List.set_append, if_neg (by simp)]
  rw [show m - x = (m - (x + 1)) + 1 by omega, List.replicate_succ]
  simp only [List.length_replicate, Nat.sub_self, List.set_cons_zero]
  rw [List.replicate_succ', List.append_assoc]
  rfl

theorem stamps_vc (t : Tr) (ts : List Int) (k : List Dat → Prop) (hk : k [⟨.sl tSt, stamps t ts⟩, ⟨tErr, hchk t ts⟩]) : vcF ⟨Eh, [(19, cHChk), (37, cNext)], [], [], []⟩ (anStamps t ts) (Tryd.f21.body.getD .skip) Tryd.f21.ntmps [(.tmp 4, .sl tSt), (.tmp 5, tErr)] [⟨tTr, t⟩, ⟨.sl I, ts⟩] k := by
  rw [vcStamps]
  simp only [decide_eq_true_eq, decide_eq_false_iff_not, and_true, true_and, Bool.not_eq_true', Bool.not_eq_false', Int.toNat_natCast, eq_self, inK_i64, List.replicate, List.set_cons_zero, List.length_cons, List.length_nil]
  have set1 : ∀ (l : List Stp) (j : Nat) (s : Stp), j < l.length → (l.set j s).getD j (0, 0, ()) = s := fun l j s h => by rw [getD_set', if_pos ⟨rfl, h⟩]
  refine ⟨fun h => ?_, fun h => ⟨⟨0, ⟨Nat.zero_le _, rfl, rfl⟩⟩, fun x hx => ⟨fun hlt => ⟨by omega, by omega, by omega, x + 1, by omega, by omega, by omega, rep_set noS _ (by omega)⟩, fun hge => ?_⟩⟩⟩
  · have : stamps t ts = [] := by unfold stamps; rw [if_neg h]
    rw [← this]; exact hk
  · have hx5 : x = 5 := by omega
    subst hx5
    have hc : chk t = 0 ∧ ts.length = t.2.1.length := by
      unfold hchk at h
      split at h
      · rename_i h1
        split at h
        · rename_i h2; exact ⟨h1, h2⟩
        · cases h
      · rename_i h1; exact absurd h h1
    have g := good_of hc.1
    have hlen := g.len
    have hpr := g.procs
    refine ⟨⟨0, Nat.zero_le _, rfl, rfl, rfl⟩, fun y hy => ⟨fun hlt => ?_, fun hge2 => ?_⟩⟩
    · have hyl : y < t.2.1.length := by omega
      obtain ⟨p0, p1, f0, f1, _⟩ := g.ev y hyl
      obtain ⟨l1, l2⟩ := sst_len t.2.1 ts y
      have hcn := sst_count t.2.1 ts y
      have hS : ∀ j, small ((sst t.2.1 ts y).2.getD j (0, 0, ())).2.1 ∧ small ((sst t.2.1 ts y).1.getD j (0, 0, ())).2.1 := fun j => by
        have := hcn j
        unfold small
        omega
      refine ⟨by omega, hlt, fun hf => ?_, fun hf => ?_⟩
      · refine ⟨hf, by omega, p0, by omega, by omega, by omega, ⟨(hS _).1, (hS _).2⟩, p0, by omega, p0, by omega, by omega, by omega, y + 1, by omega, by omega, by omega, ?_, ?_⟩
        · simp only [sst, if_pos hf]
        · rw [set1 _ _ _ (by omega)]
          simp only [sst, if_pos hf]
          rfl
      · refine ⟨p0, by omega, by omega, by omega, ⟨(hS _).1, (by unfold small; omega)⟩, p0, by omega, p0, by omega, by omega, by omega, y + 1, by omega, by omega, by omega, ?_, ?_⟩
        · simp only [sst, if_neg hf]
          rfl
        · rw [set1 _ _ _ (by omega)]
          simp only [sst, if_neg hf]
          rfl
    · have hy2 : y = t.2.1.length := by omega
      subst hy2
      have : stamps t ts = (sst t.2.1 ts t.2.1.length).1 := by unfold stamps; rw [if_pos h]
      rw [← this]
      rw [h] at hk
      exact hk

theorem okStamps : PlainOk Tryd.prog [] 21 cStamps := by
  refine plain_of (CxOk.mk' Eh_ok (by kernel_rfl) mixed (gl := []) (GOk.cons okHChk Tryd.func19 (by kernel_rfl) (by kernel_rfl) (GOk.cons okNext Tryd.func37 (by kernel_rfl) (by kernel_rfl) GOk.nil)) GoOk.nil noIt) Tryd.func21 (c := Tryd.f21.body.getD .skip) (rvs := [(.tmp 4, .sl tSt), (.tmp 5, tErr)]) (by kernel_rfl) (by kernel_rfl) (by kernel_rfl) ?_
  intro ds k ⟨hp, hk⟩ hwf
  obtain ⟨t, ts, rfl, -⟩ := dest2 hp
  exact ⟨anStamps t ts, stamps_vc t ts k hk⟩

theorem same_vc (a b : List Stp) (k : List Dat → Prop) (hl : a.length ≤ maxLen) (hk : k [⟨.bool, decide (a = b)⟩]) : vcF ⟨Eh, [], [], [], []⟩ (anSame a b) (Tryd.f22.body.getD .skip) Tryd.f22.ntmps [(.tmp 4, .bool)] [⟨.sl tSt, a⟩, ⟨.sl tSt, b⟩] k := by
  rw [vcSame]
  have hml : maxLen ≤ 9223372036854775807 := by decide
  simp only [decide_eq_true_eq, decide_eq_false_iff_not, and_true, true_and, Bool.not_eq_true', Bool.not_eq_false', Int.toNat_natCast, inK_i64, eq_self, Bool.and_true]
  have ret : ∀ x : Bool, decide (a = b) = x → k [⟨.bool, x⟩] := by rintro _ rfl; exact hk
  refine ⟨fun h => ret _ ?_, fun h => ⟨⟨0, ⟨by omega, rfl⟩, rfl⟩, fun x ⟨hx, ht⟩ => ⟨fun hlt => ⟨by omega, hlt, by omega, by omega, fun hne => ret _ ?_, fun he => ⟨by omega, x + 1, ⟨by omega, ?_⟩, by omega, by omega⟩⟩, fun hge => ret _ ?_⟩⟩⟩
  · simp only [decide_eq_false_iff_not]; intro he; exact h (by rw [he])
  · simp only [decide_eq_false_iff_not]
    intro h
    rw [h] at hne
    simp at hne
  · have h1 : x < a.length := by omega
    have h2 : x < b.length := by omega
    simp only [Bool.and_eq_true, decide_eq_true_eq] at he
    have he' : a.getD x (0, 0, ()) = b.getD x (0, 0, ()) := Prod.ext he.1 (Prod.ext he.2 rfl)
    rw [List.take_add_one, List.take_add_one, ht]
    rw [List.getD_eq_getElem?_getD, List.getD_eq_getElem?_getD, List.getElem?_eq_getElem h1, List.getElem?_eq_getElem h2] at he'
    rw [List.getElem?_eq_getElem h1, List.getElem?_eq_getElem h2]
    simp only [Option.getD_some] at he'
    rw [he']
  · have h1 : x = a.length := by omega
    rw [h1, List.take_length, List.take_of_length_le (by omega)] at ht
    simpa using ht

theorem okSame : PlainOk Tryd.prog [] 22 cSame := by
  refine plain_of (CxOk.mk' Eh_ok (by kernel_rfl) mixed (gl := []) GOk.nil GoOk.nil noIt) Tryd.func22 (c := Tryd.f22.body.getD .skip) (rvs := [(.tmp 4, .bool)]) (by kernel_rfl) (by kernel_rfl) (by kernel_rfl) ?_
  intro ds k ⟨hp, hk⟩ hwf
  obtain ⟨a, b, rfl, -⟩ := dest2 hp
  exact ⟨anSame a b, same_vc a b k (wf2 hwf).1.1 hk⟩

end Go.Proofs.YtgbpjjinhjikeaaDoor

/- Traces: the law that what happened before is the least order. -/
namespace Go.Proofs.YtgbpjjinhjikeaaDoor
open Go.Vc
/-- one is to be behind the other one: it is ahead of it at its process, or it heard of it -/
def mustP (t : Tr) (i j : Nat) : Prop := (t.2.1.getD j (0, 0, ())).1 = (t.2.1.getD i (0, 0, ())).1 ∨ (t.2.1.getD i (0, 0, ())).2.1 = (j : Int)
def pairP (t : Tr) (o : List Int) (i j : Nat) : Prop :=
  0 ≤ o.getD i 0 ∧ (mustP t i j → bitB (o.getD i 0) j = true) ∧ (bitB (o.getD i 0) j = true → subB (o.getD j 0) (o.getD i 0) = true)
def goodP (t : Tr) (o : List Int) (g : Bool) (i j : Nat) : Prop :=
  g = true → o.length = t.2.1.length ∧ (∀ a b, a < i → b < a → pairP t o a b) ∧ ∀ b, b < j → pairP t o i b
end Go.Proofs.YtgbpjjinhjikeaaDoor

/- What happened before what, as sets of numbers: the facts that the laws of traces ask. -/
namespace Go.Proofs.YtgbpjjinhjikeaaDoor
open Go.Vc

/-- what happened before event i -/
def bB (l : List Ev) (i : Nat) : Nat := (bst l (i + 1)).1.getD i 0
def prc (l : List Ev) (i : Nat) : Nat := (l.getD i (0, 0, ())).1.toNat
def frm (l : List Ev) (i : Nat) : Int := (l.getD i (0, 0, ())).2.1

theorem bst_keep (l : List Ev) {i : Nat} (hi : i < l.length) : ∀ m, i < m → (bst l m).1.getD i 0 = bB l i := by
  intro m
  induction m with
  | zero => intro h; omega
  | succ m ih =>
    intro h
    by_cases hm : i = m
    · subst hm; rfl
    · rw [← ih (by omega)]
      simp only [bst]
      rw [getD_set_ne (fun e => hm e.symm)]

theorem bB_eq (l : List Ev) {i : Nat} (hi : i < l.length) (hf : frm l i < (i : Int)) :
    bB l i = if 0 ≤ frm l i then (bst l i).2.getD (prc l i) 0 ||| (bB l (frm l i).toNat ||| 2 ^ (frm l i).toNat) else (bst l i).2.getD (prc l i) 0 := by
  have hl := (bst_len l i).1
  unfold bB
  simp only [bst]
  rw [getD_set_self (by omega)]
  show (if 0 ≤ frm l i then _ else _) = _
  split
  · rename_i h
    rw [show (bst l i).1.getD (l.getD i (0, 0, ())).2.1.toNat 0 = bB l (frm l i).toNat from bst_keep l (by show (frm l i).toNat < _; omega) i (by show (frm l i).toNat < _; omega)]
    rfl
  · rfl

/-- the last event of a process -/
theorem last_of (l : List Ev) (hp : ∀ i, i < l.length → prc l i < 5) : ∀ m, m ≤ l.length → ∀ p, p < 5 →
    ((bst l m).2.getD p 0 = 0 ∧ ∀ j, j < m → prc l j ≠ p) ∨ ∃ j, j < m ∧ prc l j = p ∧ (∀ j', j < j' → j' < m → prc l j' ≠ p) ∧ (bst l m).2.getD p 0 = bB l j ||| 2 ^ j := by
  intro m
  induction m with
  | zero =>
    intro _ p hp5
    refine .inl ⟨?_, fun j hj => by omega⟩
    simp only [bst, List.getD_eq_getElem?_getD, List.getElem?_replicate]
    split <;> rfl
  | succ m ih =>
    intro hm p hp5
    have hl := (bst_len l m)
    have hstep : (bst l (m + 1)).2 = (bst l m).2.set (prc l m) (bB l m ||| 2 ^ m) := by
      have : bB l m = (if 0 ≤ (l.getD m (0, 0, ())).2.1 then (bst l m).2.getD (l.getD m (0, 0, ())).1.toNat 0 ||| ((bst l m).1.getD (l.getD m (0, 0, ())).2.1.toNat 0 ||| 2 ^ (l.getD m (0, 0, ())).2.1.toNat) else (bst l m).2.getD (l.getD m (0, 0, ())).1.toNat 0) := by
        unfold bB
        simp only [bst]
        rw [getD_set_self (by omega)]
      rw [this]; rfl
    rw [hstep]
    by_cases h : prc l m = p
    · refine .inr ⟨m, by omega, h, fun j' h1 h2 => by omega, ?_⟩
      rw [h, getD_set_self (by omega)]
    · rw [getD_set_ne h]
      rcases ih (by omega) p hp5 with ⟨h1, h2⟩ | ⟨j, h1, h2, h3, h4⟩
      · refine .inl ⟨h1, fun j hj => ?_⟩
        by_cases hjm : j = m
        · rw [hjm]; exact h
        · exact h2 j (by omega)
      · refine .inr ⟨j, by omega, h2, fun j' hj1 hj2 => ?_, h4⟩
        by_cases hjm : j' = m
        · rw [hjm]; exact h
        · exact h3 j' hj1 (by omega)

/-- is it one of those straight ahead of the other? -/
def justB (l : List Ev) (i j : Nat) : Prop := j < i ∧ ((prc l j = prc l i ∧ ∀ j', j < j' → j' < i → prc l j' ≠ prc l i) ∨ frm l i = (j : Int))

theorem bit_or2 {a j k : Nat} : (a ||| 2 ^ j).testBit k = true ↔ a.testBit k = true ∨ k = j := by
  rw [Nat.testBit_or, Nat.testBit_two_pow, Bool.or_eq_true, decide_eq_true_eq]
  exact ⟨fun h => h.imp id Eq.symm, fun h => h.imp id Eq.symm⟩

theorem bB_bit {l : List Ev} (hp : ∀ i, i < l.length → prc l i < 5) (hf : ∀ i, i < l.length → frm l i < (i : Int)) {i : Nat} (hi : i < l.length) (k : Nat) :
    (bB l i).testBit k = true ↔ ∃ j, justB l i j ∧ ((bB l j).testBit k = true ∨ k = j) := by
  have hlast := last_of l hp i (by omega) (prc l i) (hp i hi)
  have hbit : ((bst l i).2.getD (prc l i) 0).testBit k = true ↔ ∃ j, (j < i ∧ prc l j = prc l i ∧ ∀ j', j < j' → j' < i → prc l j' ≠ prc l i) ∧ ((bB l j).testBit k = true ∨ k = j) := by
    rcases hlast with ⟨h1, h2⟩ | ⟨j, h1, h2, h3, h4⟩
    · rw [h1]
      constructor
      · intro h; simp at h
      · rintro ⟨j, ⟨h3, h4, _⟩, _⟩; exact absurd h4 (h2 j h3)
    · rw [h4, bit_or2]
      constructor
      · intro h; exact ⟨j, ⟨h1, h2, h3⟩, h⟩
      · rintro ⟨j', ⟨k1, k2, k3⟩, h⟩
        have : j' = j := by
          rcases Nat.lt_trichotomy j' j with h | h | h
          · exact absurd h2 (k3 j h h1)
          · exact h
          · exact absurd k2 (h3 j' h k1)
        rw [this] at h; exact h
  rw [bB_eq l hi (hf i hi)]
  split
  · rename_i h0
    rw [Nat.testBit_or, Bool.or_eq_true, hbit, bit_or2]
    constructor
    · rintro (⟨j, ⟨h1, h2, h3⟩, h⟩ | h)
      · exact ⟨j, ⟨h1, .inl ⟨h2, h3⟩⟩, h⟩
      · exact ⟨(frm l i).toNat, ⟨by have := hf i hi; omega, .inr (by omega)⟩, h⟩
    · rintro ⟨j, ⟨h1, h2 | h2⟩, h⟩
      · exact .inl ⟨j, ⟨h1, h2.1, h2.2⟩, h⟩
      · have : (frm l i).toNat = j := by omega
        rw [this]; exact .inr h
  · rename_i h0
    rw [hbit]
    constructor
    · rintro ⟨j, ⟨h1, h2, h3⟩, h⟩
      exact ⟨j, ⟨h1, .inl ⟨h2, h3⟩⟩, h⟩
    · rintro ⟨j, ⟨h1, h2 | h2⟩, h⟩
      · exact ⟨j, ⟨h1, h2.1, h2.2⟩, h⟩
      · omega

section
variable {l : List Ev} (hp : ∀ i, i < l.length → prc l i < 5) (hf : ∀ i, i < l.length → frm l i < (i : Int))
include hp hf

theorem bB_less {i : Nat} (hi : i < l.length) {k : Nat} (h : (bB l i).testBit k = true) : k < i := by
  induction i using Nat.strongRecOn with
  | _ i ih =>
    obtain ⟨j, hj, h⟩ := (bB_bit hp hf hi k).1 h
    rcases h with h | h
    · have := ih j hj.1 (by have := hj.1; omega) h
      have := hj.1; omega
    · have := hj.1; omega

theorem bB_lt {i : Nat} (hi : i < l.length) : bB l i < 2 ^ i := by
  apply Nat.lt_pow_two_of_testBit
  intro k hk
  cases h : (bB l i).testBit k with
  | false => rfl
  | true => have := bB_less hp hf hi h; omega

theorem bB_must {i j : Nat} (hi : i < l.length) (hj : j < i) (h : prc l j = prc l i ∨ frm l i = (j : Int)) : (bB l i).testBit j = true := by
  rcases h with h | h
  · -- the last one of its process
    have key : ∀ d j, i - j = d → j < i → prc l j = prc l i → (bB l i).testBit j = true := by
      intro d
      induction d using Nat.strongRecOn with
      | _ d ihd =>
        intro j hd hj h
        by_cases hc : ∃ j', j < j' ∧ j' < i ∧ prc l j' = prc l i
        · obtain ⟨j1, h1, h2, h3⟩ := hc
          -- the first one behind j: take any; by induction on i inside
          have hb1 := ihd (i - j1) (by omega) j1 rfl h2 h3
          have hin : (bB l j1).testBit j = true := by
            have : ∀ i', i' < i → j < i' → i' < l.length → prc l j = prc l i' → (bB l i').testBit j = true := by
              intro i'
              induction i' using Nat.strongRecOn with
              | _ i' ih' =>
                intro a1 a2 a3 a4
                by_cases hc' : ∃ j', j < j' ∧ j' < i' ∧ prc l j' = prc l i' ∧ ∀ j'', j' < j'' → j'' < i' → prc l j'' ≠ prc l i'
                · obtain ⟨j2, b1, b2, b3, b4⟩ := hc'
                  refine (bB_bit hp hf a3 j).2 ⟨j2, ⟨b2, .inl ⟨b3, b4⟩⟩, .inl (ih' j2 b2 (by omega) b1 (by omega) (by rw [b3]; exact a4))⟩
                · refine (bB_bit hp hf a3 j).2 ⟨j, ⟨a2, .inl ⟨a4, ?_⟩⟩, .inr rfl⟩
                  intro j' c1 c2 c3
                  -- then there is a last one
                  have : ∃ j', j < j' ∧ j' < i' ∧ prc l j' = prc l i' ∧ ∀ j'', j' < j'' → j'' < i' → prc l j'' ≠ prc l i' := by
                    have hmax : ∀ d j', i' - j' = d → j < j' → j' < i' → prc l j' = prc l i' → ∃ j', j < j' ∧ j' < i' ∧ prc l j' = prc l i' ∧ ∀ j'', j' < j'' → j'' < i' → prc l j'' ≠ prc l i' := by
                      intro d
                      induction d using Nat.strongRecOn with
                      | _ d ihm =>
                        intro j' e0 e1 e2 e3
                        by_cases hx : ∃ j'', j' < j'' ∧ j'' < i' ∧ prc l j'' = prc l i'
                        · obtain ⟨j'', f1, f2, f3⟩ := hx
                          exact ihm (i' - j'') (by omega) j'' rfl (by omega) f2 f3
                        · exact ⟨j', e1, e2, e3, fun j'' g1 g2 g3 => hx ⟨j'', g1, g2, g3⟩⟩
                    exact hmax _ j' rfl c1 c2 c3
                  exact hc' this
            exact this j1 h2 h1 (by omega) (by rw [h, h3])
          have trans : ∀ i', i' ≤ i → i' < l.length → ∀ k m, (bB l i').testBit k = true → (bB l k).testBit m = true → (bB l i').testBit m = true := by
            intro i'
            induction i' using Nat.strongRecOn with
            | _ i' ih' =>
              intro a1 a2 k m hk hm
              obtain ⟨q, hq, hk'⟩ := (bB_bit hp hf a2 k).1 hk
              rcases hk' with hk' | hk'
              · exact (bB_bit hp hf a2 m).2 ⟨q, hq, .inl (ih' q hq.1 (by have := hq.1; omega) (by have := hq.1; omega) k m hk' hm)⟩
              · subst hk'
                exact (bB_bit hp hf a2 m).2 ⟨k, hq, .inl hm⟩
          exact trans i (Nat.le_refl _) hi j1 j hb1 hin
        · exact (bB_bit hp hf hi j).2 ⟨j, ⟨hj, .inl ⟨h, fun j' h1 h2 h3 => hc ⟨j', h1, h2, h3⟩⟩⟩, .inr rfl⟩
    exact key _ j rfl hj h
  · exact (bB_bit hp hf hi j).2 ⟨j, ⟨hj, .inr h⟩, .inr rfl⟩

theorem bB_trans {i : Nat} (hi : i < l.length) {k m : Nat} (hk : (bB l i).testBit k = true) (hm : (bB l k).testBit m = true) : (bB l i).testBit m = true := by
  induction i using Nat.strongRecOn with
  | _ i ih =>
    obtain ⟨q, hq, hk'⟩ := (bB_bit hp hf hi k).1 hk
    rcases hk' with hk' | hk'
    · exact (bB_bit hp hf hi m).2 ⟨q, hq, .inl (ih q hq.1 (by have := hq.1; omega) hk')⟩
    · subst hk'
      exact (bB_bit hp hf hi m).2 ⟨k, hq, .inl hm⟩
end
end Go.Proofs.YtgbpjjinhjikeaaDoor

/- What goes along the events: each answer comes from that of the one ahead at its process and that of the one it heard of. -/
namespace Go.Proofs.YtgbpjjinhjikeaaDoor
open Go.Vc

/-- the stamp of event i -/
def stp (l : List Ev) (ts : List Int) (i : Nat) : Stp := (sst l ts (i + 1)).1.getD i (0, 0, ())

theorem sst_keep (l : List Ev) (ts : List Int) {i : Nat} : ∀ m, i < m → (sst l ts m).1.getD i (0, 0, ()) = stp l ts i := by
  intro m
  induction m with
  | zero => intro h; omega
  | succ m ih =>
    intro h
    by_cases hm : i = m
    · subst hm; rfl
    · rw [← ih (by omega)]
      simp only [sst, getD_app, (sst_len l ts m).1]
      rw [if_neg hm]

theorem sst_last (l : List Ev) (ts : List Int) (hp : ∀ i, i < l.length → prc l i < 5) : ∀ m, m ≤ l.length → ∀ p, p < 5 →
    ((sst l ts m).2.getD p (0, 0, ()) = noS ∧ ∀ j, j < m → prc l j ≠ p) ∨ ∃ j, j < m ∧ prc l j = p ∧ (∀ j', j < j' → j' < m → prc l j' ≠ p) ∧ (sst l ts m).2.getD p (0, 0, ()) = stp l ts j := by
  intro m
  induction m with
  | zero =>
    intro _ p hp5
    refine .inl ⟨?_, fun j hj => by omega⟩
    simp only [sst, List.getD_eq_getElem?_getD, List.getElem?_replicate, if_pos hp5]
    rfl
  | succ m ih =>
    intro hm p hp5
    have hl := sst_len l ts m
    have hstep : (sst l ts (m + 1)).2 = (sst l ts m).2.set (prc l m) (stp l ts m) := by
      have : stp l ts m = nextS ((sst l ts m).2.getD (l.getD m (0, 0, ())).1.toNat (0, 0, ())) (if 0 ≤ (l.getD m (0, 0, ())).2.1 then (sst l ts m).1.getD (l.getD m (0, 0, ())).2.1.toNat (0, 0, ()) else noS) (ts.getD m 0) := by
        unfold stp
        simp only [sst, getD_app, hl.1, if_true]
      rw [this]; rfl
    rw [hstep, getD_set', hl.2]
    by_cases h : prc l m = p
    · rw [if_pos ⟨h, by rw [h]; exact hp5⟩]
      exact .inr ⟨m, by omega, h, fun j' h1 h2 => by omega, rfl⟩
    · rw [if_neg (fun e => h e.1)]
      rcases ih (by omega) p hp5 with ⟨h1, h2⟩ | ⟨j, h1, h2, h3, h4⟩
      · refine .inl ⟨h1, fun j hj => ?_⟩
        by_cases hjm : j = m
        · rw [hjm]; exact h
        · exact h2 j (by omega)
      · refine .inr ⟨j, by omega, h2, fun j' hj1 hj2 => ?_, h4⟩
        by_cases hjm : j' = m
        · rw [hjm]; exact h
        · exact h3 j' hj1 (by omega)

/-- Of a stamp: it comes from two, each of which is none or that of one straight ahead. -/
theorem stp_rec {l : List Ev} {ts : List Int} (hp : ∀ i, i < l.length → prc l i < 5) (hf : ∀ i, i < l.length → frm l i < (i : Int)) {i : Nat} (hi : i < l.length) :
    ∃ a b, stp l ts i = nextS a b (ts.getD i 0) ∧ (a = noS ∨ ∃ j, justB l i j ∧ a = stp l ts j) ∧ (b = noS ∨ ∃ j, justB l i j ∧ b = stp l ts j) ∧ ∀ j, justB l i j → a = stp l ts j ∨ b = stp l ts j := by
  have hl := sst_len l ts i
  have hS : stp l ts i = nextS ((sst l ts i).2.getD (prc l i) (0, 0, ())) (if 0 ≤ frm l i then (sst l ts i).1.getD (frm l i).toNat (0, 0, ()) else noS) (ts.getD i 0) := by
    unfold stp
    simp only [sst, getD_app, hl.1, if_true]
    rfl
  have hlast := sst_last l ts hp i (by omega) (prc l i) (hp i hi)
  refine ⟨_, _, hS, ?_, ?_, ?_⟩
  · rcases hlast with ⟨h1, _⟩ | ⟨j, h1, h2, h3, h4⟩
    · exact .inl h1
    · exact .inr ⟨j, ⟨h1, .inl ⟨h2, h3⟩⟩, h4⟩
  · split
    · rename_i h0
      have := hf i hi
      refine .inr ⟨(frm l i).toNat, ⟨by omega, .inr (by omega)⟩, sst_keep l ts i (by omega)⟩
    · exact .inl rfl
  · intro j hj
    rcases hj with ⟨hji, ⟨h1, h2⟩ | h1⟩
    · left
      rcases hlast with ⟨_, k2⟩ | ⟨j', k1, k2, k3, k4⟩
      · exact absurd h1 (k2 j hji)
      · have : j = j' := by
          rcases Nat.lt_trichotomy j j' with h | h | h
          · exact absurd k2 (h2 j' h k1)
          · exact h
          · exact absurd h1 (k3 j h hji)
        rw [this]; exact k4
    · right
      rw [if_pos (by omega), sst_keep l ts i (by omega)]
      congr 1
      omega

/-- A stamp's time is the time of an event that happened before, or of its own. -/
theorem stp_mem {l : List Ev} {ts : List Int} (hp : ∀ i, i < l.length → prc l i < 5) (hf : ∀ i, i < l.length → frm l i < (i : Int)) (ht : ∀ i, 0 ≤ ts.getD i 0) {i : Nat} (hi : i < l.length) :
    ∃ k, (k = i ∨ (bB l i).testBit k = true) ∧ (stp l ts i).1 = ts.getD k 0 := by
  induction i using Nat.strongRecOn with
  | _ i ih =>
    obtain ⟨a, b, hS, ha, hb, _⟩ := stp_rec (ts := ts) hp hf hi
    have hone : ∀ c : Stp, (c = noS ∨ ∃ j, justB l i j ∧ c = stp l ts j) → c.1 = -1 ∨ ∃ k, (bB l i).testBit k = true ∧ c.1 = ts.getD k 0 := by
      intro c hc
      rcases hc with rfl | ⟨j, hj, rfl⟩
      · exact .inl rfl
      · obtain ⟨k, hk, e⟩ := ih j hj.1 (by have := hj.1; omega)
        exact .inr ⟨k, (bB_bit hp hf hi k).2 ⟨j, hj, hk.symm⟩, e⟩
    have e : (stp l ts i).1 = max (max a.1 b.1) (ts.getD i 0) := by rw [hS]; rfl
    have h0 := ht i
    by_cases c1 : max a.1 b.1 ≤ ts.getD i 0
    · exact ⟨i, .inl rfl, by rw [e]; omega⟩
    · by_cases c2 : b.1 ≤ a.1
      · rcases hone a ha with h | ⟨k, hk, e2⟩
        · omega
        · exact ⟨k, .inr hk, by rw [e, ← e2]; omega⟩
      · rcases hone b hb with h | ⟨k, hk, e2⟩
        · omega
        · exact ⟨k, .inr hk, by rw [e, ← e2]; omega⟩

/-- Where its time is above all that happened before, the stamp is the time. -/
theorem stp_true {l : List Ev} {ts : List Int} (hp : ∀ i, i < l.length → prc l i < 5) (hf : ∀ i, i < l.length → frm l i < (i : Int)) (ht : ∀ i, 0 ≤ ts.getD i 0) {i : Nat} (hi : i < l.length)
    (h : ∀ k, (bB l i).testBit k = true → ts.getD k 0 < ts.getD i 0) : stp l ts i = (ts.getD i 0, 0, ()) := by
  obtain ⟨a, b, hS, ha, hb, _⟩ := stp_rec (ts := ts) hp hf hi
  have h0 := ht i
  have hone : ∀ c : Stp, (c = noS ∨ ∃ j, justB l i j ∧ c = stp l ts j) → c.1 < ts.getD i 0 := by
    intro c hc
    rcases hc with rfl | ⟨j, hj, rfl⟩
    · show (-1 : Int) < _
      omega
    · obtain ⟨k, hk, e⟩ := stp_mem hp hf ht (i := j) (by have := hj.1; omega)
      rw [e]
      exact h k ((bB_bit hp hf hi k).2 ⟨j, hj, hk.symm⟩)
  have h1 := hone a ha
  have h2 := hone b hb
  rw [hS]
  unfold nextS
  have e : max (max a.1 b.1) (ts.getD i 0) = ts.getD i 0 := by omega
  rw [e, if_neg (by omega), if_neg (by omega)]
end Go.Proofs.YtgbpjjinhjikeaaDoor

/- Clocks that look at the time: the loops of the laws. -/
namespace Go.Proofs.YtgbpjjinhjikeaaDoor
open Go.Vc
def rightP (t : Tr) (ts : List Int) (i : Nat) (k : Nat) (r : Bool) : Prop := r = true → ∀ m, m < k → bitB ((bef t).getD i 0) (m : Int) = true → ts.getD m 0 < ts.getD i 0
def anTrue (t : Tr) (ts : List Int) : Ann :=
  [joinAll,
   loopAt 11 Nat [] (fun st i => St.at (St.only st [0, 1, 2, 6, 8]) [(10, .d I (i : Int))]) (fun _ i => i ≤ t.2.1.length ∧ True) (fun i => t.2.1.length - i),
   loopAt 15 (Nat × Bool) [] (fun st x => St.at (St.only st [0, 1, 2, 6, 8, 10]) [(11, .d .bool x.2), (12, .d I (x.1 : Int))]) (fun st x => (x.1 : Int) ≤ st.i 10 ∧ rightP t ts (st.i 10).toNat x.1 x.2) (fun x => t.2.1.length - x.1)]
def lessB (a b : Stp) : Bool := decide (a.1 < b.1) || decide (a.1 = b.1) && decide (a.2.1 < b.2.1)
def cLess : Ctr := cdet [tSt, tSt] (fun _ _ => True) (fun a b => [⟨.bool, lessB a b⟩])
def popN : Nat → Nat → Nat
  | 0, _ => 0
  | f + 1, a => if a = 0 then 0 else a % 2 + popN f (a / 2)
def pop (a : Int) : Int := ((popN a.toNat a.toNat : Nat) : Int)
def cMany : Ctr := cdet [I] (fun _ => True) (fun a => [⟨I, pop a⟩])
def anMany (a : Int) : Ann := an1 (Int × Int) 2 (fun st x => St.at st [(0, .d I x.1), (3, .d I x.2)]) (fun x => pop a = pop x.1 + x.2 ∧ 0 ≤ x.2 ∧ inK .i64 x.1) (fun x => x.1.toNat)
def mostP (t : Tr) (ts : List Int) (i : Int) (k : Nat) (m : Int) : Prop :=
  ts.getD i.toNat 0 ≤ m ∧ (∀ q, q < k → bitB ((bef t).getD i.toNat 0) (q : Int) = true → ts.getD q 0 ≤ m) ∧ (m = ts.getD i.toNat 0 ∨ ∃ q, q < t.2.1.length ∧ bitB ((bef t).getD i.toNat 0) (q : Int) = true ∧ m = ts.getD q 0)
def anHBef (t : Tr) (ts : List Int) (i : Int) : Ann :=
  [joinAll,
   loopAt 14 (Nat × Int) [] (fun st x => St.at (St.only st [0, 1, 2, 3, 4, 10, 12]) [(14, .d I x.2), (15, .d I (x.1 : Int))]) (fun _ x => x.1 ≤ t.2.1.length ∧ mostP t ts i x.1 x.2) (fun x => t.2.1.length - x.1)]
end Go.Proofs.YtgbpjjinhjikeaaDoor

/- Stamps: which is less. -/
namespace Go.Proofs.YtgbpjjinhjikeaaDoor
open Go.Vc

/-- is a stamp ahead of another one? -/
def lexP (a b : Stp) : Prop := a.1 < b.1 ∨ (a.1 = b.1 ∧ a.2.1 < b.2.1)
theorem lexP.trans {a b c : Stp} (h : lexP a b) (k : lexP b c) : lexP a c := by
  unfold lexP at *
  omega
theorem nextS_l (a b : Stp) (n : Int) : lexP a (nextS a b n) := by
  unfold lexP nextS
  dsimp only
  by_cases h : max (max a.1 b.1) n = a.1
  · right
    refine ⟨h.symm, ?_⟩
    rw [if_pos h]
    split <;> omega
  · left; omega
theorem nextS_r (a b : Stp) (n : Int) : lexP b (nextS a b n) := by
  unfold lexP nextS
  dsimp only
  by_cases h : max (max a.1 b.1) n = b.1
  · right
    refine ⟨h.symm, ?_⟩
    rw [if_pos h]
    omega
  · left; omega
theorem nextS_n (a b : Stp) (n : Int) : n ≤ (nextS a b n).1 := by
  unfold nextS
  dsimp only
  omega

section
variable {l : List Ev} {ts : List Int} (hp : ∀ i, i < l.length → prc l i < 5) (hf : ∀ i, i < l.length → frm l i < (i : Int))
include hp hf
theorem stp_just {i j : Nat} (hi : i < l.length) (h : justB l i j) : lexP (stp l ts j) (stp l ts i) := by
  obtain ⟨a, b, hS, _, _, hj⟩ := stp_rec (ts := ts) hp hf hi
  rw [hS]
  rcases hj j h with e | e
  · rw [← e]; exact nextS_l _ _ _
  · rw [← e]; exact nextS_r _ _ _
theorem stp_less {i k : Nat} (hi : i < l.length) (h : (bB l i).testBit k = true) : lexP (stp l ts k) (stp l ts i) := by
  induction i using Nat.strongRecOn with
  | _ i ih =>
    obtain ⟨j, hj, hk⟩ := (bB_bit hp hf hi k).1 h
    have h1 := stp_just (ts := ts) hp hf hi hj
    rcases hk with hk | hk
    · exact (ih j hj.1 (by have := hj.1; omega) hk).trans h1
    · rw [hk]; exact h1
theorem stp_own {i : Nat} (hi : i < l.length) : ts.getD i 0 ≤ (stp l ts i).1 := by
  obtain ⟨a, b, hS, _⟩ := stp_rec (ts := ts) hp hf hi
  rw [hS]; exact nextS_n _ _ _
theorem stp_most {i k : Nat} (hi : i < l.length) (h : (bB l i).testBit k = true) : ts.getD k 0 ≤ (stp l ts i).1 := by
  have h1 := stp_less (ts := ts) hp hf hi h
  have h2 := stp_own (ts := ts) hp hf (i := k) (by have := bB_less hp hf hi h; omega)
  unfold lexP at h1
  omega
end
end Go.Proofs.YtgbpjjinhjikeaaDoor

/- Traces: the document's answers. -/
namespace Go.Proofs.YtgbpjjinhjikeaaDoor
open Go.Vc
def cRTrace : Ctr := cdet [tTr] (fun _ => True) (fun t => [⟨I, chk t⟩])
def anRTrace (t : Tr) : Ann := [joinAll, loopAt 6 Nat [] (fun st i => St.at (St.only st [1]) [(3, .d I (i : Int))]) (fun _ i => chk t = evsErr t.1 t.2.1 (t.2.1.length - i) i ∧ i ≤ t.2.1.length) (fun i => t.2.1.length - i)]
def cBoth : Ctr := cdet [I, I] (fun (a b : Int) => a < 2305843009213693952 ∧ True) (fun (a b : Int) => [⟨I, ((a.toNat &&& b.toNat : Nat) : Int)⟩])
def anBoth (a b : Int) : Ann := [joinAll, loopAt 3 Nat [] (fun st k => St.at (St.only st [4]) [(0, .d I (a.tdiv (2 ^ k))), (1, .d I (b.tdiv (2 ^ k))), (5, .d I (((a.toNat &&& b.toNat) % 2 ^ k : Nat) : Int)), (6, .d I ((2 : Int) ^ k))]) (fun _ k => k ≤ 61 ∧ True) (fun k => 62 - k)]
def setP (a : Int) : Prop := 0 ≤ a ∧ a < 1152921504606846976
def cEither : Ctr := cdet [I, I] (fun (a b : Int) => setP a ∧ setP b) (fun (a b : Int) => [⟨I, ((a.toNat ||| b.toNat : Nat) : Int)⟩])
def cWith : Ctr := cdet [I, I] (fun (a i : Int) => setP a ∧ 0 ≤ i ∧ i ≤ 59) (fun (a i : Int) => [⟨I, ((a.toNat ||| 2 ^ i.toNat : Nat) : Int)⟩])
abbrev evA (l : List Ev) (i : Nat) : Ev := l.getD i (0, 0, ())
/-- which of its process an event is, of the first j -/
def nthU (l : List Ev) (i : Nat) : Nat → Nat
  | 0 => 0
  | j + 1 => if (evA l j).1 = (evA l i).1 then nthU l i j + 1 else nthU l i j
def nth (l : List Ev) (i : Nat) : Nat := nthU l i i
def cNth : Ctr := cdet [tTr, I] (fun (t : Tr) (i : Int) => 0 ≤ i ∧ i < t.2.1.length) (fun (t : Tr) (i : Int) => [⟨I, (nth t.2.1 i.toNat : Int)⟩])
def anNth (t : Tr) (i : Int) : Ann := [joinAll, loopAt 3 Nat [] (fun st j => St.at (St.only st [1, 2]) [(5, .d I (nthU t.2.1 i.toNat j : Int)), (6, .d I (j : Int))]) (fun _ j => j ≤ i.toNat ∧ nthU t.2.1 i.toNat j ≤ j) (fun j => i.toNat - j)]
def mustB (l : List Ev) (i j : Nat) : Bool := decide ((evA l j).1 = (evA l i).1) || decide ((evA l i).2.1 = (j : Int))
/-- of an event what happened before it, pair by pair -/
def setU (l : List Ev) (i : Nat) : Nat → Nat
  | 0 => 0
  | j + 1 => if mustB l i j = true then setU l i j ||| (bB l j ||| 2 ^ j) else setU l i j
def bBs (l : List Ev) (i : Nat) : List Int := (List.range i).map fun j => ((bB l j : Nat) : Int)
def cRBefore : Ctr := cdet [tTr] (fun (t : Tr) => chk t = 0 ∧ True) (fun (t : Tr) => [⟨.sl I, ints (befN t)⟩])
def cRBeforeG : Ctr := cgen [tTr] (fun (t : Tr) (k : List Dat → Prop) => chk t = 0 ∧ k [⟨.sl I, ints (befN t)⟩])
def anRBefore (t : Tr) : Ann := [joinAll,
  loopAt 3 Nat [(3, 3, I)] (fun st i => { St.at (St.only st [1, 3]) [(4, .d I (i : Int))] with ob := [.var 24 tTr t, .row 3 I (bBs t.2.1 i)] }) (fun _ i => i ≤ t.2.1.length ∧ True) (fun i => t.2.1.length - i),
  loopAt 7 Nat [] (fun st j => St.at (St.only st [1, 3, 4]) [(5, .d I (setU t.2.1 (st.i 4).toNat j : Int)), (6, .d I (j : Int))]) (fun st j => j ≤ (st.i 4).toNat ∧ True) (fun j => t.2.1.length - j)]
def cRTimes : Ctr := cdet [tTr, .sl I] (fun _ _ => True) (fun t ts => [⟨I, hchk t ts⟩])
def anRTimes (t : Tr) (ts : List Int) : Ann := [joinAll,
  meetAt 4 Int [] (fun st e => St.at (St.only st [1, 2]) [(5, .d I e)]) (fun _ e => e = (if chk t = 0 ∧ ts.length ≠ t.2.1.length then 3 else chk t) ∧ True),
  loopAt 5 (Nat × Int) [] (fun st g => St.at (St.only st [1, 2]) [(5, .d I g.2), (6, .d I (g.1 : Int))])
    (fun _ g => g.1 ≤ ts.length ∧ (g.2 = 0 → chk t = 0 ∧ ts.length = t.2.1.length ∧ (ts.take g.1).all timeB = true) ∧ (g.2 ≠ 0 → hchk t ts = g.2)) (fun g => ts.length - g.1)]
/-- the greatest time of all that happened before, and of its own -/
def timeU (l : List Ev) (ts : List Int) (i : Nat) : Nat → Int
  | 0 => ts.getD i 0
  | j + 1 => if (bB l i).testBit j = true ∧ timeU l ts i j < ts.getD j 0 then ts.getD j 0 else timeU l ts i j
def aheadB (l : List Ev) (i j : Nat) : Bool := decide ((evA l i).2.1 = (j : Int)) || decide ((evA l j).1 = (evA l i).1) && decide ((nth l j : Int) + 1 = (nth l i : Int))
def cntU (l : List Ev) (ts : List Int) (i : Nat) : Nat → Int
  | 0 => 0
  | j + 1 => if aheadB l i j = true ∧ (stp l ts j).1 = timeU l ts i i ∧ cntU l ts i j < (stp l ts j).2.1 + 1 then (stp l ts j).2.1 + 1 else cntU l ts i j
def stps (l : List Ev) (ts : List Int) (i : Nat) : List Stp := (List.range i).map (stp l ts)
def cRStamps : Ctr := cgen [tTr, .sl I] (fun (t : Tr) (ts : List Int) (k : List Dat → Prop) => hchk t ts = 0 ∧ k [⟨.sl tSt, stamps t ts⟩])
def anRStamps (t : Tr) (ts : List Int) : Ann := [joinAll,
  loopAt 4 Nat [(6, 42, tSt)] (fun st i => { St.at (St.only st [1, 2, 5, 6]) [(7, .d I (i : Int))] with ob := [.var 24 tTr t, .row 42 tSt (stps t.2.1 ts i)] }) (fun _ i => i ≤ t.2.1.length ∧ True) (fun i => t.2.1.length - i),
  loopAt 8 Nat [] (fun st j => { St.at (St.only st [1, 2, 5, 6, 7, 8]) [(9, .d I (j : Int))] with ob := st.ob.set 2 (.var 42 tSt (timeU t.2.1 ts (st.i 7).toNat j, 0, ())) }) (fun st j => j ≤ (st.i 7).toNat ∧ True) (fun j => t.2.1.length - j),
  loopAt 13 Nat [] (fun st j => { St.at (St.only st [1, 2, 5, 6, 7, 8]) [(10, .d I (j : Int))] with ob := st.ob.set 2 (.var 42 tSt (timeU t.2.1 ts (st.i 7).toNat (st.i 7).toNat, cntU t.2.1 ts (st.i 7).toNat j, ())) }) (fun st j => j ≤ (st.i 7).toNat ∧ True) (fun j => t.2.1.length - j)]
end Go.Proofs.YtgbpjjinhjikeaaDoor

/- Traces: the document's answers are the program's: the facts. -/
namespace Go.Proofs.YtgbpjjinhjikeaaDoor
open Go.Vc

theorem or_and_add (a : Nat) : ∀ b : Nat, (a ||| b) + (a &&& b) = a + b := by
  induction a using Nat.strongRecOn with
  | _ a ih =>
    intro b
    by_cases ha : a = 0
    · subst ha; simp
    · have h := ih (a / 2) (by omega) (b / 2)
      have h1 : (a ||| b) / 2 = a / 2 ||| b / 2 := Nat.or_div_two
      have h2 : (a &&& b) / 2 = a / 2 &&& b / 2 := Nat.and_div_two
      have h3 : (a ||| b) % 2 = 1 ↔ a % 2 = 1 ∨ b % 2 = 1 := Nat.or_mod_two_eq_one
      have h4 : (a &&& b) % 2 = 1 ↔ a % 2 = 1 ∧ b % 2 = 1 := Nat.and_mod_two_eq_one
      omega
theorem or_pow_in {s i : Nat} (h : s.testBit i = true) : s ||| 2 ^ i = s := by
  refine Nat.eq_of_testBit_eq fun k => ?_
  rw [Nat.testBit_or, Nat.testBit_two_pow]
  by_cases hk : i = k
  · subst hk; rw [h]; rfl
  · simp [hk]
theorem or_pow_out {s i : Nat} (h : s.testBit i = false) : s ||| 2 ^ i = s + 2 ^ i := by
  have h1 := or_and_add s (2 ^ i)
  have h2 : s &&& 2 ^ i = 0 := by
    refine Nat.eq_of_testBit_eq fun k => ?_
    rw [Nat.testBit_and, Nat.testBit_two_pow, Nat.zero_testBit]
    by_cases hk : i = k
    · subst hk; rw [h]; rfl
    · simp [hk]
  omega

structure Gd (l : List Ev) : Prop where
  p : ∀ i, i < l.length → prc l i < 5
  f : ∀ i, i < l.length → frm l i < (i : Int)
  n : ∀ i, i < l.length → 0 ≤ (evA l i).1
  len : l.length ≤ 24
theorem gd_of {t : Tr} (h : chk t = 0) : Gd t.2.1 := by
  have g := good_of h
  refine ⟨fun i hi => ?_, fun i hi => ?_, fun i hi => (g.ev i hi).1, g.len⟩
  · have h1 := g.ev i hi; have h2 := g.procs; unfold prc; omega
  · have h1 := g.ev i hi; unfold frm; omega
theorem prc_eq {l : List Ev} (g : Gd l) {i j : Nat} (hi : i < l.length) (hj : j < l.length) : (evA l j).1 = (evA l i).1 ↔ prc l j = prc l i := by
  have h1 := g.n i hi
  have h2 := g.n j hj
  unfold prc
  unfold evA at *
  omega

theorem must_iff {l : List Ev} (g : Gd l) {i j : Nat} (hi : i < l.length) (hj : j < i) : mustB l i j = true ↔ prc l j = prc l i ∨ frm l i = (j : Int) := by
  unfold mustB
  rw [Bool.or_eq_true, decide_eq_true_eq, decide_eq_true_eq, prc_eq g hi (by omega)]
  rfl
theorem setU_bit (l : List Ev) (i k : Nat) : ∀ j, (setU l i j).testBit k = true ↔ ∃ m, m < j ∧ mustB l i m = true ∧ ((bB l m).testBit k = true ∨ k = m) := by
  intro j
  induction j with
  | zero => simp [setU]
  | succ j ih =>
    unfold setU
    by_cases hm : mustB l i j = true
    · rw [if_pos hm, Nat.testBit_or, Bool.or_eq_true, ih, bit_or2]
      constructor
      · rintro (⟨m, h1, h2, h3⟩ | h)
        · exact ⟨m, by omega, h2, h3⟩
        · exact ⟨j, by omega, hm, h⟩
      · rintro ⟨m, h1, h2, h3⟩
        by_cases hj : m = j
        · subst hj; exact .inr h3
        · exact .inl ⟨m, by omega, h2, h3⟩
    · rw [if_neg hm, ih]
      constructor
      · rintro ⟨m, h1, h2, h3⟩; exact ⟨m, by omega, h2, h3⟩
      · rintro ⟨m, h1, h2, h3⟩
        by_cases hj : m = j
        · subst hj; exact absurd h2 hm
        · exact ⟨m, by omega, h2, h3⟩
theorem setU_lt {l : List Ev} (g : Gd l) {i : Nat} (hi : i < l.length) : ∀ j, j ≤ i → setU l i j < 2 ^ j := by
  intro j
  induction j with
  | zero => intro _; exact Nat.two_pow_pos 0
  | succ j ih =>
    intro hj
    have h1 := ih (by omega)
    have h2 := bB_lt g.p g.f (i := j) (by omega)
    have hp : 2 ^ j < 2 ^ (j + 1) := Nat.pow_lt_pow_right (by decide) (by omega)
    unfold setU
    split
    · exact Nat.or_lt_two_pow (by omega) (Nat.or_lt_two_pow (by omega) hp)
    · omega
theorem set_eq {l : List Ev} (g : Gd l) {i : Nat} (hi : i < l.length) : setU l i i = bB l i := by
  refine Nat.eq_of_testBit_eq fun k => ?_
  have key : (setU l i i).testBit k = true ↔ (bB l i).testBit k = true := by
    rw [setU_bit]
    constructor
    · rintro ⟨m, h1, h2, h3⟩
      have hb := bB_must g.p g.f hi h1 ((must_iff g hi h1).1 h2)
      rcases h3 with h | h
      · exact bB_trans g.p g.f hi hb h
      · rw [h]; exact hb
    · intro h
      obtain ⟨j, hj, h2⟩ := (bB_bit g.p g.f hi k).1 h
      refine ⟨j, hj.1, (must_iff g hi hj.1).2 ?_, h2⟩
      rcases hj.2 with h3 | h3
      · exact .inl h3.1
      · exact .inr h3
  cases h1 : (setU l i i).testBit k <;> cases h2 : (bB l i).testBit k <;> simp_all
theorem bBs_all {t : Tr} (g : Gd t.2.1) : bBs t.2.1 t.2.1.length = ints (befN t) := by
  unfold bBs ints befN
  refine List.ext_getElem (by simp [(bst_len t.2.1 t.2.1.length).1]) fun i h1 h2 => ?_
  have hi : i < t.2.1.length := by simpa using h1
  have := bst_keep t.2.1 hi t.2.1.length hi
  rw [List.getElem_map, List.getElem_map, List.getElem_range]
  rw [List.getD_eq_getElem?_getD, List.getElem?_eq_getElem (by rw [(bst_len t.2.1 t.2.1.length).1]; exact hi)] at this
  rw [← this]; rfl
theorem bBs_at {l : List Ev} {i j : Nat} (h : j < i) : (bBs l i).getD j 0 = ((bB l j : Nat) : Int) := by
  unfold bBs
  rw [List.getD_eq_getElem?_getD, List.getElem?_map, List.getElem?_range h]; rfl
theorem bBs_len (l : List Ev) (i : Nat) : (bBs l i).length = i := by simp [bBs]
theorem bBs_succ (l : List Ev) (i : Nat) : bBs l (i + 1) = bBs l i ++ [((bB l i : Nat) : Int)] := by unfold bBs; rw [List.range_succ, List.map_append]; rfl
theorem bef_at {t : Tr} {i : Nat} (hi : i < t.2.1.length) : (ints (befN t)).getD i 0 = ((bB t.2.1 i : Nat) : Int) := by
  rw [ints_getD]; unfold befN; rw [bst_keep t.2.1 hi t.2.1.length hi]

/-! Which of its process. -/
theorem nthU_le (l : List Ev) (i : Nat) : ∀ j, nthU l i j ≤ j := by
  intro j
  induction j with
  | zero => exact Nat.le_refl _
  | succ j ih => unfold nthU; split <;> omega
theorem nthU_proc {l : List Ev} {i i' : Nat} (h : (evA l i).1 = (evA l i').1) : ∀ j, nthU l i j = nthU l i' j := by
  intro j
  induction j with
  | zero => rfl
  | succ j ih => unfold nthU; rw [ih, h]
theorem nthU_mono (l : List Ev) (i : Nat) {a b : Nat} (h : a ≤ b) : nthU l i a ≤ nthU l i b := by
  induction b with
  | zero => rw [Nat.le_zero.1 h]; exact Nat.le_refl _
  | succ b ih =>
    by_cases hb : a = b + 1
    · rw [hb]; exact Nat.le_refl _
    · have := ih (by omega)
      rw [nthU]
      split <;> omega
theorem nthU_same {l : List Ev} {i a b : Nat} (h : a ≤ b) (hn : ∀ j, a ≤ j → j < b → (evA l j).1 ≠ (evA l i).1) : nthU l i b = nthU l i a := by
  induction b with
  | zero => rw [Nat.le_zero.1 h]
  | succ b ih =>
    by_cases hb : a = b + 1
    · rw [hb]
    · rw [nthU, if_neg (hn b (by omega) (by omega))]
      exact ih (by omega) fun j h1 h2 => hn j h1 (by omega)
theorem nth_last {l : List Ev} {i j : Nat} (hj : j < i) (hp : (evA l j).1 = (evA l i).1) : (nth l j : Int) + 1 = (nth l i : Int) ↔ ∀ m, j < m → m < i → (evA l m).1 ≠ (evA l i).1 := by
  have h1 : nth l j = nthU l i j := nthU_proc hp j
  have h2 : nthU l i (j + 1) = nthU l i j + 1 := by rw [nthU, if_pos hp]
  constructor
  · intro he m hm1 hm2 hc
    have h3 : nthU l i (m + 1) = nthU l i m + 1 := by rw [nthU, if_pos hc]
    have h4 := nthU_mono l i (show j + 1 ≤ m by omega)
    have h5 := nthU_mono l i (show m + 1 ≤ i by omega)
    unfold nth at he h1
    omega
  · intro hn
    have h3 := nthU_same (l := l) (i := i) (show j + 1 ≤ i by omega) fun m h4 h5 => hn m (by omega) h5
    unfold nth at h1 ⊢
    omega
theorem ahead_just {l : List Ev} (g : Gd l) {i j : Nat} (hi : i < l.length) (hj : j < i) : aheadB l i j = true ↔ justB l i j := by
  unfold aheadB justB
  rw [Bool.or_eq_true, Bool.and_eq_true, decide_eq_true_eq, decide_eq_true_eq, decide_eq_true_eq]
  constructor
  · rintro (h | ⟨h1, h2⟩)
    · exact ⟨hj, .inr h⟩
    · refine ⟨hj, .inl ⟨(prc_eq g hi (by omega)).1 h1, fun m hm1 hm2 hc => ?_⟩⟩
      exact (nth_last hj h1).1 h2 m hm1 hm2 ((prc_eq g hi (by omega)).2 hc)
  · rintro ⟨_, ⟨h1, h2⟩ | h⟩
    · have hp := (prc_eq g hi (show j < l.length by omega)).2 h1
      exact .inr ⟨hp, (nth_last hj hp).2 fun m hm1 hm2 hc => h2 m hm1 hm2 ((prc_eq g hi (by omega)).1 hc)⟩
    · exact .inl h

/-! Stamps. -/
theorem timeU_ge (l : List Ev) (ts : List Int) (i : Nat) : ∀ j, ts.getD i 0 ≤ timeU l ts i j ∧ (∀ m, m < j → (bB l i).testBit m = true → ts.getD m 0 ≤ timeU l ts i j) ∧
    (timeU l ts i j = ts.getD i 0 ∨ ∃ m, m < j ∧ (bB l i).testBit m = true ∧ timeU l ts i j = ts.getD m 0) := by
  intro j
  induction j with
  | zero => exact ⟨Int.le_refl _, fun m h => absurd h (by omega), .inl rfl⟩
  | succ j ih =>
    obtain ⟨h1, h2, h3⟩ := ih
    unfold timeU
    split
    · rename_i hc
      refine ⟨by omega, fun m hm hb => ?_, .inr ⟨j, by omega, hc.1, rfl⟩⟩
      by_cases hj : m = j
      · rw [hj]; exact Int.le_refl _
      · have := h2 m (by omega) hb; omega
    · rename_i hc
      refine ⟨h1, fun m hm hb => ?_, ?_⟩
      · by_cases hj : m = j
        · subst hj
          rcases Int.lt_or_le (timeU l ts i m) (ts.getD m 0) with h | h
          · exact absurd ⟨hb, h⟩ hc
          · exact h
        · exact h2 m (by omega) hb
      · rcases h3 with h | ⟨m, k1, k2, k3⟩
        · exact .inl h
        · exact .inr ⟨m, by omega, k2, k3⟩
theorem time_eq {l : List Ev} {ts : List Int} (g : Gd l) (ht : ∀ i, 0 ≤ ts.getD i 0) {i : Nat} (hi : i < l.length) : timeU l ts i i = (stp l ts i).1 := by
  obtain ⟨h1, h2, h3⟩ := timeU_ge l ts i i
  obtain ⟨k, hk, e⟩ := stp_mem g.p g.f ht hi
  have own := stp_own (ts := ts) g.p g.f hi
  have up : (stp l ts i).1 ≤ timeU l ts i i := by
    rw [e]
    rcases hk with rfl | hk
    · exact h1
    · exact h2 k (bB_less g.p g.f hi hk) hk
  rcases h3 with h | ⟨m, k1, k2, k3⟩
  · omega
  · have := stp_most (ts := ts) g.p g.f hi k2
    omega
theorem stp_cnt (l : List Ev) (ts : List Int) (i : Nat) : 0 ≤ (stp l ts i).2.1 ∧ (stp l ts i).2.1 ≤ (i : Int) + 1 := by
  have := (sst_count l ts (i + 1) i).1
  unfold stp
  omega
theorem cntU_ge (l : List Ev) (ts : List Int) (i : Nat) : ∀ j, 0 ≤ cntU l ts i j ∧ (∀ m, m < j → aheadB l i m = true → (stp l ts m).1 = timeU l ts i i → (stp l ts m).2.1 + 1 ≤ cntU l ts i j) ∧
    (cntU l ts i j = 0 ∨ ∃ m, m < j ∧ aheadB l i m = true ∧ (stp l ts m).1 = timeU l ts i i ∧ cntU l ts i j = (stp l ts m).2.1 + 1) := by
  intro j
  induction j with
  | zero => exact ⟨Int.le_refl _, fun m h => absurd h (by omega), .inl rfl⟩
  | succ j ih =>
    obtain ⟨h1, h2, h3⟩ := ih
    have hc0 := stp_cnt l ts j
    unfold cntU
    split
    · rename_i hc
      refine ⟨by omega, fun m hm ha hT => ?_, .inr ⟨j, by omega, hc.1, hc.2.1, rfl⟩⟩
      by_cases hj : m = j
      · rw [hj]; exact Int.le_refl _
      · have := h2 m (by omega) ha hT; omega
    · rename_i hc
      refine ⟨h1, fun m hm ha hT => ?_, ?_⟩
      · by_cases hj : m = j
        · subst hj
          rcases Int.lt_or_le (cntU l ts i m) ((stp l ts m).2.1 + 1) with h | h
          · exact absurd ⟨ha, hT, h⟩ hc
          · exact h
        · exact h2 m (by omega) ha hT
      · rcases h3 with h | ⟨m, k1, k2, k3⟩
        · exact .inl h
        · exact .inr ⟨m, by omega, k2, k3⟩
theorem cntU_le (l : List Ev) (ts : List Int) (i j : Nat) : cntU l ts i j ≤ (j : Int) + 1 := by
  obtain ⟨h1, _, h3⟩ := cntU_ge l ts i j
  rcases h3 with h | ⟨m, k1, _, _, k3⟩
  · omega
  · have := (stp_cnt l ts m).2; omega
theorem stp_eq {l : List Ev} {ts : List Int} (g : Gd l) (ht : ∀ i, 0 ≤ ts.getD i 0) {i : Nat} (hi : i < l.length) : stp l ts i = (timeU l ts i i, cntU l ts i i, ()) := by
  have hT := time_eq g ht hi
  obtain ⟨a, b, hS, ha, hb, hj⟩ := stp_rec (ts := ts) g.p g.f hi
  obtain ⟨c1, c2, c3⟩ := cntU_ge l ts i i
  have hT2 : (stp l ts i).1 = max (max a.1 b.1) (ts.getD i 0) := by rw [hS]; rfl
  have h0 := ht i
  have low : ∀ c : Stp, (c = noS ∨ ∃ j, justB l i j ∧ c = stp l ts j) → c.1 = timeU l ts i i → c.2.1 + 1 ≤ cntU l ts i i := by
    intro c hc he
    rcases hc with rfl | ⟨j, hj, rfl⟩
    · exfalso
      have : noS.1 = -1 := rfl
      omega
    · exact c2 j hj.1 ((ahead_just g hi hj.1).2 hj) he
  have la := low a ha
  have lb := low b hb
  have na : 0 ≤ a.2.1 := by
    rcases ha with rfl | ⟨j, _, rfl⟩
    · exact Int.le_refl _
    · exact (stp_cnt l ts j).1
  have nb : 0 ≤ b.2.1 := by
    rcases hb with rfl | ⟨j, _, rfl⟩
    · exact Int.le_refl _
    · exact (stp_cnt l ts j).1
  refine Prod.ext hT.symm (Prod.ext ?_ rfl)
  have hC : (stp l ts i).2.1 = if max (max a.1 b.1) (ts.getD i 0) = b.1 then max (if max (max a.1 b.1) (ts.getD i 0) = a.1 then a.2.1 + 1 else 0) (b.2.1 + 1) else if max (max a.1 b.1) (ts.getD i 0) = a.1 then a.2.1 + 1 else 0 := by rw [hS]; rfl
  rw [← hT2, ← hT] at hC
  have up : cntU l ts i i = 0 ∨ (a.1 = timeU l ts i i ∧ cntU l ts i i = a.2.1 + 1) ∨ (b.1 = timeU l ts i i ∧ cntU l ts i i = b.2.1 + 1) := by
    rcases c3 with h | ⟨m, k1, k2, k3, k4⟩
    · exact .inl h
    · rcases hj m ((ahead_just g hi k1).1 k2) with e | e
      · rw [← e] at k3 k4; exact .inr (.inl ⟨k3, k4⟩)
      · rw [← e] at k3 k4; exact .inr (.inr ⟨k3, k4⟩)
  show (stp l ts i).2.1 = cntU l ts i i
  rw [hC]
  split
  · rename_i hb'
    split
    · rename_i ha'
      have := la ha'.symm
      have := lb hb'.symm
      omega
    · rename_i ha'
      have := lb hb'.symm
      omega
  · rename_i hb'
    split
    · rename_i ha'
      have := la ha'.symm
      omega
    · rename_i ha'
      omega
theorem stps_len (l : List Ev) (ts : List Int) (i : Nat) : (stps l ts i).length = i := by simp [stps]
theorem stps_succ (l : List Ev) (ts : List Int) (i : Nat) : stps l ts (i + 1) = stps l ts i ++ [stp l ts i] := by unfold stps; rw [List.range_succ, List.map_append]; rfl
theorem stps_at {l : List Ev} {ts : List Int} {i j : Nat} (h : j < i) : (stps l ts i).getD j (0, 0, ()) = stp l ts j := by
  unfold stps
  rw [List.getD_eq_getElem?_getD, List.getElem?_map, List.getElem?_range h]; rfl
theorem stps_all (l : List Ev) (ts : List Int) : stps l ts l.length = (sst l ts l.length).1 := by
  refine List.ext_getElem (by rw [stps_len, (sst_len l ts l.length).1]) fun i h1 h2 => ?_
  rw [stps_len] at h1
  have e1 := stps_at (l := l) (ts := ts) h1
  have e2 := sst_keep l ts (i := i) l.length h1
  rw [List.getD_eq_getElem?_getD, List.getElem?_eq_getElem (by rw [stps_len]; exact h1), Option.getD_some] at e1
  rw [List.getD_eq_getElem?_getD, List.getElem?_eq_getElem h2, Option.getD_some] at e2
  rw [e1, e2]
end Go.Proofs.YtgbpjjinhjikeaaDoor

/- What the functions of this seat have to satisfy, by program: each verification condition in plain words. -/
namespace Go.Proofs.YtgbpjjinhjikeaaDoor
open Go.Vc
set_option linter.unusedVariables false
theorem vcRIn (a b c : Int) (k : List Dat → Prop) : vcF ⟨Eh, [], [], [], []⟩ [joinAll] (Tryd.f30.body.getD .skip) Tryd.f30.ntmps [(.tmp 6, .bool)] [⟨I, a⟩, ⟨I, b⟩, ⟨I, c⟩] k = (
  (decide (b ≤ a) = true → k [Dat.mk Ty.bool (decide (a ≤ c))]) ∧ (decide (b ≤ a) = false → k [Dat.mk Ty.bool false])) := by kernel_rfl
theorem vcRTrace (t : Tr) (k : List Dat → Prop) : vcF ⟨Eh, [(30, cWithin)], [], [], []⟩ (anRTrace t) (Tryd.f8.body.getD .skip) Tryd.f8.ntmps [(.tmp 2, I)] [⟨tTr, t⟩] k = (
  True ∧ ((!inB t.fst (1 : Int) (5 : Int)) = true → k [Dat.mk (I) (1 : Int)]) ∧ ((!inB t.fst (1 : Int) (5 : Int)) = false → (decide ((24 : Int) < (↑(List.length t.snd.fst) : Int)) = true → k [Dat.mk (I) (4 : Int)]) ∧ (decide ((24 : Int) < (↑(List.length t.snd.fst) : Int)) = false → (∃ (x : Nat), (chk t = evsErr t.fst t.snd.fst (t.snd.fst.length - x) x ∧ x ≤ t.snd.fst.length) ∧ (([] : List Nat) = [] ∧ (0 : Int) = (↑x : Int) ∧ True) ∧ (((24 : Nat) = (24 : Nat) ∧ t = t) ∧ True) ∧ True) ∧ ∀ (x : Nat), chk t = evsErr t.fst t.snd.fst (t.snd.fst.length - x) x ∧ x ≤ t.snd.fst.length → (decide ((↑x : Int) < (↑(List.length t.snd.fst) : Int)) = true → (0 : Int) ≤ (↑x : Int) ∧ (↑x : Int) < (↑(List.length t.snd.fst) : Int) ∧ inK IntKind.i64 (t.fst - (1 : Int)) ∧ True ∧ ((!inB (List.getD t.snd.fst (↑x : Int).toNat ((0 : Int), (0 : Int), ())).fst (0 : Int) (t.fst - (1 : Int))) = true → k [Dat.mk (I) (1 : Int)]) ∧ ((!inB (List.getD t.snd.fst (↑x : Int).toNat ((0 : Int), (0 : Int), ())).fst (0 : Int) (t.fst - (1 : Int))) = false → inK IntKind.i64 ((↑x : Int) - (1 : Int)) ∧ True ∧ ((!inB (List.getD t.snd.fst (↑x : Int).toNat ((0 : Int), (0 : Int), ())).snd.fst (-1 : Int) ((↑x : Int) - (1 : Int))) = true → k [Dat.mk (I) (1 : Int)]) ∧ ((!inB (List.getD t.snd.fst (↑x : Int).toNat ((0 : Int), (0 : Int), ())).snd.fst (-1 : Int) ((↑x : Int) - (1 : Int))) = false → ((decide ((0 : Int) ≤ (List.getD t.snd.fst (↑x : Int).toNat ((0 : Int), (0 : Int), ())).snd.fst) = true → (0 : Int) ≤ (List.getD t.snd.fst (↑x : Int).toNat ((0 : Int), (0 : Int), ())).snd.fst ∧ (List.getD t.snd.fst (↑x : Int).toNat ((0 : Int), (0 : Int), ())).snd.fst < (↑(List.length t.snd.fst) : Int) ∧ True) ∧ (decide ((0 : Int) ≤ (List.getD t.snd.fst (↑x : Int).toNat ((0 : Int), (0 : Int), ())).snd.fst) = false → True)) ∧ ((decide ((0 : Int) ≤ (List.getD t.snd.fst (↑x : Int).toNat ((0 : Int), (0 : Int), ())).snd.fst) && decide ((List.getD t.snd.fst (Int.toNat (List.getD t.snd.fst (↑x : Int).toNat ((0 : Int), (0 : Int), ())).snd.fst) ((0 : Int), (0 : Int), ())).fst = (List.getD t.snd.fst (↑x : Int).toNat ((0 : Int), (0 : Int), ())).fst)) = true → k [Dat.mk (I) (6 : Int)]) ∧ ((decide ((0 : Int) ≤ (List.getD t.snd.fst (↑x : Int).toNat ((0 : Int), (0 : Int), ())).snd.fst) && decide ((List.getD t.snd.fst (Int.toNat (List.getD t.snd.fst (↑x : Int).toNat ((0 : Int), (0 : Int), ())).snd.fst) ((0 : Int), (0 : Int), ())).fst = (List.getD t.snd.fst (↑x : Int).toNat ((0 : Int), (0 : Int), ())).fst)) = false → inK IntKind.i64 ((↑x : Int) + (1 : Int)) ∧ ∃ (x_1 : Nat), (chk t = evsErr t.fst t.snd.fst (t.snd.fst.length - x_1) x_1 ∧ x_1 ≤ t.snd.fst.length) ∧ t.snd.fst.length - x_1 < t.snd.fst.length - x ∧ (([] : List Nat) = [] ∧ (↑x : Int) + (1 : Int) = (↑x_1 : Int) ∧ True) ∧ (((24 : Nat) = (24 : Nat) ∧ t = t) ∧ True) ∧ True)))) ∧ (decide ((↑x : Int) < (↑(List.length t.snd.fst) : Int)) = false → k [Dat.mk (I) (0 : Int)])))) := by kernel_rfl
theorem vcBoth (a b : Int) (k : List Dat → Prop) : vcF ⟨Eh, [], [], [], []⟩ (anBoth a b) (Tryd.f43.body.getD .skip) Tryd.f43.ntmps [(.tmp 4, I)] [⟨I, a⟩, ⟨I, b⟩] k = (
  (∃ (x : Nat), (x ≤ (61 : Nat) ∧ True) ∧ (a = a.tdiv ((2 : Int) ^ x) ∧ b = b.tdiv ((2 : Int) ^ x) ∧ (0 : Int) = (0 : Int) ∧ (0 : Int) = (↑((a.toNat &&& b.toNat) % (2 : Nat) ^ x) : Int) ∧ (1 : Int) = (2 : Int) ^ x ∧ True) ∧ True ∧ True) ∧ ∀ (x : Nat), x ≤ (61 : Nat) ∧ True → (decide ((0 : Int) < a.tdiv ((2 : Int) ^ x)) = true → (decide ((0 : Int) < b.tdiv ((2 : Int) ^ x)) = true → (2 : Int) ≠ (0 : Int) ∧ inK IntKind.i64 ((a.tdiv ((2 : Int) ^ x)).tmod (2 : Int)) ∧ (decide ((a.tdiv ((2 : Int) ^ x)).tmod (2 : Int) = (1 : Int)) = true → (2 : Int) ≠ (0 : Int) ∧ inK IntKind.i64 ((b.tdiv ((2 : Int) ^ x)).tmod (2 : Int)) ∧ (decide ((b.tdiv ((2 : Int) ^ x)).tmod (2 : Int) = (1 : Int)) = true → inK IntKind.i64 ((↑((a.toNat &&& b.toNat) % (2 : Nat) ^ x) : Int) + (2 : Int) ^ x) ∧ (2 : Int) ≠ (0 : Int) ∧ inK IntKind.i64 ((a.tdiv ((2 : Int) ^ x)).tdiv (2 : Int)) ∧ (2 : Int) ≠ (0 : Int) ∧ inK IntKind.i64 ((b.tdiv ((2 : Int) ^ x)).tdiv (2 : Int)) ∧ inK IntKind.i64 ((2 : Int) ^ x * (2 : Int)) ∧ ∃ (x_1 : Nat), (x_1 ≤ (61 : Nat) ∧ True) ∧ (62 : Nat) - x_1 < (62 : Nat) - x ∧ ((a.tdiv ((2 : Int) ^ x)).tdiv (2 : Int) = a.tdiv ((2 : Int) ^ x_1) ∧ (b.tdiv ((2 : Int) ^ x)).tdiv (2 : Int) = b.tdiv ((2 : Int) ^ x_1) ∧ (0 : Int) = (0 : Int) ∧ (↑((a.toNat &&& b.toNat) % (2 : Nat) ^ x) : Int) + (2 : Int) ^ x = (↑((a.toNat &&& b.toNat) % (2 : Nat) ^ x_1) : Int) ∧ (2 : Int) ^ x * (2 : Int) = (2 : Int) ^ x_1 ∧ True) ∧ True ∧ True) ∧ (decide ((b.tdiv ((2 : Int) ^ x)).tmod (2 : Int) = (1 : Int)) = false → (2 : Int) ≠ (0 : Int) ∧ inK IntKind.i64 ((a.tdiv ((2 : Int) ^ x)).tdiv (2 : Int)) ∧ (2 : Int) ≠ (0 : Int) ∧ inK IntKind.i64 ((b.tdiv ((2 : Int) ^ x)).tdiv (2 : Int)) ∧ inK IntKind.i64 ((2 : Int) ^ x * (2 : Int)) ∧ ∃ (x_1 : Nat), (x_1 ≤ (61 : Nat) ∧ True) ∧ (62 : Nat) - x_1 < (62 : Nat) - x ∧ ((a.tdiv ((2 : Int) ^ x)).tdiv (2 : Int) = a.tdiv ((2 : Int) ^ x_1) ∧ (b.tdiv ((2 : Int) ^ x)).tdiv (2 : Int) = b.tdiv ((2 : Int) ^ x_1) ∧ (0 : Int) = (0 : Int) ∧ (↑((a.toNat &&& b.toNat) % (2 : Nat) ^ x) : Int) = (↑((a.toNat &&& b.toNat) % (2 : Nat) ^ x_1) : Int) ∧ (2 : Int) ^ x * (2 : Int) = (2 : Int) ^ x_1 ∧ True) ∧ True ∧ True)) ∧ (decide ((a.tdiv ((2 : Int) ^ x)).tmod (2 : Int) = (1 : Int)) = false → (2 : Int) ≠ (0 : Int) ∧ inK IntKind.i64 ((a.tdiv ((2 : Int) ^ x)).tdiv (2 : Int)) ∧ (2 : Int) ≠ (0 : Int) ∧ inK IntKind.i64 ((b.tdiv ((2 : Int) ^ x)).tdiv (2 : Int)) ∧ inK IntKind.i64 ((2 : Int) ^ x * (2 : Int)) ∧ ∃ (x_1 : Nat), (x_1 ≤ (61 : Nat) ∧ True) ∧ (62 : Nat) - x_1 < (62 : Nat) - x ∧ ((a.tdiv ((2 : Int) ^ x)).tdiv (2 : Int) = a.tdiv ((2 : Int) ^ x_1) ∧ (b.tdiv ((2 : Int) ^ x)).tdiv (2 : Int) = b.tdiv ((2 : Int) ^ x_1) ∧ (0 : Int) = (0 : Int) ∧ (↑((a.toNat &&& b.toNat) % (2 : Nat) ^ x) : Int) = (↑((a.toNat &&& b.toNat) % (2 : Nat) ^ x_1) : Int) ∧ (2 : Int) ^ x * (2 : Int) = (2 : Int) ^ x_1 ∧ True) ∧ True ∧ True)) ∧ (decide ((0 : Int) < b.tdiv ((2 : Int) ^ x)) = false → k [Dat.mk (I) (↑((a.toNat &&& b.toNat) % (2 : Nat) ^ x) : Int)])) ∧ (decide ((0 : Int) < a.tdiv ((2 : Int) ^ x)) = false → k [Dat.mk (I) (↑((a.toNat &&& b.toNat) % (2 : Nat) ^ x) : Int)])) := by kernel_rfl
theorem vcEither (a b : Int) (k : List Dat → Prop) : vcF ⟨Eh, [(43, cBoth)], [], [], []⟩ [] (Tryd.f33.body.getD .skip) Tryd.f33.ntmps [(.tmp 4, I)] [⟨I, a⟩, ⟨I, b⟩] k = (
  inK IntKind.i64 (a + b) ∧ (a < (2305843009213693952 : Int) ∧ True) ∧ inK IntKind.i64 (a + b - (↑(a.toNat &&& b.toNat) : Int)) ∧ k [Dat.mk (I) (a + b - (↑(a.toNat &&& b.toNat) : Int))]) := by kernel_rfl
theorem vcWith (a i : Int) (k : List Dat → Prop) : vcF ⟨Eh, [(27, cBit), (44, cPow2)], [], [], []⟩ [] (Tryd.f34.body.getD .skip) Tryd.f34.ntmps [(.tmp 4, I)] [⟨I, a⟩, ⟨I, i⟩] k = (
  True ∧ (bitB a i = true → k [Dat.mk (I) a]) ∧ (bitB a i = false → (i ≤ (61 : Int) ∧ True) ∧ inK IntKind.i64 (a + (2 : Int) ^ i.toNat) ∧ k [Dat.mk (I) (a + (2 : Int) ^ i.toNat)])) := by kernel_rfl
theorem vcNth (t : Tr) (i : Int) (k : List Dat → Prop) : vcF ⟨Eh, [], [], [], []⟩ (anNth t i) (Tryd.f35.body.getD .skip) Tryd.f35.ntmps [(.tmp 4, I)] [⟨tTr, t⟩, ⟨I, i⟩] k = (
  (∃ (x : Nat), (x ≤ i.toNat ∧ nthU t.snd.fst i.toNat x ≤ x) ∧ (i = i ∧ ([] : List Nat) = [] ∧ (0 : Int) = (↑(nthU t.snd.fst i.toNat x) : Int) ∧ (0 : Int) = (↑x : Int) ∧ True) ∧ (((24 : Nat) = (24 : Nat) ∧ t = t) ∧ True) ∧ True) ∧ ∀ (x : Nat), x ≤ i.toNat ∧ nthU t.snd.fst i.toNat x ≤ x → (decide ((↑x : Int) < i) = true → ((0 : Int) ≤ (↑x : Int) ∧ (↑x : Int) < (↑(List.length t.snd.fst) : Int) ∧ (0 : Int) ≤ i ∧ i < (↑(List.length t.snd.fst) : Int) ∧ True) ∧ (decide ((List.getD t.snd.fst (↑x : Int).toNat ((0 : Int), (0 : Int), ())).fst = (List.getD t.snd.fst i.toNat ((0 : Int), (0 : Int), ())).fst) = true → inK IntKind.i64 ((↑(nthU t.snd.fst i.toNat x) : Int) + (1 : Int)) ∧ inK IntKind.i64 ((↑x : Int) + (1 : Int)) ∧ ∃ (x_1 : Nat), (x_1 ≤ i.toNat ∧ nthU t.snd.fst i.toNat x_1 ≤ x_1) ∧ i.toNat - x_1 < i.toNat - x ∧ (i = i ∧ ([] : List Nat) = [] ∧ (↑(nthU t.snd.fst i.toNat x) : Int) + (1 : Int) = (↑(nthU t.snd.fst i.toNat x_1) : Int) ∧ (↑x : Int) + (1 : Int) = (↑x_1 : Int) ∧ True) ∧ (((24 : Nat) = (24 : Nat) ∧ t = t) ∧ True) ∧ True) ∧ (decide ((List.getD t.snd.fst (↑x : Int).toNat ((0 : Int), (0 : Int), ())).fst = (List.getD t.snd.fst i.toNat ((0 : Int), (0 : Int), ())).fst) = false → inK IntKind.i64 ((↑x : Int) + (1 : Int)) ∧ ∃ (x_1 : Nat), (x_1 ≤ i.toNat ∧ nthU t.snd.fst i.toNat x_1 ≤ x_1) ∧ i.toNat - x_1 < i.toNat - x ∧ (i = i ∧ ([] : List Nat) = [] ∧ (↑(nthU t.snd.fst i.toNat x) : Int) = (↑(nthU t.snd.fst i.toNat x_1) : Int) ∧ (↑x : Int) + (1 : Int) = (↑x_1 : Int) ∧ True) ∧ (((24 : Nat) = (24 : Nat) ∧ t = t) ∧ True) ∧ True)) ∧ (decide ((↑x : Int) < i) = false → k [Dat.mk (I) (↑(nthU t.snd.fst i.toNat x) : Int)])) := by kernel_rfl
theorem vcRBefore (t : Tr) (k : List Dat → Prop) : vcF ⟨Eh, [(33, cEither), (34, cWith)], [], [], []⟩ (anRBefore t) (Tryd.f11.body.getD .skip) Tryd.f11.ntmps [(.tmp 2, .sl I)] [⟨tTr, t⟩] k = (
  (∃ (x : Nat), (x ≤ t.snd.fst.length ∧ True) ∧ (([] : List Nat) = [] ∧ True ∧ (0 : Int) = (↑x : Int) ∧ True) ∧ (((24 : Nat) = (24 : Nat) ∧ t = t) ∧ ((3 : Nat) = (3 : Nat) ∧ [] = bBs t.snd.fst x) ∧ True) ∧ True) ∧ ∀ (x : Nat), x ≤ t.snd.fst.length ∧ True → (decide ((↑x : Int) < (↑(List.length t.snd.fst) : Int)) = true → (∃ (x_1 : Nat), (x_1 ≤ (↑x : Int).toNat ∧ True) ∧ (([] : List Nat) = [] ∧ True ∧ (↑x : Int) = (↑x : Int) ∧ (0 : Int) = (↑(setU t.snd.fst (↑x : Int).toNat x_1) : Int) ∧ (0 : Int) = (↑x_1 : Int) ∧ True) ∧ (((24 : Nat) = (24 : Nat) ∧ t = t) ∧ ((3 : Nat) = (3 : Nat) ∧ bBs t.snd.fst x = bBs t.snd.fst x) ∧ True) ∧ True) ∧ ∀ (x_1 : Nat), x_1 ≤ (↑x : Int).toNat ∧ True → (decide ((↑x_1 : Int) < (↑x : Int)) = true → ((0 : Int) ≤ (↑x_1 : Int) ∧ (↑x_1 : Int) < (↑(List.length t.snd.fst) : Int) ∧ (0 : Int) ≤ (↑x : Int) ∧ (↑x : Int) < (↑(List.length t.snd.fst) : Int) ∧ (decide ((List.getD t.snd.fst (↑x_1 : Int).toNat ((0 : Int), (0 : Int), ())).fst = (List.getD t.snd.fst (↑x : Int).toNat ((0 : Int), (0 : Int), ())).fst) = true → True) ∧ (decide ((List.getD t.snd.fst (↑x_1 : Int).toNat ((0 : Int), (0 : Int), ())).fst = (List.getD t.snd.fst (↑x : Int).toNat ((0 : Int), (0 : Int), ())).fst) = false → (0 : Int) ≤ (↑x : Int) ∧ (↑x : Int) < (↑(List.length t.snd.fst) : Int) ∧ True)) ∧ ((decide ((List.getD t.snd.fst (↑x_1 : Int).toNat ((0 : Int), (0 : Int), ())).fst = (List.getD t.snd.fst (↑x : Int).toNat ((0 : Int), (0 : Int), ())).fst) || decide ((List.getD t.snd.fst (↑x : Int).toNat ((0 : Int), (0 : Int), ())).snd.fst = (↑x_1 : Int))) = true → (0 : Int) ≤ (↑x_1 : Int) ∧ (↑x_1 : Int) < (↑(bBs t.snd.fst x).length : Int) ∧ (setP ((bBs t.snd.fst x).getD (↑x_1 : Int).toNat (0 : Int)) ∧ (0 : Int) ≤ (↑x_1 : Int) ∧ (↑x_1 : Int) ≤ (59 : Int)) ∧ (setP (↑(setU t.snd.fst (↑x : Int).toNat x_1) : Int) ∧ setP (↑(((bBs t.snd.fst x).getD (↑x_1 : Int).toNat (0 : Int)).toNat ||| (2 : Nat) ^ (↑x_1 : Int).toNat) : Int)) ∧ inK IntKind.i64 ((↑x_1 : Int) + (1 : Int)) ∧ ∃ (x_2 : Nat), (x_2 ≤ (↑x : Int).toNat ∧ True) ∧ t.snd.fst.length - x_2 < t.snd.fst.length - x_1 ∧ (([] : List Nat) = [] ∧ True ∧ (↑x : Int) = (↑x : Int) ∧ (↑((↑(setU t.snd.fst (↑x : Int).toNat x_1) : Int).toNat ||| (↑(((bBs t.snd.fst x).getD (↑x_1 : Int).toNat (0 : Int)).toNat ||| (2 : Nat) ^ (↑x_1 : Int).toNat) : Int).toNat) : Int) = (↑(setU t.snd.fst (↑x : Int).toNat x_2) : Int) ∧ (↑x_1 : Int) + (1 : Int) = (↑x_2 : Int) ∧ True) ∧ (((24 : Nat) = (24 : Nat) ∧ t = t) ∧ ((3 : Nat) = (3 : Nat) ∧ bBs t.snd.fst x = bBs t.snd.fst x) ∧ True) ∧ True) ∧ ((decide ((List.getD t.snd.fst (↑x_1 : Int).toNat ((0 : Int), (0 : Int), ())).fst = (List.getD t.snd.fst (↑x : Int).toNat ((0 : Int), (0 : Int), ())).fst) || decide ((List.getD t.snd.fst (↑x : Int).toNat ((0 : Int), (0 : Int), ())).snd.fst = (↑x_1 : Int))) = false → inK IntKind.i64 ((↑x_1 : Int) + (1 : Int)) ∧ ∃ (x_2 : Nat), (x_2 ≤ (↑x : Int).toNat ∧ True) ∧ t.snd.fst.length - x_2 < t.snd.fst.length - x_1 ∧ (([] : List Nat) = [] ∧ True ∧ (↑x : Int) = (↑x : Int) ∧ (↑(setU t.snd.fst (↑x : Int).toNat x_1) : Int) = (↑(setU t.snd.fst (↑x : Int).toNat x_2) : Int) ∧ (↑x_1 : Int) + (1 : Int) = (↑x_2 : Int) ∧ True) ∧ (((24 : Nat) = (24 : Nat) ∧ t = t) ∧ ((3 : Nat) = (3 : Nat) ∧ bBs t.snd.fst x = bBs t.snd.fst x) ∧ True) ∧ True)) ∧ (decide ((↑x_1 : Int) < (↑x : Int)) = false → (bBs t.snd.fst x).length + ((List.replicate (1 : Nat) (0 : Int)).set (0 : Nat) (↑(setU t.snd.fst (↑x : Int).toNat x_1) : Int)).length ≤ (1000000000 : Nat) ∧ inK IntKind.i64 ((↑x : Int) + (1 : Int)) ∧ ∃ (x_2 : Nat), (x_2 ≤ t.snd.fst.length ∧ True) ∧ t.snd.fst.length - x_2 < t.snd.fst.length - x ∧ (([] : List Nat) = [] ∧ True ∧ (↑x : Int) + (1 : Int) = (↑x_2 : Int) ∧ True) ∧ (((24 : Nat) = (24 : Nat) ∧ t = t) ∧ ((3 : Nat) = (3 : Nat) ∧ (bBs t.snd.fst x).append ((List.replicate (1 : Nat) (0 : Int)).set (0 : Nat) (↑(setU t.snd.fst (↑x : Int).toNat x_1) : Int)) = bBs t.snd.fst x_2) ∧ True) ∧ True)) ∧ (decide ((↑x : Int) < (↑(List.length t.snd.fst) : Int)) = false → k [Dat.mk (I).sl (bBs t.snd.fst x)])) := by kernel_rfl
theorem vcRTimes (t : Tr) (ts : List Int) (k : List Dat → Prop) : vcF ⟨Eh, [(8, cRTrace), (30, cWithin)], [], [], []⟩ (anRTimes t ts) (Tryd.f18.body.getD .skip) Tryd.f18.ntmps [(.tmp 4, I)] [⟨tTr, t⟩, ⟨.sl I, ts⟩] k = (
  True ∧ ((decide (chk t = (0 : Int)) = true → ((!decide ((↑ts.length : Int) = (↑(List.length t.snd.fst) : Int))) = true → ∃ (x : Int), ((x = if chk t = (0 : Int) ∧ ts.length ≠ t.snd.fst.length then (3 : Int) else chk t) ∧ True) ∧ (ts = ts ∧ ([] : List Nat) = [] ∧ (3 : Int) = x ∧ True) ∧ (((24 : Nat) = (24 : Nat) ∧ t = t) ∧ True) ∧ True) ∧ ((!decide ((↑ts.length : Int) = (↑(List.length t.snd.fst) : Int))) = false → ∃ (x : Int), ((x = if chk t = (0 : Int) ∧ ts.length ≠ t.snd.fst.length then (3 : Int) else chk t) ∧ True) ∧ (ts = ts ∧ ([] : List Nat) = [] ∧ chk t = x ∧ True) ∧ (((24 : Nat) = (24 : Nat) ∧ t = t) ∧ True) ∧ True)) ∧ (decide (chk t = (0 : Int)) = false → ∃ (x : Int), ((x = if chk t = (0 : Int) ∧ ts.length ≠ t.snd.fst.length then (3 : Int) else chk t) ∧ True) ∧ (ts = ts ∧ ([] : List Nat) = [] ∧ chk t = x ∧ True) ∧ (((24 : Nat) = (24 : Nat) ∧ t = t) ∧ True) ∧ True)) ∧ ∀ (x : Int), (x = if chk t = (0 : Int) ∧ ts.length ≠ t.snd.fst.length then (3 : Int) else chk t) ∧ True → (∃ (x_1 : Nat × Int), (x_1.fst ≤ ts.length ∧ (x_1.snd = (0 : Int) → chk t = (0 : Int) ∧ ts.length = t.snd.fst.length ∧ (List.take x_1.fst ts).all timeB = true) ∧ (x_1.snd ≠ (0 : Int) → hchk t ts = x_1.snd)) ∧ (ts = ts ∧ ([] : List Nat) = [] ∧ x = x_1.snd ∧ (0 : Int) = (↑x_1.fst : Int) ∧ True) ∧ (((24 : Nat) = (24 : Nat) ∧ t = t) ∧ True) ∧ True) ∧ ∀ (x : Nat × Int), x.fst ≤ ts.length ∧ (x.snd = (0 : Int) → chk t = (0 : Int) ∧ ts.length = t.snd.fst.length ∧ (List.take x.fst ts).all timeB = true) ∧ (x.snd ≠ (0 : Int) → hchk t ts = x.snd) → (decide ((↑x.fst : Int) < (↑ts.length : Int)) = true → (decide (x.snd = (0 : Int)) = true → (0 : Int) ≤ (↑x.fst : Int) ∧ (↑x.fst : Int) < (↑ts.length : Int) ∧ True ∧ ((!inB (ts.getD (↑x.fst : Int).toNat (0 : Int)) (0 : Int) (1000000 : Int)) = true → inK IntKind.i64 ((↑x.fst : Int) + (1 : Int)) ∧ ∃ (x_1 : Nat × Int), (x_1.fst ≤ ts.length ∧ (x_1.snd = (0 : Int) → chk t = (0 : Int) ∧ ts.length = t.snd.fst.length ∧ (List.take x_1.fst ts).all timeB = true) ∧ (x_1.snd ≠ (0 : Int) → hchk t ts = x_1.snd)) ∧ ts.length - x_1.fst < ts.length - x.fst ∧ (ts = ts ∧ ([] : List Nat) = [] ∧ (1 : Int) = x_1.snd ∧ (↑x.fst : Int) + (1 : Int) = (↑x_1.fst : Int) ∧ True) ∧ (((24 : Nat) = (24 : Nat) ∧ t = t) ∧ True) ∧ True) ∧ ((!inB (ts.getD (↑x.fst : Int).toNat (0 : Int)) (0 : Int) (1000000 : Int)) = false → inK IntKind.i64 ((↑x.fst : Int) + (1 : Int)) ∧ ∃ (x_1 : Nat × Int), (x_1.fst ≤ ts.length ∧ (x_1.snd = (0 : Int) → chk t = (0 : Int) ∧ ts.length = t.snd.fst.length ∧ (List.take x_1.fst ts).all timeB = true) ∧ (x_1.snd ≠ (0 : Int) → hchk t ts = x_1.snd)) ∧ ts.length - x_1.fst < ts.length - x.fst ∧ (ts = ts ∧ ([] : List Nat) = [] ∧ x.snd = x_1.snd ∧ (↑x.fst : Int) + (1 : Int) = (↑x_1.fst : Int) ∧ True) ∧ (((24 : Nat) = (24 : Nat) ∧ t = t) ∧ True) ∧ True)) ∧ (decide (x.snd = (0 : Int)) = false → k [Dat.mk (I) x.snd])) ∧ (decide ((↑x.fst : Int) < (↑ts.length : Int)) = false → k [Dat.mk (I) x.snd])) := by kernel_rfl
theorem vcRStamps (t : Tr) (ts : List Int) (k : List Dat → Prop) : vcF ⟨Eh, [(11, cRBeforeG), (27, cBit), (35, cNth)], [], [], []⟩ (anRStamps t ts) (Tryd.f20.body.getD .skip) Tryd.f20.ntmps [(.tmp 4, .sl tSt)] [⟨tTr, t⟩, ⟨.sl I, ts⟩] k = (
  chk t = (0 : Int) ∧ (∃ (x : Nat), (x ≤ t.snd.fst.length ∧ True) ∧ (ts = ts ∧ ([] : List Nat) = [] ∧ ints (befN t) = ints (befN t) ∧ True ∧ (0 : Int) = (↑x : Int) ∧ True) ∧ (((24 : Nat) = (24 : Nat) ∧ t = t) ∧ ((42 : Nat) = (42 : Nat) ∧ [] = stps t.snd.fst ts x) ∧ True) ∧ True) ∧ ∀ (x : Nat), x ≤ t.snd.fst.length ∧ True → (decide ((↑x : Int) < (↑(ints (befN t)).length : Int)) = true → (0 : Int) ≤ (↑x : Int) ∧ (↑x : Int) < (↑ts.length : Int) ∧ (∃ (x_1 : Nat), (x_1 ≤ (↑x : Int).toNat ∧ True) ∧ (ts = ts ∧ ([] : List Nat) = [] ∧ ints (befN t) = ints (befN t) ∧ True ∧ (↑x : Int) = (↑x : Int) ∧ ([] : List Nat) = [] ∧ (0 : Int) = (↑x_1 : Int) ∧ True) ∧ (((24 : Nat) = (24 : Nat) ∧ t = t) ∧ ((42 : Nat) = (42 : Nat) ∧ stps t.snd.fst ts x = stps t.snd.fst ts x) ∧ ((42 : Nat) = (42 : Nat) ∧ (ts.getD (↑x : Int).toNat (0 : Int), (0 : Int), ()) = (timeU t.snd.fst ts (↑x : Int).toNat x_1, (0 : I.D), ())) ∧ True) ∧ True) ∧ ∀ (x_1 : Nat), x_1 ≤ (↑x : Int).toNat ∧ True → (decide ((↑x_1 : Int) < (↑x : Int)) = true → ((0 : Int) ≤ (↑x : Int) ∧ (↑x : Int) < (↑(ints (befN t)).length : Int) ∧ True ∧ (bitB ((ints (befN t)).getD (↑x : Int).toNat (0 : Int)) (↑x_1 : Int) = true → (0 : Int) ≤ (↑x_1 : Int) ∧ (↑x_1 : Int) < (↑ts.length : Int) ∧ True) ∧ (bitB ((ints (befN t)).getD (↑x : Int).toNat (0 : Int)) (↑x_1 : Int) = false → True)) ∧ ((bitB ((ints (befN t)).getD (↑x : Int).toNat (0 : Int)) (↑x_1 : Int) && decide (timeU t.snd.fst ts (↑x : Int).toNat x_1 < ts.getD (↑x_1 : Int).toNat (0 : Int))) = true → (0 : Int) ≤ (↑x_1 : Int) ∧ (↑x_1 : Int) < (↑ts.length : Int) ∧ inK IntKind.i64 ((↑x_1 : Int) + (1 : Int)) ∧ ∃ (x_2 : Nat), (x_2 ≤ (↑x : Int).toNat ∧ True) ∧ t.snd.fst.length - x_2 < t.snd.fst.length - x_1 ∧ (ts = ts ∧ ([] : List Nat) = [] ∧ ints (befN t) = ints (befN t) ∧ True ∧ (↑x : Int) = (↑x : Int) ∧ ([] : List Nat) = [] ∧ (↑x_1 : Int) + (1 : Int) = (↑x_2 : Int) ∧ True) ∧ (((24 : Nat) = (24 : Nat) ∧ t = t) ∧ ((42 : Nat) = (42 : Nat) ∧ stps t.snd.fst ts x = stps t.snd.fst ts x) ∧ ((42 : Nat) = (42 : Nat) ∧ (ts.getD (↑x_1 : Int).toNat (0 : Int), (0 : I.D), ()) = (timeU t.snd.fst ts (↑x : Int).toNat x_2, (0 : I.D), ())) ∧ True) ∧ True) ∧ ((bitB ((ints (befN t)).getD (↑x : Int).toNat (0 : Int)) (↑x_1 : Int) && decide (timeU t.snd.fst ts (↑x : Int).toNat x_1 < ts.getD (↑x_1 : Int).toNat (0 : Int))) = false → inK IntKind.i64 ((↑x_1 : Int) + (1 : Int)) ∧ ∃ (x_2 : Nat), (x_2 ≤ (↑x : Int).toNat ∧ True) ∧ t.snd.fst.length - x_2 < t.snd.fst.length - x_1 ∧ (ts = ts ∧ ([] : List Nat) = [] ∧ ints (befN t) = ints (befN t) ∧ True ∧ (↑x : Int) = (↑x : Int) ∧ ([] : List Nat) = [] ∧ (↑x_1 : Int) + (1 : Int) = (↑x_2 : Int) ∧ True) ∧ (((24 : Nat) = (24 : Nat) ∧ t = t) ∧ ((42 : Nat) = (42 : Nat) ∧ stps t.snd.fst ts x = stps t.snd.fst ts x) ∧ ((42 : Nat) = (42 : Nat) ∧ (timeU t.snd.fst ts (↑x : Int).toNat x_1, (0 : I.D), ()) = (timeU t.snd.fst ts (↑x : Int).toNat x_2, (0 : I.D), ())) ∧ True) ∧ True)) ∧ (decide ((↑x_1 : Int) < (↑x : Int)) = false → (∃ (x_2 : Nat), (x_2 ≤ (↑x : Int).toNat ∧ True) ∧ (ts = ts ∧ ([] : List Nat) = [] ∧ ints (befN t) = ints (befN t) ∧ True ∧ (↑x : Int) = (↑x : Int) ∧ ([] : List Nat) = [] ∧ (0 : Int) = (↑x_2 : Int) ∧ True) ∧ (((24 : Nat) = (24 : Nat) ∧ t = t) ∧ ((42 : Nat) = (42 : Nat) ∧ stps t.snd.fst ts x = stps t.snd.fst ts x) ∧ ((42 : Nat) = (42 : Nat) ∧ (timeU t.snd.fst ts (↑x : Int).toNat x_1, (0 : I.D), ()) = (timeU t.snd.fst ts (↑x : Int).toNat (↑x : Int).toNat, cntU t.snd.fst ts (↑x : Int).toNat x_2, ())) ∧ True) ∧ True) ∧ ∀ (x_2 : Nat), x_2 ≤ (↑x : Int).toNat ∧ True → (decide ((↑x_2 : Int) < (↑x : Int)) = true → ((0 : Int) ≤ (↑x : Int) ∧ (↑x : Int) < (↑(List.length t.snd.fst) : Int) ∧ (decide ((List.getD t.snd.fst (↑x : Int).toNat ((0 : Int), (0 : Int), ())).snd.fst = (↑x_2 : Int)) = true → True) ∧ (decide ((List.getD t.snd.fst (↑x : Int).toNat ((0 : Int), (0 : Int), ())).snd.fst = (↑x_2 : Int)) = false → (0 : Int) ≤ (↑x_2 : Int) ∧ (↑x_2 : Int) < (↑(List.length t.snd.fst) : Int) ∧ (0 : Int) ≤ (↑x : Int) ∧ (↑x : Int) < (↑(List.length t.snd.fst) : Int) ∧ (decide ((List.getD t.snd.fst (↑x_2 : Int).toNat ((0 : Int), (0 : Int), ())).fst = (List.getD t.snd.fst (↑x : Int).toNat ((0 : Int), (0 : Int), ())).fst) = true → ((0 : Int) ≤ (↑x_2 : Int) ∧ (↑x_2 : Int) < (↑t.snd.fst.length : Int)) ∧ inK IntKind.i64 ((↑(nth t.snd.fst (↑x_2 : Int).toNat) : Int) + (1 : Int)) ∧ ((0 : Int) ≤ (↑x : Int) ∧ (↑x : Int) < (↑t.snd.fst.length : Int)) ∧ True) ∧ (decide ((List.getD t.snd.fst (↑x_2 : Int).toNat ((0 : Int), (0 : Int), ())).fst = (List.getD t.snd.fst (↑x : Int).toNat ((0 : Int), (0 : Int), ())).fst) = false → True))) ∧ (((decide ((List.getD t.snd.fst (↑x : Int).toNat ((0 : Int), (0 : Int), ())).snd.fst = (↑x_2 : Int)) || decide ((List.getD t.snd.fst (↑x_2 : Int).toNat ((0 : Int), (0 : Int), ())).fst = (List.getD t.snd.fst (↑x : Int).toNat ((0 : Int), (0 : Int), ())).fst) && decide ((↑(nth t.snd.fst (↑x_2 : Int).toNat) : Int) + (1 : Int) = (↑(nth t.snd.fst (↑x : Int).toNat) : Int))) = true → (0 : Int) ≤ (↑x_2 : Int) ∧ (↑x_2 : Int) < (↑(stps t.snd.fst ts x).length : Int) ∧ (decide (((stps t.snd.fst ts x).getD (↑x_2 : Int).toNat ((0 : Int), (0 : Int), ())).fst = timeU t.snd.fst ts (↑x : Int).toNat (↑x : Int).toNat) = true → (0 : Int) ≤ (↑x_2 : Int) ∧ (↑x_2 : Int) < (↑(stps t.snd.fst ts x).length : Int) ∧ inK IntKind.i64 (((stps t.snd.fst ts x).getD (↑x_2 : Int).toNat ((0 : Int), (0 : Int), ())).snd.fst + (1 : Int)) ∧ True) ∧ (decide (((stps t.snd.fst ts x).getD (↑x_2 : Int).toNat ((0 : Int), (0 : Int), ())).fst = timeU t.snd.fst ts (↑x : Int).toNat (↑x : Int).toNat) = false → True)) ∧ ((decide ((List.getD t.snd.fst (↑x : Int).toNat ((0 : Int), (0 : Int), ())).snd.fst = (↑x_2 : Int)) || decide ((List.getD t.snd.fst (↑x_2 : Int).toNat ((0 : Int), (0 : Int), ())).fst = (List.getD t.snd.fst (↑x : Int).toNat ((0 : Int), (0 : Int), ())).fst) && decide ((↑(nth t.snd.fst (↑x_2 : Int).toNat) : Int) + (1 : Int) = (↑(nth t.snd.fst (↑x : Int).toNat) : Int))) = false → True)) ∧ (((decide ((List.getD t.snd.fst (↑x : Int).toNat ((0 : Int), (0 : Int), ())).snd.fst = (↑x_2 : Int)) || decide ((List.getD t.snd.fst (↑x_2 : Int).toNat ((0 : Int), (0 : Int), ())).fst = (List.getD t.snd.fst (↑x : Int).toNat ((0 : Int), (0 : Int), ())).fst) && decide ((↑(nth t.snd.fst (↑x_2 : Int).toNat) : Int) + (1 : Int) = (↑(nth t.snd.fst (↑x : Int).toNat) : Int))) && (decide (((stps t.snd.fst ts x).getD (↑x_2 : Int).toNat ((0 : Int), (0 : Int), ())).fst = timeU t.snd.fst ts (↑x : Int).toNat (↑x : Int).toNat) && decide (cntU t.snd.fst ts (↑x : Int).toNat x_2 < ((stps t.snd.fst ts x).getD (↑x_2 : Int).toNat ((0 : Int), (0 : Int), ())).snd.fst + (1 : Int)))) = true → (0 : Int) ≤ (↑x_2 : Int) ∧ (↑x_2 : Int) < (↑(stps t.snd.fst ts x).length : Int) ∧ inK IntKind.i64 (((stps t.snd.fst ts x).getD (↑x_2 : Int).toNat ((0 : Int), (0 : Int), ())).snd.fst + (1 : Int)) ∧ inK IntKind.i64 ((↑x_2 : Int) + (1 : Int)) ∧ ∃ (x_3 : Nat), (x_3 ≤ (↑x : Int).toNat ∧ True) ∧ t.snd.fst.length - x_3 < t.snd.fst.length - x_2 ∧ (ts = ts ∧ ([] : List Nat) = [] ∧ ints (befN t) = ints (befN t) ∧ True ∧ (↑x : Int) = (↑x : Int) ∧ ([] : List Nat) = [] ∧ (↑x_2 : Int) + (1 : Int) = (↑x_3 : Int) ∧ True) ∧ (((24 : Nat) = (24 : Nat) ∧ t = t) ∧ ((42 : Nat) = (42 : Nat) ∧ stps t.snd.fst ts x = stps t.snd.fst ts x) ∧ ((42 : Nat) = (42 : Nat) ∧ (timeU t.snd.fst ts (↑x : Int).toNat (↑x : Int).toNat, ((stps t.snd.fst ts x).getD (↑x_2 : Int).toNat ((0 : Int), (0 : Int), ())).snd.fst + (1 : Int), ()) = (timeU t.snd.fst ts (↑x : Int).toNat (↑x : Int).toNat, cntU t.snd.fst ts (↑x : Int).toNat x_3, ())) ∧ True) ∧ True) ∧ (((decide ((List.getD t.snd.fst (↑x : Int).toNat ((0 : Int), (0 : Int), ())).snd.fst = (↑x_2 : Int)) || decide ((List.getD t.snd.fst (↑x_2 : Int).toNat ((0 : Int), (0 : Int), ())).fst = (List.getD t.snd.fst (↑x : Int).toNat ((0 : Int), (0 : Int), ())).fst) && decide ((↑(nth t.snd.fst (↑x_2 : Int).toNat) : Int) + (1 : Int) = (↑(nth t.snd.fst (↑x : Int).toNat) : Int))) && (decide (((stps t.snd.fst ts x).getD (↑x_2 : Int).toNat ((0 : Int), (0 : Int), ())).fst = timeU t.snd.fst ts (↑x : Int).toNat (↑x : Int).toNat) && decide (cntU t.snd.fst ts (↑x : Int).toNat x_2 < ((stps t.snd.fst ts x).getD (↑x_2 : Int).toNat ((0 : Int), (0 : Int), ())).snd.fst + (1 : Int)))) = false → inK IntKind.i64 ((↑x_2 : Int) + (1 : Int)) ∧ ∃ (x_3 : Nat), (x_3 ≤ (↑x : Int).toNat ∧ True) ∧ t.snd.fst.length - x_3 < t.snd.fst.length - x_2 ∧ (ts = ts ∧ ([] : List Nat) = [] ∧ ints (befN t) = ints (befN t) ∧ True ∧ (↑x : Int) = (↑x : Int) ∧ ([] : List Nat) = [] ∧ (↑x_2 : Int) + (1 : Int) = (↑x_3 : Int) ∧ True) ∧ (((24 : Nat) = (24 : Nat) ∧ t = t) ∧ ((42 : Nat) = (42 : Nat) ∧ stps t.snd.fst ts x = stps t.snd.fst ts x) ∧ ((42 : Nat) = (42 : Nat) ∧ (timeU t.snd.fst ts (↑x : Int).toNat (↑x : Int).toNat, cntU t.snd.fst ts (↑x : Int).toNat x_2, ()) = (timeU t.snd.fst ts (↑x : Int).toNat (↑x : Int).toNat, cntU t.snd.fst ts (↑x : Int).toNat x_3, ())) ∧ True) ∧ True)) ∧ (decide ((↑x_2 : Int) < (↑x : Int)) = false → (stps t.snd.fst ts x).length + ((List.replicate (1 : Nat) ((0 : Int), (0 : Int), ())).set (0 : Nat) (timeU t.snd.fst ts (↑x : Int).toNat (↑x : Int).toNat, cntU t.snd.fst ts (↑x : Int).toNat x_2, ())).length ≤ (1000000000 : Nat) ∧ inK IntKind.i64 ((↑x : Int) + (1 : Int)) ∧ ∃ (x_3 : Nat), (x_3 ≤ t.snd.fst.length ∧ True) ∧ t.snd.fst.length - x_3 < t.snd.fst.length - x ∧ (ts = ts ∧ ([] : List Nat) = [] ∧ ints (befN t) = ints (befN t) ∧ True ∧ (↑x : Int) + (1 : Int) = (↑x_3 : Int) ∧ True) ∧ (((24 : Nat) = (24 : Nat) ∧ t = t) ∧ ((42 : Nat) = (42 : Nat) ∧ (stps t.snd.fst ts x).append ((List.replicate (1 : Nat) ((0 : Int), (0 : Int), ())).set (0 : Nat) (timeU t.snd.fst ts (↑x : Int).toNat (↑x : Int).toNat, cntU t.snd.fst ts (↑x : Int).toNat x_2, ())) = stps t.snd.fst ts x_3) ∧ True) ∧ True))) ∧ (decide ((↑x : Int) < (↑(ints (befN t)).length : Int)) = false → k [Dat.mk (tEv).sl (stps t.snd.fst ts x)])) := by kernel_rfl
theorem vcLess (a b : Stp) (k : List Dat → Prop) : vcF ⟨Eh, [], [], [], []⟩ [joinAll] (Tryd.f23.body.getD .skip) Tryd.f23.ntmps [(.tmp 4, .bool)] [⟨tSt, a⟩, ⟨tSt, b⟩] k = (
  (decide (a.fst < b.fst) = true → k [Dat.mk Ty.bool true]) ∧ (decide (a.fst < b.fst) = false → (decide (a.fst = b.fst) = true → k [Dat.mk Ty.bool (decide (a.snd.fst < b.snd.fst))]) ∧ (decide (a.fst = b.fst) = false → k [Dat.mk Ty.bool false]))) := by kernel_rfl
end Go.Proofs.YtgbpjjinhjikeaaDoor

/- Traces: the document's functions keep their contracts. -/
namespace Go.Proofs.YtgbpjjinhjikeaaDoor
open Go.Vc

theorem okRIn : PlainOk Tryd.prog [] 30 cWithin := by
  refine plain_of (CxOk.mk' Eh_ok (by kernel_rfl) mixed (gl := []) GOk.nil GoOk.nil noIt) Tryd.func30 (c := Tryd.f30.body.getD .skip) (rvs := [(.tmp 6, .bool)]) (by kernel_rfl) (by kernel_rfl) (by kernel_rfl) ?_
  intro ds k ⟨hp, hk⟩ hwf
  obtain ⟨a, b, c, rfl, -⟩ := dest3 hp
  have hk : k [⟨.bool, inB a b c⟩] := hk
  refine ⟨[joinAll], ?_⟩
  rw [vcRIn]
  unfold inB at hk
  refine ⟨fun h => ?_, fun h => ?_⟩ <;> simpa [h] using hk

theorem rtrace_vc (t : Tr) (ht : inK .i64 t.1) (k : List Dat → Prop) (hk : k [⟨I, chk t⟩]) : vcF ⟨Eh, [(30, cWithin)], [], [], []⟩ (anRTrace t) (Tryd.f8.body.getD .skip) Tryd.f8.ntmps [(.tmp 2, I)] [⟨tTr, t⟩] k := by
  rw [vcRTrace]
  have ret : ∀ x : Int, chk t = x → k [⟨I, x⟩] := by rintro _ rfl; exact hk
  simp only [decide_eq_true_eq, decide_eq_false_iff_not, and_true, true_and, ne_eq, Bool.not_eq_true', Bool.not_eq_false', Int.toNat_natCast]
  refine ⟨fun h => ret _ (by unfold chk; rw [if_pos h]), fun h => ⟨fun g => ret _ (by unfold chk; rw [if_neg (by rw [h]; decide), if_pos (by omega)]), fun g => ?_⟩⟩
  have hp : 1 ≤ t.1 ∧ t.1 ≤ 5 := by simpa [inB] using h
  have hlen : t.2.1.length ≤ 24 := by omega
  have hc0 : chk t = evsErr t.1 t.2.1 t.2.1.length 0 := by
    unfold chk; rw [if_neg (by rw [h]; decide), if_neg (by omega)]
  have hstep : ∀ x, x < t.2.1.length → evsErr t.1 t.2.1 (t.2.1.length - x) x = if evErr t.1 t.2.1 x = 0 then evsErr t.1 t.2.1 (t.2.1.length - (x + 1)) (x + 1) else evErr t.1 t.2.1 x := by
    intro x hx
    rw [show t.2.1.length - x = (t.2.1.length - (x + 1)) + 1 by omega]
    rfl
  refine ⟨⟨0, ⟨hc0, Nat.zero_le _⟩, rfl⟩, fun x ⟨hx, hxl⟩ => ⟨fun hlt => ?_, fun hge => ret _ ?_⟩⟩
  · have hst := hstep x (by omega)
    have bad : ∀ n, evErr t.1 t.2.1 x = n → n ≠ 0 → k [⟨I, n⟩] := fun n h1 h2 => ret n (by rw [hx, hst, if_neg (by rw [h1]; exact h2), h1])
    have good : evErr t.1 t.2.1 x = 0 → inK IntKind.i64 ((x : Int) + 1) ∧ ∃ x', (chk t = evsErr t.1 t.2.1 (t.2.1.length - x') x' ∧ x' ≤ t.2.1.length) ∧ t.2.1.length - x' < t.2.1.length - x ∧ (x : Int) + 1 = (x' : Int) := fun h1 =>
      ⟨inK_i64.2 (by omega), x + 1, ⟨by rw [hx, hst, if_pos h1], by omega⟩, by omega, by omega⟩
    have hpi : inK .i64 (t.1 - 1) := inK_i64.2 (by omega)
    refine ⟨by omega, hlt, hpi, fun h1 => bad 1 ?_ (by decide), fun h1 => ⟨inK_i64.2 (by omega), fun h2 => bad 1 ?_ (by decide), fun h2 => ⟨⟨fun h3 => ⟨h3, ?_⟩, fun _ => trivial⟩, fun h4 => bad 6 ?_ (by decide), fun h4 => good ?_⟩⟩⟩
    · unfold evErr; rw [if_pos (by rw [h1]; rfl)]
    · unfold evErr; rw [if_pos (by rw [h1, h2]; rfl)]
    · have : (t.2.1.getD x (0, 0, ())).2.1 ≤ (x : Int) - 1 := by
        simp only [inB, Bool.and_eq_true, decide_eq_true_eq] at h2; exact h2.2
      omega
    · rw [Bool.and_eq_true, decide_eq_true_eq, decide_eq_true_eq] at h4
      unfold evErr; rw [if_neg (by rw [h1, h2]; decide), if_pos h4]
    · unfold evErr; rw [if_neg (by rw [h1, h2]; decide), if_neg]
      rintro ⟨ha, hb⟩
      rw [decide_eq_true ha, decide_eq_true hb] at h4
      cases h4
  · have : x = t.2.1.length := by omega
    rw [hx, this, Nat.sub_self]; rfl

theorem okRTrace : PlainOk Tryd.prog [] 8 cRTrace := by
  refine plain_of (CxOk.mk' Eh_ok (by kernel_rfl) mixed (gl := []) (GOk.cons okRIn Tryd.func30 (by kernel_rfl) (by kernel_rfl) GOk.nil) GoOk.nil noIt) Tryd.func8 (c := Tryd.f8.body.getD .skip) (rvs := [(.tmp 2, I)]) (by kernel_rfl) (by kernel_rfl) (by kernel_rfl) ?_
  intro ds k ⟨hp, hk⟩ hwf
  obtain ⟨t, rfl, -⟩ := dest1 hp
  exact ⟨anRTrace t, rtrace_vc t (wf1 hwf).1 k hk⟩

theorem bitB_nat (a k : Nat) : bitB (a : Int) (k : Int) = a.testBit k := by
  unfold bitB
  simp
theorem both_step (a b x : Nat) : (a &&& b) % 2 ^ (x + 1) = (a &&& b) % 2 ^ x + (if a.testBit x = true ∧ b.testBit x = true then 2 ^ x else 0) := by
  have h : (a.testBit x = true ∧ b.testBit x = true) ↔ (a &&& b) / 2 ^ x % 2 = 1 := by
    have := Nat.testBit_and a b x
    rw [Nat.testBit_eq_decide_div_mod_eq] at this
    rw [← Bool.and_eq_true, ← this, decide_eq_true_eq]
  rw [Nat.mod_pow_succ]
  by_cases hb : (a &&& b) / 2 ^ x % 2 = 1
  · rw [if_pos (h.2 hb), hb, Nat.mul_one]
  · have h0 : (a &&& b) / 2 ^ x % 2 = 0 := by omega
    rw [if_neg (fun e => hb (h.1 e)), h0, Nat.mul_zero]

theorem tmod_bit (n x : Nat) : (((n : Int).tdiv ((2 : Int) ^ x)).tmod 2 = 1) ↔ n.testBit x = true := by
  have h := bit_of (s := (n : Int)) (x := x)
  rw [bitB_nat] at h
  constructor
  · intro e; rw [← h]; exact decide_eq_true e
  · intro e; rw [e] at h; exact of_decide_eq_true h

theorem okBoth : PlainOk Tryd.prog [] 43 cBoth := by
  refine plain_of (CxOk.mk' Eh_ok (by kernel_rfl) mixed (gl := []) GOk.nil GoOk.nil noIt) Tryd.func43 (c := Tryd.f43.body.getD .skip) (rvs := [(.tmp 4, I)]) (by kernel_rfl) (by kernel_rfl) (by kernel_rfl) ?_
  intro ds k ⟨hp, hk⟩ hwf
  obtain ⟨a, b, rfl, ha61, -⟩ := dest2 hp
  have hk : k [⟨I, ((a.toNat &&& b.toNat : Nat) : Int)⟩] := hk
  have ha : inK .i64 a := (wf2 hwf).1
  have hb : inK .i64 b := (wf2 hwf).2
  have hbi := inK_i64.1 hb
  refine ⟨anBoth a b, ?_⟩
  rw [vcBoth]
  simp only [decide_eq_true_eq, decide_eq_false_iff_not, and_true, true_and, ne_eq]
  have h20 : ¬ (2 : Int) = 0 := by decide
  have fin : ∀ (s : Int) (x : Nat), ¬ 0 < s.tdiv ((2 : Int) ^ x) → s.toNat < 2 ^ x := by
    intro s x h
    by_cases hs : 0 ≤ s
    · obtain ⟨n, rfl⟩ := Int.eq_ofNat_of_zero_le hs
      rw [tdivN] at h
      have h0 : n / 2 ^ x = 0 := by
        generalize n / 2 ^ x = q at h
        omega
      rcases Nat.lt_or_ge n (2 ^ x) with h | h
      · exact h
      · have := Nat.div_pos h (Nat.two_pow_pos x); omega
    · have : s.toNat = 0 := by omega
      rw [this]; exact Nat.two_pow_pos x
  have fink : ∀ x : Nat, (a.toNat &&& b.toNat) < 2 ^ x → k [⟨I, (((a.toNat &&& b.toNat) % 2 ^ x : Nat) : Int)⟩] := by
    intro x h; rw [Nat.mod_eq_of_lt h]; exact hk
  refine ⟨⟨0, by omega, by simp, by simp, by simp [Nat.mod_one], rfl⟩, fun x hx => ⟨fun hA => ⟨fun hB => ?_, fun hB => fink x (Nat.lt_of_le_of_lt Nat.and_le_right (fin b x hB))⟩, fun hA => fink x (Nat.lt_of_le_of_lt Nat.and_le_left (fin a x hA))⟩⟩
  have hpos := two_pow_pos x
  have hapos : 0 ≤ a := by
    refine Int.not_lt.1 fun hneg => ?_
    have := Int.tdiv_nonneg (a := -a) (b := (2 : Int) ^ x) (by omega) (by omega)
    rw [Int.neg_tdiv] at this; omega
  have hbpos : 0 ≤ b := by
    refine Int.not_lt.1 fun hneg => ?_
    have := Int.tdiv_nonneg (a := -b) (b := (2 : Int) ^ x) (by omega) (by omega)
    rw [Int.neg_tdiv] at this; omega
  obtain ⟨m, rfl⟩ := Int.eq_ofNat_of_zero_le hapos
  obtain ⟨n, rfl⟩ := Int.eq_ofNat_of_zero_le hbpos
  simp only [Int.toNat_natCast] at *
  have hx60 : x ≤ 60 := by
    rcases Nat.lt_or_ge x 61 with h | h
    · omega
    · rw [tdivN] at hA
      have h61 : (2 : Nat) ^ 61 = 2305843009213693952 := by decide
      have hpw : 2 ^ 61 ≤ 2 ^ x := Nat.pow_le_pow_right (by decide) h
      have hm61 : m < 2 ^ 61 := by rw [h61]; omega
      have h0 : m / 2 ^ x = 0 := Nat.div_eq_of_lt (Nat.lt_of_lt_of_le hm61 hpw)
      rw [h0] at hA
      exact absurd hA (by decide)
  have hp2 : (2 : Int) ^ x * 2 = 2 ^ (x + 1) := by rw [Int.pow_succ]
  have hple := two_pow_le (n := x + 1) (by omega)
  have hplx : (2 : Int) ^ x ≤ 2 ^ (x + 1) := by rw [← hp2]; omega
  have hcast : ((2 ^ x : Nat) : Int) = (2 : Int) ^ x := by rw [Int.natCast_pow]; rfl
  have hmod : (((m &&& n) % 2 ^ x : Nat) : Int) < (2 : Int) ^ x := by
    rw [← hcast]; exact Int.ofNat_lt.2 (Nat.mod_lt _ (Nat.two_pow_pos x))
  have hst := both_step m n x
  have nxt : ∀ v : Int, (v = (((m &&& n) % 2 ^ (x + 1) : Nat) : Int)) → ¬(2 : Int) = 0 ∧ inK .i64 (((m : Int).tdiv ((2 : Int) ^ x)).tdiv 2) ∧ ¬(2 : Int) = 0 ∧ inK .i64 (((n : Int).tdiv ((2 : Int) ^ x)).tdiv 2) ∧ inK .i64 ((2 : Int) ^ x * 2) ∧ ∃ x_1 : Nat, x_1 ≤ 61 ∧ 62 - x_1 < 62 - x ∧ ((m : Int).tdiv ((2 : Int) ^ x)).tdiv 2 = (m : Int).tdiv ((2 : Int) ^ x_1) ∧
      ((n : Int).tdiv ((2 : Int) ^ x)).tdiv 2 = (n : Int).tdiv ((2 : Int) ^ x_1) ∧ v = (((m &&& n) % 2 ^ x_1 : Nat) : Int) ∧ (2 : Int) ^ x * 2 = 2 ^ x_1 := by
    intro v hv
    refine ⟨h20, by rw [tdiv_pow]; exact (tdiv_in ha (x + 1)).1, h20, by rw [tdiv_pow]; exact (tdiv_in hb (x + 1)).1, inK_i64.2 (by rw [hp2]; omega), x + 1, by omega, by omega, tdiv_pow _ _, tdiv_pow _ _, hv, hp2⟩
  refine ⟨h20, (tdiv_in ha x).2, fun hAb => ⟨h20, (tdiv_in hb x).2, fun hBb => ⟨inK_i64.2 (by omega), nxt _ ?_⟩, fun hBb => nxt _ ?_⟩, fun hAb => nxt _ ?_⟩
  · rw [tmod_bit] at hAb hBb
    rw [hst, if_pos ⟨hAb, hBb⟩]
    omega
  · rw [tmod_bit] at hBb
    rw [hst, if_neg (fun h => hBb h.2)]; rfl
  · rw [tmod_bit] at hAb
    rw [hst, if_neg (fun h => hAb h.1)]; rfl


theorem either_eq (a b : Int) (ha : 0 ≤ a) (hb : 0 ≤ b) : a + b - ((a.toNat &&& b.toNat : Nat) : Int) = ((a.toNat ||| b.toNat : Nat) : Int) ∧ 0 ≤ a + b - ((a.toNat &&& b.toNat : Nat) : Int) ∧ a + b - ((a.toNat &&& b.toNat : Nat) : Int) ≤ a + b := by
  have h := or_and_add a.toNat b.toNat
  generalize a.toNat &&& b.toNat = p at *
  generalize a.toNat ||| b.toNat = q at *
  omega
theorem okEither : PlainOk Tryd.prog [] 33 cEither := by
  refine plain_of (CxOk.mk' Eh_ok (by kernel_rfl) mixed (gl := []) (GOk.cons okBoth Tryd.func43 (by kernel_rfl) (by kernel_rfl) GOk.nil) GoOk.nil noIt) Tryd.func33 (c := Tryd.f33.body.getD .skip) (rvs := [(.tmp 4, I)]) (by kernel_rfl) (by kernel_rfl) (by kernel_rfl) ?_
  intro ds k ⟨hp, hk⟩ hwf
  obtain ⟨a, b, rfl, ⟨ha, ha'⟩, hb, hb'⟩ := dest2 hp
  have hk : k [⟨I, ((a.toNat ||| b.toNat : Nat) : Int)⟩] := hk
  refine ⟨[], ?_⟩
  rw [vcEither]
  obtain ⟨he, h1, h2⟩ := either_eq a b ha hb
  have ha'' : a < (1152921504606846976 : Int) := ha'
  have hb'' : b < (1152921504606846976 : Int) := hb'
  refine ⟨inK_i64.2 ⟨by have := Int.add_nonneg ha hb; omega, by have := Int.add_lt_add ha'' hb''; omega⟩, ⟨by omega, trivial⟩, inK_i64.2 ⟨by omega, by have := Int.add_lt_add ha'' hb''; omega⟩, ?_⟩
  rw [he]; exact hk

theorem okWith : PlainOk Tryd.prog [] 34 cWith := by
  refine plain_of (CxOk.mk' Eh_ok (by kernel_rfl) mixed (gl := []) (GOk.cons okBit Tryd.func27 (by kernel_rfl) (by kernel_rfl) (GOk.cons okPow2 Tryd.func44 (by kernel_rfl) (by kernel_rfl) GOk.nil)) GoOk.nil noIt) Tryd.func34 (c := Tryd.f34.body.getD .skip) (rvs := [(.tmp 4, I)]) (by kernel_rfl) (by kernel_rfl) (by kernel_rfl) ?_
  intro ds k ⟨hp, hk⟩ hwf
  obtain ⟨a, i, rfl, ⟨ha, ha'⟩, hi, hi'⟩ := dest2 hp
  have hk : k [⟨I, ((a.toNat ||| 2 ^ i.toNat : Nat) : Int)⟩] := hk
  obtain ⟨m, rfl⟩ := Int.eq_ofNat_of_zero_le ha
  obtain ⟨n, rfl⟩ := Int.eq_ofNat_of_zero_le hi
  simp only [Int.toNat_natCast] at hk
  refine ⟨[], ?_⟩
  rw [vcWith, bitB_nat]
  have h2 := two_pow_le (n := n) (by omega)
  have h3 := two_pow_pos n
  refine ⟨trivial, fun h => ?_, fun h => ⟨⟨by omega, trivial⟩, ?_, ?_⟩⟩
  · rw [or_pow_in h] at hk; exact hk
  · rw [Int.toNat_natCast, inK_i64]; omega
  · rw [or_pow_out h, Int.natCast_add, Int.natCast_pow] at hk; exact hk

theorem okLess : PlainOk Tryd.prog [] 23 cLess := by
  refine plain_of (CxOk.mk' Eh_ok (by kernel_rfl) mixed (gl := []) GOk.nil GoOk.nil noIt) Tryd.func23 (c := Tryd.f23.body.getD .skip) (rvs := [(.tmp 4, .bool)]) (by kernel_rfl) (by kernel_rfl) (by kernel_rfl) ?_
  intro ds k ⟨hp, hk⟩ hwf
  obtain ⟨a, b, rfl, -⟩ := dest2 hp
  have hk : k [⟨.bool, lessB a b⟩] := hk
  refine ⟨[joinAll], ?_⟩
  rw [vcLess]
  unfold lessB at hk
  refine ⟨fun h => ?_, fun h => ⟨fun h2 => ?_, fun h2 => ?_⟩⟩
  · rw [h] at hk; exact hk
  · rw [h, h2] at hk; exact hk
  · rw [h, h2] at hk; exact hk

theorem nth_vc (t : Tr) (i : Int) (hi : 0 ≤ i ∧ i < t.2.1.length) (hl : t.2.1.length ≤ maxLen) (k : List Dat → Prop) (hk : k [⟨I, (nth t.2.1 i.toNat : Int)⟩]) : vcF ⟨Eh, [], [], [], []⟩ (anNth t i) (Tryd.f35.body.getD .skip) Tryd.f35.ntmps [(.tmp 4, I)] [⟨tTr, t⟩, ⟨I, i⟩] k := by
  rw [vcNth]
  have hml : maxLen ≤ 9223372036854775807 := by decide
  simp only [decide_eq_true_eq, decide_eq_false_iff_not, and_true, true_and, Int.toNat_natCast, inK_i64]
  refine ⟨⟨0, ⟨Nat.zero_le _, Nat.le_refl _⟩, rfl, rfl⟩, fun x ⟨hx, hn⟩ => ⟨fun hlt => ⟨⟨by omega, by omega, hi.1, hi.2⟩, fun he => ?_, fun he => ?_⟩, fun hge => ?_⟩⟩
  · have e : nthU t.2.1 i.toNat (x + 1) = nthU t.2.1 i.toNat x + 1 := by rw [nthU, if_pos he]
    exact ⟨by omega, by omega, x + 1, ⟨by omega, by omega⟩, by omega, by rw [e]; rfl, rfl⟩
  · have e : nthU t.2.1 i.toNat (x + 1) = nthU t.2.1 i.toNat x := by rw [nthU, if_neg he]
    exact ⟨by omega, x + 1, ⟨by omega, by omega⟩, by omega, by rw [e], rfl⟩
  · have : x = i.toNat := by omega
    rw [this]; exact hk
theorem okNth : PlainOk Tryd.prog [] 35 cNth := by
  refine plain_of (CxOk.mk' Eh_ok (by kernel_rfl) mixed (gl := []) GOk.nil GoOk.nil noIt) Tryd.func35 (c := Tryd.f35.body.getD .skip) (rvs := [(.tmp 4, I)]) (by kernel_rfl) (by kernel_rfl) (by kernel_rfl) ?_
  intro ds k ⟨hp, hk⟩ hwf
  obtain ⟨t, i, rfl, hi⟩ := dest2 hp
  exact ⟨anNth t i, nth_vc t i hi (wf2 hwf).1.2.1.1 k hk⟩

theorem small_of {n m : Nat} (h : n < 2 ^ m) (hm : m ≤ 25) : setP (n : Int) := by
  have : 2 ^ m ≤ 2 ^ 25 := Nat.pow_le_pow_right (by decide) hm
  unfold setP
  omega
theorem rbefore_vc (t : Tr) (hc : chk t = 0) (k : List Dat → Prop) (hk : k [⟨.sl I, ints (befN t)⟩]) : vcF ⟨Eh, [(33, cEither), (34, cWith)], [], [], []⟩ (anRBefore t) (Tryd.f11.body.getD .skip) Tryd.f11.ntmps [(.tmp 2, .sl I)] [⟨tTr, t⟩] k := by
  rw [vcRBefore]
  have g := gd_of hc
  simp only [decide_eq_true_eq, decide_eq_false_iff_not, and_true, true_and, Int.toNat_natCast, inK_i64, bBs_len]
  have hl := g.len
  refine ⟨⟨0, Nat.zero_le _, rfl, rfl⟩, fun x hx => ⟨fun hlt => ?_, fun hge => ?_⟩⟩
  · have hxl : x < t.2.1.length := by omega
    refine ⟨⟨0, Nat.zero_le _, rfl, rfl⟩, fun y hy => ⟨fun hyx => ?_, fun hyx => ?_⟩⟩
    · have hyx : y < x := by omega
      refine ⟨⟨by omega, by omega, by omega, hlt, fun _ => trivial, fun _ => ⟨by omega, hlt⟩⟩, fun hm => ?_, fun hm => ?_⟩
      · have hm' : mustB t.2.1 x y = true := hm
        have hb := bB_lt g.p g.f (i := y) (by omega)
        have hs := setU_lt g hxl y (by omega)
        rw [bBs_at hyx, Int.toNat_natCast]
        refine ⟨by omega, by omega, ⟨small_of hb (by omega), by omega, by omega⟩, ⟨small_of hs (by omega), small_of (m := y + 1) (Nat.or_lt_two_pow (Nat.lt_trans hb (Nat.pow_lt_pow_right (by decide) (by omega))) (Nat.pow_lt_pow_right (by decide) (by omega))) (by omega)⟩, by omega, y + 1, by omega, by omega, ?_, rfl⟩
        rw [setU, if_pos hm']
      · have hm' : ¬ mustB t.2.1 x y = true := by
          intro h
          unfold mustB at h
          rw [hm] at h
          cases h
        refine ⟨by omega, y + 1, by omega, by omega, ?_, rfl⟩
        rw [setU, if_neg hm']
    · have hyx : y = x := by omega
      subst hyx
      rw [set_eq g hxl]
      refine ⟨by simp; omega, by omega, y + 1, by omega, by omega, rfl, ?_⟩
      rw [bBs_succ]; rfl
  · have : x = t.2.1.length := by omega
    rw [this, bBs_all g]; exact hk
theorem okRBefore : PlainOk Tryd.prog [] 11 cRBefore := by
  refine plain_of (CxOk.mk' Eh_ok (by kernel_rfl) mixed (gl := []) (GOk.cons okEither Tryd.func33 (by kernel_rfl) (by kernel_rfl) (GOk.cons okWith Tryd.func34 (by kernel_rfl) (by kernel_rfl) GOk.nil)) GoOk.nil noIt) Tryd.func11 (c := Tryd.f11.body.getD .skip) (rvs := [(.tmp 2, .sl I)]) (by kernel_rfl) (by kernel_rfl) (by kernel_rfl) ?_
  intro ds k ⟨hp, hk⟩ hwf
  obtain ⟨t, rfl, hc, -⟩ := dest1 hp
  exact ⟨anRBefore t, rbefore_vc t hc k hk⟩
theorem okRBeforeG : PlainOk Tryd.prog [] 11 cRBeforeG := by
  refine plain_of (CxOk.mk' Eh_ok (by kernel_rfl) mixed (gl := []) (GOk.cons okEither Tryd.func33 (by kernel_rfl) (by kernel_rfl) (GOk.cons okWith Tryd.func34 (by kernel_rfl) (by kernel_rfl) GOk.nil)) GoOk.nil noIt) Tryd.func11 (c := Tryd.f11.body.getD .skip) (rvs := [(.tmp 2, .sl I)]) (by kernel_rfl) (by kernel_rfl) (by kernel_rfl) ?_
  intro ds k hs hwf
  obtain ⟨t, rfl, hc, hk⟩ := gdest1 hs
  exact ⟨anRBefore t, rbefore_vc t hc k hk⟩

theorem rtimes_vc (t : Tr) (ts : List Int) (hl : ts.length ≤ maxLen) (k : List Dat → Prop) (hk : k [⟨I, hchk t ts⟩]) : vcF ⟨Eh, [(8, cRTrace), (30, cWithin)], [], [], []⟩ (anRTimes t ts) (Tryd.f18.body.getD .skip) Tryd.f18.ntmps [(.tmp 4, I)] [⟨tTr, t⟩, ⟨.sl I, ts⟩] k := by
  rw [vcRTimes]
  have hml : maxLen ≤ 9223372036854775807 := by decide
  simp only [decide_eq_true_eq, decide_eq_false_iff_not, and_true, true_and, ne_eq, Bool.not_eq_true', Bool.not_eq_false', Int.toNat_natCast, inK_i64, Int.natCast_inj, Int.ofNat_lt]
  refine ⟨⟨fun h => ⟨fun h2 => ⟨3, by rw [if_pos ⟨h, h2⟩], rfl⟩, fun h2 => ⟨chk t, by rw [if_neg (fun c => c.2 h2)], rfl⟩⟩, fun h => ⟨chk t, by rw [if_neg (fun c => h c.1)], rfl⟩⟩, fun e he => ⟨⟨(0, e), ⟨Nat.zero_le _, fun h0 => ?_, fun h0 => ?_⟩, rfl, rfl⟩, ?_⟩⟩
  · simp only at h0
    rw [h0] at he
    split at he
    · cases he
    · rename_i hc
      have h1 : chk t = 0 := he.symm
      exact ⟨h1, Decidable.byContradiction fun h => hc ⟨h1, h⟩, rfl⟩
  · simp only at h0 ⊢
    unfold hchk
    split at he
    · rename_i hc
      rw [if_pos hc.1, if_neg hc.2, he]
    · rw [if_neg (by rw [← he]; exact h0), he]
  · rintro ⟨i, e⟩ ⟨h1, h2, h3⟩
    simp only at h1 h2 h3 ⊢
    refine ⟨fun hlt => ⟨fun h0 => ⟨by omega, hlt, fun hb => ⟨by omega, (i + 1, 1), ⟨hlt, (fun h => by cases h), fun _ => ?_⟩, by simp only; omega, rfl, rfl⟩, fun hb => ⟨by omega, (i + 1, e), ⟨hlt, fun h => ?_, h3⟩, by simp only; omega, rfl, rfl⟩⟩, fun h0 => ?_⟩, fun hge => ?_⟩
    · obtain ⟨c1, c2, c3⟩ := h2 h0
      unfold hchk
      rw [if_pos c1, if_pos c2, if_neg]
      intro hall
      rw [List.all_eq_true] at hall
      have := hall (ts.getD i 0) (by rw [List.getD_eq_getElem?_getD, List.getElem?_eq_getElem hlt]; exact List.getElem_mem hlt)
      unfold timeB at this
      rw [hb] at this; cases this
    · obtain ⟨c1, c2, c3⟩ := h2 h
      exact ⟨c1, c2, take_all c3 hb⟩
    · rw [h3 h0] at hk; exact hk
    · by_cases h0 : e = 0
      · obtain ⟨c1, c2, c3⟩ := h2 h0
        rw [List.take_of_length_le (by omega)] at c3
        have : hchk t ts = 0 := by unfold hchk; rw [if_pos c1, if_pos c2, if_pos c3]
        rw [this] at hk; rw [h0]; exact hk
      · rw [h3 h0] at hk; exact hk
theorem okRTimes : PlainOk Tryd.prog [] 18 cRTimes := by
  refine plain_of (CxOk.mk' Eh_ok (by kernel_rfl) mixed (gl := []) (GOk.cons okRTrace Tryd.func8 (by kernel_rfl) (by kernel_rfl) (GOk.cons okRIn Tryd.func30 (by kernel_rfl) (by kernel_rfl) GOk.nil)) GoOk.nil noIt) Tryd.func18 (c := Tryd.f18.body.getD .skip) (rvs := [(.tmp 4, I)]) (by kernel_rfl) (by kernel_rfl) (by kernel_rfl) ?_
  intro ds k ⟨hp, hk⟩ hwf
  obtain ⟨t, ts, rfl, -⟩ := dest2 hp
  exact ⟨anRTimes t ts, rtimes_vc t ts (wf2 hwf).2.1 k hk⟩
end Go.Proofs.YtgbpjjinhjikeaaDoor
