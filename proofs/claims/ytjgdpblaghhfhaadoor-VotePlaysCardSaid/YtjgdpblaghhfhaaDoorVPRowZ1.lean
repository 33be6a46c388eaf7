/- Own texts, merged: As, Er, Def, PDef, PLV, V, Ok, POk, PM, PLaw. -/
import Derived.Test.YtjgdpblaghhfhaaDoorChecked
import Derived.WalkKit
import Derived.LaidEql
import Derived.Stop.Asserts
import Derived.RowKitTokens
import Derived.Test.YtjgdpblaghhfhaaDoorVcQ
import Derived.Test.YtjgdpblaghhfhaaDoorVcPA
import Derived.Test.YtjgdpblaghhfhaaDoorRows
namespace Go.Proofs.YtjgdpblaghhfhaaDoor
open Go.RowKit Go.Extern.Stop Go.Stop Go.Extern

/-- errors.As(nil, target). -/
theorem as_nil (t : Value) (w : World) :
    Calls Tryd.prog 44 #[.nilIface, t] w fun e w' => e = .returned (.bool false) ∧ w' = w := by
  go_enter Tryd.func44, Tryd.ntmps44
  go_wp2
  go_ret
  exact ⟨rfl, rfl⟩

/-! ### CLOSED FACTS ON THE MODEL's ENTRIES FOR internal/reflectlite, at this program's types: 25: *p.E · 27: **p.E · 23: error · 45: reflectlite's rtype · 1: how many package-level variables the dump has -/
theorem Tas.valueOf27 (t : Addr) (w : World) : (ReflectliteValue.unpack (.iface 97 (.pointer (some t)))).run Tryd.prog w
    = .ok (.agg #[.pointer (some ⟨1, 97, none⟩), .pointer (some ⟨w.heap.size, 0, none⟩), .int .u64 150]) (w.alloc (.cells #[.pointer (some t)] 97)) := by kernel_rfl
theorem Tas.type27 (a : Addr) (w : World) : (ReflectliteValue.methodAny (ReflectliteValue.valueError "reflectlite.Value.Type" 0) (fun t _ _ _ => ReflectliteType.toType t) #[.agg #[.pointer (some ⟨1, 97, none⟩), .pointer (some a), .int .u64 150]]).run Tryd.prog w
    = .ok (.iface 112 (.agg #[.pointer (some ⟨1, 97, none⟩)])) w := by kernel_rfl
theorem Tas.methodKind (h : Value) (w : World) : (Go.method 254 112 (.agg #[h]) "Kind").run Tryd.prog w = .ok (66, h) w := by kernel_rfl
theorem Tas.kind27 (w : World) : ((ReflectliteType.abiMethod fun t => (fun a : Nat => Value.int IntKind.u8 (a : Int)) <$> Rtype.kind t) #[.pointer (some ⟨1, 97, none⟩)]).run Tryd.prog w = .ok (.int .u8 22) w := by kernel_rfl
theorem Tas.kind25 (w : World) : ((ReflectliteType.abiMethod fun t => (fun a : Nat => Value.int IntKind.u8 (a : Int)) <$> Rtype.kind t) #[.pointer (some ⟨1, 76, none⟩)]).run Tryd.prog w = .ok (.int .u8 2) w := by kernel_rfl

/-! ### THE ENTRIES THAT READ OR WRITE MEMORY: laws with a premise on the cell (after Derived/Lib/ReflectliteSlice.lean's manner: each unfolding a lemma of its own, by rfl) -/
theorem rlm (z : Sem Value) (f : TypeId → Addr → Nat → Nat → Sem Value) (v : Value) :
    ReflectliteValue.method z f #[v] = (do match ← ReflectliteValue.parts v with | none => z | some (t, a, fl) => f t a fl (fl % 32)) := rfl
theorem Tas.parts27 (a : Addr) (w : World) : (ReflectliteValue.parts (.agg #[.pointer (some ⟨1, 97, none⟩), .pointer (some a), .int .u64 150])).run Tryd.prog w = .ok (some (97, a, 150)) w := by kernel_rfl
/-- (Value).IsNil at the Value of a **p.E that is not nil. -/
theorem Tas.isNil27 (a p : Addr) (W : World) (ha : W.cell? a = some (.pointer (some p))) :
    (ReflectliteValue.method (ReflectliteValue.valueError "reflectlite.Value.IsNil" 0) ReflectliteValue.isNil #[.agg #[.pointer (some ⟨1, 97, none⟩), .pointer (some a), .int .u64 150]]).run Tryd.prog W = .ok (.bool false) W := by
  rw [rlm]
  simp only [Sem.run_bind, Tas.parts27, Result.andThen]
  simp [ReflectliteValue.isNil, loadVar, isAgg, underlying, Tryd.underlying97, ha, Result.andThen]

theorem Tas.methodElem (h : Value) (w : World) : (Go.method 254 112 (.agg #[h]) "Elem").run Tryd.prog w = .ok (76, .agg #[h]) w := by kernel_rfl
theorem Tas.methodImplements (h : Value) (w : World) : (Go.method 254 112 (.agg #[h]) "Implements").run Tryd.prog w = .ok (77, .agg #[h]) w := by kernel_rfl
theorem Tas.methodAssignableTo (h : Value) (w : World) : (Go.method 254 112 (.agg #[h]) "AssignableTo").run Tryd.prog w = .ok (74, .agg #[h]) w := by kernel_rfl
theorem Tas.elem27 (w : World) : (ReflectliteType.method ReflectliteType.elem #[.agg #[.pointer (some ⟨1, 97, none⟩)]]).run Tryd.prog w = .ok (.iface 112 (.agg #[.pointer (some ⟨1, 76, none⟩)])) w := by kernel_rfl
theorem Tas.implements25 (w : World) : (ReflectliteType.relation "Implements" ReflectliteType.implements_ #[.agg #[.pointer (some ⟨1, 76, none⟩)], .iface 112 (.agg #[.pointer (some ⟨1, 25, none⟩)])]).run Tryd.prog w = .ok (.bool true) w := by kernel_rfl
theorem Tas.typeOf25 (v : Value) (w : World) : (ReflectliteType.typeOf #[.iface 76 v]).run Tryd.prog w = .ok (.iface 112 (.agg #[.pointer (some ⟨1, 76, none⟩)])) w := by kernel_rfl
theorem Tas.assignable25 (w : World) : (ReflectliteType.relation "AssignableTo" ReflectliteType.assignableTo #[.agg #[.pointer (some ⟨1, 76, none⟩)], .iface 112 (.agg #[.pointer (some ⟨1, 76, none⟩)])]).run Tryd.prog w = .ok (.bool true) w := by kernel_rfl
theorem Tas.valueOf25 (e : Int) (w : World) : (ReflectliteValue.unpack (.iface 76 (.int .i64 e))).run Tryd.prog w
    = .ok (.agg #[.pointer (some ⟨1, 76, none⟩), .pointer (some ⟨w.heap.size, 0, none⟩), .int .u64 130]) (w.alloc (.cells #[.int .i64 e] 76)) := by kernel_rfl

theorem Tas.elemOf27 (w : World) : (Rtype.elem? 97).run Tryd.prog w = .ok (some 76) w := by kernel_rfl
theorem Tas.mk25 (p : Addr) (w : World) : (ReflectliteValue.mk 76 p ReflectliteValue.flagAddr).run Tryd.prog w = .ok (.agg #[.pointer (some ⟨1, 76, none⟩), .pointer (some p), .int .u64 386]) w := by kernel_rfl
/-- (Value).Elem at the Value of a **p.E that is not nil: the Value of the *p.E variable that it points to, addressable. -/
theorem Tas.elemV27 (a p : Addr) (W : World) (ha : W.cell? a = some (.pointer (some p))) :
    (ReflectliteValue.method (ReflectliteValue.valueError "reflectlite.Value.Elem" 0) ReflectliteValue.elem #[.agg #[.pointer (some ⟨1, 97, none⟩), .pointer (some a), .int .u64 150]]).run Tryd.prog W
      = .ok (.agg #[.pointer (some ⟨1, 76, none⟩), .pointer (some p), .int .u64 386]) W := by
  rw [rlm]
  simp only [Sem.run_bind, Tas.parts27, Result.andThen]
  simp [ReflectliteValue.elem, loadVar, isAgg, underlying, Tryd.underlying97, ha, Result.andThen, Tas.elemOf27, Tas.mk25]
theorem rls (v x : Value) : ReflectliteValue.set #[v, x] = (do
    let (some (dst, a, fl), some (src, b, _)) := (← ReflectliteValue.parts v, ← ReflectliteValue.parts x)
      | unsupported (.noEntry "extern/(internal/reflectlite.Value).Set.zeroValue")
    if fl / ReflectliteValue.flagAddr % 2 == 0 then unsupported (.noEntry "extern/(internal/reflectlite.Value).Set.unaddressable")
    let val ← loadVar src b
    if ← Rtype.directlyAssignable dst src then storeVar dst a val
    else if ← Rtype.implements dst src then
      if (← Rtype.kind src) == 20 then
        match val with
        | .nilIface => unsupported (.noEntry "extern/reflectlite: a nil value of one interface type handed on as a value of another")
        | _ => storeVar dst a val
      else storeVar dst a (.iface src val)
    else panicString ("reflectlite.Set: value of type " ++ (← Rtype.spelt src) ++ " is not assignable to type " ++ (← Rtype.spelt dst))
    pure (.tuple #[])) := rfl
theorem Tas.parts25a (a : Addr) (w : World) : (ReflectliteValue.parts (.agg #[.pointer (some ⟨1, 76, none⟩), .pointer (some a), .int .u64 386])).run Tryd.prog w = .ok (some (76, a, 386)) w := by kernel_rfl
theorem Tas.parts25 (a : Addr) (w : World) : (ReflectliteValue.parts (.agg #[.pointer (some ⟨1, 76, none⟩), .pointer (some a), .int .u64 130])).run Tryd.prog w = .ok (some (76, a, 130)) w := by kernel_rfl
theorem Tas.direct25 (w : World) : (Rtype.directlyAssignable 76 76).run Tryd.prog w = .ok true w := by kernel_rfl
theorem Tas.size25 (w : World) : (sizeOf 76).run Tryd.prog w = .ok 1 w := by kernel_rfl
/-- (Value).Set: the *p.E variable at 'ta' gets what the Value's own variable 'b' holds. -/
theorem Tas.set25 (ta b : Addr) (e : Int) (old : Value) (W : World) (hb : W.cell? b = some (.int .i64 e)) (ht : W.cell? ta = some old) (hf : W.frozen? ta = false) :
    (ReflectliteValue.set #[.agg #[.pointer (some ⟨1, 76, none⟩), .pointer (some ta), .int .u64 386], .agg #[.pointer (some ⟨1, 76, none⟩), .pointer (some b), .int .u64 130]]).run Tryd.prog W
      = .ok (.tuple #[]) (W.setCell ta (.int .i64 e)) := by
  rw [rls]
  simp only [Sem.run_bind, Tas.parts25a, Tas.parts25, Result.andThen]
  simp [ReflectliteValue.flagAddr, loadVar, isAgg, underlying, Tryd.underlying76, hb, Result.andThen, Tas.direct25, storeVar, Value.cells, storeCells, Addr.add]
  rw [run_store Tryd.prog W ta _ _ (by rfl)]
  simp [ht, hf]

set_option maxRecDepth 100000 in
set_option maxHeartbeats 4000000 in
theorem as_hit (e : Int) (t : Addr) (old : Value) (w : World) (hg : w.cell? ⟨0, 0, none⟩ = some (.iface 112 (.agg #[.pointer (some ⟨1, 25, none⟩)]))) (ht0 : w.cell? t = some old) (hf0 : w.frozen? t = false) :
    Calls Tryd.prog 44 #[.iface 76 (.int .i64 e), .iface 97 (.pointer (some t))] w fun ev w' => ev = .returned (.bool true) ∧ w' = ((((w.alloc (.cells #[.pointer (some t)] 97)).alloc (.cells #[.pointer (some ⟨1, 97, none⟩), .pointer (some ⟨w.heap.size, 0, none⟩), .int .u64 150] 101)).alloc (.cells #[.pointer (some ⟨1, 97, none⟩), .pointer (some ⟨w.heap.size, 0, none⟩), .int .u64 150] 101)).alloc (.cells #[.int .i64 e] 76)).setCell t (.int .i64 e) := by
  have h6 := @run_callFunc_extern Tryd.prog 45 _ (fun args => ReflectliteValue.unpack (args.getD 0 (.tuple #[]))) Tryd.func45 (by kernel_rfl) (by kernel_rfl) (by kernel_rfl) (by kernel_rfl)
  have h7 := @run_callFunc_extern Tryd.prog 46 _ (ReflectliteValue.methodAny (ReflectliteValue.valueError "reflectlite.Value.Type" 0) (fun t _ _ _ => ReflectliteType.toType t)) Tryd.func46 (by kernel_rfl) (by kernel_rfl) (by kernel_rfl) (by kernel_rfl)
  have h8 := @run_callFunc_extern Tryd.prog 47 _ (ReflectliteValue.method (ReflectliteValue.valueError "reflectlite.Value.IsNil" 0) ReflectliteValue.isNil) Tryd.func47 (by kernel_rfl) (by kernel_rfl) (by kernel_rfl) (by kernel_rfl)
  have h27 := @run_callFunc_extern Tryd.prog 66 _ (ReflectliteType.abiMethod fun t => do pure (.int .u8 (← Rtype.kind t))) Tryd.func66 (by kernel_rfl) (by kernel_rfl) (by kernel_rfl) (by kernel_rfl)
  have h37 := @run_callFunc_extern Tryd.prog 76 _ (ReflectliteType.method ReflectliteType.elem) Tryd.func76 (by kernel_rfl) (by kernel_rfl) (by kernel_rfl) (by kernel_rfl)
  have h38 := @run_callFunc_extern Tryd.prog 77 _ (ReflectliteType.relation "Implements" ReflectliteType.implements_) Tryd.func77 (by kernel_rfl) (by kernel_rfl) (by kernel_rfl) (by kernel_rfl)
  have h10 := @run_callFunc_extern Tryd.prog 49 _ ReflectliteType.typeOf Tryd.func49 (by kernel_rfl) (by kernel_rfl) (by kernel_rfl) (by kernel_rfl)
  have h35 := @run_callFunc_extern Tryd.prog 74 _ (ReflectliteType.relation "AssignableTo" ReflectliteType.assignableTo) Tryd.func74 (by kernel_rfl) (by kernel_rfl) (by kernel_rfl) (by kernel_rfl)
  have h11 := @run_callFunc_extern Tryd.prog 50 _ (ReflectliteValue.method (ReflectliteValue.valueError "reflectlite.Value.Elem" 0) ReflectliteValue.elem) Tryd.func50 (by kernel_rfl) (by kernel_rfl) (by kernel_rfl) (by kernel_rfl)
  have h12 := @run_callFunc_extern Tryd.prog 51 _ ReflectliteValue.set Tryd.func51 (by kernel_rfl) (by kernel_rfl) (by kernel_rfl) (by kernel_rfl)
  have tO := Tas.typeOf25
  have mA := Tas.methodAssignableTo
  have a25 := Tas.assignable25
  have v25 := Tas.valueOf25
  have f6 := Tas.valueOf27
  have f7 := Tas.type27
  have mK := Tas.methodKind
  have mE := Tas.methodElem
  have mI := Tas.methodImplements
  have k27 := Tas.kind27
  have k25 := Tas.kind25
  have e27 := Tas.elem27
  have i25 := Tas.implements25
  have n8 := Tas.isNil27 ⟨w.heap.size, 0, none⟩ t ((w.alloc (.cells #[.pointer (some t)] 97)).alloc (.cells #[.pointer (some ⟨1, 97, none⟩), .pointer (some ⟨w.heap.size, 0, none⟩), .int .u64 150] 101)) (by simp)
  have hlt : 0 < w.heap.size := by
    rcases Nat.eq_zero_or_pos w.heap.size with h0 | h
    · simp [World.cell?, h0] at hg
    · exact h
  have hg2 : ((w.alloc (.cells #[.pointer (some t)] 97)).alloc (.cells #[.pointer (some ⟨1, 97, none⟩), .pointer (some ⟨w.heap.size, 0, none⟩), .int .u64 150] 101)).cell? ⟨0, 0, none⟩ = some (.iface 112 (.agg #[.pointer (some ⟨1, 25, none⟩)])) := by
    rw [World.cell?_alloc_lt _ _ ⟨0, 0, none⟩ (by simp), World.cell?_alloc_lt _ _ ⟨0, 0, none⟩ hlt]; exact hg
  have htl : t.block < w.heap.size := by
    rcases Nat.lt_or_ge t.block w.heap.size with h | h
    · exact h
    · simp [World.cell?, Array.getElem?_eq_none h] at ht0
  have el := Tas.elemV27 ⟨w.heap.size, 0, none⟩ t (((w.alloc (.cells #[.pointer (some t)] 97)).alloc (.cells #[.pointer (some ⟨1, 97, none⟩), .pointer (some ⟨w.heap.size, 0, none⟩), .int .u64 150] 101)).alloc (.cells #[.pointer (some ⟨1, 97, none⟩), .pointer (some ⟨w.heap.size, 0, none⟩), .int .u64 150] 101)) (by rw [World.cell?_alloc_lt _ _ ⟨w.heap.size, 0, none⟩ (by simp; omega)]; simp)
  have st := Tas.set25 t ⟨w.heap.size + 1 + 1 + 1, 0, none⟩ e old ((((w.alloc (.cells #[.pointer (some t)] 97)).alloc (.cells #[.pointer (some ⟨1, 97, none⟩), .pointer (some ⟨w.heap.size, 0, none⟩), .int .u64 150] 101)).alloc (.cells #[.pointer (some ⟨1, 97, none⟩), .pointer (some ⟨w.heap.size, 0, none⟩), .int .u64 150] 101)).alloc (.cells #[.int .i64 e] 76))
    (by rw [World.cell?_alloc_at _ _ _ _ (by simp)]; rfl)
    (by rw [World.cell?_alloc_lt _ _ t (by simp; omega), World.cell?_alloc_lt _ _ t (by simp; omega), World.cell?_alloc_lt _ _ t (by simp; omega), World.cell?_alloc_lt _ _ t htl]; exact ht0)
    (by rw [World.frozen?_alloc_old _ _ t (by simp; omega), World.frozen?_alloc_old _ _ t (by simp; omega), World.frozen?_alloc_old _ _ t (by simp; omega), World.frozen?_alloc_old _ _ t (Nat.ne_of_lt htl)]; exact hf0)
  go_enter Tryd.func44, Tryd.ntmps44
  go_wp2
  refine wp_loop_rounds 1 ?_
  rw [rounds_succ]
  go_wp2
  go_ret
  exact ⟨rfl, rfl⟩
end Go.Proofs.YtjgdpblaghhfhaaDoor

/- The number of an error, as the program tells it; is an error the one with a number? -/
namespace Go.Proofs.YtjgdpblaghhfhaaDoor
open Go.RowKit Go.Extern.Stop Go.Stop Go.Extern Go.Vc
abbrev I : Ty := .int .i64
abbrev tErr : Ty := .err 76

theorem fr_alloc (w : World) (o : Obj) : Fr (fun _ => False) w (w.alloc o) := ⟨rfl, rfl, rfl, by simp, fun b hb _ => Ext.alloc w o b hb⟩

theorem told_nil (w : World) : Calls Tryd.prog 31 #[.nilIface] w fun e w' => e = .returned (.int .i64 0) ∧ w' = w := by
  go_enter Tryd.func31, Tryd.ntmps31
  go_wp2
  go_ret
  exact ⟨rfl, rfl⟩

set_option maxRecDepth 100000 in
set_option maxHeartbeats 4000000 in
theorem told_hit (n : Int) (w : World) (hg : w.cell? ⟨0, 0, none⟩ = some (.iface 112 (.agg #[.pointer (some ⟨1, 25, none⟩)]))) :
    Calls Tryd.prog 31 #[.iface 76 (.int .i64 n)] w fun e w' => e = .returned (.int .i64 n) ∧ Fr (fun _ => False) w w' := by
  have hlt : 0 < w.heap.size := World.block_lt_of_cell? w ⟨0, 0, none⟩ hg
  have hgA : (w.alloc (.cells #[.int .i64 0] 76)).cell? ⟨0, 0, none⟩ = some (.iface 112 (.agg #[.pointer (some ⟨1, 25, none⟩)])) := by
    rw [World.cell?_alloc_lt _ _ ⟨0, 0, none⟩ hlt]; exact hg
  have htA : (w.alloc (.cells #[.int .i64 0] 76)).cell? ⟨w.heap.size, 0, none⟩ = some (.int .i64 0) := by simp
  have hfA : (w.alloc (.cells #[.int .i64 0] 76)).frozen? ⟨w.heap.size, 0, none⟩ = false := by simp
  go_enter Tryd.func31, Tryd.ntmps31
  go_wp2_with (go_at_call 44; refine (as_hit n _ (.int .i64 0) _ hgA htA hfA).mono ?_; rintro e w' ⟨rfl, rfl⟩)
  go_ret
  exact ⟨rfl, ((((fr_alloc _ _).trans (fr_alloc _ _)).trans (fr_alloc _ _)).trans (fr_alloc _ _)).trans (fr_alloc _ _)⟩

/-- the handle of the type 'error' -/
abbrev hdE : Value := .iface 112 (.agg #[.pointer (some ⟨1, 25, none⟩)])
def glE : List (Nat × Dat) := [(0, ⟨.raw, hdE⟩)]
theorem hd_of {w : World} {ro : Nat → Prop} (h : GlOk glE w ro) : w.cell? ⟨0, 0, none⟩ = some hdE := by
  obtain ⟨_, us, h1, hn⟩ := h 0 _ (List.mem_singleton.2 rfl)
  have hn : us = [hdE] ∧ hdE.oneCell' = true := hn
  exact h1 0 hdE (by rw [hn.1]; rfl)
def cTold : Ctr := cdet [tErr] (fun (n : Int) => inK .i64 n) (fun (n : Int) => [⟨I, n⟩])
theorem okTold : PlainOk Tryd.prog glE 31 cTold := by
  intro ds k hs w R0 vals hR0 hG hD
  obtain ⟨hp, hk⟩ := hs
  obtain ⟨n, rfl, hin⟩ := dest1 hp
  have hk : k [⟨I, n⟩] := hk
  obtain ⟨hl, hd⟩ := hD
  match vals, hl with
  | [v], _ =>
    have hv : Ty.okV w R0 tErr n v := hd 0 ⟨tErr, n⟩ v rfl rfl
    unfold Ty.okV at hv
    simp only [Ty.agg, Bool.false_eq_true, if_false, Ty.ok] at hv
    have hok : ∀ {w' : World} {ro : Nat → Prop}, inK .i64 n → RetOk w' ro [(⟨I, n⟩ : Dat)] (.int .i64 n) := by
      intro w' ro hn
      show Ty.okV _ _ I n _
      unfold Ty.okV
      simp only [Ty.agg, Bool.false_eq_true, if_false, Ty.ok]
      exact ⟨trivial, hn⟩
    rcases hv with ⟨h0, hv⟩ | ⟨h0, hv⟩
    · injection hv with hv
      subst hv
      have h0 : (0 : Int) = n := h0.symm
      subst h0
      refine (show Calls Tryd.prog 31 #[.nilIface] w _ from told_nil w).mono fun e w' ⟨he, hw⟩ => ?_
      subst hw
      exact ⟨Fr.refl _ _, [⟨I, (0 : Int)⟩], _, he, hk, hok hin⟩
    · injection hv with hv
      subst hv
      refine (show Calls Tryd.prog 31 #[.iface 76 (.int .i64 n)] w _ from told_hit n w (hd_of hG)).mono fun e w' ⟨he, hw⟩ => ?_
      exact ⟨hw, [⟨I, n⟩], _, he, hk, hok hin⟩
theorem PlainOk.sub {P : Program} {gl gl' : List (Nat × Dat)} {f : FuncId} {c : Ctr} (hs : ∀ x ∈ gl, x ∈ gl') (h : PlainOk P gl f c) : PlainOk P gl' f c :=
  fun ds k hk w R0 vals hR0 hG hD => h ds k hk w R0 vals hR0 (fun g d hg => hG g d (hs _ hg)) hD
def cError : Ctr := cdet [tErr, I] (fun (n _ : Int) => inK .i64 n ∧ True) (fun (n e : Int) => [⟨.bool, decide (n = e)⟩])
def Er : Env := { tys := [(3, I), (4, .bool), (25, tErr), (76, I)], errT := 76, eqs := [], els := [] }
theorem Er_ok : EnvOk Tryd.prog Er := EnvOk.of_list (by kernel_rfl) (by kernel_rfl) (by kernel_rfl)
set_option linter.unusedVariables false in
theorem vcError (n e : Int) (k : List Dat → Prop) : vcF ⟨Er, [(31, cTold)], glE, [], []⟩ [] (Tryd.f7.body.getD .skip) Tryd.f7.ntmps [(.tmp 4, .bool)] [⟨tErr, n⟩, ⟨I, e⟩] k = (
  IntKind.i64.wrap n = n ∧ k [Dat.mk Ty.bool (decide (n = e))]) := by kernel_rfl
theorem okError : PlainOk Tryd.prog glE 7 cError := by
  refine plain_of (CxOk.mk' Er_ok rfl (by kernel_rfl) (gl := glE) (GOk.cons okTold Tryd.func31 (by kernel_rfl) (by kernel_rfl) GOk.nil) GoOk.nil noIt) Tryd.func7 (c := Tryd.f7.body.getD .skip) (rvs := [(.tmp 4, .bool)]) (by kernel_rfl) (by kernel_rfl) (by kernel_rfl) ?_
  intro ds k ⟨hp, hk⟩ hwf
  obtain ⟨n, e, rfl, hin, -⟩ := dest2 hp
  have hk : k [⟨.bool, decide (n = e)⟩] := hk
  refine ⟨[], ?_⟩
  rw [vcError]
  exact ⟨hin, hk⟩
theorem glE_of {laid : List (String × DataW Unit)} (hm : ("errors.errorType", Rows.laid_errors_errorType) ∈ laid) {W : World} (h : laidMetH Tryd.prog laid W) : GlOk glE W fun b => b < W.heap.size :=
  gl_of_handle (n := "errors.errorType") (u := 112) (ty := 25) (d := Rows.laid_errors_errorType) h hm rfl rfl (by kernel_rfl) (by kernel_rfl) (by kernel_rfl) (by kernel_rfl) rfl
end Go.Proofs.YtjgdpblaghhfhaaDoor

/- Votes: what the program's functions answer. -/
namespace Go.Proofs.YtjgdpblaghhfhaaDoor
open Go.Vc
abbrev tA : Ty := .pr I (.pr I (.pr I .un))
abbrev Act3 := Int × Int × Int × Unit
abbrev tPoll : Ty := .pr I (.pr I (.pr (.sl I) (.pr .bool (.pr .bool .un))))
def Ev : Env := { tys := [(3, I), (4, .bool), (22, .sl tA), (25, tErr), (30, .sl .bool), (36, tA), (29, .sl I), (78, tPoll)], errT := 76, eqs := [], els := [(22, 36), (30, 4), (29, 3)] }
theorem Ev_ok : EnvOk Tryd.prog Ev := EnvOk.of_list (by kernel_rfl) (by kernel_rfl) (by kernel_rfl)
def inB (n lo hi : Int) : Bool := decide (lo ≤ n) && decide (n ≤ hi)
def cWithin : Ctr := cdet [I, I, I] (fun _ _ _ => True) (fun a b c => [⟨.bool, inB a b c⟩])
/-- a poll -/
structure Pl where
  n : Int
  yes : Int
  ends : List Int
  dec : Bool
  res : Bool
def Pl.ob (p : Pl) : List Ob := [.st 78 [.d I p.n, .d I p.yes, .os 1, .d .bool p.dec, .d .bool p.res], .row 3 I p.ends]
def newP (n : Int) : Pl := ⟨n, 0, List.replicate n.toNat 0, false, false⟩
/-- what happens: what is refused, and the poll behind it -/
def doP (p : Pl) (a : Act3) : Int × Pl :=
  if (inB a.1 0 3 && inB a.2.2.1 0 1) = false then (1, p)
  else if a.1 = 1 then (if p.dec = true then (7, p) else (0, { p with dec := true, res := decide (p.yes = 2 ^ p.n.toNat - 1) }))
  else if inB a.2.1 0 (p.n - 1) = false then (1, p)
  else if a.1 = 0 then
    if p.ends.getD a.2.1.toNat 0 = 0 then
      if a.2.2.1 = 1 then (0, { p with yes := ((p.yes.toNat ||| (2 ^ a.2.1.toNat) : Nat) : Int), ends := p.ends.set a.2.1.toNat 1 })
      else (0, { p with ends := p.ends.set a.2.1.toNat 3 })
    else (7, p)
  else if a.1 = 2 then
    if p.dec = true then (0, { p with ends := p.ends.set a.2.1.toNat (if p.res = true then 2 else 3) }) else (5, p)
  else if p.ends.getD a.2.1.toNat 0 = 0 then (0, { p with ends := p.ends.set a.2.1.toNat 3 }) else (0, p)
def memP (p : Pl) (i : Int) : Int := if inB i 0 (p.n - 1) = true then p.ends.getD i.toNat 0 else -1
/-- of a poll that is one -/
def Pl.ok (p : Pl) : Prop := 1 ≤ p.n ∧ p.n ≤ 8 ∧ (p.ends.length : Int) = p.n ∧ 0 ≤ p.yes ∧ p.yes < 2 ^ p.n.toNat
/-- a contract over a poll -/
def onPoll (f : Pl → List SV → (SV → Pl → Prop) → Prop) : OCtr := fun args ob k =>
  match args, ob with
  | .ps 0 :: r, [.st 78 [.d (.int .i64) n, .d (.int .i64) y, .os 1, .d .bool dc, .d .bool rs], .row 3 (.int .i64) l] => f ⟨n, y, l, dc, rs⟩ r fun s p => k s p.ob
  | _, _ => False
def cNew : OCtr := fun args ob k =>
  match args, ob with
  | [.d (.int .i64) n], [] => (inB n 1 8 = true → k (.tp [.ps 0, .d tErr (0 : Int)]) (newP n).ob) ∧ (inB n 1 8 = false → k (.tp [.nilp, .d tErr (1 : Int)]) [])
  | _, _ => False
def cDo : OCtr := onPoll fun p r k => match r with
  | [.d (.pr (.int .i64) (.pr (.int .i64) (.pr (.int .i64) .un))) a] => p.ok ∧ ∀ e q, (e, q) = doP p a → k (.d tErr e) q
  | _ => False
def cMem : OCtr := onPoll fun p r k => match r with
  | [.d (.int .i64) i] => p.ok ∧ k (.d I (memP p i)) p
  | _ => False
def cStuck : OCtr := onPoll fun p r k => match r with
  | [] => p.ends = [1] ∧ p.dec = false ∧ k (.d I (1 : Int)) p
  | _ => False
def cFact : Ctr := cdet [] True [⟨.bool, true⟩]
/-- the poll that a state holds -/
def plOf (st : St) : Option Pl :=
  match st.ob.getD 0 .dead with
  | .st _ [.d (.int .i64) n, .d (.int .i64) y, .os i, .d .bool dc, .d .bool rs] => match st.ob.getD i .dead with
    | .row _ (.int .i64) l => some ⟨n, y, l, dc, rs⟩
    | _ => none
  | _ => none
def ysOf (st : St) : Option (List Bool) :=
  match st.ob.getD 2 .dead with
  | .row _ .bool l => some l
  | _ => none
def wsOf (st : St) : Option (List Int) :=
  match st.ob.getD 2 .dead with
  | .row _ (.int .i64) l => some l
  | _ => none
def anyB (l : List Int) (k : Nat) (v : Int) : Bool := (l.take k).any fun e => decide (e = v)
def allB (y : List Bool) (k : Nat) : Bool := (y.take k).all id
/-- what holds of a poll at all times -/
def Pl.inv (p : Pl) : Prop := p.ok ∧ ∀ k, k < p.n.toNat → (0 ≤ p.ends.getD k 0 ∧ p.ends.getD k 0 ≤ 3) ∧ (p.yes.toNat.testBit k = true → p.ends.getD k 0 ≠ 0) ∧
  (p.yes.toNat.testBit k = true → p.ends.getD k 0 = 3 → p.dec = true ∧ p.res = false) ∧ (p.ends.getD k 0 = 2 → p.dec = true ∧ p.res = true) ∧ (p.ends.getD k 0 = 1 → p.yes.toNat.testBit k = true) ∧
  (p.dec = true → p.res = true → p.yes.toNat.testBit k = true)
def linkY (p : Pl) (y : List Bool) : Prop := (y.length : Int) = p.n ∧ ∀ k, k < p.n.toNat → y.getD k false = p.yes.toNat.testBit k
def inAll (p : Pl) (y : List Bool) (x : Nat × Bool × Bool × Bool) : Prop := (x.1 : Int) ≤ p.n ∧ x.2.1 = anyB p.ends x.1 2 ∧ x.2.2.1 = anyB p.ends x.1 3 ∧ x.2.2.2 = allB y x.1
/-- who said yes behind what happened -/
def yesAfter (n : Int) (a : Act3) (e : Int) (y : List Bool) : List Bool := if e = 0 ∧ a.1 = 0 ∧ 0 ≤ a.2.1 ∧ a.2.1 < n then y.set a.2.1.toNat (decide (a.2.2.1 = 1)) else y
def anAll (n : Int) (l : List Act3) : Ann := [joinAll,
  loopAt 9 (Nat × Pl × List Bool) [] (fun st x => ⟨(St.at (St.only st [0, 1, 4, 6, 8]) [(9, .d I (x.1 : Int))]).tm, x.2.1.ob ++ [.row 4 .bool x.2.2], st.gs⟩) (fun _ x => x.1 ≤ l.length ∧ x.2.1.n = n ∧ x.2.1.inv ∧ linkY x.2.1 x.2.2) (fun x => l.length - x.1),
  meetAt 15 (List Bool) [] (fun st y => ⟨(St.only st [0, 1, 4, 6, 8, 9]).tm, st.ob.set 2 (.row 4 .bool y), st.gs⟩) (fun st y => match ysOf st, st.tm.getD 11 .any with
      | some y0, .d (.err _) e => y = yesAfter n (l.getD (st.i 9).toNat (0, 0, 0, ())) e y0
      | _, _ => False),
  loopAt 19 (Nat × Bool × Bool × Bool) [] (fun st x => St.at (St.only st [0, 1, 4, 6, 8, 9]) [(15, .d I (x.1 : Int)), (12, .d .bool x.2.1), (13, .d .bool x.2.2.1), (14, .d .bool x.2.2.2)])
    (fun st x => match plOf st, ysOf st with
      | some p, some y => inAll p y x
      | _, _ => False) (fun x => n.toNat - x.1)]
/-- how one went on -/
def stays (w e : Int) : Prop := (2 ≤ w → e = w) ∧ (w = 1 → e ≠ 0)
def inStays (p : Pl) (n : Int) (w0 : List Int) (x : Nat × List Int) : Prop := (x.1 : Int) ≤ n ∧ (x.2.length : Int) = n ∧ (∀ k, k < x.1 → x.2.getD k 0 = p.ends.getD k 0) ∧ ∀ k, x.1 ≤ k → x.2.getD k 0 = w0.getD k 0
def linkW (p : Pl) (w : List Int) : Prop := (w.length : Int) = p.n ∧ ∀ k, k < p.n.toNat → w.getD k 0 = p.ends.getD k 0
def anStays (n : Int) (l : List Act3) : Ann := [joinAll,
  loopAt 9 (Nat × Pl × List Int) [] (fun st x => ⟨(St.at (St.only st [0, 1, 4, 6, 8]) [(9, .d I (x.1 : Int))]).tm, x.2.1.ob ++ [.row 3 I x.2.2], st.gs⟩) (fun _ x => x.1 ≤ l.length ∧ x.2.1.n = n ∧ x.2.1.inv ∧ linkW x.2.1 x.2.2) (fun x => l.length - x.1),
  loopAt 13 (Nat × List Int) [] (fun st x => ⟨(St.at (St.only st [0, 1, 4, 6, 8, 9]) [(10, .d I (x.1 : Int))]).tm, st.ob.set 2 (.row 3 I x.2), st.gs⟩)
    (fun st x => match plOf st, wsOf st with
      | some p, some w => inStays p n w x
      | _, _ => False) (fun x => n.toNat - x.1)]
def anStuck : Ann := [joinAll, loopAt 3 Nat [] (fun st i => St.at st [(11, .d I (i : Int)), (3, .d I (i : Int)), (4, .any), (5, .any)]) (fun _ i => i ≤ 1) (fun i => 1 - i)]
abbrev X0 : Cx := ⟨Ev, [], glE, [], []⟩
abbrev X1 : Cx := ⟨Ev, [(30, cWithin)], glE, [], []⟩
abbrev X2 : Cx := ⟨Ev, [(30, cWithin)], glE, [], [(6, cNew), (9, cDo), (10, cMem), (12, cStuck)]⟩
abbrev X3 : Cx := ⟨Ev, [(30, cWithin), (999010, cFact)], glE, [], [(6, cNew), (9, cDo), (10, cMem)]⟩
/-- a poll's objects where it begins -/
def pob (n y : Int) (l : List Int) (dc rs : Bool) : List Ob := [.st 78 [.d I n, .d I y, .os 1, .d .bool dc, .d .bool rs], .row 3 I l]
end Go.Proofs.YtjgdpblaghhfhaaDoor

/- Votes: the reference, and the law that the program does what it does. -/
namespace Go.Proofs.YtjgdpblaghhfhaaDoor
open Go.Vc
/-- how each ends, who said yes, what was decided -/
@[match_pattern] abbrev tV : Ty := .pr (.sl I) (.pr (.sl .bool) (.pr I .un))
abbrev Vt : Type := List Int × List Bool × Int × Unit
abbrev zV : Vt := ([], [], 0, ())
abbrev zA : Act3 := (0, 0, 0, ())
def Ew : Env := { tys := [(3, I), (4, .bool), (22, .sl tA), (23, .ptr tPoll), (25, tErr), (29, .sl I), (30, .sl .bool), (32, tV), (36, tA), (78, tPoll)], errT := 76, eqs := [], els := [(22, 36), (30, 4), (29, 3)], sa := [30, 32] }
theorem Ew_ok : EnvOk Tryd.prog Ew := EnvOk.of_list (by kernel_rfl) (by kernel_rfl) (by kernel_rfl)
/-- as it happens -/
def hapF (v : Vt) (a : Act3) : Vt × Int :=
  if (inB a.1 0 3 && inB a.2.2.1 0 1) = false then (v, 1)
  else if a.1 = 1 then (if v.2.2.1 ≠ 0 then (v, 7) else ((v.1, v.2.1, (if allB v.2.1 v.1.length = true then 1 else 2), ()), 0))
  else if inB a.2.1 0 ((v.1.length : Int) - 1) = false then (v, 1)
  else if a.1 = 0 then
    if v.1.getD a.2.1.toNat 0 ≠ 0 then (v, 7)
    else if a.2.2.1 = 1 then ((v.1.set a.2.1.toNat 1, v.2.1.set a.2.1.toNat true, v.2.2.1, ()), 0) else ((v.1.set a.2.1.toNat 3, v.2.1, v.2.2.1, ()), 0)
  else if a.1 = 2 then (if v.2.2.1 = 0 then (v, 5) else ((v.1.set a.2.1.toNat (v.2.2.1 + 1), v.2.1, v.2.2.1, ()), 0))
  else if v.1.getD a.2.1.toNat 0 = 0 then ((v.1.set a.2.1.toNat 3, v.2.1, v.2.2.1, ()), 0) else ((v.1.set a.2.1.toNat (v.1.getD a.2.1.toNat 0), v.2.1, v.2.2.1, ()), 0)
def Vt.ok (v : Vt) : Prop := v.1.length = v.2.1.length ∧ v.1.length ≤ 8 ∧ 0 ≤ v.2.2.1 ∧ v.2.2.1 ≤ 2
def cHap : Ctr := cdet [tV, tA] (fun (v : Vt) (_ : Act3) => Vt.ok v) (fun (v : Vt) (a : Act3) => [⟨tV, (hapF v a).1⟩, ⟨I, (hapF v a).2⟩])
def decV (y : List Bool) (k : Nat) : Int := if allB y k = true then 1 else 2
def anHap (v : Vt) : Ann :=
  [joinAll, freezeAt 26 [9], freezeAt 36 [10],
   loopAt 9 Nat [] (fun st k => { St.at (St.only st [2, 3, 4, 6]) [(7, .d I (k : Int))] with ob := st.ob.set 0 (.var 32 tV (v.1, v.2.1, decV v.2.1 k, ())) }) (fun _ k => k ≤ v.1.length ∧ True) (fun k => v.1.length - k)]
def cPow2 : Ctr := cdet [I] (fun (n : Int) => n ≤ 61 ∧ True) (fun (n : Int) => [⟨I, (2 : Int) ^ n.toNat⟩])
def anPow2 (n : Int) : Ann := [loopAt 3 Nat [] (fun st i => St.at st [(3, .d I ((2 : Int) ^ i)), (4, .d I (i : Int))]) (fun _ i => i ≤ n.toNat ∧ True) (fun i => n.toNat - i)]
/-- a poll that is only looked at -/
abbrev Pd : Type := Int × Int × List Int × Bool × Bool × Unit
def memD (p : Pd) (i : Int) : Int := if inB i 0 (p.1 - 1) = true then p.2.2.1.getD i.toNat 0 else -1
def cMemP : Ctr := cdet [.ptr tPoll, I] (fun (p : Option Pd) (_ : Int) => ∃ s : Pd, p = some s ∧ (1 ≤ s.1 ∧ s.1 ≤ 8) ∧ (s.2.2.1.length : Int) = s.1) (fun (p : Option Pd) (i : Int) => [⟨I, memD (p.getD (0, 0, [], false, false, ())) i⟩])
def stkF (l : List Int) (dc : Bool) : Int := if (l.all fun e => decide (e = 1)) = true then (if dc = true then 0 else 2 ^ l.length - 1) else 0
def cStk : Ctr := cdet [.ptr tPoll] (fun (p : Option Pd) => ∃ s : Pd, p = some s ∧ s.2.2.1.length ≤ 8) (fun (p : Option Pd) => [⟨I, stkF (p.getD (0, 0, [], false, false, ())).2.2.1 (p.getD (0, 0, [], false, false, ())).2.2.2.1⟩])
def onesI (i : Nat) : Int := 2 ^ i - 1
def anStk (l : List Int) : Ann := [joinAll, loopAt 3 Nat [] (fun st i => St.at (St.only st [0, 9, 10]) [(3, .d I (onesI i)), (11, .d I (i : Int))]) (fun _ i => i ≤ l.length ∧ ((l.take i).all fun e => decide (e = 1)) = true) (fun i => l.length - i)]
/-- the program, and the reference, where so many happened -/
def doX (p : Pl) (a : Act3) : Int × Pl := doP p a
theorem doX_eq (p : Pl) (a : Act3) : doX p a = doP p a := rfl
def hapX (v : Vt) (a : Act3) : Vt × Int := hapF v a
theorem hapX_eq (v : Vt) (a : Act3) : hapX v a = hapF v a := rfl
def memX (p : Pd) (i : Int) : Int := memD p i
theorem memX_eq (p : Pd) (i : Int) : memX p i = memD p i := rfl
def stkX (l : List Int) (dc : Bool) : Int := stkF l dc
theorem stkX_eq (l : List Int) (dc : Bool) : stkX l dc = stkF l dc := rfl
def oDoX : OCtr := fun args ob k =>
  match args, ob with
  | [.ps 0, .d (.pr (.int .i64) (.pr (.int .i64) (.pr (.int .i64) .un))) a], [.st 78 [.d (.int .i64) n, .d (.int .i64) y, .os 1, .d .bool dc, .d .bool rs], .row 3 (.int .i64) l] =>
    Pl.ok ⟨n, y, l, dc, rs⟩ ∧ k (.d tErr (doX ⟨n, y, l, dc, rs⟩ a).1) (doX ⟨n, y, l, dc, rs⟩ a).2.ob
  | _, _ => False
def cHapX : Ctr := cdet [tV, tA] (fun (v : Vt) (_ : Act3) => Vt.ok v) (fun (v : Vt) (a : Act3) => [⟨tV, (hapX v a).1⟩, ⟨I, (hapX v a).2⟩])
def cMemX : Ctr := cdet [.ptr tPoll, I] (fun (p : Option Pd) (_ : Int) => ∃ s : Pd, p = some s ∧ (1 ≤ s.1 ∧ s.1 ≤ 8) ∧ (s.2.2.1.length : Int) = s.1) (fun (p : Option Pd) (i : Int) => [⟨I, memX (p.getD (0, 0, [], false, false, ())) i⟩])
def cStkX : Ctr := cdet [.ptr tPoll] (fun (p : Option Pd) => ∃ s : Pd, p = some s ∧ s.2.2.1.length ≤ 8) (fun (p : Option Pd) => [⟨I, stkX (p.getD (0, 0, [], false, false, ())).2.2.1 (p.getD (0, 0, [], false, false, ())).2.2.2.1⟩])
theorem take_snoc {α : Type} (z : α) {l : List α} {i : Nat} (h : i < l.length) : l.take (i + 1) = l.take i ++ [l.getD i z] := by
  rw [List.take_add_one, List.getD_eq_getElem?_getD, List.getElem?_eq_getElem h]; rfl
def pAt (n : Int) (l : List Act3) (i : Nat) : Pl := (l.take i).foldl (fun p a => (doX p a).2) (newP n)
def vNew (n : Int) : Vt := (List.replicate n.toNat 0, List.replicate n.toNat false, 0, ())
def vAt (n : Int) (l : List Act3) (i : Nat) : Vt := (l.take i).foldl (fun v a => (hapX v a).1) (vNew n)
theorem pAt_zero (n : Int) (l : List Act3) : pAt n l 0 = newP n := rfl
theorem pAt_succ (n : Int) (l : List Act3) (i : Nat) (h : i < l.length) : pAt n l (i + 1) = (doX (pAt n l i) (l.getD i zA)).2 := by
  unfold pAt; rw [take_snoc zA h, List.foldl_append]; rfl
theorem vAt_zero (n : Int) (l : List Act3) : vAt n l 0 = (List.replicate n.toNat 0, List.replicate n.toNat false, 0, ()) := rfl
theorem vAt_succ (n : Int) (l : List Act3) (i : Nat) (h : i < l.length) : vAt n l (i + 1) = (hapX (vAt n l i) (l.getD i zA)).1 := by
  unfold vAt; rw [take_snoc zA h, List.foldl_append]; rfl
attribute [irreducible] pAt vAt doX hapX memX stkX
/-- did all get ready, so far? -/
def rdyB (v : Vt) (k : Nat) : Bool := decide (v.2.2.1 = 0) && (v.1.take k).all fun e => decide (e = 1)
def anPlays (n : Int) (l : List Act3) : Ann :=
  [joinAll,
   loopAt 8 Nat [] (fun st i => { St.at (St.only st [0, 1, 5, 7]) [(8, .d I (i : Int))] with ob := (pAt n l i).ob ++ [.var 32 tV (vAt n l i)] }) (fun _ i => i ≤ l.length ∧ i ≤ 60) (fun i => l.length - i),
   loopAt 16 Nat [] (fun st k => St.at (St.only st [0, 1, 5, 7, 8]) [(11, .d .bool (rdyB (vAt n l ((st.i 8).toNat + 1)) k)), (12, .d I (k : Int))]) (fun _ k => (k : Int) ≤ n ∧ True) (fun k => n.toNat - k)]
end Go.Proofs.YtjgdpblaghhfhaaDoor

/- What the functions of this seat have to satisfy, by program: each verification condition in plain words. -/
namespace Go.Proofs.YtjgdpblaghhfhaaDoor
open Go.Vc
set_option linter.unusedVariables false
theorem vcPlays (n : Int) (l : List Act3) (k : List Dat → Prop) : vcF ⟨Ew, [(7, cError), (8, cHapX), (10, cMemX), (11, cPow2), (12, cStkX)], glE, [], [(6, cNew), (9, oDoX)]⟩ (anPlays n l) (Tryd.f3.body.getD .skip) Tryd.f3.ntmps [(.tmp 4, .bool)] [⟨I, n⟩, ⟨.sl tA, l⟩] k = (
  (inB n (1 : Int) (8 : Int) = true → (decide (n < (1 : Int)) = true → (inK IntKind.i64 (0 : Int) ∧ True) ∧ k [Dat.mk Ty.bool (decide ((0 : Int) = (1 : Int)))]) ∧ (decide (n < (1 : Int)) = false → (decide ((8 : Int) < n) = true → (inK IntKind.i64 (0 : Int) ∧ True) ∧ k [Dat.mk Ty.bool (decide ((0 : Int) = (1 : Int)))]) ∧ (decide ((8 : Int) < n) = false → ((!decide ((0 : Int) = (0 : Int))) = true → k [Dat.mk Ty.bool false]) ∧ ((!decide ((0 : Int) = (0 : Int))) = false → (0 : Int) ≤ n ∧ n ≤ n ∧ n ≤ (1000000000 : Int) ∧ (0 : Int) ≤ n ∧ n ≤ n ∧ n ≤ (1000000000 : Int) ∧ (0 : Int) ≤ n ∧ n ≤ n ∧ n ≤ (1000000000 : Int) ∧ (0 : Int) ≤ n ∧ n ≤ n ∧ n ≤ (1000000000 : Int) ∧ (n = n ∧ l = l ∧ SV.bt false = SV.bt false ∧ SV.ps (0 : Nat) = SV.ps (0 : Nat) ∧ (0 : Int) = (0 : Int) ∧ SV.tp [SV.ps (0 : Nat), SV.d (Ty.err (76 : Nat)) (0 : Int)] = SV.tp [SV.ps (0 : Nat), SV.d (Ty.err (76 : Nat)) (0 : Int)] ∧ n = n ∧ SV.tp [SV.ps (0 : Nat), SV.d (Ty.err (76 : Nat)) (0 : Int)] = SV.tp [SV.ps (0 : Nat), SV.d (Ty.err (76 : Nat)) (0 : Int)] ∧ SV.ps (0 : Nat) = SV.ps (0 : Nat) ∧ (0 : Int) = (0 : Int) ∧ n = n ∧ decide (n < (1 : Int)) = decide (n < (1 : Int)) ∧ SV.bt false = SV.bt false ∧ n = n ∧ decide ((8 : Int) < n) = decide ((8 : Int) < n) ∧ decide ((8 : Int) < n) = decide ((8 : Int) < n) ∧ (0 : Int) = (0 : Int) ∧ (!decide ((0 : Int) = (0 : Int))) = !decide ((0 : Int) = (0 : Int)) ∧ n = n ∧ List.replicate n.toNat (0 : Int) = List.replicate n.toNat (0 : Int) ∧ n = n ∧ List.replicate n.toNat false = List.replicate n.toNat false ∧ (List.replicate n.toNat (0 : Int), List.replicate n.toNat false, (0 : Int), ()) = (List.replicate n.toNat (0 : Int), List.replicate n.toNat false, (0 : Int), ()) ∧ True) ∧ (∃ (x : Nat), (x ≤ l.length ∧ x ≤ (60 : Nat)) ∧ (n = n ∧ l = l ∧ True ∧ ([] : List Nat) = [] ∧ (0 : Int) = (↑x : Int) ∧ True) ∧ ((n = (pAt n l x).n ∧ (0 : Int) = (pAt n l x).yes ∧ True ∧ false = (pAt n l x).dec ∧ false = (pAt n l x).res ∧ True) ∧ ((3 : Nat) = (3 : Nat) ∧ List.replicate n.toNat (0 : Int) = (pAt n l x).ends) ∧ ((32 : Nat) = (32 : Nat) ∧ (List.replicate n.toNat (0 : Int), List.replicate n.toNat false, (0 : Int), ()) = vAt n l x) ∧ True) ∧ hdE = hdE ∧ True) ∧ ∀ (x : Nat), x ≤ l.length ∧ x ≤ (60 : Nat) → (decide ((↑x : Int) < (↑l.length : Int)) = true → (decide ((↑x : Int) < (60 : Int)) = true → (0 : Int) ≤ (↑x : Int) ∧ (↑x : Int) < (↑l.length : Int) ∧ ((vAt n l x).fst.length = (vAt n l x).snd.fst.length ∧ (vAt n l x).fst.length ≤ (8 : Nat) ∧ (0 : Int) ≤ (vAt n l x).snd.snd.fst ∧ (vAt n l x).snd.snd.fst ≤ (2 : Int)) ∧ (0 : Int) ≤ (↑x : Int) ∧ (↑x : Int) < (↑l.length : Int) ∧ ((vAt n l x).fst.length = (vAt n l x).snd.fst.length ∧ (vAt n l x).fst.length ≤ (8 : Nat) ∧ (0 : Int) ≤ (vAt n l x).snd.snd.fst ∧ (vAt n l x).snd.snd.fst ≤ (2 : Int)) ∧ (n = n ∧ l = l ∧ SV.ps (0 : Nat) = SV.ps (0 : Nat) ∧ SV.pv ((I).sl.pr (Ty.bool.sl.pr ((I).pr Ty.un))) (2 : Nat) [] = SV.pv ((I).sl.pr (Ty.bool.sl.pr ((I).pr Ty.un))) (2 : Nat) [] ∧ (↑x : Int) = (↑x : Int) ∧ (↑x : Int) = (↑x : Int) ∧ l = l ∧ (↑l.length : Int) = (↑l.length : Int) ∧ decide ((↑x : Int) < (↑l.length : Int)) = decide ((↑x : Int) < (↑l.length : Int)) ∧ SV.bt true = SV.bt true ∧ (↑x : Int) = (↑x : Int) ∧ decide ((↑x : Int) < (60 : Int)) = decide ((↑x : Int) < (60 : Int)) ∧ decide ((↑x : Int) < (60 : Int)) = decide ((↑x : Int) < (60 : Int)) ∧ SV.tp [SV.d ((I).sl.pr (Ty.bool.sl.pr ((I).pr Ty.un))) (hapX (vAt n l x) (l.getD (↑x : Int).toNat ((0 : Int), (0 : Int), (0 : Int), ()))).fst, SV.d (I) (hapX (vAt n l x) (l.getD (↑x : Int).toNat ((0 : Int), (0 : Int), (0 : Int), ()))).snd] = SV.tp [SV.d ((I).sl.pr (Ty.bool.sl.pr ((I).pr Ty.un))) (hapX (vAt n l x) (l.getD (↑x : Int).toNat ((0 : Int), (0 : Int), (0 : Int), ()))).fst, SV.d (I) (hapX (vAt n l x) (l.getD (↑x : Int).toNat ((0 : Int), (0 : Int), (0 : Int), ()))).snd] ∧ vAt n l x = vAt n l x ∧ l = l ∧ (↑x : Int) = (↑x : Int) ∧ SV.ra (tA) (l.getD (↑x : Int).toNat ((0 : Int), (0 : Int), (0 : Int), ())) = SV.ra (tA) (l.getD (↑x : Int).toNat ((0 : Int), (0 : Int), (0 : Int), ())) ∧ l.getD (↑x : Int).toNat ((0 : Int), (0 : Int), (0 : Int), ()) = l.getD (↑x : Int).toNat ((0 : Int), (0 : Int), (0 : Int), ()) ∧ SV.tp [SV.d ((I).sl.pr (Ty.bool.sl.pr ((I).pr Ty.un))) (hapX (vAt n l x) (l.getD (↑x : Int).toNat ((0 : Int), (0 : Int), (0 : Int), ()))).fst, SV.d (I) (hapX (vAt n l x) (l.getD (↑x : Int).toNat ((0 : Int), (0 : Int), (0 : Int), ()))).snd] = SV.tp [SV.d ((I).sl.pr (Ty.bool.sl.pr ((I).pr Ty.un))) (hapX (vAt n l x) (l.getD (↑x : Int).toNat ((0 : Int), (0 : Int), (0 : Int), ()))).fst, SV.d (I) (hapX (vAt n l x) (l.getD (↑x : Int).toNat ((0 : Int), (0 : Int), (0 : Int), ()))).snd] ∧ (hapX (vAt n l x) (l.getD (↑x : Int).toNat ((0 : Int), (0 : Int), (0 : Int), ()))).fst = (hapX (vAt n l x) (l.getD (↑x : Int).toNat ((0 : Int), (0 : Int), (0 : Int), ()))).fst ∧ (hapX (vAt n l x) (l.getD (↑x : Int).toNat ((0 : Int), (0 : Int), (0 : Int), ()))).snd = (hapX (vAt n l x) (l.getD (↑x : Int).toNat ((0 : Int), (0 : Int), (0 : Int), ()))).snd ∧ True) ∧ (0 : Int) ≤ (↑x : Int) ∧ (↑x : Int) < (↑l.length : Int) ∧ (Pl.mk (pAt n l x).n (pAt n l x).yes (pAt n l x).ends (pAt n l x).dec (pAt n l x).res).ok ∧ (inK IntKind.i64 (doX (Pl.mk (pAt n l x).n (pAt n l x).yes (pAt n l x).ends (pAt n l x).dec (pAt n l x).res) (l.getD (↑x : Int).toNat ((0 : Int), (0 : Int), (0 : Int), ()))).fst ∧ True) ∧ ((!decide ((doX (Pl.mk (pAt n l x).n (pAt n l x).yes (pAt n l x).ends (pAt n l x).dec (pAt n l x).res) (l.getD (↑x : Int).toNat ((0 : Int), (0 : Int), (0 : Int), ()))).fst = (hapX (vAt n l x) (l.getD (↑x : Int).toNat ((0 : Int), (0 : Int), (0 : Int), ()))).snd)) = true → k [Dat.mk Ty.bool false]) ∧ ((!decide ((doX (Pl.mk (pAt n l x).n (pAt n l x).yes (pAt n l x).ends (pAt n l x).dec (pAt n l x).res) (l.getD (↑x : Int).toNat ((0 : Int), (0 : Int), (0 : Int), ()))).fst = (hapX (vAt n l x) (l.getD (↑x : Int).toNat ((0 : Int), (0 : Int), (0 : Int), ()))).snd)) = false → (∃ (x_1 : Nat), ((↑x_1 : Int) ≤ n ∧ True) ∧ (n = n ∧ l = l ∧ True ∧ ([] : List Nat) = [] ∧ (↑x : Int) = (↑x : Int) ∧ decide ((hapX (vAt n l x) (l.getD (↑x : Int).toNat ((0 : Int), (0 : Int), (0 : Int), ()))).fst.snd.snd.fst = (0 : Int)) = rdyB (vAt n l ((↑x : Int).toNat + (1 : Nat))) x_1 ∧ (0 : Int) = (↑x_1 : Int) ∧ True) ∧ (((doX (Pl.mk (pAt n l x).n (pAt n l x).yes (pAt n l x).ends (pAt n l x).dec (pAt n l x).res) (l.getD (↑x : Int).toNat ((0 : Int), (0 : Int), (0 : Int), ()))).snd.n = (doX (Pl.mk (pAt n l x).n (pAt n l x).yes (pAt n l x).ends (pAt n l x).dec (pAt n l x).res) (l.getD (↑x : Int).toNat ((0 : Int), (0 : Int), (0 : Int), ()))).snd.n ∧ (doX (Pl.mk (pAt n l x).n (pAt n l x).yes (pAt n l x).ends (pAt n l x).dec (pAt n l x).res) (l.getD (↑x : Int).toNat ((0 : Int), (0 : Int), (0 : Int), ()))).snd.yes = (doX (Pl.mk (pAt n l x).n (pAt n l x).yes (pAt n l x).ends (pAt n l x).dec (pAt n l x).res) (l.getD (↑x : Int).toNat ((0 : Int), (0 : Int), (0 : Int), ()))).snd.yes ∧ True ∧ (doX (Pl.mk (pAt n l x).n (pAt n l x).yes (pAt n l x).ends (pAt n l x).dec (pAt n l x).res) (l.getD (↑x : Int).toNat ((0 : Int), (0 : Int), (0 : Int), ()))).snd.dec = (doX (Pl.mk (pAt n l x).n (pAt n l x).yes (pAt n l x).ends (pAt n l x).dec (pAt n l x).res) (l.getD (↑x : Int).toNat ((0 : Int), (0 : Int), (0 : Int), ()))).snd.dec ∧ (doX (Pl.mk (pAt n l x).n (pAt n l x).yes (pAt n l x).ends (pAt n l x).dec (pAt n l x).res) (l.getD (↑x : Int).toNat ((0 : Int), (0 : Int), (0 : Int), ()))).snd.res = (doX (Pl.mk (pAt n l x).n (pAt n l x).yes (pAt n l x).ends (pAt n l x).dec (pAt n l x).res) (l.getD (↑x : Int).toNat ((0 : Int), (0 : Int), (0 : Int), ()))).snd.res ∧ True) ∧ ((32 : Nat) = (32 : Nat) ∧ (hapX (vAt n l x) (l.getD (↑x : Int).toNat ((0 : Int), (0 : Int), (0 : Int), ()))).fst = (hapX (vAt n l x) (l.getD (↑x : Int).toNat ((0 : Int), (0 : Int), (0 : Int), ()))).fst) ∧ ((32 : Nat) = (32 : Nat) ∧ (hapX (vAt n l x) (l.getD (↑x : Int).toNat ((0 : Int), (0 : Int), (0 : Int), ()))).fst = (hapX (vAt n l x) (l.getD (↑x : Int).toNat ((0 : Int), (0 : Int), (0 : Int), ()))).fst) ∧ ((3 : Nat) = (3 : Nat) ∧ (doX (Pl.mk (pAt n l x).n (pAt n l x).yes (pAt n l x).ends (pAt n l x).dec (pAt n l x).res) (l.getD (↑x : Int).toNat ((0 : Int), (0 : Int), (0 : Int), ()))).snd.ends = (doX (Pl.mk (pAt n l x).n (pAt n l x).yes (pAt n l x).ends (pAt n l x).dec (pAt n l x).res) (l.getD (↑x : Int).toNat ((0 : Int), (0 : Int), (0 : Int), ()))).snd.ends) ∧ True) ∧ hdE = hdE ∧ True) ∧ ∀ (x_1 : Nat), (↑x_1 : Int) ≤ n ∧ True → (decide ((↑x_1 : Int) < n) = true → ((∃ (s : Int × Int × List Int × Bool × Bool × Unit), some ((doX (Pl.mk (pAt n l x).n (pAt n l x).yes (pAt n l x).ends (pAt n l x).dec (pAt n l x).res) (l.getD (↑x : Int).toNat ((0 : Int), (0 : Int), (0 : Int), ()))).snd.n, (doX (Pl.mk (pAt n l x).n (pAt n l x).yes (pAt n l x).ends (pAt n l x).dec (pAt n l x).res) (l.getD (↑x : Int).toNat ((0 : Int), (0 : Int), (0 : Int), ()))).snd.yes, (doX (Pl.mk (pAt n l x).n (pAt n l x).yes (pAt n l x).ends (pAt n l x).dec (pAt n l x).res) (l.getD (↑x : Int).toNat ((0 : Int), (0 : Int), (0 : Int), ()))).snd.ends, (doX (Pl.mk (pAt n l x).n (pAt n l x).yes (pAt n l x).ends (pAt n l x).dec (pAt n l x).res) (l.getD (↑x : Int).toNat ((0 : Int), (0 : Int), (0 : Int), ()))).snd.dec, (doX (Pl.mk (pAt n l x).n (pAt n l x).yes (pAt n l x).ends (pAt n l x).dec (pAt n l x).res) (l.getD (↑x : Int).toNat ((0 : Int), (0 : Int), (0 : Int), ()))).snd.res, ()) = some s ∧ ((1 : Int) ≤ s.fst ∧ s.fst ≤ (8 : Int)) ∧ (↑s.snd.snd.fst.length : Int) = s.fst) ∧ (0 : Int) ≤ (↑x_1 : Int) ∧ (↑x_1 : Int) < (↑(List.length (hapX (vAt n l x) (l.getD (↑x : Int).toNat ((0 : Int), (0 : Int), (0 : Int), ()))).fst.fst) : Int) ∧ True) ∧ ((!decide (memX ((doX (Pl.mk (pAt n l x).n (pAt n l x).yes (pAt n l x).ends (pAt n l x).dec (pAt n l x).res) (l.getD (↑x : Int).toNat ((0 : Int), (0 : Int), (0 : Int), ()))).snd.n, (doX (Pl.mk (pAt n l x).n (pAt n l x).yes (pAt n l x).ends (pAt n l x).dec (pAt n l x).res) (l.getD (↑x : Int).toNat ((0 : Int), (0 : Int), (0 : Int), ()))).snd.yes, (doX (Pl.mk (pAt n l x).n (pAt n l x).yes (pAt n l x).ends (pAt n l x).dec (pAt n l x).res) (l.getD (↑x : Int).toNat ((0 : Int), (0 : Int), (0 : Int), ()))).snd.ends, (doX (Pl.mk (pAt n l x).n (pAt n l x).yes (pAt n l x).ends (pAt n l x).dec (pAt n l x).res) (l.getD (↑x : Int).toNat ((0 : Int), (0 : Int), (0 : Int), ()))).snd.dec, (doX (Pl.mk (pAt n l x).n (pAt n l x).yes (pAt n l x).ends (pAt n l x).dec (pAt n l x).res) (l.getD (↑x : Int).toNat ((0 : Int), (0 : Int), (0 : Int), ()))).snd.res, ()) (↑x_1 : Int) = List.getD (hapX (vAt n l x) (l.getD (↑x : Int).toNat ((0 : Int), (0 : Int), (0 : Int), ()))).fst.fst (↑x_1 : Int).toNat (0 : Int))) = true → k [Dat.mk Ty.bool false]) ∧ ((!decide (memX ((doX (Pl.mk (pAt n l x).n (pAt n l x).yes (pAt n l x).ends (pAt n l x).dec (pAt n l x).res) (l.getD (↑x : Int).toNat ((0 : Int), (0 : Int), (0 : Int), ()))).snd.n, (doX (Pl.mk (pAt n l x).n (pAt n l x).yes (pAt n l x).ends (pAt n l x).dec (pAt n l x).res) (l.getD (↑x : Int).toNat ((0 : Int), (0 : Int), (0 : Int), ()))).snd.yes, (doX (Pl.mk (pAt n l x).n (pAt n l x).yes (pAt n l x).ends (pAt n l x).dec (pAt n l x).res) (l.getD (↑x : Int).toNat ((0 : Int), (0 : Int), (0 : Int), ()))).snd.ends, (doX (Pl.mk (pAt n l x).n (pAt n l x).yes (pAt n l x).ends (pAt n l x).dec (pAt n l x).res) (l.getD (↑x : Int).toNat ((0 : Int), (0 : Int), (0 : Int), ()))).snd.dec, (doX (Pl.mk (pAt n l x).n (pAt n l x).yes (pAt n l x).ends (pAt n l x).dec (pAt n l x).res) (l.getD (↑x : Int).toNat ((0 : Int), (0 : Int), (0 : Int), ()))).snd.res, ()) (↑x_1 : Int) = List.getD (hapX (vAt n l x) (l.getD (↑x : Int).toNat ((0 : Int), (0 : Int), (0 : Int), ()))).fst.fst (↑x_1 : Int).toNat (0 : Int))) = false → (rdyB (vAt n l ((↑x : Int).toNat + (1 : Nat))) x_1 = true → (0 : Int) ≤ (↑x_1 : Int) ∧ (↑x_1 : Int) < (↑(List.length (hapX (vAt n l x) (l.getD (↑x : Int).toNat ((0 : Int), (0 : Int), (0 : Int), ()))).fst.fst) : Int) ∧ inK IntKind.i64 ((↑x_1 : Int) + (1 : Int)) ∧ ∃ (x_2 : Nat), ((↑x_2 : Int) ≤ n ∧ True) ∧ n.toNat - x_2 < n.toNat - x_1 ∧ (n = n ∧ l = l ∧ True ∧ ([] : List Nat) = [] ∧ (↑x : Int) = (↑x : Int) ∧ decide (List.getD (hapX (vAt n l x) (l.getD (↑x : Int).toNat ((0 : Int), (0 : Int), (0 : Int), ()))).fst.fst (↑x_1 : Int).toNat (0 : Int) = (1 : Int)) = rdyB (vAt n l ((↑x : Int).toNat + (1 : Nat))) x_2 ∧ (↑x_1 : Int) + (1 : Int) = (↑x_2 : Int) ∧ True) ∧ (((doX (Pl.mk (pAt n l x).n (pAt n l x).yes (pAt n l x).ends (pAt n l x).dec (pAt n l x).res) (l.getD (↑x : Int).toNat ((0 : Int), (0 : Int), (0 : Int), ()))).snd.n = (doX (Pl.mk (pAt n l x).n (pAt n l x).yes (pAt n l x).ends (pAt n l x).dec (pAt n l x).res) (l.getD (↑x : Int).toNat ((0 : Int), (0 : Int), (0 : Int), ()))).snd.n ∧ (doX (Pl.mk (pAt n l x).n (pAt n l x).yes (pAt n l x).ends (pAt n l x).dec (pAt n l x).res) (l.getD (↑x : Int).toNat ((0 : Int), (0 : Int), (0 : Int), ()))).snd.yes = (doX (Pl.mk (pAt n l x).n (pAt n l x).yes (pAt n l x).ends (pAt n l x).dec (pAt n l x).res) (l.getD (↑x : Int).toNat ((0 : Int), (0 : Int), (0 : Int), ()))).snd.yes ∧ True ∧ (doX (Pl.mk (pAt n l x).n (pAt n l x).yes (pAt n l x).ends (pAt n l x).dec (pAt n l x).res) (l.getD (↑x : Int).toNat ((0 : Int), (0 : Int), (0 : Int), ()))).snd.dec = (doX (Pl.mk (pAt n l x).n (pAt n l x).yes (pAt n l x).ends (pAt n l x).dec (pAt n l x).res) (l.getD (↑x : Int).toNat ((0 : Int), (0 : Int), (0 : Int), ()))).snd.dec ∧ (doX (Pl.mk (pAt n l x).n (pAt n l x).yes (pAt n l x).ends (pAt n l x).dec (pAt n l x).res) (l.getD (↑x : Int).toNat ((0 : Int), (0 : Int), (0 : Int), ()))).snd.res = (doX (Pl.mk (pAt n l x).n (pAt n l x).yes (pAt n l x).ends (pAt n l x).dec (pAt n l x).res) (l.getD (↑x : Int).toNat ((0 : Int), (0 : Int), (0 : Int), ()))).snd.res ∧ True) ∧ ((32 : Nat) = (32 : Nat) ∧ (hapX (vAt n l x) (l.getD (↑x : Int).toNat ((0 : Int), (0 : Int), (0 : Int), ()))).fst = (hapX (vAt n l x) (l.getD (↑x : Int).toNat ((0 : Int), (0 : Int), (0 : Int), ()))).fst) ∧ ((32 : Nat) = (32 : Nat) ∧ (hapX (vAt n l x) (l.getD (↑x : Int).toNat ((0 : Int), (0 : Int), (0 : Int), ()))).fst = (hapX (vAt n l x) (l.getD (↑x : Int).toNat ((0 : Int), (0 : Int), (0 : Int), ()))).fst) ∧ ((3 : Nat) = (3 : Nat) ∧ (doX (Pl.mk (pAt n l x).n (pAt n l x).yes (pAt n l x).ends (pAt n l x).dec (pAt n l x).res) (l.getD (↑x : Int).toNat ((0 : Int), (0 : Int), (0 : Int), ()))).snd.ends = (doX (Pl.mk (pAt n l x).n (pAt n l x).yes (pAt n l x).ends (pAt n l x).dec (pAt n l x).res) (l.getD (↑x : Int).toNat ((0 : Int), (0 : Int), (0 : Int), ()))).snd.ends) ∧ True) ∧ hdE = hdE ∧ True) ∧ (rdyB (vAt n l ((↑x : Int).toNat + (1 : Nat))) x_1 = false → inK IntKind.i64 ((↑x_1 : Int) + (1 : Int)) ∧ ∃ (x_2 : Nat), ((↑x_2 : Int) ≤ n ∧ True) ∧ n.toNat - x_2 < n.toNat - x_1 ∧ (n = n ∧ l = l ∧ True ∧ ([] : List Nat) = [] ∧ (↑x : Int) = (↑x : Int) ∧ false = rdyB (vAt n l ((↑x : Int).toNat + (1 : Nat))) x_2 ∧ (↑x_1 : Int) + (1 : Int) = (↑x_2 : Int) ∧ True) ∧ (((doX (Pl.mk (pAt n l x).n (pAt n l x).yes (pAt n l x).ends (pAt n l x).dec (pAt n l x).res) (l.getD (↑x : Int).toNat ((0 : Int), (0 : Int), (0 : Int), ()))).snd.n = (doX (Pl.mk (pAt n l x).n (pAt n l x).yes (pAt n l x).ends (pAt n l x).dec (pAt n l x).res) (l.getD (↑x : Int).toNat ((0 : Int), (0 : Int), (0 : Int), ()))).snd.n ∧ (doX (Pl.mk (pAt n l x).n (pAt n l x).yes (pAt n l x).ends (pAt n l x).dec (pAt n l x).res) (l.getD (↑x : Int).toNat ((0 : Int), (0 : Int), (0 : Int), ()))).snd.yes = (doX (Pl.mk (pAt n l x).n (pAt n l x).yes (pAt n l x).ends (pAt n l x).dec (pAt n l x).res) (l.getD (↑x : Int).toNat ((0 : Int), (0 : Int), (0 : Int), ()))).snd.yes ∧ True ∧ (doX (Pl.mk (pAt n l x).n (pAt n l x).yes (pAt n l x).ends (pAt n l x).dec (pAt n l x).res) (l.getD (↑x : Int).toNat ((0 : Int), (0 : Int), (0 : Int), ()))).snd.dec = (doX (Pl.mk (pAt n l x).n (pAt n l x).yes (pAt n l x).ends (pAt n l x).dec (pAt n l x).res) (l.getD (↑x : Int).toNat ((0 : Int), (0 : Int), (0 : Int), ()))).snd.dec ∧ (doX (Pl.mk (pAt n l x).n (pAt n l x).yes (pAt n l x).ends (pAt n l x).dec (pAt n l x).res) (l.getD (↑x : Int).toNat ((0 : Int), (0 : Int), (0 : Int), ()))).snd.res = (doX (Pl.mk (pAt n l x).n (pAt n l x).yes (pAt n l x).ends (pAt n l x).dec (pAt n l x).res) (l.getD (↑x : Int).toNat ((0 : Int), (0 : Int), (0 : Int), ()))).snd.res ∧ True) ∧ ((32 : Nat) = (32 : Nat) ∧ (hapX (vAt n l x) (l.getD (↑x : Int).toNat ((0 : Int), (0 : Int), (0 : Int), ()))).fst = (hapX (vAt n l x) (l.getD (↑x : Int).toNat ((0 : Int), (0 : Int), (0 : Int), ()))).fst) ∧ ((32 : Nat) = (32 : Nat) ∧ (hapX (vAt n l x) (l.getD (↑x : Int).toNat ((0 : Int), (0 : Int), (0 : Int), ()))).fst = (hapX (vAt n l x) (l.getD (↑x : Int).toNat ((0 : Int), (0 : Int), (0 : Int), ()))).fst) ∧ ((3 : Nat) = (3 : Nat) ∧ (doX (Pl.mk (pAt n l x).n (pAt n l x).yes (pAt n l x).ends (pAt n l x).dec (pAt n l x).res) (l.getD (↑x : Int).toNat ((0 : Int), (0 : Int), (0 : Int), ()))).snd.ends = (doX (Pl.mk (pAt n l x).n (pAt n l x).yes (pAt n l x).ends (pAt n l x).dec (pAt n l x).res) (l.getD (↑x : Int).toNat ((0 : Int), (0 : Int), (0 : Int), ()))).snd.ends) ∧ True) ∧ hdE = hdE ∧ True))) ∧ (decide ((↑x_1 : Int) < n) = false → (rdyB (vAt n l ((↑x : Int).toNat + (1 : Nat))) x_1 = true → (n ≤ (61 : Int) ∧ True) ∧ inK IntKind.i64 ((2 : Int) ^ n.toNat - (1 : Int)) ∧ (∃ (s : Int × Int × List Int × Bool × Bool × Unit), some ((doX (Pl.mk (pAt n l x).n (pAt n l x).yes (pAt n l x).ends (pAt n l x).dec (pAt n l x).res) (l.getD (↑x : Int).toNat ((0 : Int), (0 : Int), (0 : Int), ()))).snd.n, (doX (Pl.mk (pAt n l x).n (pAt n l x).yes (pAt n l x).ends (pAt n l x).dec (pAt n l x).res) (l.getD (↑x : Int).toNat ((0 : Int), (0 : Int), (0 : Int), ()))).snd.yes, (doX (Pl.mk (pAt n l x).n (pAt n l x).yes (pAt n l x).ends (pAt n l x).dec (pAt n l x).res) (l.getD (↑x : Int).toNat ((0 : Int), (0 : Int), (0 : Int), ()))).snd.ends, (doX (Pl.mk (pAt n l x).n (pAt n l x).yes (pAt n l x).ends (pAt n l x).dec (pAt n l x).res) (l.getD (↑x : Int).toNat ((0 : Int), (0 : Int), (0 : Int), ()))).snd.dec, (doX (Pl.mk (pAt n l x).n (pAt n l x).yes (pAt n l x).ends (pAt n l x).dec (pAt n l x).res) (l.getD (↑x : Int).toNat ((0 : Int), (0 : Int), (0 : Int), ()))).snd.res, ()) = some s ∧ s.snd.snd.fst.length ≤ (8 : Nat)) ∧ ((!decide (stkX (doX (Pl.mk (pAt n l x).n (pAt n l x).yes (pAt n l x).ends (pAt n l x).dec (pAt n l x).res) (l.getD (↑x : Int).toNat ((0 : Int), (0 : Int), (0 : Int), ()))).snd.ends (doX (Pl.mk (pAt n l x).n (pAt n l x).yes (pAt n l x).ends (pAt n l x).dec (pAt n l x).res) (l.getD (↑x : Int).toNat ((0 : Int), (0 : Int), (0 : Int), ()))).snd.dec = (2 : Int) ^ n.toNat - (1 : Int))) = true → k [Dat.mk Ty.bool false]) ∧ ((!decide (stkX (doX (Pl.mk (pAt n l x).n (pAt n l x).yes (pAt n l x).ends (pAt n l x).dec (pAt n l x).res) (l.getD (↑x : Int).toNat ((0 : Int), (0 : Int), (0 : Int), ()))).snd.ends (doX (Pl.mk (pAt n l x).n (pAt n l x).yes (pAt n l x).ends (pAt n l x).dec (pAt n l x).res) (l.getD (↑x : Int).toNat ((0 : Int), (0 : Int), (0 : Int), ()))).snd.dec = (2 : Int) ^ n.toNat - (1 : Int))) = false → inK IntKind.i64 ((↑x : Int) + (1 : Int)) ∧ ∃ (x_2 : Nat), (x_2 ≤ l.length ∧ x_2 ≤ (60 : Nat)) ∧ l.length - x_2 < l.length - x ∧ (n = n ∧ l = l ∧ True ∧ ([] : List Nat) = [] ∧ (↑x : Int) + (1 : Int) = (↑x_2 : Int) ∧ True) ∧ (((doX (Pl.mk (pAt n l x).n (pAt n l x).yes (pAt n l x).ends (pAt n l x).dec (pAt n l x).res) (l.getD (↑x : Int).toNat ((0 : Int), (0 : Int), (0 : Int), ()))).snd.n = (pAt n l x_2).n ∧ (doX (Pl.mk (pAt n l x).n (pAt n l x).yes (pAt n l x).ends (pAt n l x).dec (pAt n l x).res) (l.getD (↑x : Int).toNat ((0 : Int), (0 : Int), (0 : Int), ()))).snd.yes = (pAt n l x_2).yes ∧ True ∧ (doX (Pl.mk (pAt n l x).n (pAt n l x).yes (pAt n l x).ends (pAt n l x).dec (pAt n l x).res) (l.getD (↑x : Int).toNat ((0 : Int), (0 : Int), (0 : Int), ()))).snd.dec = (pAt n l x_2).dec ∧ (doX (Pl.mk (pAt n l x).n (pAt n l x).yes (pAt n l x).ends (pAt n l x).dec (pAt n l x).res) (l.getD (↑x : Int).toNat ((0 : Int), (0 : Int), (0 : Int), ()))).snd.res = (pAt n l x_2).res ∧ True) ∧ ((3 : Nat) = (3 : Nat) ∧ (doX (Pl.mk (pAt n l x).n (pAt n l x).yes (pAt n l x).ends (pAt n l x).dec (pAt n l x).res) (l.getD (↑x : Int).toNat ((0 : Int), (0 : Int), (0 : Int), ()))).snd.ends = (pAt n l x_2).ends) ∧ ((32 : Nat) = (32 : Nat) ∧ (hapX (vAt n l x) (l.getD (↑x : Int).toNat ((0 : Int), (0 : Int), (0 : Int), ()))).fst = vAt n l x_2) ∧ True) ∧ hdE = hdE ∧ True)) ∧ (rdyB (vAt n l ((↑x : Int).toNat + (1 : Nat))) x_1 = false → (∃ (s : Int × Int × List Int × Bool × Bool × Unit), some ((doX (Pl.mk (pAt n l x).n (pAt n l x).yes (pAt n l x).ends (pAt n l x).dec (pAt n l x).res) (l.getD (↑x : Int).toNat ((0 : Int), (0 : Int), (0 : Int), ()))).snd.n, (doX (Pl.mk (pAt n l x).n (pAt n l x).yes (pAt n l x).ends (pAt n l x).dec (pAt n l x).res) (l.getD (↑x : Int).toNat ((0 : Int), (0 : Int), (0 : Int), ()))).snd.yes, (doX (Pl.mk (pAt n l x).n (pAt n l x).yes (pAt n l x).ends (pAt n l x).dec (pAt n l x).res) (l.getD (↑x : Int).toNat ((0 : Int), (0 : Int), (0 : Int), ()))).snd.ends, (doX (Pl.mk (pAt n l x).n (pAt n l x).yes (pAt n l x).ends (pAt n l x).dec (pAt n l x).res) (l.getD (↑x : Int).toNat ((0 : Int), (0 : Int), (0 : Int), ()))).snd.dec, (doX (Pl.mk (pAt n l x).n (pAt n l x).yes (pAt n l x).ends (pAt n l x).dec (pAt n l x).res) (l.getD (↑x : Int).toNat ((0 : Int), (0 : Int), (0 : Int), ()))).snd.res, ()) = some s ∧ s.snd.snd.fst.length ≤ (8 : Nat)) ∧ ((!decide (stkX (doX (Pl.mk (pAt n l x).n (pAt n l x).yes (pAt n l x).ends (pAt n l x).dec (pAt n l x).res) (l.getD (↑x : Int).toNat ((0 : Int), (0 : Int), (0 : Int), ()))).snd.ends (doX (Pl.mk (pAt n l x).n (pAt n l x).yes (pAt n l x).ends (pAt n l x).dec (pAt n l x).res) (l.getD (↑x : Int).toNat ((0 : Int), (0 : Int), (0 : Int), ()))).snd.dec = (0 : Int))) = true → k [Dat.mk Ty.bool false]) ∧ ((!decide (stkX (doX (Pl.mk (pAt n l x).n (pAt n l x).yes (pAt n l x).ends (pAt n l x).dec (pAt n l x).res) (l.getD (↑x : Int).toNat ((0 : Int), (0 : Int), (0 : Int), ()))).snd.ends (doX (Pl.mk (pAt n l x).n (pAt n l x).yes (pAt n l x).ends (pAt n l x).dec (pAt n l x).res) (l.getD (↑x : Int).toNat ((0 : Int), (0 : Int), (0 : Int), ()))).snd.dec = (0 : Int))) = false → inK IntKind.i64 ((↑x : Int) + (1 : Int)) ∧ ∃ (x_2 : Nat), (x_2 ≤ l.length ∧ x_2 ≤ (60 : Nat)) ∧ l.length - x_2 < l.length - x ∧ (n = n ∧ l = l ∧ True ∧ ([] : List Nat) = [] ∧ (↑x : Int) + (1 : Int) = (↑x_2 : Int) ∧ True) ∧ (((doX (Pl.mk (pAt n l x).n (pAt n l x).yes (pAt n l x).ends (pAt n l x).dec (pAt n l x).res) (l.getD (↑x : Int).toNat ((0 : Int), (0 : Int), (0 : Int), ()))).snd.n = (pAt n l x_2).n ∧ (doX (Pl.mk (pAt n l x).n (pAt n l x).yes (pAt n l x).ends (pAt n l x).dec (pAt n l x).res) (l.getD (↑x : Int).toNat ((0 : Int), (0 : Int), (0 : Int), ()))).snd.yes = (pAt n l x_2).yes ∧ True ∧ (doX (Pl.mk (pAt n l x).n (pAt n l x).yes (pAt n l x).ends (pAt n l x).dec (pAt n l x).res) (l.getD (↑x : Int).toNat ((0 : Int), (0 : Int), (0 : Int), ()))).snd.dec = (pAt n l x_2).dec ∧ (doX (Pl.mk (pAt n l x).n (pAt n l x).yes (pAt n l x).ends (pAt n l x).dec (pAt n l x).res) (l.getD (↑x : Int).toNat ((0 : Int), (0 : Int), (0 : Int), ()))).snd.res = (pAt n l x_2).res ∧ True) ∧ ((3 : Nat) = (3 : Nat) ∧ (doX (Pl.mk (pAt n l x).n (pAt n l x).yes (pAt n l x).ends (pAt n l x).dec (pAt n l x).res) (l.getD (↑x : Int).toNat ((0 : Int), (0 : Int), (0 : Int), ()))).snd.ends = (pAt n l x_2).ends) ∧ ((32 : Nat) = (32 : Nat) ∧ (hapX (vAt n l x) (l.getD (↑x : Int).toNat ((0 : Int), (0 : Int), (0 : Int), ()))).fst = vAt n l x_2) ∧ True) ∧ hdE = hdE ∧ True))))) ∧ (decide ((↑x : Int) < (60 : Int)) = false → (∃ (s : Int × Int × List Int × Bool × Bool × Unit), some ((pAt n l x).n, (pAt n l x).yes, (pAt n l x).ends, (pAt n l x).dec, (pAt n l x).res, ()) = some s ∧ ((1 : Int) ≤ s.fst ∧ s.fst ≤ (8 : Int)) ∧ (↑s.snd.snd.fst.length : Int) = s.fst) ∧ (decide (memX ((pAt n l x).n, (pAt n l x).yes, (pAt n l x).ends, (pAt n l x).dec, (pAt n l x).res, ()) (-1 : Int) = (-1 : Int)) = true → (∃ (s : Int × Int × List Int × Bool × Bool × Unit), some ((pAt n l x).n, (pAt n l x).yes, (pAt n l x).ends, (pAt n l x).dec, (pAt n l x).res, ()) = some s ∧ ((1 : Int) ≤ s.fst ∧ s.fst ≤ (8 : Int)) ∧ (↑s.snd.snd.fst.length : Int) = s.fst) ∧ k [Dat.mk Ty.bool (decide (memX ((pAt n l x).n, (pAt n l x).yes, (pAt n l x).ends, (pAt n l x).dec, (pAt n l x).res, ()) n = (-1 : Int)))]) ∧ (decide (memX ((pAt n l x).n, (pAt n l x).yes, (pAt n l x).ends, (pAt n l x).dec, (pAt n l x).res, ()) (-1 : Int) = (-1 : Int)) = false → k [Dat.mk Ty.bool false]))) ∧ (decide ((↑x : Int) < (↑l.length : Int)) = false → (∃ (s : Int × Int × List Int × Bool × Bool × Unit), some ((pAt n l x).n, (pAt n l x).yes, (pAt n l x).ends, (pAt n l x).dec, (pAt n l x).res, ()) = some s ∧ ((1 : Int) ≤ s.fst ∧ s.fst ≤ (8 : Int)) ∧ (↑s.snd.snd.fst.length : Int) = s.fst) ∧ (decide (memX ((pAt n l x).n, (pAt n l x).yes, (pAt n l x).ends, (pAt n l x).dec, (pAt n l x).res, ()) (-1 : Int) = (-1 : Int)) = true → (∃ (s : Int × Int × List Int × Bool × Bool × Unit), some ((pAt n l x).n, (pAt n l x).yes, (pAt n l x).ends, (pAt n l x).dec, (pAt n l x).res, ()) = some s ∧ ((1 : Int) ≤ s.fst ∧ s.fst ≤ (8 : Int)) ∧ (↑s.snd.snd.fst.length : Int) = s.fst) ∧ k [Dat.mk Ty.bool (decide (memX ((pAt n l x).n, (pAt n l x).yes, (pAt n l x).ends, (pAt n l x).dec, (pAt n l x).res, ()) n = (-1 : Int)))]) ∧ (decide (memX ((pAt n l x).n, (pAt n l x).yes, (pAt n l x).ends, (pAt n l x).dec, (pAt n l x).res, ()) (-1 : Int) = (-1 : Int)) = false → k [Dat.mk Ty.bool false])))))) ∧ (inB n (1 : Int) (8 : Int) = false → (decide (n < (1 : Int)) = true → (inK IntKind.i64 (1 : Int) ∧ True) ∧ k [Dat.mk Ty.bool (decide ((1 : Int) = (1 : Int)))]) ∧ (decide (n < (1 : Int)) = false → (decide ((8 : Int) < n) = true → (inK IntKind.i64 (1 : Int) ∧ True) ∧ k [Dat.mk Ty.bool (decide ((1 : Int) = (1 : Int)))]) ∧ (decide ((8 : Int) < n) = false → ((!decide ((1 : Int) = (0 : Int))) = true → k [Dat.mk Ty.bool false]) ∧ ((!decide ((1 : Int) = (0 : Int))) = false → (0 : Int) ≤ n ∧ n ≤ n ∧ n ≤ (1000000000 : Int) ∧ (0 : Int) ≤ n ∧ n ≤ n ∧ n ≤ (1000000000 : Int) ∧ (0 : Int) ≤ n ∧ n ≤ n ∧ n ≤ (1000000000 : Int) ∧ (0 : Int) ≤ n ∧ n ≤ n ∧ n ≤ (1000000000 : Int) ∧ (n = n ∧ l = l ∧ SV.bt false = SV.bt false ∧ SV.nilp = SV.nilp ∧ (1 : Int) = (1 : Int) ∧ SV.tp [SV.nilp, SV.d (Ty.err (76 : Nat)) (1 : Int)] = SV.tp [SV.nilp, SV.d (Ty.err (76 : Nat)) (1 : Int)] ∧ n = n ∧ SV.tp [SV.nilp, SV.d (Ty.err (76 : Nat)) (1 : Int)] = SV.tp [SV.nilp, SV.d (Ty.err (76 : Nat)) (1 : Int)] ∧ SV.nilp = SV.nilp ∧ (1 : Int) = (1 : Int) ∧ n = n ∧ decide (n < (1 : Int)) = decide (n < (1 : Int)) ∧ SV.bt false = SV.bt false ∧ n = n ∧ decide ((8 : Int) < n) = decide ((8 : Int) < n) ∧ decide ((8 : Int) < n) = decide ((8 : Int) < n) ∧ (1 : Int) = (1 : Int) ∧ (!decide ((1 : Int) = (0 : Int))) = !decide ((1 : Int) = (0 : Int)) ∧ n = n ∧ List.replicate n.toNat (0 : Int) = List.replicate n.toNat (0 : Int) ∧ n = n ∧ List.replicate n.toNat false = List.replicate n.toNat false ∧ (List.replicate n.toNat (0 : Int), List.replicate n.toNat false, (0 : Int), ()) = (List.replicate n.toNat (0 : Int), List.replicate n.toNat false, (0 : Int), ()) ∧ True) ∧ (∃ (x : Nat), (x ≤ l.length ∧ x ≤ (60 : Nat)) ∧ (n = n ∧ l = l ∧ True ∧ ([] : List Nat) = [] ∧ (0 : Int) = (↑x : Int) ∧ True) ∧ (False ∧ False ∧ False ∧ True) ∧ hdE = hdE ∧ True) ∧ ∀ (x : Nat), x ≤ l.length ∧ x ≤ (60 : Nat) → (decide ((↑x : Int) < (↑l.length : Int)) = true → (decide ((↑x : Int) < (60 : Int)) = true → False) ∧ (decide ((↑x : Int) < (60 : Int)) = false → (∃ (s : Int × Int × List Int × Bool × Bool × Unit), none = some s ∧ ((1 : Int) ≤ s.fst ∧ s.fst ≤ (8 : Int)) ∧ (↑s.snd.snd.fst.length : Int) = s.fst) ∧ (decide (memX ((0 : Int), (0 : Int), [], false, false, ()) (-1 : Int) = (-1 : Int)) = true → (∃ (s : Int × Int × List Int × Bool × Bool × Unit), none = some s ∧ ((1 : Int) ≤ s.fst ∧ s.fst ≤ (8 : Int)) ∧ (↑s.snd.snd.fst.length : Int) = s.fst) ∧ k [Dat.mk Ty.bool (decide (memX ((0 : Int), (0 : Int), [], false, false, ()) n = (-1 : Int)))]) ∧ (decide (memX ((0 : Int), (0 : Int), [], false, false, ()) (-1 : Int) = (-1 : Int)) = false → k [Dat.mk Ty.bool false]))) ∧ (decide ((↑x : Int) < (↑l.length : Int)) = false → (∃ (s : Int × Int × List Int × Bool × Bool × Unit), none = some s ∧ ((1 : Int) ≤ s.fst ∧ s.fst ≤ (8 : Int)) ∧ (↑s.snd.snd.fst.length : Int) = s.fst) ∧ (decide (memX ((0 : Int), (0 : Int), [], false, false, ()) (-1 : Int) = (-1 : Int)) = true → (∃ (s : Int × Int × List Int × Bool × Bool × Unit), none = some s ∧ ((1 : Int) ≤ s.fst ∧ s.fst ≤ (8 : Int)) ∧ (↑s.snd.snd.fst.length : Int) = s.fst) ∧ k [Dat.mk Ty.bool (decide (memX ((0 : Int), (0 : Int), [], false, false, ()) n = (-1 : Int)))]) ∧ (decide (memX ((0 : Int), (0 : Int), [], false, false, ()) (-1 : Int) = (-1 : Int)) = false → k [Dat.mk Ty.bool false]))))))) := by kernel_rfl
end Go.Proofs.YtjgdpblaghhfhaaDoor

/- What the functions of this seat have to satisfy, by program: each verification condition in plain words. -/
namespace Go.Proofs.YtjgdpblaghhfhaaDoor
open Go.Vc
set_option linter.unusedVariables false
theorem vcWithin (a b c : Int) (k : List Dat → Prop) : vcF X0 [] (Tryd.f30.body.getD .skip) Tryd.f30.ntmps [(.tmp 6, .bool)] [⟨I, a⟩, ⟨I, b⟩, ⟨I, c⟩] k = (
  (decide (b ≤ a) = true → k [Dat.mk Ty.bool (decide (a ≤ c))]) ∧ (decide (b ≤ a) = false → k [Dat.mk Ty.bool false])) := by kernel_rfl
theorem vcIn (a b c : Int) (k : List Dat → Prop) : vcF X0 [] (Tryd.f32.body.getD .skip) Tryd.f32.ntmps [(.tmp 6, .bool)] [⟨I, a⟩, ⟨I, b⟩, ⟨I, c⟩] k = (
  (decide (b ≤ a) = true → k [Dat.mk Ty.bool (decide (a ≤ c))]) ∧ (decide (b ≤ a) = false → k [Dat.mk Ty.bool false])) := by kernel_rfl
theorem vcNew (n : Int) (k : SV → List Ob → Prop) : vcO X1 [] (Tryd.f6.body.getD .skip) Tryd.f6.ntmps [(.tmp 2, .un), (.tmp 3, tErr)] [.d I n] [] k = (
  True ∧ ((!inB n (1 : Int) (8 : Int)) = true → (1 : Int) ≠ (0 : Int) ∧ k (SV.tp [SV.nilp, SV.d (Ty.err (76 : Nat)) (1 : Int)]) []) ∧ ((!inB n (1 : Int) (8 : Int)) = false → (0 : Int) ≤ n ∧ n ≤ n ∧ n ≤ (1000000000 : Int) ∧ k (SV.tp [SV.ps (0 : Nat), SV.d (Ty.err (76 : Nat)) (0 : Int)]) [Ob.st (78 : Nat) [SV.d (I) n, SV.d (I) (0 : Int), SV.os (1 : Nat), SV.d Ty.bool false, SV.d Ty.bool false], Ob.row (3 : Nat) (I) (List.replicate n.toNat (0 : Int))])) := by kernel_rfl
theorem vcDo (n y : Int) (l : List Int) (dc rs : Bool) (a : Act3) (k : SV → List Ob → Prop) : vcO X1 [joinAll] (Tryd.f9.body.getD .skip) Tryd.f9.ntmps [(.tmp 4, tErr)] [.ps 0, .d tA a] (pob n y l dc rs) k = (
  True ∧ ((!inB a.fst (0 : Int) (3 : Int)) = true → (1 : Int) ≠ (0 : Int) ∧ k (SV.d (Ty.err (76 : Nat)) (1 : Int)) [Ob.st (78 : Nat) [SV.d (I) n, SV.d (I) y, SV.os (1 : Nat), SV.d Ty.bool dc, SV.d Ty.bool rs], Ob.row (3 : Nat) (I) l]) ∧ ((!inB a.fst (0 : Int) (3 : Int)) = false → True ∧ ((!inB a.snd.snd.fst (0 : Int) (1 : Int)) = true → (1 : Int) ≠ (0 : Int) ∧ k (SV.d (Ty.err (76 : Nat)) (1 : Int)) [Ob.st (78 : Nat) [SV.d (I) n, SV.d (I) y, SV.os (1 : Nat), SV.d Ty.bool dc, SV.d Ty.bool rs], Ob.row (3 : Nat) (I) l]) ∧ ((!inB a.snd.snd.fst (0 : Int) (1 : Int)) = false → (decide (a.fst = (1 : Int)) = true → (dc = true → (7 : Int) ≠ (0 : Int) ∧ k (SV.d (Ty.err (76 : Nat)) (7 : Int)) [Ob.st (78 : Nat) [SV.d (I) n, SV.d (I) y, SV.os (1 : Nat), SV.d Ty.bool dc, SV.d Ty.bool rs], Ob.row (3 : Nat) (I) l]) ∧ (dc = false → (0 : Int) ≤ n ∧ n < (64 : Int) ∧ IntKind.i64.bits = (64 : Nat) ∧ inK IntKind.i64 ((1 : Int) * (2 : Int) ^ n.toNat) ∧ inK IntKind.i64 ((1 : Int) * (2 : Int) ^ n.toNat - (1 : Int)) ∧ True ∧ k (SV.d (Ty.err (76 : Nat)) (0 : Int)) [Ob.st (78 : Nat) [SV.d (I) n, SV.d (I) y, SV.os (1 : Nat), SV.d Ty.bool true, SV.d Ty.bool (decide (y = (1 : Int) * (2 : Int) ^ n.toNat - (1 : Int)))], Ob.row (3 : Nat) (I) l])) ∧ (decide (a.fst = (1 : Int)) = false → (inK IntKind.i64 (n - (1 : Int)) ∧ True ∧ True) ∧ ((!inB a.snd.fst (0 : Int) (n - (1 : Int))) = true → (1 : Int) ≠ (0 : Int) ∧ k (SV.d (Ty.err (76 : Nat)) (1 : Int)) [Ob.st (78 : Nat) [SV.d (I) n, SV.d (I) y, SV.os (1 : Nat), SV.d Ty.bool dc, SV.d Ty.bool rs], Ob.row (3 : Nat) (I) l]) ∧ ((!inB a.snd.fst (0 : Int) (n - (1 : Int))) = false → (0 : Int) ≤ a.snd.fst ∧ a.snd.fst < (64 : Int) ∧ IntKind.i64.bits = (64 : Nat) ∧ inK IntKind.i64 ((1 : Int) * (2 : Int) ^ Int.toNat a.snd.fst) ∧ (decide (a.fst = (0 : Int)) = true → ((0 : Int) ≤ a.snd.fst ∧ a.snd.fst < (↑l.length : Int) ∧ True) ∧ ((!decide (l.getD (Int.toNat a.snd.fst) (0 : Int) = (0 : Int))) = true → (7 : Int) ≠ (0 : Int) ∧ k (SV.d (Ty.err (76 : Nat)) (7 : Int)) [Ob.st (78 : Nat) [SV.d (I) n, SV.d (I) y, SV.os (1 : Nat), SV.d Ty.bool dc, SV.d Ty.bool rs], Ob.row (3 : Nat) (I) l]) ∧ ((!decide (l.getD (Int.toNat a.snd.fst) (0 : Int) = (0 : Int))) = false → (decide (a.snd.snd.fst = (1 : Int)) = true → (0 : Int) ≤ y ∧ (0 : Int) ≤ (1 : Int) * (2 : Int) ^ Int.toNat a.snd.fst ∧ ((0 : Int) ≤ a.snd.fst ∧ a.snd.fst < (↑l.length : Int) ∧ True) ∧ k (SV.d (Ty.err (76 : Nat)) (0 : Int)) [Ob.st (78 : Nat) [SV.d (I) n, SV.d (I) (↑(y.toNat ||| ((1 : Int) * (2 : Int) ^ Int.toNat a.snd.fst).toNat) : Int), SV.os (1 : Nat), SV.d Ty.bool dc, SV.d Ty.bool rs], Ob.row (3 : Nat) (I) (l.set (Int.toNat a.snd.fst) (1 : Int))]) ∧ (decide (a.snd.snd.fst = (1 : Int)) = false → ((0 : Int) ≤ a.snd.fst ∧ a.snd.fst < (↑l.length : Int) ∧ True) ∧ k (SV.d (Ty.err (76 : Nat)) (0 : Int)) [Ob.st (78 : Nat) [SV.d (I) n, SV.d (I) y, SV.os (1 : Nat), SV.d Ty.bool dc, SV.d Ty.bool rs], Ob.row (3 : Nat) (I) (l.set (Int.toNat a.snd.fst) (3 : Int))]))) ∧ (decide (a.fst = (0 : Int)) = false → (decide (a.fst = (2 : Int)) = true → ((!dc) = true → (5 : Int) ≠ (0 : Int) ∧ k (SV.d (Ty.err (76 : Nat)) (5 : Int)) [Ob.st (78 : Nat) [SV.d (I) n, SV.d (I) y, SV.os (1 : Nat), SV.d Ty.bool dc, SV.d Ty.bool rs], Ob.row (3 : Nat) (I) l]) ∧ ((!dc) = false → (rs = true → ((0 : Int) ≤ a.snd.fst ∧ a.snd.fst < (↑l.length : Int) ∧ True) ∧ k (SV.d (Ty.err (76 : Nat)) (0 : Int)) [Ob.st (78 : Nat) [SV.d (I) n, SV.d (I) y, SV.os (1 : Nat), SV.d Ty.bool dc, SV.d Ty.bool rs], Ob.row (3 : Nat) (I) (l.set (Int.toNat a.snd.fst) (2 : Int))]) ∧ (rs = false → ((0 : Int) ≤ a.snd.fst ∧ a.snd.fst < (↑l.length : Int) ∧ True) ∧ k (SV.d (Ty.err (76 : Nat)) (0 : Int)) [Ob.st (78 : Nat) [SV.d (I) n, SV.d (I) y, SV.os (1 : Nat), SV.d Ty.bool dc, SV.d Ty.bool rs], Ob.row (3 : Nat) (I) (l.set (Int.toNat a.snd.fst) (3 : Int))]))) ∧ (decide (a.fst = (2 : Int)) = false → (decide (a.fst = (3 : Int)) = true → ((0 : Int) ≤ a.snd.fst ∧ a.snd.fst < (↑l.length : Int) ∧ True) ∧ (decide (l.getD (Int.toNat a.snd.fst) (0 : Int) = (0 : Int)) = true → ((0 : Int) ≤ a.snd.fst ∧ a.snd.fst < (↑l.length : Int) ∧ True) ∧ k (SV.d (Ty.err (76 : Nat)) (0 : Int)) [Ob.st (78 : Nat) [SV.d (I) n, SV.d (I) y, SV.os (1 : Nat), SV.d Ty.bool dc, SV.d Ty.bool rs], Ob.row (3 : Nat) (I) (l.set (Int.toNat a.snd.fst) (3 : Int))]) ∧ (decide (l.getD (Int.toNat a.snd.fst) (0 : Int) = (0 : Int)) = false → k (SV.d (Ty.err (76 : Nat)) (0 : Int)) [Ob.st (78 : Nat) [SV.d (I) n, SV.d (I) y, SV.os (1 : Nat), SV.d Ty.bool dc, SV.d Ty.bool rs], Ob.row (3 : Nat) (I) l])) ∧ (decide (a.fst = (3 : Int)) = false → k (SV.d (Ty.err (76 : Nat)) (0 : Int)) [Ob.st (78 : Nat) [SV.d (I) n, SV.d (I) y, SV.os (1 : Nat), SV.d Ty.bool dc, SV.d Ty.bool rs], Ob.row (3 : Nat) (I) l])))))))) := by kernel_rfl
theorem vcMemP (n y : Int) (l : List Int) (dc rs : Bool) (i : Int) (k : List Dat → Prop) : vcF ⟨Ew, [(30, cWithin)], glE, [], []⟩ [] (Tryd.f10.body.getD .skip) Tryd.f10.ntmps [(.tmp 4, I)] [⟨.ptr tPoll, some (n, y, l, dc, rs, ())⟩, ⟨I, i⟩] k = (
  inK IntKind.i64 (n - (1 : Int)) ∧ True ∧ ((!inB i (0 : Int) (n - (1 : Int))) = true → k [Dat.mk (I) (-1 : Int)]) ∧ ((!inB i (0 : Int) (n - (1 : Int))) = false → (0 : Int) ≤ i ∧ i < (↑l.length : Int) ∧ k [Dat.mk (I) (l.getD i.toNat (0 : Int))])) := by kernel_rfl
theorem vcStk (n y : Int) (l : List Int) (dc rs : Bool) (k : List Dat → Prop) : vcF ⟨Ew, [], glE, [], []⟩ (anStk l) (Tryd.f12.body.getD .skip) Tryd.f12.ntmps [(.tmp 2, I)] [⟨.ptr tPoll, some (n, y, l, dc, rs, ())⟩] k = (
  (∃ (x : Nat), (x ≤ l.length ∧ ((List.take x l).all fun (e : Int) => decide (e = (1 : Int))) = true) ∧ (some (n, y, l, dc, rs, ()) = some (n, y, l, dc, rs, ()) ∧ (0 : Int) = onesI x ∧ l = l ∧ (↑l.length : Int) = (↑l.length : Int) ∧ (0 : Int) = (↑x : Int) ∧ True) ∧ True ∧ hdE = hdE ∧ True) ∧ ∀ (x : Nat), x ≤ l.length ∧ ((List.take x l).all fun (e : Int) => decide (e = (1 : Int))) = true → (decide ((↑x : Int) < (↑l.length : Int)) = true → (0 : Int) ≤ (↑x : Int) ∧ (↑x : Int) < (↑l.length : Int) ∧ ((!decide (l.getD (↑x : Int).toNat (0 : Int) = (1 : Int))) = true → k [Dat.mk (I) (0 : Int)]) ∧ ((!decide (l.getD (↑x : Int).toNat (0 : Int) = (1 : Int))) = false → (0 : Int) ≤ (↑x : Int) ∧ (↑x : Int) < (64 : Int) ∧ IntKind.i64.bits = (64 : Nat) ∧ inK IntKind.i64 ((1 : Int) * (2 : Int) ^ (↑x : Int).toNat) ∧ (0 : Int) ≤ onesI x ∧ (0 : Int) ≤ (1 : Int) * (2 : Int) ^ (↑x : Int).toNat ∧ inK IntKind.i64 ((↑x : Int) + (1 : Int)) ∧ ∃ (x_1 : Nat), (x_1 ≤ l.length ∧ ((List.take x_1 l).all fun (e : Int) => decide (e = (1 : Int))) = true) ∧ l.length - x_1 < l.length - x ∧ (some (n, y, l, dc, rs, ()) = some (n, y, l, dc, rs, ()) ∧ (↑((onesI x).toNat ||| ((1 : Int) * (2 : Int) ^ (↑x : Int).toNat).toNat) : Int) = onesI x_1 ∧ l = l ∧ (↑l.length : Int) = (↑l.length : Int) ∧ (↑x : Int) + (1 : Int) = (↑x_1 : Int) ∧ True) ∧ True ∧ hdE = hdE ∧ True)) ∧ (decide ((↑x : Int) < (↑l.length : Int)) = false → (dc = true → k [Dat.mk (I) (0 : Int)]) ∧ (dc = false → k [Dat.mk (I) (onesI x)]))) := by kernel_rfl
theorem vcPow2 (n : Int) (k : List Dat → Prop) : vcF ⟨Ew, [], glE, [], []⟩ (anPow2 n) (Tryd.f11.body.getD .skip) Tryd.f11.ntmps [(.tmp 2, I)] [⟨I, n⟩] k = (
  (∃ (x : Nat), (x ≤ n.toNat ∧ True) ∧ (n = n ∧ (0 : Int) = (0 : Int) ∧ (1 : Int) = (2 : Int) ^ x ∧ (0 : Int) = (↑x : Int) ∧ True) ∧ True ∧ hdE = hdE ∧ True) ∧ ∀ (x : Nat), x ≤ n.toNat ∧ True → (decide ((↑x : Int) < n) = true → inK IntKind.i64 ((2 : Int) ^ x * (2 : Int)) ∧ inK IntKind.i64 ((↑x : Int) + (1 : Int)) ∧ ∃ (x_1 : Nat), (x_1 ≤ n.toNat ∧ True) ∧ n.toNat - x_1 < n.toNat - x ∧ (n = n ∧ (0 : Int) = (0 : Int) ∧ (2 : Int) ^ x * (2 : Int) = (2 : Int) ^ x_1 ∧ (↑x : Int) + (1 : Int) = (↑x_1 : Int) ∧ True) ∧ True ∧ hdE = hdE ∧ True) ∧ (decide ((↑x : Int) < n) = false → k [Dat.mk (I) ((2 : Int) ^ x)])) := by kernel_rfl
theorem vcHap (v : Vt) (a : Act3) (k : List Dat → Prop) : vcF ⟨Ew, [(32, cWithin)], glE, [], []⟩ (anHap v) (Tryd.f8.body.getD .skip) Tryd.f8.ntmps [(.cell 4 32, tV), (.tmp 5, I)] [⟨tV, v⟩, ⟨tA, a⟩] k = (
  True ∧ ((!inB a.fst (0 : Int) (3 : Int)) = true → k [Dat.mk ((I).sl.pr (Ty.bool.sl.pr ((I).pr Ty.un))) v, Dat.mk (I) (1 : Int)]) ∧ ((!inB a.fst (0 : Int) (3 : Int)) = false → True ∧ ((!inB a.snd.snd.fst (0 : Int) (1 : Int)) = true → k [Dat.mk ((I).sl.pr (Ty.bool.sl.pr ((I).pr Ty.un))) v, Dat.mk (I) (1 : Int)]) ∧ ((!inB a.snd.snd.fst (0 : Int) (1 : Int)) = false → (decide (a.fst = (1 : Int)) = true → ((!decide (v.snd.snd.fst = (0 : Int))) = true → k [Dat.mk ((I).sl.pr (Ty.bool.sl.pr ((I).pr Ty.un))) v, Dat.mk (I) (7 : Int)]) ∧ ((!decide (v.snd.snd.fst = (0 : Int))) = false → (∃ (x : Nat), (x ≤ v.fst.length ∧ True) ∧ (([] : List Nat) = [] ∧ ([] : List Nat) = [] ∧ ([] : List Nat) = [] ∧ (↑(List.length v.fst) : Int) = (↑(List.length v.fst) : Int) ∧ (0 : Int) = (↑x : Int) ∧ True) ∧ (((32 : Nat) = (32 : Nat) ∧ (v.fst, v.snd.fst, (1 : Int), v.snd.snd.snd) = (v.fst, v.snd.fst, decV v.snd.fst x, ())) ∧ ((36 : Nat) = (36 : Nat) ∧ a = a) ∧ ((32 : Nat) = (32 : Nat) ∧ zV = zV) ∧ True) ∧ hdE = hdE ∧ True) ∧ ∀ (x : Nat), x ≤ v.fst.length ∧ True → (decide ((↑x : Int) < (↑(List.length v.fst) : Int)) = true → (0 : Int) ≤ (↑x : Int) ∧ (↑x : Int) < (↑v.snd.fst.length : Int) ∧ ((!v.snd.fst.getD (↑x : Int).toNat false) = true → inK IntKind.i64 ((↑x : Int) + (1 : Int)) ∧ ∃ (x_1 : Nat), (x_1 ≤ v.fst.length ∧ True) ∧ v.fst.length - x_1 < v.fst.length - x ∧ (([] : List Nat) = [] ∧ ([] : List Nat) = [] ∧ ([] : List Nat) = [] ∧ (↑(List.length v.fst) : Int) = (↑(List.length v.fst) : Int) ∧ (↑x : Int) + (1 : Int) = (↑x_1 : Int) ∧ True) ∧ (((32 : Nat) = (32 : Nat) ∧ (v.fst, v.snd.fst, (2 : Int), ()) = (v.fst, v.snd.fst, decV v.snd.fst x_1, ())) ∧ ((36 : Nat) = (36 : Nat) ∧ a = a) ∧ ((32 : Nat) = (32 : Nat) ∧ zV = zV) ∧ True) ∧ hdE = hdE ∧ True) ∧ ((!v.snd.fst.getD (↑x : Int).toNat false) = false → inK IntKind.i64 ((↑x : Int) + (1 : Int)) ∧ ∃ (x_1 : Nat), (x_1 ≤ v.fst.length ∧ True) ∧ v.fst.length - x_1 < v.fst.length - x ∧ (([] : List Nat) = [] ∧ ([] : List Nat) = [] ∧ ([] : List Nat) = [] ∧ (↑(List.length v.fst) : Int) = (↑(List.length v.fst) : Int) ∧ (↑x : Int) + (1 : Int) = (↑x_1 : Int) ∧ True) ∧ (((32 : Nat) = (32 : Nat) ∧ (v.fst, v.snd.fst, decV v.snd.fst x, ()) = (v.fst, v.snd.fst, decV v.snd.fst x_1, ())) ∧ ((36 : Nat) = (36 : Nat) ∧ a = a) ∧ ((32 : Nat) = (32 : Nat) ∧ zV = zV) ∧ True) ∧ hdE = hdE ∧ True)) ∧ (decide ((↑x : Int) < (↑(List.length v.fst) : Int)) = false → k [Dat.mk ((I).sl.pr (Ty.bool.sl.pr ((I).pr Ty.un))) (v.fst, v.snd.fst, decV v.snd.fst x, ()), Dat.mk (I) (0 : Int)]))) ∧ (decide (a.fst = (1 : Int)) = false → inK IntKind.i64 ((↑(List.length v.fst) : Int) - (1 : Int)) ∧ True ∧ ((!inB a.snd.fst (0 : Int) ((↑(List.length v.fst) : Int) - (1 : Int))) = true → k [Dat.mk ((I).sl.pr (Ty.bool.sl.pr ((I).pr Ty.un))) v, Dat.mk (I) (1 : Int)]) ∧ ((!inB a.snd.fst (0 : Int) ((↑(List.length v.fst) : Int) - (1 : Int))) = false → (0 : Int) ≤ a.snd.fst ∧ a.snd.fst < (↑(List.length v.fst) : Int) ∧ (decide (a.fst = (0 : Int)) = true → ((!decide (List.getD v.fst (Int.toNat a.snd.fst) (0 : Int) = (0 : Int))) = true → k [Dat.mk ((I).sl.pr (Ty.bool.sl.pr ((I).pr Ty.un))) v, Dat.mk (I) (7 : Int)]) ∧ ((!decide (List.getD v.fst (Int.toNat a.snd.fst) (0 : Int) = (0 : Int))) = false → (decide (a.snd.snd.fst = (1 : Int)) = true → List.length v.snd.fst ≤ (1000000000 : Nat) ∧ (0 : Int) ≤ a.snd.fst ∧ a.snd.fst < (↑(List.length v.snd.fst) : Int) ∧ (decide (a.fst = (2 : Int)) = true → (decide (v.snd.snd.fst = (0 : Int)) = true → k [Dat.mk ((I).sl.pr (Ty.bool.sl.pr ((I).pr Ty.un))) (v.fst, List.set v.snd.fst (Int.toNat a.snd.fst) true, v.snd.snd), Dat.mk (I) (5 : Int)]) ∧ (decide (v.snd.snd.fst = (0 : Int)) = false → inK IntKind.i64 (v.snd.snd.fst + (1 : Int)) ∧ (decide (a.fst = (3 : Int)) = true → (decide (v.snd.snd.fst + (1 : Int) = (0 : Int)) = true → List.length v.fst ≤ (1000000000 : Nat) ∧ (0 : Int) ≤ a.snd.fst ∧ a.snd.fst < (↑(List.length v.fst) : Int) ∧ k [Dat.mk ((I).sl.pr (Ty.bool.sl.pr ((I).pr Ty.un))) (List.set v.fst (Int.toNat a.snd.fst) (3 : Int), List.set v.snd.fst (Int.toNat a.snd.fst) true, v.snd.snd), Dat.mk (I) (0 : Int)]) ∧ (decide (v.snd.snd.fst + (1 : Int) = (0 : Int)) = false → List.length v.fst ≤ (1000000000 : Nat) ∧ (0 : Int) ≤ a.snd.fst ∧ a.snd.fst < (↑(List.length v.fst) : Int) ∧ k [Dat.mk ((I).sl.pr (Ty.bool.sl.pr ((I).pr Ty.un))) (List.set v.fst (Int.toNat a.snd.fst) (v.snd.snd.fst + (1 : Int)), List.set v.snd.fst (Int.toNat a.snd.fst) true, v.snd.snd), Dat.mk (I) (0 : Int)])) ∧ (decide (a.fst = (3 : Int)) = false → List.length v.fst ≤ (1000000000 : Nat) ∧ (0 : Int) ≤ a.snd.fst ∧ a.snd.fst < (↑(List.length v.fst) : Int) ∧ k [Dat.mk ((I).sl.pr (Ty.bool.sl.pr ((I).pr Ty.un))) (List.set v.fst (Int.toNat a.snd.fst) (v.snd.snd.fst + (1 : Int)), List.set v.snd.fst (Int.toNat a.snd.fst) true, v.snd.snd), Dat.mk (I) (0 : Int)]))) ∧ (decide (a.fst = (2 : Int)) = false → (decide (a.fst = (3 : Int)) = true → (decide ((1 : Int) = (0 : Int)) = true → List.length v.fst ≤ (1000000000 : Nat) ∧ (0 : Int) ≤ a.snd.fst ∧ a.snd.fst < (↑(List.length v.fst) : Int) ∧ k [Dat.mk ((I).sl.pr (Ty.bool.sl.pr ((I).pr Ty.un))) (List.set v.fst (Int.toNat a.snd.fst) (3 : Int), List.set v.snd.fst (Int.toNat a.snd.fst) true, v.snd.snd), Dat.mk (I) (0 : Int)]) ∧ (decide ((1 : Int) = (0 : Int)) = false → List.length v.fst ≤ (1000000000 : Nat) ∧ (0 : Int) ≤ a.snd.fst ∧ a.snd.fst < (↑(List.length v.fst) : Int) ∧ k [Dat.mk ((I).sl.pr (Ty.bool.sl.pr ((I).pr Ty.un))) (List.set v.fst (Int.toNat a.snd.fst) (1 : Int), List.set v.snd.fst (Int.toNat a.snd.fst) true, v.snd.snd), Dat.mk (I) (0 : Int)])) ∧ (decide (a.fst = (3 : Int)) = false → List.length v.fst ≤ (1000000000 : Nat) ∧ (0 : Int) ≤ a.snd.fst ∧ a.snd.fst < (↑(List.length v.fst) : Int) ∧ k [Dat.mk ((I).sl.pr (Ty.bool.sl.pr ((I).pr Ty.un))) (List.set v.fst (Int.toNat a.snd.fst) (1 : Int), List.set v.snd.fst (Int.toNat a.snd.fst) true, v.snd.snd), Dat.mk (I) (0 : Int)]))) ∧ (decide (a.snd.snd.fst = (1 : Int)) = false → (decide (a.fst = (2 : Int)) = true → (decide (v.snd.snd.fst = (0 : Int)) = true → k [Dat.mk ((I).sl.pr (Ty.bool.sl.pr ((I).pr Ty.un))) v, Dat.mk (I) (5 : Int)]) ∧ (decide (v.snd.snd.fst = (0 : Int)) = false → inK IntKind.i64 (v.snd.snd.fst + (1 : Int)) ∧ (decide (a.fst = (3 : Int)) = true → (decide (v.snd.snd.fst + (1 : Int) = (0 : Int)) = true → List.length v.fst ≤ (1000000000 : Nat) ∧ (0 : Int) ≤ a.snd.fst ∧ a.snd.fst < (↑(List.length v.fst) : Int) ∧ k [Dat.mk ((I).sl.pr (Ty.bool.sl.pr ((I).pr Ty.un))) (List.set v.fst (Int.toNat a.snd.fst) (3 : Int), v.snd), Dat.mk (I) (0 : Int)]) ∧ (decide (v.snd.snd.fst + (1 : Int) = (0 : Int)) = false → List.length v.fst ≤ (1000000000 : Nat) ∧ (0 : Int) ≤ a.snd.fst ∧ a.snd.fst < (↑(List.length v.fst) : Int) ∧ k [Dat.mk ((I).sl.pr (Ty.bool.sl.pr ((I).pr Ty.un))) (List.set v.fst (Int.toNat a.snd.fst) (v.snd.snd.fst + (1 : Int)), v.snd), Dat.mk (I) (0 : Int)])) ∧ (decide (a.fst = (3 : Int)) = false → List.length v.fst ≤ (1000000000 : Nat) ∧ (0 : Int) ≤ a.snd.fst ∧ a.snd.fst < (↑(List.length v.fst) : Int) ∧ k [Dat.mk ((I).sl.pr (Ty.bool.sl.pr ((I).pr Ty.un))) (List.set v.fst (Int.toNat a.snd.fst) (v.snd.snd.fst + (1 : Int)), v.snd), Dat.mk (I) (0 : Int)]))) ∧ (decide (a.fst = (2 : Int)) = false → (decide (a.fst = (3 : Int)) = true → (decide ((3 : Int) = (0 : Int)) = true → List.length v.fst ≤ (1000000000 : Nat) ∧ (0 : Int) ≤ a.snd.fst ∧ a.snd.fst < (↑(List.length v.fst) : Int) ∧ k [Dat.mk ((I).sl.pr (Ty.bool.sl.pr ((I).pr Ty.un))) (List.set v.fst (Int.toNat a.snd.fst) (3 : Int), v.snd), Dat.mk (I) (0 : Int)]) ∧ (decide ((3 : Int) = (0 : Int)) = false → List.length v.fst ≤ (1000000000 : Nat) ∧ (0 : Int) ≤ a.snd.fst ∧ a.snd.fst < (↑(List.length v.fst) : Int) ∧ k [Dat.mk ((I).sl.pr (Ty.bool.sl.pr ((I).pr Ty.un))) (List.set v.fst (Int.toNat a.snd.fst) (3 : Int), v.snd), Dat.mk (I) (0 : Int)])) ∧ (decide (a.fst = (3 : Int)) = false → List.length v.fst ≤ (1000000000 : Nat) ∧ (0 : Int) ≤ a.snd.fst ∧ a.snd.fst < (↑(List.length v.fst) : Int) ∧ k [Dat.mk ((I).sl.pr (Ty.bool.sl.pr ((I).pr Ty.un))) (List.set v.fst (Int.toNat a.snd.fst) (3 : Int), v.snd), Dat.mk (I) (0 : Int)]))))) ∧ (decide (a.fst = (0 : Int)) = false → (decide (a.fst = (2 : Int)) = true → (decide (v.snd.snd.fst = (0 : Int)) = true → k [Dat.mk ((I).sl.pr (Ty.bool.sl.pr ((I).pr Ty.un))) v, Dat.mk (I) (5 : Int)]) ∧ (decide (v.snd.snd.fst = (0 : Int)) = false → inK IntKind.i64 (v.snd.snd.fst + (1 : Int)) ∧ (decide (a.fst = (3 : Int)) = true → (decide (v.snd.snd.fst + (1 : Int) = (0 : Int)) = true → List.length v.fst ≤ (1000000000 : Nat) ∧ (0 : Int) ≤ a.snd.fst ∧ a.snd.fst < (↑(List.length v.fst) : Int) ∧ k [Dat.mk ((I).sl.pr (Ty.bool.sl.pr ((I).pr Ty.un))) (List.set v.fst (Int.toNat a.snd.fst) (3 : Int), v.snd), Dat.mk (I) (0 : Int)]) ∧ (decide (v.snd.snd.fst + (1 : Int) = (0 : Int)) = false → List.length v.fst ≤ (1000000000 : Nat) ∧ (0 : Int) ≤ a.snd.fst ∧ a.snd.fst < (↑(List.length v.fst) : Int) ∧ k [Dat.mk ((I).sl.pr (Ty.bool.sl.pr ((I).pr Ty.un))) (List.set v.fst (Int.toNat a.snd.fst) (v.snd.snd.fst + (1 : Int)), v.snd), Dat.mk (I) (0 : Int)])) ∧ (decide (a.fst = (3 : Int)) = false → List.length v.fst ≤ (1000000000 : Nat) ∧ (0 : Int) ≤ a.snd.fst ∧ a.snd.fst < (↑(List.length v.fst) : Int) ∧ k [Dat.mk ((I).sl.pr (Ty.bool.sl.pr ((I).pr Ty.un))) (List.set v.fst (Int.toNat a.snd.fst) (v.snd.snd.fst + (1 : Int)), v.snd), Dat.mk (I) (0 : Int)]))) ∧ (decide (a.fst = (2 : Int)) = false → (decide (a.fst = (3 : Int)) = true → (decide (List.getD v.fst (Int.toNat a.snd.fst) (0 : Int) = (0 : Int)) = true → List.length v.fst ≤ (1000000000 : Nat) ∧ (0 : Int) ≤ a.snd.fst ∧ a.snd.fst < (↑(List.length v.fst) : Int) ∧ k [Dat.mk ((I).sl.pr (Ty.bool.sl.pr ((I).pr Ty.un))) (List.set v.fst (Int.toNat a.snd.fst) (3 : Int), v.snd), Dat.mk (I) (0 : Int)]) ∧ (decide (List.getD v.fst (Int.toNat a.snd.fst) (0 : Int) = (0 : Int)) = false → List.length v.fst ≤ (1000000000 : Nat) ∧ (0 : Int) ≤ a.snd.fst ∧ a.snd.fst < (↑(List.length v.fst) : Int) ∧ k [Dat.mk ((I).sl.pr (Ty.bool.sl.pr ((I).pr Ty.un))) (List.set v.fst (Int.toNat a.snd.fst) (List.getD v.fst (Int.toNat a.snd.fst) (0 : Int)), v.snd), Dat.mk (I) (0 : Int)])) ∧ (decide (a.fst = (3 : Int)) = false → List.length v.fst ≤ (1000000000 : Nat) ∧ (0 : Int) ≤ a.snd.fst ∧ a.snd.fst < (↑(List.length v.fst) : Int) ∧ k [Dat.mk ((I).sl.pr (Ty.bool.sl.pr ((I).pr Ty.un))) (List.set v.fst (Int.toNat a.snd.fst) (List.getD v.fst (Int.toNat a.snd.fst) (0 : Int)), v.snd), Dat.mk (I) (0 : Int)])))))))) := by kernel_rfl
end Go.Proofs.YtjgdpblaghhfhaaDoor

/- Votes: the poll's functions keep their contracts. -/
namespace Go.Proofs.YtjgdpblaghhfhaaDoor
open Go.Vc

theorem mixed : Tryd.prog.follows .mixedOrders = true := by kernel_rfl

theorem okWithin : PlainOk Tryd.prog glE 30 cWithin := by
  refine plain_of (X := X0) (CxOk.mk' Ev_ok rfl mixed GOk.nil GoOk.nil noIt) Tryd.func30 (c := Tryd.f30.body.getD .skip) (rvs := [(.tmp 6, .bool)]) (by kernel_rfl) (by kernel_rfl) (by kernel_rfl) ?_
  intro ds k ⟨hp, hk⟩ hwf
  obtain ⟨a, b, c, rfl, -⟩ := dest3 hp
  have hk : k [⟨.bool, inB a b c⟩] := hk
  refine ⟨[], ?_⟩
  rw [vcWithin]
  unfold inB at hk
  refine ⟨fun h => ?_, fun h => ?_⟩ <;> simpa [h] using hk

theorem X1_ok : CxOk Tryd.prog X1 := CxOk.mk' Ev_ok rfl mixed (GOk.cons okWithin Tryd.func30 rfl rfl GOk.nil) GoOk.nil noIt

theorem onPoll_out {f : Pl → List SV → (SV → Pl → Prop) → Prop} {args : List SV} {ob : List Ob} {k : SV → List Ob → Prop} (h : onPoll f args ob k) :
    ∃ n y l dc rs r, args = .ps 0 :: r ∧ ob = pob n y l dc rs ∧ f ⟨n, y, l, dc, rs⟩ r (fun s p => k s p.ob) := by
  unfold onPoll at h
  split at h
  · exact ⟨_, _, _, _, _, _, rfl, rfl, h⟩
  · exact h.elim

theorem inB_iff {n lo hi : Int} : inB n lo hi = true ↔ lo ≤ n ∧ n ≤ hi := by unfold inB; simp

theorem okNew : OwnOk Tryd.prog glE 6 cNew := by
  refine own_of X1_ok Tryd.func6 (c := Tryd.f6.body.getD .skip) (rvs := [(.tmp 2, .un), (.tmp 3, tErr)]) (by kernel_rfl) (by kernel_rfl) (by kernel_rfl) ?_
  intro args ob k h hw1 hw2
  clear hw1 hw2
  unfold cNew at h
  split at h
  · rename_i n
    obtain ⟨h1, h2⟩ := h
    refine ⟨[], ?_⟩
    rw [vcNew]
    refine ⟨trivial, fun h => ⟨by decide, h2 (by simpa using h)⟩, fun h => ?_⟩
    have h : inB n 1 8 = true := by simpa using h
    have hh := inB_iff.1 h
    exact ⟨by omega, by omega, by omega, h1 h⟩
  · exact h.elim

theorem two_pow_le {n m : Nat} (h : n ≤ m) : (2 : Int) ^ n ≤ 2 ^ m := by
  have : 2 ^ n ≤ 2 ^ m := Nat.pow_le_pow_right (by decide) h
  have h2 : ((2 ^ n : Nat) : Int) ≤ ((2 ^ m : Nat) : Int) := Int.ofNat_le.2 this
  rw [Int.natCast_pow, Int.natCast_pow] at h2
  exact h2
theorem two_pow_pos (n : Nat) : (0 : Int) < (2 : Int) ^ n := Int.pow_pos (by decide)
theorem two_pow_nat (n : Nat) : ((2 : Int) ^ n).toNat = 2 ^ n := by
  have : (2 : Int) ^ n = ((2 ^ n : Nat) : Int) := by rw [Int.natCast_pow]; rfl
  rw [this]; rfl

theorem okDo : OwnOk Tryd.prog glE 9 cDo := by
  refine own_of X1_ok Tryd.func9 (c := Tryd.f9.body.getD .skip) (rvs := [(.tmp 4, tErr)]) (by kernel_rfl) (by kernel_rfl) (by kernel_rfl) ?_
  intro args ob k h hw1 hw2
  clear hw1 hw2
  unfold cDo at h
  have hh := onPoll_out h
  clear h
  obtain ⟨n, y, l, dc, rs, r, rfl, rfl, h⟩ := hh

  split at h
  · rename_i a
    obtain ⟨⟨p1, p2, p3, p4, p5⟩, hk⟩ := h
    simp only at p1 p2 p3 p4 p5
    refine ⟨[joinAll], ?_⟩
    have hk := hk (doP ⟨n, y, l, dc, rs⟩ a).1 (doP ⟨n, y, l, dc, rs⟩ a).2 rfl
    revert hk
    generalize hr : doP ⟨n, y, l, dc, rs⟩ a = r
    intro hk
    rw [vcDo]
    have hpn := two_pow_le (n := n.toNat) (m := 8) (by omega)
    have hpp := two_pow_pos n.toNat
    unfold doP at hr
    simp only [Bool.not_eq_true', Bool.not_eq_false', decide_eq_true_eq, decide_eq_false_iff_not, inK_i64, Int.one_mul, true_and, and_true, two_pow_nat]
    refine ⟨fun h => ?_, fun h1 => ⟨fun h => ?_, fun h2 => ⟨fun h3 => ⟨fun h => ?_, fun h => ?_⟩, fun h3 => ⟨by omega, fun h => ?_, fun h4 => ?_⟩⟩⟩⟩
    · rw [if_pos (by simp [h])] at hr; subst hr; exact ⟨by decide, hk⟩
    · rw [if_pos (by simp [h])] at hr; subst hr; exact ⟨by decide, hk⟩
    · rw [if_neg (by simp [h1, h2]), if_pos h3, if_pos h] at hr; subst hr; exact ⟨by decide, hk⟩
    · rw [if_neg (by simp [h1, h2]), if_pos h3, if_neg (by simp [h])] at hr; subst hr
      exact ⟨by omega, by omega, by rfl, by omega, by omega, hk⟩
    · rw [if_neg (by simp [h1, h2]), if_neg h3, if_pos h] at hr; subst hr; exact ⟨by decide, hk⟩
    · have hh := inB_iff.1 h4
      rw [if_neg (by simp [h1, h2]), if_neg h3, if_neg (by simp [h4])] at hr
      have hp2 := two_pow_le (n := a.2.1.toNat) (m := 8) (by omega)
      have hp3 := two_pow_pos a.2.1.toNat
      refine ⟨by omega, by omega, by rfl, by omega, fun h5 => ⟨by omega, fun h => ?_, fun h6 => ⟨fun h => ?_, fun h => ?_⟩⟩, fun h5 => ⟨fun h6 => ⟨fun h => ?_, fun h => ⟨fun h' => ?_, fun h' => ?_⟩⟩, fun h6 => ?_⟩⟩
      · rw [if_pos h5, if_neg h] at hr; subst hr; exact ⟨by decide, hk⟩
      · rw [if_pos h5, if_pos h6, if_pos h] at hr; subst hr; exact ⟨by omega, by omega, by omega, hk⟩
      · rw [if_pos h5, if_pos h6, if_neg h] at hr; subst hr; exact ⟨by omega, hk⟩
      · rw [if_neg h5, if_pos h6, if_neg (by simp [h])] at hr; subst hr; exact ⟨by decide, hk⟩
      · rw [if_neg h5, if_pos h6, if_pos h, if_pos h'] at hr; subst hr; exact ⟨by omega, hk⟩
      · rw [if_neg h5, if_pos h6, if_pos h, if_neg (by simp [h'])] at hr; subst hr; exact ⟨by omega, hk⟩
      · rw [if_neg h5, if_neg h6] at hr
        refine ⟨fun h7 => ⟨by omega, fun h => ?_, fun h => ?_⟩, fun h7 => ?_⟩
        · rw [if_pos h] at hr; subst hr; exact ⟨by omega, hk⟩
        · rw [if_neg h] at hr; subst hr; exact hk
        · have := inB_iff.1 h1; omega
  · exact h.elim
end Go.Proofs.YtjgdpblaghhfhaaDoor

/- Votes: what is looked at, and what the reference answers. -/
namespace Go.Proofs.YtjgdpblaghhfhaaDoor
open Go.Vc
theorem okIn : PlainOk Tryd.prog glE 32 cWithin := by
  refine plain_of (X := X0) (CxOk.mk' Ev_ok rfl mixed GOk.nil GoOk.nil noIt) Tryd.func32 (c := Tryd.f32.body.getD .skip) (rvs := [(.tmp 6, .bool)]) (by kernel_rfl) (by kernel_rfl) (by kernel_rfl) ?_
  intro ds k ⟨hp, hk⟩ hwf
  obtain ⟨a, b, c, rfl, -⟩ := dest3 hp
  have hk : k [⟨.bool, inB a b c⟩] := hk
  refine ⟨[], ?_⟩
  rw [vcIn]
  unfold inB at hk
  refine ⟨fun h => ?_, fun h => ?_⟩ <;> simpa [h] using hk
theorem okPow2 : PlainOk Tryd.prog glE 11 cPow2 := by
  refine plain_of (CxOk.mk' Ew_ok rfl mixed (gl := glE) GOk.nil GoOk.nil noIt) Tryd.func11 (c := Tryd.f11.body.getD .skip) (rvs := [(.tmp 2, I)]) (by kernel_rfl) (by kernel_rfl) (by kernel_rfl) ?_
  intro ds k ⟨hp, hk⟩ hwf
  obtain ⟨n, rfl, hn, -⟩ := dest1 hp
  have hk : k [⟨I, (2 : Int) ^ n.toNat⟩] := hk
  refine ⟨anPow2 n, ?_⟩
  rw [vcPow2]
  simp only [decide_eq_true_eq, decide_eq_false_iff_not, inK_i64, and_true, true_and]
  refine ⟨⟨0, by omega, rfl, rfl⟩, fun x hx => ⟨fun h => ?_, fun h => ?_⟩⟩
  · have h1 := two_pow_le (n := x + 1) (m := 61) (by omega)
    have h2 := two_pow_pos (x + 1)
    rw [Int.pow_succ] at h1 h2
    refine ⟨by omega, by omega, x + 1, by omega, by omega, by rw [Int.pow_succ], by omega⟩
  · have : x = n.toNat := by omega
    rw [this]; exact hk
theorem okMemX : PlainOk Tryd.prog glE 10 cMemX := by
  refine plain_of (CxOk.mk' Ew_ok rfl mixed (gl := glE) (GOk.cons okWithin Tryd.func30 rfl rfl GOk.nil) GoOk.nil noIt) Tryd.func10 (c := Tryd.f10.body.getD .skip) (rvs := [(.tmp 4, I)]) (by kernel_rfl) (by kernel_rfl) (by kernel_rfl) ?_
  intro ds k ⟨hp, hk⟩ hwf
  obtain ⟨p, i, rfl, ⟨⟨n, y, l, dc, rs, ⟨⟩⟩, rfl, h1, h2⟩⟩ := dest2 hp
  have hk : k [⟨I, memX (n, y, l, dc, rs, ()) i⟩] := hk
  rw [memX_eq] at hk
  refine ⟨[], ?_⟩
  rw [vcMemP]
  simp only at h1 h2
  unfold memD at hk
  simp only at hk
  refine ⟨inK_i64.2 ⟨by omega, by omega⟩, trivial, fun h => ?_, fun h => ?_⟩
  · have h : inB i 0 (n - 1) = false := by simpa using h
    rw [if_neg (by simp [h])] at hk; exact hk
  · have h : inB i 0 (n - 1) = true := by simpa using h
    have hh := inB_iff.1 h
    rw [if_pos h] at hk
    exact ⟨by omega, by omega, hk⟩
theorem or_ones (i : Nat) : (((onesI i).toNat ||| ((1 : Int) * (2 : Int) ^ i).toNat : Nat) : Int) = onesI (i + 1) := by
  have h1 : (onesI i).toNat = 2 ^ i - 1 := by
    unfold onesI
    have : (2 : Int) ^ i = ((2 ^ i : Nat) : Int) := by rw [Int.natCast_pow]; rfl
    rw [this]; omega
  have h2 : ((1 : Int) * (2 : Int) ^ i).toNat = 2 ^ i := by rw [Int.one_mul, two_pow_nat]
  rw [h1, h2]
  have h3 : (2 ^ i - 1) ||| 2 ^ i = 2 ^ (i + 1) - 1 := by
    apply Nat.eq_of_testBit_eq
    intro j
    rw [Nat.testBit_or, Nat.testBit_two_pow_sub_one, Nat.testBit_two_pow_sub_one, Nat.testBit_two_pow]
    by_cases hj : j < i
    · simp [hj]; omega
    · by_cases hj2 : i = j
      · subst hj2; simp
      · simp [hj, hj2]; omega
  rw [h3]
  unfold onesI
  have h4 : (2 : Int) ^ (i + 1) = ((2 ^ (i + 1) : Nat) : Int) := by rw [Int.natCast_pow]; rfl
  have := Nat.two_pow_pos (i + 1)
  rw [h4]; omega
theorem okStkX : PlainOk Tryd.prog glE 12 cStkX := by
  refine plain_of (CxOk.mk' Ew_ok rfl mixed (gl := glE) GOk.nil GoOk.nil noIt) Tryd.func12 (c := Tryd.f12.body.getD .skip) (rvs := [(.tmp 2, I)]) (by kernel_rfl) (by kernel_rfl) (by kernel_rfl) ?_
  intro ds k ⟨hp, hk⟩ hwf
  obtain ⟨p, rfl, ⟨⟨n, y, l, dc, rs, ⟨⟩⟩, rfl, h1⟩⟩ := dest1 hp
  have hk : k [⟨I, stkX l dc⟩] := hk
  rw [stkX_eq] at hk
  refine ⟨anStk l, ?_⟩
  rw [vcStk]
  simp only at h1
  unfold stkF at hk
  simp only [decide_eq_true_eq, decide_eq_false_iff_not, Bool.not_eq_true', Bool.not_eq_false', inK_i64, and_true, true_and, Int.toNat_natCast]
  refine ⟨⟨0, ⟨by omega, rfl⟩, rfl, rfl⟩, fun x hx => ⟨fun h => ⟨by omega, by omega, fun h2 => ?_, fun h2 => ?_⟩, fun h => ?_⟩⟩
  · rw [if_neg ?_] at hk
    · exact hk
    · intro h3
      have h4 := List.all_eq_true.1 h3 (l.getD x 0) (by
        rw [List.getD_eq_getElem?_getD, List.getElem?_eq_getElem (show x < l.length by omega)]
        exact List.getElem_mem ..)
      exact h2 (of_decide_eq_true h4)
  · have hp1 := two_pow_le (n := x) (m := 8) (by omega)
    have hp2 := two_pow_pos x
    refine ⟨by omega, by omega, rfl, ⟨by omega, by omega⟩, by unfold onesI; omega, by omega, ⟨by omega, by omega⟩, x + 1, ⟨by omega, ?_⟩, by omega, or_ones x, by omega⟩
    rw [take_snoc (0 : Int) (by omega), List.all_append, hx.2, h2]
    rfl
  · have hxl : x = l.length := by omega
    subst hxl
    have h3 := hx.2
    rw [List.take_length] at h3
    rw [if_pos h3] at hk
    refine ⟨fun h => ?_, fun h => ?_⟩
    · rw [if_pos h] at hk; exact hk
    · rw [if_neg (by simp [h])] at hk; exact hk
theorem dec_succ (y : List Bool) (x : Nat) (h : x < y.length) : decV y (x + 1) = if y.getD x false = true then decV y x else 2 := by
  unfold decV allB
  rw [take_snoc false h, List.all_append]
  cases hy : y.getD x false <;> simp
theorem hap_vc (v : Vt) (a : Act3) (hv : Vt.ok v) (k : List Dat → Prop) (hk : k [⟨tV, (hapF v a).1⟩, ⟨I, (hapF v a).2⟩]) : vcF ⟨Ew, [(32, cWithin)], glE, [], []⟩ (anHap v) (Tryd.f8.body.getD .skip) Tryd.f8.ntmps [(.cell 4 32, tV), (.tmp 5, I)] [⟨tV, v⟩, ⟨tA, a⟩] k := by
  rw [vcHap]
  obtain ⟨e, y, r, ⟨⟩⟩ := v
  obtain ⟨v1, v2, v3, v4⟩ := hv
  simp only at v1 v2 v3 v4
  have ret : ∀ v' c, hapF (e, y, r, ()) a = (v', c) → k [⟨tV, v'⟩, ⟨I, c⟩] := by
    intro v' c h; rw [h] at hk; exact hk
  clear hk
  simp only [decide_eq_true_eq, decide_eq_false_iff_not, Bool.not_eq_true', Bool.not_eq_false', inK_i64, and_true, true_and, Int.toNat_natCast, eq_self]
  have n0 : ∀ {x y : Bool}, x = true → y = true → ¬ (x && y) = false := by intro x y hx hy; rw [hx, hy]; decide
  have nt : ∀ {x : Bool}, x = true → ¬ x = false := by intro x hx; rw [hx]; decide
  refine ⟨fun h => ret _ _ (by unfold hapF; rw [if_pos (by rw [h]; rfl)]), fun h1 => ⟨fun h => ret _ _ (by unfold hapF; rw [if_pos (by rw [h, h1]; rfl)]), fun h2 => ⟨fun h3 => ⟨fun h => ret _ _ (by unfold hapF; rw [if_neg (n0 h1 h2), if_pos h3, if_pos h]), fun h => ⟨⟨0, by omega, rfl, rfl⟩, fun x hx => ⟨fun h4 => ⟨by omega, by omega, fun h5 => ⟨by omega, x + 1, by omega, by omega, by omega, ?_⟩, fun h5 => ⟨by omega, x + 1, by omega, by omega, by omega, ?_⟩⟩, fun h4 => ret _ _ ?_⟩⟩⟩, fun h3 => ?_⟩⟩⟩
  · rw [dec_succ y x (by omega), h5]; rfl
  · rw [dec_succ y x (by omega), h5]; rfl
  · have : x = e.length := by omega
    subst this
    unfold hapF; rw [if_neg (n0 h1 h2), if_pos h3, if_neg (fun h' => h' h)]; rfl
  · have i1 := inB_iff.1 h1
    refine ⟨by omega, fun h => ret _ _ (by unfold hapF; rw [if_neg (n0 h1 h2), if_neg h3, if_pos h]), fun h4 => ?_⟩
    have i4 := inB_iff.1 h4
    refine ⟨by omega, by omega, fun h5 => ?_, fun h5 => ?_⟩
    · refine ⟨fun h => ret _ _ (by unfold hapF; rw [if_neg (n0 h1 h2), if_neg h3, if_neg (nt h4), if_pos h5, if_pos h]), fun h6 => ⟨fun h7 => ⟨by omega, by omega, by omega, fun h => by omega, fun _ => ⟨fun h => by omega, fun _ => ⟨by omega, by omega, by omega, ret _ _ (by unfold hapF; rw [if_neg (n0 h1 h2), if_neg h3, if_neg (nt h4), if_pos h5, if_neg (fun h' => h' h6), if_pos h7])⟩⟩⟩,
        fun h7 => ⟨fun h => by omega, fun _ => ⟨fun h => by omega, fun _ => ⟨by omega, by omega, by omega, ret _ _ (by unfold hapF; rw [if_neg (n0 h1 h2), if_neg h3, if_neg (nt h4), if_pos h5, if_neg (fun h' => h' h6), if_neg h7])⟩⟩⟩⟩⟩
    · refine ⟨fun h6 => ⟨fun h => ret _ _ (by unfold hapF; rw [if_neg (n0 h1 h2), if_neg h3, if_neg (nt h4), if_neg h5, if_pos h6, if_pos h]), fun h => ⟨by omega, fun h => by omega, fun _ => ⟨by omega, by omega, by omega, ret _ _ (by unfold hapF; rw [if_neg (n0 h1 h2), if_neg h3, if_neg (nt h4), if_neg h5, if_pos h6, if_neg h])⟩⟩⟩,
        fun h6 => ⟨fun h7 => ⟨fun h => ⟨by omega, by omega, by omega, ret _ _ (by unfold hapF; rw [if_neg (n0 h1 h2), if_neg h3, if_neg (nt h4), if_neg h5, if_neg h6, if_pos h])⟩, fun h => ⟨by omega, by omega, by omega, ret _ _ (by unfold hapF; rw [if_neg (n0 h1 h2), if_neg h3, if_neg (nt h4), if_neg h5, if_neg h6, if_neg h])⟩⟩, fun h => by omega⟩⟩
theorem okHapX : PlainOk Tryd.prog glE 8 cHapX := by
  refine plain_of (CxOk.mk' Ew_ok rfl mixed (gl := glE) (GOk.cons okIn Tryd.func32 rfl rfl GOk.nil) GoOk.nil noIt) Tryd.func8 (c := Tryd.f8.body.getD .skip) (rvs := [(.cell 4 32, tV), (.tmp 5, I)]) (by kernel_rfl) (by kernel_rfl) (by kernel_rfl) ?_
  intro ds k ⟨hp, hk⟩ hwf
  obtain ⟨v, a, rfl, hv⟩ := dest2 hp
  have hk : k [⟨tV, (hapX v a).1⟩, ⟨I, (hapX v a).2⟩] := hk
  rw [hapX_eq] at hk
  exact ⟨_, hap_vc v a hv k hk⟩
theorem okDoX : OwnOk Tryd.prog glE 9 oDoX := by
  intro args ob k h
  refine okDo args ob k ?_
  unfold oDoX at h
  split at h
  · obtain ⟨h1, h2⟩ := h
    refine ⟨h1, fun e q he => ?_⟩
    rw [doX_eq, ← he] at h2
    exact h2
  · exact h.elim
end Go.Proofs.YtjgdpblaghhfhaaDoor

/- Votes: the program does what the reference does (mathematics). -/
namespace Go.Proofs.YtjgdpblaghhfhaaDoor
open Go.Vc
/-- a poll, and the reference's -/
structure RelV (n : Int) (p : Pl) (v : Vt) : Prop where
  pn : p.n = n
  ok : p.ok
  en : v.1 = p.ends
  yl : v.2.1.length = p.ends.length
  yb : ∀ k, k < p.ends.length → v.2.1.getD k false = p.yes.toNat.testBit k
  rs : v.2.2.1 = if p.dec = true then (if p.res = true then 1 else 2) else 0
theorem pow_cast (m : Nat) : (2 : Int) ^ m = ((2 ^ m : Nat) : Int) := by rw [Int.natCast_pow]; rfl
theorem all_yes {y : List Bool} {s m : Nat} (hy : y.length = m) (hb : ∀ k, k < m → y.getD k false = s.testBit k) (hs : s < 2 ^ m) : allB y m = decide (s = 2 ^ m - 1) := by
  rw [Bool.eq_iff_iff, decide_eq_true_eq]
  unfold allB
  rw [← hy, List.take_length, List.all_eq_true]
  constructor
  · intro h
    apply Nat.eq_of_testBit_eq
    intro j
    rw [Nat.testBit_two_pow_sub_one]
    by_cases hj : j < y.length
    · rw [decide_eq_true hj, ← hb j (by omega), List.getD_eq_getElem?_getD, List.getElem?_eq_getElem hj]
      exact h _ (List.getElem_mem ..)
    · rw [decide_eq_false hj]
      exact Nat.testBit_lt_two_pow (Nat.lt_of_lt_of_le hs (Nat.pow_le_pow_right (by decide) (by omega)))
  · intro h x hx
    obtain ⟨i, hi, rfl⟩ := List.getElem_of_mem hx
    have h1 := hb i (by omega)
    rw [List.getD_eq_getElem?_getD, List.getElem?_eq_getElem hi, h, Nat.testBit_two_pow_sub_one, decide_eq_true (by omega)] at h1
    exact h1
theorem getD_setI (l : List Int) (i j : Nat) (v : Int) : (l.set i v).getD j 0 = if i = j ∧ i < l.length then v else l.getD j 0 := by
  rw [List.getD_eq_getElem?_getD, List.getElem?_set]
  by_cases h : i = j
  · subst h
    by_cases hl : i < l.length
    · simp [hl]
    · simp [hl, List.getElem?_eq_none (Nat.le_of_not_lt hl)]
  · rw [if_neg h, if_neg (fun hh => h hh.1), List.getD_eq_getElem?_getD]
theorem getD_setB (l : List Bool) (i j : Nat) (v : Bool) (hl : i < l.length) : (l.set i v).getD j false = if i = j then v else l.getD j false := by
  rw [List.getD_eq_getElem?_getD, List.getElem?_set]
  by_cases h : i = j
  · subst h; simp [hl]
  · rw [if_neg h, if_neg h, List.getD_eq_getElem?_getD]
theorem set_same (l : List Int) (i : Nat) : l.set i (l.getD i 0) = l := by
  apply List.ext_getElem?
  intro j
  rw [List.getElem?_set]
  split
  · rename_i h
    subst h
    split
    · rename_i hl
      rw [List.getD_eq_getElem?_getD, List.getElem?_eq_getElem hl]; rfl
    · rename_i hl
      rw [List.getElem?_eq_none (by omega)]
  · rfl
theorem rel_do {n : Int} {p : Pl} {v : Vt} (R : RelV n p v) (a : Act3) : RelV n (doP p a).2 (hapF v a).1 ∧ (doP p a).1 = (hapF v a).2 := by
  obtain ⟨ends, y, r, ⟨⟩⟩ := v
  obtain ⟨pn, po, ys, dc, rs⟩ := p
  obtain ⟨rfl, ⟨o1, o2, o3, o4, o5⟩, rfl, yl, yb, hr⟩ := R
  simp only at o1 o2 o3 o4 o5 yl yb hr
  have hlen : ends.length = pn.toNat := by omega
  have R0 : RelV pn ⟨pn, po, ends, dc, rs⟩ (ends, y, r, ()) := ⟨rfl, ⟨o1, o2, o3, o4, o5⟩, rfl, yl, yb, hr⟩
  unfold doP hapF
  simp only
  by_cases h1 : (inB a.1 0 3 && inB a.2.2.1 0 1) = false
  · rw [if_pos h1, if_pos h1]; exact ⟨R0, rfl⟩
  rw [if_neg h1, if_neg h1]
  by_cases h2 : a.1 = 1
  · rw [if_pos h2, if_pos h2]
    by_cases h3 : dc = true
    · rw [if_pos h3, if_pos (show r ≠ 0 by rw [hr, if_pos h3]; split <;> decide)]; exact ⟨R0, rfl⟩
    · rw [if_neg h3, if_neg (show ¬ (r ≠ 0) from fun h => h (by rw [hr, if_neg h3]))]
      refine ⟨⟨rfl, ⟨o1, o2, o3, o4, o5⟩, rfl, yl, yb, ?_⟩, rfl⟩
      have hpw := pow_cast pn.toNat
      have hay := all_yes (y := y) (s := po.toNat) (m := ends.length) yl yb (by rw [hlen]; omega)
      simp only [hay, if_true]
      have hpp := Nat.two_pow_pos pn.toNat
      have : (po.toNat = 2 ^ ends.length - 1) ↔ (po = 2 ^ pn.toNat - 1) := by rw [hlen, hpw]; omega
      simp only [this, decide_eq_true_eq]
  rw [if_neg h2, if_neg h2, show ((ends.length : Int) - 1) = pn - 1 by omega]
  by_cases h3 : inB a.2.1 0 (pn - 1) = false
  · rw [if_pos h3, if_pos h3]; exact ⟨R0, rfl⟩
  rw [if_neg h3, if_neg h3]
  have hw := inB_iff.1 (show inB a.2.1 0 (pn - 1) = true by simpa using h3)
  have hwl : a.2.1.toNat < ends.length := by omega
  -- one's end is set
  have Rs : ∀ w : Int, RelV pn ⟨pn, po, ends.set a.2.1.toNat w, dc, rs⟩ (ends.set a.2.1.toNat w, y, r, ()) := fun w =>
    ⟨rfl, ⟨o1, o2, by simp only [List.length_set]; exact o3, o4, o5⟩, rfl, by simp only [List.length_set]; exact yl, fun k hk => yb k (by simpa using hk), hr⟩
  by_cases h4 : a.1 = 0
  · rw [if_pos h4, if_pos h4]
    by_cases h5 : ends.getD a.2.1.toNat 0 = 0
    · rw [if_pos h5, if_neg (show ¬ (ends.getD a.2.1.toNat 0 ≠ 0) from fun h => h h5)]
      by_cases h6 : a.2.2.1 = 1
      · rw [if_pos h6, if_pos h6]
        refine ⟨⟨rfl, ⟨o1, o2, by simp only [List.length_set]; exact o3, Int.natCast_nonneg _, ?_⟩, rfl, by simp only [List.length_set]; exact yl, fun k hk => ?_, hr⟩, rfl⟩
        · simp only
          have hpw := pow_cast pn.toNat
          have h8 : po.toNat ||| 2 ^ a.2.1.toNat < 2 ^ pn.toNat := Nat.or_lt_two_pow (by omega) (Nat.pow_lt_pow_right (by decide) (by omega))
          omega
        · simp only [List.length_set] at hk
          simp only
          rw [getD_setB y _ _ _ (by omega), Int.toNat_natCast, Nat.testBit_or, Nat.testBit_two_pow, ← yb k hk]
          by_cases hk2 : a.2.1.toNat = k
          · rw [if_pos hk2, decide_eq_true hk2, Bool.or_true]
          · rw [if_neg hk2, decide_eq_false hk2, Bool.or_false]
      · rw [if_neg h6, if_neg h6]; exact ⟨Rs 3, rfl⟩
    · rw [if_neg h5, if_pos h5]; exact ⟨R0, rfl⟩
  rw [if_neg h4, if_neg h4]
  by_cases h5 : a.1 = 2
  · rw [if_pos h5, if_pos h5]
    by_cases h6 : dc = true
    · rw [if_pos h6, if_neg (show ¬ r = 0 by rw [hr, if_pos h6]; split <;> decide)]
      have : r + 1 = if rs = true then 2 else 3 := by rw [hr, if_pos h6]; split <;> rfl
      rw [this]
      exact ⟨Rs _, rfl⟩
    · rw [if_neg h6, if_pos (show r = 0 by rw [hr, if_neg h6])]; exact ⟨R0, rfl⟩
  rw [if_neg h5, if_neg h5]
  by_cases h6 : ends.getD a.2.1.toNat 0 = 0
  · rw [if_pos h6, if_pos h6]; exact ⟨Rs 3, rfl⟩
  · rw [if_neg h6, if_neg h6, set_same]; exact ⟨R0, rfl⟩
theorem rel_new {n : Int} (h : 1 ≤ n ∧ n ≤ 8) : RelV n (newP n) (List.replicate n.toNat 0, List.replicate n.toNat false, 0, ()) := by
  refine ⟨rfl, ⟨h.1, h.2, by simp [newP]; omega, Int.le_refl _, two_pow_pos _⟩, rfl, by simp [newP], fun k hk => ?_, rfl⟩
  simp only [newP, List.length_replicate] at hk ⊢
  rw [List.getD_eq_getElem?_getD, List.getElem?_replicate, if_pos hk]
  show false = Nat.testBit 0 k
  rw [Nat.zero_testBit]
theorem relAt {n : Int} (h : 1 ≤ n ∧ n ≤ 8) (l : List Act3) : ∀ i, i ≤ l.length → RelV n (pAt n l i) (vAt n l i)
  | 0, _ => by rw [pAt_zero, vAt_zero]; exact rel_new h
  | i + 1, hi => by
    rw [pAt_succ n l i (by omega), vAt_succ n l i (by omega), doX_eq, hapX_eq]
    exact (rel_do (relAt h l i (by omega)) _).1
theorem doAt {n : Int} (h : 1 ≤ n ∧ n ≤ 8) (l : List Act3) (i : Nat) (hi : i < l.length) : (doX (pAt n l i) (l.getD i (0, 0, 0, ()))).1 = (hapX (vAt n l i) (l.getD i (0, 0, 0, ()))).2 := by
  rw [doX_eq, hapX_eq]
  exact (rel_do (relAt h l i (by omega)) _).2
theorem RelV.vok {n : Int} {p : Pl} {v : Vt} (R : RelV n p v) : v.1.length = v.2.1.length ∧ v.1.length ≤ 8 ∧ 0 ≤ v.2.2.1 ∧ v.2.2.1 ≤ 2 := by
  have o := R.ok
  refine ⟨by rw [R.en, R.yl], by rw [R.en]; have := o.2.2.1; have := o.2.1; omega, ?_, ?_⟩ <;> rw [R.rs] <;> split <;> (try split) <;> decide
theorem codeX (v : Vt) (a : Act3) : inK .i64 (hapX v a).2 := by
  rw [hapX_eq]; unfold hapF
  have c : ∀ z : Int, 0 ≤ z → z ≤ 7 → inK .i64 z := fun z h1 h2 => inK_i64.2 (by omega)
  repeat' split
  all_goals exact c _ (by simp only; omega) (by simp only; omega)
theorem RelV.mem {n : Int} {p : Pl} {v : Vt} (R : RelV n p v) (k : Nat) (hk : (k : Int) < n) : memX (p.n, p.yes, p.ends, p.dec, p.res, ()) (k : Int) = v.1.getD k 0 := by
  rw [memX_eq, R.en]; unfold memD
  rw [if_pos (inB_iff.2 ⟨by omega, by rw [R.pn]; omega⟩)]
  rfl
theorem mem_out (p : Pl) (i : Int) (h : i < 0 ∨ p.n ≤ i) : memX (p.n, p.yes, p.ends, p.dec, p.res, ()) i = -1 := by
  rw [memX_eq]; unfold memD
  rw [if_neg (fun hh => by have := inB_iff.1 hh; simp only at this; omega)]
theorem rdy_succ (v : Vt) (k : Nat) (h : k < v.1.length) : rdyB v (k + 1) = (rdyB v k && decide (v.1.getD k 0 = 1)) := by
  unfold rdyB
  rw [take_snoc 0 h, List.all_append, Bool.and_assoc]
  congr 1
  simp
theorem RelV.stk {n : Int} {p : Pl} {v : Vt} (R : RelV n p v) (k : Nat) (hk : (k : Int) = n) : stkX p.ends p.dec = if rdyB v k = true then 2 ^ n.toNat - 1 else 0 := by
  have hl : p.ends.length = k := by have := R.ok.2.2.1; have := R.pn; omega
  rw [stkX_eq]; unfold stkF rdyB
  have e1 : v.1.take k = p.ends := by rw [R.en, ← hl, List.take_length]
  rw [e1, R.rs]
  have e2 : n.toNat = p.ends.length := by omega
  rw [e2]
  cases h1 : (p.ends.all fun e => decide (e = 1)) with
  | false => simp
  | true =>
    cases h2 : p.dec with
    | false => simp
    | true => cases p.res <;> simp
end Go.Proofs.YtjgdpblaghhfhaaDoor

/- Votes: the program does what the reference does: the law. -/
namespace Go.Proofs.YtjgdpblaghhfhaaDoor
open Go.Vc
theorem pl_eta (p : Pl) : Pl.mk p.n p.yes p.ends p.dec p.res = p := rfl
theorem pAt_next (n : Int) (l : List Act3) (x : Nat) (h : x < l.length) : (doX (pAt n l x) (l.getD x (0, 0, 0, ()))).2 = pAt n l (x + 1) := (pAt_succ n l x h).symm
theorem vAt_next (n : Int) (l : List Act3) (x : Nat) (h : x < l.length) : (hapX (vAt n l x) (l.getD x (0, 0, 0, ()))).1 = vAt n l (x + 1) := (vAt_succ n l x h).symm
theorem plays_vc (n : Int) (l : List Act3) (k : List Dat → Prop) (hl : l.length ≤ maxLen) (hk : k [⟨.bool, true⟩]) : vcF ⟨Ew, [(7, cError), (8, cHapX), (10, cMemX), (11, cPow2), (12, cStkX)], glE, [], [(6, cNew), (9, oDoX)]⟩ (anPlays n l) (Tryd.f3.body.getD .skip) Tryd.f3.ntmps [(.tmp 4, .bool)] [⟨I, n⟩, ⟨.sl tA, l⟩] k := by
  rw [vcPlays]
  have hml : maxLen ≤ 9223372036854775807 := by decide
  simp only [and_true, true_and, eq_self, pl_eta, Int.toNat_natCast, implies_true, decide_true, Bool.not_true]
  refine ⟨fun hb => ?_, fun hb => ?_⟩
  · have hr : 1 ≤ n ∧ n ≤ 8 := inB_iff.1 hb
    refine ⟨fun h => absurd (of_decide_eq_true h) (by omega), fun _ => ⟨fun h => absurd (of_decide_eq_true h) (by omega), fun _ => ⟨fun h => absurd h (by decide), fun _ => ?_⟩⟩⟩
    refine ⟨by omega, by omega, by omega, by omega, by omega, by omega, by omega, by omega, by omega, by omega, by omega, by omega, ⟨0, ⟨by omega, by omega⟩, rfl, ⟨by rw [pAt_zero]; rfl, by rw [pAt_zero]; rfl, by rw [pAt_zero]; rfl, by rw [pAt_zero]; rfl⟩, by rw [pAt_zero]; rfl, (vAt_zero n l).symm⟩, fun x hx => ?_⟩
    have R := relAt hr l x hx.1
    have hend : (∃ s : Int × Int × List Int × Bool × Bool × Unit, some ((pAt n l x).n, (pAt n l x).yes, (pAt n l x).ends, (pAt n l x).dec, (pAt n l x).res, ()) = some s ∧ (1 ≤ s.1 ∧ s.1 ≤ 8) ∧ (s.2.2.1.length : Int) = s.1) := ⟨_, rfl, ⟨R.ok.1, R.ok.2.1⟩, R.ok.2.2.1⟩
    have m1 := mem_out (pAt n l x) (-1) (.inl (by decide))
    have m2 := mem_out (pAt n l x) n (.inr (by rw [R.pn]; exact Int.le_refl n))
    simp only [m1, m2, eq_self, decide_true]
    refine ⟨fun h3 => ⟨fun h4 => ?_, fun _ => ⟨hend, fun _ => ⟨hend, hk⟩, fun h => absurd h (by decide)⟩⟩, fun _ => ⟨hend, fun _ => ⟨hend, hk⟩, fun h => absurd h (by decide)⟩⟩
    have h1 : x < l.length := by have := of_decide_eq_true h3; omega
    have h60 : x < 60 := by have := of_decide_eq_true h4; omega
    have R' := relAt hr l (x + 1) h1
    have e := doAt hr l x h1
    have hc := codeX (vAt n l x) (l.getD x (0, 0, 0, ()))
    simp only [e, pAt_next n l x h1, vAt_next n l x h1, eq_self, decide_true, Bool.not_true]
    have v := R.vok
    have v' := R'.vok
    have hll : (vAt n l (x + 1)).1.length = (pAt n l (x + 1)).ends.length := by rw [R'.en]
    have hln : ((pAt n l (x + 1)).ends.length : Int) = n := by rw [R'.ok.2.2.1, R'.pn]
    have hend' : (∃ s : Int × Int × List Int × Bool × Bool × Unit, some ((pAt n l (x + 1)).n, (pAt n l (x + 1)).yes, (pAt n l (x + 1)).ends, (pAt n l (x + 1)).dec, (pAt n l (x + 1)).res, ()) = some s ∧ (1 ≤ s.1 ∧ s.1 ≤ 8) ∧ (s.2.2.1.length : Int) = s.1) := ⟨_, rfl, ⟨R'.ok.1, R'.ok.2.1⟩, R'.ok.2.2.1⟩
    refine ⟨by omega, by omega, v, by omega, by omega, v, by omega, by omega, R.ok, hc, fun h => absurd h (by decide), fun _ => ⟨⟨0, by omega, ?_, rfl⟩, fun y hy => ⟨fun h5 => ?_, fun h5 => ?_⟩⟩⟩
    · unfold rdyB; simp
    · have h5 := of_decide_eq_true h5
      have em := R'.mem y h5
      have hs := rdy_succ (vAt n l (x + 1)) y (by omega)
      simp only [em, eq_self, decide_true, Bool.not_true]
      refine ⟨⟨hend', by omega, by omega⟩, fun h => absurd h (by decide), fun _ => ⟨fun h6 => ⟨by omega, by omega, inK_i64.2 (by omega), y + 1, by omega, by omega, ?_, by omega⟩, fun h6 => ⟨inK_i64.2 (by omega), y + 1, by omega, by omega, ?_, by omega⟩⟩⟩
      · rw [hs, h6, Bool.true_and]
      · rw [hs, h6, Bool.false_and]
    · have h5 := of_decide_eq_false h5
      have hs := R'.stk y (by omega)
      have hp1 := two_pow_le (n := n.toNat) (m := 8) (by omega)
      have hp2 := two_pow_pos n.toNat
      have hst : (∃ s : Int × Int × List Int × Bool × Bool × Unit, some ((pAt n l (x + 1)).n, (pAt n l (x + 1)).yes, (pAt n l (x + 1)).ends, (pAt n l (x + 1)).dec, (pAt n l (x + 1)).res, ()) = some s ∧ s.2.2.1.length ≤ 8) := ⟨_, rfl, by simp only; omega⟩
      refine ⟨fun h6 => ?_, fun h6 => ?_⟩
      · rw [if_pos h6] at hs
        rw [hs]
        simp only [eq_self, decide_true, Bool.not_true]
        exact ⟨by omega, inK_i64.2 (by omega), hst, fun h => absurd h (by decide), fun _ => ⟨inK_i64.2 (by omega), x + 1, ⟨h1, by omega⟩, by omega, by omega, ⟨rfl, rfl, rfl, rfl⟩, rfl, rfl⟩⟩
      · rw [if_neg (by rw [h6]; decide)] at hs
        rw [hs]
        simp only [eq_self, decide_true, Bool.not_true]
        exact ⟨hst, fun h => absurd h (by decide), fun _ => ⟨inK_i64.2 (by omega), x + 1, ⟨h1, by omega⟩, by omega, by omega, ⟨rfl, rfl, rfl, rfl⟩, rfl, rfl⟩⟩
  · have hn : ¬ (1 ≤ n ∧ n ≤ 8) := fun h => by rw [inB_iff.2 h] at hb; cases hb
    have i1 : inK .i64 1 := inK_i64.2 (by decide)
    refine ⟨fun _ => ⟨i1, hk⟩, fun h => ⟨fun _ => ⟨i1, hk⟩, fun h' => ?_⟩⟩
    have h := of_decide_eq_false h
    have h' := of_decide_eq_false h'
    omega
theorem okPlays : PlainOk Tryd.prog glE 3 (cdet [I, .sl tA] (fun (_ : Int) (_ : List Act3) => True) (fun _ _ => [⟨.bool, true⟩])) := by
  refine plain_of (CxOk.mk' Ew_ok rfl mixed (gl := glE) (GOk.cons okError Tryd.func7 rfl rfl (GOk.cons okHapX Tryd.func8 rfl rfl (GOk.cons okMemX Tryd.func10 rfl rfl (GOk.cons okPow2 Tryd.func11 rfl rfl (GOk.cons okStkX Tryd.func12 rfl rfl GOk.nil)))))
    (GoOk.cons okNew Tryd.func6 rfl rfl (GoOk.cons okDoX Tryd.func9 rfl rfl GoOk.nil)) noIt) Tryd.func3 (c := Tryd.f3.body.getD .skip) (rvs := [(.tmp 4, .bool)]) (by kernel_rfl) (by kernel_rfl) (by kernel_rfl) ?_
  intro ds k ⟨hp, hk⟩ hwf
  obtain ⟨n, l, rfl, -⟩ := dest2 hp
  exact ⟨_, plays_vc n l k (wf2 hwf).2.1 hk⟩
theorem glOkV {W : World} (h : laidMetH Tryd.prog Rows.votePlaysRow.laid W) : GlOk glE W fun b => b < W.heap.size := glE_of (.head _) h
end Go.Proofs.YtjgdpblaghhfhaaDoor
