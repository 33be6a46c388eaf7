/- Own texts, merged: As, Er4, NDef, NRDef, NRV, NROk, NROk2, NROk3, NRV5, NROk4, NV, NOk, NDef2, NV2, NOk2. -/
import Derived.Test.YtjgdpblaghhfhaaDoorChecked
import Derived.WalkKit
import Derived.LaidEql
import Derived.Stop.Asserts
import Derived.RowKitTokens
import Derived.Test.YtjgdpblaghhfhaaDoorVcQ
import Derived.Test.YtjgdpblaghhfhaaDoorVcPA
import Derived.Test.YtjgdpblaghhfhaaDoorRows
import Derived.Test.YtjgdpblaghhfhaaDoorVcNB
namespace Go.Proofs.YtjgdpblaghhfhaaDoor
open Go.RowKit Go.Extern.Stop Go.Stop Go.Extern

/-- errors.As(nil, target). -/
theorem as_nil (t : Value) (w : World) :
    Calls Tryd.prog 44 #[.nilIface, t] w fun e w' => e = .returned (.bool false) ∧ w' = w := by
  go_enter Tryd.func44, Tryd.ntmps44
  go_wp2
  go_ret
  exact ⟨rfl, rfl⟩

/-! ### CLOSED FACTS ON THE MODEL's ENTRIES FOR internal/reflectlite, at this program's types: 25: *p.E · 27: **p.E · 23: error · 45: reflectlite's rtype · 1: how many package-level variables the dump has -/
theorem Tas.valueOf27 (t : Addr) (w : World) : (ReflectliteValue.unpack (.iface 97 (.pointer (some t)))).run Tryd.prog w
    = .ok (.agg #[.pointer (some ⟨1, 97, none⟩), .pointer (some ⟨w.heap.size, 0, none⟩), .int .u64 150]) (w.alloc (.cells #[.pointer (some t)] 97)) := by kernel_rfl
theorem Tas.type27 (a : Addr) (w : World) : (ReflectliteValue.methodAny (ReflectliteValue.valueError "reflectlite.Value.Type" 0) (fun t _ _ _ => ReflectliteType.toType t) #[.agg #[.pointer (some ⟨1, 97, none⟩), .pointer (some a), .int .u64 150]]).run Tryd.prog w
    = .ok (.iface 112 (.agg #[.pointer (some ⟨1, 97, none⟩)])) w := by kernel_rfl
theorem Tas.methodKind (h : Value) (w : World) : (Go.method 254 112 (.agg #[h]) "Kind").run Tryd.prog w = .ok (66, h) w := by kernel_rfl
theorem Tas.kind27 (w : World) : ((ReflectliteType.abiMethod fun t => (fun a : Nat => Value.int IntKind.u8 (a : Int)) <$> Rtype.kind t) #[.pointer (some ⟨1, 97, none⟩)]).run Tryd.prog w = .ok (.int .u8 22) w := by kernel_rfl
theorem Tas.kind25 (w : World) : ((ReflectliteType.abiMethod fun t => (fun a : Nat => Value.int IntKind.u8 (a : Int)) <$> Rtype.kind t) #[.pointer (some ⟨1, 76, none⟩)]).run Tryd.prog w = .ok (.int .u8 2) w := by kernel_rfl

/-! ### THE ENTRIES THAT READ OR WRITE MEMORY: laws with a premise on the cell (after Derived/Lib/ReflectliteSlice.lean's manner: each unfolding a lemma of its own, by rfl) -/
theorem rlm (z : Sem Value) (f : TypeId → Addr → Nat → Nat → Sem Value) (v : Value) :
    ReflectliteValue.method z f #[v] = (do match ← ReflectliteValue.parts v with | none => z | some (t, a, fl) => f t a fl (fl % 32)) := rfl
theorem Tas.parts27 (a : Addr) (w : World) : (ReflectliteValue.parts (.agg #[.pointer (some ⟨1, 97, none⟩), .pointer (some a), .int .u64 150])).run Tryd.prog w = .ok (some (97, a, 150)) w := by kernel_rfl
/-- (Value).IsNil at the Value of a **p.E that is not nil. -/
theorem Tas.isNil27 (a p : Addr) (W : World) (ha : W.cell? a = some (.pointer (some p))) :
    (ReflectliteValue.method (ReflectliteValue.valueError "reflectlite.Value.IsNil" 0) ReflectliteValue.isNil #[.agg #[.pointer (some ⟨1, 97, none⟩), .pointer (some a), .int .u64 150]]).run Tryd.prog W = .ok (.bool false) W := by
  rw [rlm]
  simp only [Sem.run_bind, Tas.parts27, Result.andThen]
  simp [ReflectliteValue.isNil, loadVar, isAgg, underlying, Tryd.underlying97, ha, Result.andThen]

theorem Tas.methodElem (h : Value) (w : World) : (Go.method 254 112 (.agg #[h]) "Elem").run Tryd.prog w = .ok (76, .agg #[h]) w := by kernel_rfl
theorem Tas.methodImplements (h : Value) (w : World) : (Go.method 254 112 (.agg #[h]) "Implements").run Tryd.prog w = .ok (77, .agg #[h]) w := by kernel_rfl
theorem Tas.methodAssignableTo (h : Value) (w : World) : (Go.method 254 112 (.agg #[h]) "AssignableTo").run Tryd.prog w = .ok (74, .agg #[h]) w := by kernel_rfl
theorem Tas.elem27 (w : World) : (ReflectliteType.method ReflectliteType.elem #[.agg #[.pointer (some ⟨1, 97, none⟩)]]).run Tryd.prog w = .ok (.iface 112 (.agg #[.pointer (some ⟨1, 76, none⟩)])) w := by kernel_rfl
theorem Tas.implements25 (w : World) : (ReflectliteType.relation "Implements" ReflectliteType.implements_ #[.agg #[.pointer (some ⟨1, 76, none⟩)], .iface 112 (.agg #[.pointer (some ⟨1, 25, none⟩)])]).run Tryd.prog w = .ok (.bool true) w := by kernel_rfl
theorem Tas.typeOf25 (v : Value) (w : World) : (ReflectliteType.typeOf #[.iface 76 v]).run Tryd.prog w = .ok (.iface 112 (.agg #[.pointer (some ⟨1, 76, none⟩)])) w := by kernel_rfl
theorem Tas.assignable25 (w : World) : (ReflectliteType.relation "AssignableTo" ReflectliteType.assignableTo #[.agg #[.pointer (some ⟨1, 76, none⟩)], .iface 112 (.agg #[.pointer (some ⟨1, 76, none⟩)])]).run Tryd.prog w = .ok (.bool true) w := by kernel_rfl
theorem Tas.valueOf25 (e : Int) (w : World) : (ReflectliteValue.unpack (.iface 76 (.int .i64 e))).run Tryd.prog w
    = .ok (.agg #[.pointer (some ⟨1, 76, none⟩), .pointer (some ⟨w.heap.size, 0, none⟩), .int .u64 130]) (w.alloc (.cells #[.int .i64 e] 76)) := by kernel_rfl

theorem Tas.elemOf27 (w : World) : (Rtype.elem? 97).run Tryd.prog w = .ok (some 76) w := by kernel_rfl
theorem Tas.mk25 (p : Addr) (w : World) : (ReflectliteValue.mk 76 p ReflectliteValue.flagAddr).run Tryd.prog w = .ok (.agg #[.pointer (some ⟨1, 76, none⟩), .pointer (some p), .int .u64 386]) w := by kernel_rfl
/-- (Value).Elem at the Value of a **p.E that is not nil: the Value of the *p.E variable that it points to, addressable. -/
theorem Tas.elemV27 (a p : Addr) (W : World) (ha : W.cell? a = some (.pointer (some p))) :
    (ReflectliteValue.method (ReflectliteValue.valueError "reflectlite.Value.Elem" 0) ReflectliteValue.elem #[.agg #[.pointer (some ⟨1, 97, none⟩), .pointer (some a), .int .u64 150]]).run Tryd.prog W
      = .ok (.agg #[.pointer (some ⟨1, 76, none⟩), .pointer (some p), .int .u64 386]) W := by
  rw [rlm]
  simp only [Sem.run_bind, Tas.parts27, Result.andThen]
  simp [ReflectliteValue.elem, loadVar, isAgg, underlying, Tryd.underlying97, ha, Result.andThen, Tas.elemOf27, Tas.mk25]
theorem rls (v x : Value) : ReflectliteValue.set #[v, x] = (do
    let (some (dst, a, fl), some (src, b, _)) := (← ReflectliteValue.parts v, ← ReflectliteValue.parts x)
      | unsupported (.noEntry "extern/(internal/reflectlite.Value).Set.zeroValue")
    if fl / ReflectliteValue.flagAddr % 2 == 0 then unsupported (.noEntry "extern/(internal/reflectlite.Value).Set.unaddressable")
    let val ← loadVar src b
    if ← Rtype.directlyAssignable dst src then storeVar dst a val
    else if ← Rtype.implements dst src then
      if (← Rtype.kind src) == 20 then
        match val with
        | .nilIface => unsupported (.noEntry "extern/reflectlite: a nil value of one interface type handed on as a value of another")
        | _ => storeVar dst a val
      else storeVar dst a (.iface src val)
    else panicString ("reflectlite.Set: value of type " ++ (← Rtype.spelt src) ++ " is not assignable to type " ++ (← Rtype.spelt dst))
    pure (.tuple #[])) := rfl
theorem Tas.parts25a (a : Addr) (w : World) : (ReflectliteValue.parts (.agg #[.pointer (some ⟨1, 76, none⟩), .pointer (some a), .int .u64 386])).run Tryd.prog w = .ok (some (76, a, 386)) w := by kernel_rfl
theorem Tas.parts25 (a : Addr) (w : World) : (ReflectliteValue.parts (.agg #[.pointer (some ⟨1, 76, none⟩), .pointer (some a), .int .u64 130])).run Tryd.prog w = .ok (some (76, a, 130)) w := by kernel_rfl
theorem Tas.direct25 (w : World) : (Rtype.directlyAssignable 76 76).run Tryd.prog w = .ok true w := by kernel_rfl
theorem Tas.size25 (w : World) : (sizeOf 76).run Tryd.prog w = .ok 1 w := by kernel_rfl
/-- (Value).Set: the *p.E variable at 'ta' gets what the Value's own variable 'b' holds. -/
theorem Tas.set25 (ta b : Addr) (e : Int) (old : Value) (W : World) (hb : W.cell? b = some (.int .i64 e)) (ht : W.cell? ta = some old) (hf : W.frozen? ta = false) :
    (ReflectliteValue.set #[.agg #[.pointer (some ⟨1, 76, none⟩), .pointer (some ta), .int .u64 386], .agg #[.pointer (some ⟨1, 76, none⟩), .pointer (some b), .int .u64 130]]).run Tryd.prog W
      = .ok (.tuple #[]) (W.setCell ta (.int .i64 e)) := by
  rw [rls]
  simp only [Sem.run_bind, Tas.parts25a, Tas.parts25, Result.andThen]
  simp [ReflectliteValue.flagAddr, loadVar, isAgg, underlying, Tryd.underlying76, hb, Result.andThen, Tas.direct25, storeVar, Value.cells, storeCells, Addr.add]
  rw [run_store Tryd.prog W ta _ _ (by rfl)]
  simp [ht, hf]

set_option maxRecDepth 100000 in
set_option maxHeartbeats 4000000 in
theorem as_hit (e : Int) (t : Addr) (old : Value) (w : World) (hg : w.cell? ⟨0, 0, none⟩ = some (.iface 112 (.agg #[.pointer (some ⟨1, 25, none⟩)]))) (ht0 : w.cell? t = some old) (hf0 : w.frozen? t = false) :
    Calls Tryd.prog 44 #[.iface 76 (.int .i64 e), .iface 97 (.pointer (some t))] w fun ev w' => ev = .returned (.bool true) ∧ w' = ((((w.alloc (.cells #[.pointer (some t)] 97)).alloc (.cells #[.pointer (some ⟨1, 97, none⟩), .pointer (some ⟨w.heap.size, 0, none⟩), .int .u64 150] 101)).alloc (.cells #[.pointer (some ⟨1, 97, none⟩), .pointer (some ⟨w.heap.size, 0, none⟩), .int .u64 150] 101)).alloc (.cells #[.int .i64 e] 76)).setCell t (.int .i64 e) := by
  have h6 := @run_callFunc_extern Tryd.prog 45 _ (fun args => ReflectliteValue.unpack (args.getD 0 (.tuple #[]))) Tryd.func45 (by kernel_rfl) (by kernel_rfl) (by kernel_rfl) (by kernel_rfl)
  have h7 := @run_callFunc_extern Tryd.prog 46 _ (ReflectliteValue.methodAny (ReflectliteValue.valueError "reflectlite.Value.Type" 0) (fun t _ _ _ => ReflectliteType.toType t)) Tryd.func46 (by kernel_rfl) (by kernel_rfl) (by kernel_rfl) (by kernel_rfl)
  have h8 := @run_callFunc_extern Tryd.prog 47 _ (ReflectliteValue.method (ReflectliteValue.valueError "reflectlite.Value.IsNil" 0) ReflectliteValue.isNil) Tryd.func47 (by kernel_rfl) (by kernel_rfl) (by kernel_rfl) (by kernel_rfl)
  have h27 := @run_callFunc_extern Tryd.prog 66 _ (ReflectliteType.abiMethod fun t => do pure (.int .u8 (← Rtype.kind t))) Tryd.func66 (by kernel_rfl) (by kernel_rfl) (by kernel_rfl) (by kernel_rfl)
  have h37 := @run_callFunc_extern Tryd.prog 76 _ (ReflectliteType.method ReflectliteType.elem) Tryd.func76 (by kernel_rfl) (by kernel_rfl) (by kernel_rfl) (by kernel_rfl)
  have h38 := @run_callFunc_extern Tryd.prog 77 _ (ReflectliteType.relation "Implements" ReflectliteType.implements_) Tryd.func77 (by kernel_rfl) (by kernel_rfl) (by kernel_rfl) (by kernel_rfl)
  have h10 := @run_callFunc_extern Tryd.prog 49 _ ReflectliteType.typeOf Tryd.func49 (by kernel_rfl) (by kernel_rfl) (by kernel_rfl) (by kernel_rfl)
  have h35 := @run_callFunc_extern Tryd.prog 74 _ (ReflectliteType.relation "AssignableTo" ReflectliteType.assignableTo) Tryd.func74 (by kernel_rfl) (by kernel_rfl) (by kernel_rfl) (by kernel_rfl)
  have h11 := @run_callFunc_extern Tryd.prog 50 _ (ReflectliteValue.method (ReflectliteValue.valueError "reflectlite.Value.Elem" 0) ReflectliteValue.elem) Tryd.func50 (by kernel_rfl) (by kernel_rfl) (by kernel_rfl) (by kernel_rfl)
  have h12 := @run_callFunc_extern Tryd.prog 51 _ ReflectliteValue.set Tryd.func51 (by kernel_rfl) (by kernel_rfl) (by kernel_rfl) (by kernel_rfl)
  have tO := Tas.typeOf25
  have mA := Tas.methodAssignableTo
  have a25 := Tas.assignable25
  have v25 := Tas.valueOf25
  have f6 := Tas.valueOf27
  have f7 := Tas.type27
  have mK := Tas.methodKind
  have mE := Tas.methodElem
  have mI := Tas.methodImplements
  have k27 := Tas.kind27
  have k25 := Tas.kind25
  have e27 := Tas.elem27
  have i25 := Tas.implements25
  have n8 := Tas.isNil27 ⟨w.heap.size, 0, none⟩ t ((w.alloc (.cells #[.pointer (some t)] 97)).alloc (.cells #[.pointer (some ⟨1, 97, none⟩), .pointer (some ⟨w.heap.size, 0, none⟩), .int .u64 150] 101)) (by simp)
  have hlt : 0 < w.heap.size := by
    rcases Nat.eq_zero_or_pos w.heap.size with h0 | h
    · simp [World.cell?, h0] at hg
    · exact h
  have hg2 : ((w.alloc (.cells #[.pointer (some t)] 97)).alloc (.cells #[.pointer (some ⟨1, 97, none⟩), .pointer (some ⟨w.heap.size, 0, none⟩), .int .u64 150] 101)).cell? ⟨0, 0, none⟩ = some (.iface 112 (.agg #[.pointer (some ⟨1, 25, none⟩)])) := by
    rw [World.cell?_alloc_lt _ _ ⟨0, 0, none⟩ (by simp), World.cell?_alloc_lt _ _ ⟨0, 0, none⟩ hlt]; exact hg
  have htl : t.block < w.heap.size := by
    rcases Nat.lt_or_ge t.block w.heap.size with h | h
    · exact h
    · simp [World.cell?, Array.getElem?_eq_none h] at ht0
  have el := Tas.elemV27 ⟨w.heap.size, 0, none⟩ t (((w.alloc (.cells #[.pointer (some t)] 97)).alloc (.cells #[.pointer (some ⟨1, 97, none⟩), .pointer (some ⟨w.heap.size, 0, none⟩), .int .u64 150] 101)).alloc (.cells #[.pointer (some ⟨1, 97, none⟩), .pointer (some ⟨w.heap.size, 0, none⟩), .int .u64 150] 101)) (by rw [World.cell?_alloc_lt _ _ ⟨w.heap.size, 0, none⟩ (by simp; omega)]; simp)
  have st := Tas.set25 t ⟨w.heap.size + 1 + 1 + 1, 0, none⟩ e old ((((w.alloc (.cells #[.pointer (some t)] 97)).alloc (.cells #[.pointer (some ⟨1, 97, none⟩), .pointer (some ⟨w.heap.size, 0, none⟩), .int .u64 150] 101)).alloc (.cells #[.pointer (some ⟨1, 97, none⟩), .pointer (some ⟨w.heap.size, 0, none⟩), .int .u64 150] 101)).alloc (.cells #[.int .i64 e] 76))
    (by rw [World.cell?_alloc_at _ _ _ _ (by simp)]; rfl)
    (by rw [World.cell?_alloc_lt _ _ t (by simp; omega), World.cell?_alloc_lt _ _ t (by simp; omega), World.cell?_alloc_lt _ _ t (by simp; omega), World.cell?_alloc_lt _ _ t htl]; exact ht0)
    (by rw [World.frozen?_alloc_old _ _ t (by simp; omega), World.frozen?_alloc_old _ _ t (by simp; omega), World.frozen?_alloc_old _ _ t (by simp; omega), World.frozen?_alloc_old _ _ t (Nat.ne_of_lt htl)]; exact hf0)
  go_enter Tryd.func44, Tryd.ntmps44
  go_wp2
  refine wp_loop_rounds 1 ?_
  rw [rounds_succ]
  go_wp2
  go_ret
  exact ⟨rfl, rfl⟩
end Go.Proofs.YtjgdpblaghhfhaaDoor

/- The number of an error, as the program tells it; is an error the one with a number? -/
namespace Go.Proofs.YtjgdpblaghhfhaaDoor
open Go.RowKit Go.Extern.Stop Go.Stop Go.Extern Go.Vc
abbrev I : Ty := .int .i64
abbrev tErr : Ty := .err 76

theorem fr_alloc (w : World) (o : Obj) : Fr (fun _ => False) w (w.alloc o) := ⟨rfl, rfl, rfl, by simp, fun b hb _ => Ext.alloc w o b hb, fun _ => Nat.le_refl _⟩

theorem told_nil (w : World) : Calls Tryd.prog 31 #[.nilIface] w fun e w' => e = .returned (.int .i64 0) ∧ w' = w := by
  go_enter Tryd.func31, Tryd.ntmps31
  go_wp2
  go_ret
  exact ⟨rfl, rfl⟩

set_option maxRecDepth 100000 in
set_option maxHeartbeats 4000000 in
theorem told_hit (n : Int) (w : World) (hg : w.cell? ⟨0, 0, none⟩ = some (.iface 112 (.agg #[.pointer (some ⟨1, 25, none⟩)]))) :
    Calls Tryd.prog 31 #[.iface 76 (.int .i64 n)] w fun e w' => e = .returned (.int .i64 n) ∧ Fr (fun _ => False) w w' := by
  have hlt : 0 < w.heap.size := World.block_lt_of_cell? w ⟨0, 0, none⟩ hg
  have hgA : (w.alloc (.cells #[.int .i64 0] 76)).cell? ⟨0, 0, none⟩ = some (.iface 112 (.agg #[.pointer (some ⟨1, 25, none⟩)])) := by
    rw [World.cell?_alloc_lt _ _ ⟨0, 0, none⟩ hlt]; exact hg
  have htA : (w.alloc (.cells #[.int .i64 0] 76)).cell? ⟨w.heap.size, 0, none⟩ = some (.int .i64 0) := by simp
  have hfA : (w.alloc (.cells #[.int .i64 0] 76)).frozen? ⟨w.heap.size, 0, none⟩ = false := by simp
  go_enter Tryd.func31, Tryd.ntmps31
  go_wp2_with (go_at_call 44; refine (as_hit n _ (.int .i64 0) _ hgA htA hfA).mono ?_; rintro e w' ⟨rfl, rfl⟩)
  go_ret
  exact ⟨rfl, ((((fr_alloc _ _).trans (fr_alloc _ _)).trans (fr_alloc _ _)).trans (fr_alloc _ _)).trans (fr_alloc _ _)⟩

/-- the handle of the type 'error' -/
abbrev hdE : Value := .iface 112 (.agg #[.pointer (some ⟨1, 25, none⟩)])
def glE : List (Nat × Dat) := [(0, ⟨.raw, hdE⟩)]
theorem hd_of {w : World} {ro : Nat → Prop} (h : GlOk glE w ro) : w.cell? ⟨0, 0, none⟩ = some hdE := by
  obtain ⟨_, us, h1, hn⟩ := h 0 _ (List.mem_singleton.2 rfl)
  have hn : us = [hdE] ∧ hdE.oneCell' = true := hn
  exact h1 0 hdE (by rw [hn.1]; rfl)
def cTold : Ctr := cdet [tErr] (fun (n : Int) => inK .i64 n) (fun (n : Int) => [⟨I, n⟩])
theorem okTold : PlainOk Tryd.prog glE 31 cTold := by
  intro ds k hs w R0 vals hR0 hG hD
  obtain ⟨hp, hk⟩ := hs
  obtain ⟨n, rfl, hin⟩ := dest1 hp
  have hk : k [⟨I, n⟩] := hk
  obtain ⟨hl, hd⟩ := hD
  match vals, hl with
  | [v], _ =>
    have hv : Ty.okV w R0 tErr n v := hd 0 ⟨tErr, n⟩ v rfl rfl
    unfold Ty.okV at hv
    simp only [Ty.agg, Bool.false_eq_true, if_false, Ty.ok] at hv
    have hok : ∀ {w' : World} {ro : Nat → Prop}, inK .i64 n → RetOk w' ro [(⟨I, n⟩ : Dat)] (.int .i64 n) := by
      intro w' ro hn
      show Ty.okV _ _ I n _
      unfold Ty.okV
      simp only [Ty.agg, Bool.false_eq_true, if_false, Ty.ok]
      exact ⟨trivial, hn⟩
    rcases hv with ⟨h0, hv⟩ | ⟨h0, hv⟩
    · injection hv with hv
      subst hv
      have h0 : (0 : Int) = n := h0.symm
      subst h0
      refine (show Calls Tryd.prog 31 #[.nilIface] w _ from told_nil w).mono fun e w' ⟨he, hw⟩ => ?_
      subst hw
      exact ⟨Fr.refl _ _, [⟨I, (0 : Int)⟩], _, he, hk, hok hin⟩
    · injection hv with hv
      subst hv
      refine (show Calls Tryd.prog 31 #[.iface 76 (.int .i64 n)] w _ from told_hit n w (hd_of hG)).mono fun e w' ⟨he, hw⟩ => ?_
      exact ⟨hw, [⟨I, n⟩], _, he, hk, hok hin⟩
theorem PlainOk.sub {P : Program} {gl gl' : List (Nat × Dat)} {f : FuncId} {c : Ctr} (hs : ∀ x ∈ gl, x ∈ gl') (h : PlainOk P gl f c) : PlainOk P gl' f c :=
  fun ds k hk w R0 vals hR0 hG hD => h ds k hk w R0 vals hR0 (fun g d hg => hG g d (hs _ hg)) hD
def cError : Ctr := cdet [tErr, I] (fun (n _ : Int) => inK .i64 n ∧ True) (fun (n e : Int) => [⟨.bool, decide (n = e)⟩])
def Er : Env := { tys := [(3, I), (4, .bool), (25, tErr), (76, I)], errT := 76, eqs := [], els := [] }
theorem Er_ok : EnvOk Tryd.prog Er := EnvOk.of_list (by kernel_rfl) (by kernel_rfl) (by kernel_rfl)
set_option linter.unusedVariables false in
theorem vcError (n e : Int) (k : List Dat → Prop) : vcF ⟨Er, [(31, cTold)], glE, [], []⟩ [] (Tryd.f7.body.getD .skip) Tryd.f7.ntmps [(.tmp 4, .bool)] [⟨tErr, n⟩, ⟨I, e⟩] k = (
  IntKind.i64.wrap n = n ∧ k [Dat.mk Ty.bool (decide (n = e))]) := by kernel_rfl
theorem okError : PlainOk Tryd.prog glE 7 cError := by
  refine plain_of (CxOk.mk' Er_ok rfl (by kernel_rfl) (gl := glE) (GOk.cons okTold Tryd.func31 (by kernel_rfl) (by kernel_rfl) GOk.nil) GoOk.nil noIt) Tryd.func7 (c := Tryd.f7.body.getD .skip) (rvs := [(.tmp 4, .bool)]) (by kernel_rfl) (by kernel_rfl) (by kernel_rfl) ?_
  intro ds k ⟨hp, hk⟩ hwf
  obtain ⟨n, e, rfl, hin, -⟩ := dest2 hp
  have hk : k [⟨.bool, decide (n = e)⟩] := hk
  refine ⟨[], ?_⟩
  rw [vcError]
  exact ⟨hin, hk⟩
theorem glE_of {laid : List (String × DataW Unit)} (hm : ("errors.errorType", Rows.laid_errors_errorType) ∈ laid) {W : World} (h : laidMetH Tryd.prog laid W) : GlOk glE W fun b => b < W.heap.size :=
  gl_of_handle (n := "errors.errorType") (u := 112) (ty := 25) (d := Rows.laid_errors_errorType) h hm rfl rfl (by kernel_rfl) (by kernel_rfl) (by kernel_rfl) (by kernel_rfl) rfl
end Go.Proofs.YtjgdpblaghhfhaaDoor

/- Banks whose money is noted while it is on its way: what the program's functions answer. -/
namespace Go.Proofs.YtjgdpblaghhfhaaDoor.N
open Go.Vc
abbrev glK : List (Nat × Dat) := glE
abbrev L2 : Type := List (List Int)
abbrev L3 : Type := List (List (List Int))
abbrev B2 : Type := List (List Bool)
@[match_pattern] abbrev tMove : Ty := .pr I (.pr I (.pr I (.pr I .un)))
@[match_pattern] abbrev tBk : Ty := .pr (.sl I) (.pr (.sl (.sl (.sl I))) (.pr (.sl I) (.pr (.sl (.sl .bool)) (.pr (.sl (.sl I)) (.pr .bool .un)))))
@[match_pattern] abbrev oR : Ot := .sl 3 (.d I)
@[match_pattern] abbrev oW : Ot := .sl 29 (.sl 3 (.d I))
@[match_pattern] abbrev oH : Ot := .sl 4 (.d .bool)
def Et : Env := { tys := [(3, I), (4, .bool), (25, tErr), (29, .sl I), (41, .sl (.sl I)), (80, .sl (.sl (.sl I))), (30, .sl .bool), (88, .sl (.sl .bool)), (61, .ptr tBk), (90, tBk), (66, tMove), (56, .sl tMove)], errT := 76, eqs := [], els := [(29, 3), (41, 29), (80, 41), (30, 4), (88, 30), (56, 66)], pb := [90] }
theorem Et_ok : EnvOk Tryd.prog Et := EnvOk.of_list (by kernel_rfl) (by kernel_rfl) (by kernel_rfl)
def EtN : Env := { Et with mt := [41], bs := [42, 63, 75] }
theorem EtN_ok : EnvOk Tryd.prog EtN := EnvOk.of_list (by kernel_rfl) (by kernel_rfl) (by kernel_rfl)
theorem mixed : Tryd.prog.follows .mixedOrders = true := by kernel_rfl
def inB (n lo hi : Int) : Bool := decide (lo ≤ n) && decide (n ≤ hi)
theorem inB_iff {n lo hi : Int} : inB n lo hi = true ↔ lo ≤ n ∧ n ≤ hi := by unfold inB; simp
def cWithin : Ctr := cdet [I, I, I] (fun _ _ _ => True) (fun a b c => [⟨.bool, inB a b c⟩])
/-- a bank -/
structure Bk where
  mo : List Int
  wa : L3
  no : List Int
  he : B2
  ca : L2
  bg : Bool
def bob (b : Bk) : List Ob := [.st 90 [.os 1, .os 2, .os 3, .os 4, .os 5, .d .bool b.bg], .row 3 I b.mo, .trow 41 oW b.wa, .row 3 I b.no, .trow 30 oH b.he, .trow 29 oR b.ca]
/-- a bank, and a row that is an answer -/
def bobR (r : Ob) (b : Bk) : List Ob := [.st 90 [.os 2, .os 3, .os 4, .os 5, .os 6, .d .bool b.bg], r, .row 3 I b.mo, .trow 41 oW b.wa, .row 3 I b.no, .trow 30 oH b.he, .trow 29 oR b.ca]
def at2 (k : L2) (i j : Nat) : Int := (k.getD i []).getD j 0
def at2b (k : B2) (i j : Nat) : Bool := (k.getD i []).getD j false
def at3 (k : L3) (i j : Nat) : List Int := (k.getD i []).getD j []
def wr2 (k : L2) (i j : Nat) (v : Int) : L2 := k.set i ((k.getD i []).set j v)
def wr2b (k : B2) (i j : Nat) (v : Bool) : B2 := k.set i ((k.getD i []).set j v)
def wr3 (k : L3) (i j : Nat) (v : List Int) : L3 := k.set i ((k.getD i []).set j v)
/-- marks are put on the ways from a process -/
def noteW (w : L3) (p : Nat) : Nat → L3
  | 0 => w
  | m + 1 => if m = p then noteW w p m else wr3 (noteW w p m) p m (List.append (at3 (noteW w p m) p m) [-1])
def noteF (b : Bk) (p : Nat) : Bk := ⟨b.mo, noteW b.wa p b.mo.length, b.no.set p (b.mo.getD p 0), b.he, b.ca, true⟩
def comeF (b : Bk) (n : Int) (f t : Nat) : Bk :=
  if n = -1 then (fun c : Bk => ⟨c.mo, c.wa, c.no, wr2b c.he t f true, c.ca, c.bg⟩) (if b.no.getD t 0 < 0 then noteF b t else b)
  else ⟨b.mo.set t (b.mo.getD t 0 + n), b.wa, b.no, b.he, if 0 ≤ b.no.getD t 0 ∧ at2b b.he t f = false then wr2 b.ca t f (at2 b.ca t f + n) else b.ca, b.bg⟩
def doF (b : Bk) (k f t s : Int) : Int × Bk :=
  if inB k 0 2 = false ∨ inB f 0 ((b.mo.length : Int) - 1) = false then (1, b)
  else if k = 2 then (if b.bg = true then (7, b) else (0, noteF b f.toNat))
  else if inB t 0 ((b.mo.length : Int) - 1) = false then (1, b)
  else if f = t then (6, b)
  else if k = 0 then
    if inB s 0 1000 = false then (1, b)
    else if b.mo.getD f.toNat 0 < s then (5, b)
    else if 8 ≤ (at3 b.wa f.toNat t.toNat).length then (4, b)
    else (0, ⟨b.mo.set f.toNat (b.mo.getD f.toNat 0 - s), wr3 b.wa f.toNat t.toNat (List.append (at3 b.wa f.toNat t.toNat) [s]), b.no, b.he, b.ca, b.bg⟩)
  else if (at3 b.wa f.toNat t.toNat).length = 0 then (5, b)
  else (0, comeF ⟨b.mo, wr3 b.wa f.toNat t.toNat ((at3 b.wa f.toNat t.toNat).drop 1), b.no, b.he, b.ca, b.bg⟩ ((at3 b.wa f.toNat t.toNat).getD 0 0) f.toNat t.toNat)
/-- as long as it should be, and no number too large -/
structure BkS (b : Bk) : Prop where
  n1 : 1 ≤ b.mo.length
  n5 : b.mo.length ≤ 5
  no : b.no.length = b.mo.length
  wa : b.wa.length = b.mo.length
  wa2 : ∀ i, i < b.mo.length → (b.wa.getD i []).length = b.mo.length
  wk : ∀ i j, i < b.mo.length → j < b.mo.length → (at3 b.wa i j).length ≤ 100000
  he : b.he.length = b.mo.length
  he2 : ∀ i, i < b.mo.length → (b.he.getD i []).length = b.mo.length
  ca : b.ca.length = b.mo.length
  ca2 : ∀ i, i < b.mo.length → (b.ca.getD i []).length = b.mo.length
  mb : ∀ i, i < b.mo.length → -1000000000 ≤ b.mo.getD i 0 ∧ b.mo.getD i 0 ≤ 1000000000
  cb : ∀ i j, i < b.mo.length → j < b.mo.length → -1000000000 ≤ at2 b.ca i j ∧ at2 b.ca i j ≤ 1000000000
  vb : ∀ i j v, i < b.mo.length → j < b.mo.length → v ∈ at3 b.wa i j → -1000000000 ≤ v ∧ v ≤ 1000000000
def newB (mo : List Int) : Bk := ⟨mo, List.replicate mo.length (List.replicate mo.length []), List.replicate mo.length (-1), List.replicate mo.length (List.replicate mo.length false), List.replicate mo.length (List.replicate mo.length 0), false⟩
def moOk (mo : List Int) : Bool := mo.all fun n => inB n 0 1000
def newE (mo : List Int) : Int := if mo.length = 0 then 5 else if 5 < mo.length then 4 else if moOk mo = true then 0 else 1
def oNew : OCtr := fun args ob k =>
  match args, ob with
  | [.d (.sl (.int .i64)) mo], [] => (newE mo = 0 → k (.tp [.ps 0, .d tErr (0 : Int)]) (bob (newB mo))) ∧ (newE mo ≠ 0 → k (.tp [.nilp, .d tErr (newE mo)]) [])
  | _, _ => False
def rowsW (n i : Nat) : L3 := List.replicate i (List.replicate n [])
def rowsC (n i : Nat) : L2 := List.replicate i (List.replicate n 0)
def rowsH (n i : Nat) : B2 := List.replicate i (List.replicate n false)
def anNew (mo : List Int) : Ann :=
  [loopAt 6 Nat [] (fun st i => St.at (St.only st [0, 15, 16]) [(17, .d I (i : Int))]) (fun _ i => i ≤ mo.length ∧ moOk (mo.take i) = true) (fun i => mo.length - i),
   loopAt 13 Nat [(2006, 41, oW), (3006, 3, I), (4006, 30, oH), (5006, 29, oR)] (fun st i => { St.at (St.only st [0, 6, 30, 31]) [(32, .d I (i : Int))] with ob := [.row 3 I mo, .st 90 [.os 0, .os 2, .os 3, .os 4, .os 5, .d .bool false], .trow 41 oW (rowsW mo.length i), .row 3 I (List.replicate i (-1)), .trow 30 oH (rowsH mo.length i), .trow 29 oR (rowsC mo.length i)] }) (fun _ i => i ≤ mo.length ∧ True) (fun i => mo.length - i)]
def oNote : OCtr := fun args ob k =>
  match args, ob with
  | [.ps 0, .d (.int .i64) p], [.st 90 [.os 1, .os 2, .os 3, .os 4, .os 5, .d .bool bg], .row 3 (.int .i64) mo, .trow 41 oW wa, .row 3 (.int .i64) no, .trow 30 oH he, .trow 29 oR ca] =>
    (BkS ⟨mo, wa, no, he, ca, bg⟩ ∧ 0 ≤ p ∧ p < (mo.length : Int)) ∧ k (.tp []) (bob (noteF ⟨mo, wa, no, he, ca, bg⟩ p.toNat))
  | _, _ => False
def anNote (b : Bk) (p : Int) : Ann :=
  [loopAt 3 Nat [] (fun st m => { St.at (St.only st [0, 1, 25]) [(26, .d I (m : Int))] with ob := bob ⟨b.mo, noteW b.wa p.toNat m, b.no.set p.toNat (b.mo.getD p.toNat 0), b.he, b.ca, true⟩ }) (fun _ m => m ≤ b.mo.length ∧ True) (fun m => b.mo.length - m),
   openAt 6 [fun _ => (2, p.toNat, []), fun st => (6, (st.i 4).toNat, [])] [fun _ => 6, fun _ => 2]]
def oCome : OCtr := fun args ob k =>
  match args, ob with
  | [.ps 0, .d (.int .i64) n, .d (.int .i64) f, .d (.int .i64) t], [.st 90 [.os 1, .os 2, .os 3, .os 4, .os 5, .d .bool bg], .row 3 (.int .i64) mo, .trow 41 oW wa, .row 3 (.int .i64) no, .trow 30 oH he, .trow 29 oR ca] =>
    (BkS ⟨mo, wa, no, he, ca, bg⟩ ∧ (-1000000000 ≤ n ∧ n ≤ 1000000000) ∧ (0 ≤ f ∧ f < (mo.length : Int)) ∧ 0 ≤ t ∧ t < (mo.length : Int)) ∧ k (.tp []) (bob (comeF ⟨mo, wa, no, he, ca, bg⟩ n f.toNat t.toNat))
  | _, _ => False
def oDo : OCtr := fun args ob k =>
  match args, ob with
  | [.ps 0, .d (.pr (.int .i64) (.pr (.int .i64) (.pr (.int .i64) (.pr (.int .i64) .un)))) m], [.st 90 [.os 1, .os 2, .os 3, .os 4, .os 5, .d .bool bg], .row 3 (.int .i64) mo, .trow 41 oW wa, .row 3 (.int .i64) no, .trow 30 oH he, .trow 29 oR ca] =>
    BkS ⟨mo, wa, no, he, ca, bg⟩ ∧ k (.d tErr (doF ⟨mo, wa, no, he, ca, bg⟩ m.1 m.2.1 m.2.2.1 m.2.2.2.1).1) (bob (doF ⟨mo, wa, no, he, ca, bg⟩ m.1 m.2.1 m.2.2.1 m.2.2.2.1).2)
  | _, _ => False
def anDo (f t : Int) : Ann :=
  [joinAll, openAt 22 [fun _ => (2, f.toNat, [6]), fun _ => (7, t.toNat, [6])] [fun _ => 7, fun _ => 2], openAt 26 [fun _ => (2, f.toNat, [6]), fun _ => (7, t.toNat, [6])] []]
/-- a copy of a row -/
def oClone : OCtr := fun args ob k =>
  match args, ob with
  | [.os 0], [.row 3 (.int .i64) xs] => xs.length ≤ 1000000 ∧ k (.os 1) [.row 3 I xs, .row 3 I xs]
  | [.d (.sl (.int .i64)) xs], [] => xs.length ≤ 1000000 ∧ k (.os 0) [.row 3 I xs]
  | _, _ => False
def oMoney : OCtr := fun args ob k =>
  match args, ob with
  | [.ps 0], [.st 90 [.os 1, .os 2, .os 3, .os 4, .os 5, .d .bool bg], .row 3 (.int .i64) mo, .trow 41 oW wa, .row 3 (.int .i64) no, .trow 30 oH he, .trow 29 oR ca] =>
    mo.length ≤ 5 ∧ k (.os 1) (bobR (.row 3 I mo) ⟨mo, wa, no, he, ca, bg⟩)
  | _, _ => False
def wayF (b : Bk) (f t : Int) : List Int := if (inB f 0 ((b.mo.length : Int) - 1) && inB t 0 ((b.mo.length : Int) - 1)) = true then at3 b.wa f.toNat t.toNat else []
def oWay : OCtr := fun args ob k =>
  match args, ob with
  | [.ps 0, .d (.int .i64) f, .d (.int .i64) t], [.st 90 [.os 1, .os 2, .os 3, .os 4, .os 5, .d .bool bg], .row 3 (.int .i64) mo, .trow 41 oW wa, .row 3 (.int .i64) no, .trow 30 oH he, .trow 29 oR ca] =>
    BkS ⟨mo, wa, no, he, ca, bg⟩ ∧ k (.os 1) (bobR (.row 3 I (wayF ⟨mo, wa, no, he, ca, bg⟩ f t)) ⟨mo, wa, no, he, ca, bg⟩)
  | _, _ => False
def anWay (f t : Int) : Ann := [joinAll, openAt 3 [fun _ => (2, f.toNat, []), fun _ => (6, t.toNat, [])] [fun _ => 6, fun _ => 2]]
def minL : List Int → Int
  | [] => 0
  | x :: r => r.foldl min x
def cMin : Ctr := cdet [.sl I] (fun (l : List Int) => 1 ≤ l.length ∧ l.length ≤ 1000) (fun (l : List Int) => [⟨I, minL l⟩])
def anMin (l : List Int) : Ann := [joinAll, loopAt 5 Nat [] (fun st i => St.at (St.only st [0]) [(3, .d I (minL (l.take i))), (4, .d I (i : Int))]) (fun _ i => 1 ≤ i ∧ i ≤ l.length) (fun i => l.length - i)]
end Go.Proofs.YtjgdpblaghhfhaaDoor.N

/- Banks: what the reference's functions answer. -/
namespace Go.Proofs.YtjgdpblaghhfhaaDoor.N
open Go.Vc
/-- money, noted, ways, heard, came, begun -/
@[match_pattern] abbrev tXB : Ty := .pr (.sl I) (.pr (.sl I) (.pr (.sl (.sl I)) (.pr (.sl .bool) (.pr (.sl I) (.pr .bool .un)))))
abbrev Xb : Type := List Int × List Int × L2 × List Bool × List Int × Bool × Unit
abbrev zXB : Xb := ([], [], [], [], [], false, ())
def Ex : Env := { tys := [(3, I), (4, .bool), (29, .sl I), (41, .sl (.sl I)), (30, .sl .bool), (58, tXB), (66, tMove)], errT := 76, eqs := [], els := [(29, 3), (41, 29), (30, 4)] }
theorem Ex_ok : EnvOk Tryd.prog Ex := EnvOk.of_list (by kernel_rfl) (by kernel_rfl) (by kernel_rfl)
def Exn : Env := { Ex with sa := [35, 39, 43], pz := [6], pb := [58] }
theorem Exn_ok : EnvOk Tryd.prog Exn := EnvOk.of_list (by kernel_rfl) (by kernel_rfl) (by kernel_rfl)
def cWith : Ctr := cdet [.sl I, I, I] (fun (l : List Int) (i _ : Int) => 0 ≤ i ∧ i < (l.length : Int) ∧ l.length ≤ 1000) (fun (l : List Int) (i v : Int) => [⟨.sl I, l.set i.toNat v⟩])
def cBehind : Ctr := cdet [.sl I, I] (fun (w : List Int) (_ : Int) => w.length ≤ 100000) (fun (w : List Int) (n : Int) => [⟨.sl I, w ++ [n]⟩])
def cXWay : Ctr := cdet [.sl (.sl I), I, .sl I] (fun (l : L2) (i : Int) (_ : List Int) => 0 ≤ i ∧ i < (l.length : Int) ∧ l.length ≤ 1000) (fun (l : L2) (i : Int) (w : List Int) => [⟨.sl (.sl I), l.set i.toNat w⟩])
structure XbOk (x : Xb) : Prop where
  n1 : 1 ≤ x.1.length
  n5 : x.1.length ≤ 5
  no : x.2.1.length = x.1.length
  wa : x.2.2.1.length = x.1.length * x.1.length
  he : x.2.2.2.1.length = x.1.length * x.1.length
  ca : x.2.2.2.2.1.length = x.1.length * x.1.length
  wk : ∀ m, m < x.1.length * x.1.length → (x.2.2.1.getD m []).length ≤ 1000
  mb : ∀ i, i < x.1.length → -1000000000 ≤ x.1.getD i 0 ∧ x.1.getD i 0 ≤ 1000000000
  cb : ∀ m, m < x.1.length * x.1.length → -1000000000 ≤ x.2.2.2.2.1.getD m 0 ∧ x.2.2.2.2.1.getD m 0 ≤ 1000000000
  vb : ∀ m v, m < x.1.length * x.1.length → v ∈ x.2.2.1.getD m [] → -1000000000 ≤ v ∧ v ≤ 1000000000
/-- marks are put on the ways from a process -/
def wnX (w : L2) (p n : Nat) : Nat → L2
  | 0 => w
  | m + 1 => if m = p then wnX w p n m else (wnX w p n m).set (p * n + m) ((wnX w p n m).getD (p * n + m) [] ++ [-1])
def noteX (x : Xb) (p : Nat) : Xb := (x.1, x.2.1.set p (x.1.getD p 0), wnX x.2.2.1 p x.1.length x.1.length, x.2.2.2.1, x.2.2.2.2.1, true, ())
def cRNote : Ctr := cdet [tXB, I] (fun (x : Xb) (p : Int) => XbOk x ∧ 0 ≤ p ∧ p < (x.1.length : Int)) (fun (x : Xb) (p : Int) => [⟨tXB, noteX x p.toNat⟩])
def anRNote (x : Xb) (p : Int) : Ann :=
  [joinAll, loopAt 5 Nat [] (fun st m => { St.at (St.only st [1, 2, 4, 5]) [(6, .d I (m : Int))] with ob := [.var 58 tXB (x.1, x.2.1.set p.toNat (x.1.getD p.toNat 0), wnX x.2.2.1 p.toNat x.1.length m, x.2.2.2.1, x.2.2.2.2.1, true, ()), .var 58 tXB zXB] }) (fun _ m => m ≤ x.1.length ∧ True) (fun m => x.1.length - m)]
def comeX (x : Xb) (v : Int) (f t : Nat) : Xb :=
  if v = -1 then (fun y : Xb => (y.1, y.2.1, y.2.2.1, y.2.2.2.1.set (t * x.1.length + f) true, y.2.2.2.2.1, y.2.2.2.2.2.1, ())) (if x.2.1.getD t 0 = -1 then noteX x t else x)
  else (x.1.set t (x.1.getD t 0 + v), x.2.1, x.2.2.1, x.2.2.2.1, if 0 ≤ x.2.1.getD t 0 ∧ x.2.2.2.1.getD (t * x.1.length + f) false = false then x.2.2.2.2.1.set (t * x.1.length + f) (x.2.2.2.2.1.getD (t * x.1.length + f) 0 + v) else x.2.2.2.2.1, x.2.2.2.2.2.1, ())
def moveX (x : Xb) (k f t s : Int) : Xb × Int :=
  if inB k 0 2 = false ∨ inB f 0 ((x.1.length : Int) - 1) = false then (x, 1)
  else if k = 2 then (if x.2.2.2.2.2.1 = true then (x, 7) else (noteX x f.toNat, 0))
  else if inB t 0 ((x.1.length : Int) - 1) = false then (x, 1)
  else if f = t then (x, 6)
  else if k = 0 then
    if inB s 0 1000 = false then (x, 1)
    else if x.1.getD f.toNat 0 < s then (x, 5)
    else if 8 ≤ (x.2.2.1.getD (f.toNat * x.1.length + t.toNat) []).length then (x, 4)
    else ((x.1.set f.toNat (x.1.getD f.toNat 0 - s), x.2.1, x.2.2.1.set (f.toNat * x.1.length + t.toNat) (x.2.2.1.getD (f.toNat * x.1.length + t.toNat) [] ++ [s]), x.2.2.2.1, x.2.2.2.2.1, x.2.2.2.2.2.1, ()), 0)
  else if (x.2.2.1.getD (f.toNat * x.1.length + t.toNat) []).length = 0 then (x, 5)
  else (comeX (x.1, x.2.1, x.2.2.1.set (f.toNat * x.1.length + t.toNat) ((x.2.2.1.getD (f.toNat * x.1.length + t.toNat) []).drop 1), x.2.2.2.1, x.2.2.2.2.1, x.2.2.2.2.2.1, ()) ((x.2.2.1.getD (f.toNat * x.1.length + t.toNat) []).getD 0 0) f.toNat t.toNat, 0)
def cRMove : Ctr := cdet [tXB, tMove] (fun (x : Xb) (_ : Int × Int × Int × Int × Unit) => XbOk x) (fun (x : Xb) (m : Int × Int × Int × Int × Unit) => [⟨tXB, (moveX x m.1 m.2.1 m.2.2.1 m.2.2.2.1).1⟩, ⟨I, (moveX x m.1 m.2.1 m.2.2.1 m.2.2.2.1).2⟩])
def anRMove : Ann := [joinAll, freezeAt 34 [10]]
/-- did all note, and did all marks come? -/
def rowX (x : Xb) (i : Nat) : Nat → Bool
  | 0 => true
  | j + 1 => rowX x i j && (i == j || x.2.2.2.1.getD (i * x.1.length + j) false)
def allX (x : Xb) : Nat → Bool
  | 0 => true
  | i + 1 => allX x i && (x.2.1.getD i 0 != -1 && rowX x i x.1.length)
def cAllX : Ctr := cdet [tXB] (fun (x : Xb) => XbOk x) (fun (x : Xb) => [⟨.bool, allX x x.1.length⟩])
def anAllX (x : Xb) : Ann :=
  [joinAll,
   loopAt 3 Nat [] (fun st i => St.at (St.only st [1, 3]) [(4, .d I (i : Int))]) (fun _ i => i ≤ x.1.length ∧ allX x i = true) (fun i => x.1.length - i),
   loopAt 8 Nat [] (fun st j => St.at (St.only st [1, 3, 4]) [(5, .d I (j : Int))]) (fun st j => j ≤ x.1.length ∧ rowX x (st.i 4).toNat j = true) (fun j => x.1.length - j)]
def newXB (mo : List Int) : Xb := (mo, List.replicate mo.length (-1), List.replicate (mo.length * mo.length) [], List.replicate (mo.length * mo.length) false, List.replicate (mo.length * mo.length) 0, false, ())
def cNewXB : Ctr := cdet [.sl I] (fun _ => True) (fun (mo : List Int) => [⟨tXB, if newE mo = 0 then newXB mo else zXB⟩, ⟨I, newE mo⟩])
def anNewXB (mo : List Int) : Ann :=
  [joinAll, freezeAt 16 [6],
   loopAt 6 Nat [] (fun st i => St.at (St.only st [0, 2]) [(4, .d I (i : Int))]) (fun _ i => i ≤ mo.length ∧ moOk (mo.take i) = true) (fun i => mo.length - i),
   loopAt 13 Nat [(2006, 3, I)] (fun st i => { St.at (St.only st [2, 5, 6]) [(7, .d I (i : Int))] with ob := st.ob.set 2 (.row 3 I (List.replicate i (-1))) }) (fun _ i => i ≤ mo.length ∧ True) (fun i => mo.length - i)]
end Go.Proofs.YtjgdpblaghhfhaaDoor.N

/- What the functions of this seat have to satisfy, by program: each verification condition in plain words. -/
namespace Go.Proofs.YtjgdpblaghhfhaaDoor
open Go.Vc Go.Proofs.YtjgdpblaghhfhaaDoor.N
set_option linter.unusedVariables false
theorem vcIn (a b c : Int) (k : List Dat → Prop) : vcF ⟨Ex, [], glK, [], []⟩ [] (Tryd.f33.body.getD .skip) Tryd.f33.ntmps [(.tmp 6, .bool)] [⟨I, a⟩, ⟨I, b⟩, ⟨I, c⟩] k = (
  (decide (b ≤ a) = true → k [Dat.mk Ty.bool (decide (a ≤ c))]) ∧ (decide (b ≤ a) = false → k [Dat.mk Ty.bool false])) := by kernel_rfl
theorem vcWith (l : List Int) (i v : Int) (k : List Dat → Prop) : vcF ⟨Ex, [], glK, [], []⟩ [] (Tryd.f34.body.getD .skip) Tryd.f34.ntmps [(.tmp 6, .sl I)] [⟨.sl I, l⟩, ⟨I, i⟩, ⟨I, v⟩] k = (
  l.length ≤ (1000000000 : Nat) ∧ (0 : Int) ≤ i ∧ i < (↑l.length : Int) ∧ k [Dat.mk (I).sl (l.set i.toNat v)]) := by kernel_rfl
theorem vcBehind (w : List Int) (n : Int) (k : List Dat → Prop) : vcF ⟨Ex, [], glK, [], []⟩ [] (Tryd.f41.body.getD .skip) Tryd.f41.ntmps [(.tmp 4, .sl I)] [⟨.sl I, w⟩, ⟨I, n⟩] k = (
  w.length ≤ (1000000000 : Nat) ∧ w.length + ((List.replicate (1 : Nat) (0 : Int)).set (0 : Nat) n).length ≤ (1000000000 : Nat) ∧ k [Dat.mk (I).sl (w.append ((List.replicate (1 : Nat) (0 : Int)).set (0 : Nat) n))]) := by kernel_rfl
theorem vcXWay (l : L2) (i : Int) (w : List Int) (k : List Dat → Prop) : vcF ⟨Ex, [], glK, [], []⟩ [] (Tryd.f40.body.getD .skip) Tryd.f40.ntmps [(.tmp 6, .sl (.sl I))] [⟨.sl (.sl I), l⟩, ⟨I, i⟩, ⟨.sl I, w⟩] k = (
  (0 : Int) ≤ (0 : Int) ∧ (0 : Int) ≤ i ∧ i ≤ (↑(List.length l) : Int) ∧ (List.drop (Int.toNat (0 : Int)) (List.take i.toNat l)).length ≤ (1000000000 : Nat) ∧ (List.drop (Int.toNat (0 : Int)) (List.take i.toNat l)).length + ((List.replicate (1 : Nat) []).set (0 : Nat) w).length ≤ (1000000000 : Nat) ∧ inK IntKind.i64 (i + (1 : Int)) ∧ (0 : Int) ≤ i + (1 : Int) ∧ i + (1 : Int) ≤ (↑(List.length l) : Int) ∧ (↑(List.length l) : Int) ≤ (↑(List.length l) : Int) ∧ ((List.drop (Int.toNat (0 : Int)) (List.take i.toNat l)).append ((List.replicate (1 : Nat) []).set (0 : Nat) w)).length + (List.drop (i + (1 : Int)).toNat (List.take (↑(List.length l) : Int).toNat l)).length ≤ (1000000000 : Nat) ∧ k [Dat.mk (I).sl.sl (((List.drop (Int.toNat (0 : Int)) (List.take i.toNat l)).append ((List.replicate (1 : Nat) []).set (0 : Nat) w)).append (List.drop (i + (1 : Int)).toNat (List.take (↑(List.length l) : Int).toNat l)))]) := by kernel_rfl
theorem vcRNote (x : Xb) (p : Int) (k : List Dat → Prop) : vcF ⟨Ex, [(34, cWith), (40, cXWay), (41, cBehind)], glK, [], []⟩ (anRNote x p) (Tryd.f39.body.getD .skip) Tryd.f39.ntmps [(.cell 4 58, tXB)] [⟨tXB, x⟩, ⟨I, p⟩] k = (
  ((0 : Int) ≤ p ∧ p < (↑(List.length x.fst) : Int) ∧ ((0 : Int) ≤ p ∧ p < (↑(List.length x.snd.fst) : Int) ∧ List.length x.snd.fst ≤ (1000 : Nat)) ∧ True) ∧ (∃ (x_1 : Nat), (x_1 ≤ x.fst.length ∧ True) ∧ (p = p ∧ ([] : List Nat) = [] ∧ ([] : List Nat) = [] ∧ (↑(List.length x.fst) : Int) = (↑(List.length x.fst) : Int) ∧ (0 : Int) = (↑x_1 : Int) ∧ True) ∧ (((58 : Nat) = (58 : Nat) ∧ (x.fst, List.set x.snd.fst p.toNat (List.getD x.fst p.toNat (0 : Int)), x.snd.snd.fst, x.snd.snd.snd.fst, x.snd.snd.snd.snd.fst, true, x.snd.snd.snd.snd.snd.snd) = (x.fst, x.snd.fst.set p.toNat (x.fst.getD p.toNat (0 : Int)), wnX x.snd.snd.fst p.toNat x.fst.length x_1, x.snd.snd.snd.fst, x.snd.snd.snd.snd.fst, true, ())) ∧ ((58 : Nat) = (58 : Nat) ∧ zXB = zXB) ∧ True) ∧ hdE = hdE ∧ True) ∧ ∀ (x_1 : Nat), x_1 ≤ x.fst.length ∧ True → (decide ((↑x_1 : Int) < (↑(List.length x.fst) : Int)) = true → ((!decide ((↑x_1 : Int) = p)) = true → (inK IntKind.i64 (p * (↑(List.length x.fst) : Int)) ∧ inK IntKind.i64 (p * (↑(List.length x.fst) : Int) + (↑x_1 : Int)) ∧ inK IntKind.i64 (p * (↑(List.length x.fst) : Int)) ∧ inK IntKind.i64 (p * (↑(List.length x.fst) : Int) + (↑x_1 : Int)) ∧ (0 : Int) ≤ p * (↑(List.length x.fst) : Int) + (↑x_1 : Int) ∧ p * (↑(List.length x.fst) : Int) + (↑x_1 : Int) < (↑(List.length (wnX x.snd.snd.fst p.toNat x.fst.length x_1)) : Int) ∧ (List.length (List.getD (wnX x.snd.snd.fst p.toNat x.fst.length x_1) (p * (↑(List.length x.fst) : Int) + (↑x_1 : Int)).toNat ([] : List Int))).le (100000 : Nat) ∧ ((0 : Int) ≤ p * (↑(List.length x.fst) : Int) + (↑x_1 : Int) ∧ p * (↑(List.length x.fst) : Int) + (↑x_1 : Int) < (↑(List.length (wnX x.snd.snd.fst p.toNat x.fst.length x_1)) : Int) ∧ List.length (wnX x.snd.snd.fst p.toNat x.fst.length x_1) ≤ (1000 : Nat)) ∧ True) ∧ inK IntKind.i64 ((↑x_1 : Int) + (1 : Int)) ∧ ∃ (x_2 : Nat), (x_2 ≤ x.fst.length ∧ True) ∧ x.fst.length - x_2 < x.fst.length - x_1 ∧ (p = p ∧ ([] : List Nat) = [] ∧ ([] : List Nat) = [] ∧ (↑(List.length x.fst) : Int) = (↑(List.length x.fst) : Int) ∧ (↑x_1 : Int) + (1 : Int) = (↑x_2 : Int) ∧ True) ∧ (((58 : Nat) = (58 : Nat) ∧ (x.fst, x.snd.fst.set p.toNat (x.fst.getD p.toNat (0 : Int)), List.set (wnX x.snd.snd.fst p.toNat x.fst.length x_1) (p * (↑(List.length x.fst) : Int) + (↑x_1 : Int)).toNat (List.getD (wnX x.snd.snd.fst p.toNat x.fst.length x_1) (p * (↑(List.length x.fst) : Int) + (↑x_1 : Int)).toNat ([] : List Int) ++ [(-1 : Int)]), x.snd.snd.snd.fst, x.snd.snd.snd.snd.fst, true, ()) = (x.fst, x.snd.fst.set p.toNat (x.fst.getD p.toNat (0 : Int)), wnX x.snd.snd.fst p.toNat x.fst.length x_2, x.snd.snd.snd.fst, x.snd.snd.snd.snd.fst, true, ())) ∧ ((58 : Nat) = (58 : Nat) ∧ zXB = zXB) ∧ True) ∧ hdE = hdE ∧ True) ∧ ((!decide ((↑x_1 : Int) = p)) = false → inK IntKind.i64 ((↑x_1 : Int) + (1 : Int)) ∧ ∃ (x_2 : Nat), (x_2 ≤ x.fst.length ∧ True) ∧ x.fst.length - x_2 < x.fst.length - x_1 ∧ (p = p ∧ ([] : List Nat) = [] ∧ ([] : List Nat) = [] ∧ (↑(List.length x.fst) : Int) = (↑(List.length x.fst) : Int) ∧ (↑x_1 : Int) + (1 : Int) = (↑x_2 : Int) ∧ True) ∧ (((58 : Nat) = (58 : Nat) ∧ (x.fst, x.snd.fst.set p.toNat (x.fst.getD p.toNat (0 : Int)), wnX x.snd.snd.fst p.toNat x.fst.length x_1, x.snd.snd.snd.fst, x.snd.snd.snd.snd.fst, true, ()) = (x.fst, x.snd.fst.set p.toNat (x.fst.getD p.toNat (0 : Int)), wnX x.snd.snd.fst p.toNat x.fst.length x_2, x.snd.snd.snd.fst, x.snd.snd.snd.snd.fst, true, ())) ∧ ((58 : Nat) = (58 : Nat) ∧ zXB = zXB) ∧ True) ∧ hdE = hdE ∧ True)) ∧ (decide ((↑x_1 : Int) < (↑(List.length x.fst) : Int)) = false → k [Dat.mk ((I).sl.pr ((I).sl.pr ((I).sl.sl.pr (Ty.bool.sl.pr ((I).sl.pr (Ty.bool.pr Ty.un)))))) (x.fst, x.snd.fst.set p.toNat (x.fst.getD p.toNat (0 : Int)), wnX x.snd.snd.fst p.toNat x.fst.length x_1, x.snd.snd.snd.fst, x.snd.snd.snd.snd.fst, true, ())])) := by kernel_rfl
theorem vcRMove (x : Xb) (m : Int × Int × Int × Int × Unit) (k : List Dat → Prop) : vcF ⟨Ex, [(33, cWithin), (34, cWith), (40, cXWay), (41, cBehind), (39, cRNote)], glK, [], []⟩ anRMove (Tryd.f23.body.getD .skip) Tryd.f23.ntmps [(.cell 4 58, tXB), (.tmp 5, I)] [⟨tXB, x⟩, ⟨tMove, m⟩] k = (
  True ∧ ((!inB m.fst (0 : Int) (2 : Int)) = true → k [Dat.mk ((I).sl.pr ((I).sl.pr ((I).sl.sl.pr (Ty.bool.sl.pr ((I).sl.pr (Ty.bool.pr Ty.un)))))) x, Dat.mk (I) (1 : Int)]) ∧ ((!inB m.fst (0 : Int) (2 : Int)) = false → inK IntKind.i64 ((↑(List.length x.fst) : Int) - (1 : Int)) ∧ True ∧ ((!inB m.snd.fst (0 : Int) ((↑(List.length x.fst) : Int) - (1 : Int))) = true → k [Dat.mk ((I).sl.pr ((I).sl.pr ((I).sl.sl.pr (Ty.bool.sl.pr ((I).sl.pr (Ty.bool.pr Ty.un)))))) x, Dat.mk (I) (1 : Int)]) ∧ ((!inB m.snd.fst (0 : Int) ((↑(List.length x.fst) : Int) - (1 : Int))) = false → (decide (m.fst = (2 : Int)) = true → (x.snd.snd.snd.snd.snd.fst = true → k [Dat.mk ((I).sl.pr ((I).sl.pr ((I).sl.sl.pr (Ty.bool.sl.pr ((I).sl.pr (Ty.bool.pr Ty.un)))))) x, Dat.mk (I) (7 : Int)]) ∧ (x.snd.snd.snd.snd.snd.fst = false → (XbOk x ∧ (0 : Int) ≤ m.snd.fst ∧ m.snd.fst < (↑x.fst.length : Int)) ∧ k [Dat.mk ((I).sl.pr ((I).sl.pr ((I).sl.sl.pr (Ty.bool.sl.pr ((I).sl.pr (Ty.bool.pr Ty.un)))))) (noteX x (Int.toNat m.snd.fst)), Dat.mk (I) (0 : Int)])) ∧ (decide (m.fst = (2 : Int)) = false → inK IntKind.i64 ((↑(List.length x.fst) : Int) - (1 : Int)) ∧ True ∧ ((!inB m.snd.snd.fst (0 : Int) ((↑(List.length x.fst) : Int) - (1 : Int))) = true → k [Dat.mk ((I).sl.pr ((I).sl.pr ((I).sl.sl.pr (Ty.bool.sl.pr ((I).sl.pr (Ty.bool.pr Ty.un)))))) x, Dat.mk (I) (1 : Int)]) ∧ ((!inB m.snd.snd.fst (0 : Int) ((↑(List.length x.fst) : Int) - (1 : Int))) = false → (decide (m.snd.fst = m.snd.snd.fst) = true → k [Dat.mk ((I).sl.pr ((I).sl.pr ((I).sl.sl.pr (Ty.bool.sl.pr ((I).sl.pr (Ty.bool.pr Ty.un)))))) x, Dat.mk (I) (6 : Int)]) ∧ (decide (m.snd.fst = m.snd.snd.fst) = false → inK IntKind.i64 (m.snd.fst * (↑(List.length x.fst) : Int)) ∧ inK IntKind.i64 (m.snd.fst * (↑(List.length x.fst) : Int) + m.snd.snd.fst) ∧ (0 : Int) ≤ m.snd.fst * (↑(List.length x.fst) : Int) + m.snd.snd.fst ∧ m.snd.fst * (↑(List.length x.fst) : Int) + m.snd.snd.fst < (↑(List.length x.snd.snd.fst) : Int) ∧ (decide (m.fst = (0 : Int)) = true → True ∧ ((!inB m.snd.snd.snd.fst (0 : Int) (1000 : Int)) = true → k [Dat.mk ((I).sl.pr ((I).sl.pr ((I).sl.sl.pr (Ty.bool.sl.pr ((I).sl.pr (Ty.bool.pr Ty.un)))))) x, Dat.mk (I) (1 : Int)]) ∧ ((!inB m.snd.snd.snd.fst (0 : Int) (1000 : Int)) = false → ((0 : Int) ≤ m.snd.fst ∧ m.snd.fst < (↑(List.length x.fst) : Int) ∧ True) ∧ (decide (List.getD x.fst (Int.toNat m.snd.fst) (0 : Int) < m.snd.snd.snd.fst) = true → k [Dat.mk ((I).sl.pr ((I).sl.pr ((I).sl.sl.pr (Ty.bool.sl.pr ((I).sl.pr (Ty.bool.pr Ty.un)))))) x, Dat.mk (I) (5 : Int)]) ∧ (decide (List.getD x.fst (Int.toNat m.snd.fst) (0 : Int) < m.snd.snd.snd.fst) = false → (decide ((8 : Int) ≤ (↑(List.getD x.snd.snd.fst (m.snd.fst * (↑(List.length x.fst) : Int) + m.snd.snd.fst).toNat ([] : List Int)).length : Int)) = true → k [Dat.mk ((I).sl.pr ((I).sl.pr ((I).sl.sl.pr (Ty.bool.sl.pr ((I).sl.pr (Ty.bool.pr Ty.un)))))) x, Dat.mk (I) (4 : Int)]) ∧ (decide ((8 : Int) ≤ (↑(List.getD x.snd.snd.fst (m.snd.fst * (↑(List.length x.fst) : Int) + m.snd.snd.fst).toNat ([] : List Int)).length : Int)) = false → ((0 : Int) ≤ m.snd.fst ∧ m.snd.fst < (↑(List.length x.fst) : Int) ∧ inK IntKind.i64 (List.getD x.fst (Int.toNat m.snd.fst) (0 : Int) - m.snd.snd.snd.fst) ∧ ((0 : Int) ≤ m.snd.fst ∧ m.snd.fst < (↑(List.length x.fst) : Int) ∧ List.length x.fst ≤ (1000 : Nat)) ∧ True) ∧ ((List.length (List.getD x.snd.snd.fst (m.snd.fst * (↑(List.length x.fst) : Int) + m.snd.snd.fst).toNat ([] : List Int))).le (100000 : Nat) ∧ ((0 : Int) ≤ m.snd.fst * (↑(List.length x.fst) : Int) + m.snd.snd.fst ∧ m.snd.fst * (↑(List.length x.fst) : Int) + m.snd.snd.fst < (↑(List.length x.snd.snd.fst) : Int) ∧ List.length x.snd.snd.fst ≤ (1000 : Nat)) ∧ True) ∧ k [Dat.mk ((I).sl.pr ((I).sl.pr ((I).sl.sl.pr (Ty.bool.sl.pr ((I).sl.pr (Ty.bool.pr Ty.un)))))) (List.set x.fst (Int.toNat m.snd.fst) (List.getD x.fst (Int.toNat m.snd.fst) (0 : Int) - m.snd.snd.snd.fst), x.snd.fst, List.set x.snd.snd.fst (m.snd.fst * (↑(List.length x.fst) : Int) + m.snd.snd.fst).toNat (List.getD x.snd.snd.fst (m.snd.fst * (↑(List.length x.fst) : Int) + m.snd.snd.fst).toNat ([] : List Int) ++ [m.snd.snd.snd.fst]), x.snd.snd.snd), Dat.mk (I) (0 : Int)])))) ∧ (decide (m.fst = (0 : Int)) = false → (decide ((↑(List.getD x.snd.snd.fst (m.snd.fst * (↑(List.length x.fst) : Int) + m.snd.snd.fst).toNat ([] : List Int)).length : Int) = (0 : Int)) = true → k [Dat.mk ((I).sl.pr ((I).sl.pr ((I).sl.sl.pr (Ty.bool.sl.pr ((I).sl.pr (Ty.bool.pr Ty.un)))))) x, Dat.mk (I) (5 : Int)]) ∧ (decide ((↑(List.getD x.snd.snd.fst (m.snd.fst * (↑(List.length x.fst) : Int) + m.snd.snd.fst).toNat ([] : List Int)).length : Int) = (0 : Int)) = false → ((0 : Int) ≤ (1 : Int) ∧ (1 : Int) ≤ (↑(List.getD x.snd.snd.fst (m.snd.fst * (↑(List.length x.fst) : Int) + m.snd.snd.fst).toNat ([] : List Int)).length : Int) ∧ (↑(List.getD x.snd.snd.fst (m.snd.fst * (↑(List.length x.fst) : Int) + m.snd.snd.fst).toNat ([] : List Int)).length : Int) ≤ (↑(List.getD x.snd.snd.fst (m.snd.fst * (↑(List.length x.fst) : Int) + m.snd.snd.fst).toNat ([] : List Int)).length : Int) ∧ ((0 : Int) ≤ m.snd.fst * (↑(List.length x.fst) : Int) + m.snd.snd.fst ∧ m.snd.fst * (↑(List.length x.fst) : Int) + m.snd.snd.fst < (↑(List.length x.snd.snd.fst) : Int) ∧ List.length x.snd.snd.fst ≤ (1000 : Nat)) ∧ True) ∧ inK IntKind.i64 (m.snd.snd.fst * (↑(List.length x.fst) : Int)) ∧ inK IntKind.i64 (m.snd.snd.fst * (↑(List.length x.fst) : Int) + m.snd.fst) ∧ (0 : Int) ≤ (0 : Int) ∧ (0 : Int) < (↑(List.getD x.snd.snd.fst (m.snd.fst * (↑(List.length x.fst) : Int) + m.snd.snd.fst).toNat ([] : List Int)).length : Int) ∧ (decide ((List.getD x.snd.snd.fst (m.snd.fst * (↑(List.length x.fst) : Int) + m.snd.snd.fst).toNat ([] : List Int)).getD (Int.toNat (0 : Int)) (0 : Int) = (-1 : Int)) = true → (0 : Int) ≤ m.snd.snd.fst ∧ m.snd.snd.fst < (↑(List.length x.snd.fst) : Int) ∧ (decide (List.getD x.snd.fst (Int.toNat m.snd.snd.fst) (0 : Int) = (-1 : Int)) = true → (XbOk (x.fst, x.snd.fst, List.set x.snd.snd.fst (m.snd.fst * (↑(List.length x.fst) : Int) + m.snd.snd.fst).toNat (List.drop (Int.toNat (1 : Int)) (List.take (↑(List.getD x.snd.snd.fst (m.snd.fst * (↑(List.length x.fst) : Int) + m.snd.snd.fst).toNat ([] : List Int)).length : Int).toNat (List.getD x.snd.snd.fst (m.snd.fst * (↑(List.length x.fst) : Int) + m.snd.snd.fst).toNat ([] : List Int)))), x.snd.snd.snd) ∧ (0 : Int) ≤ m.snd.snd.fst ∧ m.snd.snd.fst < (↑(List.length x.fst) : Int)) ∧ x.snd.snd.snd.fst.length ≤ (1000000000 : Nat) ∧ (0 : Int) ≤ m.snd.snd.fst * (↑(List.length x.fst) : Int) + m.snd.fst ∧ m.snd.snd.fst * (↑(List.length x.fst) : Int) + m.snd.fst < (↑x.snd.snd.snd.fst.length : Int) ∧ k [Dat.mk ((I).sl.pr ((I).sl.pr ((I).sl.sl.pr (Ty.bool.sl.pr ((I).sl.pr (Ty.bool.pr Ty.un)))))) (x.fst, List.set x.snd.fst (Int.toNat m.snd.snd.fst) (List.getD x.fst (Int.toNat m.snd.snd.fst) (0 : Int)), wnX (List.set x.snd.snd.fst (m.snd.fst * (↑(List.length x.fst) : Int) + m.snd.snd.fst).toNat (List.drop (Int.toNat (1 : Int)) (List.take (↑(List.getD x.snd.snd.fst (m.snd.fst * (↑(List.length x.fst) : Int) + m.snd.snd.fst).toNat ([] : List Int)).length : Int).toNat (List.getD x.snd.snd.fst (m.snd.fst * (↑(List.length x.fst) : Int) + m.snd.snd.fst).toNat ([] : List Int))))) (Int.toNat m.snd.snd.fst) (List.length x.fst) (List.length x.fst), x.snd.snd.snd.fst.set (m.snd.snd.fst * (↑(List.length x.fst) : Int) + m.snd.fst).toNat true, x.snd.snd.snd.snd.fst, true, ()), Dat.mk (I) (0 : Int)]) ∧ (decide (List.getD x.snd.fst (Int.toNat m.snd.snd.fst) (0 : Int) = (-1 : Int)) = false → List.length x.snd.snd.snd.fst ≤ (1000000000 : Nat) ∧ (0 : Int) ≤ m.snd.snd.fst * (↑(List.length x.fst) : Int) + m.snd.fst ∧ m.snd.snd.fst * (↑(List.length x.fst) : Int) + m.snd.fst < (↑(List.length x.snd.snd.snd.fst) : Int) ∧ k [Dat.mk ((I).sl.pr ((I).sl.pr ((I).sl.sl.pr (Ty.bool.sl.pr ((I).sl.pr (Ty.bool.pr Ty.un)))))) (x.fst, x.snd.fst, List.set x.snd.snd.fst (m.snd.fst * (↑(List.length x.fst) : Int) + m.snd.snd.fst).toNat (List.drop (Int.toNat (1 : Int)) (List.take (↑(List.getD x.snd.snd.fst (m.snd.fst * (↑(List.length x.fst) : Int) + m.snd.snd.fst).toNat ([] : List Int)).length : Int).toNat (List.getD x.snd.snd.fst (m.snd.fst * (↑(List.length x.fst) : Int) + m.snd.snd.fst).toNat ([] : List Int)))), List.set x.snd.snd.snd.fst (m.snd.snd.fst * (↑(List.length x.fst) : Int) + m.snd.fst).toNat true, x.snd.snd.snd.snd), Dat.mk (I) (0 : Int)])) ∧ (decide ((List.getD x.snd.snd.fst (m.snd.fst * (↑(List.length x.fst) : Int) + m.snd.snd.fst).toNat ([] : List Int)).getD (Int.toNat (0 : Int)) (0 : Int) = (-1 : Int)) = false → ((0 : Int) ≤ m.snd.snd.fst ∧ m.snd.snd.fst < (↑(List.length x.fst) : Int) ∧ (0 : Int) ≤ (0 : Int) ∧ (0 : Int) < (↑(List.getD x.snd.snd.fst (m.snd.fst * (↑(List.length x.fst) : Int) + m.snd.snd.fst).toNat ([] : List Int)).length : Int) ∧ inK IntKind.i64 (List.getD x.fst (Int.toNat m.snd.snd.fst) (0 : Int) + (List.getD x.snd.snd.fst (m.snd.fst * (↑(List.length x.fst) : Int) + m.snd.snd.fst).toNat ([] : List Int)).getD (Int.toNat (0 : Int)) (0 : Int)) ∧ ((0 : Int) ≤ m.snd.snd.fst ∧ m.snd.snd.fst < (↑(List.length x.fst) : Int) ∧ List.length x.fst ≤ (1000 : Nat)) ∧ True) ∧ (0 : Int) ≤ m.snd.snd.fst ∧ m.snd.snd.fst < (↑(List.length x.snd.fst) : Int) ∧ (decide ((0 : Int) ≤ List.getD x.snd.fst (Int.toNat m.snd.snd.fst) (0 : Int)) = true → (0 : Int) ≤ m.snd.snd.fst * (↑(List.length x.fst) : Int) + m.snd.fst ∧ m.snd.snd.fst * (↑(List.length x.fst) : Int) + m.snd.fst < (↑(List.length x.snd.snd.snd.fst) : Int) ∧ ((!List.getD x.snd.snd.snd.fst (m.snd.snd.fst * (↑(List.length x.fst) : Int) + m.snd.fst).toNat false) = true → ((0 : Int) ≤ m.snd.snd.fst * (↑(List.length x.fst) : Int) + m.snd.fst ∧ m.snd.snd.fst * (↑(List.length x.fst) : Int) + m.snd.fst < (↑(List.length x.snd.snd.snd.snd.fst) : Int) ∧ (0 : Int) ≤ (0 : Int) ∧ (0 : Int) < (↑(List.getD x.snd.snd.fst (m.snd.fst * (↑(List.length x.fst) : Int) + m.snd.snd.fst).toNat ([] : List Int)).length : Int) ∧ inK IntKind.i64 (List.getD x.snd.snd.snd.snd.fst (m.snd.snd.fst * (↑(List.length x.fst) : Int) + m.snd.fst).toNat (0 : Int) + (List.getD x.snd.snd.fst (m.snd.fst * (↑(List.length x.fst) : Int) + m.snd.snd.fst).toNat ([] : List Int)).getD (Int.toNat (0 : Int)) (0 : Int)) ∧ ((0 : Int) ≤ m.snd.snd.fst * (↑(List.length x.fst) : Int) + m.snd.fst ∧ m.snd.snd.fst * (↑(List.length x.fst) : Int) + m.snd.fst < (↑(List.length x.snd.snd.snd.snd.fst) : Int) ∧ List.length x.snd.snd.snd.snd.fst ≤ (1000 : Nat)) ∧ True) ∧ k [Dat.mk ((I).sl.pr ((I).sl.pr ((I).sl.sl.pr (Ty.bool.sl.pr ((I).sl.pr (Ty.bool.pr Ty.un)))))) (List.set x.fst (Int.toNat m.snd.snd.fst) (List.getD x.fst (Int.toNat m.snd.snd.fst) (0 : Int) + (List.getD x.snd.snd.fst (m.snd.fst * (↑(List.length x.fst) : Int) + m.snd.snd.fst).toNat ([] : List Int)).getD (Int.toNat (0 : Int)) (0 : Int)), x.snd.fst, List.set x.snd.snd.fst (m.snd.fst * (↑(List.length x.fst) : Int) + m.snd.snd.fst).toNat (List.drop (Int.toNat (1 : Int)) (List.take (↑(List.getD x.snd.snd.fst (m.snd.fst * (↑(List.length x.fst) : Int) + m.snd.snd.fst).toNat ([] : List Int)).length : Int).toNat (List.getD x.snd.snd.fst (m.snd.fst * (↑(List.length x.fst) : Int) + m.snd.snd.fst).toNat ([] : List Int)))), x.snd.snd.snd.fst, List.set x.snd.snd.snd.snd.fst (m.snd.snd.fst * (↑(List.length x.fst) : Int) + m.snd.fst).toNat (List.getD x.snd.snd.snd.snd.fst (m.snd.snd.fst * (↑(List.length x.fst) : Int) + m.snd.fst).toNat (0 : Int) + (List.getD x.snd.snd.fst (m.snd.fst * (↑(List.length x.fst) : Int) + m.snd.snd.fst).toNat ([] : List Int)).getD (Int.toNat (0 : Int)) (0 : Int)), x.snd.snd.snd.snd.snd), Dat.mk (I) (0 : Int)]) ∧ ((!List.getD x.snd.snd.snd.fst (m.snd.snd.fst * (↑(List.length x.fst) : Int) + m.snd.fst).toNat false) = false → k [Dat.mk ((I).sl.pr ((I).sl.pr ((I).sl.sl.pr (Ty.bool.sl.pr ((I).sl.pr (Ty.bool.pr Ty.un)))))) (List.set x.fst (Int.toNat m.snd.snd.fst) (List.getD x.fst (Int.toNat m.snd.snd.fst) (0 : Int) + (List.getD x.snd.snd.fst (m.snd.fst * (↑(List.length x.fst) : Int) + m.snd.snd.fst).toNat ([] : List Int)).getD (Int.toNat (0 : Int)) (0 : Int)), x.snd.fst, List.set x.snd.snd.fst (m.snd.fst * (↑(List.length x.fst) : Int) + m.snd.snd.fst).toNat (List.drop (Int.toNat (1 : Int)) (List.take (↑(List.getD x.snd.snd.fst (m.snd.fst * (↑(List.length x.fst) : Int) + m.snd.snd.fst).toNat ([] : List Int)).length : Int).toNat (List.getD x.snd.snd.fst (m.snd.fst * (↑(List.length x.fst) : Int) + m.snd.snd.fst).toNat ([] : List Int)))), x.snd.snd.snd), Dat.mk (I) (0 : Int)])) ∧ (decide ((0 : Int) ≤ List.getD x.snd.fst (Int.toNat m.snd.snd.fst) (0 : Int)) = false → k [Dat.mk ((I).sl.pr ((I).sl.pr ((I).sl.sl.pr (Ty.bool.sl.pr ((I).sl.pr (Ty.bool.pr Ty.un)))))) (List.set x.fst (Int.toNat m.snd.snd.fst) (List.getD x.fst (Int.toNat m.snd.snd.fst) (0 : Int) + (List.getD x.snd.snd.fst (m.snd.fst * (↑(List.length x.fst) : Int) + m.snd.snd.fst).toNat ([] : List Int)).getD (Int.toNat (0 : Int)) (0 : Int)), x.snd.fst, List.set x.snd.snd.fst (m.snd.fst * (↑(List.length x.fst) : Int) + m.snd.snd.fst).toNat (List.drop (Int.toNat (1 : Int)) (List.take (↑(List.getD x.snd.snd.fst (m.snd.fst * (↑(List.length x.fst) : Int) + m.snd.snd.fst).toNat ([] : List Int)).length : Int).toNat (List.getD x.snd.snd.fst (m.snd.fst * (↑(List.length x.fst) : Int) + m.snd.snd.fst).toNat ([] : List Int)))), x.snd.snd.snd), Dat.mk (I) (0 : Int)])))))))))) := by kernel_rfl
theorem vcAllX (x : Xb) (k : List Dat → Prop) : vcF ⟨Ex, [], glK, [], []⟩ (anAllX x) (Tryd.f28.body.getD .skip) Tryd.f28.ntmps [(.tmp 2, .bool)] [⟨tXB, x⟩] k = (
  (∃ (x_1 : Nat), (x_1 ≤ x.fst.length ∧ allX x x_1 = true) ∧ (([] : List Nat) = [] ∧ (↑(List.length x.fst) : Int) = (↑(List.length x.fst) : Int) ∧ (0 : Int) = (↑x_1 : Int) ∧ True) ∧ (((58 : Nat) = (58 : Nat) ∧ x = x) ∧ True) ∧ hdE = hdE ∧ True) ∧ ∀ (x_1 : Nat), x_1 ≤ x.fst.length ∧ allX x x_1 = true → (decide ((↑x_1 : Int) < (↑(List.length x.fst) : Int)) = true → (0 : Int) ≤ (↑x_1 : Int) ∧ (↑x_1 : Int) < (↑(List.length x.snd.fst) : Int) ∧ (decide (List.getD x.snd.fst (↑x_1 : Int).toNat (0 : Int) = (-1 : Int)) = true → k [Dat.mk Ty.bool false]) ∧ (decide (List.getD x.snd.fst (↑x_1 : Int).toNat (0 : Int) = (-1 : Int)) = false → (∃ (x_2 : Nat), (x_2 ≤ x.fst.length ∧ rowX x (↑x_1 : Int).toNat x_2 = true) ∧ (([] : List Nat) = [] ∧ (↑(List.length x.fst) : Int) = (↑(List.length x.fst) : Int) ∧ (↑x_1 : Int) = (↑x_1 : Int) ∧ (0 : Int) = (↑x_2 : Int) ∧ True) ∧ (((58 : Nat) = (58 : Nat) ∧ x = x) ∧ True) ∧ hdE = hdE ∧ True) ∧ ∀ (x_2 : Nat), x_2 ≤ x.fst.length ∧ rowX x (↑x_1 : Int).toNat x_2 = true → (decide ((↑x_2 : Int) < (↑(List.length x.fst) : Int)) = true → ((!decide ((↑x_1 : Int) = (↑x_2 : Int))) = true → inK IntKind.i64 ((↑x_1 : Int) * (↑(List.length x.fst) : Int)) ∧ inK IntKind.i64 ((↑x_1 : Int) * (↑(List.length x.fst) : Int) + (↑x_2 : Int)) ∧ (0 : Int) ≤ (↑x_1 : Int) * (↑(List.length x.fst) : Int) + (↑x_2 : Int) ∧ (↑x_1 : Int) * (↑(List.length x.fst) : Int) + (↑x_2 : Int) < (↑(List.length x.snd.snd.snd.fst) : Int) ∧ ((!List.getD x.snd.snd.snd.fst ((↑x_1 : Int) * (↑(List.length x.fst) : Int) + (↑x_2 : Int)).toNat false) = true → k [Dat.mk Ty.bool false]) ∧ ((!List.getD x.snd.snd.snd.fst ((↑x_1 : Int) * (↑(List.length x.fst) : Int) + (↑x_2 : Int)).toNat false) = false → inK IntKind.i64 ((↑x_2 : Int) + (1 : Int)) ∧ ∃ (x_3 : Nat), (x_3 ≤ x.fst.length ∧ rowX x (↑x_1 : Int).toNat x_3 = true) ∧ x.fst.length - x_3 < x.fst.length - x_2 ∧ (([] : List Nat) = [] ∧ (↑(List.length x.fst) : Int) = (↑(List.length x.fst) : Int) ∧ (↑x_1 : Int) = (↑x_1 : Int) ∧ (↑x_2 : Int) + (1 : Int) = (↑x_3 : Int) ∧ True) ∧ (((58 : Nat) = (58 : Nat) ∧ x = x) ∧ True) ∧ hdE = hdE ∧ True)) ∧ ((!decide ((↑x_1 : Int) = (↑x_2 : Int))) = false → inK IntKind.i64 ((↑x_2 : Int) + (1 : Int)) ∧ ∃ (x_3 : Nat), (x_3 ≤ x.fst.length ∧ rowX x (↑x_1 : Int).toNat x_3 = true) ∧ x.fst.length - x_3 < x.fst.length - x_2 ∧ (([] : List Nat) = [] ∧ (↑(List.length x.fst) : Int) = (↑(List.length x.fst) : Int) ∧ (↑x_1 : Int) = (↑x_1 : Int) ∧ (↑x_2 : Int) + (1 : Int) = (↑x_3 : Int) ∧ True) ∧ (((58 : Nat) = (58 : Nat) ∧ x = x) ∧ True) ∧ hdE = hdE ∧ True)) ∧ (decide ((↑x_2 : Int) < (↑(List.length x.fst) : Int)) = false → inK IntKind.i64 ((↑x_1 : Int) + (1 : Int)) ∧ ∃ (x_3 : Nat), (x_3 ≤ x.fst.length ∧ allX x x_3 = true) ∧ x.fst.length - x_3 < x.fst.length - x_1 ∧ (([] : List Nat) = [] ∧ (↑(List.length x.fst) : Int) = (↑(List.length x.fst) : Int) ∧ (↑x_1 : Int) + (1 : Int) = (↑x_3 : Int) ∧ True) ∧ (((58 : Nat) = (58 : Nat) ∧ x = x) ∧ True) ∧ hdE = hdE ∧ True))) ∧ (decide ((↑x_1 : Int) < (↑(List.length x.fst) : Int)) = false → k [Dat.mk Ty.bool true])) := by kernel_rfl
end Go.Proofs.YtjgdpblaghhfhaaDoor

/- Banks: the reference's functions answer what their contracts say. -/
namespace Go.Proofs.YtjgdpblaghhfhaaDoor.N
open Go.Vc
theorem okIn : PlainOk Tryd.prog glK 33 cWithin := by
  refine plain_of (CxOk.mk' Ex_ok rfl mixed (gl := glK) GOk.nil GoOk.nil noIt) Tryd.func33 (c := Tryd.f33.body.getD .skip) (rvs := [(.tmp 6, .bool)]) (by kernel_rfl) (by kernel_rfl) (by kernel_rfl) ?_
  intro ds k ⟨hp, hk⟩ hwf
  obtain ⟨a, b, c, rfl, -⟩ := dest3 hp
  have hk : k [⟨.bool, inB a b c⟩] := hk
  refine ⟨[], ?_⟩
  rw [vcIn]
  unfold inB at hk
  refine ⟨fun h => ?_, fun h => ?_⟩
  · rw [h] at hk; exact hk
  · rw [h] at hk; exact hk
theorem okWith : PlainOk Tryd.prog glK 34 cWith := by
  refine plain_of (CxOk.mk' Ex_ok rfl mixed (gl := glK) GOk.nil GoOk.nil noIt) Tryd.func34 (c := Tryd.f34.body.getD .skip) (rvs := [(.tmp 6, .sl I)]) (by kernel_rfl) (by kernel_rfl) (by kernel_rfl) ?_
  intro ds k ⟨hp, hk⟩ hwf
  obtain ⟨l, i, v, rfl, h0, h1, hl⟩ := dest3 hp
  refine ⟨[], ?_⟩
  rw [vcWith]
  exact ⟨by omega, h0, h1, hk⟩
theorem okBehind : PlainOk Tryd.prog glK 41 cBehind := by
  refine plain_of (CxOk.mk' Ex_ok rfl mixed (gl := glK) GOk.nil GoOk.nil noIt) Tryd.func41 (c := Tryd.f41.body.getD .skip) (rvs := [(.tmp 4, .sl I)]) (by kernel_rfl) (by kernel_rfl) (by kernel_rfl) ?_
  intro ds k ⟨hp, hk⟩ hwf
  obtain ⟨w, n, rfl, h1⟩ := dest2 hp
  refine ⟨[], ?_⟩
  rw [vcBehind]
  refine ⟨by omega, ?_, hk⟩
  show w.length + 1 ≤ 1000000000
  omega
theorem set_app {α : Type} {l : List α} {i : Nat} (v : α) (h : i < l.length) : l.take i ++ [v] ++ l.drop (i + 1) = l.set i v := by
  rw [List.set_eq_take_append_cons_drop, if_pos h, List.append_assoc]; rfl
theorem okXWay : PlainOk Tryd.prog glK 40 cXWay := by
  refine plain_of (CxOk.mk' Ex_ok rfl mixed (gl := glK) GOk.nil GoOk.nil noIt) Tryd.func40 (c := Tryd.f40.body.getD .skip) (rvs := [(.tmp 6, .sl (.sl I))]) (by kernel_rfl) (by kernel_rfl) (by kernel_rfl) ?_
  intro ds k ⟨hp, hk⟩ hwf
  obtain ⟨l, i, w, rfl, h0, h1, hl⟩ := dest3 hp
  have hk : k [⟨.sl (.sl I), List.set l i.toNat w⟩] := hk
  refine ⟨[], ?_⟩
  rw [vcXWay]
  have e1 : List.take ((List.length l : Nat) : Int).toNat l = l := List.take_length
  have l1 : (List.drop (Int.toNat 0) (List.take i.toNat l)).length ≤ 1000 := by
    show (List.take i.toNat l).length ≤ 1000
    rw [List.length_take]; omega
  have l2 : (List.drop (i + 1).toNat (List.take ((List.length l : Nat) : Int).toNat l)).length ≤ 1000 := by
    rw [e1, List.length_drop]; omega
  refine ⟨Int.le_refl 0, h0, by omega, by omega, ?_, inK_i64.2 (by omega), by omega, by omega, Int.le_refl _, ?_, ?_⟩
  · show _ + 1 ≤ 1000000000
    omega
  · show (List.drop (Int.toNat 0) (List.take i.toNat l) ++ [w]).length + _ ≤ 1000000000
    rw [List.length_append]
    show _ + 1 + _ ≤ 1000000000
    omega
  · rw [e1]
    have e2 : (i + 1).toNat = i.toNat + 1 := by omega
    rw [e2]
    have e3 := set_app (l := l) (i := i.toNat) w (by omega)
    rw [← e3] at hk
    exact hk
end Go.Proofs.YtjgdpblaghhfhaaDoor.N

/- Banks: the reference notes; has it all noted? -/
namespace Go.Proofs.YtjgdpblaghhfhaaDoor.N
open Go.Vc
theorem ix {p n m : Nat} (hp : p < n) (hm : m < n) : p * n + m < n * n := by
  have h1 : (p + 1) * n ≤ n * n := Nat.mul_le_mul_right n hp
  rw [Nat.add_mul, Nat.one_mul] at h1
  omega
theorem ixI (p n m : Nat) : ((p : Int) * (n : Int) + (m : Int)) = ((p * n + m : Nat) : Int) := by
  rw [Int.natCast_add, Int.natCast_mul]
theorem nn25 {n : Nat} (h : n ≤ 5) : n * n ≤ 25 := Nat.mul_le_mul h h
theorem getD_setA {α : Type} (l : List α) (i j : Nat) (v d : α) (hi : i < l.length) : (l.set i v).getD j d = if i = j then v else l.getD j d := by
  rw [List.getD_eq_getElem?_getD, List.getElem?_set]
  split
  · next h => subst h; rfl
  · rw [← List.getD_eq_getElem?_getD]
theorem rowX_iff {x : Xb} {i : Nat} : ∀ {m : Nat}, rowX x i m = true ↔ ∀ j, j < m → i = j ∨ x.2.2.2.1.getD (i * x.1.length + j) false = true
  | 0 => by simp [rowX]
  | m + 1 => by
    have ih := rowX_iff (x := x) (i := i) (m := m)
    unfold rowX
    rw [Bool.and_eq_true, ih, Bool.or_eq_true, beq_iff_eq]
    constructor
    · intro ⟨h1, h2⟩ j hj
      by_cases e : j = m
      · subst e; exact h2
      · exact h1 j (by omega)
    · intro h
      exact ⟨fun j hj => h j (by omega), h m (by omega)⟩
theorem allX_iff {x : Xb} : ∀ {m : Nat}, allX x m = true ↔ ∀ i, i < m → x.2.1.getD i 0 ≠ -1 ∧ rowX x i x.1.length = true
  | 0 => by simp [allX]
  | m + 1 => by
    have ih := allX_iff (x := x) (m := m)
    unfold allX
    rw [Bool.and_eq_true, ih, Bool.and_eq_true, bne_iff_ne]
    constructor
    · intro ⟨h1, h2⟩ j hj
      by_cases e : j = m
      · subst e; exact h2
      · exact h1 j (by omega)
    · intro h
      exact ⟨fun j hj => h j (by omega), h m (by omega)⟩
theorem okAllX : PlainOk Tryd.prog glK 28 cAllX := by
  refine plain_of (CxOk.mk' Ex_ok rfl mixed (gl := glK) GOk.nil GoOk.nil noIt) Tryd.func28 (c := Tryd.f28.body.getD .skip) (rvs := [(.tmp 2, .bool)]) (by kernel_rfl) (by kernel_rfl) (by kernel_rfl) ?_
  intro ds k ⟨hp, hk⟩ hwf
  obtain ⟨x, rfl, X⟩ := dest1 hp
  have hk : k [⟨.bool, allX x x.1.length⟩] := hk
  refine ⟨anAllX x, ?_⟩
  rw [vcAllX]
  clear hp hwf
  have n5 := X.n5
  have n25 := nn25 n5
  have hno := X.no
  have hhe := X.he
  have kF : ∀ {i}, i < x.1.length → ¬ (x.2.1.getD i 0 ≠ -1 ∧ rowX x i x.1.length = true) → k [⟨.bool, false⟩] := fun {i} hi hn => by
    have : allX x x.1.length = false := by
      cases h : allX x x.1.length
      · rfl
      · exact absurd (allX_iff.1 h i hi) hn
    rw [this] at hk; exact hk
  refine ⟨⟨0, ⟨Nat.zero_le _, rfl⟩, ⟨rfl, rfl, rfl, trivial⟩, ⟨⟨rfl, rfl⟩, trivial⟩, rfl, trivial⟩, fun i ⟨hi, ha⟩ => ⟨fun h1 => ?_, fun h1 => ?_⟩⟩
  · have h1 := of_decide_eq_true h1
    have hi' : i < x.1.length := by omega
    refine ⟨by omega, by omega, fun h2 => kF hi' fun h => h.1 (of_decide_eq_true h2), fun h2 => ⟨⟨0, ⟨Nat.zero_le _, rfl⟩, ⟨rfl, rfl, rfl, rfl, trivial⟩, ⟨⟨rfl, rfl⟩, trivial⟩, rfl, trivial⟩, fun j ⟨hj, hr⟩ => ⟨fun h3 => ⟨fun h4 => ?_, fun h4 => ?_⟩, fun h3 => ?_⟩⟩⟩
    · have h3 := of_decide_eq_true h3
      have hj' : j < x.1.length := by omega
      have e := ixI i x.1.length j
      have b := ix hi' hj'
      have m0 : (i : Int) * (x.1.length : Int) = ((i * x.1.length : Nat) : Int) := (Int.natCast_mul ..).symm
      have hne : i ≠ j := fun e => by subst e; simp at h4
      refine ⟨inK_i64.2 (by omega), inK_i64.2 (by omega), by omega, by omega, fun h5 => kF hi' fun h => ?_, fun h5 => ⟨inK_i64.2 (by omega), j + 1, ⟨by omega, ?_⟩, by omega, ⟨rfl, rfl, rfl, rfl, trivial⟩, ⟨⟨rfl, rfl⟩, trivial⟩, rfl, trivial⟩⟩
      · rcases rowX_iff.1 h.2 j hj' with h6 | h6
        · exact hne h6
        · rw [e, Int.toNat_natCast, h6] at h5; exact absurd h5 (by decide)
      · refine rowX_iff.2 fun m hm => ?_
        by_cases em : m = j
        · subst em
          right
          rw [e, Int.toNat_natCast] at h5
          simpa using h5
        · exact rowX_iff.1 hr m (by omega)
    · have h3 := of_decide_eq_true h3
      refine ⟨inK_i64.2 (by omega), j + 1, ⟨by omega, ?_⟩, by omega, ⟨rfl, rfl, rfl, rfl, trivial⟩, ⟨⟨rfl, rfl⟩, trivial⟩, rfl, trivial⟩
      refine rowX_iff.2 fun m hm => ?_
      by_cases em : m = j
      · subst em
        left
        simp at h4
        omega
      · exact rowX_iff.1 hr m (by omega)
    · have h3 := of_decide_eq_false h3
      have ej : j = x.1.length := by omega
      subst ej
      have h2 := of_decide_eq_false h2
      refine ⟨inK_i64.2 (by omega), i + 1, ⟨by omega, ?_⟩, by omega, ⟨rfl, rfl, rfl, trivial⟩, ⟨⟨rfl, rfl⟩, trivial⟩, rfl, trivial⟩
      refine allX_iff.2 fun m hm => ?_
      by_cases em : m = i
      · subst em; exact ⟨h2, hr⟩
      · exact allX_iff.1 ha m (by omega)
  · have h1 := of_decide_eq_false h1
    have e : i = x.1.length := by omega
    subst e
    rw [ha] at hk
    exact hk
theorem wnX_len (w : L2) (p n : Nat) : ∀ m, (wnX w p n m).length = w.length
  | 0 => rfl
  | m + 1 => by
    unfold wnX
    split
    · exact wnX_len w p n m
    · rw [List.length_set]; exact wnX_len w p n m
theorem wnX_at (w : L2) {p n : Nat} (hl : w.length = n * n) (hp : p < n) (i j : Nat) (hi : i < n) (hj : j < n) : ∀ m, m ≤ n → (wnX w p n m).getD (i * n + j) [] = if i = p ∧ j < m ∧ j ≠ p then w.getD (i * n + j) [] ++ [-1] else w.getD (i * n + j) []
  | 0, _ => by unfold wnX; rw [if_neg (by omega)]
  | m + 1, hm => by
    have ih := wnX_at w hl hp i j hi hj m (by omega)
    unfold wnX
    by_cases hmp : m = p
    · rw [if_pos hmp, ih]
      by_cases hc : i = p ∧ j < m ∧ j ≠ p
      · rw [if_pos hc, if_pos ⟨hc.1, by omega, hc.2.2⟩]
      · rw [if_neg hc, if_neg (by omega)]
    · rw [if_neg hmp]
      have hlt : p * n + m < (wnX w p n m).length := by rw [wnX_len, hl]; exact ix hp (by omega)
      rw [getD_setA _ _ _ _ _ hlt]
      by_cases hc : p * n + m = i * n + j
      · have hij : p = i ∧ m = j := by
          have hn : 0 < n := by omega
          have d1 : (p * n + m) / n = p := by rw [Nat.mul_comm, Nat.mul_add_div hn, Nat.div_eq_of_lt (by omega)]; omega
          have d2 : (i * n + j) / n = i := by rw [Nat.mul_comm, Nat.mul_add_div hn, Nat.div_eq_of_lt (by omega)]; omega
          rw [hc, d2] at d1
          subst d1
          exact ⟨rfl, by omega⟩
        obtain ⟨rfl, rfl⟩ := hij
        rw [if_pos rfl, ih, if_neg (by omega), if_pos ⟨rfl, by omega, hmp⟩]
      · rw [if_neg hc, ih]
        by_cases hd : i = p ∧ j < m ∧ j ≠ p
        · rw [if_pos hd, if_pos ⟨hd.1, by omega, hd.2.2⟩]
        · rw [if_neg hd, if_neg]
          intro h
          obtain ⟨rfl, h2, h3⟩ := h
          by_cases e : j = m
          · subst e; exact hc rfl
          · exact hd ⟨rfl, by omega, h3⟩
theorem okRNote : PlainOk Tryd.prog glK 39 cRNote := by
  refine plain_of (CxOk.mk' Ex_ok rfl mixed (gl := glK) (GOk.cons okWith Tryd.func34 rfl rfl (GOk.cons okXWay Tryd.func40 rfl rfl (GOk.cons okBehind Tryd.func41 rfl rfl GOk.nil))) GoOk.nil noIt) Tryd.func39 (c := Tryd.f39.body.getD .skip) (rvs := [(.cell 4 58, tXB)]) (by kernel_rfl) (by kernel_rfl) (by kernel_rfl) ?_
  intro ds k ⟨hp, hk⟩ hwf
  obtain ⟨x, p, rfl, X, h0, h1⟩ := dest2 hp
  have hk : k [⟨tXB, noteX x p.toNat⟩] := hk
  refine ⟨anRNote x p, ?_⟩
  rw [vcRNote]
  clear hp hwf
  have n5 := X.n5
  have n25 := nn25 n5
  have hno := X.no
  have hwa := X.wa
  obtain ⟨q, rfl⟩ : ∃ q : Nat, p = (q : Int) := ⟨Int.toNat p, (Int.toNat_of_nonneg h0).symm⟩
  have hq : q < x.1.length := by omega
  have hpn : (q : Int) < (x.2.1.length : Int) := by omega
  have hpl : x.2.1.length ≤ 1000 := by omega
  refine ⟨⟨h0, h1, ⟨h0, hpn, hpl⟩, trivial⟩, ⟨0, ⟨Nat.zero_le _, trivial⟩, ⟨rfl, rfl, rfl, rfl, rfl, trivial⟩, ⟨⟨rfl, rfl⟩, ⟨rfl, rfl⟩, trivial⟩, rfl, trivial⟩, fun m ⟨hm, _⟩ => ⟨fun h2 => ⟨fun h3 => ?_, fun h3 => ?_⟩, fun h2 => ?_⟩⟩
  · have h2 := of_decide_eq_true h2
    have hm' : m < x.1.length := by omega
    have hne : m ≠ q := fun e => by subst e; simp at h3
    have e := ixI q x.1.length m
    have b := ix hq hm'
    have m0 : (q : Int) * (x.1.length : Int) = ((q * x.1.length : Nat) : Int) := (Int.natCast_mul ..).symm
    have wl := wnX_len x.2.2.1 q x.1.length m
    have wv : ((wnX x.2.2.1 q x.1.length m).getD (q * x.1.length + m) []).length ≤ 100000 := by
      rw [wnX_at _ hwa hq q m hq hm' m (by omega), if_neg (by omega)]
      have := X.wk _ b
      omega
    have et : ((q : Int) * (x.1.length : Int) + (m : Int)).toNat = q * x.1.length + m := by rw [e, Int.toNat_natCast]
    refine ⟨⟨inK_i64.2 (by omega), inK_i64.2 (by omega), inK_i64.2 (by omega), inK_i64.2 (by omega), by omega, ?_, ?_, ⟨by omega, ?_, ?_⟩, trivial⟩, inK_i64.2 (by omega), m + 1, ⟨by omega, trivial⟩, by omega, ⟨rfl, rfl, rfl, rfl, rfl, trivial⟩, ⟨⟨rfl, ?_⟩, ⟨rfl, rfl⟩, trivial⟩, rfl, trivial⟩
    · show (q : Int) * (x.1.length : Int) + (m : Int) < ((wnX x.2.2.1 q x.1.length m).length : Int)
      rw [wl]; omega
    · show ((wnX x.2.2.1 q x.1.length m).getD ((q : Int) * (x.1.length : Int) + (m : Int)).toNat []).length ≤ 100000
      rw [et]; exact wv
    · show (q : Int) * (x.1.length : Int) + (m : Int) < ((wnX x.2.2.1 q x.1.length m).length : Int)
      rw [wl]; omega
    · show (wnX x.2.2.1 q x.1.length m).length ≤ 1000
      rw [wl]; omega
    · show (x.1, _, (wnX x.2.2.1 q x.1.length m).set ((q : Int) * (x.1.length : Int) + (m : Int)).toNat ((wnX x.2.2.1 q x.1.length m).getD ((q : Int) * (x.1.length : Int) + (m : Int)).toNat [] ++ [-1]), _, _, _, _) = (x.1, _, wnX x.2.2.1 q x.1.length (m + 1), _, _, _, _)
      rw [et]
      have : wnX x.2.2.1 q x.1.length (m + 1) = (wnX x.2.2.1 q x.1.length m).set (q * x.1.length + m) ((wnX x.2.2.1 q x.1.length m).getD (q * x.1.length + m) [] ++ [-1]) := by
        conv => lhs; unfold wnX
        rw [if_neg hne]
      rw [this]
  · have h2 := of_decide_eq_true h2
    have he : m = q := by simp at h3; omega
    refine ⟨inK_i64.2 (by omega), m + 1, ⟨by omega, trivial⟩, by omega, ⟨rfl, rfl, rfl, rfl, rfl, trivial⟩, ⟨⟨rfl, ?_⟩, ⟨rfl, rfl⟩, trivial⟩, rfl, trivial⟩
    have : wnX x.2.2.1 q x.1.length (m + 1) = wnX x.2.2.1 q x.1.length m := by
      conv => lhs; unfold wnX
      rw [if_pos he]
    show (x.1, _, wnX x.2.2.1 q x.1.length m, _, _, _, _) = (x.1, _, wnX x.2.2.1 q x.1.length (m + 1), _, _, _, _)
    rw [this]
  · have h2 := of_decide_eq_false h2
    have e : m = x.1.length := by omega
    subst e
    exact hk
end Go.Proofs.YtjgdpblaghhfhaaDoor.N

/- Banks: the reference's moves. -/
namespace Go.Proofs.YtjgdpblaghhfhaaDoor.N
open Go.Vc
def payX (x : Xb) (p q : Nat) (s : Int) : Xb := (x.1.set p (x.1.getD p 0 - s), x.2.1, x.2.2.1.set (p * x.1.length + q) (x.2.2.1.getD (p * x.1.length + q) [] ++ [s]), x.2.2.2.1, x.2.2.2.2.1, x.2.2.2.2.2.1, ())
def popX (x : Xb) (p q : Nat) : Xb := (x.1, x.2.1, x.2.2.1.set (p * x.1.length + q) ((x.2.2.1.getD (p * x.1.length + q) []).drop 1), x.2.2.2.1, x.2.2.2.2.1, x.2.2.2.2.2.1, ())
theorem moveX_at {x : Xb} {K s : Int} {p q : Nat} (h1 : inB K 0 2 = true) (hp : p < x.1.length) (hq : q < x.1.length) (h2 : K ≠ 2) (hn : p ≠ q) :
    moveX x K (p : Int) (q : Int) s = if K = 0 then (if inB s 0 1000 = false then (x, 1) else if x.1.getD p 0 < s then (x, 5) else if 8 ≤ (x.2.2.1.getD (p * x.1.length + q) []).length then (x, 4) else (payX x p q s, 0))
      else if (x.2.2.1.getD (p * x.1.length + q) []).length = 0 then (x, 5) else (comeX (popX x p q) ((x.2.2.1.getD (p * x.1.length + q) []).getD 0 0) p q, 0) := by
  have i1 : inB (p : Int) 0 ((x.1.length : Int) - 1) = true := inB_iff.2 (by omega)
  have i2 : inB (q : Int) 0 ((x.1.length : Int) - 1) = true := inB_iff.2 (by omega)
  unfold moveX
  rw [if_neg (by rw [h1, i1]; decide), if_neg h2, if_neg (by rw [i2]; decide), if_neg (by omega)]
  rfl
theorem XbOk.pop {x : Xb} (X : XbOk x) {p q : Nat} (hp : p < x.1.length) (hq : q < x.1.length) : XbOk (popX x p q) := by
  have b := ix hp hq
  have hw := X.wa
  have at' : ∀ m, (popX x p q).2.2.1.getD m [] = if p * x.1.length + q = m then (x.2.2.1.getD (p * x.1.length + q) []).drop 1 else x.2.2.1.getD m [] := fun m => getD_setA _ _ _ _ _ (by omega)
  refine ⟨X.n1, X.n5, X.no, (List.length_set ..).trans X.wa, X.he, X.ca, fun m hm => ?_, X.mb, X.cb, fun m v hm hv => ?_⟩
  · rw [at']
    split
    · rw [List.length_drop]; have := X.wk _ b; omega
    · exact X.wk m hm
  · rw [at'] at hv
    split at hv
    · exact X.vb _ v b (List.mem_of_mem_drop hv)
    · exact X.vb m v hm hv
theorem getD_memA {l : List Int} {i : Nat} (h : i < l.length) (d : Int) : l.getD i d ∈ l := by
  rw [List.getD_eq_getElem?_getD, List.getElem?_eq_getElem h]; exact List.getElem_mem h
theorem rmove_vc (x : Xb) (K f t s : Int) (k : List Dat → Prop) (X : XbOk x) (kk : ∀ y e, moveX x K f t s = (y, e) → k [⟨tXB, y⟩, ⟨I, e⟩]) :
    vcF ⟨Ex, [(33, cWithin), (34, cWith), (40, cXWay), (41, cBehind), (39, cRNote)], glK, [], []⟩ anRMove (Tryd.f23.body.getD .skip) Tryd.f23.ntmps [(.cell 4 58, tXB), (.tmp 5, I)] [⟨tXB, x⟩, ⟨tMove, (K, f, t, s, ())⟩] k := by
  rw [vcRMove]
  dsimp only
  have n5 : x.1.length ≤ 5 := X.n5
  have n25 := nn25 n5
  refine ⟨trivial, fun h => kk _ _ (by unfold moveX; rw [if_pos (.inl (by simpa using h))]), fun h1 => ⟨inK_i64.2 (by omega), trivial, fun h => kk _ _ (by unfold moveX; rw [if_pos (.inr (by simpa using h))]), fun h2 => ?_⟩⟩
  have b1 : inB K 0 2 = true := by simpa using h1
  have b2 : inB f 0 ((x.1.length : Int) - 1) = true := by simpa using h2
  have hf := inB_iff.1 b2
  have hfn : f < (x.1.length : Int) := by omega
  have g0 : ¬ (inB K 0 2 = false ∨ inB f 0 ((x.1.length : Int) - 1) = false) := by rw [b1, b2]; decide
  refine ⟨fun hK => ⟨fun hb => kk _ _ (by unfold moveX; rw [if_neg g0, if_pos (of_decide_eq_true hK), if_pos hb]), fun hb => ⟨⟨X, hf.1, hfn⟩, kk _ _ (by unfold moveX; rw [if_neg g0, if_pos (of_decide_eq_true hK), if_neg (by rw [hb]; decide)])⟩⟩, fun hK => ⟨inK_i64.2 (by omega), trivial, fun h => kk _ _ (by unfold moveX; rw [if_neg g0, if_neg (of_decide_eq_false hK), if_pos (by simpa using h)]), fun h3 => ?_⟩⟩
  have b3 : inB t 0 ((x.1.length : Int) - 1) = true := by simpa using h3
  have ht := inB_iff.1 b3
  have hK2 : K ≠ 2 := of_decide_eq_false hK
  obtain ⟨p, rfl⟩ : ∃ p : Nat, f = (p : Int) := ⟨f.toNat, by omega⟩
  obtain ⟨q, rfl⟩ : ∃ q : Nat, t = (q : Int) := ⟨t.toNat, by omega⟩
  have hp : p < x.1.length := by omega
  have hq : q < x.1.length := by omega
  have e1 := ixI p x.1.length q
  have e2 := ixI q x.1.length p
  have m1 : (p : Int) * (x.1.length : Int) = ((p * x.1.length : Nat) : Int) := (Int.natCast_mul ..).symm
  have m2 : (q : Int) * (x.1.length : Int) = ((q * x.1.length : Nat) : Int) := (Int.natCast_mul ..).symm
  have i1 := ix hp hq
  have i2 := ix hq hp
  refine ⟨fun h => kk _ _ (by unfold moveX; rw [if_neg g0, if_neg hK2, if_neg (by rw [b3]; decide), if_pos (of_decide_eq_true h)]), fun h4 => ?_⟩
  have h4 := of_decide_eq_false h4
  have hne : p ≠ q := fun e => h4 (by rw [e])
  have hm := moveX_at (s := s) b1 hp hq hK2 hne
  rw [hm] at kk
  have et1 : ((p : Int) * (x.1.length : Int) + (q : Int)).toNat = p * x.1.length + q := by rw [e1, Int.toNat_natCast]
  have et2 : ((q : Int) * (x.1.length : Int) + (p : Int)).toNat = q * x.1.length + p := by rw [e2, Int.toNat_natCast]
  have et3 : List.take (((x.2.2.1.getD (p * x.1.length + q) []).length : Nat) : Int).toNat (x.2.2.1.getD (p * x.1.length + q) []) = x.2.2.1.getD (p * x.1.length + q) [] := by rw [Int.toNat_natCast, List.take_length]
  rw [et1, et2, et3]
  have hw := X.wa
  have hH := X.he
  have hC := X.ca
  have hN := X.no
  have wk := X.wk _ i1
  have mp := X.mb p hp
  have mq := X.mb q hq
  have cb := X.cb _ i2
  have p0 : (0 : Int) ≤ (p : Int) := by omega
  have q0 : (0 : Int) ≤ (q : Int) := by omega
  have p1 : (p : Int) < (x.1.length : Int) := by omega
  have q1 : (q : Int) < (x.1.length : Int) := by omega
  have a0 : 0 ≤ (p : Int) * (x.1.length : Int) + (q : Int) := by omega
  have a1 : (p : Int) * (x.1.length : Int) + (q : Int) < (x.2.2.1.length : Int) := by omega
  have aw : x.2.2.1.length ≤ 1000 := by omega
  have c0 : 0 ≤ (q : Int) * (x.1.length : Int) + (p : Int) := by omega
  have c1 : (q : Int) * (x.1.length : Int) + (p : Int) < (x.2.2.2.1.length : Int) := by omega
  have c2 : (q : Int) * (x.1.length : Int) + (p : Int) < (x.2.2.2.2.1.length : Int) := by omega
  have cl : x.2.2.2.2.1.length ≤ 1000 := by omega
  have hl : x.2.2.2.1.length ≤ 1000000000 := by omega
  have ml : x.1.length ≤ 1000 := by omega
  have q2 : (q : Int) < (x.2.1.length : Int) := by omega
  have wk' : (x.2.2.1.getD (p * x.1.length + q) []).length ≤ 100000 := by omega
  refine ⟨inK_i64.2 (by omega), inK_i64.2 (by omega), a0, a1, fun h5 => ⟨trivial, fun h6 => ?_, fun h6 => ⟨⟨p0, p1, trivial⟩, fun h7 => ?_, fun h7 => ⟨fun h8 => ?_, fun h8 => ?_⟩⟩⟩, fun h5 => ⟨fun h6 => ?_, fun h6 => ?_⟩⟩
  · exact kk _ _ (by rw [if_pos (of_decide_eq_true h5), if_pos (by simpa using h6)])
  · exact kk _ _ (by rw [if_pos (of_decide_eq_true h5), if_neg (by simpa using h6), if_pos (show x.1.getD p 0 < s from of_decide_eq_true h7)])
  · have h8 := of_decide_eq_true h8
    exact kk _ _ (by rw [if_pos (of_decide_eq_true h5), if_neg (by simpa using h6), if_neg (show ¬ x.1.getD p 0 < s from of_decide_eq_false h7), if_pos (by omega)])
  · have h8 := of_decide_eq_false h8
    have hs := inB_iff.1 (show inB s 0 1000 = true by simpa using h6)
    exact ⟨⟨p0, p1, inK_i64.2 (show _ ∧ _ from ⟨by show _ ≤ x.1.getD p 0 - s; omega, by show x.1.getD p 0 - s ≤ _; omega⟩), ⟨p0, p1, ml⟩, trivial⟩, ⟨wk', ⟨a0, a1, aw⟩, trivial⟩, kk _ _ (by rw [if_pos (of_decide_eq_true h5), if_neg (by simpa using h6), if_neg (show ¬ x.1.getD p 0 < s from of_decide_eq_false h7), if_neg (by omega)]; rfl)⟩
  · have h6 := of_decide_eq_true h6
    exact kk _ _ (by rw [if_neg (of_decide_eq_false h5), if_pos (by omega)])
  · have h6 := of_decide_eq_false h6
    rw [if_neg (of_decide_eq_false h5), if_neg (by omega)] at kk
    have l0 : 0 < (x.2.2.1.getD (p * x.1.length + q) []).length := by omega
    have l1 : (0 : Int) < ((x.2.2.1.getD (p * x.1.length + q) []).length : Int) := by omega
    have l2 : (1 : Int) ≤ ((x.2.2.1.getD (p * x.1.length + q) []).length : Int) := by omega
    have vb := X.vb _ _ i1 (getD_memA l0 0)
    have k1 : inK .i64 ((q : Int) * (x.1.length : Int)) := inK_i64.2 (by omega)
    have k2 : inK .i64 ((q : Int) * (x.1.length : Int) + (p : Int)) := inK_i64.2 (by omega)
    have k3 : inK .i64 (x.1.getD q 0 + (x.2.2.1.getD (p * x.1.length + q) []).getD 0 0) := inK_i64.2 (by omega)
    have k4 : inK .i64 (x.2.2.2.2.1.getD (q * x.1.length + p) 0 + (x.2.2.1.getD (p * x.1.length + q) []).getD 0 0) := inK_i64.2 (by omega)
    refine ⟨⟨by decide, l2, Int.le_refl _, ⟨a0, a1, aw⟩, trivial⟩, k1, k2, Int.le_refl 0, l1, fun h7 => ⟨q0, q2, fun h8 => ⟨⟨X.pop hp hq, q0, q1⟩, hl, c0, c1, kk _ _ ?_⟩, fun h8 => ⟨hl, c0, c1, kk _ _ ?_⟩⟩, fun h7 => ⟨⟨q0, q1, Int.le_refl 0, l1, k3, ⟨q0, q1, ml⟩, trivial⟩, q0, q2, fun h8 => ⟨c0, c1, fun h9 => ⟨⟨c0, c2, Int.le_refl 0, l1, k4, ⟨c0, c2, cl⟩, trivial⟩, kk _ _ ?_⟩, fun h9 => kk _ _ ?_⟩, fun h8 => kk _ _ ?_⟩⟩
    · have h7 : (x.2.2.1.getD (p * x.1.length + q) []).getD 0 0 = -1 := of_decide_eq_true h7
      have h8 : (popX x p q).2.1.getD q 0 = -1 := of_decide_eq_true h8
      unfold comeX
      rw [if_pos h7, if_pos h8]
      rfl
    · have h7 : (x.2.2.1.getD (p * x.1.length + q) []).getD 0 0 = -1 := of_decide_eq_true h7
      have h8 : ¬ (popX x p q).2.1.getD q 0 = -1 := of_decide_eq_false h8
      unfold comeX
      rw [if_pos h7, if_neg h8]
      rfl
    all_goals
      have h7 : ¬ (x.2.2.1.getD (p * x.1.length + q) []).getD 0 0 = -1 := of_decide_eq_false h7
      unfold comeX
      rw [if_neg h7]
    · have h8 : 0 ≤ (popX x p q).2.1.getD q 0 := of_decide_eq_true h8
      have h9 : (popX x p q).2.2.2.1.getD (q * (popX x p q).1.length + p) false = false := by
        show x.2.2.2.1.getD (q * x.1.length + p) false = false
        simpa using h9
      rw [if_pos ⟨h8, h9⟩]
      rfl
    · have h9 : ¬ (popX x p q).2.2.2.1.getD (q * (popX x p q).1.length + p) false = false := by
        show ¬ x.2.2.2.1.getD (q * x.1.length + p) false = false
        simpa using h9
      rw [if_neg fun h => h9 h.2]
      rfl
    · have h8 : ¬ 0 ≤ (popX x p q).2.1.getD q 0 := of_decide_eq_false h8
      rw [if_neg fun h => h8 h.1]
      rfl
theorem okRMove : PlainOk Tryd.prog glK 23 cRMove := by
  refine plain_of (CxOk.mk' Ex_ok rfl mixed (gl := glK) (GOk.cons okIn Tryd.func33 rfl rfl (GOk.cons okWith Tryd.func34 rfl rfl (GOk.cons okXWay Tryd.func40 rfl rfl (GOk.cons okBehind Tryd.func41 rfl rfl (GOk.cons okRNote Tryd.func39 rfl rfl GOk.nil))))) GoOk.nil noIt) Tryd.func23 (c := Tryd.f23.body.getD .skip) (rvs := [(.cell 4 58, tXB), (.tmp 5, I)]) (by kernel_rfl) (by kernel_rfl) (by kernel_rfl) ?_
  intro ds k ⟨hp, hk⟩ hwf
  obtain ⟨x, m, rfl, X⟩ := dest2 hp
  obtain ⟨K, f, t, s, ⟨⟩⟩ := m
  refine ⟨anRMove, rmove_vc x K f t s k X fun y e h => ?_⟩
  have hk : k [⟨tXB, (moveX x K f t s).1⟩, ⟨I, (moveX x K f t s).2⟩] := hk
  rw [h] at hk; exact hk
end Go.Proofs.YtjgdpblaghhfhaaDoor.N

/- What the functions of this seat have to satisfy, by program: each verification condition in plain words. -/
namespace Go.Proofs.YtjgdpblaghhfhaaDoor
open Go.Vc Go.Proofs.YtjgdpblaghhfhaaDoor.N
set_option linter.unusedVariables false
theorem vcNewXB (mo : List Int) (k : List Dat → Prop) : vcF ⟨Exn, [(33, cWithin)], glK, [], []⟩ (anNewXB mo) (Tryd.f21.body.getD .skip) Tryd.f21.ntmps [(.cell 2 58, tXB), (.tmp 3, I)] [⟨.sl I, mo⟩] k = (
  (decide ((↑mo.length : Int) = (0 : Int)) = true → k [Dat.mk ((I).sl.pr ((I).sl.pr ((I).sl.sl.pr (Ty.bool.sl.pr ((I).sl.pr (Ty.bool.pr Ty.un)))))) zXB, Dat.mk (I) (5 : Int)]) ∧ (decide ((↑mo.length : Int) = (0 : Int)) = false → (decide ((5 : Int) < (↑mo.length : Int)) = true → k [Dat.mk ((I).sl.pr ((I).sl.pr ((I).sl.sl.pr (Ty.bool.sl.pr ((I).sl.pr (Ty.bool.pr Ty.un)))))) zXB, Dat.mk (I) (4 : Int)]) ∧ (decide ((5 : Int) < (↑mo.length : Int)) = false → (∃ (x : Nat), (x ≤ mo.length ∧ moOk (List.take x mo) = true) ∧ (mo = mo ∧ ([] : List Nat) = [] ∧ (0 : Int) = (↑x : Int) ∧ True) ∧ (((58 : Nat) = (58 : Nat) ∧ zXB = zXB) ∧ True) ∧ hdE = hdE ∧ True) ∧ ∀ (x : Nat), x ≤ mo.length ∧ moOk (List.take x mo) = true → (decide ((↑x : Int) < (↑mo.length : Int)) = true → (0 : Int) ≤ (↑x : Int) ∧ (↑x : Int) < (↑mo.length : Int) ∧ True ∧ ((!inB (mo.getD (↑x : Int).toNat (0 : Int)) (0 : Int) (1000 : Int)) = true → k [Dat.mk ((I).sl.pr ((I).sl.pr ((I).sl.sl.pr (Ty.bool.sl.pr ((I).sl.pr (Ty.bool.pr Ty.un)))))) zXB, Dat.mk (I) (1 : Int)]) ∧ ((!inB (mo.getD (↑x : Int).toNat (0 : Int)) (0 : Int) (1000 : Int)) = false → inK IntKind.i64 ((↑x : Int) + (1 : Int)) ∧ ∃ (x_1 : Nat), (x_1 ≤ mo.length ∧ moOk (List.take x_1 mo) = true) ∧ mo.length - x_1 < mo.length - x ∧ (mo = mo ∧ ([] : List Nat) = [] ∧ (↑x : Int) + (1 : Int) = (↑x_1 : Int) ∧ True) ∧ (((58 : Nat) = (58 : Nat) ∧ zXB = zXB) ∧ True) ∧ hdE = hdE ∧ True)) ∧ (decide ((↑x : Int) < (↑mo.length : Int)) = false → inK IntKind.i64 ((↑mo.length : Int) * (↑mo.length : Int)) ∧ (0 : Int) ≤ (↑mo.length : Int) * (↑mo.length : Int) ∧ (↑mo.length : Int) * (↑mo.length : Int) ≤ (↑mo.length : Int) * (↑mo.length : Int) ∧ (↑mo.length : Int) * (↑mo.length : Int) ≤ (1000000000 : Int) ∧ inK IntKind.i64 ((↑mo.length : Int) * (↑mo.length : Int)) ∧ (0 : Int) ≤ (↑mo.length : Int) * (↑mo.length : Int) ∧ (↑mo.length : Int) * (↑mo.length : Int) ≤ (↑mo.length : Int) * (↑mo.length : Int) ∧ (↑mo.length : Int) * (↑mo.length : Int) ≤ (1000000000 : Int) ∧ inK IntKind.i64 ((↑mo.length : Int) * (↑mo.length : Int)) ∧ (0 : Int) ≤ (↑mo.length : Int) * (↑mo.length : Int) ∧ (↑mo.length : Int) * (↑mo.length : Int) ≤ (↑mo.length : Int) * (↑mo.length : Int) ∧ (↑mo.length : Int) * (↑mo.length : Int) ≤ (1000000000 : Int) ∧ True ∧ (((inK IntKind.i64 ((↑mo.length : Int) * (↑mo.length : Int)) ∧ (↑mo.length : Int) * (↑mo.length : Int) = (↑mo.length : Int) * (↑mo.length : Int)) ∧ ((0 : Int) ≤ (↑mo.length : Int) * (↑mo.length : Int) ∧ (↑mo.length : Int) * (↑mo.length : Int) ≤ (↑mo.length : Int) * (↑mo.length : Int) ∧ (↑mo.length : Int) * (↑mo.length : Int) ≤ (1000000000 : Int) ∧ List.replicate ((↑mo.length : Int) * (↑mo.length : Int)).toNat ([] : List Int) = List.replicate ((↑mo.length : Int) * (↑mo.length : Int)).toNat ([] : List Int)) ∧ (inK IntKind.i64 ((↑mo.length : Int) * (↑mo.length : Int)) ∧ (↑mo.length : Int) * (↑mo.length : Int) = (↑mo.length : Int) * (↑mo.length : Int)) ∧ ((0 : Int) ≤ (↑mo.length : Int) * (↑mo.length : Int) ∧ (↑mo.length : Int) * (↑mo.length : Int) ≤ (↑mo.length : Int) * (↑mo.length : Int) ∧ (↑mo.length : Int) * (↑mo.length : Int) ≤ (1000000000 : Int) ∧ List.replicate ((↑mo.length : Int) * (↑mo.length : Int)).toNat false = List.replicate ((↑mo.length : Int) * (↑mo.length : Int)).toNat false) ∧ (inK IntKind.i64 ((↑mo.length : Int) * (↑mo.length : Int)) ∧ (↑mo.length : Int) * (↑mo.length : Int) = (↑mo.length : Int) * (↑mo.length : Int)) ∧ ((0 : Int) ≤ (↑mo.length : Int) * (↑mo.length : Int) ∧ (↑mo.length : Int) * (↑mo.length : Int) ≤ (↑mo.length : Int) * (↑mo.length : Int) ∧ (↑mo.length : Int) * (↑mo.length : Int) ≤ (1000000000 : Int) ∧ List.replicate ((↑mo.length : Int) * (↑mo.length : Int)).toNat (0 : Int) = List.replicate ((↑mo.length : Int) * (↑mo.length : Int)).toNat (0 : Int)) ∧ SV.ag [SV.d (I).sl mo, SV.nils, SV.d (I).sl.sl (List.replicate ((↑mo.length : Int) * (↑mo.length : Int)).toNat ([] : List Int)), SV.d Ty.bool.sl (List.replicate ((↑mo.length : Int) * (↑mo.length : Int)).toNat false), SV.d (I).sl (List.replicate ((↑mo.length : Int) * (↑mo.length : Int)).toNat (0 : Int)), SV.d Ty.bool false] = SV.ag [SV.d (I).sl mo, SV.nils, SV.d (I).sl.sl (List.replicate ((↑mo.length : Int) * (↑mo.length : Int)).toNat ([] : List Int)), SV.d Ty.bool.sl (List.replicate ((↑mo.length : Int) * (↑mo.length : Int)).toNat false), SV.d (I).sl (List.replicate ((↑mo.length : Int) * (↑mo.length : Int)).toNat (0 : Int)), SV.d Ty.bool false] ∧ True) ∧ (True ∧ (∃ (x : Nat), (x ≤ mo.length ∧ True) ∧ (([] : List Nat) = [] ∧ (↑mo.length : Int) = (↑mo.length : Int) ∧ True ∧ (0 : Int) = (↑x : Int) ∧ True) ∧ (((58 : Nat) = (58 : Nat) ∧ zXB = zXB) ∧ (mo = mo ∧ True ∧ List.replicate ((↑mo.length : Int) * (↑mo.length : Int)).toNat ([] : List Int) = List.replicate ((↑mo.length : Int) * (↑mo.length : Int)).toNat ([] : List Int) ∧ List.replicate ((↑mo.length : Int) * (↑mo.length : Int)).toNat false = List.replicate ((↑mo.length : Int) * (↑mo.length : Int)).toNat false ∧ List.replicate ((↑mo.length : Int) * (↑mo.length : Int)).toNat (0 : Int) = List.replicate ((↑mo.length : Int) * (↑mo.length : Int)).toNat (0 : Int) ∧ false = false ∧ True) ∧ ((3 : Nat) = (3 : Nat) ∧ [] = List.replicate x (-1 : Int)) ∧ True) ∧ hdE = hdE ∧ True) ∧ ∀ (x : Nat), x ≤ mo.length ∧ True → (decide ((↑x : Int) < (↑mo.length : Int)) = true → (List.replicate x (-1 : Int)).length + ((List.replicate (1 : Nat) (0 : Int)).set (0 : Nat) (-1 : Int)).length ≤ (1000000000 : Nat) ∧ inK IntKind.i64 ((↑x : Int) + (1 : Int)) ∧ ∃ (x_1 : Nat), (x_1 ≤ mo.length ∧ True) ∧ mo.length - x_1 < mo.length - x ∧ (([] : List Nat) = [] ∧ (↑mo.length : Int) = (↑mo.length : Int) ∧ True ∧ (↑x : Int) + (1 : Int) = (↑x_1 : Int) ∧ True) ∧ (((58 : Nat) = (58 : Nat) ∧ zXB = zXB) ∧ (mo = mo ∧ True ∧ List.replicate ((↑mo.length : Int) * (↑mo.length : Int)).toNat ([] : List Int) = List.replicate ((↑mo.length : Int) * (↑mo.length : Int)).toNat ([] : List Int) ∧ List.replicate ((↑mo.length : Int) * (↑mo.length : Int)).toNat false = List.replicate ((↑mo.length : Int) * (↑mo.length : Int)).toNat false ∧ List.replicate ((↑mo.length : Int) * (↑mo.length : Int)).toNat (0 : Int) = List.replicate ((↑mo.length : Int) * (↑mo.length : Int)).toNat (0 : Int) ∧ false = false ∧ True) ∧ ((3 : Nat) = (3 : Nat) ∧ (List.replicate x (-1 : Int)).append ((List.replicate (1 : Nat) (0 : Int)).set (0 : Nat) (-1 : Int)) = List.replicate x_1 (-1 : Int)) ∧ True) ∧ hdE = hdE ∧ True) ∧ (decide ((↑x : Int) < (↑mo.length : Int)) = false → k [Dat.mk ((I).sl.pr ((I).sl.pr ((I).sl.sl.pr (Ty.bool.sl.pr ((I).sl.pr (Ty.bool.pr Ty.un)))))) (mo, List.replicate x (-1 : Int), List.replicate ((↑mo.length : Int) * (↑mo.length : Int)).toNat ([] : List Int), List.replicate ((↑mo.length : Int) * (↑mo.length : Int)).toNat false, List.replicate ((↑mo.length : Int) * (↑mo.length : Int)).toNat (0 : Int), false, ()), Dat.mk (I) (0 : Int)])) ∧ True) ∧ True ∧ True)))) := by kernel_rfl
end Go.Proofs.YtjgdpblaghhfhaaDoor

/- Banks: the reference's constructor keeps its contract. -/
namespace Go.Proofs.YtjgdpblaghhfhaaDoor.N
open Go.Vc
theorem moOk_snoc {mo : List Int} {i : Nat} (h : i < mo.length) : moOk (mo.take (i + 1)) = (moOk (mo.take i) && inB (mo.getD i 0) 0 1000) := by
  unfold moOk
  have e : mo.take (i + 1) = mo.take i ++ [mo.getD i 0] := by
    rw [List.take_add_one, List.getElem?_eq_getElem h, List.getD_eq_getElem?_getD, List.getElem?_eq_getElem h]; rfl
  rw [e, List.all_append]
  simp
theorem moOk_bad {mo : List Int} {i : Nat} (h : i < mo.length) (hb : inB (mo.getD i 0) 0 1000 = false) : moOk mo = false := by
  unfold moOk
  rw [List.all_eq_false]
  exact ⟨mo.getD i 0, getD_memA h 0, by rw [hb]; decide⟩
theorem okNewXB : PlainOk Tryd.prog glK 21 cNewXB := by
  refine plain_of (CxOk.mk' Exn_ok rfl mixed (gl := glK) (GOk.cons okIn Tryd.func33 rfl rfl GOk.nil) GoOk.nil noIt) Tryd.func21 (c := Tryd.f21.body.getD .skip) (rvs := [(.cell 2 58, tXB), (.tmp 3, I)]) (by kernel_rfl) (by kernel_rfl) (by kernel_rfl) ?_
  intro ds k ⟨hp, hk⟩ hwf
  obtain ⟨mo, rfl, -⟩ := dest1 hp
  have hk : k [⟨tXB, if newE mo = 0 then newXB mo else zXB⟩, ⟨I, newE mo⟩] := hk
  refine ⟨anNewXB mo, ?_⟩
  rw [vcNewXB]
  refine ⟨fun h => ?_, fun h => ⟨fun h2 => ?_, fun h2 => ?_⟩⟩
  · have h := of_decide_eq_true h
    have e : newE mo = 5 := by unfold newE; rw [if_pos (by omega)]
    rw [e] at hk; exact hk
  · have h := of_decide_eq_false h
    have h2 := of_decide_eq_true h2
    have e : newE mo = 4 := by unfold newE; rw [if_neg (by omega), if_pos (by omega)]
    rw [e] at hk; exact hk
  · have h := of_decide_eq_false h
    have h2 := of_decide_eq_false h2
    have n0 : ¬ mo.length = 0 := by omega
    have n5 : ¬ 5 < mo.length := by omega
    refine ⟨⟨0, ⟨Nat.zero_le _, rfl⟩, ⟨rfl, rfl, rfl, trivial⟩, ⟨⟨rfl, rfl⟩, trivial⟩, rfl, trivial⟩, fun x ⟨hx, hok⟩ => ⟨fun h3 => ?_, fun h3 => ?_⟩⟩
    · have h3 : x < mo.length := by have := of_decide_eq_true h3; omega
      refine ⟨by omega, by omega, trivial, fun h4 => ?_, fun h4 => ?_⟩
      · have e : newE mo = 1 := by
          unfold newE
          rw [if_neg n0, if_neg n5, if_neg]
          rw [moOk_bad h3 (by simpa using h4)]; decide
        rw [e] at hk; exact hk
      · refine ⟨inK_i64.2 (by omega), x + 1, ⟨by omega, ?_⟩, by omega, ⟨rfl, rfl, by omega, trivial⟩, ⟨⟨rfl, rfl⟩, trivial⟩, rfl, trivial⟩
        rw [moOk_snoc h3, hok]
        simpa using h4
    · have h3 : x = mo.length := by have := of_decide_eq_false h3; omega
      subst h3
      rw [List.take_length] at hok
      have e : newE mo = 0 := by unfold newE; rw [if_neg n0, if_neg n5, if_pos hok]
      rw [e, if_pos rfl] at hk
      have hk : k [⟨tXB, newXB mo⟩, ⟨I, (0 : Int)⟩] := hk
      have hm : (mo.length : Int) * (mo.length : Int) = ((mo.length * mo.length : Nat) : Int) := (Int.natCast_mul _ _).symm
      have hle : mo.length * mo.length ≤ 25 := nn25 (by omega)
      unfold newXB at hk
      rw [hm, Int.toNat_natCast]
      refine ⟨inK_i64.2 (by omega), by omega, by omega, by omega, inK_i64.2 (by omega), by omega, by omega, by omega, inK_i64.2 (by omega), by omega, by omega, by omega, trivial, ⟨⟨⟨inK_i64.2 (by omega), rfl⟩, ⟨by omega, by omega, by omega, rfl⟩, ⟨inK_i64.2 (by omega), rfl⟩, ⟨by omega, by omega, by omega, rfl⟩, ⟨inK_i64.2 (by omega), rfl⟩, ⟨by omega, by omega, by omega, rfl⟩, rfl, trivial⟩, ⟨trivial, ?_, fun x ⟨hx, _⟩ => ⟨fun h5 => ?_, fun h5 => ?_⟩⟩, trivial⟩, trivial, trivial⟩
      · exact ⟨0, ⟨Nat.zero_le _, trivial⟩, ⟨rfl, rfl, trivial, rfl, trivial⟩, ⟨⟨rfl, rfl⟩, ⟨rfl, trivial, rfl, rfl, rfl, rfl, trivial⟩, ⟨rfl, rfl⟩, trivial⟩, rfl, trivial⟩
      · have h5 : x < mo.length := by have := of_decide_eq_true h5; omega
        refine ⟨?_, inK_i64.2 (by omega), x + 1, ⟨by omega, trivial⟩, by omega, ⟨rfl, rfl, trivial, by omega, trivial⟩, ⟨⟨rfl, rfl⟩, ⟨rfl, trivial, rfl, rfl, rfl, rfl, trivial⟩, ⟨rfl, ?_⟩, trivial⟩, rfl, trivial⟩
        · rw [List.length_replicate, List.length_set, List.length_replicate]; omega
        · exact List.replicate_succ'.symm
      · have h5 : x = mo.length := by have := of_decide_eq_false h5; omega
        subst h5; exact hk
end Go.Proofs.YtjgdpblaghhfhaaDoor.N

/- What the functions of this seat have to satisfy, by program: each verification condition in plain words. -/
namespace Go.Proofs.YtjgdpblaghhfhaaDoor
open Go.Vc Go.Proofs.YtjgdpblaghhfhaaDoor.N
set_option linter.unusedVariables false
theorem vcWithin (a b c : Int) (k : List Dat → Prop) : vcF ⟨Et, [], glK, [], []⟩ [] (Tryd.f30.body.getD .skip) Tryd.f30.ntmps [(.tmp 6, .bool)] [⟨I, a⟩, ⟨I, b⟩, ⟨I, c⟩] k = (
  (decide (b ≤ a) = true → k [Dat.mk Ty.bool (decide (a ≤ c))]) ∧ (decide (b ≤ a) = false → k [Dat.mk Ty.bool false])) := by kernel_rfl
theorem vcNote (mo : List Int) (wa : L3) (no : List Int) (he : B2) (ca : L2) (bg : Bool) (p : Int) (k : SV → List Ob → Prop) : vcO ⟨Et, [], glK, [], []⟩ (anNote ⟨mo, wa, no, he, ca, bg⟩ p) (Tryd.f42.body.getD .skip) Tryd.f42.ntmps [] [.ps 0, .d I p] (bob ⟨mo, wa, no, he, ca, bg⟩) k = (
  (0 : Int) ≤ p ∧ p < (↑mo.length : Int) ∧ (0 : Int) ≤ p ∧ p < (↑no.length : Int) ∧ (∃ (x : Nat), (x ≤ mo.length ∧ True) ∧ (True ∧ p = p ∧ (↑mo.length : Int) = (↑mo.length : Int) ∧ (0 : Int) = (↑x : Int) ∧ True) ∧ ((True ∧ True ∧ True ∧ True ∧ True ∧ true = true ∧ True) ∧ ((3 : Nat) = (3 : Nat) ∧ mo = mo) ∧ wa = noteW wa p.toNat x ∧ ((3 : Nat) = (3 : Nat) ∧ no.set p.toNat (mo.getD p.toNat (0 : Int)) = no.set p.toNat (mo.getD p.toNat (0 : Int))) ∧ he = he ∧ ca = ca ∧ True) ∧ True ∧ p = p ∧ hdE = hdE ∧ True) ∧ ∀ (x : Nat), x ≤ mo.length ∧ True → (decide ((↑x : Int) < (↑mo.length : Int)) = true → ((!decide ((↑x : Int) = p)) = true → p.toNat < ((noteW wa p.toNat x)).length ∧ (↑x : Int).toNat < ((((noteW wa p.toNat x)).getD p.toNat [])).length ∧ (0 : Int) ≤ p ∧ p < (↑(List.length (noteW wa p.toNat x)) : Int) ∧ p.toNat = p.toNat ∧ (0 : Int) ≤ p ∧ p < (↑(List.length (noteW wa p.toNat x)) : Int) ∧ p.toNat = p.toNat ∧ (0 : Int) ≤ (↑x : Int) ∧ (↑x : Int) < (↑(((noteW wa p.toNat x)).getD p.toNat []).length : Int) ∧ (↑x : Int).toNat = (↑x : Int).toNat ∧ True ∧ (((((noteW wa p.toNat x)).getD p.toNat [])).getD (↑x : Int).toNat []).length + ((List.replicate (1 : Nat) (0 : Int)).set (0 : Nat) (-1 : Int)).length ≤ (1000000000 : Nat) ∧ (0 : Int) ≤ (↑x : Int) ∧ (↑x : Int) < (↑(((noteW wa p.toNat x)).getD p.toNat []).length : Int) ∧ (SV.ps (0 : Nat) = SV.ps (0 : Nat) ∧ SV.pf (I).sl.sl.sl (0 : Nat) (1 : Nat) [] = SV.pf (I).sl.sl.sl (0 : Nat) (1 : Nat) [] ∧ SV.os (2 : Nat) = SV.os (2 : Nat) ∧ ((0 : Int) ≤ p ∧ p < (↑(List.length (noteW wa p.toNat x)) : Int) ∧ SV.ta (I).sl.sl (2 : Nat) [] p.toNat [] = SV.ta (I).sl.sl (2 : Nat) [] p.toNat []) ∧ (p.toNat = p.toNat ∧ SV.os (6 : Nat) = SV.os (6 : Nat)) ∧ True) ∧ (↑x : Int).toNat = (↑x : Int).toNat ∧ True ∧ inK IntKind.i64 ((↑x : Int) + (1 : Int)) ∧ ∃ (x_1 : Nat), (x_1 ≤ mo.length ∧ True) ∧ mo.length - x_1 < mo.length - x ∧ (True ∧ p = p ∧ (↑mo.length : Int) = (↑mo.length : Int) ∧ (↑x : Int) + (1 : Int) = (↑x_1 : Int) ∧ True) ∧ ((True ∧ True ∧ True ∧ True ∧ True ∧ true = true ∧ True) ∧ ((3 : Nat) = (3 : Nat) ∧ mo = mo) ∧ ((noteW wa p.toNat x)).set p.toNat ((((((noteW wa p.toNat x)).getD p.toNat [])).set (↑x : Int).toNat ((((((noteW wa p.toNat x)).getD p.toNat [])).getD (↑x : Int).toNat []).append ((List.replicate (1 : Nat) (0 : Int)).set (0 : Nat) (-1 : Int))))) = noteW wa p.toNat x_1 ∧ ((3 : Nat) = (3 : Nat) ∧ no.set p.toNat (mo.getD p.toNat (0 : Int)) = no.set p.toNat (mo.getD p.toNat (0 : Int))) ∧ he = he ∧ ca = ca ∧ True) ∧ True ∧ p = p ∧ hdE = hdE ∧ True) ∧ ((!decide ((↑x : Int) = p)) = false → inK IntKind.i64 ((↑x : Int) + (1 : Int)) ∧ ∃ (x_1 : Nat), (x_1 ≤ mo.length ∧ True) ∧ mo.length - x_1 < mo.length - x ∧ (True ∧ p = p ∧ (↑mo.length : Int) = (↑mo.length : Int) ∧ (↑x : Int) + (1 : Int) = (↑x_1 : Int) ∧ True) ∧ ((True ∧ True ∧ True ∧ True ∧ True ∧ true = true ∧ True) ∧ ((3 : Nat) = (3 : Nat) ∧ mo = mo) ∧ noteW wa p.toNat x = noteW wa p.toNat x_1 ∧ ((3 : Nat) = (3 : Nat) ∧ no.set p.toNat (mo.getD p.toNat (0 : Int)) = no.set p.toNat (mo.getD p.toNat (0 : Int))) ∧ he = he ∧ ca = ca ∧ True) ∧ True ∧ p = p ∧ hdE = hdE ∧ True)) ∧ (decide ((↑x : Int) < (↑mo.length : Int)) = false → k (SV.tp []) [Ob.st (90 : Nat) [SV.os (1 : Nat), SV.os (2 : Nat), SV.os (3 : Nat), SV.os (4 : Nat), SV.os (5 : Nat), SV.d Ty.bool true], Ob.row (3 : Nat) (I) mo, Ob.trow (41 : Nat) (Ot.sl (29 : Nat) (Ot.sl (3 : Nat) (Ot.d (I)))) (noteW wa p.toNat x), Ob.row (3 : Nat) (I) (no.set p.toNat (mo.getD p.toNat (0 : Int))), Ob.trow (30 : Nat) (Ot.sl (4 : Nat) (Ot.d Ty.bool)) he, Ob.trow (29 : Nat) (Ot.sl (3 : Nat) (Ot.d (I))) ca])) := by kernel_rfl
theorem vcCome (mo : List Int) (wa : L3) (no : List Int) (he : B2) (ca : L2) (bg : Bool) (n f t : Int) (k : SV → List Ob → Prop) : vcO ⟨Et, [], glK, [], [(42, oNote)]⟩ [joinAll] (Tryd.f43.body.getD .skip) Tryd.f43.ntmps [] [.ps 0, .d I n, .d I f, .d I t] (bob ⟨mo, wa, no, he, ca, bg⟩) k = (
  (decide (n = (-1 : Int)) = true → (0 : Int) ≤ t ∧ t < (↑no.length : Int) ∧ (decide (no.getD t.toNat (0 : Int) < (0 : Int)) = true → (BkS (Bk.mk mo wa no he ca bg) ∧ (0 : Int) ≤ t ∧ t < (↑mo.length : Int)) ∧ (0 : Int) ≤ t ∧ t < (↑(List.length he) : Int) ∧ t.toNat < List.length he ∧ t.toNat < (he).length ∧ (0 : Int) ≤ f ∧ f < (↑((he).getD t.toNat []).length : Int) ∧ t.toNat < (he).length ∧ k (SV.tp []) [Ob.st (90 : Nat) [SV.os (1 : Nat), SV.os (2 : Nat), SV.os (3 : Nat), SV.os (4 : Nat), SV.os (5 : Nat), SV.d Ty.bool true], Ob.row (3 : Nat) (I) mo, Ob.trow (41 : Nat) (Ot.sl (29 : Nat) (Ot.sl (3 : Nat) (Ot.d (I)))) (noteW wa t.toNat mo.length), Ob.row (3 : Nat) (I) (no.set t.toNat (mo.getD t.toNat (0 : Int))), Ob.trow (30 : Nat) (Ot.sl (4 : Nat) (Ot.d Ty.bool)) ((he).set t.toNat ((((he).getD t.toNat [])).set f.toNat true)), Ob.trow (29 : Nat) (Ot.sl (3 : Nat) (Ot.d (I))) ca]) ∧ (decide (no.getD t.toNat (0 : Int) < (0 : Int)) = false → (0 : Int) ≤ t ∧ t < (↑(List.length he) : Int) ∧ t.toNat < List.length he ∧ t.toNat < (he).length ∧ (0 : Int) ≤ f ∧ f < (↑((he).getD t.toNat []).length : Int) ∧ t.toNat < (he).length ∧ k (SV.tp []) [Ob.st (90 : Nat) [SV.os (1 : Nat), SV.os (2 : Nat), SV.os (3 : Nat), SV.os (4 : Nat), SV.os (5 : Nat), SV.d Ty.bool bg], Ob.row (3 : Nat) (I) mo, Ob.trow (41 : Nat) (Ot.sl (29 : Nat) (Ot.sl (3 : Nat) (Ot.d (I)))) wa, Ob.row (3 : Nat) (I) no, Ob.trow (30 : Nat) (Ot.sl (4 : Nat) (Ot.d Ty.bool)) ((he).set t.toNat ((((he).getD t.toNat [])).set f.toNat true)), Ob.trow (29 : Nat) (Ot.sl (3 : Nat) (Ot.d (I))) ca])) ∧ (decide (n = (-1 : Int)) = false → (0 : Int) ≤ t ∧ t < (↑mo.length : Int) ∧ inK IntKind.i64 (mo.getD t.toNat (0 : Int) + n) ∧ (0 : Int) ≤ t ∧ t < (↑mo.length : Int) ∧ (0 : Int) ≤ t ∧ t < (↑no.length : Int) ∧ (decide ((0 : Int) ≤ no.getD t.toNat (0 : Int)) = true → (0 : Int) ≤ t ∧ t < (↑(List.length he) : Int) ∧ t.toNat < List.length he ∧ t.toNat < (he).length ∧ (0 : Int) ≤ f ∧ f < (↑((he).getD t.toNat []).length : Int) ∧ t.toNat < (he).length ∧ f.toNat < ((he).getD t.toNat []).length ∧ ((!((he).getD t.toNat []).getD f.toNat false) = true → (0 : Int) ≤ t ∧ t < (↑(List.length ca) : Int) ∧ t.toNat < List.length ca ∧ t.toNat < (ca).length ∧ (0 : Int) ≤ f ∧ f < (↑((ca).getD t.toNat []).length : Int) ∧ t.toNat < (ca).length ∧ f.toNat < ((ca).getD t.toNat []).length ∧ inK IntKind.i64 (((ca).getD t.toNat []).getD f.toNat (0 : Int) + n) ∧ t.toNat < (ca).length ∧ (0 : Int) ≤ f ∧ f < (↑((ca).getD t.toNat []).length : Int) ∧ t.toNat < (ca).length ∧ k (SV.tp []) [Ob.st (90 : Nat) [SV.os (1 : Nat), SV.os (2 : Nat), SV.os (3 : Nat), SV.os (4 : Nat), SV.os (5 : Nat), SV.d Ty.bool bg], Ob.row (3 : Nat) (I) (mo.set t.toNat (mo.getD t.toNat (0 : Int) + n)), Ob.trow (41 : Nat) (Ot.sl (29 : Nat) (Ot.sl (3 : Nat) (Ot.d (I)))) wa, Ob.row (3 : Nat) (I) no, Ob.trow (30 : Nat) (Ot.sl (4 : Nat) (Ot.d Ty.bool)) he, Ob.trow (29 : Nat) (Ot.sl (3 : Nat) (Ot.d (I))) ((ca).set t.toNat ((((ca).getD t.toNat [])).set f.toNat (((ca).getD t.toNat []).getD f.toNat (0 : Int) + n)))]) ∧ ((!((he).getD t.toNat []).getD f.toNat false) = false → k (SV.tp []) [Ob.st (90 : Nat) [SV.os (1 : Nat), SV.os (2 : Nat), SV.os (3 : Nat), SV.os (4 : Nat), SV.os (5 : Nat), SV.d Ty.bool bg], Ob.row (3 : Nat) (I) (mo.set t.toNat (mo.getD t.toNat (0 : Int) + n)), Ob.trow (41 : Nat) (Ot.sl (29 : Nat) (Ot.sl (3 : Nat) (Ot.d (I)))) wa, Ob.row (3 : Nat) (I) no, Ob.trow (30 : Nat) (Ot.sl (4 : Nat) (Ot.d Ty.bool)) he, Ob.trow (29 : Nat) (Ot.sl (3 : Nat) (Ot.d (I))) ca])) ∧ (decide ((0 : Int) ≤ no.getD t.toNat (0 : Int)) = false → k (SV.tp []) [Ob.st (90 : Nat) [SV.os (1 : Nat), SV.os (2 : Nat), SV.os (3 : Nat), SV.os (4 : Nat), SV.os (5 : Nat), SV.d Ty.bool bg], Ob.row (3 : Nat) (I) (mo.set t.toNat (mo.getD t.toNat (0 : Int) + n)), Ob.trow (41 : Nat) (Ot.sl (29 : Nat) (Ot.sl (3 : Nat) (Ot.d (I)))) wa, Ob.row (3 : Nat) (I) no, Ob.trow (30 : Nat) (Ot.sl (4 : Nat) (Ot.d Ty.bool)) he, Ob.trow (29 : Nat) (Ot.sl (3 : Nat) (Ot.d (I))) ca]))) := by kernel_rfl
theorem vcDo (mo : List Int) (wa : L3) (no : List Int) (he : B2) (ca : L2) (bg : Bool) (mk f t s : Int) (k : SV → List Ob → Prop) : vcO ⟨Et, [(30, cWithin)], glK, [], [(42, oNote), (43, clsC oCome)]⟩ (anDo f t) (Tryd.f24.body.getD .skip) Tryd.f24.ntmps [(.tmp 4, tErr)] [.ps 0, .d tMove (mk, f, t, s, ())] (bob ⟨mo, wa, no, he, ca, bg⟩) k = (
  inK IntKind.i64 ((↑mo.length : Int) - (1 : Int)) ∧ True ∧ ((!inB mk (0 : Int) (2 : Int)) = true → (1 : Int) ≠ (0 : Int) ∧ k (SV.d (Ty.err (76 : Nat)) (1 : Int)) [Ob.st (90 : Nat) [SV.os (1 : Nat), SV.os (2 : Nat), SV.os (3 : Nat), SV.os (4 : Nat), SV.os (5 : Nat), SV.d Ty.bool bg], Ob.row (3 : Nat) (I) mo, Ob.trow (41 : Nat) (Ot.sl (29 : Nat) (Ot.sl (3 : Nat) (Ot.d (I)))) wa, Ob.row (3 : Nat) (I) no, Ob.trow (30 : Nat) (Ot.sl (4 : Nat) (Ot.d Ty.bool)) he, Ob.trow (29 : Nat) (Ot.sl (3 : Nat) (Ot.d (I))) ca]) ∧ ((!inB mk (0 : Int) (2 : Int)) = false → True ∧ ((!inB f (0 : Int) ((↑mo.length : Int) - (1 : Int))) = true → (1 : Int) ≠ (0 : Int) ∧ k (SV.d (Ty.err (76 : Nat)) (1 : Int)) [Ob.st (90 : Nat) [SV.os (1 : Nat), SV.os (2 : Nat), SV.os (3 : Nat), SV.os (4 : Nat), SV.os (5 : Nat), SV.d Ty.bool bg], Ob.row (3 : Nat) (I) mo, Ob.trow (41 : Nat) (Ot.sl (29 : Nat) (Ot.sl (3 : Nat) (Ot.d (I)))) wa, Ob.row (3 : Nat) (I) no, Ob.trow (30 : Nat) (Ot.sl (4 : Nat) (Ot.d Ty.bool)) he, Ob.trow (29 : Nat) (Ot.sl (3 : Nat) (Ot.d (I))) ca]) ∧ ((!inB f (0 : Int) ((↑mo.length : Int) - (1 : Int))) = false → (decide (mk = (2 : Int)) = true → (bg = true → (7 : Int) ≠ (0 : Int) ∧ k (SV.d (Ty.err (76 : Nat)) (7 : Int)) [Ob.st (90 : Nat) [SV.os (1 : Nat), SV.os (2 : Nat), SV.os (3 : Nat), SV.os (4 : Nat), SV.os (5 : Nat), SV.d Ty.bool bg], Ob.row (3 : Nat) (I) mo, Ob.trow (41 : Nat) (Ot.sl (29 : Nat) (Ot.sl (3 : Nat) (Ot.d (I)))) wa, Ob.row (3 : Nat) (I) no, Ob.trow (30 : Nat) (Ot.sl (4 : Nat) (Ot.d Ty.bool)) he, Ob.trow (29 : Nat) (Ot.sl (3 : Nat) (Ot.d (I))) ca]) ∧ (bg = false → (BkS (Bk.mk mo wa no he ca bg) ∧ (0 : Int) ≤ f ∧ f < (↑mo.length : Int)) ∧ k (SV.d (Ty.err (76 : Nat)) (0 : Int)) [Ob.st (90 : Nat) [SV.os (1 : Nat), SV.os (2 : Nat), SV.os (3 : Nat), SV.os (4 : Nat), SV.os (5 : Nat), SV.d Ty.bool true], Ob.row (3 : Nat) (I) mo, Ob.trow (41 : Nat) (Ot.sl (29 : Nat) (Ot.sl (3 : Nat) (Ot.d (I)))) (noteW wa f.toNat mo.length), Ob.row (3 : Nat) (I) (no.set f.toNat (mo.getD f.toNat (0 : Int))), Ob.trow (30 : Nat) (Ot.sl (4 : Nat) (Ot.d Ty.bool)) he, Ob.trow (29 : Nat) (Ot.sl (3 : Nat) (Ot.d (I))) ca])) ∧ (decide (mk = (2 : Int)) = false → True ∧ ((!inB t (0 : Int) ((↑mo.length : Int) - (1 : Int))) = true → (1 : Int) ≠ (0 : Int) ∧ k (SV.d (Ty.err (76 : Nat)) (1 : Int)) [Ob.st (90 : Nat) [SV.os (1 : Nat), SV.os (2 : Nat), SV.os (3 : Nat), SV.os (4 : Nat), SV.os (5 : Nat), SV.d Ty.bool bg], Ob.row (3 : Nat) (I) mo, Ob.trow (41 : Nat) (Ot.sl (29 : Nat) (Ot.sl (3 : Nat) (Ot.d (I)))) wa, Ob.row (3 : Nat) (I) no, Ob.trow (30 : Nat) (Ot.sl (4 : Nat) (Ot.d Ty.bool)) he, Ob.trow (29 : Nat) (Ot.sl (3 : Nat) (Ot.d (I))) ca]) ∧ ((!inB t (0 : Int) ((↑mo.length : Int) - (1 : Int))) = false → (decide (f = t) = true → (6 : Int) ≠ (0 : Int) ∧ k (SV.d (Ty.err (76 : Nat)) (6 : Int)) [Ob.st (90 : Nat) [SV.os (1 : Nat), SV.os (2 : Nat), SV.os (3 : Nat), SV.os (4 : Nat), SV.os (5 : Nat), SV.d Ty.bool bg], Ob.row (3 : Nat) (I) mo, Ob.trow (41 : Nat) (Ot.sl (29 : Nat) (Ot.sl (3 : Nat) (Ot.d (I)))) wa, Ob.row (3 : Nat) (I) no, Ob.trow (30 : Nat) (Ot.sl (4 : Nat) (Ot.d Ty.bool)) he, Ob.trow (29 : Nat) (Ot.sl (3 : Nat) (Ot.d (I))) ca]) ∧ (decide (f = t) = false → ((0 : Int) ≤ f ∧ f < (↑(List.length wa) : Int) ∧ f.toNat < List.length wa ∧ f.toNat < (wa).length ∧ (0 : Int) ≤ t ∧ t < (↑((wa).getD f.toNat []).length : Int) ∧ f.toNat < (wa).length ∧ t.toNat < ((wa).getD f.toNat []).length ∧ True) ∧ (decide (mk = (0 : Int)) = true → True ∧ ((!inB s (0 : Int) (1000 : Int)) = true → (1 : Int) ≠ (0 : Int) ∧ k (SV.d (Ty.err (76 : Nat)) (1 : Int)) [Ob.st (90 : Nat) [SV.os (1 : Nat), SV.os (2 : Nat), SV.os (3 : Nat), SV.os (4 : Nat), SV.os (5 : Nat), SV.d Ty.bool bg], Ob.row (3 : Nat) (I) mo, Ob.trow (41 : Nat) (Ot.sl (29 : Nat) (Ot.sl (3 : Nat) (Ot.d (I)))) wa, Ob.row (3 : Nat) (I) no, Ob.trow (30 : Nat) (Ot.sl (4 : Nat) (Ot.d Ty.bool)) he, Ob.trow (29 : Nat) (Ot.sl (3 : Nat) (Ot.d (I))) ca]) ∧ ((!inB s (0 : Int) (1000 : Int)) = false → ((0 : Int) ≤ f ∧ f < (↑mo.length : Int) ∧ True) ∧ (decide (mo.getD f.toNat (0 : Int) < s) = true → (5 : Int) ≠ (0 : Int) ∧ k (SV.d (Ty.err (76 : Nat)) (5 : Int)) [Ob.st (90 : Nat) [SV.os (1 : Nat), SV.os (2 : Nat), SV.os (3 : Nat), SV.os (4 : Nat), SV.os (5 : Nat), SV.d Ty.bool bg], Ob.row (3 : Nat) (I) mo, Ob.trow (41 : Nat) (Ot.sl (29 : Nat) (Ot.sl (3 : Nat) (Ot.d (I)))) wa, Ob.row (3 : Nat) (I) no, Ob.trow (30 : Nat) (Ot.sl (4 : Nat) (Ot.d Ty.bool)) he, Ob.trow (29 : Nat) (Ot.sl (3 : Nat) (Ot.d (I))) ca]) ∧ (decide (mo.getD f.toNat (0 : Int) < s) = false → f.toNat < (wa).length ∧ t.toNat < (((wa).getD f.toNat [])).length ∧ (decide ((8 : Int) ≤ (↑((((wa).getD f.toNat [])).getD t.toNat []).length : Int)) = true → (4 : Int) ≠ (0 : Int) ∧ k (SV.d (Ty.err (76 : Nat)) (4 : Int)) [Ob.st (90 : Nat) [SV.os (1 : Nat), SV.os (2 : Nat), SV.os (3 : Nat), SV.os (4 : Nat), SV.os (5 : Nat), SV.d Ty.bool bg], Ob.row (3 : Nat) (I) mo, Ob.trow (41 : Nat) (Ot.sl (29 : Nat) (Ot.sl (3 : Nat) (Ot.d (I)))) wa, Ob.row (3 : Nat) (I) no, Ob.trow (30 : Nat) (Ot.sl (4 : Nat) (Ot.d Ty.bool)) he, Ob.trow (29 : Nat) (Ot.sl (3 : Nat) (Ot.d (I))) ca]) ∧ (decide ((8 : Int) ≤ (↑((((wa).getD f.toNat [])).getD t.toNat []).length : Int)) = false → ((0 : Int) ≤ f ∧ f < (↑mo.length : Int) ∧ inK IntKind.i64 (mo.getD f.toNat (0 : Int) - s) ∧ (0 : Int) ≤ f ∧ f < (↑mo.length : Int) ∧ True) ∧ f.toNat < (wa).length ∧ f.toNat = f.toNat ∧ t.toNat < (((wa).getD f.toNat [])).length ∧ t.toNat = t.toNat ∧ (0 : Int) ≤ f ∧ f < (↑(List.length wa) : Int) ∧ f.toNat = f.toNat ∧ True ∧ ((((wa).getD f.toNat [])).getD t.toNat []).length + ((List.replicate (1 : Nat) (0 : Int)).set (0 : Nat) s).length ≤ (1000000000 : Nat) ∧ (0 : Int) ≤ t ∧ t < (↑((wa).getD f.toNat []).length : Int) ∧ (SV.ps (0 : Nat) = SV.ps (0 : Nat) ∧ SV.pf (I).sl.sl.sl (0 : Nat) (1 : Nat) [] = SV.pf (I).sl.sl.sl (0 : Nat) (1 : Nat) [] ∧ SV.os (2 : Nat) = SV.os (2 : Nat) ∧ SV.pv ((I).pr ((I).pr ((I).pr ((I).pr Ty.un)))) (6 : Nat) ([] ++ [(1 : Nat)]) = SV.pv ((I).pr ((I).pr ((I).pr ((I).pr Ty.un)))) (6 : Nat) ([] ++ [(1 : Nat)]) ∧ f = f ∧ ((0 : Int) ≤ f ∧ f < (↑(List.length wa) : Int) ∧ SV.ta (I).sl.sl (2 : Nat) [] f.toNat [] = SV.ta (I).sl.sl (2 : Nat) [] f.toNat []) ∧ (f.toNat = f.toNat ∧ SV.os (7 : Nat) = SV.os (7 : Nat)) ∧ SV.pv ((I).pr ((I).pr ((I).pr ((I).pr Ty.un)))) (6 : Nat) ([] ++ [(2 : Nat)]) = SV.pv ((I).pr ((I).pr ((I).pr ((I).pr Ty.un)))) (6 : Nat) ([] ++ [(2 : Nat)]) ∧ t = t ∧ True) ∧ t.toNat = t.toNat ∧ True ∧ k (SV.d (Ty.err (76 : Nat)) (0 : Int)) [Ob.st (90 : Nat) [SV.os (1 : Nat), SV.os (2 : Nat), SV.os (3 : Nat), SV.os (4 : Nat), SV.os (5 : Nat), SV.d Ty.bool bg], Ob.row (3 : Nat) (I) (mo.set f.toNat (mo.getD f.toNat (0 : Int) - s)), Ob.trow (41 : Nat) (Ot.sl (29 : Nat) (Ot.sl (3 : Nat) (Ot.d (I)))) ((wa).set f.toNat (((((wa).getD f.toNat [])).set t.toNat (((((wa).getD f.toNat [])).getD t.toNat []).append ((List.replicate (1 : Nat) (0 : Int)).set (0 : Nat) s))))), Ob.row (3 : Nat) (I) no, Ob.trow (30 : Nat) (Ot.sl (4 : Nat) (Ot.d Ty.bool)) he, Ob.trow (29 : Nat) (Ot.sl (3 : Nat) (Ot.d (I))) ca])))) ∧ (decide (mk = (0 : Int)) = false → f.toNat < (wa).length ∧ t.toNat < (((wa).getD f.toNat [])).length ∧ (decide ((↑((((wa).getD f.toNat [])).getD t.toNat []).length : Int) = (0 : Int)) = true → (5 : Int) ≠ (0 : Int) ∧ k (SV.d (Ty.err (76 : Nat)) (5 : Int)) [Ob.st (90 : Nat) [SV.os (1 : Nat), SV.os (2 : Nat), SV.os (3 : Nat), SV.os (4 : Nat), SV.os (5 : Nat), SV.d Ty.bool bg], Ob.row (3 : Nat) (I) mo, Ob.trow (41 : Nat) (Ot.sl (29 : Nat) (Ot.sl (3 : Nat) (Ot.d (I)))) wa, Ob.row (3 : Nat) (I) no, Ob.trow (30 : Nat) (Ot.sl (4 : Nat) (Ot.d Ty.bool)) he, Ob.trow (29 : Nat) (Ot.sl (3 : Nat) (Ot.d (I))) ca]) ∧ (decide ((↑((((wa).getD f.toNat [])).getD t.toNat []).length : Int) = (0 : Int)) = false → f.toNat < (wa).length ∧ f.toNat = f.toNat ∧ t.toNat < (((wa).getD f.toNat [])).length ∧ t.toNat = t.toNat ∧ ((0 : Int) ≤ f ∧ f < (↑(List.length wa) : Int) ∧ f.toNat = f.toNat ∧ ((0 : Int) ≤ (1 : Int) ∧ (1 : Int) ≤ (↑((((wa).getD f.toNat [])).getD t.toNat []).length : Int) ∧ (0 : Nat) < ((((wa).getD f.toNat [])).getD t.toNat []).length) ∧ (0 : Int) ≤ t ∧ t < (↑((wa).getD f.toNat []).length : Int) ∧ True) ∧ t.toNat = t.toNat ∧ ((0 : Int) ≤ (0 : Int) ∧ (0 : Int) < (↑((((wa).getD f.toNat [])).getD t.toNat []).length : Int) ∧ True) ∧ (BkS (Bk.mk mo ((wa).set f.toNat (((((wa).getD f.toNat [])).set t.toNat (List.drop (1 : Nat) ((((wa).getD f.toNat [])).getD t.toNat []))))) no he ca bg) ∧ ((-1000000000 : Int) ≤ ((((wa).getD f.toNat [])).getD t.toNat []).getD (0 : Nat) (0 : Int) ∧ ((((wa).getD f.toNat [])).getD t.toNat []).getD (0 : Nat) (0 : Int) ≤ (1000000000 : Int)) ∧ ((0 : Int) ≤ f ∧ f < (↑mo.length : Int)) ∧ (0 : Int) ≤ t ∧ t < (↑mo.length : Int)) ∧ k (SV.d (Ty.err (76 : Nat)) (0 : Int)) [Ob.st (90 : Nat) [SV.os (1 : Nat), SV.os (2 : Nat), SV.os (3 : Nat), SV.os (4 : Nat), SV.os (5 : Nat), SV.d Ty.bool (comeF (Bk.mk mo ((wa).set f.toNat (((((wa).getD f.toNat [])).set t.toNat (List.drop (1 : Nat) ((((wa).getD f.toNat [])).getD t.toNat []))))) no he ca bg) (((((wa).getD f.toNat [])).getD t.toNat []).getD (0 : Nat) (0 : Int)) f.toNat t.toNat).bg], Ob.row (3 : Nat) (I) (comeF (Bk.mk mo ((wa).set f.toNat (((((wa).getD f.toNat [])).set t.toNat (List.drop (1 : Nat) ((((wa).getD f.toNat [])).getD t.toNat []))))) no he ca bg) (((((wa).getD f.toNat [])).getD t.toNat []).getD (0 : Nat) (0 : Int)) f.toNat t.toNat).mo, Ob.trow (41 : Nat) (Ot.sl (29 : Nat) (Ot.sl (3 : Nat) (Ot.d (I)))) (comeF (Bk.mk mo ((wa).set f.toNat (((((wa).getD f.toNat [])).set t.toNat (List.drop (1 : Nat) ((((wa).getD f.toNat [])).getD t.toNat []))))) no he ca bg) (((((wa).getD f.toNat [])).getD t.toNat []).getD (0 : Nat) (0 : Int)) f.toNat t.toNat).wa, Ob.row (3 : Nat) (I) (comeF (Bk.mk mo ((wa).set f.toNat (((((wa).getD f.toNat [])).set t.toNat (List.drop (1 : Nat) ((((wa).getD f.toNat [])).getD t.toNat []))))) no he ca bg) (((((wa).getD f.toNat [])).getD t.toNat []).getD (0 : Nat) (0 : Int)) f.toNat t.toNat).no, Ob.trow (30 : Nat) (Ot.sl (4 : Nat) (Ot.d Ty.bool)) (comeF (Bk.mk mo ((wa).set f.toNat (((((wa).getD f.toNat [])).set t.toNat (List.drop (1 : Nat) ((((wa).getD f.toNat [])).getD t.toNat []))))) no he ca bg) (((((wa).getD f.toNat [])).getD t.toNat []).getD (0 : Nat) (0 : Int)) f.toNat t.toNat).he, Ob.trow (29 : Nat) (Ot.sl (3 : Nat) (Ot.d (I))) (comeF (Bk.mk mo ((wa).set f.toNat (((((wa).getD f.toNat [])).set t.toNat (List.drop (1 : Nat) ((((wa).getD f.toNat [])).getD t.toNat []))))) no he ca bg) (((((wa).getD f.toNat [])).getD t.toNat []).getD (0 : Nat) (0 : Int)) f.toNat t.toNat).ca])))))))) := by kernel_rfl
theorem vcClone (xs : List Int) (k : SV → List Ob → Prop) : vcO ⟨Et, [], glK, [], []⟩ [] (Tryd.f38.body.getD .skip) Tryd.f38.ntmps [(.tmp 2, .un)] [.os 0] [.row 3 I xs] k = (
  ∀ (b : Bool), (b = true → xs = []) → (b = true → k SV.nils [Ob.row (3 : Nat) (I) xs]) ∧ (b = false → ([] : List Int).length + xs.length ≤ (1000000000 : Nat) ∧ k (SV.os (1 : Nat)) [Ob.row (3 : Nat) (I) xs, Ob.row (3 : Nat) (I) xs])) := by kernel_rfl
theorem vcCloneD (xs : List Int) (k : SV → List Ob → Prop) : vcO ⟨Et, [], glK, [], []⟩ [] (Tryd.f38.body.getD .skip) Tryd.f38.ntmps [(.tmp 2, .un)] [.d (.sl I) xs] [] k = (
  ∀ (b : Bool), (b = true → xs = []) → (b = true → k SV.nils []) ∧ (b = false → ([] : List Int).length + xs.length ≤ (1000000000 : Nat) ∧ k (SV.os (0 : Nat)) [Ob.row (3 : Nat) (I) xs])) := by kernel_rfl
theorem vcMoney (mo : List Int) (wa : L3) (no : List Int) (he : B2) (ca : L2) (bg : Bool) (k : SV → List Ob → Prop) : vcO ⟨Et, [], glK, [], [(38, oClone)]⟩ [] (Tryd.f26.body.getD .skip) Tryd.f26.ntmps [(.tmp 2, .un)] [.ps 0] (bob ⟨mo, wa, no, he, ca, bg⟩) k = (
  mo.length ≤ (1000000 : Nat) ∧ k (SV.os (1 : Nat)) [Ob.st (90 : Nat) [SV.os (2 : Nat), SV.os (3 : Nat), SV.os (4 : Nat), SV.os (5 : Nat), SV.os (6 : Nat), SV.d Ty.bool bg], Ob.row (3 : Nat) (I) mo, Ob.row (3 : Nat) (I) mo, Ob.trow (41 : Nat) (Ot.sl (29 : Nat) (Ot.sl (3 : Nat) (Ot.d (I)))) wa, Ob.row (3 : Nat) (I) no, Ob.trow (30 : Nat) (Ot.sl (4 : Nat) (Ot.d Ty.bool)) he, Ob.trow (29 : Nat) (Ot.sl (3 : Nat) (Ot.d (I))) ca]) := by kernel_rfl
theorem vcWay (mo : List Int) (wa : L3) (no : List Int) (he : B2) (ca : L2) (bg : Bool) (f t : Int) (k : SV → List Ob → Prop) : vcO ⟨Et, [(30, cWithin)], glK, [], [(38, oClone)]⟩ (anWay f t) (Tryd.f29.body.getD .skip) Tryd.f29.ntmps [(.tmp 6, .un)] [.ps 0, .d I f, .d I t] (bob ⟨mo, wa, no, he, ca, bg⟩) k = (
  inK IntKind.i64 ((↑mo.length : Int) - (1 : Int)) ∧ True ∧ ((!inB f (0 : Int) ((↑mo.length : Int) - (1 : Int))) = true → k SV.nils [Ob.st (90 : Nat) [SV.os (1 : Nat), SV.os (2 : Nat), SV.os (3 : Nat), SV.os (4 : Nat), SV.os (5 : Nat), SV.d Ty.bool bg], Ob.row (3 : Nat) (I) mo, Ob.trow (41 : Nat) (Ot.sl (29 : Nat) (Ot.sl (3 : Nat) (Ot.d (I)))) wa, Ob.row (3 : Nat) (I) no, Ob.trow (30 : Nat) (Ot.sl (4 : Nat) (Ot.d Ty.bool)) he, Ob.trow (29 : Nat) (Ot.sl (3 : Nat) (Ot.d (I))) ca]) ∧ ((!inB f (0 : Int) ((↑mo.length : Int) - (1 : Int))) = false → inK IntKind.i64 ((↑mo.length : Int) - (1 : Int)) ∧ True ∧ ((!inB t (0 : Int) ((↑mo.length : Int) - (1 : Int))) = true → k SV.nils [Ob.st (90 : Nat) [SV.os (1 : Nat), SV.os (2 : Nat), SV.os (3 : Nat), SV.os (4 : Nat), SV.os (5 : Nat), SV.d Ty.bool bg], Ob.row (3 : Nat) (I) mo, Ob.trow (41 : Nat) (Ot.sl (29 : Nat) (Ot.sl (3 : Nat) (Ot.d (I)))) wa, Ob.row (3 : Nat) (I) no, Ob.trow (30 : Nat) (Ot.sl (4 : Nat) (Ot.d Ty.bool)) he, Ob.trow (29 : Nat) (Ot.sl (3 : Nat) (Ot.d (I))) ca]) ∧ ((!inB t (0 : Int) ((↑mo.length : Int) - (1 : Int))) = false → f.toNat < (wa).length ∧ t.toNat < (((wa).getD f.toNat [])).length ∧ (0 : Int) ≤ f ∧ f < (↑(List.length wa) : Int) ∧ f.toNat = f.toNat ∧ (0 : Int) ≤ t ∧ t < (↑((wa).getD f.toNat []).length : Int) ∧ t.toNat = t.toNat ∧ ((((wa).getD f.toNat [])).getD t.toNat []).length ≤ (1000000 : Nat) ∧ k (SV.os (1 : Nat)) [Ob.st (90 : Nat) [SV.os (2 : Nat), SV.os (3 : Nat), SV.os (4 : Nat), SV.os (5 : Nat), SV.os (6 : Nat), SV.d Ty.bool bg], Ob.row (3 : Nat) (I) ((((wa).getD f.toNat [])).getD t.toNat []), Ob.row (3 : Nat) (I) mo, Ob.trow (41 : Nat) (Ot.sl (29 : Nat) (Ot.sl (3 : Nat) (Ot.d (I)))) ((wa).set f.toNat (((((wa).getD f.toNat [])).set t.toNat ((((wa).getD f.toNat [])).getD t.toNat [])))), Ob.row (3 : Nat) (I) no, Ob.trow (30 : Nat) (Ot.sl (4 : Nat) (Ot.d Ty.bool)) he, Ob.trow (29 : Nat) (Ot.sl (3 : Nat) (Ot.d (I))) ca]))) := by kernel_rfl
theorem vcMin (l : List Int) (k : List Dat → Prop) : vcF ⟨Et, [], glK, [], []⟩ (anMin l) (Tryd.f37.body.getD .skip) Tryd.f37.ntmps [(.tmp 2, I)] [⟨.sl I, l⟩] k = (
  (decide ((↑l.length : Int) < (1 : Int)) = true → False) ∧ (decide ((↑l.length : Int) < (1 : Int)) = false → (0 : Int) ≤ (0 : Int) ∧ (0 : Int) < (↑l.length : Int) ∧ (∃ (x : Nat), ((1 : Nat) ≤ x ∧ x ≤ l.length) ∧ (l = l ∧ l.getD (Int.toNat (0 : Int)) (0 : Int) = minL (List.take x l) ∧ (1 : Int) = (↑x : Int) ∧ True) ∧ True ∧ hdE = hdE ∧ True) ∧ ∀ (x : Nat), (1 : Nat) ≤ x ∧ x ≤ l.length → (decide ((↑x : Int) < (↑l.length : Int)) = true → (0 : Int) ≤ (↑x : Int) ∧ (↑x : Int) < (↑l.length : Int) ∧ inK IntKind.i64 ((↑x : Int) + (1 : Int)) ∧ ∃ (x_1 : Nat), ((1 : Nat) ≤ x_1 ∧ x_1 ≤ l.length) ∧ l.length - x_1 < l.length - x ∧ (l = l ∧ min (minL (List.take x l)) (l.getD (↑x : Int).toNat (0 : Int)) = minL (List.take x_1 l) ∧ (↑x : Int) + (1 : Int) = (↑x_1 : Int) ∧ True) ∧ True ∧ hdE = hdE ∧ True) ∧ (decide ((↑x : Int) < (↑l.length : Int)) = false → k [Dat.mk (I) (minL (List.take x l))]))) := by kernel_rfl
theorem vcNew (mo : List Int) (k : SV → List Ob → Prop) : vcO ⟨EtN, [(30, cWithin)], glK, [], [(38, oClone)]⟩ (anNew mo) (Tryd.f22.body.getD .skip) Tryd.f22.ntmps [(.tmp 2, .un), (.tmp 3, tErr)] [.d (.sl I) mo] [] k = (
  (decide ((↑mo.length : Int) = (0 : Int)) = true → (5 : Int) ≠ (0 : Int) ∧ k (SV.tp [SV.nilp, SV.d (Ty.err (76 : Nat)) (5 : Int)]) []) ∧ (decide ((↑mo.length : Int) = (0 : Int)) = false → (decide ((5 : Int) < (↑mo.length : Int)) = true → (4 : Int) ≠ (0 : Int) ∧ k (SV.tp [SV.nilp, SV.d (Ty.err (76 : Nat)) (4 : Int)]) []) ∧ (decide ((5 : Int) < (↑mo.length : Int)) = false → (∃ (x : Nat), (x ≤ mo.length ∧ moOk (List.take x mo) = true) ∧ (mo = mo ∧ mo = mo ∧ (↑mo.length : Int) = (↑mo.length : Int) ∧ (0 : Int) = (↑x : Int) ∧ True) ∧ True ∧ mo = mo ∧ hdE = hdE ∧ True) ∧ ∀ (x : Nat), x ≤ mo.length ∧ moOk (List.take x mo) = true → (decide ((↑x : Int) < (↑mo.length : Int)) = true → (0 : Int) ≤ (↑x : Int) ∧ (↑x : Int) < (↑mo.length : Int) ∧ True ∧ ((!inB (mo.getD (↑x : Int).toNat (0 : Int)) (0 : Int) (1000 : Int)) = true → (1 : Int) ≠ (0 : Int) ∧ k (SV.tp [SV.nilp, SV.d (Ty.err (76 : Nat)) (1 : Int)]) []) ∧ ((!inB (mo.getD (↑x : Int).toNat (0 : Int)) (0 : Int) (1000 : Int)) = false → inK IntKind.i64 ((↑x : Int) + (1 : Int)) ∧ ∃ (x_1 : Nat), (x_1 ≤ mo.length ∧ moOk (List.take x_1 mo) = true) ∧ mo.length - x_1 < mo.length - x ∧ (mo = mo ∧ mo = mo ∧ (↑mo.length : Int) = (↑mo.length : Int) ∧ (↑x : Int) + (1 : Int) = (↑x_1 : Int) ∧ True) ∧ True ∧ mo = mo ∧ hdE = hdE ∧ True)) ∧ (decide ((↑x : Int) < (↑mo.length : Int)) = false → mo.length ≤ (1000000 : Nat) ∧ (∃ (x : Nat), (x ≤ mo.length ∧ True) ∧ (mo = mo ∧ True ∧ mo = mo ∧ (↑mo.length : Int) = (↑mo.length : Int) ∧ (0 : Int) = (↑x : Int) ∧ True) ∧ (((3 : Nat) = (3 : Nat) ∧ mo = mo) ∧ (True ∧ True ∧ True ∧ True ∧ True ∧ false = false ∧ True) ∧ [] = rowsW mo.length x ∧ ((3 : Nat) = (3 : Nat) ∧ [] = List.replicate x (-1 : Int)) ∧ [] = rowsH mo.length x ∧ [] = rowsC mo.length x ∧ True) ∧ mo = mo ∧ hdE = hdE ∧ True) ∧ ∀ (x : Nat), x ≤ mo.length ∧ True → (decide ((↑x : Int) < (↑mo.length : Int)) = true → True ∧ ((0 : Int) ≤ (↑mo.length : Int) ∧ (↑mo.length : Int) ≤ (↑mo.length : Int) ∧ (↑mo.length : Int) ≤ (1000000000 : Int) ∧ (SV.ps (1 : Nat) = SV.ps (1 : Nat) ∧ SV.pf (I).sl.sl.sl (1 : Nat) (1 : Nat) [] = SV.pf (I).sl.sl.sl (1 : Nat) (1 : Nat) [] ∧ SV.os (2 : Nat) = SV.os (2 : Nat) ∧ True) ∧ ((SV.ps (1 : Nat) = SV.ps (1 : Nat) ∧ SV.pf (I).sl.sl.sl (1 : Nat) (1 : Nat) [] = SV.pf (I).sl.sl.sl (1 : Nat) (1 : Nat) [] ∧ SV.os (2 : Nat) = SV.os (2 : Nat) ∧ True) ∧ (List.length (rowsW mo.length x) + [List.replicate (↑mo.length : Int).toNat ([] : List Int)].length ≤ (1000000000 : Nat) ∧ True ∧ (True ∧ (List.replicate x (-1 : Int)).length + ((List.replicate (1 : Nat) (0 : Int)).set (0 : Nat) (-1 : Int)).length ≤ (1000000000 : Nat) ∧ True ∧ ((0 : Int) ≤ (↑mo.length : Int) ∧ (↑mo.length : Int) ≤ (↑mo.length : Int) ∧ (↑mo.length : Int) ≤ (1000000000 : Int) ∧ (SV.ps (1 : Nat) = SV.ps (1 : Nat) ∧ SV.pf Ty.bool.sl.sl (1 : Nat) (3 : Nat) [] = SV.pf Ty.bool.sl.sl (1 : Nat) (3 : Nat) [] ∧ SV.os (4 : Nat) = SV.os (4 : Nat) ∧ True) ∧ ((SV.ps (1 : Nat) = SV.ps (1 : Nat) ∧ SV.pf Ty.bool.sl.sl (1 : Nat) (3 : Nat) [] = SV.pf Ty.bool.sl.sl (1 : Nat) (3 : Nat) [] ∧ SV.os (4 : Nat) = SV.os (4 : Nat) ∧ True) ∧ (List.length (rowsH mo.length x) + [List.replicate (↑mo.length : Int).toNat false].length ≤ (1000000000 : Nat) ∧ True ∧ (True ∧ True ∧ ((0 : Int) ≤ (↑mo.length : Int) ∧ (↑mo.length : Int) ≤ (↑mo.length : Int) ∧ (↑mo.length : Int) ≤ (1000000000 : Int) ∧ (SV.ps (1 : Nat) = SV.ps (1 : Nat) ∧ SV.pf (I).sl.sl (1 : Nat) (4 : Nat) [] = SV.pf (I).sl.sl (1 : Nat) (4 : Nat) [] ∧ SV.os (5 : Nat) = SV.os (5 : Nat) ∧ True) ∧ ((SV.ps (1 : Nat) = SV.ps (1 : Nat) ∧ SV.pf (I).sl.sl (1 : Nat) (4 : Nat) [] = SV.pf (I).sl.sl (1 : Nat) (4 : Nat) [] ∧ SV.os (5 : Nat) = SV.os (5 : Nat) ∧ True) ∧ (List.length (rowsC mo.length x) + [List.replicate (↑mo.length : Int).toNat (0 : Int)].length ≤ (1000000000 : Nat) ∧ True ∧ (True ∧ inK IntKind.i64 ((↑x : Int) + (1 : Int)) ∧ ∃ (x_1 : Nat), (x_1 ≤ mo.length ∧ True) ∧ mo.length - x_1 < mo.length - x ∧ (mo = mo ∧ True ∧ mo = mo ∧ (↑mo.length : Int) = (↑mo.length : Int) ∧ (↑x : Int) + (1 : Int) = (↑x_1 : Int) ∧ True) ∧ (((3 : Nat) = (3 : Nat) ∧ mo = mo) ∧ (True ∧ True ∧ True ∧ True ∧ True ∧ false = false ∧ True) ∧ List.append (rowsW mo.length x) [List.replicate (↑mo.length : Int).toNat ([] : List Int)] = rowsW mo.length x_1 ∧ ((3 : Nat) = (3 : Nat) ∧ (List.replicate x (-1 : Int)).append ((List.replicate (1 : Nat) (0 : Int)).set (0 : Nat) (-1 : Int)) = List.replicate x_1 (-1 : Int)) ∧ List.append (rowsH mo.length x) [List.replicate (↑mo.length : Int).toNat false] = rowsH mo.length x_1 ∧ List.append (rowsC mo.length x) [List.replicate (↑mo.length : Int).toNat (0 : Int)] = rowsC mo.length x_1 ∧ True) ∧ mo = mo ∧ hdE = hdE ∧ True) ∧ True) ∧ True ∧ True) ∧ True ∧ True ∧ True) ∧ True ∧ True ∧ True ∧ True) ∧ True) ∧ True ∧ True) ∧ True ∧ True ∧ True) ∧ True ∧ True ∧ True ∧ True) ∧ True) ∧ True ∧ True) ∧ True ∧ True ∧ True) ∧ True ∧ True ∧ True ∧ True) ∧ (decide ((↑x : Int) < (↑mo.length : Int)) = false → k (SV.tp [SV.ps (0 : Nat), SV.d (Ty.err (76 : Nat)) (0 : Int)]) [Ob.st (90 : Nat) [SV.os (1 : Nat), SV.os (2 : Nat), SV.os (3 : Nat), SV.os (4 : Nat), SV.os (5 : Nat), SV.d Ty.bool false], Ob.row (3 : Nat) (I) mo, Ob.trow (41 : Nat) (Ot.sl (29 : Nat) (Ot.sl (3 : Nat) (Ot.d (I)))) (rowsW mo.length x), Ob.row (3 : Nat) (I) (List.replicate x (-1 : Int)), Ob.trow (30 : Nat) (Ot.sl (4 : Nat) (Ot.d Ty.bool)) (rowsH mo.length x), Ob.trow (29 : Nat) (Ot.sl (3 : Nat) (Ot.d (I))) (rowsC mo.length x)]))))) := by kernel_rfl
end Go.Proofs.YtjgdpblaghhfhaaDoor

/- Banks: the program's functions keep their contracts. -/
namespace Go.Proofs.YtjgdpblaghhfhaaDoor.N
open Go.Vc
theorem getD_set {α : Type} (l : List α) (i j : Nat) (v d : α) (hi : i < l.length) : (l.set i v).getD j d = if i = j then v else l.getD j d := by
  rw [List.getD_eq_getElem?_getD, List.getElem?_set]
  split
  · rename_i h; subst h; simp [hi]
  · rw [List.getD_eq_getElem?_getD]
theorem getD_memL {α : Type} {l : List α} {i : Nat} (h : i < l.length) (d : α) : l.getD i d ∈ l := by
  rw [List.getD_eq_getElem?_getD, List.getElem?_eq_getElem h]; exact List.getElem_mem ..
theorem set_getD_self {α : Type} (l : List α) (i : Nat) (d : α) : l.set i (l.getD i d) = l := by
  by_cases h : i < l.length
  · rw [List.getD_eq_getElem?_getD, List.getElem?_eq_getElem h]; exact List.set_getElem_self h
  · exact List.set_eq_of_length_le (by omega)
/-- a square of things -/
structure Sq {α : Type} (k : List (List α)) (n : Nat) : Prop where
  a : k.length = n
  b : ∀ i, i < n → (k.getD i []).length = n
def atG {α : Type} (k : List (List α)) (d : α) (i j : Nat) : α := (k.getD i []).getD j d
def wrG {α : Type} (k : List (List α)) (i j : Nat) (v : α) : List (List α) := k.set i ((k.getD i []).set j v)
theorem Sq.wr {α : Type} {k : List (List α)} {n : Nat} (h : Sq k n) {a b : Nat} (v : α) (ha : a < n) : Sq (wrG k a b v) n := by
  unfold wrG
  refine ⟨by rw [List.length_set]; exact h.a, fun i hi => ?_⟩
  rw [getD_set _ _ _ _ _ (by rw [h.a]; exact ha)]
  split
  · rw [List.length_set]; exact h.b a ha
  · exact h.b i hi
theorem atG_wr {α : Type} {k : List (List α)} {n : Nat} (h : Sq k n) {a b : Nat} (v d : α) (ha : a < n) (hb : b < n) (i j : Nat) : atG (wrG k a b v) d i j = if a = i ∧ b = j then v else atG k d i j := by
  unfold wrG atG
  rw [getD_set _ _ _ _ _ (by rw [h.a]; exact ha)]
  by_cases h1 : a = i
  · rw [if_pos h1, getD_set _ _ _ _ _ (by rw [h.b a ha]; exact hb)]
    by_cases h2 : b = j
    · rw [if_pos h2, if_pos ⟨h1, h2⟩]
    · rw [if_neg h2, if_neg (fun h => h2 h.2), h1]
  · rw [if_neg h1, if_neg (fun h => h1 h.1)]
theorem noteW_sq {w : L3} {n : Nat} (h : Sq w n) {p : Nat} (hp : p < n) : ∀ m, Sq (noteW w p m) n
  | 0 => h
  | m + 1 => by
    unfold noteW
    split
    · exact noteW_sq h hp m
    · exact (noteW_sq h hp m).wr _ hp
theorem noteW_at {w : L3} {n : Nat} (h : Sq w n) {p : Nat} (hp : p < n) (i j : Nat) : ∀ m, m ≤ n → at3 (noteW w p m) i j = if i = p ∧ j < m ∧ j ≠ p then at3 w i j ++ [-1] else at3 w i j
  | 0, _ => by unfold noteW; rw [if_neg (by omega)]
  | m + 1, hm => by
    have ih := noteW_at h hp i j m (by omega)
    have ih2 := noteW_at h hp p m m (by omega)
    unfold noteW
    split
    · rename_i hmp
      rw [ih]
      by_cases hc : i = p ∧ j < m ∧ j ≠ p
      · rw [if_pos hc, if_pos ⟨hc.1, by omega, hc.2.2⟩]
      · rw [if_neg hc, if_neg (by omega)]
    · rename_i hmp
      have := atG_wr (noteW_sq h hp m) (List.append (at3 (noteW w p m) p m) [-1]) [] hp (by omega : m < n) i j
      have e : at3 (wr3 (noteW w p m) p m (List.append (at3 (noteW w p m) p m) [-1])) i j = _ := this
      rw [e]
      by_cases hc : p = i ∧ m = j
      · obtain ⟨rfl, rfl⟩ := hc
        rw [if_pos ⟨rfl, rfl⟩, ih2, if_neg (by omega), if_pos ⟨rfl, by omega, hmp⟩]
        rfl
      · rw [if_neg hc]
        have ih' : atG (noteW w p m) [] i j = _ := ih
        rw [ih']
        by_cases hd : i = p ∧ j < m ∧ j ≠ p
        · rw [if_pos hd, if_pos ⟨hd.1, by omega, hd.2.2⟩]
        · rw [if_neg hd, if_neg (by omega)]
theorem BkS.sw {b : Bk} (S : BkS b) : Sq b.wa b.mo.length := ⟨S.wa, S.wa2⟩
theorem BkS.sh {b : Bk} (S : BkS b) : Sq b.he b.mo.length := ⟨S.he, S.he2⟩
theorem BkS.sc {b : Bk} (S : BkS b) : Sq b.ca b.mo.length := ⟨S.ca, S.ca2⟩
theorem okWithin : PlainOk Tryd.prog glK 30 cWithin := by
  refine plain_of (CxOk.mk' Et_ok rfl mixed (gl := glK) GOk.nil GoOk.nil noIt) Tryd.func30 (c := Tryd.f30.body.getD .skip) (rvs := [(.tmp 6, .bool)]) (by kernel_rfl) (by kernel_rfl) (by kernel_rfl) ?_
  intro ds k ⟨hp, hk⟩ hwf
  obtain ⟨a, b, c, rfl, -⟩ := dest3 hp
  have hk : k [⟨.bool, inB a b c⟩] := hk
  refine ⟨[], ?_⟩
  rw [vcWithin]
  unfold inB at hk
  refine ⟨fun h => ?_, fun h => ?_⟩ <;> simpa [h] using hk
theorem note_vc (mo : List Int) (wa : L3) (no : List Int) (he : B2) (ca : L2) (bg : Bool) (p : Int) (k : SV → List Ob → Prop) (S : BkS ⟨mo, wa, no, he, ca, bg⟩) (h0 : 0 ≤ p) (h1 : p < (mo.length : Int))
    (hk : k (.tp []) (bob (noteF ⟨mo, wa, no, he, ca, bg⟩ p.toNat))) :
    vcO ⟨Et, [], glK, [], []⟩ (anNote ⟨mo, wa, no, he, ca, bg⟩ p) (Tryd.f42.body.getD .skip) Tryd.f42.ntmps [] [.ps 0, .d I p] (bob ⟨mo, wa, no, he, ca, bg⟩) k := by
  rw [vcNote]
  have P : p.toNat < mo.length := by omega
  have W := fun m => noteW_sq S.sw P m
  have hno : no.length = mo.length := S.no
  have n5 : mo.length ≤ 5 := S.n5
  have e1 : (List.replicate 1 (0 : Int)).set 0 (-1) = [-1] := rfl
  simp only [Int.toNat_natCast, and_true, true_and, e1, decide_eq_true_eq, decide_eq_false_iff_not, Bool.not_eq_true', Bool.not_eq_false', Bool.not_eq_eq_eq_not, Bool.not_true, Bool.not_false]
  refine ⟨h0, h1, h0, by omega, ⟨0, Nat.zero_le _, rfl, rfl⟩, fun x hx => ⟨fun hlt => ⟨fun hne => ?_, fun heq => ?_⟩, fun hge => ?_⟩⟩
  · have w1 : (noteW wa p.toNat x).length = mo.length := (W x).a
    have w2 : ((noteW wa p.toNat x).getD p.toNat []).length = mo.length := (W x).b _ P
    have w3 : (List.length (noteW wa p.toNat x)) = mo.length := w1
    have w4 : (((noteW wa p.toNat x).getD p.toNat []).getD x []).length ≤ 100001 := by
      have e := noteW_at S.sw P p.toNat x x hx
      have e' : ((noteW wa p.toNat x).getD p.toNat []).getD x [] = _ := e
      rw [e', if_neg (by omega)]
      exact Nat.le_succ_of_le (S.wk p.toNat x P (show x < mo.length by omega))
    have w5 : (wr3 (noteW wa p.toNat x) p.toNat x (List.append (at3 (noteW wa p.toNat x) p.toNat x) [-1])) = noteW wa p.toNat (x + 1) := by
      show _ = if x = p.toNat then _ else _
      rw [if_neg (by omega)]
    exact ⟨by omega, by omega, h0, by omega, h0, by omega, by omega, by omega, by simp only [List.length_singleton]; omega, by omega, by omega, ⟨h0, by omega⟩, inK_i64.2 (by omega), x + 1, by omega, by omega, by omega, w5⟩
  · have w5 : noteW wa p.toNat x = noteW wa p.toNat (x + 1) := by
      show _ = if x = p.toNat then _ else _
      rw [if_pos (by omega)]
    exact ⟨inK_i64.2 (by omega), x + 1, by omega, by omega, by omega, w5⟩
  · have : x = mo.length := by omega
    subst this
    exact hk
theorem okNote : OwnOk Tryd.prog glK 42 oNote := by
  refine own_of (CxOk.mk' Et_ok rfl mixed (gl := glK) GOk.nil GoOk.nil noIt) Tryd.func42 (c := Tryd.f42.body.getD .skip) (rvs := []) (by kernel_rfl) (by kernel_rfl) (by kernel_rfl) ?_
  intro args ob k h hw1 hw2
  clear hw1 hw2
  unfold oNote at h
  split at h
  · obtain ⟨⟨S, h0, h1⟩, hk⟩ := h
    exact ⟨anNote ⟨_, _, _, _, _, _⟩ _, note_vc _ _ _ _ _ _ _ k S h0 h1 hk⟩
  · exact h.elim
theorem come_vc (mo : List Int) (wa : L3) (no : List Int) (he : B2) (ca : L2) (bg : Bool) (n f t : Int) (k : SV → List Ob → Prop) (S : BkS ⟨mo, wa, no, he, ca, bg⟩) (hn : -1000000000 ≤ n ∧ n ≤ 1000000000) (hf : 0 ≤ f ∧ f < (mo.length : Int)) (ht : 0 ≤ t ∧ t < (mo.length : Int))
    (hk : k (.tp []) (bob (comeF ⟨mo, wa, no, he, ca, bg⟩ n f.toNat t.toNat))) :
    vcO ⟨Et, [], glK, [], [(42, oNote)]⟩ [joinAll] (Tryd.f43.body.getD .skip) Tryd.f43.ntmps [] [.ps 0, .d I n, .d I f, .d I t] (bob ⟨mo, wa, no, he, ca, bg⟩) k := by
  rw [vcCome]
  have T : t.toNat < mo.length := by omega
  have F : f.toNat < mo.length := by omega
  have hno : no.length = mo.length := S.no
  have n5 : mo.length ≤ 5 := S.n5
  have h1 : he.length = mo.length := S.he
  have h2 : (he.getD t.toNat []).length = mo.length := S.he2 _ T
  have c1 : ca.length = mo.length := S.ca
  have c2 : (ca.getD t.toNat []).length = mo.length := S.ca2 _ T
  have mb : -1000000000 ≤ mo.getD t.toNat 0 ∧ mo.getD t.toNat 0 ≤ 1000000000 := S.mb _ T
  have cb : -1000000000 ≤ (ca.getD t.toNat []).getD f.toNat 0 ∧ (ca.getD t.toNat []).getD f.toNat 0 ≤ 1000000000 := S.cb _ _ T F
  simp only [Int.toNat_natCast, and_true, true_and, decide_eq_true_eq, decide_eq_false_iff_not, Bool.not_eq_eq_eq_not, Bool.not_true, Bool.not_false]
  unfold comeF at hk
  refine ⟨fun hm => ?_, fun hm => ?_⟩
  · rw [if_pos hm] at hk
    refine ⟨ht.1, by omega, fun hlt => ?_, fun hlt => ?_⟩
    · rw [if_pos hlt] at hk
      exact ⟨⟨S, ht⟩, ht.1, by omega, by omega, by omega, hf.1, by omega, by omega, hk⟩
    · rw [if_neg hlt] at hk
      exact ⟨ht.1, by omega, by omega, by omega, hf.1, by omega, by omega, hk⟩
  · rw [if_neg hm] at hk
    refine ⟨ht.1, by omega, inK_i64.2 (by omega), ht.1, by omega, ht.1, by omega, fun h3 => ?_, fun h3 => ?_⟩
    · refine ⟨ht.1, by omega, by omega, by omega, hf.1, by omega, by omega, by omega, fun h4 => ?_, fun h4 => ?_⟩
      · rw [if_pos ⟨h3, h4⟩] at hk
        exact ⟨ht.1, by omega, by omega, by omega, hf.1, by omega, by omega, by omega, inK_i64.2 (by omega), by omega, hf.1, by omega, by omega, hk⟩
      · rw [if_neg (fun h => absurd (h4.symm.trans h.2) (by decide))] at hk
        exact hk
    · rw [if_neg (fun h => h3 h.1)] at hk
      exact hk
theorem okCome : OwnOk Tryd.prog glK 43 oCome := by
  refine own_of (CxOk.mk' Et_ok rfl mixed (gl := glK) GOk.nil (GoOk.cons okNote Tryd.func42 rfl rfl GoOk.nil) noIt) Tryd.func43 (c := Tryd.f43.body.getD .skip) (rvs := []) (by kernel_rfl) (by kernel_rfl) (by kernel_rfl) ?_
  intro args ob k h hw1 hw2
  clear hw1 hw2
  unfold oCome at h
  split at h
  · obtain ⟨⟨S, hn, hf, ht⟩, hk⟩ := h
    exact ⟨[joinAll], come_vc _ _ _ _ _ _ _ _ _ k S hn hf ht hk⟩
  · exact h.elim
theorem okComeC : OwnOk Tryd.prog glK 43 (clsC oCome) := own_cls okCome
theorem do_vc (mo : List Int) (wa : L3) (no : List Int) (he : B2) (ca : L2) (bg : Bool) (mk f t s : Int) (k : SV → List Ob → Prop) (S : BkS ⟨mo, wa, no, he, ca, bg⟩)
    (hk : k (.d tErr (doF ⟨mo, wa, no, he, ca, bg⟩ mk f t s).1) (bob (doF ⟨mo, wa, no, he, ca, bg⟩ mk f t s).2)) :
    vcO ⟨Et, [(30, cWithin)], glK, [], [(42, oNote), (43, clsC oCome)]⟩ (anDo f t) (Tryd.f24.body.getD .skip) Tryd.f24.ntmps [(.tmp 4, tErr)] [.ps 0, .d tMove (mk, f, t, s, ())] (bob ⟨mo, wa, no, he, ca, bg⟩) k := by
  rw [vcDo]
  have hno : no.length = mo.length := S.no
  have n5 : mo.length ≤ 5 := S.n5
  have n1 : 1 ≤ mo.length := S.n1
  have w1 : wa.length = mo.length := S.wa
  have e1 : ∀ v : Int, (List.replicate 1 (0 : Int)).set 0 v = [v] := fun _ => rfl
  simp only [Int.toNat_natCast, and_true, true_and, e1, decide_eq_true_eq, decide_eq_false_iff_not, Bool.not_eq_eq_eq_not, Bool.not_true, Bool.not_false]
  unfold doF at hk
  refine ⟨inK_i64.2 (by omega), fun h1 => ⟨by decide, ?_⟩, fun h1 => ⟨fun h2 => ⟨by decide, ?_⟩, fun h2 => ?_⟩⟩
  · rw [if_pos (.inl h1)] at hk; exact hk
  · rw [if_pos (.inr h2)] at hk; exact hk
  rw [if_neg (by rw [h1]; simp only [h2]; decide)] at hk
  have hf := inB_iff.1 h2
  have F : f.toNat < mo.length := by omega
  have w2 : (wa.getD f.toNat []).length = mo.length := S.wa2 _ F
  refine ⟨fun h3 => ?_, fun h3 => ?_⟩
  · rw [if_pos h3] at hk
    refine ⟨fun h4 => ⟨by decide, ?_⟩, fun h4 => ⟨⟨S, hf.1, by omega⟩, ?_⟩⟩
    · rw [if_pos h4] at hk; exact hk
    · rw [if_neg (by simp only [h4]; decide)] at hk; exact hk
  rw [if_neg h3] at hk
  refine ⟨fun h4 => ⟨by decide, ?_⟩, fun h4 => ?_⟩
  · rw [if_pos h4] at hk; exact hk
  rw [if_neg (by simp only [h4]; decide)] at hk
  have ht := inB_iff.1 h4
  have T : t.toNat < mo.length := by omega
  have vb : ∀ v, v ∈ at3 wa f.toNat t.toNat → -1000000000 ≤ v ∧ v ≤ 1000000000 := fun v => S.vb _ _ v F T
  have wk : ((wa.getD f.toNat []).getD t.toNat []).length ≤ 100000 := S.wk _ _ F T
  have ea : at3 wa f.toNat t.toNat = (wa.getD f.toNat []).getD t.toNat [] := rfl
  have mb : -1000000000 ≤ mo.getD f.toNat 0 ∧ mo.getD f.toNat 0 ≤ 1000000000 := S.mb _ F
  refine ⟨fun h5 => ⟨by decide, ?_⟩, fun h5 => ⟨⟨hf.1, by omega, by omega, by omega, ht.1, by omega, by omega, by omega⟩, fun h6 => ?_, fun h6 => ?_⟩⟩
  · rw [if_pos h5] at hk; exact hk
  · rw [if_neg h5, if_pos h6] at hk
    refine ⟨fun h7 => ⟨by decide, ?_⟩, fun h7 => ⟨⟨hf.1, by omega⟩, fun h8 => ⟨by decide, ?_⟩, fun h8 => ⟨by omega, by omega, fun h9 => ⟨by decide, ?_⟩, fun h9 => ?_⟩⟩⟩
    · rw [if_pos h7] at hk; exact hk
    · rw [if_neg (by simp only [h7]; decide), if_pos h8] at hk; exact hk
    · rw [if_neg (by simp only [h7]; decide), if_neg h8, if_pos (by rw [ea]; omega)] at hk; exact hk
    · have hs := inB_iff.1 h7
      rw [if_neg (by simp only [h7]; decide), if_neg h8, if_neg (by rw [ea]; omega)] at hk
      exact ⟨⟨hf.1, by omega, inK_i64.2 (by omega), hf.1, by omega⟩, by omega, by omega, hf.1, by omega, by simp only [List.length_singleton]; omega, ht.1, by omega, ⟨hf.1, by omega⟩, hk⟩
  · rw [if_neg h5, if_neg h6] at hk
    refine ⟨by omega, by omega, fun h7 => ⟨by decide, ?_⟩, fun h7 => ?_⟩
    · rw [if_pos (by rw [ea]; omega)] at hk; exact hk
    · rw [if_neg (by rw [ea]; omega)] at hk
      have hpos : 0 < ((wa.getD f.toNat []).getD t.toNat []).length := by omega
      have hmem : ((wa.getD f.toNat []).getD t.toNat []).getD 0 0 ∈ at3 wa f.toNat t.toNat := by
        exact getD_memL hpos 0
      have sq := (S.sw).wr (b := t.toNat) (((wa.getD f.toNat []).getD t.toNat []).drop 1) F
      have hat := fun i j => atG_wr S.sw (((wa.getD f.toNat []).getD t.toNat []).drop 1) [] F T i j
      have S' : BkS ⟨mo, wr3 wa f.toNat t.toNat ((at3 wa f.toNat t.toNat).drop 1), no, he, ca, bg⟩ := by
        refine ⟨S.n1, S.n5, S.no, sq.a, sq.b, fun i j hi hj => ?_, S.he, S.he2, S.ca, S.ca2, S.mb, S.cb, fun i j v hi hj hv => ?_⟩
        · have e : at3 (wr3 wa f.toNat t.toNat ((at3 wa f.toNat t.toNat).drop 1)) i j = _ := hat i j
          show (at3 (wr3 wa f.toNat t.toNat ((at3 wa f.toNat t.toNat).drop 1)) i j).length ≤ _
          rw [e]
          split
          · rw [List.length_drop]; omega
          · exact S.wk i j hi hj
        · have e : at3 (wr3 wa f.toNat t.toNat ((at3 wa f.toNat t.toNat).drop 1)) i j = _ := hat i j
          have hv : v ∈ at3 (wr3 wa f.toNat t.toNat ((at3 wa f.toNat t.toNat).drop 1)) i j := hv
          rw [e] at hv
          split at hv
          · exact vb v (List.mem_of_mem_drop hv)
          · exact S.vb i j v hi hj hv
      exact ⟨by omega, by omega, ⟨hf.1, by omega, ⟨by omega, by omega, hpos⟩, ht.1, by omega⟩, ⟨by omega, by omega⟩, ⟨S', vb _ hmem, ⟨hf.1, by omega⟩, ht.1, by omega⟩, hk⟩
theorem okDo : OwnOk Tryd.prog glK 24 oDo := by
  refine own_of (CxOk.mk' Et_ok rfl mixed (gl := glK) (GOk.cons okWithin Tryd.func30 rfl rfl GOk.nil) (GoOk.cons okNote Tryd.func42 rfl rfl (GoOk.cons okComeC Tryd.func43 rfl rfl GoOk.nil)) noIt) Tryd.func24 (c := Tryd.f24.body.getD .skip) (rvs := [(.tmp 4, tErr)]) (by kernel_rfl) (by kernel_rfl) (by kernel_rfl) ?_
  intro args ob k h hw1 hw2
  clear hw1 hw2
  unfold oDo at h
  split at h
  · rename_i m bg mo wa no he ca
    obtain ⟨S, hk⟩ := h
    obtain ⟨mk, f, t, s, ⟨⟩⟩ := m
    exact ⟨anDo f t, do_vc _ _ _ _ _ _ _ _ _ _ k S hk⟩
  · exact h.elim
theorem okClone : OwnOk Tryd.prog glK 38 oClone := by
  refine own_nilrowS (oc := fun args ob k => ∃ xs : List Int, xs.length ≤ 1000000 ∧ ((args = [.os 0] ∧ ob = [.row 3 I xs] ∧ (xs = [] → k .nils [.row 3 I xs]) ∧ k (.os 1) [.row 3 I xs, .row 3 I xs]) ∨
      (args = [.d (.sl I) xs] ∧ ob = [] ∧ (xs = [] → k .nils []) ∧ k (.os 0) [.row 3 I xs]))) ?_ 3 I ?_
  · refine own_of (CxOk.mk' Et_ok rfl mixed (gl := glK) GOk.nil GoOk.nil noIt) Tryd.func38 (c := Tryd.f38.body.getD .skip) (rvs := [(.tmp 2, .un)]) (by kernel_rfl) (by kernel_rfl) (by kernel_rfl) ?_
    rintro args ob k ⟨xs, hl, ⟨rfl, rfl, h1, h2⟩ | ⟨rfl, rfl, h1, h2⟩⟩ hw1 hw2
    · refine ⟨[], ?_⟩
      rw [vcClone]
      exact fun b hb => ⟨fun h => h1 (hb h), fun h => ⟨by simp only [List.length_nil]; omega, h2⟩⟩
    · refine ⟨[], ?_⟩
      rw [vcCloneD]
      exact fun b hb => ⟨fun h => h1 (hb h), fun h => ⟨by simp only [List.length_nil]; omega, h2⟩⟩
  · intro args ob k h
    unfold oClone at h
    split at h
    · rename_i xs
      obtain ⟨hl, hk⟩ := h
      refine ⟨[0, 1], by decide, fun i hi => ?_, xs, hl, .inl ⟨rfl, rfl, fun hx => ⟨show 1 ≤ 1 from by decide, ?_⟩, hk⟩⟩
      · have : i < 1 := hi
        have : i = 0 := by omega
        subst this; rfl
      · subst hx; exact hk
    · rename_i xs
      obtain ⟨hl, hk⟩ := h
      refine ⟨[0], by decide, fun i hi => ?_, xs, hl, .inr ⟨rfl, rfl, fun hx => ⟨show 0 ≤ 0 from by decide, ?_⟩, hk⟩⟩
      · have : i < 0 := hi
        omega
      · subst hx; exact hk
    · exact h.elim
theorem money_vc (mo : List Int) (wa : L3) (no : List Int) (he : B2) (ca : L2) (bg : Bool) (k : SV → List Ob → Prop) (hl : mo.length ≤ 5) (hk : k (.os 1) (bobR (.row 3 I mo) ⟨mo, wa, no, he, ca, bg⟩)) :
    vcO ⟨Et, [], glK, [], [(38, oClone)]⟩ [] (Tryd.f26.body.getD .skip) Tryd.f26.ntmps [(.tmp 2, .un)] [.ps 0] (bob ⟨mo, wa, no, he, ca, bg⟩) k := by
  rw [vcMoney]
  exact ⟨by omega, hk⟩
theorem okMoney : OwnOk Tryd.prog glK 26 oMoney := by
  refine own_of (CxOk.mk' Et_ok rfl mixed (gl := glK) GOk.nil (GoOk.cons okClone Tryd.func38 rfl rfl GoOk.nil) noIt) Tryd.func26 (c := Tryd.f26.body.getD .skip) (rvs := [(.tmp 2, .un)]) (by kernel_rfl) (by kernel_rfl) (by kernel_rfl) ?_
  intro args ob k h hw1 hw2
  clear hw1 hw2
  unfold oMoney at h
  split at h
  · obtain ⟨hl, hk⟩ := h
    exact ⟨[], money_vc _ _ _ _ _ _ k hl hk⟩
  · exact h.elim
theorem way_vc (mo : List Int) (wa : L3) (no : List Int) (he : B2) (ca : L2) (bg : Bool) (f t : Int) (k : SV → List Ob → Prop) (S : BkS ⟨mo, wa, no, he, ca, bg⟩)
    (h1 : (inB f 0 ((mo.length : Int) - 1) && inB t 0 ((mo.length : Int) - 1)) = false → k .nils (bob ⟨mo, wa, no, he, ca, bg⟩))
    (h2 : (inB f 0 ((mo.length : Int) - 1) && inB t 0 ((mo.length : Int) - 1)) = true → k (.os 1) (bobR (.row 3 I (at3 wa f.toNat t.toNat)) ⟨mo, wa, no, he, ca, bg⟩)) :
    vcO ⟨Et, [(30, cWithin)], glK, [], [(38, oClone)]⟩ (anWay f t) (Tryd.f29.body.getD .skip) Tryd.f29.ntmps [(.tmp 6, .un)] [.ps 0, .d I f, .d I t] (bob ⟨mo, wa, no, he, ca, bg⟩) k := by
  rw [vcWay]
  have n5 : mo.length ≤ 5 := S.n5
  have w1 : wa.length = mo.length := S.wa
  simp only [Int.toNat_natCast, and_true, true_and, decide_eq_true_eq, decide_eq_false_iff_not, Bool.not_eq_eq_eq_not, Bool.not_true, Bool.not_false]
  refine ⟨inK_i64.2 (by omega), fun h => h1 (by rw [h]; rfl), fun h => ⟨inK_i64.2 (by omega), fun h3 => h1 (by rw [h, h3]; rfl), fun h3 => ?_⟩⟩
  have hf := inB_iff.1 h
  have ht := inB_iff.1 h3
  have F : f.toNat < mo.length := by omega
  have T : t.toNat < mo.length := by omega
  have w2 : (wa.getD f.toNat []).length = mo.length := S.wa2 _ F
  have wk : ((wa.getD f.toNat []).getD t.toNat []).length ≤ 100000 := S.wk _ _ F T
  have e : wr3 wa f.toNat t.toNat (at3 wa f.toNat t.toNat) = wa := by
    unfold wr3 at3
    have e1 : (wa.getD f.toNat []).set t.toNat ((wa.getD f.toNat []).getD t.toNat []) = wa.getD f.toNat [] := set_getD_self _ _ _
    rw [e1]; exact set_getD_self _ _ _
  have e' : List.set wa f.toNat ((wa.getD f.toNat []).set t.toNat ((wa.getD f.toNat []).getD t.toNat [])) = wa := e
  rw [e']
  exact ⟨by omega, by omega, hf.1, by omega, ht.1, by omega, by omega, h2 (by rw [h, h3]; rfl)⟩
theorem okWay : OwnOk Tryd.prog glK 29 oWay := by
  refine own_nilrowS (oc := fun args ob k => ∃ (mo : List Int) (wa : L3) (no : List Int) (he : B2) (ca : L2) (bg : Bool) (f t : Int), args = [.ps 0, .d I f, .d I t] ∧ ob = bob ⟨mo, wa, no, he, ca, bg⟩ ∧ BkS ⟨mo, wa, no, he, ca, bg⟩ ∧
      ((inB f 0 ((mo.length : Int) - 1) && inB t 0 ((mo.length : Int) - 1)) = false → k .nils (bob ⟨mo, wa, no, he, ca, bg⟩)) ∧
      ((inB f 0 ((mo.length : Int) - 1) && inB t 0 ((mo.length : Int) - 1)) = true → k (.os 1) (bobR (.row 3 I (at3 wa f.toNat t.toNat)) ⟨mo, wa, no, he, ca, bg⟩))) ?_ 3 I ?_
  · refine own_of (CxOk.mk' Et_ok rfl mixed (gl := glK) (GOk.cons okWithin Tryd.func30 rfl rfl GOk.nil) (GoOk.cons okClone Tryd.func38 rfl rfl GoOk.nil) noIt) Tryd.func29 (c := Tryd.f29.body.getD .skip) (rvs := [(.tmp 6, .un)]) (by kernel_rfl) (by kernel_rfl) (by kernel_rfl) ?_
    rintro args ob k ⟨mo, wa, no, he, ca, bg, f, t, rfl, rfl, S, h1, h2⟩ hw1 hw2
    exact ⟨anWay f t, way_vc mo wa no he ca bg f t k S h1 h2⟩
  · intro args ob k h
    unfold oWay at h
    split at h
    · rename_i f t bg mo wa no he ca
      obtain ⟨S, hk⟩ := h
      refine ⟨[0, 6, 1, 2, 3, 4, 5], by decide, fun i hi => ?_, mo, wa, no, he, ca, bg, f, t, rfl, rfl, S, fun hb => ⟨show 1 ≤ 6 from by decide, ?_⟩, fun hb => ?_⟩
      · have : i < 1 := hi
        have : i = 0 := by omega
        subst this; rfl
      · unfold wayF at hk; rw [if_neg (by simp only [hb]; decide)] at hk; exact hk
      · unfold wayF at hk; rw [if_pos hb] at hk; exact hk
    · exact h.elim
theorem minL_snoc (l : List Int) (i : Nat) (h0 : 1 ≤ i) (h : i < l.length) : min (minL (l.take i)) (l.getD i 0) = minL (l.take (i + 1)) := by
  cases l with
  | nil => simp at h
  | cons x r =>
    obtain ⟨j, rfl⟩ := Nat.exists_eq_succ_of_ne_zero (show i ≠ 0 by omega)
    have hj : j < r.length := by simpa using h
    simp only [List.take_succ_cons, minL]
    rw [List.take_succ_eq_append_getElem hj, List.foldl_append]
    simp [hj]
theorem okMin : PlainOk Tryd.prog glK 37 cMin := by
  refine plain_of (CxOk.mk' Et_ok rfl mixed (gl := glK) GOk.nil GoOk.nil noIt) Tryd.func37 (c := Tryd.f37.body.getD .skip) (rvs := [(.tmp 2, I)]) (by kernel_rfl) (by kernel_rfl) (by kernel_rfl) ?_
  intro ds k ⟨hp, hk⟩ hwf
  obtain ⟨l, rfl, h1, h2⟩ := dest1 hp
  have hk : k [⟨I, minL l⟩] := hk
  refine ⟨anMin l, ?_⟩
  rw [vcMin]
  simp only [Int.toNat_natCast, and_true, true_and, decide_eq_true_eq, decide_eq_false_iff_not]
  refine ⟨fun h => by omega, fun _ => ⟨by omega, by omega, ⟨1, ⟨by omega, by omega⟩, ?_, by omega⟩, fun x ⟨hx1, hx2⟩ => ⟨fun h => ⟨by omega, h, inK_i64.2 (by omega), x + 1, ⟨by omega, by omega⟩, by omega, minL_snoc l x hx1 (by omega), by omega⟩, fun h => ?_⟩⟩⟩
  · cases l with
    | nil => simp at h1
    | cons y r => simp [minL]
  · have : x = l.length := by omega
    subst this
    rw [List.take_length]; exact hk
theorem new_vc (mo : List Int) (k : SV → List Ob → Prop) (h1 : newE mo = 0 → k (.tp [.ps 0, .d tErr (0 : Int)]) (bob (newB mo))) (h2 : newE mo ≠ 0 → k (.tp [.nilp, .d tErr (newE mo)]) []) :
    vcO ⟨EtN, [(30, cWithin)], glK, [], [(38, oClone)]⟩ (anNew mo) (Tryd.f22.body.getD .skip) Tryd.f22.ntmps [(.tmp 2, .un), (.tmp 3, tErr)] [.d (.sl I) mo] [] k := by
  rw [vcNew]
  have e1 : (List.replicate 1 (0 : Int)).set 0 (-1) = [-1] := rfl
  simp only [Int.toNat_natCast, and_true, true_and, e1, decide_eq_true_eq, decide_eq_false_iff_not, Bool.not_eq_eq_eq_not, Bool.not_true, Bool.not_false]
  refine ⟨fun h => ⟨by decide, ?_⟩, fun h => ⟨fun h3 => ⟨by decide, ?_⟩, fun h3 => ⟨⟨0, ⟨Nat.zero_le _, rfl⟩, rfl⟩, fun x ⟨hx, hok⟩ => ⟨fun hlt => ⟨by omega, hlt, fun hb => ⟨by decide, ?_⟩, fun hb => ⟨inK_i64.2 (by omega), x + 1, ⟨by omega, ?_⟩, by omega, by omega⟩⟩,
    fun hge => ⟨by omega, ⟨0, Nat.zero_le _, rfl, rfl, rfl, rfl, rfl⟩, fun y hy => ⟨fun hlt => ?_, fun hge2 => ?_⟩⟩⟩⟩⟩⟩
  · have e : newE mo = 5 := by unfold newE; rw [if_pos (by omega)]
    rw [e] at h2; exact h2 (by decide)
  · have e : newE mo = 4 := by unfold newE; rw [if_neg (by omega), if_pos (by omega)]
    rw [e] at h2; exact h2 (by decide)
  · have e : newE mo = 1 := by
      unfold newE; rw [if_neg (by omega), if_neg (by omega), if_neg]
      intro hm
      have hxl : x < mo.length := by omega
      have := List.all_eq_true.1 hm _ (getD_memL hxl 0)
      rw [hb] at this; cases this
    rw [e] at h2; exact h2 (by decide)
  · have hxl : x < mo.length := by omega
    unfold moOk at hok ⊢
    rw [List.take_succ_eq_append_getElem hxl, List.all_append, hok]
    rw [List.getD_eq_getElem?_getD, List.getElem?_eq_getElem hxl] at hb
    simpa using hb
  · have r1 : List.append (rowsW mo.length y) [List.replicate mo.length []] = rowsW mo.length (y + 1) := List.replicate_succ'.symm
    have r2 : List.append (List.replicate y (-1 : Int)) [-1] = List.replicate (y + 1) (-1) := List.replicate_succ'.symm
    have r3 : List.append (rowsH mo.length y) [List.replicate mo.length false] = rowsH mo.length (y + 1) := List.replicate_succ'.symm
    have r4 : List.append (rowsC mo.length y) [List.replicate mo.length 0] = rowsC mo.length (y + 1) := List.replicate_succ'.symm
    have l1 : (rowsW mo.length y).length = y := List.length_replicate
    have l3 : (rowsH mo.length y).length = y := List.length_replicate
    have l4 : (rowsC mo.length y).length = y := List.length_replicate
    exact ⟨by omega, by omega, by omega, by simp only [List.length_singleton]; omega, by simp only [List.length_replicate, List.length_singleton]; omega, by omega, by omega, by omega, by simp only [List.length_singleton]; omega, by omega, by omega, by omega, by simp only [List.length_singleton]; omega,
      inK_i64.2 (by omega), y + 1, by omega, by omega, by omega, r1, r2, r3, r4⟩
  · have hxn : x = mo.length := by omega
    have hyn : y = mo.length := by omega
    subst hyn
    rw [hxn, List.take_length] at hok
    have e : newE mo = 0 := by unfold newE; rw [if_neg (by omega), if_neg (by omega), if_pos hok]
    exact h1 e
theorem okNew : OwnOk Tryd.prog glK 22 oNew := by
  refine own_of (CxOk.mk' EtN_ok rfl mixed (gl := glK) (GOk.cons okWithin Tryd.func30 rfl rfl GOk.nil) (GoOk.cons okClone Tryd.func38 rfl rfl GoOk.nil) noIt) Tryd.func22 (c := Tryd.f22.body.getD .skip) (rvs := [(.tmp 2, .un), (.tmp 3, tErr)]) (by kernel_rfl) (by kernel_rfl) (by kernel_rfl) ?_
  intro args ob k h hw1 hw2
  clear hw1 hw2
  unfold oNew at h
  split at h
  · exact ⟨anNew _, new_vc _ k h.1 h.2⟩
  · exact h.elim
end Go.Proofs.YtjgdpblaghhfhaaDoor.N

/- Banks: what is noted, what there is in all; the laws' conditions. -/
namespace Go.Proofs.YtjgdpblaghhfhaaDoor.N
open Go.Vc
def sumL : List Int → Int
  | [] => 0
  | v :: r => v + sumL r
/-- what is paid, marks left out -/
def sumP : List Int → Int
  | [] => 0
  | v :: r => (if 0 < v then v else 0) + sumP r
def sumTo : Nat → (Nat → Int) → Int
  | 0, _ => 0
  | n + 1, f => sumTo n f + f n
def cSum : Ctr := cdet [.sl I] (fun (l : List Int) => l.length ≤ 100 ∧ ∀ v ∈ l, -1000000000 ≤ v ∧ v ≤ 1000000000) (fun (l : List Int) => [⟨I, sumL l⟩])
def anSum (l : List Int) : Ann := [joinAll, loopAt 3 Nat [] (fun st i => St.at (St.only st [0]) [(3, .d I (sumL (l.take i))), (4, .d I (i : Int))]) (fun _ i => i ≤ l.length ∧ True) (fun i => l.length - i)]
def cInts : Ctr := cdet [.sl I, .sl I] (fun (a b : List Int) => a.length ≤ 1000000 ∧ b.length ≤ 1000000) (fun (a b : List Int) => [⟨.bool, decide (a = b)⟩])
def anInts (a b : List Int) : Ann := [joinAll, loopAt 4 Nat [] (fun st i => St.at (St.only st [0, 1]) [(5, .d I (i : Int))]) (fun _ i => i ≤ a.length ∧ a.length = b.length ∧ a.take i = b.take i) (fun i => a.length - i)]
/-- did all marks come? -/
def doneR (b : Bk) (t : Nat) : Nat → Bool
  | 0 => true
  | j + 1 => doneR b t j && (j == t || at2b b.he t j)
def doneA (b : Bk) : Nat → Bool
  | 0 => true
  | t + 1 => doneA b t && doneR b t b.mo.length
def allF (b : Bk) : Bool := decide (0 ≤ minL b.no) && doneA b b.mo.length
def oNoted : OCtr := fun args ob k =>
  match args, ob with
  | [.ps 0], [.st 90 [.os 1, .os 2, .os 3, .os 4, .os 5, .d .bool bg], .row 3 (.int .i64) mo, .trow 41 oW wa, .row 3 (.int .i64) no, .trow 30 oH he, .trow 29 oR ca] =>
    BkS ⟨mo, wa, no, he, ca, bg⟩ ∧ (allF ⟨mo, wa, no, he, ca, bg⟩ = false → k (.tp [.nils, .nils, .d .bool false]) (bob ⟨mo, wa, no, he, ca, bg⟩)) ∧
      (allF ⟨mo, wa, no, he, ca, bg⟩ = true → k (.tp [.os 1, .os 2, .d .bool true]) [.st 90 [.os 3, .os 4, .os 5, .os 6, .os 7, .d .bool bg], .row 3 I no, .trow 29 oR ca, .row 3 I mo, .trow 41 oW wa, .row 3 I no, .trow 30 oH he, .trow 29 oR ca])
  | _, _ => False
def anNoted (b : Bk) : Ann :=
  [joinAll,
   loopAt 4 Nat [(3, 29, oR)] (fun st i => { St.at (St.only st [0, 17]) [(3, .os 6), (18, .d I (i : Int))] with ob := bob b ++ [.trow 29 oR (b.ca.take i)] }) (fun _ i => i ≤ b.mo.length ∧ doneA b i = true) (fun i => b.mo.length - i),
   openAt 6 [fun st => (5, (st.i 5).toNat, [])] [fun _ => 5],
   loopAt 8 Nat [] (fun st j => { St.at (St.only st [0, 5, 17, 18, 36]) [(3, .os 6), (37, .d I (j : Int))] with ob := bob b ++ [.trow 29 oR (b.ca.take ((st.i 5).toNat + 1))] }) (fun st j => j ≤ b.mo.length ∧ doneR b (st.i 5).toNat j = true) (fun j => b.mo.length - j)]
def waySum (b : Bk) (p q : Nat) : Int := sumP (at3 b.wa p q)
def rowSum (b : Bk) (p n : Nat) : Int := sumTo n (waySum b p)
def wholeF (b : Bk) : Int := sumL b.mo + sumTo b.mo.length (fun p => rowSum b p b.mo.length)
def oWhole : OCtr := fun args ob k =>
  match args, ob with
  | [.ps 0, .d (.int .i64) n], [.st 90 [.os 1, .os 2, .os 3, .os 4, .os 5, .d .bool bg], .row 3 (.int .i64) mo, .trow 41 oW wa, .row 3 (.int .i64) no, .trow 30 oH he, .trow 29 oR ca] =>
    (BkS ⟨mo, wa, no, he, ca, bg⟩ ∧ n = (mo.length : Int)) ∧ k (.d I (wholeF ⟨mo, wa, no, he, ca, bg⟩)) (bob ⟨mo, wa, no, he, ca, bg⟩)
  | _, _ => False
def anWhole (b : Bk) : Ann :=
  [joinAll,
   loopAt 3 Nat [] (fun st p => { St.at (St.only st [0, 1]) [(5, .d I (sumL b.mo + sumTo p (fun p => rowSum b p b.mo.length))), (6, .d I (p : Int))] with ob := bob b }) (fun _ p => p ≤ b.mo.length ∧ True) (fun p => b.mo.length - p),
   loopAt 6 Nat [] (fun st q => { St.at (St.only st [0, 1, 6]) [(5, .d I (sumL b.mo + sumTo (st.i 6).toNat (fun p => rowSum b p b.mo.length) + rowSum b (st.i 6).toNat q)), (7, .d I (q : Int))] with ob := bob b }) (fun _ q => q ≤ b.mo.length ∧ True) (fun q => b.mo.length - q),
   loopAt 10 Nat [] (fun st j => { St.at (St.only st [0, 1, 6, 7]) [(5, .d I (sumL b.mo + sumTo (st.i 6).toNat (fun p => rowSum b p b.mo.length) + rowSum b (st.i 6).toNat (st.i 7).toNat + sumP ((at3 b.wa (st.i 6).toNat (st.i 7).toNat).take j))), (8, .os 6), (9, .d I (j : Int))] with ob := bob b ++ [.row 3 I (at3 b.wa (st.i 6).toNat (st.i 7).toNat)] }) (fun st j => j ≤ (at3 b.wa (st.i 6).toNat (st.i 7).toNat).length ∧ True) (fun j => 1000000 - j)]
/-! The closed fact. -/
def b0 : Bk := ⟨[7, 2], [[[], []], [[], []]], [-1, -1], [[false, false], [false, false]], [[0, 0], [0, 0]], false⟩
def b1 : Bk := ⟨[4, 2], [[[], [3]], [[], []]], [-1, -1], [[false, false], [false, false]], [[0, 0], [0, 0]], false⟩
def b2 : Bk := ⟨[4, 2], [[[], [3]], [[-1], []]], [-1, 2], [[false, false], [false, false]], [[0, 0], [0, 0]], true⟩
def b3 : Bk := ⟨[4, 5], [[[], []], [[-1], []]], [-1, 2], [[false, false], [false, false]], [[0, 0], [3, 0]], true⟩
def anFact : Ann :=
  [joinAll,
   meetAt 4 Nat [] (fun st _ => { St.at (St.only st []) [(1, .ps 0)] with ob := bob b0 }) (fun _ _ => True),
   meetAt 5 Nat [] (fun st _ => { St.at (St.only st []) [(1, .ps 0), (3, .d tErr (0 : Int))] with ob := bob b1 }) (fun _ _ => True),
   meetAt 6 Nat [] (fun st _ => { St.at (St.only st []) [(1, .ps 0), (3, .d tErr (0 : Int)), (4, .d tErr (0 : Int))] with ob := bob b2 }) (fun _ _ => True),
   meetAt 7 Nat [] (fun st _ => { St.at (St.only st []) [(1, .ps 0), (3, .d tErr (0 : Int)), (4, .d tErr (0 : Int)), (5, .d tErr (0 : Int))] with ob := bob b3 }) (fun _ _ => True)]
def cFact : Ctr := cdet [] True [⟨.bool, true⟩]
/-! The laws. -/
abbrev Mv : Type := Int × Int × Int × Int × Unit
def stepB (b : Bk) (m : Mv) : Bk := (doF b m.1 m.2.1 m.2.2.1 m.2.2.2.1).2
def bAt (mo : List Int) (mv : List Mv) (i : Nat) : Bk := (mv.take i).foldl stepB (newB mo)
def anKeeps (mo : List Int) (mv : List Mv) : Ann :=
  [joinAll, loopAt 9 Nat [] (fun st i => { St.at (St.only st [0, 1, 8]) [(6, .ps 0), (9, .d I (i : Int))] with ob := bob (bAt mo mv i) }) (fun _ i => (i ≤ mv.length ∧ i ≤ 100) ∧ newE mo = 0) (fun i => 100 - i)]
end Go.Proofs.YtjgdpblaghhfhaaDoor.N

/- What the functions of this seat have to satisfy, by program: each verification condition in plain words. -/
namespace Go.Proofs.YtjgdpblaghhfhaaDoor
open Go.Vc Go.Proofs.YtjgdpblaghhfhaaDoor.N
set_option linter.unusedVariables false
theorem vcInts (a b : List Int) (k : List Dat → Prop) : vcF ⟨Et, [], glK, [], []⟩ (anInts a b) (Tryd.f25.body.getD .skip) Tryd.f25.ntmps [(.tmp 4, .bool)] [⟨.sl I, a⟩, ⟨.sl I, b⟩] k = (
  ((!decide ((↑a.length : Int) = (↑b.length : Int))) = true → k [Dat.mk Ty.bool false]) ∧ ((!decide ((↑a.length : Int) = (↑b.length : Int))) = false → (∃ (x : Nat), (x ≤ a.length ∧ a.length = b.length ∧ List.take x a = List.take x b) ∧ (a = a ∧ b = b ∧ (0 : Int) = (↑x : Int) ∧ True) ∧ True ∧ hdE = hdE ∧ True) ∧ ∀ (x : Nat), x ≤ a.length ∧ a.length = b.length ∧ List.take x a = List.take x b → (decide ((↑x : Int) < (↑a.length : Int)) = true → ((0 : Int) ≤ (↑x : Int) ∧ (↑x : Int) < (↑a.length : Int) ∧ (0 : Int) ≤ (↑x : Int) ∧ (↑x : Int) < (↑b.length : Int) ∧ True) ∧ ((!decide (a.getD (↑x : Int).toNat (0 : Int) = b.getD (↑x : Int).toNat (0 : Int))) = true → k [Dat.mk Ty.bool false]) ∧ ((!decide (a.getD (↑x : Int).toNat (0 : Int) = b.getD (↑x : Int).toNat (0 : Int))) = false → inK IntKind.i64 ((↑x : Int) + (1 : Int)) ∧ ∃ (x_1 : Nat), (x_1 ≤ a.length ∧ a.length = b.length ∧ List.take x_1 a = List.take x_1 b) ∧ a.length - x_1 < a.length - x ∧ (a = a ∧ b = b ∧ (↑x : Int) + (1 : Int) = (↑x_1 : Int) ∧ True) ∧ True ∧ hdE = hdE ∧ True)) ∧ (decide ((↑x : Int) < (↑a.length : Int)) = false → k [Dat.mk Ty.bool true]))) := by kernel_rfl
theorem vcNoted (mo : List Int) (wa : L3) (no : List Int) (he : B2) (ca : L2) (bg : Bool) (k : SV → List Ob → Prop) : vcO ⟨Et, [(37, cMin)], glK, [], [(38, oClone)]⟩ (anNoted ⟨mo, wa, no, he, ca, bg⟩) (Tryd.f27.body.getD .skip) Tryd.f27.ntmps [(.tmp 2, .un), (.tmp 3, .un), (.tmp 4, .bool)] [.ps 0] (bob ⟨mo, wa, no, he, ca, bg⟩) k = (
  ((1 : Nat) ≤ no.length ∧ no.length ≤ (1000 : Nat)) ∧ (decide (minL no < (0 : Int)) = true → k (SV.tp [SV.nils, SV.nils, SV.d Ty.bool false]) [Ob.st (90 : Nat) [SV.os (1 : Nat), SV.os (2 : Nat), SV.os (3 : Nat), SV.os (4 : Nat), SV.os (5 : Nat), SV.d Ty.bool bg], Ob.row (3 : Nat) (I) mo, Ob.trow (41 : Nat) (Ot.sl (29 : Nat) (Ot.sl (3 : Nat) (Ot.d (I)))) wa, Ob.row (3 : Nat) (I) no, Ob.trow (30 : Nat) (Ot.sl (4 : Nat) (Ot.d Ty.bool)) he, Ob.trow (29 : Nat) (Ot.sl (3 : Nat) (Ot.d (I))) ca]) ∧ (decide (minL no < (0 : Int)) = false → (∃ (x : Nat), (x ≤ mo.length ∧ doneA (Bk.mk mo wa no he ca bg) x = true) ∧ (True ∧ True ∧ (↑mo.length : Int) = (↑mo.length : Int) ∧ (0 : Int) = (↑x : Int) ∧ True) ∧ ((True ∧ True ∧ True ∧ True ∧ True ∧ bg = bg ∧ True) ∧ ((3 : Nat) = (3 : Nat) ∧ mo = mo) ∧ wa = wa ∧ ((3 : Nat) = (3 : Nat) ∧ no = no) ∧ he = he ∧ ca = ca ∧ [] = List.take x ca ∧ True) ∧ True ∧ hdE = hdE ∧ True) ∧ ∀ (x : Nat), x ≤ mo.length ∧ doneA (Bk.mk mo wa no he ca bg) x = true → (decide ((↑x : Int) < (↑mo.length : Int)) = true → (↑x : Int).toNat < (ca).length ∧ (0 : Int) ≤ (↑x : Int) ∧ (↑x : Int) < (↑(List.length ca) : Int) ∧ (↑x : Int).toNat = (↑x : Int).toNat ∧ ((ca).getD (↑x : Int).toNat []).length ≤ (1000000 : Nat) ∧ (List.take x ca).length + [(ca).getD (↑x : Int).toNat []].length ≤ (1000000000 : Nat) ∧ (∃ (x_1 : Nat), (x_1 ≤ mo.length ∧ doneR (Bk.mk mo wa no he ca bg) (↑x : Int).toNat x_1 = true) ∧ (True ∧ True ∧ (↑x : Int) = (↑x : Int) ∧ (↑mo.length : Int) = (↑mo.length : Int) ∧ (↑x : Int) = (↑x : Int) ∧ (↑mo.length : Int) = (↑mo.length : Int) ∧ (0 : Int) = (↑x_1 : Int) ∧ True) ∧ ((True ∧ True ∧ True ∧ True ∧ True ∧ bg = bg ∧ True) ∧ ((3 : Nat) = (3 : Nat) ∧ mo = mo) ∧ wa = wa ∧ ((3 : Nat) = (3 : Nat) ∧ no = no) ∧ he = he ∧ (ca).set (↑x : Int).toNat ((ca).getD (↑x : Int).toNat []) = ca ∧ (List.take x ca).append [(ca).getD (↑x : Int).toNat []] = List.take ((↑x : Int).toNat + (1 : Nat)) ca ∧ True) ∧ True ∧ hdE = hdE ∧ True) ∧ ∀ (x_1 : Nat), x_1 ≤ mo.length ∧ doneR (Bk.mk mo wa no he ca bg) (↑x : Int).toNat x_1 = true → (decide ((↑x_1 : Int) < (↑mo.length : Int)) = true → ((!decide ((↑x_1 : Int) = (↑x : Int))) = true → (0 : Int) ≤ (↑x : Int) ∧ (↑x : Int) < (↑(List.length he) : Int) ∧ (↑x : Int).toNat < List.length he ∧ (↑x : Int).toNat < (he).length ∧ (0 : Int) ≤ (↑x_1 : Int) ∧ (↑x_1 : Int) < (↑((he).getD (↑x : Int).toNat []).length : Int) ∧ (↑x : Int).toNat < (he).length ∧ (↑x_1 : Int).toNat < ((he).getD (↑x : Int).toNat []).length ∧ ((!((he).getD (↑x : Int).toNat []).getD (↑x_1 : Int).toNat false) = true → k (SV.tp [SV.nils, SV.nils, SV.d Ty.bool false]) [Ob.st (90 : Nat) [SV.os (1 : Nat), SV.os (2 : Nat), SV.os (3 : Nat), SV.os (4 : Nat), SV.os (5 : Nat), SV.d Ty.bool bg], Ob.row (3 : Nat) (I) mo, Ob.trow (41 : Nat) (Ot.sl (29 : Nat) (Ot.sl (3 : Nat) (Ot.d (I)))) wa, Ob.row (3 : Nat) (I) no, Ob.trow (30 : Nat) (Ot.sl (4 : Nat) (Ot.d Ty.bool)) he, Ob.trow (29 : Nat) (Ot.sl (3 : Nat) (Ot.d (I))) ca]) ∧ ((!((he).getD (↑x : Int).toNat []).getD (↑x_1 : Int).toNat false) = false → inK IntKind.i64 ((↑x_1 : Int) + (1 : Int)) ∧ ∃ (x_2 : Nat), (x_2 ≤ mo.length ∧ doneR (Bk.mk mo wa no he ca bg) (↑x : Int).toNat x_2 = true) ∧ mo.length - x_2 < mo.length - x_1 ∧ (True ∧ True ∧ (↑x : Int) = (↑x : Int) ∧ (↑mo.length : Int) = (↑mo.length : Int) ∧ (↑x : Int) = (↑x : Int) ∧ (↑mo.length : Int) = (↑mo.length : Int) ∧ (↑x_1 : Int) + (1 : Int) = (↑x_2 : Int) ∧ True) ∧ ((True ∧ True ∧ True ∧ True ∧ True ∧ bg = bg ∧ True) ∧ ((3 : Nat) = (3 : Nat) ∧ mo = mo) ∧ wa = wa ∧ ((3 : Nat) = (3 : Nat) ∧ no = no) ∧ he = he ∧ ca = ca ∧ List.take ((↑x : Int).toNat + (1 : Nat)) ca = List.take ((↑x : Int).toNat + (1 : Nat)) ca ∧ True) ∧ True ∧ hdE = hdE ∧ True)) ∧ ((!decide ((↑x_1 : Int) = (↑x : Int))) = false → inK IntKind.i64 ((↑x_1 : Int) + (1 : Int)) ∧ ∃ (x_2 : Nat), (x_2 ≤ mo.length ∧ doneR (Bk.mk mo wa no he ca bg) (↑x : Int).toNat x_2 = true) ∧ mo.length - x_2 < mo.length - x_1 ∧ (True ∧ True ∧ (↑x : Int) = (↑x : Int) ∧ (↑mo.length : Int) = (↑mo.length : Int) ∧ (↑x : Int) = (↑x : Int) ∧ (↑mo.length : Int) = (↑mo.length : Int) ∧ (↑x_1 : Int) + (1 : Int) = (↑x_2 : Int) ∧ True) ∧ ((True ∧ True ∧ True ∧ True ∧ True ∧ bg = bg ∧ True) ∧ ((3 : Nat) = (3 : Nat) ∧ mo = mo) ∧ wa = wa ∧ ((3 : Nat) = (3 : Nat) ∧ no = no) ∧ he = he ∧ ca = ca ∧ List.take ((↑x : Int).toNat + (1 : Nat)) ca = List.take ((↑x : Int).toNat + (1 : Nat)) ca ∧ True) ∧ True ∧ hdE = hdE ∧ True)) ∧ (decide ((↑x_1 : Int) < (↑mo.length : Int)) = false → inK IntKind.i64 ((↑x : Int) + (1 : Int)) ∧ ∃ (x_2 : Nat), (x_2 ≤ mo.length ∧ doneA (Bk.mk mo wa no he ca bg) x_2 = true) ∧ mo.length - x_2 < mo.length - x ∧ (True ∧ True ∧ (↑mo.length : Int) = (↑mo.length : Int) ∧ (↑x : Int) + (1 : Int) = (↑x_2 : Int) ∧ True) ∧ ((True ∧ True ∧ True ∧ True ∧ True ∧ bg = bg ∧ True) ∧ ((3 : Nat) = (3 : Nat) ∧ mo = mo) ∧ wa = wa ∧ ((3 : Nat) = (3 : Nat) ∧ no = no) ∧ he = he ∧ ca = ca ∧ List.take ((↑x : Int).toNat + (1 : Nat)) ca = List.take x_2 ca ∧ True) ∧ True ∧ hdE = hdE ∧ True)) ∧ (decide ((↑x : Int) < (↑mo.length : Int)) = false → no.length ≤ (1000000 : Nat) ∧ k (SV.tp [SV.os (1 : Nat), SV.os (2 : Nat), SV.d Ty.bool true]) [Ob.st (90 : Nat) [SV.os (3 : Nat), SV.os (4 : Nat), SV.os (5 : Nat), SV.os (6 : Nat), SV.os (7 : Nat), SV.d Ty.bool bg], Ob.row (3 : Nat) (I) no, Ob.trow (29 : Nat) (Ot.sl (3 : Nat) (Ot.d (I))) (List.take x ca), Ob.row (3 : Nat) (I) mo, Ob.trow (41 : Nat) (Ot.sl (29 : Nat) (Ot.sl (3 : Nat) (Ot.d (I)))) wa, Ob.row (3 : Nat) (I) no, Ob.trow (30 : Nat) (Ot.sl (4 : Nat) (Ot.d Ty.bool)) he, Ob.trow (29 : Nat) (Ot.sl (3 : Nat) (Ot.d (I))) ca]))) := by kernel_rfl
end Go.Proofs.YtjgdpblaghhfhaaDoor

/- Banks: what is noted, what there is in all: contracts kept. -/
namespace Go.Proofs.YtjgdpblaghhfhaaDoor.N
open Go.Vc
theorem sumL_app (a b : List Int) : sumL (a ++ b) = sumL a + sumL b := by
  induction a with
  | nil => simp [sumL]
  | cons x r ih => simp only [List.cons_append, sumL, ih]; omega
theorem sumP_app (a b : List Int) : sumP (a ++ b) = sumP a + sumP b := by
  induction a with
  | nil => simp [sumP]
  | cons x r ih => simp only [List.cons_append, sumP, ih]; omega
theorem take_snoc {l : List Int} {i : Nat} (h : i < l.length) : l.take (i + 1) = l.take i ++ [l.getD i 0] := by
  rw [List.take_succ_eq_append_getElem h, List.getD_eq_getElem?_getD, List.getElem?_eq_getElem h]; rfl
theorem sumL_snoc {l : List Int} {i : Nat} (h : i < l.length) : sumL (l.take i) + l.getD i 0 = sumL (l.take (i + 1)) := by
  rw [take_snoc h, sumL_app]; simp [sumL]
theorem sumL_le {l : List Int} (h : ∀ v ∈ l, -1000000000 ≤ v ∧ v ≤ 1000000000) : -1000000000 * (l.length : Int) ≤ sumL l ∧ sumL l ≤ 1000000000 * (l.length : Int) := by
  induction l with
  | nil => simp [sumL]
  | cons x r ih =>
    have h1 := ih (fun v hv => h v (List.mem_cons_of_mem _ hv))
    have h2 := h x (List.mem_cons_self ..)
    simp only [sumL, List.length_cons]; omega
theorem sumP_le {l : List Int} (h : ∀ v ∈ l, -1000000000 ≤ v ∧ v ≤ 1000000000) : 0 ≤ sumP l ∧ sumP l ≤ 1000000000 * (l.length : Int) := by
  induction l with
  | nil => simp [sumP]
  | cons x r ih =>
    have h1 := ih (fun v hv => h v (List.mem_cons_of_mem _ hv))
    have h2 := h x (List.mem_cons_self ..)
    simp only [sumP, List.length_cons]
    split <;> omega
theorem okInts : PlainOk Tryd.prog glK 25 cInts := by
  refine plain_of (CxOk.mk' Et_ok rfl mixed (gl := glK) GOk.nil GoOk.nil noIt) Tryd.func25 (c := Tryd.f25.body.getD .skip) (rvs := [(.tmp 4, .bool)]) (by kernel_rfl) (by kernel_rfl) (by kernel_rfl) ?_
  intro ds k ⟨hp, hk⟩ hwf
  obtain ⟨a, b, rfl, h1, h2⟩ := dest2 hp
  have hk : k [⟨.bool, decide (a = b)⟩] := hk
  refine ⟨anInts a b, ?_⟩
  rw [vcInts]
  simp only [Int.toNat_natCast, and_true, true_and, decide_eq_true_eq, decide_eq_false_iff_not, Bool.not_eq_eq_eq_not, Bool.not_true, Bool.not_false]
  refine ⟨fun h => ?_, fun h => ⟨⟨0, ⟨Nat.zero_le _, by omega, rfl⟩, rfl⟩, fun x ⟨hx, hl, he⟩ => ⟨fun h3 => ⟨⟨by omega, h3, by omega, by omega⟩, fun h4 => ?_, fun h4 => ⟨inK_i64.2 (by omega), x + 1, ⟨by omega, hl, ?_⟩, by omega, by omega⟩⟩, fun h3 => ?_⟩⟩⟩
  · have e : decide (a = b) = false := decide_eq_false (fun e => h (by rw [e]))
    rw [e] at hk; exact hk
  · have e : decide (a = b) = false := decide_eq_false (fun e => h4 (by rw [e]))
    rw [e] at hk; exact hk
  · rw [take_snoc (by omega), take_snoc (by omega), he, h4]
  · have e : a = b := by
      have hxa : x = a.length := by omega
      have hxb : x = b.length := by omega
      rw [hxa, List.take_length] at he
      rw [he, ← hxa, hxb, List.take_length]
    rw [decide_eq_true e] at hk; exact hk
theorem doneR_iff {b : Bk} {t : Nat} : ∀ {n : Nat}, doneR b t n = true ↔ ∀ j, j < n → j = t ∨ at2b b.he t j = true
  | 0 => by simp [doneR]
  | n + 1 => by
    have ih := doneR_iff (b := b) (t := t) (n := n)
    unfold doneR
    rw [Bool.and_eq_true, ih, Bool.or_eq_true, beq_iff_eq]
    constructor
    · rintro ⟨h1, h2⟩ j hj
      rcases Nat.lt_or_eq_of_le (Nat.le_of_lt_succ hj) with h | h
      · exact h1 j h
      · subst h; exact h2
    · intro h
      exact ⟨fun j hj => h j (by omega), h n (by omega)⟩
theorem doneA_iff {b : Bk} : ∀ {n : Nat}, doneA b n = true ↔ ∀ t, t < n → doneR b t b.mo.length = true
  | 0 => by simp [doneA]
  | n + 1 => by
    have ih := doneA_iff (b := b) (n := n)
    unfold doneA
    rw [Bool.and_eq_true, ih]
    constructor
    · rintro ⟨h1, h2⟩ j hj
      rcases Nat.lt_or_eq_of_le (Nat.le_of_lt_succ hj) with h | h
      · exact h1 j h
      · subst h; exact h2
    · intro h
      exact ⟨fun j hj => h j (by omega), h n (by omega)⟩
theorem allF_no {b : Bk} {t j : Nat} (ht : t < b.mo.length) (hj : j < b.mo.length) (hn : j ≠ t) (h : at2b b.he t j = false) : allF b = false := by
  unfold allF
  cases hd : doneA b b.mo.length with
  | false => simp
  | true =>
    rcases doneR_iff.1 (doneA_iff.1 hd t ht) j hj with h1 | h1
    · exact absurd h1 hn
    · rw [h] at h1; cases h1
theorem noted_vc (mo : List Int) (wa : L3) (no : List Int) (he : B2) (ca : L2) (bg : Bool) (k : SV → List Ob → Prop) (S : BkS ⟨mo, wa, no, he, ca, bg⟩)
    (hk1 : allF ⟨mo, wa, no, he, ca, bg⟩ = false → k (.tp [.nils, .nils, .d .bool false]) (bob ⟨mo, wa, no, he, ca, bg⟩))
    (hk2 : allF ⟨mo, wa, no, he, ca, bg⟩ = true → k (.tp [.os 1, .os 2, .d .bool true]) [.st 90 [.os 3, .os 4, .os 5, .os 6, .os 7, .d .bool bg], .row 3 I no, .trow 29 oR ca, .row 3 I mo, .trow 41 oW wa, .row 3 I no, .trow 30 oH he, .trow 29 oR ca]) :
    vcO ⟨Et, [(37, cMin)], glK, [], [(38, oClone)]⟩ (anNoted ⟨mo, wa, no, he, ca, bg⟩) (Tryd.f27.body.getD .skip) Tryd.f27.ntmps [(.tmp 2, .un), (.tmp 3, .un), (.tmp 4, .bool)] [.ps 0] (bob ⟨mo, wa, no, he, ca, bg⟩) k := by
  rw [vcNoted]
  have hno : no.length = mo.length := S.no
  have n5 : mo.length ≤ 5 := S.n5
  have n1 : 1 ≤ mo.length := S.n1
  have c1 : ca.length = mo.length := S.ca
  have h1 : he.length = mo.length := S.he
  simp only [Int.toNat_natCast, and_true, true_and, decide_eq_true_eq, decide_eq_false_iff_not, Bool.not_eq_eq_eq_not, Bool.not_true, Bool.not_false]
  refine ⟨⟨by omega, by omega⟩, fun h => hk1 ?_, fun h => ⟨⟨0, ⟨Nat.zero_le _, rfl⟩, rfl, rfl⟩, fun x ⟨hx, hd⟩ => ⟨fun hlt => ?_, fun hge => ⟨by omega, ?_⟩⟩⟩⟩
  · unfold allF; rw [decide_eq_false (show ¬ 0 ≤ minL no by omega)]; rfl
  · have X : x < mo.length := by omega
    have c2 : (ca.getD x []).length = mo.length := S.ca2 _ X
    have h2 : (he.getD x []).length = mo.length := S.he2 _ X
    have e1 : List.set ca x (ca.getD x []) = ca := set_getD_self _ _ _
    have e2 : List.append (ca.take x) [ca.getD x []] = ca.take (x + 1) := by
      have hxl : x < ca.length := by omega
      rw [List.take_succ_eq_append_getElem hxl, List.getD_eq_getElem?_getD, List.getElem?_eq_getElem hxl]; rfl
    refine ⟨by omega, by omega, by omega, by omega, by rw [List.length_take, List.length_singleton]; omega, ⟨0, ⟨Nat.zero_le _, rfl⟩, rfl, e1, e2⟩, fun y ⟨hy, hr⟩ => ⟨fun hlt2 => ⟨fun hne => ?_, fun heq => ?_⟩, fun hge2 => ?_⟩⟩
    · refine ⟨by omega, by omega, by omega, by omega, by omega, by omega, by omega, by omega, fun hf => hk1 ?_, fun ht => ⟨inK_i64.2 (by omega), y + 1, ⟨by omega, ?_⟩, by omega, by omega⟩⟩
      · exact allF_no (b := ⟨mo, wa, no, he, ca, bg⟩) X (show y < mo.length by omega) (show y ≠ x by omega) hf
      · unfold doneR; rw [hr]
        have : at2b he x y = true := ht
        simp [this]
    · refine ⟨inK_i64.2 (by omega), y + 1, ⟨by omega, ?_⟩, by omega, by omega⟩
      unfold doneR; rw [hr]
      have : (y == x) = true := by rw [beq_iff_eq]; omega
      simp [this]
    · have hyn : y = mo.length := by omega
      subst hyn
      refine ⟨inK_i64.2 (by omega), x + 1, ⟨by omega, ?_⟩, by omega, by omega, rfl⟩
      unfold doneA; rw [hd]
      simp only [Bool.true_and]
      exact hr
  · have hxn : x = mo.length := by omega
    rw [hxn] at hd
    have ha : allF ⟨mo, wa, no, he, ca, bg⟩ = true := by
      unfold allF
      rw [decide_eq_true (show 0 ≤ minL no by omega)]
      exact hd
    have e : ca.take x = ca := by rw [hxn, ← c1, List.take_length]
    have h3 : ∀ l : L2, l = ca → k (.tp [.os 1, .os 2, .d .bool true]) [.st 90 [.os 3, .os 4, .os 5, .os 6, .os 7, .d .bool bg], .row 3 I no, .trow 29 oR l, .row 3 I mo, .trow 41 oW wa, .row 3 I no, .trow 30 oH he, .trow 29 oR ca] := fun l hl => by rw [hl]; exact hk2 ha
    exact h3 _ e
theorem okNoted : OwnOk Tryd.prog glK 27 oNoted := by
  refine own_of (CxOk.mk' Et_ok rfl mixed (gl := glK) (GOk.cons okMin Tryd.func37 rfl rfl GOk.nil) (GoOk.cons okClone Tryd.func38 rfl rfl GoOk.nil) noIt) Tryd.func27 (c := Tryd.f27.body.getD .skip) (rvs := [(.tmp 2, .un), (.tmp 3, .un), (.tmp 4, .bool)]) (by kernel_rfl) (by kernel_rfl) (by kernel_rfl) ?_
  intro args ob k h hw1 hw2
  clear hw1 hw2
  unfold oNoted at h
  split at h
  · obtain ⟨S, h1, h2⟩ := h
    exact ⟨anNoted ⟨_, _, _, _, _, _⟩, noted_vc _ _ _ _ _ _ k S h1 h2⟩
  · exact h.elim
theorem sumTo_le {f : Nat → Int} {c : Int} : ∀ {n : Nat}, (∀ i, i < n → 0 ≤ f i ∧ f i ≤ c) → 0 ≤ sumTo n f ∧ sumTo n f ≤ (n : Int) * c
  | 0, _ => by simp [sumTo]
  | n + 1, h => by
    have ih := sumTo_le (f := f) (c := c) (n := n) (fun i hi => h i (by omega))
    have h1 := h n (by omega)
    have e : ((n + 1 : Nat) : Int) * c = (n : Int) * c + c := by rw [Int.natCast_add, Int.add_mul]; simp
    simp only [sumTo]
    rw [e]; omega
theorem mem_getD {l : List Int} {v : Int} (h : v ∈ l) : ∃ i, i < l.length ∧ l.getD i 0 = v := by
  obtain ⟨i, hi, e⟩ := List.getElem_of_mem h
  exact ⟨i, hi, by rw [List.getD_eq_getElem?_getD, List.getElem?_eq_getElem hi]; exact e⟩
theorem BkS.mv {b : Bk} (S : BkS b) : ∀ v ∈ b.mo, -1000000000 ≤ v ∧ v ≤ 1000000000 := fun v hv => by
  obtain ⟨i, hi, rfl⟩ := mem_getD hv
  exact S.mb i hi
theorem waySum_le {b : Bk} (S : BkS b) {p q : Nat} (hp : p < b.mo.length) (hq : q < b.mo.length) : 0 ≤ waySum b p q ∧ waySum b p q ≤ 100000000000000 := by
  have h1 := sumP_le (l := at3 b.wa p q) (fun v hv => S.vb p q v hp hq hv)
  have h2 := S.wk p q hp hq
  unfold waySum; omega
theorem rowSum_le {b : Bk} (S : BkS b) {p n : Nat} (hp : p < b.mo.length) (hn : n ≤ b.mo.length) : 0 ≤ rowSum b p n ∧ rowSum b p n ≤ 500000000000000 := by
  have h1 := sumTo_le (n := n) (f := waySum b p) (c := 100000000000000) (fun q hq => waySum_le S hp (by omega))
  have n5 := S.n5
  unfold rowSum; omega
theorem bks0 : BkS b0 ∧ BkS b1 ∧ BkS b2 ∧ BkS b3 := by
  have t2 : ∀ {p : Nat → Prop}, p 0 → p 1 → ∀ i, i < 2 → p i := fun h0 h1 i hi => by
    match i, hi with
    | 0, _ => exact h0
    | 1, _ => exact h1
  have t22 : ∀ {p : Nat → Nat → Prop}, p 0 0 → p 0 1 → p 1 0 → p 1 1 → ∀ i j, i < 2 → j < 2 → p i j := fun a b c d i j hi hj => by
    match i, j, hi, hj with
    | 0, 0, _, _ => exact a
    | 0, 1, _, _ => exact b
    | 1, 0, _, _ => exact c
    | 1, 1, _, _ => exact d
  have key : ∀ b : Bk, b.mo.length = 2 → b.no.length = 2 → b.wa.length = 2 → ((b.wa.getD 0 []).length = 2 ∧ (b.wa.getD 1 []).length = 2) → b.he.length = 2 → ((b.he.getD 0 []).length = 2 ∧ (b.he.getD 1 []).length = 2) → b.ca.length = 2 → ((b.ca.getD 0 []).length = 2 ∧ (b.ca.getD 1 []).length = 2) →
      (∀ i, i < 2 → -1000000000 ≤ b.mo.getD i 0 ∧ b.mo.getD i 0 ≤ 1000000000) → (∀ i j, i < 2 → j < 2 → -1000000000 ≤ at2 b.ca i j ∧ at2 b.ca i j ≤ 1000000000) → (∀ i j, i < 2 → j < 2 → (at3 b.wa i j).length ≤ 100000) → (∀ i j, i < 2 → j < 2 → ∀ v, v ∈ at3 b.wa i j → -1000000000 ≤ v ∧ v ≤ 1000000000) → BkS b := by
    intro b h1 h2 h3 h4 h5 h6 h7 h8 h9 h10 h11 h12
    refine ⟨by omega, by omega, by omega, by omega, ?_, ?_, by omega, ?_, by omega, ?_, ?_, ?_, ?_⟩
    · rw [h1]; exact t2 h4.1 h4.2
    · rw [h1]; exact h11
    · rw [h1]; exact t2 h6.1 h6.2
    · rw [h1]; exact t2 h8.1 h8.2
    · rw [h1]; exact h9
    · rw [h1]; exact h10
    · rw [h1]; exact fun i j v hi hj hv => h12 i j hi hj v hv
  refine ⟨key _ rfl rfl rfl ⟨rfl, rfl⟩ rfl ⟨rfl, rfl⟩ rfl ⟨rfl, rfl⟩ (t2 (by decide) (by decide)) (t22 (by decide) (by decide) (by decide) (by decide)) (t22 (by decide) (by decide) (by decide) (by decide)) (t22 (by decide) (by decide) (by decide) (by decide)),
    key _ rfl rfl rfl ⟨rfl, rfl⟩ rfl ⟨rfl, rfl⟩ rfl ⟨rfl, rfl⟩ (t2 (by decide) (by decide)) (t22 (by decide) (by decide) (by decide) (by decide)) (t22 (by decide) (by decide) (by decide) (by decide)) (t22 (by decide) (by decide) (by decide) (by decide)),
    key _ rfl rfl rfl ⟨rfl, rfl⟩ rfl ⟨rfl, rfl⟩ rfl ⟨rfl, rfl⟩ (t2 (by decide) (by decide)) (t22 (by decide) (by decide) (by decide) (by decide)) (t22 (by decide) (by decide) (by decide) (by decide)) (t22 (by decide) (by decide) (by decide) (by decide)),
    key _ rfl rfl rfl ⟨rfl, rfl⟩ rfl ⟨rfl, rfl⟩ rfl ⟨rfl, rfl⟩ (t2 (by decide) (by decide)) (t22 (by decide) (by decide) (by decide) (by decide)) (t22 (by decide) (by decide) (by decide) (by decide)) (t22 (by decide) (by decide) (by decide) (by decide))⟩
end Go.Proofs.YtjgdpblaghhfhaaDoor.N
