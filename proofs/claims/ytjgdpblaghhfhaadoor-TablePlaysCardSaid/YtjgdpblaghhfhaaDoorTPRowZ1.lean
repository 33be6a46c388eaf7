/- Own texts, merged: As, Er, TDef, TV, TOk, RDef, RV, ROk, SDef, SM, RLDef, RLV, RM, RLaw. -/
import Derived.Test.YtjgdpblaghhfhaaDoorChecked
import Derived.WalkKit
import Derived.LaidEql
import Derived.Stop.Asserts
import Derived.RowKitTokens
import Derived.Test.YtjgdpblaghhfhaaDoorVcQ
import Derived.Test.YtjgdpblaghhfhaaDoorVcPA
import Derived.Test.YtjgdpblaghhfhaaDoorRows
namespace Go.Proofs.YtjgdpblaghhfhaaDoor
open Go.RowKit Go.Extern.Stop Go.Stop Go.Extern

/-- errors.As(nil, target). -/
theorem as_nil (t : Value) (w : World) :
    Calls Tryd.prog 44 #[.nilIface, t] w fun e w' => e = .returned (.bool false) ∧ w' = w := by
  go_enter Tryd.func44, Tryd.ntmps44
  go_wp2
  go_ret
  exact ⟨rfl, rfl⟩

/-! ### CLOSED FACTS ON THE MODEL's ENTRIES FOR internal/reflectlite, at this program's types: 25: *p.E · 27: **p.E · 23: error · 45: reflectlite's rtype · 1: how many package-level variables the dump has -/
theorem Tas.valueOf27 (t : Addr) (w : World) : (ReflectliteValue.unpack (.iface 97 (.pointer (some t)))).run Tryd.prog w
    = .ok (.agg #[.pointer (some ⟨1, 97, none⟩), .pointer (some ⟨w.heap.size, 0, none⟩), .int .u64 150]) (w.alloc (.cells #[.pointer (some t)] 97)) := by kernel_rfl
theorem Tas.type27 (a : Addr) (w : World) : (ReflectliteValue.methodAny (ReflectliteValue.valueError "reflectlite.Value.Type" 0) (fun t _ _ _ => ReflectliteType.toType t) #[.agg #[.pointer (some ⟨1, 97, none⟩), .pointer (some a), .int .u64 150]]).run Tryd.prog w
    = .ok (.iface 112 (.agg #[.pointer (some ⟨1, 97, none⟩)])) w := by kernel_rfl
theorem Tas.methodKind (h : Value) (w : World) : (Go.method 254 112 (.agg #[h]) "Kind").run Tryd.prog w = .ok (66, h) w := by kernel_rfl
theorem Tas.kind27 (w : World) : ((ReflectliteType.abiMethod fun t => (fun a : Nat => Value.int IntKind.u8 (a : Int)) <$> Rtype.kind t) #[.pointer (some ⟨1, 97, none⟩)]).run Tryd.prog w = .ok (.int .u8 22) w := by kernel_rfl
theorem Tas.kind25 (w : World) : ((ReflectliteType.abiMethod fun t => (fun a : Nat => Value.int IntKind.u8 (a : Int)) <$> Rtype.kind t) #[.pointer (some ⟨1, 76, none⟩)]).run Tryd.prog w = .ok (.int .u8 2) w := by kernel_rfl

/-! ### THE ENTRIES THAT READ OR WRITE MEMORY: laws with a premise on the cell (after Derived/Lib/ReflectliteSlice.lean's manner: each unfolding a lemma of its own, by rfl) -/
theorem rlm (z : Sem Value) (f : TypeId → Addr → Nat → Nat → Sem Value) (v : Value) :
    ReflectliteValue.method z f #[v] = (do match ← ReflectliteValue.parts v with | none => z | some (t, a, fl) => f t a fl (fl % 32)) := rfl
theorem Tas.parts27 (a : Addr) (w : World) : (ReflectliteValue.parts (.agg #[.pointer (some ⟨1, 97, none⟩), .pointer (some a), .int .u64 150])).run Tryd.prog w = .ok (some (97, a, 150)) w := by kernel_rfl
/-- (Value).IsNil at the Value of a **p.E that is not nil. -/
theorem Tas.isNil27 (a p : Addr) (W : World) (ha : W.cell? a = some (.pointer (some p))) :
    (ReflectliteValue.method (ReflectliteValue.valueError "reflectlite.Value.IsNil" 0) ReflectliteValue.isNil #[.agg #[.pointer (some ⟨1, 97, none⟩), .pointer (some a), .int .u64 150]]).run Tryd.prog W = .ok (.bool false) W := by
  rw [rlm]
  simp only [Sem.run_bind, Tas.parts27, Result.andThen]
  simp [ReflectliteValue.isNil, loadVar, isAgg, underlying, Tryd.underlying97, ha, Result.andThen]

theorem Tas.methodElem (h : Value) (w : World) : (Go.method 254 112 (.agg #[h]) "Elem").run Tryd.prog w = .ok (76, .agg #[h]) w := by kernel_rfl
theorem Tas.methodImplements (h : Value) (w : World) : (Go.method 254 112 (.agg #[h]) "Implements").run Tryd.prog w = .ok (77, .agg #[h]) w := by kernel_rfl
theorem Tas.methodAssignableTo (h : Value) (w : World) : (Go.method 254 112 (.agg #[h]) "AssignableTo").run Tryd.prog w = .ok (74, .agg #[h]) w := by kernel_rfl
theorem Tas.elem27 (w : World) : (ReflectliteType.method ReflectliteType.elem #[.agg #[.pointer (some ⟨1, 97, none⟩)]]).run Tryd.prog w = .ok (.iface 112 (.agg #[.pointer (some ⟨1, 76, none⟩)])) w := by kernel_rfl
theorem Tas.implements25 (w : World) : (ReflectliteType.relation "Implements" ReflectliteType.implements_ #[.agg #[.pointer (some ⟨1, 76, none⟩)], .iface 112 (.agg #[.pointer (some ⟨1, 25, none⟩)])]).run Tryd.prog w = .ok (.bool true) w := by kernel_rfl
theorem Tas.typeOf25 (v : Value) (w : World) : (ReflectliteType.typeOf #[.iface 76 v]).run Tryd.prog w = .ok (.iface 112 (.agg #[.pointer (some ⟨1, 76, none⟩)])) w := by kernel_rfl
theorem Tas.assignable25 (w : World) : (ReflectliteType.relation "AssignableTo" ReflectliteType.assignableTo #[.agg #[.pointer (some ⟨1, 76, none⟩)], .iface 112 (.agg #[.pointer (some ⟨1, 76, none⟩)])]).run Tryd.prog w = .ok (.bool true) w := by kernel_rfl
theorem Tas.valueOf25 (e : Int) (w : World) : (ReflectliteValue.unpack (.iface 76 (.int .i64 e))).run Tryd.prog w
    = .ok (.agg #[.pointer (some ⟨1, 76, none⟩), .pointer (some ⟨w.heap.size, 0, none⟩), .int .u64 130]) (w.alloc (.cells #[.int .i64 e] 76)) := by kernel_rfl

theorem Tas.elemOf27 (w : World) : (Rtype.elem? 97).run Tryd.prog w = .ok (some 76) w := by kernel_rfl
theorem Tas.mk25 (p : Addr) (w : World) : (ReflectliteValue.mk 76 p ReflectliteValue.flagAddr).run Tryd.prog w = .ok (.agg #[.pointer (some ⟨1, 76, none⟩), .pointer (some p), .int .u64 386]) w := by kernel_rfl
/-- (Value).Elem at the Value of a **p.E that is not nil: the Value of the *p.E variable that it points to, addressable. -/
theorem Tas.elemV27 (a p : Addr) (W : World) (ha : W.cell? a = some (.pointer (some p))) :
    (ReflectliteValue.method (ReflectliteValue.valueError "reflectlite.Value.Elem" 0) ReflectliteValue.elem #[.agg #[.pointer (some ⟨1, 97, none⟩), .pointer (some a), .int .u64 150]]).run Tryd.prog W
      = .ok (.agg #[.pointer (some ⟨1, 76, none⟩), .pointer (some p), .int .u64 386]) W := by
  rw [rlm]
  simp only [Sem.run_bind, Tas.parts27, Result.andThen]
  simp [ReflectliteValue.elem, loadVar, isAgg, underlying, Tryd.underlying97, ha, Result.andThen, Tas.elemOf27, Tas.mk25]
theorem rls (v x : Value) : ReflectliteValue.set #[v, x] = (do
    let (some (dst, a, fl), some (src, b, _)) := (← ReflectliteValue.parts v, ← ReflectliteValue.parts x)
      | unsupported (.noEntry "extern/(internal/reflectlite.Value).Set.zeroValue")
    if fl / ReflectliteValue.flagAddr % 2 == 0 then unsupported (.noEntry "extern/(internal/reflectlite.Value).Set.unaddressable")
    let val ← loadVar src b
    if ← Rtype.directlyAssignable dst src then storeVar dst a val
    else if ← Rtype.implements dst src then
      if (← Rtype.kind src) == 20 then
        match val with
        | .nilIface => unsupported (.noEntry "extern/reflectlite: a nil value of one interface type handed on as a value of another")
        | _ => storeVar dst a val
      else storeVar dst a (.iface src val)
    else panicString ("reflectlite.Set: value of type " ++ (← Rtype.spelt src) ++ " is not assignable to type " ++ (← Rtype.spelt dst))
    pure (.tuple #[])) := rfl
theorem Tas.parts25a (a : Addr) (w : World) : (ReflectliteValue.parts (.agg #[.pointer (some ⟨1, 76, none⟩), .pointer (some a), .int .u64 386])).run Tryd.prog w = .ok (some (76, a, 386)) w := by kernel_rfl
theorem Tas.parts25 (a : Addr) (w : World) : (ReflectliteValue.parts (.agg #[.pointer (some ⟨1, 76, none⟩), .pointer (some a), .int .u64 130])).run Tryd.prog w = .ok (some (76, a, 130)) w := by kernel_rfl
theorem Tas.direct25 (w : World) : (Rtype.directlyAssignable 76 76).run Tryd.prog w = .ok true w := by kernel_rfl
theorem Tas.size25 (w : World) : (sizeOf 76).run Tryd.prog w = .ok 1 w := by kernel_rfl
/-- (Value).Set: the *p.E variable at 'ta' gets what the Value's own variable 'b' holds. -/
theorem Tas.set25 (ta b : Addr) (e : Int) (old : Value) (W : World) (hb : W.cell? b = some (.int .i64 e)) (ht : W.cell? ta = some old) (hf : W.frozen? ta = false) :
    (ReflectliteValue.set #[.agg #[.pointer (some ⟨1, 76, none⟩), .pointer (some ta), .int .u64 386], .agg #[.pointer (some ⟨1, 76, none⟩), .pointer (some b), .int .u64 130]]).run Tryd.prog W
      = .ok (.tuple #[]) (W.setCell ta (.int .i64 e)) := by
  rw [rls]
  simp only [Sem.run_bind, Tas.parts25a, Tas.parts25, Result.andThen]
  simp [ReflectliteValue.flagAddr, loadVar, isAgg, underlying, Tryd.underlying76, hb, Result.andThen, Tas.direct25, storeVar, Value.cells, storeCells, Addr.add]
  rw [run_store Tryd.prog W ta _ _ (by rfl)]
  simp [ht, hf]

set_option maxRecDepth 100000 in
set_option maxHeartbeats 4000000 in
theorem as_hit (e : Int) (t : Addr) (old : Value) (w : World) (hg : w.cell? ⟨0, 0, none⟩ = some (.iface 112 (.agg #[.pointer (some ⟨1, 25, none⟩)]))) (ht0 : w.cell? t = some old) (hf0 : w.frozen? t = false) :
    Calls Tryd.prog 44 #[.iface 76 (.int .i64 e), .iface 97 (.pointer (some t))] w fun ev w' => ev = .returned (.bool true) ∧ w' = ((((w.alloc (.cells #[.pointer (some t)] 97)).alloc (.cells #[.pointer (some ⟨1, 97, none⟩), .pointer (some ⟨w.heap.size, 0, none⟩), .int .u64 150] 101)).alloc (.cells #[.pointer (some ⟨1, 97, none⟩), .pointer (some ⟨w.heap.size, 0, none⟩), .int .u64 150] 101)).alloc (.cells #[.int .i64 e] 76)).setCell t (.int .i64 e) := by
  have h6 := @run_callFunc_extern Tryd.prog 45 _ (fun args => ReflectliteValue.unpack (args.getD 0 (.tuple #[]))) Tryd.func45 (by kernel_rfl) (by kernel_rfl) (by kernel_rfl) (by kernel_rfl)
  have h7 := @run_callFunc_extern Tryd.prog 46 _ (ReflectliteValue.methodAny (ReflectliteValue.valueError "reflectlite.Value.Type" 0) (fun t _ _ _ => ReflectliteType.toType t)) Tryd.func46 (by kernel_rfl) (by kernel_rfl) (by kernel_rfl) (by kernel_rfl)
  have h8 := @run_callFunc_extern Tryd.prog 47 _ (ReflectliteValue.method (ReflectliteValue.valueError "reflectlite.Value.IsNil" 0) ReflectliteValue.isNil) Tryd.func47 (by kernel_rfl) (by kernel_rfl) (by kernel_rfl) (by kernel_rfl)
  have h27 := @run_callFunc_extern Tryd.prog 66 _ (ReflectliteType.abiMethod fun t => do pure (.int .u8 (← Rtype.kind t))) Tryd.func66 (by kernel_rfl) (by kernel_rfl) (by kernel_rfl) (by kernel_rfl)
  have h37 := @run_callFunc_extern Tryd.prog 76 _ (ReflectliteType.method ReflectliteType.elem) Tryd.func76 (by kernel_rfl) (by kernel_rfl) (by kernel_rfl) (by kernel_rfl)
  have h38 := @run_callFunc_extern Tryd.prog 77 _ (ReflectliteType.relation "Implements" ReflectliteType.implements_) Tryd.func77 (by kernel_rfl) (by kernel_rfl) (by kernel_rfl) (by kernel_rfl)
  have h10 := @run_callFunc_extern Tryd.prog 49 _ ReflectliteType.typeOf Tryd.func49 (by kernel_rfl) (by kernel_rfl) (by kernel_rfl) (by kernel_rfl)
  have h35 := @run_callFunc_extern Tryd.prog 74 _ (ReflectliteType.relation "AssignableTo" ReflectliteType.assignableTo) Tryd.func74 (by kernel_rfl) (by kernel_rfl) (by kernel_rfl) (by kernel_rfl)
  have h11 := @run_callFunc_extern Tryd.prog 50 _ (ReflectliteValue.method (ReflectliteValue.valueError "reflectlite.Value.Elem" 0) ReflectliteValue.elem) Tryd.func50 (by kernel_rfl) (by kernel_rfl) (by kernel_rfl) (by kernel_rfl)
  have h12 := @run_callFunc_extern Tryd.prog 51 _ ReflectliteValue.set Tryd.func51 (by kernel_rfl) (by kernel_rfl) (by kernel_rfl) (by kernel_rfl)
  have tO := Tas.typeOf25
  have mA := Tas.methodAssignableTo
  have a25 := Tas.assignable25
  have v25 := Tas.valueOf25
  have f6 := Tas.valueOf27
  have f7 := Tas.type27
  have mK := Tas.methodKind
  have mE := Tas.methodElem
  have mI := Tas.methodImplements
  have k27 := Tas.kind27
  have k25 := Tas.kind25
  have e27 := Tas.elem27
  have i25 := Tas.implements25
  have n8 := Tas.isNil27 ⟨w.heap.size, 0, none⟩ t ((w.alloc (.cells #[.pointer (some t)] 97)).alloc (.cells #[.pointer (some ⟨1, 97, none⟩), .pointer (some ⟨w.heap.size, 0, none⟩), .int .u64 150] 101)) (by simp)
  have hlt : 0 < w.heap.size := by
    rcases Nat.eq_zero_or_pos w.heap.size with h0 | h
    · simp [World.cell?, h0] at hg
    · exact h
  have hg2 : ((w.alloc (.cells #[.pointer (some t)] 97)).alloc (.cells #[.pointer (some ⟨1, 97, none⟩), .pointer (some ⟨w.heap.size, 0, none⟩), .int .u64 150] 101)).cell? ⟨0, 0, none⟩ = some (.iface 112 (.agg #[.pointer (some ⟨1, 25, none⟩)])) := by
    rw [World.cell?_alloc_lt _ _ ⟨0, 0, none⟩ (by simp), World.cell?_alloc_lt _ _ ⟨0, 0, none⟩ hlt]; exact hg
  have htl : t.block < w.heap.size := by
    rcases Nat.lt_or_ge t.block w.heap.size with h | h
    · exact h
    · simp [World.cell?, Array.getElem?_eq_none h] at ht0
  have el := Tas.elemV27 ⟨w.heap.size, 0, none⟩ t (((w.alloc (.cells #[.pointer (some t)] 97)).alloc (.cells #[.pointer (some ⟨1, 97, none⟩), .pointer (some ⟨w.heap.size, 0, none⟩), .int .u64 150] 101)).alloc (.cells #[.pointer (some ⟨1, 97, none⟩), .pointer (some ⟨w.heap.size, 0, none⟩), .int .u64 150] 101)) (by rw [World.cell?_alloc_lt _ _ ⟨w.heap.size, 0, none⟩ (by simp; omega)]; simp)
  have st := Tas.set25 t ⟨w.heap.size + 1 + 1 + 1, 0, none⟩ e old ((((w.alloc (.cells #[.pointer (some t)] 97)).alloc (.cells #[.pointer (some ⟨1, 97, none⟩), .pointer (some ⟨w.heap.size, 0, none⟩), .int .u64 150] 101)).alloc (.cells #[.pointer (some ⟨1, 97, none⟩), .pointer (some ⟨w.heap.size, 0, none⟩), .int .u64 150] 101)).alloc (.cells #[.int .i64 e] 76))
    (by rw [World.cell?_alloc_at _ _ _ _ (by simp)]; rfl)
    (by rw [World.cell?_alloc_lt _ _ t (by simp; omega), World.cell?_alloc_lt _ _ t (by simp; omega), World.cell?_alloc_lt _ _ t (by simp; omega), World.cell?_alloc_lt _ _ t htl]; exact ht0)
    (by rw [World.frozen?_alloc_old _ _ t (by simp; omega), World.frozen?_alloc_old _ _ t (by simp; omega), World.frozen?_alloc_old _ _ t (by simp; omega), World.frozen?_alloc_old _ _ t (Nat.ne_of_lt htl)]; exact hf0)
  go_enter Tryd.func44, Tryd.ntmps44
  go_wp2
  refine wp_loop_rounds 1 ?_
  rw [rounds_succ]
  go_wp2
  go_ret
  exact ⟨rfl, rfl⟩
end Go.Proofs.YtjgdpblaghhfhaaDoor

/- The number of an error, as the program tells it; is an error the one with a number? -/
namespace Go.Proofs.YtjgdpblaghhfhaaDoor
open Go.RowKit Go.Extern.Stop Go.Stop Go.Extern Go.Vc
abbrev I : Ty := .int .i64
abbrev tErr : Ty := .err 76

theorem fr_alloc (w : World) (o : Obj) : Fr (fun _ => False) w (w.alloc o) := ⟨rfl, rfl, rfl, by simp, fun b hb _ => Ext.alloc w o b hb⟩

theorem told_nil (w : World) : Calls Tryd.prog 31 #[.nilIface] w fun e w' => e = .returned (.int .i64 0) ∧ w' = w := by
  go_enter Tryd.func31, Tryd.ntmps31
  go_wp2
  go_ret
  exact ⟨rfl, rfl⟩

set_option maxRecDepth 100000 in
set_option maxHeartbeats 4000000 in
theorem told_hit (n : Int) (w : World) (hg : w.cell? ⟨0, 0, none⟩ = some (.iface 112 (.agg #[.pointer (some ⟨1, 25, none⟩)]))) :
    Calls Tryd.prog 31 #[.iface 76 (.int .i64 n)] w fun e w' => e = .returned (.int .i64 n) ∧ Fr (fun _ => False) w w' := by
  have hlt : 0 < w.heap.size := World.block_lt_of_cell? w ⟨0, 0, none⟩ hg
  have hgA : (w.alloc (.cells #[.int .i64 0] 76)).cell? ⟨0, 0, none⟩ = some (.iface 112 (.agg #[.pointer (some ⟨1, 25, none⟩)])) := by
    rw [World.cell?_alloc_lt _ _ ⟨0, 0, none⟩ hlt]; exact hg
  have htA : (w.alloc (.cells #[.int .i64 0] 76)).cell? ⟨w.heap.size, 0, none⟩ = some (.int .i64 0) := by simp
  have hfA : (w.alloc (.cells #[.int .i64 0] 76)).frozen? ⟨w.heap.size, 0, none⟩ = false := by simp
  go_enter Tryd.func31, Tryd.ntmps31
  go_wp2_with (go_at_call 44; refine (as_hit n _ (.int .i64 0) _ hgA htA hfA).mono ?_; rintro e w' ⟨rfl, rfl⟩)
  go_ret
  exact ⟨rfl, ((((fr_alloc _ _).trans (fr_alloc _ _)).trans (fr_alloc _ _)).trans (fr_alloc _ _)).trans (fr_alloc _ _)⟩

/-- the handle of the type 'error' -/
abbrev hdE : Value := .iface 112 (.agg #[.pointer (some ⟨1, 25, none⟩)])
def glE : List (Nat × Dat) := [(0, ⟨.raw, hdE⟩)]
theorem hd_of {w : World} {ro : Nat → Prop} (h : GlOk glE w ro) : w.cell? ⟨0, 0, none⟩ = some hdE := by
  obtain ⟨_, us, h1, hn⟩ := h 0 _ (List.mem_singleton.2 rfl)
  have hn : us = [hdE] ∧ hdE.oneCell' = true := hn
  exact h1 0 hdE (by rw [hn.1]; rfl)
def cTold : Ctr := cdet [tErr] (fun (n : Int) => inK .i64 n) (fun (n : Int) => [⟨I, n⟩])
theorem okTold : PlainOk Tryd.prog glE 31 cTold := by
  intro ds k hs w R0 vals hR0 hG hD
  obtain ⟨hp, hk⟩ := hs
  obtain ⟨n, rfl, hin⟩ := dest1 hp
  have hk : k [⟨I, n⟩] := hk
  obtain ⟨hl, hd⟩ := hD
  match vals, hl with
  | [v], _ =>
    have hv : Ty.okV w R0 tErr n v := hd 0 ⟨tErr, n⟩ v rfl rfl
    unfold Ty.okV at hv
    simp only [Ty.agg, Bool.false_eq_true, if_false, Ty.ok] at hv
    have hok : ∀ {w' : World} {ro : Nat → Prop}, inK .i64 n → RetOk w' ro [(⟨I, n⟩ : Dat)] (.int .i64 n) := by
      intro w' ro hn
      show Ty.okV _ _ I n _
      unfold Ty.okV
      simp only [Ty.agg, Bool.false_eq_true, if_false, Ty.ok]
      exact ⟨trivial, hn⟩
    rcases hv with ⟨h0, hv⟩ | ⟨h0, hv⟩
    · injection hv with hv
      subst hv
      have h0 : (0 : Int) = n := h0.symm
      subst h0
      refine (show Calls Tryd.prog 31 #[.nilIface] w _ from told_nil w).mono fun e w' ⟨he, hw⟩ => ?_
      subst hw
      exact ⟨Fr.refl _ _, [⟨I, (0 : Int)⟩], _, he, hk, hok hin⟩
    · injection hv with hv
      subst hv
      refine (show Calls Tryd.prog 31 #[.iface 76 (.int .i64 n)] w _ from told_hit n w (hd_of hG)).mono fun e w' ⟨he, hw⟩ => ?_
      exact ⟨hw, [⟨I, n⟩], _, he, hk, hok hin⟩
theorem PlainOk.sub {P : Program} {gl gl' : List (Nat × Dat)} {f : FuncId} {c : Ctr} (hs : ∀ x ∈ gl, x ∈ gl') (h : PlainOk P gl f c) : PlainOk P gl' f c :=
  fun ds k hk w R0 vals hR0 hG hD => h ds k hk w R0 vals hR0 (fun g d hg => hG g d (hs _ hg)) hD
def cError : Ctr := cdet [tErr, I] (fun (n _ : Int) => inK .i64 n ∧ True) (fun (n e : Int) => [⟨.bool, decide (n = e)⟩])
def Er : Env := { tys := [(3, I), (4, .bool), (25, tErr), (76, I)], errT := 76, eqs := [], els := [] }
theorem Er_ok : EnvOk Tryd.prog Er := EnvOk.of_list (by kernel_rfl) (by kernel_rfl) (by kernel_rfl)
set_option linter.unusedVariables false in
theorem vcError (n e : Int) (k : List Dat → Prop) : vcF ⟨Er, [(31, cTold)], glE, [], []⟩ [] (Tryd.f7.body.getD .skip) Tryd.f7.ntmps [(.tmp 4, .bool)] [⟨tErr, n⟩, ⟨I, e⟩] k = (
  IntKind.i64.wrap n = n ∧ k [Dat.mk Ty.bool (decide (n = e))]) := by kernel_rfl
theorem okError : PlainOk Tryd.prog glE 7 cError := by
  refine plain_of (CxOk.mk' Er_ok rfl (by kernel_rfl) (gl := glE) (GOk.cons okTold Tryd.func31 (by kernel_rfl) (by kernel_rfl) GOk.nil) GoOk.nil noIt) Tryd.func7 (c := Tryd.f7.body.getD .skip) (rvs := [(.tmp 4, .bool)]) (by kernel_rfl) (by kernel_rfl) (by kernel_rfl) ?_
  intro ds k ⟨hp, hk⟩ hwf
  obtain ⟨n, e, rfl, hin, -⟩ := dest2 hp
  have hk : k [⟨.bool, decide (n = e)⟩] := hk
  refine ⟨[], ?_⟩
  rw [vcError]
  exact ⟨hin, hk⟩
theorem glE_of {laid : List (String × DataW Unit)} (hm : ("errors.errorType", Rows.laid_errors_errorType) ∈ laid) {W : World} (h : laidMetH Tryd.prog laid W) : GlOk glE W fun b => b < W.heap.size :=
  gl_of_handle (n := "errors.errorType") (u := 112) (ty := 25) (d := Rows.laid_errors_errorType) h hm rfl rfl (by kernel_rfl) (by kernel_rfl) (by kernel_rfl) (by kernel_rfl) rfl
end Go.Proofs.YtjgdpblaghhfhaaDoor

/- Tables of who knows what who knows: what the program's functions answer. -/
namespace Go.Proofs.YtjgdpblaghhfhaaDoor.T
open Go.Vc
abbrev glK : List (Nat × Dat) := glE
abbrev L3 : Type := List (List (List Int))
@[match_pattern] abbrev tTab : Ty := .pr (.sl (.sl (.sl I))) (.pr (.sl I) .un)
abbrev Td : Type := L3 × List Int × Unit
abbrev zT : Td := ([], [], ())
@[match_pattern] abbrev oR : Ot := .sl 3 (.d I)
@[match_pattern] abbrev oK : Ot := .sl 29 (.sl 3 (.d I))
def Et : Env := { tys := [(3, I), (4, .bool), (25, tErr), (29, .sl I), (41, .sl (.sl I)), (42, .ptr tTab), (80, .sl (.sl (.sl I))), (82, tTab)], errT := 76, eqs := [], els := [(29, 3), (41, 29), (80, 41)], pb := [82] }
theorem Et_ok : EnvOk Tryd.prog Et := EnvOk.of_list (by kernel_rfl) (by kernel_rfl) (by kernel_rfl)
theorem mixed : Tryd.prog.follows .mixedOrders = true := by kernel_rfl
def inB (n lo hi : Int) : Bool := decide (lo ≤ n) && decide (n ≤ hi)
theorem inB_iff {n lo hi : Int} : inB n lo hi = true ↔ lo ≤ n ∧ n ≤ hi := by unfold inB; simp
def cWithin : Ctr := cdet [I, I, I] (fun _ _ _ => True) (fun a b c => [⟨.bool, inB a b c⟩])
/-- a table -/
structure Tb where
  know : L3
  done : List Int
def tob (kn : L3) (dn : List Int) : List Ob := [.st 82 [.os 1, .os 2], .trow 41 oK kn, .row 3 I dn]
def Tb.ob (t : Tb) : List Ob := tob t.know t.done
def at3 (k : L3) (a b c : Nat) : Int := ((k.getD a []).getD b []).getD c 0
def wr3 (k : L3) (a b c : Nat) (v : Int) : L3 := k.set a ((k.getD a []).set b (((k.getD a []).getD b []).set c v))
structure Shp (k : L3) (n : Nat) : Prop where
  a : k.length = n
  b : ∀ i, i < n → (k.getD i []).length = n
  c : ∀ i j, i < n → j < n → ((k.getD i []).getD j []).length = n
structure TbOk (kn : L3) (dn : List Int) : Prop where
  n1 : 1 ≤ kn.length
  n5 : kn.length ≤ 5
  sh : Shp kn kn.length
  dl : dn.length = kn.length
  v : ∀ a b c, a < kn.length → b < kn.length → c < kn.length → 0 ≤ at3 kn a b c ∧ at3 kn a b c ≤ dn.getD c 0
  d : ∀ c, c < kn.length → dn.getD c 0 ≤ 60
  e : ∀ c, c < kn.length → at3 kn c c c = dn.getD c 0
def newK (n : Nat) : L3 := List.replicate n (List.replicate n (List.replicate n 0))
def oNew : OCtr := fun args ob k =>
  match args, ob with
  | [.d (.int .i64) n], [] => (inB n 1 5 = true → k (.tp [.ps 0, .d tErr (0 : Int)]) (tob (newK n.toNat) (List.replicate n.toNat 0))) ∧ (inB n 1 5 = false → k (.tp [.nilp, .d tErr (1 : Int)]) [])
  | _, _ => False
def rows0 (n j : Nat) : List (List Int) := List.replicate j (List.replicate n 0)
def know0 (n i : Nat) : L3 := List.replicate i (List.replicate n (List.replicate n 0))
def anNew (n : Int) : Ann :=
  [loopAt 5 Nat [(1004, 41, oK)] (fun st i => { St.at (St.only st [0, 4, 14]) [(15, .d I (i : Int))] with ob := [.row 3 I (List.replicate n.toNat 0), .st 82 [.os 2, .os 0], .trow 41 oK (know0 n.toNat i)] }) (fun _ i => (i : Int) ≤ n ∧ True) (fun i => n.toNat - i),
   loopAt 8 Nat [(5, 29, oR)] (fun st j => { St.at (St.only st [0, 4, 5, 14, 15, 17]) [(18, .d I (j : Int))] with ob := st.ob.set 3 (.trow 29 oR (rows0 n.toNat j)) }) (fun _ j => (j : Int) ≤ n ∧ True) (fun j => n.toNat - j)]
def cIs : Ctr := cdet [.ptr tTab, I] (fun (p : Option Td) (_ : Int) => ∃ s : Td, p = some s ∧ s.1.length ≤ 5) (fun (p : Option Td) (i : Int) => [⟨.bool, inB i 0 (((p.getD zT).1.length : Int) - 1)⟩])
def writeF (t : Tb) (p : Int) : Int × Tb :=
  if inB p 0 ((t.know.length : Int) - 1) = false then (1, t) else if t.done.getD p.toNat 0 = 60 then (4, t)
  else (0, ⟨wr3 t.know p.toNat p.toNat p.toNat (at3 t.know p.toNat p.toNat p.toNat + 1), t.done.set p.toNat (t.done.getD p.toNat 0 + 1)⟩)
/-- what one tells to another one -/
def tell1 (k : L3) (f t : Nat) : Nat → L3
  | 0 => k
  | m + 1 => wr3 (tell1 k f t m) t t m (max (at3 (tell1 k f t m) t t m) (at3 (tell1 k f t m) f f m))
def tellR (k : L3) (f t j : Nat) : Nat → L3
  | 0 => k
  | m + 1 => wr3 (tellR k f t j m) t j m (max (at3 (tellR k f t j m) t j m) (at3 (tellR k f t j m) f j m))
def tellA (k : L3) (f t n : Nat) : Nat → L3
  | 0 => k
  | j + 1 => tellR (tellA k f t n j) f t j n
def tellF (t : Tb) (f g : Int) : Int × Tb :=
  if (inB f 0 ((t.know.length : Int) - 1) && inB g 0 ((t.know.length : Int) - 1)) = false then (1, t) else if f = g then (6, t)
  else (0, ⟨tellA (tell1 t.know f.toNat g.toNat t.know.length) f.toNat g.toNat t.know.length t.know.length, t.done⟩)
def oWrite : OCtr := fun args ob k =>
  match args, ob with
  | [.ps 0, .d (.int .i64) p], [.st 82 [.os 1, .os 2], .trow 41 oK kn, .row 3 (.int .i64) dn] => TbOk kn dn ∧ k (.d tErr (writeF ⟨kn, dn⟩ p).1) (writeF ⟨kn, dn⟩ p).2.ob
  | _, _ => False
def oTell : OCtr := fun args ob k =>
  match args, ob with
  | [.ps 0, .d (.int .i64) f, .d (.int .i64) g], [.st 82 [.os 1, .os 2], .trow 41 oK kn, .row 3 (.int .i64) dn] => TbOk kn dn ∧ k (.d tErr (tellF ⟨kn, dn⟩ f g).1) (tellF ⟨kn, dn⟩ f g).2.ob
  | _, _ => False
def anTell (kn : L3) (f g : Int) : Ann :=
  [joinAll,
   loopAt 7 Nat [] (fun st m => { St.at (St.only st [0, 1, 2, 7, 8, 45]) [(46, .d I (m : Int))] with ob := st.ob.set 1 (.trow 41 oK (tell1 kn f.toNat g.toNat m)) }) (fun _ m => m ≤ kn.length ∧ True) (fun m => kn.length - m),
   loopAt 12 Nat [] (fun st j => { St.at (St.only st [0, 1, 2, 7, 8, 72]) [(73, .d I (j : Int))] with ob := st.ob.set 1 (.trow 41 oK (tellA (tell1 kn f.toNat g.toNat kn.length) f.toNat g.toNat kn.length j)) }) (fun _ j => j ≤ kn.length ∧ True) (fun j => kn.length - j),
   loopAt 15 Nat [] (fun st m => { St.at (St.only st [0, 1, 2, 7, 8, 10, 72, 73, 80]) [(81, .d I (m : Int))] with ob := st.ob.set 1 (.trow 41 oK (tellR (tellA (tell1 kn f.toNat g.toNat kn.length) f.toNat g.toNat kn.length (st.i 73).toNat) f.toNat g.toNat (st.i 73).toNat m)) }) (fun _ m => m ≤ kn.length ∧ True) (fun m => kn.length - m)]
def knowF (k : L3) (a b c : Int) : Int := if (inB a 0 ((k.length : Int) - 1) && inB b 0 ((k.length : Int) - 1) && inB c 0 ((k.length : Int) - 1)) = true then at3 k a.toNat b.toNat c.toNat else -1
structure TdOk (p : Td) : Prop where
  n5 : p.1.length ≤ 5
  sh : Shp p.1 p.1.length
def cKnows : Ctr := cdet [.ptr tTab, I, I, I] (fun (p : Option Td) (_ _ _ : Int) => ∃ s : Td, p = some s ∧ TdOk s) (fun (p : Option Td) (a b c : Int) => [⟨I, knowF (p.getD zT).1 a b c⟩])
def minL : List Int → Int
  | [] => 0
  | x :: r => r.foldl min x
def cMin : Ctr := cdet [.sl I] (fun (l : List Int) => 1 ≤ l.length ∧ l.length ≤ 1000) (fun (l : List Int) => [⟨I, minL l⟩])
def anMin (l : List Int) : Ann := [joinAll, loopAt 5 Nat [] (fun st i => St.at (St.only st [0]) [(3, .d I (minL (l.take i))), (4, .d I (i : Int))]) (fun _ i => 1 ≤ i ∧ i ≤ l.length) (fun i => l.length - i)]
def colF (k : L3) (a c : Nat) (i : Nat) : List Int := (List.range i).map fun b => at3 k a b c
def stabF (k : L3) (a c : Int) : Int := if (inB a 0 ((k.length : Int) - 1) && inB c 0 ((k.length : Int) - 1)) = true then minL (colF k a.toNat c.toNat k.length) else -1
def cStable : Ctr := cdet [.ptr tTab, I, I] (fun (p : Option Td) (_ _ : Int) => ∃ s : Td, p = some s ∧ TdOk s) (fun (p : Option Td) (a c : Int) => [⟨I, stabF (p.getD zT).1 a c⟩])
def anStable (k : L3) (a c : Int) : Ann := [joinAll, loopAt 5 Nat [(7, 3, I)] (fun st i => { St.at (St.only st [0, 1, 2, 7, 23]) [(24, .d I (i : Int))] with ob := st.ob.set 0 (.row 3 I (colF k a.toNat c.toNat i)) }) (fun _ i => i ≤ k.length ∧ True) (fun i => k.length - i)]
end Go.Proofs.YtjgdpblaghhfhaaDoor.T

/- What the functions of this seat have to satisfy, by program: each verification condition in plain words. -/
namespace Go.Proofs.YtjgdpblaghhfhaaDoor
open Go.Vc Go.Proofs.YtjgdpblaghhfhaaDoor.T
set_option linter.unusedVariables false
theorem vcWithin (a b c : Int) (k : List Dat → Prop) : vcF ⟨Et, [], glK, [], []⟩ [] (Tryd.f30.body.getD .skip) Tryd.f30.ntmps [(.tmp 6, .bool)] [⟨I, a⟩, ⟨I, b⟩, ⟨I, c⟩] k = (
  (decide (b ≤ a) = true → k [Dat.mk Ty.bool (decide (a ≤ c))]) ∧ (decide (b ≤ a) = false → k [Dat.mk Ty.bool false])) := by kernel_rfl
theorem vcIs (kn : L3) (dn : List Int) (i : Int) (k : List Dat → Prop) : vcF ⟨Et, [(30, cWithin)], glK, [], []⟩ [] (Tryd.f36.body.getD .skip) Tryd.f36.ntmps [(.tmp 4, .bool)] [⟨.ptr tTab, some (kn, dn, ())⟩, ⟨I, i⟩] k = (
  inK IntKind.i64 ((↑(List.length kn) : Int) - (1 : Int)) ∧ True ∧ k [Dat.mk Ty.bool (inB i (0 : Int) ((↑(List.length kn) : Int) - (1 : Int)))]) := by kernel_rfl
theorem vcNew (n : Int) (k : SV → List Ob → Prop) : vcO ⟨Et, [(30, cWithin)], glK, [], []⟩ (anNew n) (Tryd.f13.body.getD .skip) Tryd.f13.ntmps [(.tmp 2, .un), (.tmp 3, tErr)] [.d I n] [] k = (
  True ∧ ((!inB n (1 : Int) (5 : Int)) = true → (1 : Int) ≠ (0 : Int) ∧ k (SV.tp [SV.nilp, SV.d (Ty.err (76 : Nat)) (1 : Int)]) []) ∧ ((!inB n (1 : Int) (5 : Int)) = false → (0 : Int) ≤ n ∧ n ≤ n ∧ n ≤ (1000000000 : Int) ∧ (∃ (x : Nat), ((↑x : Int) ≤ n ∧ True) ∧ (n = n ∧ True ∧ n = n ∧ (0 : Int) = (↑x : Int) ∧ True) ∧ (((3 : Nat) = (3 : Nat) ∧ List.replicate n.toNat (0 : Int) = List.replicate n.toNat (0 : I.D)) ∧ (True ∧ True ∧ True) ∧ [] = know0 n.toNat x ∧ True) ∧ n = n ∧ hdE = hdE ∧ True) ∧ ∀ (x : Nat), (↑x : Int) ≤ n ∧ True → (decide ((↑x : Int) < n) = true → (∃ (x_1 : Nat), ((↑x_1 : Int) ≤ n ∧ True) ∧ (n = n ∧ True ∧ True ∧ n = n ∧ (↑x : Int) = (↑x : Int) ∧ n = n ∧ (0 : Int) = (↑x_1 : Int) ∧ True) ∧ (((3 : Nat) = (3 : Nat) ∧ List.replicate n.toNat (0 : I.D) = List.replicate n.toNat (0 : I.D)) ∧ (True ∧ True ∧ True) ∧ know0 n.toNat x = know0 n.toNat x ∧ [] = rows0 n.toNat x_1 ∧ True) ∧ n = n ∧ hdE = hdE ∧ True) ∧ ∀ (x_1 : Nat), (↑x_1 : Int) ≤ n ∧ True → (decide ((↑x_1 : Int) < n) = true → (0 : Int) ≤ n ∧ n ≤ n ∧ n ≤ (1000000000 : Int) ∧ (rows0 n.toNat x_1).length + [List.replicate n.toNat (0 : Int)].length ≤ (1000000000 : Nat) ∧ inK IntKind.i64 ((↑x_1 : Int) + (1 : Int)) ∧ ∃ (x_2 : Nat), ((↑x_2 : Int) ≤ n ∧ True) ∧ n.toNat - x_2 < n.toNat - x_1 ∧ (n = n ∧ True ∧ True ∧ n = n ∧ (↑x : Int) = (↑x : Int) ∧ n = n ∧ (↑x_1 : Int) + (1 : Int) = (↑x_2 : Int) ∧ True) ∧ (((3 : Nat) = (3 : Nat) ∧ List.replicate n.toNat (0 : I.D) = List.replicate n.toNat (0 : I.D)) ∧ (True ∧ True ∧ True) ∧ know0 n.toNat x = know0 n.toNat x ∧ (rows0 n.toNat x_1).append [List.replicate n.toNat (0 : Int)] = rows0 n.toNat x_2 ∧ True) ∧ n = n ∧ hdE = hdE ∧ True) ∧ (decide ((↑x_1 : Int) < n) = false → List.length (know0 n.toNat x) + [rows0 n.toNat x_1].length ≤ (1000000000 : Nat) ∧ inK IntKind.i64 ((↑x : Int) + (1 : Int)) ∧ ∃ (x_2 : Nat), ((↑x_2 : Int) ≤ n ∧ True) ∧ n.toNat - x_2 < n.toNat - x ∧ (n = n ∧ True ∧ n = n ∧ (↑x : Int) + (1 : Int) = (↑x_2 : Int) ∧ True) ∧ (((3 : Nat) = (3 : Nat) ∧ List.replicate n.toNat (0 : I.D) = List.replicate n.toNat (0 : I.D)) ∧ (True ∧ True ∧ True) ∧ List.append (know0 n.toNat x) [rows0 n.toNat x_1] = know0 n.toNat x_2 ∧ True) ∧ n = n ∧ hdE = hdE ∧ True)) ∧ (decide ((↑x : Int) < n) = false → k (SV.tp [SV.ps (0 : Nat), SV.d (Ty.err (76 : Nat)) (0 : Int)]) [Ob.st (82 : Nat) [SV.os (1 : Nat), SV.os (2 : Nat)], Ob.trow (41 : Nat) (Ot.sl (29 : Nat) (Ot.sl (3 : Nat) (Ot.d (I)))) (know0 n.toNat x), Ob.row (3 : Nat) (I) (List.replicate n.toNat (0 : I.D))]))) := by kernel_rfl
theorem vcWrite (kn : L3) (dn : List Int) (p : Int) (k : SV → List Ob → Prop) : vcO ⟨Et, [(36, cIs)], glK, [], []⟩ [joinAll] (Tryd.f16.body.getD .skip) Tryd.f16.ntmps [(.tmp 4, tErr)] [.ps 0, .d I p] (tob kn dn) k = (
  (∃ (s : L3 × List Int × Unit), some (kn, dn, ()) = some s ∧ List.length s.fst ≤ (5 : Nat)) ∧ ((!inB p (0 : Int) ((↑(kn).length : Int) - (1 : Int))) = true → (1 : Int) ≠ (0 : Int) ∧ k (SV.d (Ty.err (76 : Nat)) (1 : Int)) [Ob.st (82 : Nat) [SV.os (1 : Nat), SV.os (2 : Nat)], Ob.trow (41 : Nat) (Ot.sl (29 : Nat) (Ot.sl (3 : Nat) (Ot.d (I)))) kn, Ob.row (3 : Nat) (I) dn]) ∧ ((!inB p (0 : Int) ((↑(kn).length : Int) - (1 : Int))) = false → (0 : Int) ≤ p ∧ p < (↑dn.length : Int) ∧ (decide (dn.getD p.toNat (0 : Int) = (60 : Int)) = true → (4 : Int) ≠ (0 : Int) ∧ k (SV.d (Ty.err (76 : Nat)) (4 : Int)) [Ob.st (82 : Nat) [SV.os (1 : Nat), SV.os (2 : Nat)], Ob.trow (41 : Nat) (Ot.sl (29 : Nat) (Ot.sl (3 : Nat) (Ot.d (I)))) kn, Ob.row (3 : Nat) (I) dn]) ∧ (decide (dn.getD p.toNat (0 : Int) = (60 : Int)) = false → (0 : Int) ≤ p ∧ p < (↑dn.length : Int) ∧ inK IntKind.i64 (dn.getD p.toNat (0 : Int) + (1 : Int)) ∧ (0 : Int) ≤ p ∧ p < (↑dn.length : Int) ∧ (0 : Int) ≤ p ∧ p < (↑(List.length kn) : Int) ∧ p.toNat < List.length kn ∧ p.toNat < (kn).length ∧ (0 : Int) ≤ p ∧ p < (↑((kn).getD p.toNat []).length : Int) ∧ p.toNat < (kn).length ∧ p.toNat < ((kn).getD p.toNat []).length ∧ p.toNat < (kn).length ∧ p.toNat < (((kn).getD p.toNat [])).length ∧ (0 : Int) ≤ p ∧ p < (↑((((kn).getD p.toNat [])).getD p.toNat []).length : Int) ∧ p.toNat < (kn).length ∧ p.toNat < (((kn).getD p.toNat [])).length ∧ p.toNat < ((((kn).getD p.toNat [])).getD p.toNat []).length ∧ inK IntKind.i64 (((((kn).getD p.toNat [])).getD p.toNat []).getD p.toNat (0 : Int) + (1 : Int)) ∧ p.toNat < (kn).length ∧ p.toNat < (((kn).getD p.toNat [])).length ∧ (0 : Int) ≤ p ∧ p < (↑((((kn).getD p.toNat [])).getD p.toNat []).length : Int) ∧ p.toNat < (kn).length ∧ p.toNat < (((kn).getD p.toNat [])).length ∧ k (SV.d (Ty.err (76 : Nat)) (0 : Int)) [Ob.st (82 : Nat) [SV.os (1 : Nat), SV.os (2 : Nat)], Ob.trow (41 : Nat) (Ot.sl (29 : Nat) (Ot.sl (3 : Nat) (Ot.d (I)))) ((kn).set p.toNat ((((kn).getD p.toNat [])).set p.toNat ((((((kn).getD p.toNat [])).getD p.toNat [])).set p.toNat (((((kn).getD p.toNat [])).getD p.toNat []).getD p.toNat (0 : Int) + (1 : Int))))), Ob.row (3 : Nat) (I) (dn.set p.toNat (dn.getD p.toNat (0 : Int) + (1 : Int)))]))) := by kernel_rfl
theorem vcTell (kn : L3) (dn : List Int) (f g : Int) (k : SV → List Ob → Prop) : vcO ⟨Et, [(36, cIs)], glK, [], []⟩ (anTell kn f g) (Tryd.f18.body.getD .skip) Tryd.f18.ntmps [(.tmp 6, tErr)] [.ps 0, .d I f, .d I g] (tob kn dn) k = (
  (∃ (s : L3 × List Int × Unit), some (kn, dn, ()) = some s ∧ List.length s.fst ≤ (5 : Nat)) ∧ ((!inB f (0 : Int) ((↑(kn).length : Int) - (1 : Int))) = true → (1 : Int) ≠ (0 : Int) ∧ k (SV.d (Ty.err (76 : Nat)) (1 : Int)) [Ob.st (82 : Nat) [SV.os (1 : Nat), SV.os (2 : Nat)], Ob.trow (41 : Nat) (Ot.sl (29 : Nat) (Ot.sl (3 : Nat) (Ot.d (I)))) kn, Ob.row (3 : Nat) (I) dn]) ∧ ((!inB f (0 : Int) ((↑(kn).length : Int) - (1 : Int))) = false → (∃ (s : L3 × List Int × Unit), some (kn, dn, ()) = some s ∧ List.length s.fst ≤ (5 : Nat)) ∧ ((!inB g (0 : Int) ((↑(kn).length : Int) - (1 : Int))) = true → (1 : Int) ≠ (0 : Int) ∧ k (SV.d (Ty.err (76 : Nat)) (1 : Int)) [Ob.st (82 : Nat) [SV.os (1 : Nat), SV.os (2 : Nat)], Ob.trow (41 : Nat) (Ot.sl (29 : Nat) (Ot.sl (3 : Nat) (Ot.d (I)))) kn, Ob.row (3 : Nat) (I) dn]) ∧ ((!inB g (0 : Int) ((↑(kn).length : Int) - (1 : Int))) = false → (decide (f = g) = true → (6 : Int) ≠ (0 : Int) ∧ k (SV.d (Ty.err (76 : Nat)) (6 : Int)) [Ob.st (82 : Nat) [SV.os (1 : Nat), SV.os (2 : Nat)], Ob.trow (41 : Nat) (Ot.sl (29 : Nat) (Ot.sl (3 : Nat) (Ot.d (I)))) kn, Ob.row (3 : Nat) (I) dn]) ∧ (decide (f = g) = false → (0 : Int) ≤ g ∧ g < (↑(List.length kn) : Int) ∧ g.toNat < List.length kn ∧ (0 : Int) ≤ f ∧ f < (↑(List.length kn) : Int) ∧ f.toNat < List.length kn ∧ g.toNat < (kn).length ∧ (0 : Int) ≤ g ∧ g < (↑((kn).getD g.toNat []).length : Int) ∧ g.toNat < (kn).length ∧ g.toNat < ((kn).getD g.toNat []).length ∧ g.toNat < (kn).length ∧ g.toNat < (((kn).getD g.toNat [])).length ∧ (∃ (x : Nat), (x ≤ List.length kn ∧ True) ∧ (True ∧ f = f ∧ g = g ∧ [] ++ [g.toNat] = [] ++ [g.toNat] ∧ [] ++ [f.toNat] = [] ++ [f.toNat] ∧ (↑((((kn).getD g.toNat [])).getD g.toNat []).length : Int) = (↑((((kn).getD g.toNat [])).getD g.toNat []).length : Int) ∧ (0 : Int) = (↑x : Int) ∧ True) ∧ ((True ∧ True ∧ True) ∧ kn = tell1 kn f.toNat g.toNat x ∧ ((3 : Nat) = (3 : Nat) ∧ dn = dn) ∧ True) ∧ True ∧ f = f ∧ g = g ∧ hdE = hdE ∧ True) ∧ ∀ (x : Nat), x ≤ List.length kn ∧ True → (decide ((↑x : Int) < (↑((((kn).getD g.toNat [])).getD g.toNat []).length : Int)) = true → (g.toNat < ((tell1 kn f.toNat g.toNat x)).length ∧ (0 : Int) ≤ g ∧ g < (↑(((tell1 kn f.toNat g.toNat x)).getD g.toNat []).length : Int) ∧ g.toNat < ((tell1 kn f.toNat g.toNat x)).length ∧ g.toNat < (((tell1 kn f.toNat g.toNat x)).getD g.toNat []).length ∧ g.toNat < ((tell1 kn f.toNat g.toNat x)).length ∧ (0 : Int) ≤ g ∧ g < (↑(((tell1 kn f.toNat g.toNat x)).getD g.toNat []).length : Int) ∧ g.toNat < ((tell1 kn f.toNat g.toNat x)).length ∧ g.toNat < (((tell1 kn f.toNat g.toNat x)).getD g.toNat []).length ∧ g.toNat < ((tell1 kn f.toNat g.toNat x)).length ∧ g.toNat < ((((tell1 kn f.toNat g.toNat x)).getD g.toNat [])).length ∧ (0 : Int) ≤ (↑x : Int) ∧ (↑x : Int) < (↑(((((tell1 kn f.toNat g.toNat x)).getD g.toNat [])).getD g.toNat []).length : Int) ∧ g.toNat < ((tell1 kn f.toNat g.toNat x)).length ∧ g.toNat < ((((tell1 kn f.toNat g.toNat x)).getD g.toNat [])).length ∧ (↑x : Int).toNat < (((((tell1 kn f.toNat g.toNat x)).getD g.toNat [])).getD g.toNat []).length ∧ f.toNat < ((tell1 kn f.toNat g.toNat x)).length ∧ (0 : Int) ≤ f ∧ f < (↑(((tell1 kn f.toNat g.toNat x)).getD f.toNat []).length : Int) ∧ f.toNat < ((tell1 kn f.toNat g.toNat x)).length ∧ f.toNat < (((tell1 kn f.toNat g.toNat x)).getD f.toNat []).length ∧ f.toNat < ((tell1 kn f.toNat g.toNat x)).length ∧ f.toNat < ((((tell1 kn f.toNat g.toNat x)).getD f.toNat [])).length ∧ (0 : Int) ≤ (↑x : Int) ∧ (↑x : Int) < (↑(((((tell1 kn f.toNat g.toNat x)).getD f.toNat [])).getD f.toNat []).length : Int) ∧ f.toNat < ((tell1 kn f.toNat g.toNat x)).length ∧ f.toNat < ((((tell1 kn f.toNat g.toNat x)).getD f.toNat [])).length ∧ (↑x : Int).toNat < (((((tell1 kn f.toNat g.toNat x)).getD f.toNat [])).getD f.toNat []).length ∧ g.toNat < ((tell1 kn f.toNat g.toNat x)).length ∧ g.toNat < ((((tell1 kn f.toNat g.toNat x)).getD g.toNat [])).length ∧ (0 : Int) ≤ (↑x : Int) ∧ (↑x : Int) < (↑(((((tell1 kn f.toNat g.toNat x)).getD g.toNat [])).getD g.toNat []).length : Int) ∧ True) ∧ g.toNat < ((tell1 kn f.toNat g.toNat x)).length ∧ g.toNat < ((((tell1 kn f.toNat g.toNat x)).getD g.toNat [])).length ∧ inK IntKind.i64 ((↑x : Int) + (1 : Int)) ∧ ∃ (x_1 : Nat), (x_1 ≤ List.length kn ∧ True) ∧ List.length kn - x_1 < List.length kn - x ∧ (True ∧ f = f ∧ g = g ∧ [] ++ [g.toNat] = [] ++ [g.toNat] ∧ [] ++ [f.toNat] = [] ++ [f.toNat] ∧ (↑((((kn).getD g.toNat [])).getD g.toNat []).length : Int) = (↑((((kn).getD g.toNat [])).getD g.toNat []).length : Int) ∧ (↑x : Int) + (1 : Int) = (↑x_1 : Int) ∧ True) ∧ ((True ∧ True ∧ True) ∧ ((tell1 kn f.toNat g.toNat x)).set g.toNat (((((tell1 kn f.toNat g.toNat x)).getD g.toNat [])).set g.toNat (((((((tell1 kn f.toNat g.toNat x)).getD g.toNat [])).getD g.toNat [])).set (↑x : Int).toNat (max ((((((tell1 kn f.toNat g.toNat x)).getD g.toNat [])).getD g.toNat []).getD (↑x : Int).toNat (0 : Int)) ((((((tell1 kn f.toNat g.toNat x)).getD f.toNat [])).getD f.toNat []).getD (↑x : Int).toNat (0 : Int))))) = tell1 kn f.toNat g.toNat x_1 ∧ ((3 : Nat) = (3 : Nat) ∧ dn = dn) ∧ True) ∧ True ∧ f = f ∧ g = g ∧ hdE = hdE ∧ True) ∧ (decide ((↑x : Int) < (↑((((kn).getD g.toNat [])).getD g.toNat []).length : Int)) = false → g.toNat < ((tell1 kn f.toNat g.toNat x)).length ∧ (∃ (x_1 : Nat), (x_1 ≤ List.length kn ∧ True) ∧ (True ∧ f = f ∧ g = g ∧ [] ++ [g.toNat] = [] ++ [g.toNat] ∧ [] ++ [f.toNat] = [] ++ [f.toNat] ∧ (↑(((tell1 kn f.toNat g.toNat x)).getD g.toNat []).length : Int) = (↑(((tell1 kn f.toNat g.toNat x)).getD g.toNat []).length : Int) ∧ (0 : Int) = (↑x_1 : Int) ∧ True) ∧ ((True ∧ True ∧ True) ∧ tell1 kn f.toNat g.toNat x = tellA (tell1 kn f.toNat g.toNat (List.length kn)) f.toNat g.toNat (List.length kn) x_1 ∧ ((3 : Nat) = (3 : Nat) ∧ dn = dn) ∧ True) ∧ True ∧ f = f ∧ g = g ∧ hdE = hdE ∧ True) ∧ ∀ (x_1 : Nat), x_1 ≤ List.length kn ∧ True → (decide ((↑x_1 : Int) < (↑(((tell1 kn f.toNat g.toNat x)).getD g.toNat []).length : Int)) = true → g.toNat < ((tellA (tell1 kn f.toNat g.toNat (List.length kn)) f.toNat g.toNat (List.length kn) x_1)).length ∧ (0 : Int) ≤ (↑x_1 : Int) ∧ (↑x_1 : Int) < (↑(((tellA (tell1 kn f.toNat g.toNat (List.length kn)) f.toNat g.toNat (List.length kn) x_1)).getD g.toNat []).length : Int) ∧ g.toNat < ((tellA (tell1 kn f.toNat g.toNat (List.length kn)) f.toNat g.toNat (List.length kn) x_1)).length ∧ (↑x_1 : Int).toNat < (((tellA (tell1 kn f.toNat g.toNat (List.length kn)) f.toNat g.toNat (List.length kn) x_1)).getD g.toNat []).length ∧ g.toNat < ((tellA (tell1 kn f.toNat g.toNat (List.length kn)) f.toNat g.toNat (List.length kn) x_1)).length ∧ (↑x_1 : Int).toNat < ((((tellA (tell1 kn f.toNat g.toNat (List.length kn)) f.toNat g.toNat (List.length kn) x_1)).getD g.toNat [])).length ∧ (∃ (x_2 : Nat), (x_2 ≤ List.length kn ∧ True) ∧ (True ∧ f = f ∧ g = g ∧ [] ++ [g.toNat] = [] ++ [g.toNat] ∧ [] ++ [f.toNat] = [] ++ [f.toNat] ∧ (↑x_1 : Int) = (↑x_1 : Int) ∧ (↑(((tell1 kn f.toNat g.toNat x)).getD g.toNat []).length : Int) = (↑(((tell1 kn f.toNat g.toNat x)).getD g.toNat []).length : Int) ∧ (↑x_1 : Int) = (↑x_1 : Int) ∧ (↑(((((tellA (tell1 kn f.toNat g.toNat (List.length kn)) f.toNat g.toNat (List.length kn) x_1)).getD g.toNat [])).getD (↑x_1 : Int).toNat []).length : Int) = (↑(((((tellA (tell1 kn f.toNat g.toNat (List.length kn)) f.toNat g.toNat (List.length kn) x_1)).getD g.toNat [])).getD (↑x_1 : Int).toNat []).length : Int) ∧ (0 : Int) = (↑x_2 : Int) ∧ True) ∧ ((True ∧ True ∧ True) ∧ tellA (tell1 kn f.toNat g.toNat (List.length kn)) f.toNat g.toNat (List.length kn) x_1 = tellR (tellA (tell1 kn f.toNat g.toNat (List.length kn)) f.toNat g.toNat (List.length kn) (↑x_1 : Int).toNat) f.toNat g.toNat (↑x_1 : Int).toNat x_2 ∧ ((3 : Nat) = (3 : Nat) ∧ dn = dn) ∧ True) ∧ True ∧ f = f ∧ g = g ∧ hdE = hdE ∧ True) ∧ ∀ (x_2 : Nat), x_2 ≤ List.length kn ∧ True → (decide ((↑x_2 : Int) < (↑(((((tellA (tell1 kn f.toNat g.toNat (List.length kn)) f.toNat g.toNat (List.length kn) x_1)).getD g.toNat [])).getD (↑x_1 : Int).toNat []).length : Int)) = true → (g.toNat < ((tellR (tellA (tell1 kn f.toNat g.toNat (List.length kn)) f.toNat g.toNat (List.length kn) (↑x_1 : Int).toNat) f.toNat g.toNat (↑x_1 : Int).toNat x_2)).length ∧ (0 : Int) ≤ (↑x_1 : Int) ∧ (↑x_1 : Int) < (↑(((tellR (tellA (tell1 kn f.toNat g.toNat (List.length kn)) f.toNat g.toNat (List.length kn) (↑x_1 : Int).toNat) f.toNat g.toNat (↑x_1 : Int).toNat x_2)).getD g.toNat []).length : Int) ∧ g.toNat < ((tellR (tellA (tell1 kn f.toNat g.toNat (List.length kn)) f.toNat g.toNat (List.length kn) (↑x_1 : Int).toNat) f.toNat g.toNat (↑x_1 : Int).toNat x_2)).length ∧ (↑x_1 : Int).toNat < (((tellR (tellA (tell1 kn f.toNat g.toNat (List.length kn)) f.toNat g.toNat (List.length kn) (↑x_1 : Int).toNat) f.toNat g.toNat (↑x_1 : Int).toNat x_2)).getD g.toNat []).length ∧ g.toNat < ((tellR (tellA (tell1 kn f.toNat g.toNat (List.length kn)) f.toNat g.toNat (List.length kn) (↑x_1 : Int).toNat) f.toNat g.toNat (↑x_1 : Int).toNat x_2)).length ∧ (0 : Int) ≤ (↑x_1 : Int) ∧ (↑x_1 : Int) < (↑(((tellR (tellA (tell1 kn f.toNat g.toNat (List.length kn)) f.toNat g.toNat (List.length kn) (↑x_1 : Int).toNat) f.toNat g.toNat (↑x_1 : Int).toNat x_2)).getD g.toNat []).length : Int) ∧ g.toNat < ((tellR (tellA (tell1 kn f.toNat g.toNat (List.length kn)) f.toNat g.toNat (List.length kn) (↑x_1 : Int).toNat) f.toNat g.toNat (↑x_1 : Int).toNat x_2)).length ∧ (↑x_1 : Int).toNat < (((tellR (tellA (tell1 kn f.toNat g.toNat (List.length kn)) f.toNat g.toNat (List.length kn) (↑x_1 : Int).toNat) f.toNat g.toNat (↑x_1 : Int).toNat x_2)).getD g.toNat []).length ∧ g.toNat < ((tellR (tellA (tell1 kn f.toNat g.toNat (List.length kn)) f.toNat g.toNat (List.length kn) (↑x_1 : Int).toNat) f.toNat g.toNat (↑x_1 : Int).toNat x_2)).length ∧ (↑x_1 : Int).toNat < ((((tellR (tellA (tell1 kn f.toNat g.toNat (List.length kn)) f.toNat g.toNat (List.length kn) (↑x_1 : Int).toNat) f.toNat g.toNat (↑x_1 : Int).toNat x_2)).getD g.toNat [])).length ∧ (0 : Int) ≤ (↑x_2 : Int) ∧ (↑x_2 : Int) < (↑(((((tellR (tellA (tell1 kn f.toNat g.toNat (List.length kn)) f.toNat g.toNat (List.length kn) (↑x_1 : Int).toNat) f.toNat g.toNat (↑x_1 : Int).toNat x_2)).getD g.toNat [])).getD (↑x_1 : Int).toNat []).length : Int) ∧ g.toNat < ((tellR (tellA (tell1 kn f.toNat g.toNat (List.length kn)) f.toNat g.toNat (List.length kn) (↑x_1 : Int).toNat) f.toNat g.toNat (↑x_1 : Int).toNat x_2)).length ∧ (↑x_1 : Int).toNat < ((((tellR (tellA (tell1 kn f.toNat g.toNat (List.length kn)) f.toNat g.toNat (List.length kn) (↑x_1 : Int).toNat) f.toNat g.toNat (↑x_1 : Int).toNat x_2)).getD g.toNat [])).length ∧ (↑x_2 : Int).toNat < (((((tellR (tellA (tell1 kn f.toNat g.toNat (List.length kn)) f.toNat g.toNat (List.length kn) (↑x_1 : Int).toNat) f.toNat g.toNat (↑x_1 : Int).toNat x_2)).getD g.toNat [])).getD (↑x_1 : Int).toNat []).length ∧ f.toNat < ((tellR (tellA (tell1 kn f.toNat g.toNat (List.length kn)) f.toNat g.toNat (List.length kn) (↑x_1 : Int).toNat) f.toNat g.toNat (↑x_1 : Int).toNat x_2)).length ∧ (0 : Int) ≤ (↑x_1 : Int) ∧ (↑x_1 : Int) < (↑(((tellR (tellA (tell1 kn f.toNat g.toNat (List.length kn)) f.toNat g.toNat (List.length kn) (↑x_1 : Int).toNat) f.toNat g.toNat (↑x_1 : Int).toNat x_2)).getD f.toNat []).length : Int) ∧ f.toNat < ((tellR (tellA (tell1 kn f.toNat g.toNat (List.length kn)) f.toNat g.toNat (List.length kn) (↑x_1 : Int).toNat) f.toNat g.toNat (↑x_1 : Int).toNat x_2)).length ∧ (↑x_1 : Int).toNat < (((tellR (tellA (tell1 kn f.toNat g.toNat (List.length kn)) f.toNat g.toNat (List.length kn) (↑x_1 : Int).toNat) f.toNat g.toNat (↑x_1 : Int).toNat x_2)).getD f.toNat []).length ∧ f.toNat < ((tellR (tellA (tell1 kn f.toNat g.toNat (List.length kn)) f.toNat g.toNat (List.length kn) (↑x_1 : Int).toNat) f.toNat g.toNat (↑x_1 : Int).toNat x_2)).length ∧ (↑x_1 : Int).toNat < ((((tellR (tellA (tell1 kn f.toNat g.toNat (List.length kn)) f.toNat g.toNat (List.length kn) (↑x_1 : Int).toNat) f.toNat g.toNat (↑x_1 : Int).toNat x_2)).getD f.toNat [])).length ∧ (0 : Int) ≤ (↑x_2 : Int) ∧ (↑x_2 : Int) < (↑(((((tellR (tellA (tell1 kn f.toNat g.toNat (List.length kn)) f.toNat g.toNat (List.length kn) (↑x_1 : Int).toNat) f.toNat g.toNat (↑x_1 : Int).toNat x_2)).getD f.toNat [])).getD (↑x_1 : Int).toNat []).length : Int) ∧ f.toNat < ((tellR (tellA (tell1 kn f.toNat g.toNat (List.length kn)) f.toNat g.toNat (List.length kn) (↑x_1 : Int).toNat) f.toNat g.toNat (↑x_1 : Int).toNat x_2)).length ∧ (↑x_1 : Int).toNat < ((((tellR (tellA (tell1 kn f.toNat g.toNat (List.length kn)) f.toNat g.toNat (List.length kn) (↑x_1 : Int).toNat) f.toNat g.toNat (↑x_1 : Int).toNat x_2)).getD f.toNat [])).length ∧ (↑x_2 : Int).toNat < (((((tellR (tellA (tell1 kn f.toNat g.toNat (List.length kn)) f.toNat g.toNat (List.length kn) (↑x_1 : Int).toNat) f.toNat g.toNat (↑x_1 : Int).toNat x_2)).getD f.toNat [])).getD (↑x_1 : Int).toNat []).length ∧ g.toNat < ((tellR (tellA (tell1 kn f.toNat g.toNat (List.length kn)) f.toNat g.toNat (List.length kn) (↑x_1 : Int).toNat) f.toNat g.toNat (↑x_1 : Int).toNat x_2)).length ∧ (↑x_1 : Int).toNat < ((((tellR (tellA (tell1 kn f.toNat g.toNat (List.length kn)) f.toNat g.toNat (List.length kn) (↑x_1 : Int).toNat) f.toNat g.toNat (↑x_1 : Int).toNat x_2)).getD g.toNat [])).length ∧ (0 : Int) ≤ (↑x_2 : Int) ∧ (↑x_2 : Int) < (↑(((((tellR (tellA (tell1 kn f.toNat g.toNat (List.length kn)) f.toNat g.toNat (List.length kn) (↑x_1 : Int).toNat) f.toNat g.toNat (↑x_1 : Int).toNat x_2)).getD g.toNat [])).getD (↑x_1 : Int).toNat []).length : Int) ∧ True) ∧ g.toNat < ((tellR (tellA (tell1 kn f.toNat g.toNat (List.length kn)) f.toNat g.toNat (List.length kn) (↑x_1 : Int).toNat) f.toNat g.toNat (↑x_1 : Int).toNat x_2)).length ∧ (↑x_1 : Int).toNat < ((((tellR (tellA (tell1 kn f.toNat g.toNat (List.length kn)) f.toNat g.toNat (List.length kn) (↑x_1 : Int).toNat) f.toNat g.toNat (↑x_1 : Int).toNat x_2)).getD g.toNat [])).length ∧ inK IntKind.i64 ((↑x_2 : Int) + (1 : Int)) ∧ ∃ (x_3 : Nat), (x_3 ≤ List.length kn ∧ True) ∧ List.length kn - x_3 < List.length kn - x_2 ∧ (True ∧ f = f ∧ g = g ∧ [] ++ [g.toNat] = [] ++ [g.toNat] ∧ [] ++ [f.toNat] = [] ++ [f.toNat] ∧ (↑x_1 : Int) = (↑x_1 : Int) ∧ (↑(((tell1 kn f.toNat g.toNat x)).getD g.toNat []).length : Int) = (↑(((tell1 kn f.toNat g.toNat x)).getD g.toNat []).length : Int) ∧ (↑x_1 : Int) = (↑x_1 : Int) ∧ (↑(((((tellA (tell1 kn f.toNat g.toNat (List.length kn)) f.toNat g.toNat (List.length kn) x_1)).getD g.toNat [])).getD (↑x_1 : Int).toNat []).length : Int) = (↑(((((tellA (tell1 kn f.toNat g.toNat (List.length kn)) f.toNat g.toNat (List.length kn) x_1)).getD g.toNat [])).getD (↑x_1 : Int).toNat []).length : Int) ∧ (↑x_2 : Int) + (1 : Int) = (↑x_3 : Int) ∧ True) ∧ ((True ∧ True ∧ True) ∧ ((tellR (tellA (tell1 kn f.toNat g.toNat (List.length kn)) f.toNat g.toNat (List.length kn) (↑x_1 : Int).toNat) f.toNat g.toNat (↑x_1 : Int).toNat x_2)).set g.toNat (((((tellR (tellA (tell1 kn f.toNat g.toNat (List.length kn)) f.toNat g.toNat (List.length kn) (↑x_1 : Int).toNat) f.toNat g.toNat (↑x_1 : Int).toNat x_2)).getD g.toNat [])).set (↑x_1 : Int).toNat (((((((tellR (tellA (tell1 kn f.toNat g.toNat (List.length kn)) f.toNat g.toNat (List.length kn) (↑x_1 : Int).toNat) f.toNat g.toNat (↑x_1 : Int).toNat x_2)).getD g.toNat [])).getD (↑x_1 : Int).toNat [])).set (↑x_2 : Int).toNat (max ((((((tellR (tellA (tell1 kn f.toNat g.toNat (List.length kn)) f.toNat g.toNat (List.length kn) (↑x_1 : Int).toNat) f.toNat g.toNat (↑x_1 : Int).toNat x_2)).getD g.toNat [])).getD (↑x_1 : Int).toNat []).getD (↑x_2 : Int).toNat (0 : Int)) ((((((tellR (tellA (tell1 kn f.toNat g.toNat (List.length kn)) f.toNat g.toNat (List.length kn) (↑x_1 : Int).toNat) f.toNat g.toNat (↑x_1 : Int).toNat x_2)).getD f.toNat [])).getD (↑x_1 : Int).toNat []).getD (↑x_2 : Int).toNat (0 : Int))))) = tellR (tellA (tell1 kn f.toNat g.toNat (List.length kn)) f.toNat g.toNat (List.length kn) (↑x_1 : Int).toNat) f.toNat g.toNat (↑x_1 : Int).toNat x_3 ∧ ((3 : Nat) = (3 : Nat) ∧ dn = dn) ∧ True) ∧ True ∧ f = f ∧ g = g ∧ hdE = hdE ∧ True) ∧ (decide ((↑x_2 : Int) < (↑(((((tellA (tell1 kn f.toNat g.toNat (List.length kn)) f.toNat g.toNat (List.length kn) x_1)).getD g.toNat [])).getD (↑x_1 : Int).toNat []).length : Int)) = false → inK IntKind.i64 ((↑x_1 : Int) + (1 : Int)) ∧ ∃ (x_3 : Nat), (x_3 ≤ List.length kn ∧ True) ∧ List.length kn - x_3 < List.length kn - x_1 ∧ (True ∧ f = f ∧ g = g ∧ [] ++ [g.toNat] = [] ++ [g.toNat] ∧ [] ++ [f.toNat] = [] ++ [f.toNat] ∧ (↑(((tell1 kn f.toNat g.toNat x)).getD g.toNat []).length : Int) = (↑(((tell1 kn f.toNat g.toNat x)).getD g.toNat []).length : Int) ∧ (↑x_1 : Int) + (1 : Int) = (↑x_3 : Int) ∧ True) ∧ ((True ∧ True ∧ True) ∧ tellR (tellA (tell1 kn f.toNat g.toNat (List.length kn)) f.toNat g.toNat (List.length kn) (↑x_1 : Int).toNat) f.toNat g.toNat (↑x_1 : Int).toNat x_2 = tellA (tell1 kn f.toNat g.toNat (List.length kn)) f.toNat g.toNat (List.length kn) x_3 ∧ ((3 : Nat) = (3 : Nat) ∧ dn = dn) ∧ True) ∧ True ∧ f = f ∧ g = g ∧ hdE = hdE ∧ True)) ∧ (decide ((↑x_1 : Int) < (↑(((tell1 kn f.toNat g.toNat x)).getD g.toNat []).length : Int)) = false → k (SV.d (Ty.err (76 : Nat)) (0 : Int)) [Ob.st (82 : Nat) [SV.os (1 : Nat), SV.os (2 : Nat)], Ob.trow (41 : Nat) (Ot.sl (29 : Nat) (Ot.sl (3 : Nat) (Ot.d (I)))) (tellA (tell1 kn f.toNat g.toNat (List.length kn)) f.toNat g.toNat (List.length kn) x_1), Ob.row (3 : Nat) (I) dn])))))) := by kernel_rfl
theorem vcKnows (kn : L3) (dn : List Int) (a b c : Int) (k : List Dat → Prop) : vcF ⟨Et, [(36, cIs)], glK, [], []⟩ [joinAll] (Tryd.f19.body.getD .skip) Tryd.f19.ntmps [(.tmp 8, I)] [⟨.ptr tTab, some (kn, dn, ())⟩, ⟨I, a⟩, ⟨I, b⟩, ⟨I, c⟩] k = (
  (∃ (s : L3 × List Int × Unit), some (kn, dn, ()) = some s ∧ List.length s.fst ≤ (5 : Nat)) ∧ ((!inB a (0 : Int) ((↑(List.length kn) : Int) - (1 : Int))) = true → k [Dat.mk (I) (-1 : Int)]) ∧ ((!inB a (0 : Int) ((↑(List.length kn) : Int) - (1 : Int))) = false → (∃ (s : L3 × List Int × Unit), some (kn, dn, ()) = some s ∧ List.length s.fst ≤ (5 : Nat)) ∧ ((!inB b (0 : Int) ((↑(List.length kn) : Int) - (1 : Int))) = true → k [Dat.mk (I) (-1 : Int)]) ∧ ((!inB b (0 : Int) ((↑(List.length kn) : Int) - (1 : Int))) = false → (∃ (s : L3 × List Int × Unit), some (kn, dn, ()) = some s ∧ List.length s.fst ≤ (5 : Nat)) ∧ ((!inB c (0 : Int) ((↑(List.length kn) : Int) - (1 : Int))) = true → k [Dat.mk (I) (-1 : Int)]) ∧ ((!inB c (0 : Int) ((↑(List.length kn) : Int) - (1 : Int))) = false → (0 : Int) ≤ a ∧ a < (↑(List.length kn) : Int) ∧ (0 : Int) ≤ b ∧ b < (↑(List.getD kn a.toNat []).length : Int) ∧ (0 : Int) ≤ c ∧ c < (↑((List.getD kn a.toNat []).getD b.toNat []).length : Int) ∧ k [Dat.mk (I) (((List.getD kn a.toNat []).getD b.toNat []).getD c.toNat (0 : Int))])))) := by kernel_rfl
theorem vcMin (l : List Int) (k : List Dat → Prop) : vcF ⟨Et, [], glK, [], []⟩ (anMin l) (Tryd.f37.body.getD .skip) Tryd.f37.ntmps [(.tmp 2, I)] [⟨.sl I, l⟩] k = (
  (decide ((↑l.length : Int) < (1 : Int)) = true → False) ∧ (decide ((↑l.length : Int) < (1 : Int)) = false → (0 : Int) ≤ (0 : Int) ∧ (0 : Int) < (↑l.length : Int) ∧ (∃ (x : Nat), ((1 : Nat) ≤ x ∧ x ≤ l.length) ∧ (l = l ∧ l.getD (Int.toNat (0 : Int)) (0 : Int) = minL (List.take x l) ∧ (1 : Int) = (↑x : Int) ∧ True) ∧ True ∧ hdE = hdE ∧ True) ∧ ∀ (x : Nat), (1 : Nat) ≤ x ∧ x ≤ l.length → (decide ((↑x : Int) < (↑l.length : Int)) = true → (0 : Int) ≤ (↑x : Int) ∧ (↑x : Int) < (↑l.length : Int) ∧ inK IntKind.i64 ((↑x : Int) + (1 : Int)) ∧ ∃ (x_1 : Nat), ((1 : Nat) ≤ x_1 ∧ x_1 ≤ l.length) ∧ l.length - x_1 < l.length - x ∧ (l = l ∧ min (minL (List.take x l)) (l.getD (↑x : Int).toNat (0 : Int)) = minL (List.take x_1 l) ∧ (↑x : Int) + (1 : Int) = (↑x_1 : Int) ∧ True) ∧ True ∧ hdE = hdE ∧ True) ∧ (decide ((↑x : Int) < (↑l.length : Int)) = false → k [Dat.mk (I) (minL (List.take x l))]))) := by kernel_rfl
theorem vcStable (kn : L3) (dn : List Int) (a c : Int) (k : List Dat → Prop) : vcF ⟨Et, [(36, cIs), (37, cMin)], glK, [], []⟩ (anStable kn a c) (Tryd.f20.body.getD .skip) Tryd.f20.ntmps [(.tmp 6, I)] [⟨.ptr tTab, some (kn, dn, ())⟩, ⟨I, a⟩, ⟨I, c⟩] k = (
  (∃ (s : L3 × List Int × Unit), some (kn, dn, ()) = some s ∧ List.length s.fst ≤ (5 : Nat)) ∧ ((!inB a (0 : Int) ((↑(List.length kn) : Int) - (1 : Int))) = true → k [Dat.mk (I) (-1 : Int)]) ∧ ((!inB a (0 : Int) ((↑(List.length kn) : Int) - (1 : Int))) = false → (∃ (s : L3 × List Int × Unit), some (kn, dn, ()) = some s ∧ List.length s.fst ≤ (5 : Nat)) ∧ ((!inB c (0 : Int) ((↑(List.length kn) : Int) - (1 : Int))) = true → k [Dat.mk (I) (-1 : Int)]) ∧ ((!inB c (0 : Int) ((↑(List.length kn) : Int) - (1 : Int))) = false → (∃ (x : Nat), (x ≤ List.length kn ∧ True) ∧ (some (kn, dn, ()) = some (kn, dn, ()) ∧ a = a ∧ c = c ∧ True ∧ (↑(List.length kn) : Int) = (↑(List.length kn) : Int) ∧ (0 : Int) = (↑x : Int) ∧ True) ∧ (((3 : Nat) = (3 : Nat) ∧ [] = colF kn a.toNat c.toNat x) ∧ True) ∧ hdE = hdE ∧ True) ∧ ∀ (x : Nat), x ≤ List.length kn ∧ True → (decide ((↑x : Int) < (↑(List.length kn) : Int)) = true → (0 : Int) ≤ a ∧ a < (↑(List.length kn) : Int) ∧ (0 : Int) ≤ (↑x : Int) ∧ (↑x : Int) < (↑(List.getD kn a.toNat []).length : Int) ∧ (0 : Int) ≤ c ∧ c < (↑((List.getD kn a.toNat []).getD (↑x : Int).toNat []).length : Int) ∧ (colF kn a.toNat c.toNat x).length + ((List.replicate (1 : Nat) (0 : Int)).set (0 : Nat) (((List.getD kn a.toNat []).getD (↑x : Int).toNat []).getD c.toNat (0 : Int))).length ≤ (1000000000 : Nat) ∧ inK IntKind.i64 ((↑x : Int) + (1 : Int)) ∧ ∃ (x_1 : Nat), (x_1 ≤ List.length kn ∧ True) ∧ List.length kn - x_1 < List.length kn - x ∧ (some (kn, dn, ()) = some (kn, dn, ()) ∧ a = a ∧ c = c ∧ True ∧ (↑(List.length kn) : Int) = (↑(List.length kn) : Int) ∧ (↑x : Int) + (1 : Int) = (↑x_1 : Int) ∧ True) ∧ (((3 : Nat) = (3 : Nat) ∧ (colF kn a.toNat c.toNat x).append ((List.replicate (1 : Nat) (0 : Int)).set (0 : Nat) (((List.getD kn a.toNat []).getD (↑x : Int).toNat []).getD c.toNat (0 : Int))) = colF kn a.toNat c.toNat x_1) ∧ True) ∧ hdE = hdE ∧ True) ∧ (decide ((↑x : Int) < (↑(List.length kn) : Int)) = false → ((1 : Nat) ≤ (colF kn a.toNat c.toNat x).length ∧ (colF kn a.toNat c.toNat x).length ≤ (1000 : Nat)) ∧ k [Dat.mk (I) (minL (colF kn a.toNat c.toNat x))])))) := by kernel_rfl
end Go.Proofs.YtjgdpblaghhfhaaDoor

/- Tables of who knows what who knows: the program's functions keep their contracts. -/
namespace Go.Proofs.YtjgdpblaghhfhaaDoor.T
open Go.Vc
theorem getD_set {α : Type} (l : List α) (i j : Nat) (v d : α) (hi : i < l.length) : (l.set i v).getD j d = if i = j then v else l.getD j d := by
  rw [List.getD_eq_getElem?_getD, List.getElem?_set]
  split
  · rename_i h; subst h; simp [hi]
  · rw [List.getD_eq_getElem?_getD]
theorem wr_shp {k : L3} {n : Nat} (h : Shp k n) (a b c : Nat) (v : Int) (ha : a < n) (hb : b < n) : Shp (wr3 k a b c v) n := by
  unfold wr3
  refine ⟨by rw [List.length_set]; exact h.a, fun i hi => ?_, fun i j hi hj => ?_⟩
  · rw [getD_set _ _ _ _ _ (by rw [h.a]; exact ha)]
    split
    · rw [List.length_set]; exact h.b a ha
    · exact h.b i hi
  · rw [getD_set _ _ _ _ _ (by rw [h.a]; exact ha)]
    split
    · rw [getD_set _ _ _ _ _ (by rw [h.b a ha]; exact hb)]
      split
      · rw [List.length_set]; exact h.c a b ha hb
      · exact h.c a j ha hj
    · exact h.c i j hi hj
theorem at_wr {k : L3} {n : Nat} (h : Shp k n) {a b c : Nat} (v : Int) (ha : a < n) (hb : b < n) (hc : c < n) (i j m : Nat) : at3 (wr3 k a b c v) i j m = if a = i ∧ b = j ∧ c = m then v else at3 k i j m := by
  unfold wr3 at3
  rw [getD_set _ _ _ _ _ (by rw [h.a]; exact ha)]
  by_cases h1 : a = i
  · rw [if_pos h1, getD_set _ _ _ _ _ (by rw [h.b a ha]; exact hb)]
    by_cases h2 : b = j
    · rw [if_pos h2, getD_set _ _ _ _ _ (by rw [h.c a b ha hb]; exact hc)]
      by_cases h3 : c = m
      · rw [if_pos h3, if_pos ⟨h1, h2, h3⟩]
      · rw [if_neg h3, if_neg (fun h => h3 h.2.2), h1, h2]
    · rw [if_neg h2, if_neg (fun h => h2 h.2.1), h1]
  · rw [if_neg h1, if_neg (fun h => h1 h.1)]
theorem tell1_shp {k : L3} {n : Nat} (h : Shp k n) {f t : Nat} (ht : t < n) : ∀ m, Shp (tell1 k f t m) n
  | 0 => h
  | m + 1 => wr_shp (tell1_shp h ht m) _ _ _ _ ht ht
theorem tellR_shp {k : L3} {n : Nat} (h : Shp k n) {f t j : Nat} (ht : t < n) (hj : j < n) : ∀ m, Shp (tellR k f t j m) n
  | 0 => h
  | m + 1 => wr_shp (tellR_shp h ht hj m) _ _ _ _ ht hj
theorem tellA_shp {k : L3} {n : Nat} (h : Shp k n) {f t : Nat} (ht : t < n) : ∀ j, j ≤ n → Shp (tellA k f t n j) n
  | 0, _ => h
  | j + 1, hj => tellR_shp (tellA_shp h ht j (by omega)) ht hj n
theorem okWithin : PlainOk Tryd.prog glK 30 cWithin := by
  refine plain_of (CxOk.mk' Et_ok rfl mixed (gl := glK) GOk.nil GoOk.nil noIt) Tryd.func30 (c := Tryd.f30.body.getD .skip) (rvs := [(.tmp 6, .bool)]) (by kernel_rfl) (by kernel_rfl) (by kernel_rfl) ?_
  intro ds k ⟨hp, hk⟩ hwf
  obtain ⟨a, b, c, rfl, -⟩ := dest3 hp
  have hk : k [⟨.bool, inB a b c⟩] := hk
  refine ⟨[], ?_⟩
  rw [vcWithin]
  unfold inB at hk
  refine ⟨fun h => ?_, fun h => ?_⟩ <;> simpa [h] using hk
theorem okIs : PlainOk Tryd.prog glK 36 cIs := by
  refine plain_of (CxOk.mk' Et_ok rfl mixed (gl := glK) (GOk.cons okWithin Tryd.func30 rfl rfl GOk.nil) GoOk.nil noIt) Tryd.func36 (c := Tryd.f36.body.getD .skip) (rvs := [(.tmp 4, .bool)]) (by kernel_rfl) (by kernel_rfl) (by kernel_rfl) ?_
  intro ds k ⟨hp, hk⟩ hwf
  obtain ⟨p, i, rfl, ⟨⟨kn, dn, ⟨⟩⟩, rfl, h5⟩⟩ := dest2 hp
  have hk : k [⟨.bool, inB i 0 ((kn.length : Int) - 1)⟩] := hk
  have h5 : kn.length ≤ 5 := h5
  refine ⟨[], ?_⟩
  rw [vcIs]
  exact ⟨inK_i64.2 (by omega), trivial, hk⟩
theorem okNew : OwnOk Tryd.prog glK 13 oNew := by
  refine own_of (CxOk.mk' Et_ok rfl mixed (gl := glK) (GOk.cons okWithin Tryd.func30 rfl rfl GOk.nil) GoOk.nil noIt) Tryd.func13 (c := Tryd.f13.body.getD .skip) (rvs := [(.tmp 2, .un), (.tmp 3, tErr)]) (by kernel_rfl) (by kernel_rfl) (by kernel_rfl) ?_
  intro args ob k h hw1 hw2
  clear hw1 hw2
  unfold oNew at h
  split at h
  · rename_i n
    obtain ⟨h1, h2⟩ := h
    refine ⟨anNew n, ?_⟩
    rw [vcNew]
    simp only [and_true, true_and, Bool.not_eq_true', Bool.not_eq_false']
    refine ⟨fun h => ⟨by decide, h2 h⟩, fun h => ?_⟩
    have hh := inB_iff.1 h
    have r1 : ∀ j, List.append (rows0 n.toNat j) [List.replicate n.toNat (0 : Int)] = rows0 n.toNat (j + 1) := fun j => List.replicate_succ'.symm
    have r2 : ∀ j, List.append (know0 n.toNat j) [List.replicate n.toNat (List.replicate n.toNat (0 : Int))] = know0 n.toNat (j + 1) := fun j => List.replicate_succ'.symm
    refine ⟨by omega, by omega, by omega, ⟨0, by omega, rfl, rfl⟩, fun x hx => ⟨fun h3 => ⟨⟨0, by omega, rfl, rfl⟩, fun y hy => ⟨fun h4 => ?_, fun h4 => ?_⟩⟩, fun h3 => ?_⟩⟩
    · have h4 := of_decide_eq_true h4
      exact ⟨by omega, by omega, by omega, by simp only [rows0, List.length_replicate, List.length_singleton]; omega, inK_i64.2 (by omega), y + 1, by omega, by omega, by omega, r1 y⟩
    · have h3 := of_decide_eq_true h3
      have h4 := of_decide_eq_false h4
      have hyn : y = n.toNat := by omega
      subst hyn
      exact ⟨by simp only [know0, List.length_replicate, List.length_singleton]; omega, inK_i64.2 (by omega), x + 1, by omega, by omega, by omega, r2 x⟩
    · have h3 := of_decide_eq_false h3
      have hxn : x = n.toNat := by omega
      subst hxn
      exact h1 h
  · exact h.elim
theorem write_vc (kn : L3) (dn : List Int) (p : Int) (k : SV → List Ob → Prop) (t : TbOk kn dn) (hk : k (.d tErr (writeF ⟨kn, dn⟩ p).1) (writeF ⟨kn, dn⟩ p).2.ob) :
    vcO ⟨Et, [(36, cIs)], glK, [], []⟩ [joinAll] (Tryd.f16.body.getD .skip) Tryd.f16.ntmps [(.tmp 4, tErr)] [.ps 0, .d I p] (tob kn dn) k := by
  rw [vcWrite]
  unfold writeF Tb.ob at hk
  simp only at hk
  have hl := t.n5
  have hl1 := t.n1
  simp only [and_true, true_and, Bool.not_eq_true', Bool.not_eq_false']
  refine ⟨⟨_, rfl, hl⟩, fun h => ⟨by decide, ?_⟩, fun h => ?_⟩
  · rw [if_pos h] at hk; exact hk
  rw [if_neg (by rw [h]; decide)] at hk
  have hp := inB_iff.1 h
  have hP : p.toNat < kn.length := by omega
  have hdl := t.dl
  have e1 := t.sh.b p.toNat hP
  have e2 := t.sh.c p.toNat p.toNat hP hP
  have hd := t.d p.toNat hP
  have hv : 0 ≤ ((kn.getD p.toNat []).getD p.toNat []).getD p.toNat 0 ∧ ((kn.getD p.toNat []).getD p.toNat []).getD p.toNat 0 ≤ dn.getD p.toNat 0 := t.v p.toNat p.toNat p.toNat hP hP hP
  refine ⟨by omega, by omega, fun h2 => ⟨by decide, ?_⟩, fun h2 => ?_⟩
  · rw [if_pos (of_decide_eq_true h2)] at hk; exact hk
  have h2 := of_decide_eq_false h2
  rw [if_neg h2] at hk
  exact ⟨by omega, by omega, inK_i64.2 (by omega), by omega, by omega, by omega, by omega, hP, hP, by omega, by omega, hP, by omega, hP, by omega, by omega, by omega, hP, by omega, by omega, inK_i64.2 (by omega), hP, by omega, by omega, by omega, hP, by omega, hk⟩
theorem okWrite : OwnOk Tryd.prog glK 16 oWrite := by
  refine own_of (CxOk.mk' Et_ok rfl mixed (gl := glK) (GOk.cons okIs Tryd.func36 rfl rfl GOk.nil) GoOk.nil noIt) Tryd.func16 (c := Tryd.f16.body.getD .skip) (rvs := [(.tmp 4, tErr)]) (by kernel_rfl) (by kernel_rfl) (by kernel_rfl) ?_
  intro args ob k h hw1 hw2
  clear hw1 hw2
  unfold oWrite at h
  split at h
  · obtain ⟨t, hk⟩ := h
    exact ⟨_, write_vc _ _ _ k t hk⟩
  · exact h.elim
theorem tell_vc (kn : L3) (dn : List Int) (f g : Int) (k : SV → List Ob → Prop) (t : TbOk kn dn) (hk : k (.d tErr (tellF ⟨kn, dn⟩ f g).1) (tellF ⟨kn, dn⟩ f g).2.ob) :
    vcO ⟨Et, [(36, cIs)], glK, [], []⟩ (anTell kn f g) (Tryd.f18.body.getD .skip) Tryd.f18.ntmps [(.tmp 6, tErr)] [.ps 0, .d I f, .d I g] (tob kn dn) k := by
  rw [vcTell]
  unfold tellF Tb.ob at hk
  simp only at hk
  have hl := t.n5
  have hl1 := t.n1
  have n0 : ∀ {x y : Bool}, x = false ∨ y = false → (x && y) = false := by intro x y h; rcases h with rfl | rfl <;> simp
  simp only [and_true, true_and, Bool.not_eq_true', Bool.not_eq_false']
  refine ⟨⟨_, rfl, hl⟩, fun h => ⟨by decide, ?_⟩, fun hf => ⟨⟨_, rfl, hl⟩, fun h => ⟨by decide, ?_⟩, fun hg => ⟨fun h => ⟨by decide, ?_⟩, fun hne => ?_⟩⟩⟩
  · rw [if_pos (n0 (.inl h))] at hk; exact hk
  · rw [if_pos (n0 (.inr h))] at hk; exact hk
  · rw [if_neg (by rw [hf, hg]; decide), if_pos (of_decide_eq_true h)] at hk; exact hk
  have hne := of_decide_eq_false hne
  rw [if_neg (by rw [hf, hg]; decide), if_neg hne] at hk
  have hf := inB_iff.1 hf
  have hg := inB_iff.1 hg
  obtain ⟨F, rfl⟩ := Int.eq_ofNat_of_zero_le hf.1
  obtain ⟨G, rfl⟩ := Int.eq_ofNat_of_zero_le hg.1
  have hF : F < kn.length := by omega
  have hG : G < kn.length := by omega
  have hFi : (F : Int) < (kn.length : Int) := by omega
  have hGi : (G : Int) < (kn.length : Int) := by omega
  have hF0 : (0 : Int) ≤ (F : Int) := by omega
  have hG0 : (0 : Int) ≤ (G : Int) := by omega
  simp only [Int.toNat_natCast] at hk
  have sh := t.sh
  have s1 : ∀ m, Shp (tell1 kn F G m) kn.length := tell1_shp sh hG
  have s2 : ∀ j, j ≤ kn.length → Shp (tellA (tell1 kn F G kn.length) F G kn.length j) kn.length := tellA_shp (s1 _) hG
  have s3 : ∀ j m, j < kn.length → Shp (tellR (tellA (tell1 kn F G kn.length) F G kn.length j) F G j m) kn.length := fun j m hj => tellR_shp (s2 j (by omega)) hG hj m
  simp only [Int.toNat_natCast, sh.b G hG, sh.c G G hG hG, hFi, hGi, hF0, hG0, hF, hG, true_and, (s1 _).a, (s1 _).b G hG, (s1 _).b F hF, (s1 _).c G G hG hG, (s1 _).c F F hF hF]
  refine ⟨⟨0, by omega, rfl, rfl⟩, fun x hx => ⟨fun h => ?_, fun h => ?_⟩⟩
  · have h : x < kn.length := by have := of_decide_eq_true h; omega
    have hi : (x : Int) < (kn.length : Int) := by omega
    have h0 : (0 : Int) ≤ (x : Int) := by omega
    refine ⟨⟨h0, hi, h, h0, hi, h, h0, hi⟩, inK_i64.2 (by omega), x + 1, by omega, by omega, by omega, rfl⟩
  · have h := of_decide_eq_false h
    have hxn : x = kn.length := by omega
    subst hxn
    refine ⟨⟨0, by omega, rfl, rfl⟩, fun y hy => ⟨fun h => ?_, fun h => ?_⟩⟩
    · have hy1 : y < kn.length := by have := of_decide_eq_true h; omega
      have hyi : (y : Int) < (kn.length : Int) := by omega
      have hy0 : (0 : Int) ≤ (y : Int) := by omega
      simp only [(s2 y hy).a, (s2 y hy).b G hG, (s2 y hy).c G y hG hy1, (s3 y _ hy1).a, (s3 y _ hy1).b G hG, (s3 y _ hy1).b F hF, (s3 y _ hy1).c G y hG hy1, (s3 y _ hy1).c F y hF hy1, hG, hF, hy1, hyi, hy0, hGi, hFi, hG0, hF0, true_and]
      refine ⟨⟨0, by omega, rfl, rfl⟩, fun z hz => ⟨fun h => ?_, fun h => ?_⟩⟩
      · have h : z < kn.length := by have := of_decide_eq_true h; omega
        have hi : (z : Int) < (kn.length : Int) := by omega
        have h0 : (0 : Int) ≤ (z : Int) := by omega
        refine ⟨⟨h0, hi, h, h0, hi, h, h0, hi⟩, inK_i64.2 (by omega), z + 1, by omega, by omega, by omega, rfl⟩
      · have h := of_decide_eq_false h
        have hzn : z = kn.length := by omega
        subst hzn
        exact ⟨inK_i64.2 (by omega), y + 1, by omega, by omega, by omega, rfl⟩
    · have h := of_decide_eq_false h
      have hyn : y = kn.length := by omega
      subst hyn
      exact hk
theorem okTell : OwnOk Tryd.prog glK 18 oTell := by
  refine own_of (CxOk.mk' Et_ok rfl mixed (gl := glK) (GOk.cons okIs Tryd.func36 rfl rfl GOk.nil) GoOk.nil noIt) Tryd.func18 (c := Tryd.f18.body.getD .skip) (rvs := [(.tmp 6, tErr)]) (by kernel_rfl) (by kernel_rfl) (by kernel_rfl) ?_
  intro args ob k h hw1 hw2
  clear hw1 hw2
  unfold oTell at h
  split at h
  · obtain ⟨t, hk⟩ := h
    exact ⟨_, tell_vc _ _ _ _ k t hk⟩
  · exact h.elim
theorem okKnows : PlainOk Tryd.prog glK 19 cKnows := by
  refine plain_of (CxOk.mk' Et_ok rfl mixed (gl := glK) (GOk.cons okIs Tryd.func36 rfl rfl GOk.nil) GoOk.nil noIt) Tryd.func19 (c := Tryd.f19.body.getD .skip) (rvs := [(.tmp 8, I)]) (by kernel_rfl) (by kernel_rfl) (by kernel_rfl) ?_
  intro ds k ⟨hp, hk⟩ hwf
  obtain ⟨p, a, b, c, rfl, ⟨⟨kn, dn, ⟨⟩⟩, rfl, ht⟩⟩ := dest4 hp
  have hk : k [⟨I, knowF kn a b c⟩] := hk
  refine ⟨[joinAll], ?_⟩
  rw [vcKnows]
  have hl : (List.length kn) ≤ 5 := ht.n5
  unfold knowF at hk
  simp only [Bool.not_eq_true', Bool.not_eq_false']
  have n0 : ∀ {x y z : Bool}, x = false ∨ y = false ∨ z = false → ¬ (x && y && z) = true := by intro x y z h; rcases h with rfl | rfl | rfl <;> simp
  refine ⟨⟨_, rfl, hl⟩, fun h => ?_, fun ha => ⟨⟨_, rfl, hl⟩, fun h => ?_, fun hb => ⟨⟨_, rfl, hl⟩, fun h => ?_, fun hc => ?_⟩⟩⟩
  · rw [if_neg (n0 (.inl h))] at hk; exact hk
  · rw [if_neg (n0 (.inr (.inl h)))] at hk; exact hk
  · rw [if_neg (n0 (.inr (.inr h)))] at hk; exact hk
  · rw [if_pos (by rw [ha, hb, hc]; rfl)] at hk
    have ha := inB_iff.1 ha
    have hb := inB_iff.1 hb
    have hc := inB_iff.1 hc
    have e1 := ht.sh.b a.toNat (by show a.toNat < List.length kn; omega)
    have e2 := ht.sh.c a.toNat b.toNat (by show a.toNat < List.length kn; omega) (by show b.toNat < List.length kn; omega)
    simp only at e1 e2
    exact ⟨by omega, by omega, by omega, by omega, by omega, by omega, hk⟩
theorem min_snoc (l : List Int) (v : Int) (h : 1 ≤ l.length) : minL (l ++ [v]) = min (minL l) v := by
  cases l with
  | nil => simp at h
  | cons x r => simp [minL, List.foldl_append]
theorem take_snoc {α : Type} (z : α) {l : List α} {i : Nat} (h : i < l.length) : l.take (i + 1) = l.take i ++ [l.getD i z] := by
  rw [List.take_add_one, List.getD_eq_getElem?_getD, List.getElem?_eq_getElem h]; rfl
theorem okMin : PlainOk Tryd.prog glK 37 cMin := by
  refine plain_of (CxOk.mk' Et_ok rfl mixed (gl := glK) GOk.nil GoOk.nil noIt) Tryd.func37 (c := Tryd.f37.body.getD .skip) (rvs := [(.tmp 2, I)]) (by kernel_rfl) (by kernel_rfl) (by kernel_rfl) ?_
  intro ds k ⟨hp, hk⟩ hwf
  obtain ⟨l, rfl, h1, h2⟩ := dest1 hp
  have hk : k [⟨I, minL l⟩] := hk
  refine ⟨anMin l, ?_⟩
  rw [vcMin]
  have h1 : 1 ≤ List.length l := h1
  have h2 : List.length l ≤ 1000 := h2
  simp only [and_true, true_and]
  refine ⟨fun h => absurd (of_decide_eq_true h) (by omega), fun _ => ⟨by omega, by omega, ⟨1, ⟨by omega, h1⟩, ?_, rfl⟩, fun x hx => ⟨fun h => ?_, fun h => ?_⟩⟩⟩
  · cases l with
    | nil => simp at h1
    | cons y r => rfl
  · have h := of_decide_eq_true h
    refine ⟨by omega, h, inK_i64.2 (by omega), x + 1, ⟨by omega, by omega⟩, by omega, ?_, by omega⟩
    rw [Int.toNat_natCast, take_snoc 0 (by omega), min_snoc _ _ (by rw [List.length_take]; omega)]
  · have h := of_decide_eq_false h
    have : x = List.length l := by omega
    rw [this, List.take_length]; exact hk
theorem okStable : PlainOk Tryd.prog glK 20 cStable := by
  refine plain_of (CxOk.mk' Et_ok rfl mixed (gl := glK) (GOk.cons okIs Tryd.func36 rfl rfl (GOk.cons okMin Tryd.func37 rfl rfl GOk.nil)) GoOk.nil noIt) Tryd.func20 (c := Tryd.f20.body.getD .skip) (rvs := [(.tmp 6, I)]) (by kernel_rfl) (by kernel_rfl) (by kernel_rfl) ?_
  intro ds k ⟨hp, hk⟩ hwf
  obtain ⟨p, a, c, rfl, ⟨⟨kn, dn, ⟨⟩⟩, rfl, ht⟩⟩ := dest3 hp
  have hk : k [⟨I, stabF kn a c⟩] := hk
  refine ⟨anStable kn a c, ?_⟩
  rw [vcStable]
  have hl : (List.length kn) ≤ 5 := ht.n5
  unfold stabF at hk
  simp only [Bool.not_eq_true', Bool.not_eq_false', and_true, true_and]
  have n0 : ∀ {x y : Bool}, x = false ∨ y = false → ¬ (x && y) = true := by intro x y h; rcases h with rfl | rfl <;> simp
  refine ⟨⟨_, rfl, hl⟩, fun h => ?_, fun ha => ⟨⟨_, rfl, hl⟩, fun h => ?_, fun hc => ?_⟩⟩
  · rw [if_neg (n0 (.inl h))] at hk; exact hk
  · rw [if_neg (n0 (.inr h))] at hk; exact hk
  · rw [if_pos (by rw [ha, hc]; rfl)] at hk
    have ha := inB_iff.1 ha
    have hc := inB_iff.1 hc
    have e1 := ht.sh.b a.toNat (by show a.toNat < List.length kn; omega)
    simp only at e1
    refine ⟨⟨0, by omega, rfl, rfl⟩, fun x hx => ⟨fun h => ?_, fun h => ?_⟩⟩
    · have h := of_decide_eq_true h
      have e2 := ht.sh.c a.toNat x (by show a.toNat < List.length kn; omega) (by show x < List.length kn; omega)
      simp only at e2
      refine ⟨by omega, by omega, by omega, by omega, by omega, ?_, ?_, inK_i64.2 (by omega), x + 1, by omega, by omega, by omega, ?_⟩
      · rw [Int.toNat_natCast]; omega
      · simp only [colF, List.length_map, List.length_range, List.length_set, List.length_replicate]; omega
      · rw [Int.toNat_natCast]
        unfold colF
        rw [List.range_succ, List.map_append]
        rfl
    · have h := of_decide_eq_false h
      have : x = List.length kn := by omega
      subst this
      exact ⟨⟨by simp only [colF, List.length_map, List.length_range]; omega, by simp only [colF, List.length_map, List.length_range]; omega⟩, hk⟩
end Go.Proofs.YtjgdpblaghhfhaaDoor.T

/- Tables of who knows what who knows: what the reference answers. -/
namespace Go.Proofs.YtjgdpblaghhfhaaDoor.T
open Go.Vc
/-- how many, who knows what who knows, in one row, who wrote how often -/
@[match_pattern] abbrev tX : Ty := .pr I (.pr (.sl I) (.pr (.sl I) .un))
abbrev Xt : Type := Int × List Int × List Int × Unit
abbrev zX : Xt := (0, [], [], ())
def Ex : Env := { tys := [(3, I), (4, .bool), (29, .sl I), (46, tX)], errT := 76, eqs := [], els := [(29, 3)] }
theorem Ex_ok : EnvOk Tryd.prog Ex := EnvOk.of_list (by kernel_rfl) (by kernel_rfl) (by kernel_rfl)
def Ens : Env := { tys := [(3, I), (4, .bool), (29, .sl I), (46, tX)], errT := 76, eqs := [], els := [(29, 3)], sa := [9, 11] }
theorem Ens_ok : EnvOk Tryd.prog Ens := EnvOk.of_list (by kernel_rfl) (by kernel_rfl) (by kernel_rfl)
def newX (n : Int) : Xt := (n, List.replicate (n * n * n).toNat 0, List.replicate n.toNat 0, ())
def cNewX : Ctr := cdet [I] (fun (n : Int) => 0 ≤ n ∧ n ≤ 5) (fun (n : Int) => [⟨tX, newX n⟩])
def cWith : Ctr := cdet [.sl I, I, I] (fun (l : List Int) (i _ : Int) => 0 ≤ i ∧ i < (l.length : Int) ∧ l.length ≤ 1000) (fun (l : List Int) (i v : Int) => [⟨.sl I, l.set i.toNat v⟩])
def plc (n a b c : Int) : Int := (a * n + b) * n + c
def cPlace : Ctr := cdet [tX, I, I, I] (fun (x : Xt) (a b c : Int) => (0 ≤ x.1 ∧ x.1 ≤ 5) ∧ (0 ≤ a ∧ a ≤ 5) ∧ (0 ≤ b ∧ b ≤ 5) ∧ 0 ≤ c ∧ c ≤ 5) (fun (x : Xt) (a b c : Int) => [⟨I, plc x.1 a b c⟩])
structure XOk (x : Xt) : Prop where
  n : 1 ≤ x.1 ∧ x.1 ≤ 5
  kl : x.2.1.length = x.1.toNat * x.1.toNat * x.1.toNat
  dl : x.2.2.1.length = x.1.toNat
  k : ∀ m : Nat, -1000 ≤ x.2.1.getD m 0 ∧ x.2.1.getD m 0 ≤ 1000
def wrX (x : Xt) (p : Int) : Xt × Int :=
  if inB p 0 (x.1 - 1) = false then (x, 1) else if 60 ≤ x.2.2.1.getD p.toNat 0 then (x, 4)
  else ((x.1, x.2.1.set (plc x.1 p p p).toNat (x.2.1.getD (plc x.1 p p p).toNat 0 + 1), x.2.2.1.set p.toNat (x.2.2.1.getD p.toNat 0 + 1), ()), 0)
def cWrX : Ctr := cdet [tX, I] (fun (x : Xt) (_ : Int) => XOk x) (fun (x : Xt) (p : Int) => [⟨tX, (wrX x p).1⟩, ⟨I, (wrX x p).2⟩])
/-- what is told of one's writes by way of another one -/
def tlN (x : Xt) (f t o w : Int) : Int :=
  if o = t ∧ x.2.1.getD (plc x.1 f o w).toNat 0 < x.2.1.getD (plc x.1 f f w).toNat 0 then x.2.1.getD (plc x.1 f f w).toNat 0 else x.2.1.getD (plc x.1 f o w).toNat 0
def tlR (x : Xt) (f t o : Int) (k : List Int) : Nat → List Int
  | 0 => k
  | w + 1 => if (tlR x f t o k w).getD (plc x.1 t o (w : Int)).toNat 0 < tlN x f t o (w : Int) then (tlR x f t o k w).set (plc x.1 t o (w : Int)).toNat (tlN x f t o (w : Int)) else tlR x f t o k w
def tlA (x : Xt) (f t : Int) : Nat → List Int
  | 0 => x.2.1
  | o + 1 => tlR x f t (o : Int) (tlA x f t o) x.1.toNat
def tlX (x : Xt) (f t : Int) : Xt × Int :=
  if (inB f 0 (x.1 - 1) && inB t 0 (x.1 - 1)) = false then (x, 1) else if f = t then (x, 6) else ((x.1, tlA x f t x.1.toNat, x.2.2.1, ()), 0)
def cTlX : Ctr := cdet [tX, I, I] (fun (x : Xt) (_ _ : Int) => XOk x) (fun (x : Xt) (f t : Int) => [⟨tX, (tlX x f t).1⟩, ⟨I, (tlX x f t).2⟩])
def anTlX (x : Xt) (f t : Int) : Ann :=
  [joinAll,
   loopAt 7 Nat [] (fun st o => St.at (St.only st [1, 2, 3, 6]) [(8, .d (.sl I) (tlA x f t o)), (9, .d I (o : Int))]) (fun _ o => (o : Int) ≤ x.1 ∧ True) (fun o => x.1.toNat - o),
   loopAt 10 Nat [] (fun st w => St.at (St.only st [1, 2, 3, 6, 9]) [(8, .d (.sl I) (tlR x f t (st.i 9) (tlA x f t (st.i 9).toNat) w)), (10, .d I (w : Int))]) (fun _ w => (w : Int) ≤ x.1 ∧ True) (fun w => x.1.toNat - w),
   meetAt 15 Nat [] (fun st _ => St.at (St.only st [1, 2, 3, 6, 8, 9, 10]) [(11, .d I (tlN x f t (st.i 9) (st.i 10)))]) (fun _ _ => True)]
end Go.Proofs.YtjgdpblaghhfhaaDoor.T

/- What the functions of this seat have to satisfy, by program: each verification condition in plain words. -/
namespace Go.Proofs.YtjgdpblaghhfhaaDoor
open Go.Vc Go.Proofs.YtjgdpblaghhfhaaDoor.T
set_option linter.unusedVariables false
theorem vcIn (a b c : Int) (k : List Dat → Prop) : vcF ⟨Et, [], glK, [], []⟩ [] (Tryd.f33.body.getD .skip) Tryd.f33.ntmps [(.tmp 6, .bool)] [⟨I, a⟩, ⟨I, b⟩, ⟨I, c⟩] k = (
  (decide (b ≤ a) = true → k [Dat.mk Ty.bool (decide (a ≤ c))]) ∧ (decide (b ≤ a) = false → k [Dat.mk Ty.bool false])) := by kernel_rfl
theorem vcNewX (n : Int) (k : List Dat → Prop) : vcF ⟨Ens, [], glK, [], []⟩ [] (Tryd.f14.body.getD .skip) Tryd.f14.ntmps [(.cell 2 46, tX)] [⟨I, n⟩] k = (
  inK IntKind.i64 (n * n) ∧ inK IntKind.i64 (n * n * n) ∧ (0 : Int) ≤ n * n * n ∧ n * n * n ≤ n * n * n ∧ n * n * n ≤ (1000000000 : Int) ∧ (0 : Int) ≤ n ∧ n ≤ n ∧ n ≤ (1000000000 : Int) ∧ k [Dat.mk ((I).pr ((I).sl.pr ((I).sl.pr Ty.un))) (n, List.replicate (n * n * n).toNat (0 : Int), List.replicate n.toNat (0 : Int), ())]) := by kernel_rfl
theorem vcWith (l : List Int) (i v : Int) (k : List Dat → Prop) : vcF ⟨Ex, [], glK, [], []⟩ [] (Tryd.f34.body.getD .skip) Tryd.f34.ntmps [(.tmp 6, .sl I)] [⟨.sl I, l⟩, ⟨I, i⟩, ⟨I, v⟩] k = (
  l.length ≤ (1000000000 : Nat) ∧ (0 : Int) ≤ i ∧ i < (↑l.length : Int) ∧ k [Dat.mk (I).sl (l.set i.toNat v)]) := by kernel_rfl
theorem vcPlace (x : Xt) (a b c : Int) (k : List Dat → Prop) : vcF ⟨Ex, [], glK, [], []⟩ [] (Tryd.f35.body.getD .skip) Tryd.f35.ntmps [(.tmp 8, I)] [⟨tX, x⟩, ⟨I, a⟩, ⟨I, b⟩, ⟨I, c⟩] k = (
  inK IntKind.i64 (a * x.fst) ∧ inK IntKind.i64 (a * x.fst + b) ∧ inK IntKind.i64 ((a * x.fst + b) * x.fst) ∧ inK IntKind.i64 ((a * x.fst + b) * x.fst + c) ∧ k [Dat.mk (I) ((a * x.fst + b) * x.fst + c)]) := by kernel_rfl
theorem vcWrX (x : Xt) (p : Int) (k : List Dat → Prop) : vcF ⟨Ex, [(33, cWithin), (34, cWith), (35, cPlace)], glK, [], []⟩ [joinAll] (Tryd.f15.body.getD .skip) Tryd.f15.ntmps [(.cell 4 46, tX), (.tmp 5, I)] [⟨tX, x⟩, ⟨I, p⟩] k = (
  inK IntKind.i64 (x.fst - (1 : Int)) ∧ True ∧ ((!inB p (0 : Int) (x.fst - (1 : Int))) = true → k [Dat.mk ((I).pr ((I).sl.pr ((I).sl.pr Ty.un))) x, Dat.mk (I) (1 : Int)]) ∧ ((!inB p (0 : Int) (x.fst - (1 : Int))) = false → (0 : Int) ≤ p ∧ p < (↑(List.length x.snd.snd.fst) : Int) ∧ (decide ((60 : Int) ≤ List.getD x.snd.snd.fst p.toNat (0 : Int)) = true → k [Dat.mk ((I).pr ((I).sl.pr ((I).sl.pr Ty.un))) x, Dat.mk (I) (4 : Int)]) ∧ (decide ((60 : Int) ≤ List.getD x.snd.snd.fst p.toNat (0 : Int)) = false → ((0 : Int) ≤ p ∧ p < (↑(List.length x.snd.snd.fst) : Int) ∧ inK IntKind.i64 (List.getD x.snd.snd.fst p.toNat (0 : Int) + (1 : Int)) ∧ ((0 : Int) ≤ p ∧ p < (↑(List.length x.snd.snd.fst) : Int) ∧ List.length x.snd.snd.fst ≤ (1000 : Nat)) ∧ True) ∧ (((0 : Int) ≤ x.fst ∧ x.fst ≤ (5 : Int)) ∧ ((0 : Int) ≤ p ∧ p ≤ (5 : Int)) ∧ ((0 : Int) ≤ p ∧ p ≤ (5 : Int)) ∧ (0 : Int) ≤ p ∧ p ≤ (5 : Int)) ∧ ((0 : Int) ≤ plc x.fst p p p ∧ plc x.fst p p p < (↑(List.length x.snd.fst) : Int) ∧ inK IntKind.i64 (List.getD x.snd.fst (plc x.fst p p p).toNat (0 : Int) + (1 : Int)) ∧ ((0 : Int) ≤ plc x.fst p p p ∧ plc x.fst p p p < (↑(List.length x.snd.fst) : Int) ∧ List.length x.snd.fst ≤ (1000 : Nat)) ∧ True) ∧ k [Dat.mk ((I).pr ((I).sl.pr ((I).sl.pr Ty.un))) (x.fst, List.set x.snd.fst (plc x.fst p p p).toNat (List.getD x.snd.fst (plc x.fst p p p).toNat (0 : Int) + (1 : Int)), List.set x.snd.snd.fst p.toNat (List.getD x.snd.snd.fst p.toNat (0 : Int) + (1 : Int)), x.snd.snd.snd), Dat.mk (I) (0 : Int)]))) := by kernel_rfl
theorem vcTlX (x : Xt) (f t : Int) (k : List Dat → Prop) : vcF ⟨Ex, [(33, cWithin), (34, cWith), (35, cPlace)], glK, [], []⟩ (anTlX x f t) (Tryd.f17.body.getD .skip) Tryd.f17.ntmps [(.cell 6 46, tX), (.tmp 7, I)] [⟨tX, x⟩, ⟨I, f⟩, ⟨I, t⟩] k = (
  inK IntKind.i64 (x.fst - (1 : Int)) ∧ True ∧ ((!inB f (0 : Int) (x.fst - (1 : Int))) = true → k [Dat.mk ((I).pr ((I).sl.pr ((I).sl.pr Ty.un))) x, Dat.mk (I) (1 : Int)]) ∧ ((!inB f (0 : Int) (x.fst - (1 : Int))) = false → inK IntKind.i64 (x.fst - (1 : Int)) ∧ True ∧ ((!inB t (0 : Int) (x.fst - (1 : Int))) = true → k [Dat.mk ((I).pr ((I).sl.pr ((I).sl.pr Ty.un))) x, Dat.mk (I) (1 : Int)]) ∧ ((!inB t (0 : Int) (x.fst - (1 : Int))) = false → (decide (f = t) = true → k [Dat.mk ((I).pr ((I).sl.pr ((I).sl.pr Ty.un))) x, Dat.mk (I) (6 : Int)]) ∧ (decide (f = t) = false → (∃ (x_1 : Nat), ((↑x_1 : Int) ≤ x.fst ∧ True) ∧ (f = f ∧ t = t ∧ ([] : List Nat) = [] ∧ ([] : List Nat) = [] ∧ x.snd.fst = tlA x f t x_1 ∧ (0 : Int) = (↑x_1 : Int) ∧ True) ∧ (((46 : Nat) = (46 : Nat) ∧ x = x) ∧ ((46 : Nat) = (46 : Nat) ∧ zX = zX) ∧ True) ∧ hdE = hdE ∧ True) ∧ ∀ (x_1 : Nat), (↑x_1 : Int) ≤ x.fst ∧ True → (decide ((↑x_1 : Int) < x.fst) = true → (∃ (x_2 : Nat), ((↑x_2 : Int) ≤ x.fst ∧ True) ∧ (f = f ∧ t = t ∧ ([] : List Nat) = [] ∧ ([] : List Nat) = [] ∧ tlA x f t x_1 = tlR x f t (↑x_1 : Int) (tlA x f t (↑x_1 : Int).toNat) x_2 ∧ (↑x_1 : Int) = (↑x_1 : Int) ∧ (0 : Int) = (↑x_2 : Int) ∧ True) ∧ (((46 : Nat) = (46 : Nat) ∧ x = x) ∧ ((46 : Nat) = (46 : Nat) ∧ zX = zX) ∧ True) ∧ hdE = hdE ∧ True) ∧ ∀ (x_2 : Nat), (↑x_2 : Int) ≤ x.fst ∧ True → (decide ((↑x_2 : Int) < x.fst) = true → ((((0 : Int) ≤ x.fst ∧ x.fst ≤ (5 : Int)) ∧ ((0 : Int) ≤ f ∧ f ≤ (5 : Int)) ∧ ((0 : Int) ≤ (↑x_1 : Int) ∧ (↑x_1 : Int) ≤ (5 : Int)) ∧ (0 : Int) ≤ (↑x_2 : Int) ∧ (↑x_2 : Int) ≤ (5 : Int)) ∧ (0 : Int) ≤ plc x.fst f (↑x_1 : Int) (↑x_2 : Int) ∧ plc x.fst f (↑x_1 : Int) (↑x_2 : Int) < (↑(List.length x.snd.fst) : Int) ∧ True) ∧ (((decide ((↑x_1 : Int) = t) = true → (((0 : Int) ≤ x.fst ∧ x.fst ≤ (5 : Int)) ∧ ((0 : Int) ≤ f ∧ f ≤ (5 : Int)) ∧ ((0 : Int) ≤ f ∧ f ≤ (5 : Int)) ∧ (0 : Int) ≤ (↑x_2 : Int) ∧ (↑x_2 : Int) ≤ (5 : Int)) ∧ (0 : Int) ≤ plc x.fst f f (↑x_2 : Int) ∧ plc x.fst f f (↑x_2 : Int) < (↑(List.length x.snd.fst) : Int) ∧ True) ∧ (decide ((↑x_1 : Int) = t) = false → True)) ∧ ((decide ((↑x_1 : Int) = t) && decide (List.getD x.snd.fst (plc x.fst f (↑x_1 : Int) (↑x_2 : Int)).toNat (0 : Int) < List.getD x.snd.fst (plc x.fst f f (↑x_2 : Int)).toNat (0 : Int))) = true → ((((0 : Int) ≤ x.fst ∧ x.fst ≤ (5 : Int)) ∧ ((0 : Int) ≤ f ∧ f ≤ (5 : Int)) ∧ ((0 : Int) ≤ f ∧ f ≤ (5 : Int)) ∧ (0 : Int) ≤ (↑x_2 : Int) ∧ (↑x_2 : Int) ≤ (5 : Int)) ∧ (0 : Int) ≤ plc x.fst f f (↑x_2 : Int) ∧ plc x.fst f f (↑x_2 : Int) < (↑(List.length x.snd.fst) : Int) ∧ True) ∧ ∃ (x_3 : Nat), True ∧ (f = f ∧ t = t ∧ ([] : List Nat) = [] ∧ ([] : List Nat) = [] ∧ tlR x f t (↑x_1 : Int) (tlA x f t (↑x_1 : Int).toNat) x_2 = tlR x f t (↑x_1 : Int) (tlA x f t (↑x_1 : Int).toNat) x_2 ∧ (↑x_1 : Int) = (↑x_1 : Int) ∧ (↑x_2 : Int) = (↑x_2 : Int) ∧ List.getD x.snd.fst (plc x.fst f f (↑x_2 : Int)).toNat (0 : Int) = tlN x f t (↑x_1 : Int) (↑x_2 : Int) ∧ True) ∧ (((46 : Nat) = (46 : Nat) ∧ x = x) ∧ ((46 : Nat) = (46 : Nat) ∧ zX = zX) ∧ True) ∧ hdE = hdE ∧ True) ∧ ((decide ((↑x_1 : Int) = t) && decide (List.getD x.snd.fst (plc x.fst f (↑x_1 : Int) (↑x_2 : Int)).toNat (0 : Int) < List.getD x.snd.fst (plc x.fst f f (↑x_2 : Int)).toNat (0 : Int))) = false → ∃ (x_3 : Nat), True ∧ (f = f ∧ t = t ∧ ([] : List Nat) = [] ∧ ([] : List Nat) = [] ∧ tlR x f t (↑x_1 : Int) (tlA x f t (↑x_1 : Int).toNat) x_2 = tlR x f t (↑x_1 : Int) (tlA x f t (↑x_1 : Int).toNat) x_2 ∧ (↑x_1 : Int) = (↑x_1 : Int) ∧ (↑x_2 : Int) = (↑x_2 : Int) ∧ List.getD x.snd.fst (plc x.fst f (↑x_1 : Int) (↑x_2 : Int)).toNat (0 : Int) = tlN x f t (↑x_1 : Int) (↑x_2 : Int) ∧ True) ∧ (((46 : Nat) = (46 : Nat) ∧ x = x) ∧ ((46 : Nat) = (46 : Nat) ∧ zX = zX) ∧ True) ∧ hdE = hdE ∧ True)) ∧ ∀ (x_3 : Nat), True → (((0 : Int) ≤ x.fst ∧ x.fst ≤ (5 : Int)) ∧ ((0 : Int) ≤ t ∧ t ≤ (5 : Int)) ∧ ((0 : Int) ≤ (↑x_1 : Int) ∧ (↑x_1 : Int) ≤ (5 : Int)) ∧ (0 : Int) ≤ (↑x_2 : Int) ∧ (↑x_2 : Int) ≤ (5 : Int)) ∧ (0 : Int) ≤ plc x.fst t (↑x_1 : Int) (↑x_2 : Int) ∧ plc x.fst t (↑x_1 : Int) (↑x_2 : Int) < (↑(tlR x f t (↑x_1 : Int) (tlA x f t (↑x_1 : Int).toNat) x_2).length : Int) ∧ (decide ((tlR x f t (↑x_1 : Int) (tlA x f t (↑x_1 : Int).toNat) x_2).getD (plc x.fst t (↑x_1 : Int) (↑x_2 : Int)).toNat (0 : Int) < tlN x f t (↑x_1 : Int) (↑x_2 : Int)) = true → ((0 : Int) ≤ plc x.fst t (↑x_1 : Int) (↑x_2 : Int) ∧ plc x.fst t (↑x_1 : Int) (↑x_2 : Int) < (↑(tlR x f t (↑x_1 : Int) (tlA x f t (↑x_1 : Int).toNat) x_2).length : Int) ∧ (tlR x f t (↑x_1 : Int) (tlA x f t (↑x_1 : Int).toNat) x_2).length ≤ (1000 : Nat)) ∧ inK IntKind.i64 ((↑x_2 : Int) + (1 : Int)) ∧ ∃ (x_4 : Nat), ((↑x_4 : Int) ≤ x.fst ∧ True) ∧ x.fst.toNat - x_4 < x.fst.toNat - x_2 ∧ (f = f ∧ t = t ∧ ([] : List Nat) = [] ∧ ([] : List Nat) = [] ∧ (tlR x f t (↑x_1 : Int) (tlA x f t (↑x_1 : Int).toNat) x_2).set (plc x.fst t (↑x_1 : Int) (↑x_2 : Int)).toNat (tlN x f t (↑x_1 : Int) (↑x_2 : Int)) = tlR x f t (↑x_1 : Int) (tlA x f t (↑x_1 : Int).toNat) x_4 ∧ (↑x_1 : Int) = (↑x_1 : Int) ∧ (↑x_2 : Int) + (1 : Int) = (↑x_4 : Int) ∧ True) ∧ (((46 : Nat) = (46 : Nat) ∧ x = x) ∧ ((46 : Nat) = (46 : Nat) ∧ zX = zX) ∧ True) ∧ hdE = hdE ∧ True) ∧ (decide ((tlR x f t (↑x_1 : Int) (tlA x f t (↑x_1 : Int).toNat) x_2).getD (plc x.fst t (↑x_1 : Int) (↑x_2 : Int)).toNat (0 : Int) < tlN x f t (↑x_1 : Int) (↑x_2 : Int)) = false → inK IntKind.i64 ((↑x_2 : Int) + (1 : Int)) ∧ ∃ (x_4 : Nat), ((↑x_4 : Int) ≤ x.fst ∧ True) ∧ x.fst.toNat - x_4 < x.fst.toNat - x_2 ∧ (f = f ∧ t = t ∧ ([] : List Nat) = [] ∧ ([] : List Nat) = [] ∧ tlR x f t (↑x_1 : Int) (tlA x f t (↑x_1 : Int).toNat) x_2 = tlR x f t (↑x_1 : Int) (tlA x f t (↑x_1 : Int).toNat) x_4 ∧ (↑x_1 : Int) = (↑x_1 : Int) ∧ (↑x_2 : Int) + (1 : Int) = (↑x_4 : Int) ∧ True) ∧ (((46 : Nat) = (46 : Nat) ∧ x = x) ∧ ((46 : Nat) = (46 : Nat) ∧ zX = zX) ∧ True) ∧ hdE = hdE ∧ True)) ∧ (decide ((↑x_2 : Int) < x.fst) = false → inK IntKind.i64 ((↑x_1 : Int) + (1 : Int)) ∧ ∃ (x_3 : Nat), ((↑x_3 : Int) ≤ x.fst ∧ True) ∧ x.fst.toNat - x_3 < x.fst.toNat - x_1 ∧ (f = f ∧ t = t ∧ ([] : List Nat) = [] ∧ ([] : List Nat) = [] ∧ tlR x f t (↑x_1 : Int) (tlA x f t (↑x_1 : Int).toNat) x_2 = tlA x f t x_3 ∧ (↑x_1 : Int) + (1 : Int) = (↑x_3 : Int) ∧ True) ∧ (((46 : Nat) = (46 : Nat) ∧ x = x) ∧ ((46 : Nat) = (46 : Nat) ∧ zX = zX) ∧ True) ∧ hdE = hdE ∧ True)) ∧ (decide ((↑x_1 : Int) < x.fst) = false → k [Dat.mk ((I).pr ((I).sl.pr ((I).sl.pr Ty.un))) (x.fst, tlA x f t x_1, x.snd.snd), Dat.mk (I) (0 : Int)]))))) := by kernel_rfl
end Go.Proofs.YtjgdpblaghhfhaaDoor

/- Tables of who knows what who knows: the reference's functions keep their contracts. -/
namespace Go.Proofs.YtjgdpblaghhfhaaDoor.T
open Go.Vc
theorem at_lt {N a b c : Nat} (ha : a < N) (hb : b < N) (hc : c < N) : (a * N + b) * N + c < N * N * N := by
  have h1 : (a + 1) * N ≤ N * N := Nat.mul_le_mul_right N ha
  rw [Nat.add_mul] at h1
  have h2 : (a * N + b + 1) * N ≤ N * N * N := Nat.mul_le_mul_right N (by omega)
  rw [Nat.add_mul] at h2
  omega
theorem cube_le {N : Nat} (h : N ≤ 5) : N * N ≤ 25 ∧ N * N * N ≤ 125 := ⟨Nat.mul_le_mul h h, Nat.mul_le_mul (Nat.mul_le_mul h h) h⟩
theorem plc_cast (N a b c : Nat) : plc (N : Int) (a : Int) (b : Int) (c : Int) = (((a * N + b) * N + c : Nat) : Int) := by
  unfold plc
  rw [← Int.natCast_mul, ← Int.natCast_add, ← Int.natCast_mul, ← Int.natCast_add]
/-- a place in the row -/
theorem plc_in {n a b c : Int} (ha : 0 ≤ a ∧ a < n) (hb : 0 ≤ b ∧ b < n) (hc : 0 ≤ c ∧ c < n) : 0 ≤ plc n a b c ∧ plc n a b c < ((n.toNat * n.toNat * n.toNat : Nat) : Int) := by
  obtain ⟨N, rfl⟩ := Int.eq_ofNat_of_zero_le (show 0 ≤ n by omega)
  obtain ⟨A, rfl⟩ := Int.eq_ofNat_of_zero_le ha.1
  obtain ⟨B, rfl⟩ := Int.eq_ofNat_of_zero_le hb.1
  obtain ⟨C, rfl⟩ := Int.eq_ofNat_of_zero_le hc.1
  rw [plc_cast, Int.toNat_natCast]
  have := at_lt (N := N) (a := A) (b := B) (c := C) (by omega) (by omega) (by omega)
  omega
theorem okIn : PlainOk Tryd.prog glK 33 cWithin := by
  refine plain_of (CxOk.mk' Et_ok rfl mixed (gl := glK) GOk.nil GoOk.nil noIt) Tryd.func33 (c := Tryd.f33.body.getD .skip) (rvs := [(.tmp 6, .bool)]) (by kernel_rfl) (by kernel_rfl) (by kernel_rfl) ?_
  intro ds k ⟨hp, hk⟩ hwf
  obtain ⟨a, b, c, rfl, -⟩ := dest3 hp
  have hk : k [⟨.bool, inB a b c⟩] := hk
  refine ⟨[], ?_⟩
  rw [vcIn]
  unfold inB at hk
  refine ⟨fun h => ?_, fun h => ?_⟩ <;> simpa [h] using hk
theorem okNewX : PlainOk Tryd.prog glK 14 cNewX := by
  refine plain_of (CxOk.mk' Ens_ok rfl mixed (gl := glK) GOk.nil GoOk.nil noIt) Tryd.func14 (c := Tryd.f14.body.getD .skip) (rvs := [(.cell 2 46, tX)]) (by kernel_rfl) (by kernel_rfl) (by kernel_rfl) ?_
  intro ds k ⟨hp, hk⟩ hwf
  obtain ⟨n, rfl, h0, h5⟩ := dest1 hp
  have hk : k [⟨tX, newX n⟩] := hk
  refine ⟨[], ?_⟩
  rw [vcNewX]
  obtain ⟨N, rfl⟩ := Int.eq_ofNat_of_zero_le h0
  obtain ⟨q2, q3⟩ := cube_le (N := N) (by omega)
  have c2 : (N : Int) * (N : Int) = ((N * N : Nat) : Int) := (Int.natCast_mul N N).symm
  have c3 : (N : Int) * (N : Int) * (N : Int) = ((N * N * N : Nat) : Int) := by rw [c2]; exact (Int.natCast_mul (N * N) N).symm
  exact ⟨inK_i64.2 (by rw [c2]; omega), inK_i64.2 (by rw [c3]; omega), by rw [c3]; omega, by rw [c3]; omega, by rw [c3]; omega, by omega, by omega, by omega, hk⟩
theorem okWith : PlainOk Tryd.prog glK 34 cWith := by
  refine plain_of (CxOk.mk' Ex_ok rfl mixed (gl := glK) GOk.nil GoOk.nil noIt) Tryd.func34 (c := Tryd.f34.body.getD .skip) (rvs := [(.tmp 6, .sl I)]) (by kernel_rfl) (by kernel_rfl) (by kernel_rfl) ?_
  intro ds k ⟨hp, hk⟩ hwf
  obtain ⟨l, i, v, rfl, h1, h2, h3⟩ := dest3 hp
  have hk : k [⟨.sl I, List.set l i.toNat v⟩] := hk
  have h3 : List.length l ≤ 1000 := h3
  refine ⟨[], ?_⟩
  rw [vcWith]
  exact ⟨by omega, h1, h2, hk⟩
theorem plc_small {n a b c : Int} (hn : 0 ≤ n ∧ n ≤ 5) (ha : 0 ≤ a ∧ a ≤ 5) (hb : 0 ≤ b ∧ b ≤ 5) (hc : 0 ≤ c ∧ c ≤ 5) : inK .i64 (a * n) ∧ inK .i64 (a * n + b) ∧ inK .i64 ((a * n + b) * n) ∧ inK .i64 ((a * n + b) * n + c) := by
  have h1 : 0 ≤ a * n := Int.mul_nonneg ha.1 hn.1
  have h2 : a * n ≤ 5 * 5 := Int.mul_le_mul ha.2 hn.2 hn.1 (by decide)
  have h3 : 0 ≤ (a * n + b) * n := Int.mul_nonneg (by omega) hn.1
  have h4 : (a * n + b) * n ≤ 30 * 5 := Int.mul_le_mul (by omega) hn.2 hn.1 (by decide)
  exact ⟨inK_i64.2 (by omega), inK_i64.2 (by omega), inK_i64.2 (by omega), inK_i64.2 (by omega)⟩
theorem okPlace : PlainOk Tryd.prog glK 35 cPlace := by
  refine plain_of (CxOk.mk' Ex_ok rfl mixed (gl := glK) GOk.nil GoOk.nil noIt) Tryd.func35 (c := Tryd.f35.body.getD .skip) (rvs := [(.tmp 8, I)]) (by kernel_rfl) (by kernel_rfl) (by kernel_rfl) ?_
  intro ds k ⟨hp, hk⟩ hwf
  obtain ⟨x, a, b, c, rfl, ⟨hn0, hn5⟩, ⟨ha0, ha5⟩, ⟨hb0, hb5⟩, hc0, hc5⟩ := dest4 hp
  obtain ⟨n, kn, dn, ⟨⟩⟩ := x
  have hk : k [⟨I, plc n a b c⟩] := hk
  refine ⟨[], ?_⟩
  rw [vcPlace]
  obtain ⟨h1, h2, h3, h4⟩ := plc_small ⟨hn0, hn5⟩ ⟨ha0, ha5⟩ ⟨hb0, hb5⟩ ⟨hc0, hc5⟩
  exact ⟨h1, h2, h3, h4, hk⟩
theorem wr_vc (n : Int) (kn dn : List Int) (p : Int) (hx : XOk (n, kn, dn, ())) (hdv : ∀ v ∈ dn, inK .i64 v) (k : List Dat → Prop) (hk : k [⟨tX, (wrX (n, kn, dn, ()) p).1⟩, ⟨I, (wrX (n, kn, dn, ()) p).2⟩]) : vcF ⟨Ex, [(33, cWithin), (34, cWith), (35, cPlace)], glK, [], []⟩ [joinAll] (Tryd.f15.body.getD .skip) Tryd.f15.ntmps [(.cell 4 46, tX), (.tmp 5, I)] [⟨tX, (n, kn, dn, ())⟩, ⟨I, p⟩] k := by
  rw [vcWrX]
  obtain ⟨hn, hkl, hdl, hkv⟩ := hx
  simp only at hn hkl hdl hkv
  unfold wrX at hk
  simp only at hk
  simp only [Bool.not_eq_true', Bool.not_eq_false', and_true]
  obtain ⟨-, q3⟩ := cube_le (N := n.toNat) (by omega)
  refine ⟨inK_i64.2 (by omega), trivial, fun h => ?_, fun h => ?_⟩
  · rw [if_pos h] at hk; exact hk
  rw [if_neg (by rw [h]; decide)] at hk
  have hp := inB_iff.1 h
  refine ⟨by omega, by omega, fun h2 => ?_, fun h2 => ?_⟩
  · rw [if_pos (of_decide_eq_true h2)] at hk; exact hk
  rw [if_neg (of_decide_eq_false h2)] at hk
  have h2 := of_decide_eq_false h2
  obtain ⟨pl0, pl1⟩ := plc_in (n := n) (a := p) (b := p) (c := p) (by omega) (by omega) (by omega)
  rw [← hkl] at pl1
  have hv := hkv (plc n p p p).toNat
  have hdv : -9223372036854775808 ≤ List.getD dn p.toNat 0 := by
    have hm : List.getD dn p.toNat 0 ∈ dn := by
      rw [List.getD_eq_getElem?_getD, List.getElem?_eq_getElem (show p.toNat < List.length dn by omega)]
      exact List.getElem_mem ..
    exact (inK_i64.1 (hdv _ hm)).1
  exact ⟨⟨by omega, by omega, inK_i64.2 (by omega), by omega, by omega, by omega⟩, ⟨by omega, by omega, by omega, by omega⟩, ⟨pl0, pl1, inK_i64.2 (by omega), pl0, pl1, by omega⟩, hk⟩
theorem okWrX : PlainOk Tryd.prog glK 15 cWrX := by
  refine plain_of (CxOk.mk' Ex_ok rfl mixed (gl := glK) (GOk.cons okIn Tryd.func33 rfl rfl (GOk.cons okWith Tryd.func34 rfl rfl (GOk.cons okPlace Tryd.func35 rfl rfl GOk.nil))) GoOk.nil noIt) Tryd.func15 (c := Tryd.f15.body.getD .skip) (rvs := [(.cell 4 46, tX), (.tmp 5, I)]) (by kernel_rfl) (by kernel_rfl) (by kernel_rfl) ?_
  intro ds k ⟨hp, hk⟩ hwf
  obtain ⟨x, p, rfl, hx⟩ := dest2 hp
  have hk : k [⟨tX, (wrX x p).1⟩, ⟨I, (wrX x p).2⟩] := hk
  obtain ⟨n, kn, dn, ⟨⟩⟩ := x
  exact ⟨_, wr_vc n kn dn p hx (fun v hv => (wf2 hwf).1.2.2.1.2 v hv) k hk⟩
theorem tlR_succ (x : Xt) (f t o : Int) (k : List Int) (w : Nat) : tlR x f t o k (w + 1) = if (tlR x f t o k w).getD (plc x.1 t o (w : Int)).toNat 0 < tlN x f t o (w : Int) then (tlR x f t o k w).set (plc x.1 t o (w : Int)).toNat (tlN x f t o (w : Int)) else tlR x f t o k w := rfl
theorem tlR_len (x : Xt) (f t o : Int) (k : List Int) : ∀ w, (tlR x f t o k w).length = k.length
  | 0 => rfl
  | w + 1 => by
    unfold tlR
    split
    · rw [List.length_set, tlR_len x f t o k w]
    · exact tlR_len x f t o k w
theorem tlA_len (x : Xt) (f t : Int) : ∀ o, (tlA x f t o).length = x.2.1.length
  | 0 => rfl
  | o + 1 => by
    unfold tlA
    rw [tlR_len, tlA_len x f t o]
theorem tl_vc (x : Xt) (f t : Int) (hx : XOk x) (k : List Dat → Prop) (hk : k [⟨tX, (tlX x f t).1⟩, ⟨I, (tlX x f t).2⟩]) : vcF ⟨Ex, [(33, cWithin), (34, cWith), (35, cPlace)], glK, [], []⟩ (anTlX x f t) (Tryd.f17.body.getD .skip) Tryd.f17.ntmps [(.cell 6 46, tX), (.tmp 7, I)] [⟨tX, x⟩, ⟨I, f⟩, ⟨I, t⟩] k := by
  rw [vcTlX]
  have hn := hx.n
  have hkl := hx.kl
  obtain ⟨-, q3⟩ := cube_le (N := x.1.toNat) (by omega)
  have hkl' : List.length x.2.1 = x.1.toNat * x.1.toNat * x.1.toNat := hkl
  unfold tlX at hk
  have n0 : ∀ {x y : Bool}, x = false ∨ y = false → (x && y) = false := by intro x y h; rcases h with rfl | rfl <;> simp
  simp only [Bool.not_eq_true', Bool.not_eq_false', and_true, true_and, implies_true, Int.toNat_natCast, forall_const]
  refine ⟨inK_i64.2 (by omega), fun h => ?_, fun hf => ⟨inK_i64.2 (by omega), fun h => ?_, fun ht => ⟨fun h => ?_, fun hne => ?_⟩⟩⟩
  · rw [if_pos (n0 (.inl h))] at hk; exact hk
  · rw [if_pos (n0 (.inr h))] at hk; exact hk
  · rw [if_neg (by rw [hf, ht]; decide), if_pos (of_decide_eq_true h)] at hk; exact hk
  rw [if_neg (by rw [hf, ht]; decide), if_neg (of_decide_eq_false hne)] at hk
  have hf := inB_iff.1 hf
  have ht := inB_iff.1 ht
  refine ⟨⟨0, by omega, rfl, rfl⟩, fun o ho => ⟨fun h => ?_, fun h => ?_⟩⟩
  · have ho1 := of_decide_eq_true h
    refine ⟨⟨0, by omega, rfl, rfl⟩, fun w hw => ⟨fun h2 => ?_, fun h2 => ?_⟩⟩
    · have hw1 := of_decide_eq_true h2
      have len := tlR_len x f t (o : Int) (tlA x f t o) w
      rw [tlA_len, hkl] at len
      rw [hkl, len]
      have p1 := plc_in (n := x.1) (a := f) (b := (o : Int)) (c := (w : Int)) (by omega) (by omega) (by omega)
      have p2 := plc_in (n := x.1) (a := f) (b := f) (c := (w : Int)) (by omega) (by omega) (by omega)
      have p3 := plc_in (n := x.1) (a := t) (b := (o : Int)) (c := (w : Int)) (by omega) (by omega) (by omega)
      have r5 : (0 ≤ x.1 ∧ x.1 ≤ 5) := by omega
      have rf : (0 ≤ f ∧ f ≤ 5) := by omega
      have rt : (0 ≤ t ∧ t ≤ 5) := by omega
      have ro : (0 ≤ (o : Int) ∧ (o : Int) ≤ 5) := by omega
      have rw' : (0 ≤ (w : Int) ∧ (w : Int) ≤ 5) := by omega
      refine ⟨⟨⟨r5, rf, ro, rw'⟩, p1.1, p1.2⟩, ⟨fun _ => ⟨⟨r5, rf, rf, rw'⟩, p2.1, p2.2⟩, fun h3 => ⟨⟨⟨r5, rf, rf, rw'⟩, p2.1, p2.2⟩, 0, ?_⟩, fun h3 => ⟨0, ?_⟩⟩, ⟨r5, rt, ro, rw'⟩, p3.1, p3.2, fun h3 => ⟨⟨p3.1, p3.2, by omega⟩, inK_i64.2 (by omega), w + 1, by omega, by omega, ?_, by omega⟩, fun h3 => ⟨inK_i64.2 (by omega), w + 1, by omega, by omega, ?_, by omega⟩⟩
      · rw [Bool.and_eq_true, decide_eq_true_eq, decide_eq_true_eq] at h3
        unfold tlN
        rw [if_pos h3]
      · unfold tlN
        rw [if_neg (fun hh => by
          rw [decide_eq_true hh.1, decide_eq_true hh.2] at h3
          cases h3)]
      · have h3 := of_decide_eq_true h3
        rw [tlR_succ, if_pos h3]
      · have h3 := of_decide_eq_false h3
        rw [tlR_succ, if_neg h3]
    · have hw1 := of_decide_eq_false h2
      have hwn : w = x.1.toNat := by omega
      subst hwn
      exact ⟨inK_i64.2 (by omega), o + 1, by omega, by omega, rfl, by omega⟩
  · have ho1 := of_decide_eq_false h
    have hon : o = x.1.toNat := by omega
    subst hon
    exact hk
theorem okTlX : PlainOk Tryd.prog glK 17 cTlX := by
  refine plain_of (CxOk.mk' Ex_ok rfl mixed (gl := glK) (GOk.cons okIn Tryd.func33 rfl rfl (GOk.cons okWith Tryd.func34 rfl rfl (GOk.cons okPlace Tryd.func35 rfl rfl GOk.nil))) GoOk.nil noIt) Tryd.func17 (c := Tryd.f17.body.getD .skip) (rvs := [(.cell 6 46, tX), (.tmp 7, I)]) (by kernel_rfl) (by kernel_rfl) (by kernel_rfl) ?_
  intro ds k ⟨hp, hk⟩ hwf
  obtain ⟨x, f, t, rfl, hx⟩ := dest3 hp
  exact ⟨_, tl_vc x f t hx k hk⟩
end Go.Proofs.YtjgdpblaghhfhaaDoor.T

/- Tables of who knows what who knows: the laws of the program alone. -/
namespace Go.Proofs.YtjgdpblaghhfhaaDoor.T
open Go.Vc
def wE (kn : L3) (dn : List Int) (p : Int) : Int := (writeF ⟨kn, dn⟩ p).1
def wK (kn : L3) (dn : List Int) (p : Int) : L3 := (writeF ⟨kn, dn⟩ p).2.know
def wD (kn : L3) (dn : List Int) (p : Int) : List Int := (writeF ⟨kn, dn⟩ p).2.done
def tE (kn : L3) (dn : List Int) (f g : Int) : Int := (tellF ⟨kn, dn⟩ f g).1
def tK (kn : L3) (dn : List Int) (f g : Int) : L3 := (tellF ⟨kn, dn⟩ f g).2.know
def knowX (k : L3) (a b c : Int) : Int := knowF k a b c
def stabX (k : L3) (a c : Int) : Int := stabF k a c
theorem wE_eq (kn : L3) (dn : List Int) (p : Int) : wE kn dn p = (writeF ⟨kn, dn⟩ p).1 := rfl
theorem wK_eq (kn : L3) (dn : List Int) (p : Int) : wK kn dn p = (writeF ⟨kn, dn⟩ p).2.know := rfl
theorem wD_eq (kn : L3) (dn : List Int) (p : Int) : wD kn dn p = (writeF ⟨kn, dn⟩ p).2.done := rfl
theorem tE_eq (kn : L3) (dn : List Int) (f g : Int) : tE kn dn f g = (tellF ⟨kn, dn⟩ f g).1 := rfl
theorem tK_eq (kn : L3) (dn : List Int) (f g : Int) : tK kn dn f g = (tellF ⟨kn, dn⟩ f g).2.know := rfl
theorem tD_eq (kn : L3) (dn : List Int) (f g : Int) : (tellF ⟨kn, dn⟩ f g).2.done = dn := by
  unfold tellF
  split
  · rfl
  · split <;> rfl
theorem knowX_eq (k : L3) (a b c : Int) : knowX k a b c = knowF k a b c := rfl
theorem stabX_eq (k : L3) (a c : Int) : stabX k a c = stabF k a c := rfl
def oWriteX : OCtr := fun args ob k =>
  match args, ob with
  | [.ps 0, .d (.int .i64) p], [.st 82 [.os 1, .os 2], .trow 41 oK kn, .row 3 (.int .i64) dn] => TbOk kn dn ∧ k (.d tErr (wE kn dn p)) (tob (wK kn dn p) (wD kn dn p))
  | _, _ => False
def oTellX : OCtr := fun args ob k =>
  match args, ob with
  | [.ps 0, .d (.int .i64) f, .d (.int .i64) g], [.st 82 [.os 1, .os 2], .trow 41 oK kn, .row 3 (.int .i64) dn] => TbOk kn dn ∧ k (.d tErr (tE kn dn f g)) (tob (tK kn dn f g) dn)
  | _, _ => False
def cKnowsX : Ctr := cdet [.ptr tTab, I, I, I] (fun (p : Option Td) (_ _ _ : Int) => ∃ s : Td, p = some s ∧ TdOk s) (fun (p : Option Td) (a b c : Int) => [⟨I, knowX (p.getD zT).1 a b c⟩])
def cStableX : Ctr := cdet [.ptr tTab, I, I] (fun (p : Option Td) (_ _ : Int) => ∃ s : Td, p = some s ∧ TdOk s) (fun (p : Option Td) (a c : Int) => [⟨I, stabX (p.getD zT).1 a c⟩])
theorem tell_ob (kn : L3) (dn : List Int) (f g : Int) : (tellF ⟨kn, dn⟩ f g).2.ob = tob (tK kn dn f g) dn := by unfold Tb.ob; rw [tD_eq]; rfl
theorem okWriteX : OwnOk Tryd.prog glK 16 oWriteX := by
  intro args ob k h
  refine okWrite args ob k ?_
  unfold oWriteX at h
  split at h
  · exact h
  · exact h.elim
theorem okTellX : OwnOk Tryd.prog glK 18 oTellX := by
  intro args ob k h
  refine okTell args ob k ?_
  unfold oTellX at h
  split at h
  · rename_i f g kn dn
    exact ⟨h.1, (congrArg (k (SV.d tErr (tellF ⟨kn, dn⟩ f g).1)) (tell_ob kn dn f g)).mpr h.2⟩
  · exact h.elim
theorem okKnowsX : PlainOk Tryd.prog glK 19 cKnowsX := okKnows
theorem okStableX : PlainOk Tryd.prog glK 20 cStableX := okStable
attribute [irreducible] wE wK wD tE tK knowX stabX
def cFact : Ctr := cdet [] True [⟨.bool, true⟩]
/-- nobody thinks that another one knows of more than it does -/
def Snd (k : L3) (n : Nat) : Prop := ∀ a b c, a < n → b < n → c < n → at3 k a b c ≤ at3 k b b c
def flatK (k : L3) (n m : Nat) : Int := at3 k (m / n / n) (m / n % n) (m % n)
structure SInv (n : Nat) (kn : L3) (dn was : List Int) : Prop where
  ok : TbOk kn dn
  ln : kn.length = n
  s : Snd kn n
  wl : was.length = n * n * n
  w : ∀ m, m < n * n * n → was.getD m 0 ≤ flatK kn n m
def knOf (st : St) (k : L3 → List Int → Prop) : Prop :=
  match st.ob.getD 1 .dead, st.ob.getD 2 .dead with
  | .trow _ (.sl _ (.sl _ (.d (.int .i64)))) kn, .row _ (.int .i64) dn => k kn dn
  | _, _ => False
def wasOf (st : St) (k : List Int → Prop) : Prop :=
  match st.ob.getD 4 .dead with
  | .row _ (.int .i64) was => k was
  | _ => False
def anSound (n : Int) (l : List (List Int)) : Ann :=
  [joinAll,
   loopAt 10 (Nat × L3 × List Int × List Int) [] (fun st x => { St.at (St.only st [0, 1, 6, 8, 9]) [(10, .d I (x.1 : Int))] with ob := tob x.2.1 x.2.2.1 ++ [.row 3 I x.2.2.1, .row 3 I x.2.2.2] }) (fun _ x => (x.1 ≤ l.length ∧ x.1 ≤ 80) ∧ SInv n.toNat x.2.1 x.2.2.1 x.2.2.2) (fun x => l.length - x.1),
   meetAt 20 (L3 × List Int) [] (fun st x => { St.only st [0, 1, 6, 8, 9, 10] with ob := tob x.1 x.2 ++ [.row 3 I x.2, st.ob.getD 4 .dead] }) (fun st x => wasOf st fun was => SInv n.toNat x.1 x.2 was),
   loopAt 21 (Nat × List Int) [] (fun st x => { St.at (St.only st [0, 1, 6, 8, 9, 10]) [(12, .d I (x.1 : Int))] with ob := st.ob.set 4 (.row 3 I x.2) }) (fun st x => (x.1 : Int) ≤ n ∧ knOf st fun kn dn => SInv n.toNat kn dn x.2) (fun x => n.toNat - x.1),
   loopAt 24 (Nat × List Int) [] (fun st x => { St.at (St.only st [0, 1, 6, 8, 9, 10, 12]) [(13, .d I (x.1 : Int))] with ob := st.ob.set 4 (.row 3 I x.2) }) (fun st x => (x.1 : Int) ≤ n ∧ knOf st fun kn dn => SInv n.toNat kn dn x.2) (fun x => n.toNat - x.1),
   loopAt 27 (Nat × List Int) [] (fun st x => { St.at (St.only st [0, 1, 6, 8, 9, 10, 12, 13]) [(14, .d I (x.1 : Int))] with ob := st.ob.set 4 (.row 3 I x.2) }) (fun st x => (x.1 : Int) ≤ n ∧ knOf st fun kn dn => SInv n.toNat kn dn x.2) (fun x => n.toNat - x.1)]
/-- how far all have told all -/
structure Lv (n : Nat) (kn : L3) (dn : List Int) (r p q : Nat) : Prop where
  a : ∀ c b, c < n → b < n → (1 ≤ r ∨ c < p ∨ (c = p ∧ b < q)) → at3 kn b b c = dn.getD c 0
  b : ∀ d b c, d < n → b < n → c < n → (2 ≤ r ∨ (r = 1 ∧ (d < p ∨ (d = p ∧ b < q)))) → at3 kn b d c = dn.getD c 0
structure AInv (n : Nat) (kn : L3) (dn : List Int) : Prop where
  ok : TbOk kn dn
  ln : kn.length = n
def dnOf (st : St) (k : List Int → Prop) : Prop :=
  match st.ob.getD 2 .dead with
  | .row _ (.int .i64) dn => k dn
  | _ => False
def anAll (n : Int) (l : List (List Int)) : Ann :=
  [joinAll,
   loopAt 8 (Nat × L3 × List Int) [] (fun st x => { St.at (St.only st [0, 1, 6]) [(8, .d I (x.1 : Int))] with ob := tob x.2.1 x.2.2 }) (fun _ x => (x.1 ≤ l.length ∧ x.1 ≤ 80) ∧ AInv n.toNat x.2.1 x.2.2) (fun x => l.length - x.1),
   loopAt 13 (Nat × L3) [] (fun st x => { St.at (St.only st [0, 1, 6]) [(9, .d I (x.1 : Int))] with ob := st.ob.set 1 (.trow 41 oK x.2) }) (fun st x => x.1 ≤ 3 ∧ dnOf st fun dn => AInv n.toNat x.2 dn ∧ Lv n.toNat x.2 dn x.1 0 0) (fun x => 3 - x.1),
   loopAt 16 (Nat × L3) [] (fun st x => { St.at (St.only st [0, 1, 6, 9]) [(10, .d I (x.1 : Int))] with ob := st.ob.set 1 (.trow 41 oK x.2) }) (fun st x => (x.1 : Int) ≤ n ∧ dnOf st fun dn => AInv n.toNat x.2 dn ∧ Lv n.toNat x.2 dn (st.i 9).toNat x.1 0) (fun x => n.toNat - x.1),
   loopAt 19 (Nat × L3) [] (fun st x => { St.at (St.only st [0, 1, 6, 9, 10]) [(11, .d I (x.1 : Int))] with ob := st.ob.set 1 (.trow 41 oK x.2) }) (fun st x => (x.1 : Int) ≤ n ∧ dnOf st fun dn => AInv n.toNat x.2 dn ∧ Lv n.toNat x.2 dn (st.i 9).toNat (st.i 10).toNat x.1) (fun x => n.toNat - x.1),
   loopAt 24 Nat [] (fun st x => St.at (St.only st [0, 6]) [(12, .d I (x : Int))]) (fun _ x => (x : Int) ≤ n ∧ True) (fun x => n.toNat - x),
   loopAt 27 Nat [] (fun st x => St.at (St.only st [0, 6, 12]) [(13, .d I (x : Int))]) (fun _ x => (x : Int) ≤ n ∧ True) (fun x => n.toNat - x)]
end Go.Proofs.YtjgdpblaghhfhaaDoor.T

/- Tables of who knows what who knows: what writing and telling does (mathematics). -/
namespace Go.Proofs.YtjgdpblaghhfhaaDoor.T
open Go.Vc
theorem at_tell1 {k : L3} {n : Nat} (h : Shp k n) {f t : Nat} (hf : f < n) (ht : t < n) (hne : f ≠ t) : ∀ m, m ≤ n → ∀ a b c, at3 (tell1 k f t m) a b c = if a = t ∧ b = t ∧ c < m then max (at3 k t t c) (at3 k f f c) else at3 k a b c
  | 0, _, a, b, c => by rw [if_neg (by omega)]; rfl
  | m + 1, hm, a, b, c => by
    have ih := at_tell1 h hf ht hne m (by omega)
    show at3 (wr3 _ t t m _) a b c = _
    have e1 : at3 (tell1 k f t m) t t m = at3 k t t m := (ih t t m).trans (if_neg (by omega))
    have e2 : at3 (tell1 k f t m) f f m = at3 k f f m := (ih f f m).trans (if_neg (by omega))
    rw [at_wr (tell1_shp h ht m) _ ht ht (by omega), e1, e2, ih a b c]
    by_cases h1 : t = a ∧ t = b ∧ m = c
    · obtain ⟨rfl, rfl, rfl⟩ := h1
      rw [if_pos ⟨rfl, rfl, rfl⟩, if_pos ⟨rfl, rfl, by omega⟩]
    · rw [if_neg h1]
      by_cases h2 : a = t ∧ b = t ∧ c < m
      · rw [if_pos h2, if_pos ⟨h2.1, h2.2.1, by omega⟩]
      · rw [if_neg h2, if_neg (by omega)]
theorem at_tellR {k : L3} {n : Nat} (h : Shp k n) {f t j : Nat} (hf : f < n) (ht : t < n) (hj : j < n) (hne : f ≠ t) : ∀ m, m ≤ n → ∀ a b c, at3 (tellR k f t j m) a b c = if a = t ∧ b = j ∧ c < m then max (at3 k t j c) (at3 k f j c) else at3 k a b c
  | 0, _, a, b, c => by rw [if_neg (by omega)]; rfl
  | m + 1, hm, a, b, c => by
    have ih := at_tellR h hf ht hj hne m (by omega)
    show at3 (wr3 _ t j m _) a b c = _
    have e1 : at3 (tellR k f t j m) t j m = at3 k t j m := (ih t j m).trans (if_neg (by omega))
    have e2 : at3 (tellR k f t j m) f j m = at3 k f j m := (ih f j m).trans (if_neg (by omega))
    rw [at_wr (tellR_shp h ht hj m) _ ht hj (by omega), e1, e2, ih a b c]
    by_cases h1 : t = a ∧ j = b ∧ m = c
    · obtain ⟨rfl, rfl, rfl⟩ := h1
      rw [if_pos ⟨rfl, rfl, rfl⟩, if_pos ⟨rfl, rfl, by omega⟩]
    · rw [if_neg h1]
      by_cases h2 : a = t ∧ b = j ∧ c < m
      · rw [if_pos h2, if_pos ⟨h2.1, h2.2.1, by omega⟩]
      · rw [if_neg h2, if_neg (by omega)]
theorem at_tellA {k : L3} {n : Nat} (h : Shp k n) {f t : Nat} (hf : f < n) (ht : t < n) (hne : f ≠ t) : ∀ j, j ≤ n → ∀ a b c, c < n → at3 (tellA k f t n j) a b c = if a = t ∧ b < j then max (at3 k t b c) (at3 k f b c) else at3 k a b c
  | 0, _, a, b, c, _ => by rw [if_neg (by omega)]; rfl
  | j + 1, hj, a, b, c, hc => by
    have ih := at_tellA h hf ht hne j (by omega)
    show at3 (tellR (tellA k f t n j) f t j n) a b c = _
    have e1 : at3 (tellA k f t n j) t j c = at3 k t j c := (ih t j c hc).trans (if_neg (by omega))
    have e2 : at3 (tellA k f t n j) f j c = at3 k f j c := (ih f j c hc).trans (if_neg (by omega))
    rw [at_tellR (tellA_shp h ht j (by omega)) hf ht (by omega) hne n (Nat.le_refl n), e1, e2, ih a b c hc]
    by_cases h1 : a = t ∧ b = j ∧ c < n
    · obtain ⟨rfl, rfl, _⟩ := h1
      rw [if_pos ⟨rfl, rfl, hc⟩, if_pos ⟨rfl, by omega⟩]
    · rw [if_neg h1]
      by_cases h2 : a = t ∧ b < j
      · rw [if_pos h2, if_pos ⟨h2.1, by omega⟩]
      · rw [if_neg h2, if_neg (by omega)]
/-- what one knows who was told -/
def told (k : L3) (f t b c : Nat) : Int := if b = t then max (max (at3 k t t c) (at3 k f f c)) (at3 k f t c) else max (at3 k t b c) (at3 k f b c)
theorem tell_at {kn : L3} {dn : List Int} (t : TbOk kn dn) {f g : Nat} (hf : f < kn.length) (hg : g < kn.length) (hne : f ≠ g) :
    tE kn dn (f : Int) (g : Int) = 0 ∧ Shp (tK kn dn (f : Int) (g : Int)) kn.length ∧ ∀ a b c, a < kn.length → b < kn.length → c < kn.length → at3 (tK kn dn (f : Int) (g : Int)) a b c = if a = g then told kn f g b c else at3 kn a b c := by
  rw [tE_eq, tK_eq]
  unfold tellF
  have i1 : inB (f : Int) 0 ((kn.length : Int) - 1) = true := inB_iff.2 (by omega)
  have i2 : inB (g : Int) 0 ((kn.length : Int) - 1) = true := inB_iff.2 (by omega)
  simp only
  rw [if_neg (by rw [i1, i2]; decide), if_neg (by omega), Int.toNat_natCast, Int.toNat_natCast]
  refine ⟨rfl, tellA_shp (tell1_shp t.sh hg _) hg _ (Nat.le_refl _), fun a b c ha hb hc => ?_⟩
  have h1 := at_tell1 t.sh hf hg hne kn.length (Nat.le_refl _)
  simp only
  rw [at_tellA (tell1_shp t.sh hg _) hf hg hne kn.length (Nat.le_refl _) a b c hc, h1 g b c, h1 f b c, h1 a b c]
  unfold told
  by_cases e1 : a = g
  · rw [if_pos ⟨e1, hb⟩, if_pos e1, if_neg (show ¬ (f = g ∧ b = g ∧ c < kn.length) by omega)]
    by_cases e2 : b = g
    · rw [if_pos ⟨rfl, e2, hc⟩, if_pos e2, e2]
    · rw [if_neg (show ¬ (g = g ∧ b = g ∧ c < kn.length) by omega), if_neg e2]
  · rw [if_neg (show ¬ (a = g ∧ b < kn.length) by omega), if_neg (show ¬ (a = g ∧ b = g ∧ c < kn.length) by omega), if_neg e1]
theorem told_ge (k : L3) (f t b c : Nat) : at3 k t b c ≤ told k f t b c := by
  unfold told
  split
  · rename_i h; subst h; omega
  · omega
theorem tell_other {kn : L3} {dn : List Int} {f g : Int} (h : ¬ (0 ≤ f ∧ f < (kn.length : Int) ∧ 0 ≤ g ∧ g < (kn.length : Int) ∧ f ≠ g)) : tK kn dn f g = kn := by
  rw [tK_eq]; unfold tellF
  by_cases h1 : (inB f 0 ((kn.length : Int) - 1) && inB g 0 ((kn.length : Int) - 1)) = false
  · rw [if_pos h1]
  · rw [if_neg h1]
    have h2 : (inB f 0 ((kn.length : Int) - 1) && inB g 0 ((kn.length : Int) - 1)) = true := by simpa using h1
    rw [Bool.and_eq_true] at h2
    have i1 := inB_iff.1 h2.1
    have i2 := inB_iff.1 h2.2
    rw [if_pos (by omega)]
/-- Telling keeps a table, and nobody forgets. -/
theorem tell_ok {kn : L3} {dn : List Int} (t : TbOk kn dn) (f g : Int) : TbOk (tK kn dn f g) dn ∧ (tK kn dn f g).length = kn.length ∧ (∀ a b c, a < kn.length → b < kn.length → c < kn.length → at3 kn a b c ≤ at3 (tK kn dn f g) a b c) ∧
    (Snd kn kn.length → Snd (tK kn dn f g) kn.length) := by
  by_cases h : 0 ≤ f ∧ f < (kn.length : Int) ∧ 0 ≤ g ∧ g < (kn.length : Int) ∧ f ≠ g
  · obtain ⟨F, rfl⟩ := Int.eq_ofNat_of_zero_le h.1
    obtain ⟨G, rfl⟩ := Int.eq_ofNat_of_zero_le h.2.2.1
    have hF : F < kn.length := by omega
    have hG : G < kn.length := by omega
    obtain ⟨-, sh, hat⟩ := tell_at t hF hG (by omega)
    have hl := sh.a
    have hge : ∀ a b c, a < kn.length → b < kn.length → c < kn.length → at3 kn a b c ≤ at3 (tK kn dn (F : Int) (G : Int)) a b c := by
      intro a b c ha hb hc
      rw [hat a b c ha hb hc]
      split
      · rename_i e; subst e; exact told_ge kn F a b c
      · exact Int.le_refl _
    have hv : ∀ b c, b < kn.length → c < kn.length → 0 ≤ told kn F G b c ∧ told kn F G b c ≤ dn.getD c 0 := by
      intro b c hb hc
      have v1 := t.v G G c hG hG hc
      have v2 := t.v F F c hF hF hc
      have v3 := t.v F G c hF hG hc
      have v4 := t.v G b c hG hb hc
      have v5 := t.v F b c hF hb hc
      unfold told
      split <;> omega
    refine ⟨⟨by rw [hl]; exact t.n1, by rw [hl]; exact t.n5, by rw [hl]; exact sh, by rw [hl]; exact t.dl, fun a b c ha hb hc => ?_, fun c hc => t.d c (by omega), fun c hc => ?_⟩, hl, hge, fun s a b c ha hb hc => ?_⟩
    · rw [hl] at ha hb hc
      rw [hat a b c ha hb hc]
      split
      · exact hv b c hb hc
      · exact t.v a b c ha hb hc
    · rw [hl] at hc
      have e := t.e c hc
      rw [hat c c c hc hc hc]
      split
      · rename_i ec
        have h1 := told_ge kn F G c c
        have h2 := hv c c hc hc
        rw [← ec] at h1 h2 ⊢
        omega
      · exact e
    · rw [hat a b c ha hb hc]
      split
      · rename_i ea
        subst ea
        by_cases eb : b = a
        · subst eb
          rw [hat b b c hb hb hc, if_pos rfl]; exact Int.le_refl _
        · have h1 : told kn F a b c = max (at3 kn a b c) (at3 kn F b c) := by unfold told; rw [if_neg eb]
          rw [h1, hat b b c hb hb hc, if_neg eb]
          have := s a b c ha hb hc
          have := s F b c hF hb hc
          omega
      · have := s a b c ha hb hc
        have := hge b b c hb hb hc
        omega
  · rw [tell_other h]
    exact ⟨t, rfl, fun _ _ _ _ _ _ => Int.le_refl _, fun s => s⟩
theorem getD_setI (l : List Int) (i j : Nat) (v : Int) (hi : i < l.length) : (l.set i v).getD j 0 = if i = j then v else l.getD j 0 := getD_set l i j v 0 hi
/-- Writing keeps a table. -/
theorem write_ok {kn : L3} {dn : List Int} (t : TbOk kn dn) (p : Int) : TbOk (wK kn dn p) (wD kn dn p) ∧ (wK kn dn p).length = kn.length ∧ (∀ a b c, a < kn.length → b < kn.length → c < kn.length → at3 kn a b c ≤ at3 (wK kn dn p) a b c) ∧
    (Snd kn kn.length → Snd (wK kn dn p) kn.length) ∧ (wE kn dn p = 0 → 0 ≤ p ∧ p < (kn.length : Int) ∧ wD kn dn p = dn.set p.toNat (dn.getD p.toNat 0 + 1)) ∧ (wE kn dn p ≠ 0 → wK kn dn p = kn ∧ wD kn dn p = dn) := by
  rw [wK_eq, wD_eq, wE_eq]
  unfold writeF
  simp only
  by_cases h : inB p 0 ((kn.length : Int) - 1) = false
  · rw [if_pos h]
    exact ⟨t, rfl, fun _ _ _ _ _ _ => Int.le_refl _, fun s => s, fun h => absurd (show (1 : Int) = 0 from h) (by decide), fun _ => ⟨rfl, rfl⟩⟩
  rw [if_neg h]
  by_cases h2 : dn.getD p.toNat 0 = 60
  · rw [if_pos h2]
    exact ⟨t, rfl, fun _ _ _ _ _ _ => Int.le_refl _, fun s => s, fun h => absurd (show (4 : Int) = 0 from h) (by decide), fun _ => ⟨rfl, rfl⟩⟩
  rw [if_neg h2]
  have hp := inB_iff.1 (show inB p 0 ((kn.length : Int) - 1) = true by simpa using h)
  have hP : p.toNat < kn.length := by omega
  have hD : p.toNat < dn.length := by rw [t.dl]; exact hP
  have sh := wr_shp t.sh p.toNat p.toNat p.toNat (at3 kn p.toNat p.toNat p.toNat + 1) hP hP
  have hat := fun a b c => at_wr t.sh (a := p.toNat) (b := p.toNat) (c := p.toNat) (at3 kn p.toNat p.toNat p.toNat + 1) hP hP hP a b c
  have hdn := fun j => getD_setI dn p.toNat j (dn.getD p.toNat 0 + 1) hD
  have hd := t.d p.toNat hP
  have he := t.e p.toNat hP
  have hge : ∀ a b c, a < kn.length → b < kn.length → c < kn.length → at3 kn a b c ≤ at3 (wr3 kn p.toNat p.toNat p.toNat (at3 kn p.toNat p.toNat p.toNat + 1)) a b c := by
    intro a b c _ _ _
    rw [hat a b c]
    split
    · rename_i e; obtain ⟨rfl, rfl, e3⟩ := e; rw [← e3]; omega
    · exact Int.le_refl _
  simp only
  refine ⟨⟨by rw [sh.a]; exact t.n1, by rw [sh.a]; exact t.n5, by rw [sh.a]; exact sh, by rw [sh.a, List.length_set]; exact t.dl, fun a b c ha hb hc => ?_, fun c hc => ?_, fun c hc => ?_⟩, sh.a, hge, fun s a b c ha hb hc => ?_, fun _ => ⟨hp.1, by omega, trivial⟩, fun h => absurd rfl h⟩
  · rw [sh.a] at ha hb hc
    have v := t.v a b c ha hb hc
    rw [hat a b c, hdn c]
    split
    · rename_i e
      have vp := t.v p.toNat p.toNat p.toNat hP hP hP
      rw [if_pos e.2.2]; omega
    · split
      · rename_i e; rw [← e] at v ⊢; omega
      · exact v
  · rw [sh.a] at hc
    have v := t.d c hc
    rw [hdn c]
    split <;> omega
  · rw [sh.a] at hc
    rw [hat c c c, hdn c]
    by_cases e : p.toNat = c
    · rw [if_pos ⟨e, e, e⟩, if_pos e, he]
    · rw [if_neg (fun h => e h.1), if_neg e]; exact t.e c hc
  · rw [hat a b c, hat b b c]
    have v := s a b c ha hb hc
    split
    · rename_i e; rw [if_pos ⟨e.2.1, e.2.1, e.2.2⟩]; exact Int.le_refl _
    · split
      · rename_i e; obtain ⟨rfl, _, e3⟩ := e; rw [← e3] at v ⊢; omega
      · exact v
theorem min_le {l : List Int} {x : Int} (h : x ∈ l) : minL l ≤ x := by
  have key : ∀ (r : List Int) (a : Int), r.foldl min a ≤ a ∧ ∀ y ∈ r, r.foldl min a ≤ y := by
    intro r
    induction r with
    | nil => intro a; exact ⟨Int.le_refl _, fun y hy => by cases hy⟩
    | cons z r ih =>
      intro a
      obtain ⟨h1, h2⟩ := ih (min a z)
      refine ⟨by show r.foldl min (min a z) ≤ a; omega, fun y hy => ?_⟩
      show r.foldl min (min a z) ≤ y
      rcases List.mem_cons.1 hy with rfl | hy
      · omega
      · exact h2 y hy
  cases l with
  | nil => cases h
  | cons z r =>
    show r.foldl min z ≤ x
    rcases List.mem_cons.1 h with rfl | h
    · exact (key r x).1
    · exact (key r z).2 x h
theorem min_mem {l : List Int} (h : l ≠ []) : minL l ∈ l := by
  have key : ∀ (r : List Int) (a : Int), r.foldl min a = a ∨ r.foldl min a ∈ r := by
    intro r
    induction r with
    | nil => intro a; exact .inl rfl
    | cons z r ih =>
      intro a
      show r.foldl min (min a z) = a ∨ r.foldl min (min a z) ∈ z :: r
      rcases ih (min a z) with h | h
      · rw [h]
        by_cases hz : a ≤ z
        · left; omega
        · right; have : min a z = z := by omega
          rw [this]; exact List.mem_cons_self ..
      · exact .inr (List.mem_cons_of_mem _ h)
  cases l with
  | nil => exact absurd rfl h
  | cons z r =>
    show r.foldl min z ∈ z :: r
    rcases key r z with h | h
    · rw [h]; exact List.mem_cons_self ..
    · exact List.mem_cons_of_mem _ h
theorem know_at (k : L3) (a b c : Nat) (ha : a < k.length) (hb : b < k.length) (hc : c < k.length) : knowX k (a : Int) (b : Int) (c : Int) = at3 k a b c := by
  rw [knowX_eq]; unfold knowF
  rw [if_pos (by rw [inB_iff.2 (by omega), inB_iff.2 (by omega), inB_iff.2 (by omega)]; rfl)]
  simp only [Int.toNat_natCast]
theorem stab_at (k : L3) (a c : Nat) (ha : a < k.length) (hc : c < k.length) : stabX k (a : Int) (c : Int) = minL (colF k a c k.length) := by
  rw [stabX_eq]; unfold stabF
  rw [if_pos (by rw [inB_iff.2 (by omega), inB_iff.2 (by omega)]; rfl)]
  simp only [Int.toNat_natCast]
theorem stab_le (k : L3) (a b c : Nat) (ha : a < k.length) (hb : b < k.length) (hc : c < k.length) : stabX k (a : Int) (c : Int) ≤ at3 k a b c := by
  rw [stab_at k a c ha hc]
  exact min_le (List.mem_map.2 ⟨b, List.mem_range.2 hb, rfl⟩)
theorem stab_all (k : L3) (a c : Nat) (ha : a < k.length) (hc : c < k.length) (v : Int) (h : ∀ b, b < k.length → at3 k a b c = v) : stabX k (a : Int) (c : Int) = v := by
  rw [stab_at k a c ha hc]
  have hm := min_mem (l := colF k a c k.length) (fun h0 => by
    have := congrArg List.length h0
    simp only [colF, List.length_map, List.length_range, List.length_nil] at this; omega)
  obtain ⟨b, hb, e⟩ := List.mem_map.1 hm
  rw [← e]; exact h b (List.mem_range.1 hb)
end Go.Proofs.YtjgdpblaghhfhaaDoor.T

/- Tables of who knows what who knows: the law that the program does what the reference does. -/
namespace Go.Proofs.YtjgdpblaghhfhaaDoor.T
open Go.Vc
def newY (n : Int) : Xt := newX n
def wrY (x : Xt) (p : Int) : Xt × Int := wrX x p
def tlY (x : Xt) (f t : Int) : Xt × Int := tlX x f t
theorem newY_eq (n : Int) : newY n = newX n := rfl
theorem wrY_eq (x : Xt) (p : Int) : wrY x p = wrX x p := rfl
theorem tlY_eq (x : Xt) (f t : Int) : tlY x f t = tlX x f t := rfl
def cNewY : Ctr := cdet [I] (fun (n : Int) => 0 ≤ n ∧ n ≤ 5) (fun (n : Int) => [⟨tX, newY n⟩])
def cWrY : Ctr := cdet [tX, I] (fun (x : Xt) (_ : Int) => XOk x) (fun (x : Xt) (p : Int) => [⟨tX, (wrY x p).1⟩, ⟨I, (wrY x p).2⟩])
def cTlY : Ctr := cdet [tX, I, I] (fun (x : Xt) (_ _ : Int) => XOk x) (fun (x : Xt) (f t : Int) => [⟨tX, (tlY x f t).1⟩, ⟨I, (tlY x f t).2⟩])
theorem okNewY : PlainOk Tryd.prog glK 14 cNewY := okNewX
theorem okWrY : PlainOk Tryd.prog glK 15 cWrY := okWrX
theorem okTlY : PlainOk Tryd.prog glK 17 cTlY := okTlX
attribute [irreducible] newY wrY tlY
def Ey : Env := { tys := [(3, I), (4, .bool), (25, tErr), (29, .sl I), (41, .sl (.sl I)), (42, .ptr tTab), (80, .sl (.sl (.sl I))), (82, tTab), (46, tX)], errT := 76, eqs := [], els := [(29, 3), (41, 29), (80, 41)], pb := [82] }
theorem Ey_ok : EnvOk Tryd.prog Ey := EnvOk.of_list (by kernel_rfl) (by kernel_rfl) (by kernel_rfl)
/-- a table, and the reference's -/
structure RT (n : Nat) (kn : L3) (dn : List Int) (x : Xt) : Prop where
  ok : TbOk kn dn
  ln : kn.length = n
  nx : x.1 = (n : Int)
  kl : x.2.1.length = n * n * n
  k : ∀ a b c, a < n → b < n → c < n → x.2.1.getD ((a * n + b) * n + c) 0 = at3 kn a b c
  d : x.2.2.1 = dn
/-- the least that one knows all know -/
def lstF (kn : L3) (a c : Nat) : Nat → Int
  | 0 => at3 kn a 0 c
  | b + 1 => if at3 kn a b c < lstF kn a c b then at3 kn a b c else lstF kn a c b
def knOf3 (st : St) (k : L3 → Prop) : Prop :=
  match st.ob.getD 1 .dead with
  | .trow _ (.sl _ (.sl _ (.d (.int .i64)))) kn => k kn
  | _ => False
def anPlays (n : Int) (l : List (List Int)) : Ann :=
  [joinAll,
   loopAt 8 (Nat × L3 × List Int × Xt) [] (fun st x => { St.at (St.only st [0, 1, 5, 7]) [(8, .d I (x.1 : Int))] with ob := tob x.2.1 x.2.2.1 ++ [.var 46 tX x.2.2.2] }) (fun _ x => (x.1 ≤ l.length ∧ x.1 ≤ 80) ∧ RT n.toNat x.2.1 x.2.2.1 x.2.2.2) (fun x => l.length - x.1),
   meetAt 20 (L3 × List Int × Xt × Int) [] (fun st x => { St.at (St.only st [0, 1, 5, 7, 8]) [(11, .d I x.2.2.2), (12, .d tErr x.2.2.2)] with ob := tob x.1 x.2.1 ++ [.var 46 tX x.2.2.1] }) (fun _ x => RT n.toNat x.1 x.2.1 x.2.2.1 ∧ inK .i64 x.2.2.2),
   loopAt 23 Nat [] (fun st x => St.at (St.only st [0, 1, 5, 7, 8]) [(13, .d I (x : Int))]) (fun _ x => (x : Int) ≤ n ∧ True) (fun x => n.toNat - x),
   loopAt 26 Nat [] (fun st x => St.at (St.only st [0, 1, 5, 7, 8, 13]) [(14, .d I (x : Int))]) (fun _ x => (x : Int) ≤ n ∧ True) (fun x => n.toNat - x),
   loopAt 30 (Nat × Int) [] (fun st x => St.at (St.only st [0, 1, 5, 7, 8, 13, 14]) [(15, .d I x.2), (16, .d I (x.1 : Int))]) (fun st x => (x.1 : Int) ≤ n ∧ knOf3 st fun kn => x.2 = lstF kn (st.i 13).toNat (st.i 14).toNat x.1) (fun x => n.toNat - x.1)]
end Go.Proofs.YtjgdpblaghhfhaaDoor.T

/- What the functions of this seat have to satisfy, by program: each verification condition in plain words. -/
namespace Go.Proofs.YtjgdpblaghhfhaaDoor
open Go.Vc Go.Proofs.YtjgdpblaghhfhaaDoor.T
set_option linter.unusedVariables false
theorem vcPlays (n : Int) (l : List (List Int)) (k : List Dat → Prop) : vcF ⟨Ey, [(7, cError), (19, cKnowsX), (20, cStableX), (14, cNewY), (15, cWrY), (17, cTlY)], glK, [], [(13, oNew), (16, oWriteX), (18, oTellX)]⟩ (anPlays n l) (Tryd.f4.body.getD .skip) Tryd.f4.ntmps [(.tmp 4, .bool)] [⟨I, n⟩, ⟨.sl (.sl I), l⟩] k = (
  (inB n (1 : Int) (5 : Int) = true → (decide (n < (1 : Int)) = true → (inK IntKind.i64 (0 : Int) ∧ True) ∧ k [Dat.mk Ty.bool (decide ((0 : Int) = (1 : Int)))]) ∧ (decide (n < (1 : Int)) = false → (decide ((5 : Int) < n) = true → (inK IntKind.i64 (0 : Int) ∧ True) ∧ k [Dat.mk Ty.bool (decide ((0 : Int) = (1 : Int)))]) ∧ (decide ((5 : Int) < n) = false → ((!decide ((0 : Int) = (0 : Int))) = true → k [Dat.mk Ty.bool false]) ∧ ((!decide ((0 : Int) = (0 : Int))) = false → ((0 : Int) ≤ n ∧ n ≤ (5 : Int)) ∧ (∃ (x : Nat × L3 × List Int × Xt), ((x.fst ≤ l.length ∧ x.fst ≤ (80 : Nat)) ∧ RT n.toNat x.snd.fst x.snd.snd.fst x.snd.snd.snd) ∧ (n = n ∧ l = l ∧ True ∧ ([] : List Nat) = [] ∧ (0 : Int) = (↑x.fst : Int) ∧ True) ∧ ((True ∧ True ∧ True) ∧ newK n.toNat = x.snd.fst ∧ ((3 : Nat) = (3 : Nat) ∧ List.replicate n.toNat (0 : Int) = x.snd.snd.fst) ∧ ((46 : Nat) = (46 : Nat) ∧ newY n = x.snd.snd.snd) ∧ True) ∧ hdE = hdE ∧ True) ∧ ∀ (x : Nat × L3 × List Int × Xt), (x.fst ≤ l.length ∧ x.fst ≤ (80 : Nat)) ∧ RT n.toNat x.snd.fst x.snd.snd.fst x.snd.snd.snd → (decide ((↑x.fst : Int) < (↑l.length : Int)) = true → (decide ((↑x.fst : Int) < (80 : Int)) = true → (0 : Int) ≤ (↑x.fst : Int) ∧ (↑x.fst : Int) < (↑l.length : Int) ∧ (decide ((↑(l.getD (↑x.fst : Int).toNat []).length : Int) < (2 : Int)) = true → inK IntKind.i64 ((↑x.fst : Int) + (1 : Int)) ∧ ∃ (x_1 : Nat × L3 × List Int × Xt), ((x_1.fst ≤ l.length ∧ x_1.fst ≤ (80 : Nat)) ∧ RT n.toNat x_1.snd.fst x_1.snd.snd.fst x_1.snd.snd.snd) ∧ l.length - x_1.fst < l.length - x.fst ∧ (n = n ∧ l = l ∧ True ∧ ([] : List Nat) = [] ∧ (↑x.fst : Int) + (1 : Int) = (↑x_1.fst : Int) ∧ True) ∧ ((True ∧ True ∧ True) ∧ x.snd.fst = x_1.snd.fst ∧ ((3 : Nat) = (3 : Nat) ∧ x.snd.snd.fst = x_1.snd.snd.fst) ∧ ((46 : Nat) = (46 : Nat) ∧ x.snd.snd.snd = x_1.snd.snd.snd) ∧ True) ∧ hdE = hdE ∧ True) ∧ (decide ((↑(l.getD (↑x.fst : Int).toNat []).length : Int) < (2 : Int)) = false → (0 : Int) ≤ (↑x.fst : Int) ∧ (↑x.fst : Int) < (↑l.length : Int) ∧ (0 : Int) ≤ (0 : Int) ∧ (0 : Int) < (↑(l.getD (↑x.fst : Int).toNat []).length : Int) ∧ (0 : Int) ≤ (↑x.fst : Int) ∧ (↑x.fst : Int) < (↑l.length : Int) ∧ (0 : Int) ≤ (1 : Int) ∧ (1 : Int) < (↑(l.getD (↑x.fst : Int).toNat []).length : Int) ∧ ((decide ((l.getD (↑x.fst : Int).toNat []).getD (Int.toNat (1 : Int)) (0 : Int) = (9 : Int)) = true → XOk x.snd.snd.snd ∧ TbOk x.snd.fst x.snd.snd.fst ∧ ∃ (x_1 : L3 × List Int × Xt × Int), (RT n.toNat x_1.fst x_1.snd.fst x_1.snd.snd.fst ∧ inK IntKind.i64 x_1.snd.snd.snd) ∧ (n = n ∧ l = l ∧ True ∧ ([] : List Nat) = [] ∧ (↑x.fst : Int) = (↑x.fst : Int) ∧ (wrY x.snd.snd.snd ((l.getD (↑x.fst : Int).toNat []).getD (Int.toNat (0 : Int)) (0 : Int))).snd = x_1.snd.snd.snd ∧ wE x.snd.fst x.snd.snd.fst ((l.getD (↑x.fst : Int).toNat []).getD (Int.toNat (0 : Int)) (0 : Int)) = x_1.snd.snd.snd ∧ True) ∧ ((True ∧ True ∧ True) ∧ wK x.snd.fst x.snd.snd.fst ((l.getD (↑x.fst : Int).toNat []).getD (Int.toNat (0 : Int)) (0 : Int)) = x_1.fst ∧ ((3 : Nat) = (3 : Nat) ∧ wD x.snd.fst x.snd.snd.fst ((l.getD (↑x.fst : Int).toNat []).getD (Int.toNat (0 : Int)) (0 : Int)) = x_1.snd.fst) ∧ ((46 : Nat) = (46 : Nat) ∧ (wrY x.snd.snd.snd ((l.getD (↑x.fst : Int).toNat []).getD (Int.toNat (0 : Int)) (0 : Int))).fst = x_1.snd.snd.fst) ∧ True) ∧ hdE = hdE ∧ True) ∧ (decide ((l.getD (↑x.fst : Int).toNat []).getD (Int.toNat (1 : Int)) (0 : Int) = (9 : Int)) = false → XOk x.snd.snd.snd ∧ TbOk x.snd.fst x.snd.snd.fst ∧ ∃ (x_1 : L3 × List Int × Xt × Int), (RT n.toNat x_1.fst x_1.snd.fst x_1.snd.snd.fst ∧ inK IntKind.i64 x_1.snd.snd.snd) ∧ (n = n ∧ l = l ∧ True ∧ ([] : List Nat) = [] ∧ (↑x.fst : Int) = (↑x.fst : Int) ∧ (tlY x.snd.snd.snd ((l.getD (↑x.fst : Int).toNat []).getD (Int.toNat (0 : Int)) (0 : Int)) ((l.getD (↑x.fst : Int).toNat []).getD (Int.toNat (1 : Int)) (0 : Int))).snd = x_1.snd.snd.snd ∧ tE x.snd.fst x.snd.snd.fst ((l.getD (↑x.fst : Int).toNat []).getD (Int.toNat (0 : Int)) (0 : Int)) ((l.getD (↑x.fst : Int).toNat []).getD (Int.toNat (1 : Int)) (0 : Int)) = x_1.snd.snd.snd ∧ True) ∧ ((True ∧ True ∧ True) ∧ tK x.snd.fst x.snd.snd.fst ((l.getD (↑x.fst : Int).toNat []).getD (Int.toNat (0 : Int)) (0 : Int)) ((l.getD (↑x.fst : Int).toNat []).getD (Int.toNat (1 : Int)) (0 : Int)) = x_1.fst ∧ ((3 : Nat) = (3 : Nat) ∧ x.snd.snd.fst = x_1.snd.fst) ∧ ((46 : Nat) = (46 : Nat) ∧ (tlY x.snd.snd.snd ((l.getD (↑x.fst : Int).toNat []).getD (Int.toNat (0 : Int)) (0 : Int)) ((l.getD (↑x.fst : Int).toNat []).getD (Int.toNat (1 : Int)) (0 : Int))).fst = x_1.snd.snd.fst) ∧ True) ∧ hdE = hdE ∧ True)) ∧ ∀ (x_1 : L3 × List Int × Xt × Int), RT n.toNat x_1.fst x_1.snd.fst x_1.snd.snd.fst ∧ inK IntKind.i64 x_1.snd.snd.snd → (inK IntKind.i64 x_1.snd.snd.snd ∧ True) ∧ ((!decide (x_1.snd.snd.snd = x_1.snd.snd.snd)) = true → k [Dat.mk Ty.bool false]) ∧ ((!decide (x_1.snd.snd.snd = x_1.snd.snd.snd)) = false → (∃ (x_2 : Nat), ((↑x_2 : Int) ≤ n ∧ True) ∧ (n = n ∧ l = l ∧ True ∧ ([] : List Nat) = [] ∧ (↑x.fst : Int) = (↑x.fst : Int) ∧ (0 : Int) = (↑x_2 : Int) ∧ True) ∧ ((True ∧ True ∧ True) ∧ x_1.fst = x_1.fst ∧ ((3 : Nat) = (3 : Nat) ∧ x_1.snd.fst = x_1.snd.fst) ∧ ((46 : Nat) = (46 : Nat) ∧ x_1.snd.snd.fst = x_1.snd.snd.fst) ∧ True) ∧ hdE = hdE ∧ True) ∧ ∀ (x_2 : Nat), (↑x_2 : Int) ≤ n ∧ True → (decide ((↑x_2 : Int) < n) = true → (∃ (x_3 : Nat), ((↑x_3 : Int) ≤ n ∧ True) ∧ (n = n ∧ l = l ∧ True ∧ ([] : List Nat) = [] ∧ (↑x.fst : Int) = (↑x.fst : Int) ∧ (↑x_2 : Int) = (↑x_2 : Int) ∧ (0 : Int) = (↑x_3 : Int) ∧ True) ∧ ((True ∧ True ∧ True) ∧ x_1.fst = x_1.fst ∧ ((3 : Nat) = (3 : Nat) ∧ x_1.snd.fst = x_1.snd.fst) ∧ ((46 : Nat) = (46 : Nat) ∧ x_1.snd.snd.fst = x_1.snd.snd.fst) ∧ True) ∧ hdE = hdE ∧ True) ∧ ∀ (x_3 : Nat), (↑x_3 : Int) ≤ n ∧ True → (decide ((↑x_3 : Int) < n) = true → inK IntKind.i64 ((↑x_2 : Int) * n) ∧ inK IntKind.i64 ((↑x_2 : Int) * n * n) ∧ inK IntKind.i64 ((↑x_2 : Int) * n * n + (↑x_3 : Int)) ∧ (0 : Int) ≤ (↑x_2 : Int) * n * n + (↑x_3 : Int) ∧ (↑x_2 : Int) * n * n + (↑x_3 : Int) < (↑(List.length x_1.snd.snd.fst.snd.fst) : Int) ∧ (∃ (x_4 : Nat × Int), ((↑x_4.fst : Int) ≤ n ∧ knOf3 (St.mk [SV.d (I) n, SV.d (I).sl.sl l, SV.any, SV.any, SV.any, SV.ps (0 : Nat), SV.any, SV.pv ((I).pr ((I).sl.pr ((I).sl.pr Ty.un))) (3 : Nat) [], SV.d (I) (↑x.fst : Int), SV.any, SV.any, SV.any, SV.any, SV.d (I) (↑x_2 : Int), SV.d (I) (↑x_3 : Int), SV.d (I) (List.getD x_1.snd.snd.fst.snd.fst ((↑x_2 : Int) * n * n + (↑x_3 : Int)).toNat (0 : Int)), SV.d (I) (0 : Int), SV.any, SV.any, SV.any, SV.any, SV.any, SV.any, SV.any, SV.any, SV.any, SV.any, SV.any, SV.any, SV.any, SV.any, SV.any, SV.any, SV.any, SV.any, SV.any, SV.any, SV.any, SV.any, SV.any, SV.any, SV.any, SV.any, SV.any, SV.any, SV.any, SV.any, SV.any, SV.any, SV.any, SV.any, SV.any, SV.any, SV.any, SV.any, SV.any, SV.any, SV.any, SV.any, SV.any, SV.any, SV.any, SV.any, SV.any, SV.any, SV.any, SV.any, SV.any, SV.any, SV.any, SV.any, SV.any, SV.any, SV.any, SV.any, SV.any, SV.any, SV.any, SV.any, SV.any, SV.any, SV.any, SV.any, SV.any, SV.any, SV.any, SV.any, SV.any, SV.any, SV.any, SV.any, SV.any, SV.any, SV.any, SV.d (I) (↑x_3 : Int), SV.d (I) n, SV.d Ty.bool (decide ((↑x_3 : Int) < n)), SV.any, SV.any, SV.pv ((I).pr ((I).sl.pr ((I).sl.pr Ty.un))) (3 : Nat) ([] ++ [(1 : Nat)]), SV.d (I).sl x_1.snd.snd.fst.snd.fst, SV.d (I) (↑x_2 : Int), SV.d (I) n, SV.d (I) ((↑x_2 : Int) * n), SV.d (I) n, SV.d (I) ((↑x_2 : Int) * n * n), SV.d (I) (↑x_3 : Int), SV.d (I) ((↑x_2 : Int) * n * n + (↑x_3 : Int)), SV.ra (I) (List.getD x_1.snd.snd.fst.snd.fst ((↑x_2 : Int) * n * n + (↑x_3 : Int)).toNat (0 : Int)), SV.d (I) (List.getD x_1.snd.snd.fst.snd.fst ((↑x_2 : Int) * n * n + (↑x_3 : Int)).toNat (0 : Int)), SV.any, SV.any, SV.any, SV.any, SV.any, SV.any, SV.any, SV.any, SV.any, SV.any, SV.any, SV.any, SV.any, SV.any, SV.any, SV.any, SV.any, SV.any, SV.any, SV.any, SV.any, SV.any, SV.any, SV.any, SV.any, SV.any, SV.any, SV.any, SV.any, SV.any, SV.any, SV.any, SV.any, SV.any, SV.any, SV.any, SV.any, SV.any, SV.any, SV.any, SV.any, SV.any, SV.any, SV.any, SV.any, SV.any, SV.any, SV.any, SV.any, SV.any, SV.any, SV.any, SV.any, SV.any, SV.any, SV.any, SV.any, SV.any, SV.any, SV.any, SV.any] [Ob.st (82 : Nat) [SV.os (1 : Nat), SV.os (2 : Nat)], Ob.trow (41 : Nat) (Ot.sl (29 : Nat) (Ot.sl (3 : Nat) (Ot.d (I)))) x_1.fst, Ob.row (3 : Nat) (I) x_1.snd.fst, Ob.var (46 : Nat) ((I).pr ((I).sl.pr ((I).sl.pr Ty.un))) x_1.snd.snd.fst] [(GK.glob (0 : Nat), SV.ra Ty.raw hdE)]) fun (kn : L3) => x_4.snd = lstF kn (↑x_2 : Int).toNat (↑x_3 : Int).toNat x_4.fst) ∧ (n = n ∧ l = l ∧ True ∧ ([] : List Nat) = [] ∧ (↑x.fst : Int) = (↑x.fst : Int) ∧ (↑x_2 : Int) = (↑x_2 : Int) ∧ (↑x_3 : Int) = (↑x_3 : Int) ∧ List.getD x_1.snd.snd.fst.snd.fst ((↑x_2 : Int) * n * n + (↑x_3 : Int)).toNat (0 : Int) = x_4.snd ∧ (0 : Int) = (↑x_4.fst : Int) ∧ True) ∧ ((True ∧ True ∧ True) ∧ x_1.fst = x_1.fst ∧ ((3 : Nat) = (3 : Nat) ∧ x_1.snd.fst = x_1.snd.fst) ∧ ((46 : Nat) = (46 : Nat) ∧ x_1.snd.snd.fst = x_1.snd.snd.fst) ∧ True) ∧ hdE = hdE ∧ True) ∧ ∀ (x_4 : Nat × Int), ((↑x_4.fst : Int) ≤ n ∧ knOf3 (St.mk [SV.d (I) n, SV.d (I).sl.sl l, SV.any, SV.any, SV.any, SV.ps (0 : Nat), SV.any, SV.pv ((I).pr ((I).sl.pr ((I).sl.pr Ty.un))) (3 : Nat) [], SV.d (I) (↑x.fst : Int), SV.any, SV.any, SV.any, SV.any, SV.d (I) (↑x_2 : Int), SV.d (I) (↑x_3 : Int), SV.d (I) (List.getD x_1.snd.snd.fst.snd.fst ((↑x_2 : Int) * n * n + (↑x_3 : Int)).toNat (0 : Int)), SV.d (I) (0 : Int), SV.any, SV.any, SV.any, SV.any, SV.any, SV.any, SV.any, SV.any, SV.any, SV.any, SV.any, SV.any, SV.any, SV.any, SV.any, SV.any, SV.any, SV.any, SV.any, SV.any, SV.any, SV.any, SV.any, SV.any, SV.any, SV.any, SV.any, SV.any, SV.any, SV.any, SV.any, SV.any, SV.any, SV.any, SV.any, SV.any, SV.any, SV.any, SV.any, SV.any, SV.any, SV.any, SV.any, SV.any, SV.any, SV.any, SV.any, SV.any, SV.any, SV.any, SV.any, SV.any, SV.any, SV.any, SV.any, SV.any, SV.any, SV.any, SV.any, SV.any, SV.any, SV.any, SV.any, SV.any, SV.any, SV.any, SV.any, SV.any, SV.any, SV.any, SV.any, SV.any, SV.any, SV.any, SV.any, SV.any, SV.any, SV.d (I) (↑x_3 : Int), SV.d (I) n, SV.d Ty.bool (decide ((↑x_3 : Int) < n)), SV.any, SV.any, SV.pv ((I).pr ((I).sl.pr ((I).sl.pr Ty.un))) (3 : Nat) ([] ++ [(1 : Nat)]), SV.d (I).sl x_1.snd.snd.fst.snd.fst, SV.d (I) (↑x_2 : Int), SV.d (I) n, SV.d (I) ((↑x_2 : Int) * n), SV.d (I) n, SV.d (I) ((↑x_2 : Int) * n * n), SV.d (I) (↑x_3 : Int), SV.d (I) ((↑x_2 : Int) * n * n + (↑x_3 : Int)), SV.ra (I) (List.getD x_1.snd.snd.fst.snd.fst ((↑x_2 : Int) * n * n + (↑x_3 : Int)).toNat (0 : Int)), SV.d (I) (List.getD x_1.snd.snd.fst.snd.fst ((↑x_2 : Int) * n * n + (↑x_3 : Int)).toNat (0 : Int)), SV.any, SV.any, SV.any, SV.any, SV.any, SV.any, SV.any, SV.any, SV.any, SV.any, SV.any, SV.any, SV.any, SV.any, SV.any, SV.any, SV.any, SV.any, SV.any, SV.any, SV.any, SV.any, SV.any, SV.any, SV.any, SV.any, SV.any, SV.any, SV.any, SV.any, SV.any, SV.any, SV.any, SV.any, SV.any, SV.any, SV.any, SV.any, SV.any, SV.any, SV.any, SV.any, SV.any, SV.any, SV.any, SV.any, SV.any, SV.any, SV.any, SV.any, SV.any, SV.any, SV.any, SV.any, SV.any, SV.any, SV.any, SV.any, SV.any, SV.any, SV.any] [Ob.st (82 : Nat) [SV.os (1 : Nat), SV.os (2 : Nat)], Ob.trow (41 : Nat) (Ot.sl (29 : Nat) (Ot.sl (3 : Nat) (Ot.d (I)))) x_1.fst, Ob.row (3 : Nat) (I) x_1.snd.fst, Ob.var (46 : Nat) ((I).pr ((I).sl.pr ((I).sl.pr Ty.un))) x_1.snd.snd.fst] [(GK.glob (0 : Nat), SV.ra Ty.raw hdE)]) fun (kn : L3) => x_4.snd = lstF kn (↑x_2 : Int).toNat (↑x_3 : Int).toNat x_4.fst) → (decide ((↑x_4.fst : Int) < n) = true → inK IntKind.i64 ((↑x_2 : Int) * n) ∧ inK IntKind.i64 ((↑x_2 : Int) * n + (↑x_4.fst : Int)) ∧ inK IntKind.i64 (((↑x_2 : Int) * n + (↑x_4.fst : Int)) * n) ∧ inK IntKind.i64 (((↑x_2 : Int) * n + (↑x_4.fst : Int)) * n + (↑x_3 : Int)) ∧ (0 : Int) ≤ ((↑x_2 : Int) * n + (↑x_4.fst : Int)) * n + (↑x_3 : Int) ∧ ((↑x_2 : Int) * n + (↑x_4.fst : Int)) * n + (↑x_3 : Int) < (↑(List.length x_1.snd.snd.fst.snd.fst) : Int) ∧ (∃ (s : L3 × List Int × Unit), some (x_1.fst, x_1.snd.fst, ()) = some s ∧ TdOk s) ∧ ((!decide (knowX (x_1.fst) (↑x_2 : Int) (↑x_4.fst : Int) (↑x_3 : Int) = List.getD x_1.snd.snd.fst.snd.fst (((↑x_2 : Int) * n + (↑x_4.fst : Int)) * n + (↑x_3 : Int)).toNat (0 : Int))) = true → k [Dat.mk Ty.bool false]) ∧ ((!decide (knowX (x_1.fst) (↑x_2 : Int) (↑x_4.fst : Int) (↑x_3 : Int) = List.getD x_1.snd.snd.fst.snd.fst (((↑x_2 : Int) * n + (↑x_4.fst : Int)) * n + (↑x_3 : Int)).toNat (0 : Int))) = false → (decide (List.getD x_1.snd.snd.fst.snd.fst (((↑x_2 : Int) * n + (↑x_4.fst : Int)) * n + (↑x_3 : Int)).toNat (0 : Int) < x_4.snd) = true → inK IntKind.i64 ((↑x_4.fst : Int) + (1 : Int)) ∧ ∃ (x_5 : Nat × Int), ((↑x_5.fst : Int) ≤ n ∧ knOf3 (St.mk [SV.d (I) n, SV.d (I).sl.sl l, SV.any, SV.any, SV.any, SV.ps (0 : Nat), SV.any, SV.pv ((I).pr ((I).sl.pr ((I).sl.pr Ty.un))) (3 : Nat) [], SV.d (I) (↑x.fst : Int), SV.any, SV.any, SV.any, SV.any, SV.d (I) (↑x_2 : Int), SV.d (I) (↑x_3 : Int), SV.d (I) (List.getD x_1.snd.snd.fst.snd.fst ((↑x_2 : Int) * n * n + (↑x_3 : Int)).toNat (0 : Int)), SV.d (I) (0 : Int), SV.any, SV.any, SV.any, SV.any, SV.any, SV.any, SV.any, SV.any, SV.any, SV.any, SV.any, SV.any, SV.any, SV.any, SV.any, SV.any, SV.any, SV.any, SV.any, SV.any, SV.any, SV.any, SV.any, SV.any, SV.any, SV.any, SV.any, SV.any, SV.any, SV.any, SV.any, SV.any, SV.any, SV.any, SV.any, SV.any, SV.any, SV.any, SV.any, SV.any, SV.any, SV.any, SV.any, SV.any, SV.any, SV.any, SV.any, SV.any, SV.any, SV.any, SV.any, SV.any, SV.any, SV.any, SV.any, SV.any, SV.any, SV.any, SV.any, SV.any, SV.any, SV.any, SV.any, SV.any, SV.any, SV.any, SV.any, SV.any, SV.any, SV.any, SV.any, SV.any, SV.any, SV.any, SV.any, SV.any, SV.any, SV.d (I) (↑x_3 : Int), SV.d (I) n, SV.d Ty.bool (decide ((↑x_3 : Int) < n)), SV.any, SV.any, SV.pv ((I).pr ((I).sl.pr ((I).sl.pr Ty.un))) (3 : Nat) ([] ++ [(1 : Nat)]), SV.d (I).sl x_1.snd.snd.fst.snd.fst, SV.d (I) (↑x_2 : Int), SV.d (I) n, SV.d (I) ((↑x_2 : Int) * n), SV.d (I) n, SV.d (I) ((↑x_2 : Int) * n * n), SV.d (I) (↑x_3 : Int), SV.d (I) ((↑x_2 : Int) * n * n + (↑x_3 : Int)), SV.ra (I) (List.getD x_1.snd.snd.fst.snd.fst ((↑x_2 : Int) * n * n + (↑x_3 : Int)).toNat (0 : Int)), SV.d (I) (List.getD x_1.snd.snd.fst.snd.fst ((↑x_2 : Int) * n * n + (↑x_3 : Int)).toNat (0 : Int)), SV.any, SV.any, SV.any, SV.any, SV.any, SV.any, SV.any, SV.any, SV.any, SV.any, SV.any, SV.any, SV.any, SV.any, SV.any, SV.any, SV.any, SV.any, SV.any, SV.any, SV.any, SV.any, SV.any, SV.any, SV.any, SV.any, SV.any, SV.any, SV.any, SV.any, SV.any, SV.any, SV.any, SV.any, SV.any, SV.any, SV.any, SV.any, SV.any, SV.any, SV.any, SV.any, SV.any, SV.any, SV.any, SV.any, SV.any, SV.any, SV.any, SV.any, SV.any, SV.any, SV.any, SV.any, SV.any, SV.any, SV.any, SV.any, SV.any, SV.any, SV.any] [Ob.st (82 : Nat) [SV.os (1 : Nat), SV.os (2 : Nat)], Ob.trow (41 : Nat) (Ot.sl (29 : Nat) (Ot.sl (3 : Nat) (Ot.d (I)))) x_1.fst, Ob.row (3 : Nat) (I) x_1.snd.fst, Ob.var (46 : Nat) ((I).pr ((I).sl.pr ((I).sl.pr Ty.un))) x_1.snd.snd.fst] [(GK.glob (0 : Nat), SV.ra Ty.raw hdE)]) fun (kn : L3) => x_5.snd = lstF kn (↑x_2 : Int).toNat (↑x_3 : Int).toNat x_5.fst) ∧ n.toNat - x_5.fst < n.toNat - x_4.fst ∧ (n = n ∧ l = l ∧ True ∧ ([] : List Nat) = [] ∧ (↑x.fst : Int) = (↑x.fst : Int) ∧ (↑x_2 : Int) = (↑x_2 : Int) ∧ (↑x_3 : Int) = (↑x_3 : Int) ∧ List.getD x_1.snd.snd.fst.snd.fst (((↑x_2 : Int) * n + (↑x_4.fst : Int)) * n + (↑x_3 : Int)).toNat (0 : Int) = x_5.snd ∧ (↑x_4.fst : Int) + (1 : Int) = (↑x_5.fst : Int) ∧ True) ∧ ((True ∧ True ∧ True) ∧ x_1.fst = x_1.fst ∧ ((3 : Nat) = (3 : Nat) ∧ x_1.snd.fst = x_1.snd.fst) ∧ ((46 : Nat) = (46 : Nat) ∧ x_1.snd.snd.fst = x_1.snd.snd.fst) ∧ True) ∧ hdE = hdE ∧ True) ∧ (decide (List.getD x_1.snd.snd.fst.snd.fst (((↑x_2 : Int) * n + (↑x_4.fst : Int)) * n + (↑x_3 : Int)).toNat (0 : Int) < x_4.snd) = false → inK IntKind.i64 ((↑x_4.fst : Int) + (1 : Int)) ∧ ∃ (x_5 : Nat × Int), ((↑x_5.fst : Int) ≤ n ∧ knOf3 (St.mk [SV.d (I) n, SV.d (I).sl.sl l, SV.any, SV.any, SV.any, SV.ps (0 : Nat), SV.any, SV.pv ((I).pr ((I).sl.pr ((I).sl.pr Ty.un))) (3 : Nat) [], SV.d (I) (↑x.fst : Int), SV.any, SV.any, SV.any, SV.any, SV.d (I) (↑x_2 : Int), SV.d (I) (↑x_3 : Int), SV.d (I) (List.getD x_1.snd.snd.fst.snd.fst ((↑x_2 : Int) * n * n + (↑x_3 : Int)).toNat (0 : Int)), SV.d (I) (0 : Int), SV.any, SV.any, SV.any, SV.any, SV.any, SV.any, SV.any, SV.any, SV.any, SV.any, SV.any, SV.any, SV.any, SV.any, SV.any, SV.any, SV.any, SV.any, SV.any, SV.any, SV.any, SV.any, SV.any, SV.any, SV.any, SV.any, SV.any, SV.any, SV.any, SV.any, SV.any, SV.any, SV.any, SV.any, SV.any, SV.any, SV.any, SV.any, SV.any, SV.any, SV.any, SV.any, SV.any, SV.any, SV.any, SV.any, SV.any, SV.any, SV.any, SV.any, SV.any, SV.any, SV.any, SV.any, SV.any, SV.any, SV.any, SV.any, SV.any, SV.any, SV.any, SV.any, SV.any, SV.any, SV.any, SV.any, SV.any, SV.any, SV.any, SV.any, SV.any, SV.any, SV.any, SV.any, SV.any, SV.any, SV.any, SV.d (I) (↑x_3 : Int), SV.d (I) n, SV.d Ty.bool (decide ((↑x_3 : Int) < n)), SV.any, SV.any, SV.pv ((I).pr ((I).sl.pr ((I).sl.pr Ty.un))) (3 : Nat) ([] ++ [(1 : Nat)]), SV.d (I).sl x_1.snd.snd.fst.snd.fst, SV.d (I) (↑x_2 : Int), SV.d (I) n, SV.d (I) ((↑x_2 : Int) * n), SV.d (I) n, SV.d (I) ((↑x_2 : Int) * n * n), SV.d (I) (↑x_3 : Int), SV.d (I) ((↑x_2 : Int) * n * n + (↑x_3 : Int)), SV.ra (I) (List.getD x_1.snd.snd.fst.snd.fst ((↑x_2 : Int) * n * n + (↑x_3 : Int)).toNat (0 : Int)), SV.d (I) (List.getD x_1.snd.snd.fst.snd.fst ((↑x_2 : Int) * n * n + (↑x_3 : Int)).toNat (0 : Int)), SV.any, SV.any, SV.any, SV.any, SV.any, SV.any, SV.any, SV.any, SV.any, SV.any, SV.any, SV.any, SV.any, SV.any, SV.any, SV.any, SV.any, SV.any, SV.any, SV.any, SV.any, SV.any, SV.any, SV.any, SV.any, SV.any, SV.any, SV.any, SV.any, SV.any, SV.any, SV.any, SV.any, SV.any, SV.any, SV.any, SV.any, SV.any, SV.any, SV.any, SV.any, SV.any, SV.any, SV.any, SV.any, SV.any, SV.any, SV.any, SV.any, SV.any, SV.any, SV.any, SV.any, SV.any, SV.any, SV.any, SV.any, SV.any, SV.any, SV.any, SV.any] [Ob.st (82 : Nat) [SV.os (1 : Nat), SV.os (2 : Nat)], Ob.trow (41 : Nat) (Ot.sl (29 : Nat) (Ot.sl (3 : Nat) (Ot.d (I)))) x_1.fst, Ob.row (3 : Nat) (I) x_1.snd.fst, Ob.var (46 : Nat) ((I).pr ((I).sl.pr ((I).sl.pr Ty.un))) x_1.snd.snd.fst] [(GK.glob (0 : Nat), SV.ra Ty.raw hdE)]) fun (kn : L3) => x_5.snd = lstF kn (↑x_2 : Int).toNat (↑x_3 : Int).toNat x_5.fst) ∧ n.toNat - x_5.fst < n.toNat - x_4.fst ∧ (n = n ∧ l = l ∧ True ∧ ([] : List Nat) = [] ∧ (↑x.fst : Int) = (↑x.fst : Int) ∧ (↑x_2 : Int) = (↑x_2 : Int) ∧ (↑x_3 : Int) = (↑x_3 : Int) ∧ x_4.snd = x_5.snd ∧ (↑x_4.fst : Int) + (1 : Int) = (↑x_5.fst : Int) ∧ True) ∧ ((True ∧ True ∧ True) ∧ x_1.fst = x_1.fst ∧ ((3 : Nat) = (3 : Nat) ∧ x_1.snd.fst = x_1.snd.fst) ∧ ((46 : Nat) = (46 : Nat) ∧ x_1.snd.snd.fst = x_1.snd.snd.fst) ∧ True) ∧ hdE = hdE ∧ True))) ∧ (decide ((↑x_4.fst : Int) < n) = false → (∃ (s : L3 × List Int × Unit), some (x_1.fst, x_1.snd.fst, ()) = some s ∧ TdOk s) ∧ ((!decide (stabX (x_1.fst) (↑x_2 : Int) (↑x_3 : Int) = x_4.snd)) = true → k [Dat.mk Ty.bool false]) ∧ ((!decide (stabX (x_1.fst) (↑x_2 : Int) (↑x_3 : Int) = x_4.snd)) = false → inK IntKind.i64 ((↑x_3 : Int) + (1 : Int)) ∧ ∃ (x_5 : Nat), ((↑x_5 : Int) ≤ n ∧ True) ∧ n.toNat - x_5 < n.toNat - x_3 ∧ (n = n ∧ l = l ∧ True ∧ ([] : List Nat) = [] ∧ (↑x.fst : Int) = (↑x.fst : Int) ∧ (↑x_2 : Int) = (↑x_2 : Int) ∧ (↑x_3 : Int) + (1 : Int) = (↑x_5 : Int) ∧ True) ∧ ((True ∧ True ∧ True) ∧ x_1.fst = x_1.fst ∧ ((3 : Nat) = (3 : Nat) ∧ x_1.snd.fst = x_1.snd.fst) ∧ ((46 : Nat) = (46 : Nat) ∧ x_1.snd.snd.fst = x_1.snd.snd.fst) ∧ True) ∧ hdE = hdE ∧ True))) ∧ (decide ((↑x_3 : Int) < n) = false → inK IntKind.i64 ((↑x_2 : Int) + (1 : Int)) ∧ ∃ (x_4 : Nat), ((↑x_4 : Int) ≤ n ∧ True) ∧ n.toNat - x_4 < n.toNat - x_2 ∧ (n = n ∧ l = l ∧ True ∧ ([] : List Nat) = [] ∧ (↑x.fst : Int) = (↑x.fst : Int) ∧ (↑x_2 : Int) + (1 : Int) = (↑x_4 : Int) ∧ True) ∧ ((True ∧ True ∧ True) ∧ x_1.fst = x_1.fst ∧ ((3 : Nat) = (3 : Nat) ∧ x_1.snd.fst = x_1.snd.fst) ∧ ((46 : Nat) = (46 : Nat) ∧ x_1.snd.snd.fst = x_1.snd.snd.fst) ∧ True) ∧ hdE = hdE ∧ True)) ∧ (decide ((↑x_2 : Int) < n) = false → inK IntKind.i64 ((↑x.fst : Int) + (1 : Int)) ∧ ∃ (x_3 : Nat × L3 × List Int × Xt), ((x_3.fst ≤ l.length ∧ x_3.fst ≤ (80 : Nat)) ∧ RT n.toNat x_3.snd.fst x_3.snd.snd.fst x_3.snd.snd.snd) ∧ l.length - x_3.fst < l.length - x.fst ∧ (n = n ∧ l = l ∧ True ∧ ([] : List Nat) = [] ∧ (↑x.fst : Int) + (1 : Int) = (↑x_3.fst : Int) ∧ True) ∧ ((True ∧ True ∧ True) ∧ x_1.fst = x_3.snd.fst ∧ ((3 : Nat) = (3 : Nat) ∧ x_1.snd.fst = x_3.snd.snd.fst) ∧ ((46 : Nat) = (46 : Nat) ∧ x_1.snd.snd.fst = x_3.snd.snd.snd) ∧ True) ∧ hdE = hdE ∧ True)))) ∧ (decide ((↑x.fst : Int) < (80 : Int)) = false → (∃ (s : L3 × List Int × Unit), some (x.snd.fst, x.snd.snd.fst, ()) = some s ∧ TdOk s) ∧ (decide (knowX (x.snd.fst) (-1 : Int) (0 : Int) (0 : Int) = (-1 : Int)) = true → (∃ (s : L3 × List Int × Unit), some (x.snd.fst, x.snd.snd.fst, ()) = some s ∧ TdOk s) ∧ (decide (knowX (x.snd.fst) (0 : Int) n (0 : Int) = (-1 : Int)) = true → (∃ (s : L3 × List Int × Unit), some (x.snd.fst, x.snd.snd.fst, ()) = some s ∧ TdOk s) ∧ (decide (knowX (x.snd.fst) (0 : Int) (0 : Int) n = (-1 : Int)) = true → (∃ (s : L3 × List Int × Unit), some (x.snd.fst, x.snd.snd.fst, ()) = some s ∧ TdOk s) ∧ (decide (stabX (x.snd.fst) n (0 : Int) = (-1 : Int)) = true → (∃ (s : L3 × List Int × Unit), some (x.snd.fst, x.snd.snd.fst, ()) = some s ∧ TdOk s) ∧ k [Dat.mk Ty.bool (decide (stabX (x.snd.fst) (0 : Int) (-1 : Int) = (-1 : Int)))]) ∧ (decide (stabX (x.snd.fst) n (0 : Int) = (-1 : Int)) = false → k [Dat.mk Ty.bool false])) ∧ (decide (knowX (x.snd.fst) (0 : Int) (0 : Int) n = (-1 : Int)) = false → k [Dat.mk Ty.bool false])) ∧ (decide (knowX (x.snd.fst) (0 : Int) n (0 : Int) = (-1 : Int)) = false → k [Dat.mk Ty.bool false])) ∧ (decide (knowX (x.snd.fst) (-1 : Int) (0 : Int) (0 : Int) = (-1 : Int)) = false → k [Dat.mk Ty.bool false]))) ∧ (decide ((↑x.fst : Int) < (↑l.length : Int)) = false → (∃ (s : L3 × List Int × Unit), some (x.snd.fst, x.snd.snd.fst, ()) = some s ∧ TdOk s) ∧ (decide (knowX (x.snd.fst) (-1 : Int) (0 : Int) (0 : Int) = (-1 : Int)) = true → (∃ (s : L3 × List Int × Unit), some (x.snd.fst, x.snd.snd.fst, ()) = some s ∧ TdOk s) ∧ (decide (knowX (x.snd.fst) (0 : Int) n (0 : Int) = (-1 : Int)) = true → (∃ (s : L3 × List Int × Unit), some (x.snd.fst, x.snd.snd.fst, ()) = some s ∧ TdOk s) ∧ (decide (knowX (x.snd.fst) (0 : Int) (0 : Int) n = (-1 : Int)) = true → (∃ (s : L3 × List Int × Unit), some (x.snd.fst, x.snd.snd.fst, ()) = some s ∧ TdOk s) ∧ (decide (stabX (x.snd.fst) n (0 : Int) = (-1 : Int)) = true → (∃ (s : L3 × List Int × Unit), some (x.snd.fst, x.snd.snd.fst, ()) = some s ∧ TdOk s) ∧ k [Dat.mk Ty.bool (decide (stabX (x.snd.fst) (0 : Int) (-1 : Int) = (-1 : Int)))]) ∧ (decide (stabX (x.snd.fst) n (0 : Int) = (-1 : Int)) = false → k [Dat.mk Ty.bool false])) ∧ (decide (knowX (x.snd.fst) (0 : Int) (0 : Int) n = (-1 : Int)) = false → k [Dat.mk Ty.bool false])) ∧ (decide (knowX (x.snd.fst) (0 : Int) n (0 : Int) = (-1 : Int)) = false → k [Dat.mk Ty.bool false])) ∧ (decide (knowX (x.snd.fst) (-1 : Int) (0 : Int) (0 : Int) = (-1 : Int)) = false → k [Dat.mk Ty.bool false])))))) ∧ (inB n (1 : Int) (5 : Int) = false → (decide (n < (1 : Int)) = true → (inK IntKind.i64 (1 : Int) ∧ True) ∧ k [Dat.mk Ty.bool (decide ((1 : Int) = (1 : Int)))]) ∧ (decide (n < (1 : Int)) = false → (decide ((5 : Int) < n) = true → (inK IntKind.i64 (1 : Int) ∧ True) ∧ k [Dat.mk Ty.bool (decide ((1 : Int) = (1 : Int)))]) ∧ (decide ((5 : Int) < n) = false → ((!decide ((1 : Int) = (0 : Int))) = true → k [Dat.mk Ty.bool false]) ∧ ((!decide ((1 : Int) = (0 : Int))) = false → ((0 : Int) ≤ n ∧ n ≤ (5 : Int)) ∧ (∃ (x : Nat × L3 × List Int × Xt), ((x.fst ≤ l.length ∧ x.fst ≤ (80 : Nat)) ∧ RT n.toNat x.snd.fst x.snd.snd.fst x.snd.snd.snd) ∧ (n = n ∧ l = l ∧ True ∧ ([] : List Nat) = [] ∧ (0 : Int) = (↑x.fst : Int) ∧ True) ∧ (False ∧ False ∧ False ∧ False ∧ True) ∧ hdE = hdE ∧ True) ∧ ∀ (x : Nat × L3 × List Int × Xt), (x.fst ≤ l.length ∧ x.fst ≤ (80 : Nat)) ∧ RT n.toNat x.snd.fst x.snd.snd.fst x.snd.snd.snd → (decide ((↑x.fst : Int) < (↑l.length : Int)) = true → (decide ((↑x.fst : Int) < (80 : Int)) = true → (0 : Int) ≤ (↑x.fst : Int) ∧ (↑x.fst : Int) < (↑l.length : Int) ∧ (decide ((↑(l.getD (↑x.fst : Int).toNat []).length : Int) < (2 : Int)) = true → inK IntKind.i64 ((↑x.fst : Int) + (1 : Int)) ∧ ∃ (x_1 : Nat × L3 × List Int × Xt), ((x_1.fst ≤ l.length ∧ x_1.fst ≤ (80 : Nat)) ∧ RT n.toNat x_1.snd.fst x_1.snd.snd.fst x_1.snd.snd.snd) ∧ l.length - x_1.fst < l.length - x.fst ∧ (n = n ∧ l = l ∧ True ∧ ([] : List Nat) = [] ∧ (↑x.fst : Int) + (1 : Int) = (↑x_1.fst : Int) ∧ True) ∧ ((True ∧ True ∧ True) ∧ x.snd.fst = x_1.snd.fst ∧ ((3 : Nat) = (3 : Nat) ∧ x.snd.snd.fst = x_1.snd.snd.fst) ∧ ((46 : Nat) = (46 : Nat) ∧ x.snd.snd.snd = x_1.snd.snd.snd) ∧ True) ∧ hdE = hdE ∧ True) ∧ (decide ((↑(l.getD (↑x.fst : Int).toNat []).length : Int) < (2 : Int)) = false → (0 : Int) ≤ (↑x.fst : Int) ∧ (↑x.fst : Int) < (↑l.length : Int) ∧ (0 : Int) ≤ (0 : Int) ∧ (0 : Int) < (↑(l.getD (↑x.fst : Int).toNat []).length : Int) ∧ (0 : Int) ≤ (↑x.fst : Int) ∧ (↑x.fst : Int) < (↑l.length : Int) ∧ (0 : Int) ≤ (1 : Int) ∧ (1 : Int) < (↑(l.getD (↑x.fst : Int).toNat []).length : Int) ∧ ((decide ((l.getD (↑x.fst : Int).toNat []).getD (Int.toNat (1 : Int)) (0 : Int) = (9 : Int)) = true → False) ∧ (decide ((l.getD (↑x.fst : Int).toNat []).getD (Int.toNat (1 : Int)) (0 : Int) = (9 : Int)) = false → False)) ∧ ∀ (x_1 : L3 × List Int × Xt × Int), RT n.toNat x_1.fst x_1.snd.fst x_1.snd.snd.fst ∧ inK IntKind.i64 x_1.snd.snd.snd → (inK IntKind.i64 x_1.snd.snd.snd ∧ True) ∧ ((!decide (x_1.snd.snd.snd = x_1.snd.snd.snd)) = true → k [Dat.mk Ty.bool false]) ∧ ((!decide (x_1.snd.snd.snd = x_1.snd.snd.snd)) = false → (∃ (x_2 : Nat), ((↑x_2 : Int) ≤ n ∧ True) ∧ (n = n ∧ l = l ∧ True ∧ ([] : List Nat) = [] ∧ (↑x.fst : Int) = (↑x.fst : Int) ∧ (0 : Int) = (↑x_2 : Int) ∧ True) ∧ ((True ∧ True ∧ True) ∧ x_1.fst = x_1.fst ∧ ((3 : Nat) = (3 : Nat) ∧ x_1.snd.fst = x_1.snd.fst) ∧ ((46 : Nat) = (46 : Nat) ∧ x_1.snd.snd.fst = x_1.snd.snd.fst) ∧ True) ∧ hdE = hdE ∧ True) ∧ ∀ (x_2 : Nat), (↑x_2 : Int) ≤ n ∧ True → (decide ((↑x_2 : Int) < n) = true → (∃ (x_3 : Nat), ((↑x_3 : Int) ≤ n ∧ True) ∧ (n = n ∧ l = l ∧ True ∧ ([] : List Nat) = [] ∧ (↑x.fst : Int) = (↑x.fst : Int) ∧ (↑x_2 : Int) = (↑x_2 : Int) ∧ (0 : Int) = (↑x_3 : Int) ∧ True) ∧ ((True ∧ True ∧ True) ∧ x_1.fst = x_1.fst ∧ ((3 : Nat) = (3 : Nat) ∧ x_1.snd.fst = x_1.snd.fst) ∧ ((46 : Nat) = (46 : Nat) ∧ x_1.snd.snd.fst = x_1.snd.snd.fst) ∧ True) ∧ hdE = hdE ∧ True) ∧ ∀ (x_3 : Nat), (↑x_3 : Int) ≤ n ∧ True → (decide ((↑x_3 : Int) < n) = true → False) ∧ (decide ((↑x_3 : Int) < n) = false → inK IntKind.i64 ((↑x_2 : Int) + (1 : Int)) ∧ ∃ (x_4 : Nat), ((↑x_4 : Int) ≤ n ∧ True) ∧ n.toNat - x_4 < n.toNat - x_2 ∧ (n = n ∧ l = l ∧ True ∧ ([] : List Nat) = [] ∧ (↑x.fst : Int) = (↑x.fst : Int) ∧ (↑x_2 : Int) + (1 : Int) = (↑x_4 : Int) ∧ True) ∧ ((True ∧ True ∧ True) ∧ x_1.fst = x_1.fst ∧ ((3 : Nat) = (3 : Nat) ∧ x_1.snd.fst = x_1.snd.fst) ∧ ((46 : Nat) = (46 : Nat) ∧ x_1.snd.snd.fst = x_1.snd.snd.fst) ∧ True) ∧ hdE = hdE ∧ True)) ∧ (decide ((↑x_2 : Int) < n) = false → inK IntKind.i64 ((↑x.fst : Int) + (1 : Int)) ∧ ∃ (x_3 : Nat × L3 × List Int × Xt), ((x_3.fst ≤ l.length ∧ x_3.fst ≤ (80 : Nat)) ∧ RT n.toNat x_3.snd.fst x_3.snd.snd.fst x_3.snd.snd.snd) ∧ l.length - x_3.fst < l.length - x.fst ∧ (n = n ∧ l = l ∧ True ∧ ([] : List Nat) = [] ∧ (↑x.fst : Int) + (1 : Int) = (↑x_3.fst : Int) ∧ True) ∧ ((True ∧ True ∧ True) ∧ x_1.fst = x_3.snd.fst ∧ ((3 : Nat) = (3 : Nat) ∧ x_1.snd.fst = x_3.snd.snd.fst) ∧ ((46 : Nat) = (46 : Nat) ∧ x_1.snd.snd.fst = x_3.snd.snd.snd) ∧ True) ∧ hdE = hdE ∧ True)))) ∧ (decide ((↑x.fst : Int) < (80 : Int)) = false → (∃ (s : L3 × List Int × Unit), none = some s ∧ TdOk s) ∧ (decide (knowX [] (-1 : Int) (0 : Int) (0 : Int) = (-1 : Int)) = true → (∃ (s : L3 × List Int × Unit), none = some s ∧ TdOk s) ∧ (decide (knowX [] (0 : Int) n (0 : Int) = (-1 : Int)) = true → (∃ (s : L3 × List Int × Unit), none = some s ∧ TdOk s) ∧ (decide (knowX [] (0 : Int) (0 : Int) n = (-1 : Int)) = true → (∃ (s : L3 × List Int × Unit), none = some s ∧ TdOk s) ∧ (decide (stabX [] n (0 : Int) = (-1 : Int)) = true → (∃ (s : L3 × List Int × Unit), none = some s ∧ TdOk s) ∧ k [Dat.mk Ty.bool (decide (stabX [] (0 : Int) (-1 : Int) = (-1 : Int)))]) ∧ (decide (stabX [] n (0 : Int) = (-1 : Int)) = false → k [Dat.mk Ty.bool false])) ∧ (decide (knowX [] (0 : Int) (0 : Int) n = (-1 : Int)) = false → k [Dat.mk Ty.bool false])) ∧ (decide (knowX [] (0 : Int) n (0 : Int) = (-1 : Int)) = false → k [Dat.mk Ty.bool false])) ∧ (decide (knowX [] (-1 : Int) (0 : Int) (0 : Int) = (-1 : Int)) = false → k [Dat.mk Ty.bool false]))) ∧ (decide ((↑x.fst : Int) < (↑l.length : Int)) = false → (∃ (s : L3 × List Int × Unit), none = some s ∧ TdOk s) ∧ (decide (knowX [] (-1 : Int) (0 : Int) (0 : Int) = (-1 : Int)) = true → (∃ (s : L3 × List Int × Unit), none = some s ∧ TdOk s) ∧ (decide (knowX [] (0 : Int) n (0 : Int) = (-1 : Int)) = true → (∃ (s : L3 × List Int × Unit), none = some s ∧ TdOk s) ∧ (decide (knowX [] (0 : Int) (0 : Int) n = (-1 : Int)) = true → (∃ (s : L3 × List Int × Unit), none = some s ∧ TdOk s) ∧ (decide (stabX [] n (0 : Int) = (-1 : Int)) = true → (∃ (s : L3 × List Int × Unit), none = some s ∧ TdOk s) ∧ k [Dat.mk Ty.bool (decide (stabX [] (0 : Int) (-1 : Int) = (-1 : Int)))]) ∧ (decide (stabX [] n (0 : Int) = (-1 : Int)) = false → k [Dat.mk Ty.bool false])) ∧ (decide (knowX [] (0 : Int) (0 : Int) n = (-1 : Int)) = false → k [Dat.mk Ty.bool false])) ∧ (decide (knowX [] (0 : Int) n (0 : Int) = (-1 : Int)) = false → k [Dat.mk Ty.bool false])) ∧ (decide (knowX [] (-1 : Int) (0 : Int) (0 : Int) = (-1 : Int)) = false → k [Dat.mk Ty.bool false]))))))) := by kernel_rfl
end Go.Proofs.YtjgdpblaghhfhaaDoor

/- Tables of who knows what who knows: the program does what the reference does (mathematics). -/
namespace Go.Proofs.YtjgdpblaghhfhaaDoor.T
open Go.Vc
def ix (n a b c : Nat) : Nat := (a * n + b) * n + c
theorem ix_lt {n a b c : Nat} (ha : a < n) (hb : b < n) (hc : c < n) : ix n a b c < n * n * n := at_lt ha hb hc
theorem ix_parts {n a b c : Nat} (hb : b < n) (hc : c < n) : ix n a b c / n / n = a ∧ ix n a b c / n % n = b ∧ ix n a b c % n = c := by
  have hN : 0 < n := by omega
  have e1 : ((a * n + b) * n + c) / n = a * n + b := by rw [Nat.add_comm, Nat.add_mul_div_right _ _ hN, Nat.div_eq_of_lt hc, Nat.zero_add]
  have e2 : ((a * n + b) * n + c) % n = c := by rw [Nat.add_comm, Nat.add_mul_mod_self_right, Nat.mod_eq_of_lt hc]
  have e3 : (a * n + b) / n = a := by rw [Nat.add_comm, Nat.add_mul_div_right _ _ hN, Nat.div_eq_of_lt hb, Nat.zero_add]
  have e4 : (a * n + b) % n = b := by rw [Nat.add_comm, Nat.add_mul_mod_self_right, Nat.mod_eq_of_lt hb]
  unfold ix
  rw [e1, e2]
  exact ⟨e3, e4, rfl⟩
theorem ix_inj {n a b c a' b' c' : Nat} (hb : b < n) (hc : c < n) (hb' : b' < n) (hc' : c' < n) (h : ix n a b c = ix n a' b' c') : a = a' ∧ b = b' ∧ c = c' := by
  obtain ⟨e1, e2, e3⟩ := ix_parts (a := a) hb hc
  obtain ⟨g1, g2, g3⟩ := ix_parts (a := a') hb' hc'
  rw [h] at e1 e2 e3
  exact ⟨e1.symm.trans g1, e2.symm.trans g2, e3.symm.trans g3⟩
theorem ix_of {n m : Nat} (h : m < n * n * n) : ∃ a b c, a < n ∧ b < n ∧ c < n ∧ m = ix n a b c := by
  have hN : 0 < n := by
    rcases Nat.eq_zero_or_pos n with h0 | h0
    · subst h0; simp at h
    · exact h0
  refine ⟨m / n / n, m / n % n, m % n, Nat.div_lt_of_lt_mul (Nat.div_lt_of_lt_mul ?_), Nat.mod_lt _ hN, Nat.mod_lt _ hN, ?_⟩
  · rw [← Nat.mul_assoc]; exact h
  · unfold ix
    have h1 := Nat.div_add_mod m n
    have h2 := Nat.div_add_mod (m / n) n
    rw [Nat.mul_comm (m / n / n) n, h2, Nat.mul_comm (m / n) n, h1]
theorem plc_ix (n a b c : Nat) : (plc (n : Int) (a : Int) (b : Int) (c : Int)).toNat = ix n a b c := by rw [plc_cast, Int.toNat_natCast]; rfl
theorem RT.at {n : Nat} {kn : L3} {dn : List Int} {x : Xt} (R : RT n kn dn x) {a b c : Nat} (ha : a < n) (hb : b < n) (hc : c < n) : x.2.1.getD (ix n a b c) 0 = at3 kn a b c := R.k a b c ha hb hc
theorem RT.xok {n : Nat} {kn : L3} {dn : List Int} {x : Xt} (R : RT n kn dn x) : XOk x := by
  have hn1 := R.ok.n1
  have hn5 := R.ok.n5
  have hl := R.ln
  have hx := R.nx
  have ht : x.1.toNat = n := by omega
  refine ⟨by omega, by rw [ht]; exact R.kl, by rw [ht, R.d, R.ok.dl]; exact hl, fun m => ?_⟩
  rcases Nat.lt_or_ge m (n * n * n) with h | h
  · obtain ⟨a, b, c, ha, hb, hc, rfl⟩ := ix_of h
    rw [R.at ha hb hc]
    have v := R.ok.v a b c (by omega) (by omega) (by omega)
    have d := R.ok.d c (by omega)
    omega
  · rw [List.getD_eq_getElem?_getD, List.getElem?_eq_none (by rw [R.kl]; exact h)]
    show -1000 ≤ (0 : Int) ∧ (0 : Int) ≤ 1000
    omega
theorem rel_write {n : Nat} {kn : L3} {dn : List Int} {x : Xt} (R : RT n kn dn x) (p : Int) : wE kn dn p = (wrX x p).2 ∧ RT n (wK kn dn p) (wD kn dn p) (wrX x p).1 ∧ inK .i64 (wrX x p).2 := by
  obtain ⟨wok, wln, -⟩ := write_ok R.ok p
  have hl := R.ln
  have hx := R.nx
  have c1 : ∀ z : Int, 0 ≤ z → z ≤ 7 → inK .i64 z := fun z h1 h2 => inK_i64.2 (by omega)
  have hn1 := R.ok.n1
  rw [wK_eq, wD_eq] at wok
  rw [wK_eq] at wln
  rw [wE_eq, wK_eq, wD_eq]
  unfold writeF at wok wln ⊢
  unfold wrX
  simp only at wok wln ⊢
  have hin : x.1 - 1 = (kn.length : Int) - 1 := by omega
  rw [hin, R.d]
  by_cases h : inB p 0 ((kn.length : Int) - 1) = false
  · rw [if_pos h, if_pos h]; exact ⟨rfl, R, c1 1 (by decide) (by decide)⟩
  rw [if_neg h] at wok wln ⊢
  rw [if_neg h]
  have hp := inB_iff.1 (show inB p 0 ((kn.length : Int) - 1) = true by simpa using h)
  have hP : p.toNat < n := by omega
  have hd := R.ok.d p.toNat (by omega)
  by_cases h2 : dn.getD p.toNat 0 = 60
  · rw [if_pos h2, if_pos (show 60 ≤ dn.getD p.toNat 0 by omega)]; exact ⟨rfl, R, c1 4 (by decide) (by decide)⟩
  rw [if_neg h2] at wok wln ⊢
  rw [if_neg (show ¬ 60 ≤ dn.getD p.toNat 0 by omega)]
  have hpl : (plc x.1 p p p).toNat = ix n p.toNat p.toNat p.toNat := by
    rw [R.nx, ← plc_ix]
    have : ((p.toNat : Nat) : Int) = p := by omega
    rw [this]
  rw [hpl]
  refine ⟨rfl, ⟨wok, by rw [wln]; exact hl, hx, by simp only; rw [List.length_set]; exact R.kl, fun a b c ha hb hc => ?_, rfl⟩, c1 0 (by decide) (by decide)⟩
  have sh := R.ok.sh
  simp only
  have hw := at_wr sh (a := p.toNat) (b := p.toNat) (c := p.toNat) (at3 kn p.toNat p.toNat p.toNat + 1) (by omega) (by omega) (by omega) a b c
  rw [hw]
  have hs := getD_setI x.2.1 (ix n p.toNat p.toNat p.toNat) (ix n a b c) (x.2.1.getD (ix n p.toNat p.toNat p.toNat) 0 + 1) (by rw [R.kl]; exact ix_lt hP hP hP)
  refine Eq.trans hs ?_
  rw [R.at hP hP hP, R.at ha hb hc]
  by_cases e : p.toNat = a ∧ p.toNat = b ∧ p.toNat = c
  · obtain ⟨e1, e2, e3⟩ := e
    rw [if_pos (by rw [← e1, ← e2, ← e3]), if_pos ⟨e1, e2, e3⟩]
  · rw [if_neg (fun h => e (ix_inj hP hP hb hc h)), if_neg e]
theorem at_tlR {n : Nat} {x : Xt} (hx : x.1 = (n : Int)) {F T o : Nat} (hT : T < n) (ho : o < n) (k : List Int) (hk : k.length = n * n * n) : ∀ w, w ≤ n → ∀ a b c, a < n → b < n → c < n → (tlR x (F : Int) (T : Int) (o : Int) k w).getD (ix n a b c) 0 = if a = T ∧ b = o ∧ c < w then max (k.getD (ix n T o c) 0) (tlN x (F : Int) (T : Int) (o : Int) (c : Int)) else k.getD (ix n a b c) 0
  | 0, _, a, b, c, _, _, _ => by rw [if_neg (by omega)]; rfl
  | w + 1, hw, a, b, c, ha, hb, hc => by
    have ih := at_tlR hx (F := F) hT ho k hk w (by omega)
    have hwn : w < n := by omega
    have len := tlR_len x (F : Int) (T : Int) (o : Int) k w
    have e1 : (tlR x (F : Int) (T : Int) (o : Int) k w).getD (ix n T o w) 0 = k.getD (ix n T o w) 0 := (ih T o w hT ho hwn).trans (if_neg (by omega))
    rw [tlR_succ, hx, plc_ix, e1]
    by_cases hlt : k.getD (ix n T o w) 0 < tlN x (F : Int) (T : Int) (o : Int) (w : Int)
    · rw [if_pos hlt, getD_setI _ _ _ _ (by rw [len, hk]; exact ix_lt hT ho hwn)]
      by_cases e : ix n T o w = ix n a b c
      · obtain ⟨rfl, rfl, rfl⟩ := ix_inj ho hwn hb hc e
        rw [if_pos rfl, if_pos ⟨rfl, rfl, by omega⟩]; omega
      · rw [if_neg e, ih a b c ha hb hc]
        by_cases h2 : a = T ∧ b = o ∧ c < w
        · rw [if_pos h2, if_pos ⟨h2.1, h2.2.1, by omega⟩]
        · rw [if_neg h2, if_neg (fun h => ?_)]
          obtain ⟨rfl, rfl, h3⟩ := h
          by_cases h4 : c = w
          · exact e (by rw [h4])
          · exact h2 ⟨rfl, rfl, by omega⟩
    · rw [if_neg hlt, ih a b c ha hb hc]
      by_cases h2 : a = T ∧ b = o ∧ c < w
      · rw [if_pos h2, if_pos ⟨h2.1, h2.2.1, by omega⟩]
      · rw [if_neg h2]
        by_cases h3 : a = T ∧ b = o ∧ c < w + 1
        · rw [if_pos h3]
          obtain ⟨rfl, rfl, h4⟩ := h3
          have h5 : c = w := by
            by_cases h6 : c = w
            · exact h6
            · exact absurd ⟨rfl, rfl, by omega⟩ h2
          subst h5
          omega
        · rw [if_neg h3]
theorem at_tlA {n : Nat} {x : Xt} (hx : x.1 = (n : Int)) {F T : Nat} (hT : T < n) (hk : x.2.1.length = n * n * n) : ∀ o, o ≤ n → ∀ a b c, a < n → b < n → c < n → (tlA x (F : Int) (T : Int) o).getD (ix n a b c) 0 = if a = T ∧ b < o then max (x.2.1.getD (ix n T b c) 0) (tlN x (F : Int) (T : Int) (b : Int) (c : Int)) else x.2.1.getD (ix n a b c) 0
  | 0, _, a, b, c, _, _, _ => by rw [if_neg (by omega)]; rfl
  | o + 1, ho, a, b, c, ha, hb, hc => by
    have ih := at_tlA hx (F := F) hT hk o (by omega)
    have e1 : (tlA x (F : Int) (T : Int) o).getD (ix n T o c) 0 = x.2.1.getD (ix n T o c) 0 := (ih T o c hT (by omega) hc).trans (if_neg (by omega))
    show (tlR x (F : Int) (T : Int) (o : Int) (tlA x (F : Int) (T : Int) o) x.1.toNat).getD (ix n a b c) 0 = _
    rw [show x.1.toNat = n by omega, at_tlR hx hT (by omega) _ (by rw [tlA_len]; exact hk) n (Nat.le_refl n) a b c ha hb hc, e1, ih a b c ha hb hc]
    by_cases h1 : a = T ∧ b = o ∧ c < n
    · obtain ⟨rfl, rfl, _⟩ := h1
      rw [if_pos ⟨rfl, rfl, hc⟩, if_pos ⟨rfl, by omega⟩]
    · rw [if_neg h1]
      by_cases h2 : a = T ∧ b < o
      · rw [if_pos h2, if_pos ⟨h2.1, by omega⟩]
      · rw [if_neg h2, if_neg (by omega)]
theorem tlN_at {n : Nat} {kn : L3} {dn : List Int} {x : Xt} (R : RT n kn dn x) {F T b c : Nat} (hF : F < n) (hb : b < n) (hc : c < n) : tlN x (F : Int) (T : Int) (b : Int) (c : Int) = if b = T then max (at3 kn F b c) (at3 kn F F c) else at3 kn F b c := by
  unfold tlN
  rw [R.nx, plc_ix, plc_ix, R.at hF hb hc, R.at hF hF hc]
  by_cases h1 : b = T
  · rw [if_pos h1]
    by_cases h2 : at3 kn F b c < at3 kn F F c
    · rw [if_pos ⟨by omega, h2⟩]; omega
    · rw [if_neg (fun h => h2 h.2)]; omega
  · rw [if_neg h1, if_neg (fun h => h1 (by omega))]
theorem rel_tell {n : Nat} {kn : L3} {dn : List Int} {x : Xt} (R : RT n kn dn x) (f g : Int) : tE kn dn f g = (tlX x f g).2 ∧ RT n (tK kn dn f g) dn (tlX x f g).1 ∧ inK .i64 (tlX x f g).2 := by
  have hl := R.ln
  have hx := R.nx
  have hn1 := R.ok.n1
  have c1 : ∀ z : Int, 0 ≤ z → z ≤ 7 → inK .i64 z := fun z h1 h2 => inK_i64.2 (by omega)
  have hin : x.1 - 1 = (kn.length : Int) - 1 := by omega
  by_cases h : 0 ≤ f ∧ f < (kn.length : Int) ∧ 0 ≤ g ∧ g < (kn.length : Int) ∧ f ≠ g
  · obtain ⟨tok, tln, -, -⟩ := tell_ok R.ok f g
    obtain ⟨F, rfl⟩ := Int.eq_ofNat_of_zero_le h.1
    obtain ⟨G, rfl⟩ := Int.eq_ofNat_of_zero_le h.2.2.1
    have hF : F < kn.length := by omega
    have hG : G < kn.length := by omega
    obtain ⟨e0, -, hat⟩ := tell_at R.ok hF hG (by omega)
    have i1 : inB (F : Int) 0 ((kn.length : Int) - 1) = true := inB_iff.2 (by omega)
    have i2 : inB (G : Int) 0 ((kn.length : Int) - 1) = true := inB_iff.2 (by omega)
    have ex : tlX x (F : Int) (G : Int) = ((x.1, tlA x (F : Int) (G : Int) x.1.toNat, x.2.2.1, ()), 0) := by
      unfold tlX
      rw [hin, if_neg (by rw [i1, i2]; decide), if_neg (by omega)]
    rw [ex, e0]
    refine ⟨rfl, ⟨tok, by rw [tln]; exact hl, hx, by simp only; rw [tlA_len]; exact R.kl, fun a b c ha hb hc => ?_, R.d⟩, c1 0 (by decide) (by decide)⟩
    have hA := at_tlA hx (F := F) (T := G) (by omega) R.kl n (Nat.le_refl n) a b c ha hb hc
    simp only
    rw [show x.1.toNat = n by omega]
    refine Eq.trans hA ?_
    rw [hat a b c (by omega) (by omega) (by omega), R.at (by omega) hb hc, R.at ha hb hc, tlN_at R (by omega) hb hc]
    by_cases ea : a = G
    · rw [if_pos ⟨ea, hb⟩, if_pos ea]
      unfold told
      by_cases eb : b = G
      · subst eb
        rw [if_pos rfl, if_pos rfl]; omega
      · rw [if_neg eb, if_neg eb]
    · rw [if_neg (fun h => ea h.1), if_neg ea]
  · rw [tell_other h, tE_eq]
    unfold tellF tlX
    simp only
    rw [hin]
    by_cases h1 : (inB f 0 ((kn.length : Int) - 1) && inB g 0 ((kn.length : Int) - 1)) = false
    · rw [if_pos h1, if_pos h1]; exact ⟨rfl, R, c1 1 (by decide) (by decide)⟩
    · rw [if_neg h1, if_neg h1]
      have h2 : (inB f 0 ((kn.length : Int) - 1) && inB g 0 ((kn.length : Int) - 1)) = true := by simpa using h1
      rw [Bool.and_eq_true] at h2
      have i1 := inB_iff.1 h2.1
      have i2 := inB_iff.1 h2.2
      rw [if_pos (by omega), if_pos (by omega)]
      exact ⟨rfl, R, c1 6 (by decide) (by decide)⟩
theorem rel_new {N : Nat} (h1 : 1 ≤ N) (h5 : N ≤ 5) : RT N (newK N) (List.replicate N 0) (newX (N : Int)) := by
  have hl : (newK N).length = N := List.length_replicate
  have h1' : ∀ {α : Type} (m i : Nat) (x d : α), (List.replicate m x).getD i d = if i < m then x else d := by
    intro α m i x d
    rw [List.getD_eq_getElem?_getD, List.getElem?_replicate]
    split <;> rfl
  have hat : ∀ a b c, at3 (newK N) a b c = 0 := by
    intro a b c
    unfold at3 newK
    rw [h1']
    split
    · rw [h1']
      split
      · rw [h1']; split <;> rfl
      · rfl
    · rfl
  have hr : ∀ m c, (List.replicate m (0 : Int)).getD c 0 = 0 := by intro m c; rw [h1']; split <;> rfl
  have c3 : (N : Int) * (N : Int) * (N : Int) = ((N * N * N : Nat) : Int) := by rw [← Int.natCast_mul, ← Int.natCast_mul]
  refine ⟨⟨by omega, by omega, ⟨rfl, fun i hi => ?_, fun i j hi hj => ?_⟩, by rw [hl, List.length_replicate], fun a b c _ _ _ => by rw [hat, hr]; omega, fun c _ => by rw [hr]; omega, fun c _ => by rw [hat, hr]⟩, hl, rfl, ?_, fun a b c _ _ _ => ?_, ?_⟩
  · rw [hl] at hi ⊢
    unfold newK
    rw [h1', if_pos hi, List.length_replicate]
  · rw [hl] at hi hj ⊢
    unfold newK
    rw [h1', if_pos hi, h1', if_pos hj, List.length_replicate]
  · unfold newX
    simp only
    rw [List.length_replicate, c3, Int.toNat_natCast]
  · unfold newX
    simp only
    rw [hat, hr]
  · unfold newX
    simp only
    rw [Int.toNat_natCast]
theorem minL_snoc (l : List Int) (y : Int) (h : l ≠ []) : minL (l ++ [y]) = min (minL l) y := by
  cases l with
  | nil => exact absurd rfl h
  | cons z r =>
    show (r ++ [y]).foldl min z = min (r.foldl min z) y
    rw [List.foldl_append]; rfl
theorem col_lst (k : L3) (a c : Nat) : ∀ m, minL (colF k a c (m + 1)) = lstF k a c (m + 1)
  | 0 => by
    show at3 k a 0 c = if at3 k a 0 c < at3 k a 0 c then at3 k a 0 c else at3 k a 0 c
    split <;> rfl
  | m + 1 => by
    have ih := col_lst k a c m
    have e : colF k a c (m + 1 + 1) = colF k a c (m + 1) ++ [at3 k a (m + 1) c] := by
      unfold colF
      rw [List.range_succ, List.map_append]; rfl
    have hne : colF k a c (m + 1) ≠ [] := fun h0 => by
      have := congrArg List.length h0
      simp only [colF, List.length_map, List.length_range, List.length_nil] at this; omega
    rw [e, minL_snoc _ _ hne, ih]
    show _ = if at3 k a (m + 1) c < lstF k a c (m + 1) then at3 k a (m + 1) c else lstF k a c (m + 1)
    split <;> omega
theorem stab_lst (k : L3) (a c : Nat) (ha : a < k.length) (hc : c < k.length) : stabX k (a : Int) (c : Int) = lstF k a c k.length := by
  rw [stab_at k a c ha hc]
  obtain ⟨m, hm⟩ : ∃ m, k.length = m + 1 := ⟨k.length - 1, by omega⟩
  rw [hm]
  exact col_lst k a c m
theorem know_off (k : L3) (a b c : Int) (h : ¬ (0 ≤ a ∧ a < (k.length : Int) ∧ 0 ≤ b ∧ b < (k.length : Int) ∧ 0 ≤ c ∧ c < (k.length : Int))) : knowX k a b c = -1 := by
  rw [knowX_eq]; unfold knowF
  rw [if_neg (fun h' => h ?_)]
  rw [Bool.and_eq_true, Bool.and_eq_true] at h'
  have i1 := inB_iff.1 h'.1.1
  have i2 := inB_iff.1 h'.1.2
  have i3 := inB_iff.1 h'.2
  omega
theorem stab_off (k : L3) (a c : Int) (h : ¬ (0 ≤ a ∧ a < (k.length : Int) ∧ 0 ≤ c ∧ c < (k.length : Int))) : stabX k a c = -1 := by
  rw [stabX_eq]; unfold stabF
  rw [if_neg (fun h' => h ?_)]
  rw [Bool.and_eq_true] at h'
  have i1 := inB_iff.1 h'.1
  have i2 := inB_iff.1 h'.2
  omega
end Go.Proofs.YtjgdpblaghhfhaaDoor.T

/- Tables of who knows what who knows: the program does what the reference does. -/
namespace Go.Proofs.YtjgdpblaghhfhaaDoor.T
open Go.Vc
theorem knOf3_mk (tm : List SV) (o0 o2 o3 : Ob) (e e3 e4 : TypeId) (kn : L3) (gs : List (GK × SV)) (k : L3 → Prop) : knOf3 ⟨tm, [o0, .trow e (.sl e3 (.sl e4 (.d (.int .i64)))) kn, o2, o3], gs⟩ k = k kn := rfl
theorem plays_vc (n : Int) (l : List (List Int)) (k : List Dat → Prop) (hl : l.length ≤ maxLen) (hk : k [⟨.bool, true⟩]) : vcF ⟨Ey, [(7, cError), (19, cKnowsX), (20, cStableX), (14, cNewY), (15, cWrY), (17, cTlY)], glK, [], [(13, oNew), (16, oWriteX), (18, oTellX)]⟩ (anPlays n l) (Tryd.f4.body.getD .skip) Tryd.f4.ntmps [(.tmp 4, .bool)] [⟨I, n⟩, ⟨.sl (.sl I), l⟩] k := by
  rw [vcPlays]
  have hml : maxLen ≤ 9223372036854775807 := by decide
  simp only [knOf3_mk, and_true, true_and, eq_self, implies_true, Int.toNat_natCast, decide_true, Bool.not_true]
  refine ⟨fun hb => ?_, fun hb => ?_⟩
  · have hr : 1 ≤ n ∧ n ≤ 5 := inB_iff.1 hb
    refine ⟨fun h => absurd (of_decide_eq_true h) (by omega), fun _ => ⟨fun h => absurd (of_decide_eq_true h) (by omega), fun _ => ⟨fun h => absurd h (by decide), fun _ => ?_⟩⟩⟩
    obtain ⟨N, rfl⟩ := Int.eq_ofNat_of_zero_le (show 0 ≤ n by omega)
    simp only [Int.toNat_natCast]
    have R0 := rel_new (N := N) (by omega) (by omega)
    rw [← newY_eq] at R0
    obtain ⟨q2, q3⟩ := cube_le (N := N) (by omega)
    refine ⟨⟨by omega, by omega⟩, ⟨(0, newK N, List.replicate N 0, newY (N : Int)), ⟨⟨Nat.zero_le _, Nat.zero_le _⟩, R0⟩, rfl, rfl, rfl, rfl⟩, fun ⟨i, kn, dn, x⟩ ⟨hi, R⟩ => ?_⟩
    simp only at hi R ⊢
    refine ⟨fun h3 => ⟨fun h4 => ?_, fun _ => ?_⟩, fun _ => ?_⟩
    · have h3 : i < l.length := by have := of_decide_eq_true h3; omega
      have h80 : i < 80 := by have := of_decide_eq_true h4; omega
      refine ⟨by omega, by omega, fun _ => ⟨inK_i64.2 (by omega), (i + 1, kn, dn, x), ⟨⟨h3, h80⟩, R⟩, by simp only; omega, rfl, rfl, rfl, rfl⟩, fun h5 => ?_⟩
      have h5 := of_decide_eq_false h5
      refine ⟨by omega, by omega, by omega, by omega, by omega, by omega, by omega, by omega, ⟨fun _ => ?_, fun _ => ?_⟩, fun ⟨kn1, dn1, x1, e1⟩ ⟨R1, he⟩ => ?_⟩
      · obtain ⟨w1, w2, w3⟩ := rel_write R ((l.getD i []).getD (Int.toNat 0) 0)
        rw [← wrY_eq] at w1 w2 w3
        exact ⟨R.xok, R.ok, (_, _, _, _), ⟨w2, w3⟩, ⟨rfl, w1⟩, rfl, rfl, rfl⟩
      · obtain ⟨w1, w2, w3⟩ := rel_tell R ((l.getD i []).getD (Int.toNat 0) 0) ((l.getD i []).getD (Int.toNat 1) 0)
        rw [← tlY_eq] at w1 w2 w3
        exact ⟨R.xok, R.ok, (_, _, _, _), ⟨w2, w3⟩, ⟨rfl, w1⟩, rfl, rfl, rfl⟩
      · simp only at R1 he ⊢
        have hn1 : kn1.length = N := R1.ln
        have kl := R1.kl
        have td : ∃ s : L3 × List Int × Unit, some (kn1, dn1, ()) = some s ∧ TdOk s := ⟨_, rfl, R1.ok.n5, R1.ok.sh⟩
        refine ⟨he, fun h => absurd h (by decide), fun _ => ⟨⟨0, by omega, rfl⟩, fun a ha => ⟨fun h6 => ?_, fun h6 => ?_⟩⟩⟩
        · have h6 : a < N := by have := of_decide_eq_true h6; omega
          refine ⟨⟨0, by omega, rfl⟩, fun c hc => ⟨fun h7 => ?_, fun h7 => ?_⟩⟩
          · have h7 : c < N := by have := of_decide_eq_true h7; omega
            have m1 : (a : Int) * (N : Int) = ((a * N : Nat) : Int) := (Int.natCast_mul a N).symm
            have m2 : (a : Int) * (N : Int) * (N : Int) = ((a * N * N : Nat) : Int) := by rw [m1, ← Int.natCast_mul]
            have m3 : (a : Int) * (N : Int) * (N : Int) + (c : Int) = ((a * N * N + c : Nat) : Int) := by rw [m2, ← Int.natCast_add]
            have g0 : List.getD x1.2.1 (a * N * N + c) 0 = at3 kn1 a 0 c := by
              have := R1.k a 0 c h6 (by omega) h7
              rw [Nat.add_zero] at this; exact this
            have lt0 := at_lt (N := N) (a := a) (b := 0) (c := c) h6 (by omega) h7
            rw [Nat.add_zero] at lt0
            have hab0 : (a + 1) * N ≤ N * N := Nat.mul_le_mul_right N h6
            rw [Nat.add_mul] at hab0
            simp only [m3, Int.toNat_natCast, g0]
            refine ⟨inK_i64.2 (by rw [m1]; omega), inK_i64.2 (by rw [m2]; omega), inK_i64.2 (by omega), by omega, by omega, ⟨(0, at3 kn1 a 0 c), ⟨by simp only; omega, rfl⟩, rfl, rfl⟩, fun ⟨b, v⟩ ⟨hb, hv⟩ => ⟨fun h8 => ?_, fun h8 => ?_⟩⟩
            · simp only at hb hv h8 ⊢
              have h8 : b < N := by have := of_decide_eq_true h8; omega
              have m4 : ((a : Int) * (N : Int) + (b : Int)) * (N : Int) + (c : Int) = (((a * N + b) * N + c : Nat) : Int) := by
                rw [m1, ← Int.natCast_add, ← Int.natCast_mul, ← Int.natCast_add]
              have m5 : ((a : Int) * (N : Int) + (b : Int)) * (N : Int) = (((a * N + b) * N : Nat) : Int) := by
                rw [m1, ← Int.natCast_add, ← Int.natCast_mul]
              have e4 : List.getD x1.2.1 ((a * N + b) * N + c) 0 = at3 kn1 a b c := R1.k a b c h6 h8 h7
              have kx := know_at kn1 a b c (by omega) (by omega) (by omega)
              have lt := at_lt h6 h8 h7
              simp only [m4, Int.toNat_natCast, e4, kx, eq_self, decide_true, Bool.not_true]
              refine ⟨inK_i64.2 (by rw [m1]; omega), inK_i64.2 (by rw [m1]; omega), inK_i64.2 (by rw [m5]; omega), inK_i64.2 (by omega), by omega, by omega, td, fun h => absurd h (by decide), fun _ => ⟨fun h9 => ?_, fun h9 => ?_⟩⟩
              · have h9 := of_decide_eq_true h9
                rw [hv] at h9
                exact ⟨inK_i64.2 (by omega), (b + 1, at3 kn1 a b c), ⟨by simp only; omega, (if_pos h9).symm⟩, by simp only; omega, rfl, rfl⟩
              · have h9 := of_decide_eq_false h9
                rw [hv] at h9
                exact ⟨inK_i64.2 (by omega), (b + 1, v), ⟨by simp only; omega, hv.trans (if_neg h9).symm⟩, by simp only; omega, rfl, rfl⟩
            · simp only at hb hv h8 ⊢
              have h8 := of_decide_eq_false h8
              have hbN : b = N := by omega
              subst hbN
              have sx := stab_lst kn1 a c (by omega) (by omega)
              rw [hn1, ← hv] at sx
              simp only [sx, eq_self, decide_true, Bool.not_true]
              exact ⟨td, fun h => absurd h (by decide), fun _ => ⟨inK_i64.2 (by omega), c + 1, by omega, by omega, by omega⟩⟩
          · exact ⟨inK_i64.2 (by omega), a + 1, by omega, by omega, by omega⟩
        · exact ⟨inK_i64.2 (by omega), (i + 1, kn1, dn1, x1), ⟨⟨h3, h80⟩, R1⟩, by simp only; omega, rfl, rfl, rfl, rfl⟩
    all_goals
      have td : ∃ s : L3 × List Int × Unit, some (kn, dn, ()) = some s ∧ TdOk s := ⟨_, rfl, R.ok.n5, R.ok.sh⟩
      have hn1 := R.ln
      have k1 := know_off kn (-1) 0 0 (by omega)
      have k2 := know_off kn 0 (N : Int) 0 (by omega)
      have k3 := know_off kn 0 0 (N : Int) (by omega)
      have s1 := stab_off kn (N : Int) 0 (by omega)
      have s2 := stab_off kn 0 (-1) (by omega)
      simp only [k1, k2, k3, s1, s2, eq_self, decide_true]
      exact ⟨td, fun _ => ⟨td, fun _ => ⟨td, fun _ => ⟨td, fun _ => ⟨td, hk⟩, fun h => absurd h (by decide)⟩, fun h => absurd h (by decide)⟩, fun h => absurd h (by decide)⟩, fun h => absurd h (by decide)⟩
  · have hn : ¬ (1 ≤ n ∧ n ≤ 5) := fun h => by rw [inB_iff.2 h] at hb; cases hb
    have c1 : inK .i64 1 := inK_i64.2 (by omega)
    exact ⟨fun _ => ⟨c1, hk⟩, fun h1 => ⟨fun _ => ⟨c1, hk⟩, fun h2 => absurd ⟨by have := of_decide_eq_false h1; omega, by have := of_decide_eq_false h2; omega⟩ hn⟩⟩
theorem okPlays : PlainOk Tryd.prog glK 4 (cdet [I, .sl (.sl I)] (fun (_ : Int) (_ : List (List Int)) => True) (fun _ _ => [⟨.bool, true⟩])) := by
  refine plain_of (CxOk.mk' Ey_ok rfl mixed (gl := glK) (GOk.cons okError Tryd.func7 rfl rfl (GOk.cons okKnowsX Tryd.func19 rfl rfl (GOk.cons okStableX Tryd.func20 rfl rfl (GOk.cons okNewY Tryd.func14 rfl rfl (GOk.cons okWrY Tryd.func15 rfl rfl (GOk.cons okTlY Tryd.func17 rfl rfl GOk.nil)))))) (GoOk.cons okNew Tryd.func13 rfl rfl (GoOk.cons okWriteX Tryd.func16 rfl rfl (GoOk.cons okTellX Tryd.func18 rfl rfl GoOk.nil))) noIt) Tryd.func4 (c := Tryd.f4.body.getD .skip) (rvs := [(.tmp 4, .bool)]) (by kernel_rfl) (by kernel_rfl) (by kernel_rfl) ?_
  intro ds k ⟨hp, hk⟩ hwf
  obtain ⟨n, l, rfl, -⟩ := dest2 hp
  exact ⟨_, plays_vc n l k (wf2 hwf).2.1 hk⟩
theorem glOkT {W : World} (h : laidMetH Tryd.prog Rows.tablePlaysRow.laid W) : GlOk glK W fun b => b < W.heap.size := glE_of (.head _) h
end Go.Proofs.YtjgdpblaghhfhaaDoor.T
