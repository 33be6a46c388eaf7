/- Own texts, merged: As, Def, Told, Err, Def2, Def3, Def4, V4, V3, M, V2, V, Ok, VE, Erk, M2, M3, Ok2, Ok3, Ok4, Ok5, Ok6, Ok7, Gl, T5. -/
import Derived.Test.YtpidkjpjjidghaaDoorChecked
import Derived.WalkKit
import Derived.LaidEql
import Derived.Stop.Asserts
import Derived.RowKitTokens
import Derived.Test.YtpidkjpjjidghaaDoorRows
import Derived.Test.YtpidkjpjjidghaaDoorVcQ
import Derived.Test.YtpidkjpjjidghaaDoorVcPA
namespace Go.Proofs.YtpidkjpjjidghaaDoor
open Go.RowKit Go.Extern.Stop Go.Stop Go.Extern

/-- errors.As(nil, target). -/
theorem as_nil (t : Value) (w : World) :
    Calls Tryd.prog 23 #[.nilIface, t] w fun e w' => e = .returned (.bool false) ∧ w' = w := by
  go_enter Tryd.func23, Tryd.ntmps23
  go_wp2
  go_ret
  exact ⟨rfl, rfl⟩

/-! ### CLOSED FACTS ON THE MODEL's ENTRIES FOR internal/reflectlite, at this program's types: 25: *p.E · 27: **p.E · 23: error · 45: reflectlite's rtype · 1: how many package-level variables the dump has -/
theorem Tas.valueOf27 (t : Addr) (w : World) : (ReflectliteValue.unpack (.iface 57 (.pointer (some t)))).run Tryd.prog w
    = .ok (.agg #[.pointer (some ⟨1, 57, none⟩), .pointer (some ⟨w.heap.size, 0, none⟩), .int .u64 150]) (w.alloc (.cells #[.pointer (some t)] 57)) := by kernel_rfl
theorem Tas.type27 (a : Addr) (w : World) : (ReflectliteValue.methodAny (ReflectliteValue.valueError "reflectlite.Value.Type" 0) (fun t _ _ _ => ReflectliteType.toType t) #[.agg #[.pointer (some ⟨1, 57, none⟩), .pointer (some a), .int .u64 150]]).run Tryd.prog w
    = .ok (.iface 71 (.agg #[.pointer (some ⟨1, 57, none⟩)])) w := by kernel_rfl
theorem Tas.methodKind (h : Value) (w : World) : (Go.method 214 71 (.agg #[h]) "Kind").run Tryd.prog w = .ok (45, h) w := by kernel_rfl
theorem Tas.kind27 (w : World) : ((ReflectliteType.abiMethod fun t => (fun a : Nat => Value.int IntKind.u8 (a : Int)) <$> Rtype.kind t) #[.pointer (some ⟨1, 57, none⟩)]).run Tryd.prog w = .ok (.int .u8 22) w := by kernel_rfl
theorem Tas.kind25 (w : World) : ((ReflectliteType.abiMethod fun t => (fun a : Nat => Value.int IntKind.u8 (a : Int)) <$> Rtype.kind t) #[.pointer (some ⟨1, 48, none⟩)]).run Tryd.prog w = .ok (.int .u8 2) w := by kernel_rfl

/-! ### THE ENTRIES THAT READ OR WRITE MEMORY: laws with a premise on the cell (after Derived/Lib/ReflectliteSlice.lean's manner: each unfolding a lemma of its own, by rfl) -/
theorem rlm (z : Sem Value) (f : TypeId → Addr → Nat → Nat → Sem Value) (v : Value) :
    ReflectliteValue.method z f #[v] = (do match ← ReflectliteValue.parts v with | none => z | some (t, a, fl) => f t a fl (fl % 32)) := rfl
theorem Tas.parts27 (a : Addr) (w : World) : (ReflectliteValue.parts (.agg #[.pointer (some ⟨1, 57, none⟩), .pointer (some a), .int .u64 150])).run Tryd.prog w = .ok (some (57, a, 150)) w := by kernel_rfl
/-- (Value).IsNil at the Value of a **p.E that is not nil. -/
theorem Tas.isNil27 (a p : Addr) (W : World) (ha : W.cell? a = some (.pointer (some p))) :
    (ReflectliteValue.method (ReflectliteValue.valueError "reflectlite.Value.IsNil" 0) ReflectliteValue.isNil #[.agg #[.pointer (some ⟨1, 57, none⟩), .pointer (some a), .int .u64 150]]).run Tryd.prog W = .ok (.bool false) W := by
  rw [rlm]
  simp only [Sem.run_bind, Tas.parts27, Result.andThen]
  simp [ReflectliteValue.isNil, loadVar, isAgg, underlying, Tryd.underlying57, ha, Result.andThen]

theorem Tas.methodElem (h : Value) (w : World) : (Go.method 214 71 (.agg #[h]) "Elem").run Tryd.prog w = .ok (55, .agg #[h]) w := by kernel_rfl
theorem Tas.methodImplements (h : Value) (w : World) : (Go.method 214 71 (.agg #[h]) "Implements").run Tryd.prog w = .ok (56, .agg #[h]) w := by kernel_rfl
theorem Tas.methodAssignableTo (h : Value) (w : World) : (Go.method 214 71 (.agg #[h]) "AssignableTo").run Tryd.prog w = .ok (53, .agg #[h]) w := by kernel_rfl
theorem Tas.elem27 (w : World) : (ReflectliteType.method ReflectliteType.elem #[.agg #[.pointer (some ⟨1, 57, none⟩)]]).run Tryd.prog w = .ok (.iface 71 (.agg #[.pointer (some ⟨1, 48, none⟩)])) w := by kernel_rfl
theorem Tas.implements25 (w : World) : (ReflectliteType.relation "Implements" ReflectliteType.implements_ #[.agg #[.pointer (some ⟨1, 48, none⟩)], .iface 71 (.agg #[.pointer (some ⟨1, 26, none⟩)])]).run Tryd.prog w = .ok (.bool true) w := by kernel_rfl
theorem Tas.typeOf25 (v : Value) (w : World) : (ReflectliteType.typeOf #[.iface 48 v]).run Tryd.prog w = .ok (.iface 71 (.agg #[.pointer (some ⟨1, 48, none⟩)])) w := by kernel_rfl
theorem Tas.assignable25 (w : World) : (ReflectliteType.relation "AssignableTo" ReflectliteType.assignableTo #[.agg #[.pointer (some ⟨1, 48, none⟩)], .iface 71 (.agg #[.pointer (some ⟨1, 48, none⟩)])]).run Tryd.prog w = .ok (.bool true) w := by kernel_rfl
theorem Tas.valueOf25 (e : Int) (w : World) : (ReflectliteValue.unpack (.iface 48 (.int .i64 e))).run Tryd.prog w
    = .ok (.agg #[.pointer (some ⟨1, 48, none⟩), .pointer (some ⟨w.heap.size, 0, none⟩), .int .u64 130]) (w.alloc (.cells #[.int .i64 e] 48)) := by kernel_rfl

theorem Tas.elemOf27 (w : World) : (Rtype.elem? 57).run Tryd.prog w = .ok (some 48) w := by kernel_rfl
theorem Tas.mk25 (p : Addr) (w : World) : (ReflectliteValue.mk 48 p ReflectliteValue.flagAddr).run Tryd.prog w = .ok (.agg #[.pointer (some ⟨1, 48, none⟩), .pointer (some p), .int .u64 386]) w := by kernel_rfl
/-- (Value).Elem at the Value of a **p.E that is not nil: the Value of the *p.E variable that it points to, addressable. -/
theorem Tas.elemV27 (a p : Addr) (W : World) (ha : W.cell? a = some (.pointer (some p))) :
    (ReflectliteValue.method (ReflectliteValue.valueError "reflectlite.Value.Elem" 0) ReflectliteValue.elem #[.agg #[.pointer (some ⟨1, 57, none⟩), .pointer (some a), .int .u64 150]]).run Tryd.prog W
      = .ok (.agg #[.pointer (some ⟨1, 48, none⟩), .pointer (some p), .int .u64 386]) W := by
  rw [rlm]
  simp only [Sem.run_bind, Tas.parts27, Result.andThen]
  simp [ReflectliteValue.elem, loadVar, isAgg, underlying, Tryd.underlying57, ha, Result.andThen, Tas.elemOf27, Tas.mk25]
theorem rls (v x : Value) : ReflectliteValue.set #[v, x] = (do
    let (some (dst, a, fl), some (src, b, _)) := (← ReflectliteValue.parts v, ← ReflectliteValue.parts x)
      | unsupported (.noEntry "extern/(internal/reflectlite.Value).Set.zeroValue")
    if fl / ReflectliteValue.flagAddr % 2 == 0 then unsupported (.noEntry "extern/(internal/reflectlite.Value).Set.unaddressable")
    let val ← loadVar src b
    if ← Rtype.directlyAssignable dst src then storeVar dst a val
    else if ← Rtype.implements dst src then
      if (← Rtype.kind src) == 20 then
        match val with
        | .nilIface => unsupported (.noEntry "extern/reflectlite: a nil value of one interface type handed on as a value of another")
        | _ => storeVar dst a val
      else storeVar dst a (.iface src val)
    else panicString ("reflectlite.Set: value of type " ++ (← Rtype.spelt src) ++ " is not assignable to type " ++ (← Rtype.spelt dst))
    pure (.tuple #[])) := rfl
theorem Tas.parts25a (a : Addr) (w : World) : (ReflectliteValue.parts (.agg #[.pointer (some ⟨1, 48, none⟩), .pointer (some a), .int .u64 386])).run Tryd.prog w = .ok (some (48, a, 386)) w := by kernel_rfl
theorem Tas.parts25 (a : Addr) (w : World) : (ReflectliteValue.parts (.agg #[.pointer (some ⟨1, 48, none⟩), .pointer (some a), .int .u64 130])).run Tryd.prog w = .ok (some (48, a, 130)) w := by kernel_rfl
theorem Tas.direct25 (w : World) : (Rtype.directlyAssignable 48 48).run Tryd.prog w = .ok true w := by kernel_rfl
theorem Tas.size25 (w : World) : (sizeOf 48).run Tryd.prog w = .ok 1 w := by kernel_rfl
/-- (Value).Set: the *p.E variable at 'ta' gets what the Value's own variable 'b' holds. -/
theorem Tas.set25 (ta b : Addr) (e : Int) (old : Value) (W : World) (hb : W.cell? b = some (.int .i64 e)) (ht : W.cell? ta = some old) (hf : W.frozen? ta = false) :
    (ReflectliteValue.set #[.agg #[.pointer (some ⟨1, 48, none⟩), .pointer (some ta), .int .u64 386], .agg #[.pointer (some ⟨1, 48, none⟩), .pointer (some b), .int .u64 130]]).run Tryd.prog W
      = .ok (.tuple #[]) (W.setCell ta (.int .i64 e)) := by
  rw [rls]
  simp only [Sem.run_bind, Tas.parts25a, Tas.parts25, Result.andThen]
  simp [ReflectliteValue.flagAddr, loadVar, isAgg, underlying, Tryd.underlying48, hb, Result.andThen, Tas.direct25, storeVar, Value.cells, storeCells, Addr.add]
  rw [run_store Tryd.prog W ta _ _ (by rfl)]
  simp [ht, hf]

set_option maxRecDepth 100000 in
set_option maxHeartbeats 4000000 in
theorem as_hit (e : Int) (t : Addr) (old : Value) (w : World) (hg : w.cell? ⟨0, 0, none⟩ = some (.iface 71 (.agg #[.pointer (some ⟨1, 26, none⟩)]))) (ht0 : w.cell? t = some old) (hf0 : w.frozen? t = false) :
    Calls Tryd.prog 23 #[.iface 48 (.int .i64 e), .iface 57 (.pointer (some t))] w fun ev w' => ev = .returned (.bool true) ∧ w' = ((((w.alloc (.cells #[.pointer (some t)] 57)).alloc (.cells #[.pointer (some ⟨1, 57, none⟩), .pointer (some ⟨w.heap.size, 0, none⟩), .int .u64 150] 61)).alloc (.cells #[.pointer (some ⟨1, 57, none⟩), .pointer (some ⟨w.heap.size, 0, none⟩), .int .u64 150] 61)).alloc (.cells #[.int .i64 e] 48)).setCell t (.int .i64 e) := by
  have h6 := @run_callFunc_extern Tryd.prog 24 _ (fun args => ReflectliteValue.unpack (args.getD 0 (.tuple #[]))) Tryd.func24 (by kernel_rfl) (by kernel_rfl) (by kernel_rfl) (by kernel_rfl)
  have h7 := @run_callFunc_extern Tryd.prog 25 _ (ReflectliteValue.methodAny (ReflectliteValue.valueError "reflectlite.Value.Type" 0) (fun t _ _ _ => ReflectliteType.toType t)) Tryd.func25 (by kernel_rfl) (by kernel_rfl) (by kernel_rfl) (by kernel_rfl)
  have h8 := @run_callFunc_extern Tryd.prog 26 _ (ReflectliteValue.method (ReflectliteValue.valueError "reflectlite.Value.IsNil" 0) ReflectliteValue.isNil) Tryd.func26 (by kernel_rfl) (by kernel_rfl) (by kernel_rfl) (by kernel_rfl)
  have h27 := @run_callFunc_extern Tryd.prog 45 _ (ReflectliteType.abiMethod fun t => do pure (.int .u8 (← Rtype.kind t))) Tryd.func45 (by kernel_rfl) (by kernel_rfl) (by kernel_rfl) (by kernel_rfl)
  have h37 := @run_callFunc_extern Tryd.prog 55 _ (ReflectliteType.method ReflectliteType.elem) Tryd.func55 (by kernel_rfl) (by kernel_rfl) (by kernel_rfl) (by kernel_rfl)
  have h38 := @run_callFunc_extern Tryd.prog 56 _ (ReflectliteType.relation "Implements" ReflectliteType.implements_) Tryd.func56 (by kernel_rfl) (by kernel_rfl) (by kernel_rfl) (by kernel_rfl)
  have h10 := @run_callFunc_extern Tryd.prog 28 _ ReflectliteType.typeOf Tryd.func28 (by kernel_rfl) (by kernel_rfl) (by kernel_rfl) (by kernel_rfl)
  have h35 := @run_callFunc_extern Tryd.prog 53 _ (ReflectliteType.relation "AssignableTo" ReflectliteType.assignableTo) Tryd.func53 (by kernel_rfl) (by kernel_rfl) (by kernel_rfl) (by kernel_rfl)
  have h11 := @run_callFunc_extern Tryd.prog 29 _ (ReflectliteValue.method (ReflectliteValue.valueError "reflectlite.Value.Elem" 0) ReflectliteValue.elem) Tryd.func29 (by kernel_rfl) (by kernel_rfl) (by kernel_rfl) (by kernel_rfl)
  have h12 := @run_callFunc_extern Tryd.prog 30 _ ReflectliteValue.set Tryd.func30 (by kernel_rfl) (by kernel_rfl) (by kernel_rfl) (by kernel_rfl)
  have tO := Tas.typeOf25
  have mA := Tas.methodAssignableTo
  have a25 := Tas.assignable25
  have v25 := Tas.valueOf25
  have f6 := Tas.valueOf27
  have f7 := Tas.type27
  have mK := Tas.methodKind
  have mE := Tas.methodElem
  have mI := Tas.methodImplements
  have k27 := Tas.kind27
  have k25 := Tas.kind25
  have e27 := Tas.elem27
  have i25 := Tas.implements25
  have n8 := Tas.isNil27 ⟨w.heap.size, 0, none⟩ t ((w.alloc (.cells #[.pointer (some t)] 57)).alloc (.cells #[.pointer (some ⟨1, 57, none⟩), .pointer (some ⟨w.heap.size, 0, none⟩), .int .u64 150] 61)) (by simp)
  have hlt : 0 < w.heap.size := by
    rcases Nat.eq_zero_or_pos w.heap.size with h0 | h
    · simp [World.cell?, h0] at hg
    · exact h
  have hg2 : ((w.alloc (.cells #[.pointer (some t)] 57)).alloc (.cells #[.pointer (some ⟨1, 57, none⟩), .pointer (some ⟨w.heap.size, 0, none⟩), .int .u64 150] 61)).cell? ⟨0, 0, none⟩ = some (.iface 71 (.agg #[.pointer (some ⟨1, 26, none⟩)])) := by
    rw [World.cell?_alloc_lt _ _ ⟨0, 0, none⟩ (by simp), World.cell?_alloc_lt _ _ ⟨0, 0, none⟩ hlt]; exact hg
  have htl : t.block < w.heap.size := by
    rcases Nat.lt_or_ge t.block w.heap.size with h | h
    · exact h
    · simp [World.cell?, Array.getElem?_eq_none h] at ht0
  have el := Tas.elemV27 ⟨w.heap.size, 0, none⟩ t (((w.alloc (.cells #[.pointer (some t)] 57)).alloc (.cells #[.pointer (some ⟨1, 57, none⟩), .pointer (some ⟨w.heap.size, 0, none⟩), .int .u64 150] 61)).alloc (.cells #[.pointer (some ⟨1, 57, none⟩), .pointer (some ⟨w.heap.size, 0, none⟩), .int .u64 150] 61)) (by rw [World.cell?_alloc_lt _ _ ⟨w.heap.size, 0, none⟩ (by simp; omega)]; simp)
  have st := Tas.set25 t ⟨w.heap.size + 1 + 1 + 1, 0, none⟩ e old ((((w.alloc (.cells #[.pointer (some t)] 57)).alloc (.cells #[.pointer (some ⟨1, 57, none⟩), .pointer (some ⟨w.heap.size, 0, none⟩), .int .u64 150] 61)).alloc (.cells #[.pointer (some ⟨1, 57, none⟩), .pointer (some ⟨w.heap.size, 0, none⟩), .int .u64 150] 61)).alloc (.cells #[.int .i64 e] 48))
    (by rw [World.cell?_alloc_at _ _ _ _ (by simp)]; rfl)
    (by rw [World.cell?_alloc_lt _ _ t (by simp; omega), World.cell?_alloc_lt _ _ t (by simp; omega), World.cell?_alloc_lt _ _ t (by simp; omega), World.cell?_alloc_lt _ _ t htl]; exact ht0)
    (by rw [World.frozen?_alloc_old _ _ t (by simp; omega), World.frozen?_alloc_old _ _ t (by simp; omega), World.frozen?_alloc_old _ _ t (by simp; omega), World.frozen?_alloc_old _ _ t (Nat.ne_of_lt htl)]; exact hf0)
  go_enter Tryd.func23, Tryd.ntmps23
  go_wp2
  refine wp_loop_rounds 1 ?_
  rw [rounds_succ]
  go_wp2
  go_ret
  exact ⟨rfl, rfl⟩
end Go.Proofs.YtpidkjpjjidghaaDoor

/- The edits' functions: what each answers. -/
namespace Go.Proofs.YtpidkjpjjidghaaDoor
open Go.Vc
abbrev I : Ty := .int .i64
abbrev tEdit : Ty := .pr I (.pr I (.pr I .un))
abbrev tErr : Ty := .err 48
def Ee : Env := { tys := [(3, .int .i64), (4, .bool), (5, .int .u8), (9, .str), (23, .pr I (.pr I (.pr I .un))), (26, .err 48), (49, .sl (.int .u8))], errT := 48, eqs := [], els := [(49, 5)] }
theorem Ee_ok : EnvOk Tryd.prog Ee := EnvOk.of_list (by kernel_rfl) (by kernel_rfl) (by kernel_rfl)
def inB (n lo hi : Int) : Bool := decide (lo ≤ n) && decide (n ≤ hi)
def cWithin : Ctr := cdet [I, I, I] (fun _ _ _ => True) (fun a b c => [⟨.bool, inB a b c⟩])
def editOk (e : Int × Int × Int × Unit) : Bool := inB e.1 0 60 && inB e.2.1 (-2) 255 && inB e.2.2.1 0 4
def chk (e : Int × Int × Int × Unit) : Int := if editOk e then 0 else 1
def cCheck : Ctr := cdet [tEdit] (fun _ => True) (fun e => [⟨tErr, chk e⟩])
/-- the place and byte of an edit turned over another one -/
def turned (e f : Int × Int × Int × Unit) : Int × Int × Int × Unit :=
  if e.2.1 = -2 ∨ f.2.1 = -2 then e
  else if 0 ≤ f.2.1 then (if f.1 < e.1 ∨ f.1 = e.1 ∧ (e.2.1 < 0 ∨ f.2.2.1 < e.2.2.1) then (e.1 + 1, e.2) else e)
  else if f.1 < e.1 then (e.1 - 1, e.2)
  else if f.1 = e.1 ∧ e.2.1 < 0 then (e.1, -2, e.2.2)
  else e
def turnErr (e f : Int × Int × Int × Unit) : Int :=
  if editOk e = false then 1 else if editOk f = false then 1 else if e.2.2.1 = f.2.2.1 then 6
  else if 60 < (turned e f).1 then 4 else 0
def turn (e f : Int × Int × Int × Unit) : Int × Int × Int × Unit := if turnErr e f = 0 then turned e f else (0, 0, 0, ())
def cTurn : Ctr := cdet [tEdit, tEdit] (fun _ _ => True) (fun e f => [⟨tEdit, turn e f⟩, ⟨tErr, turnErr e f⟩])
def appErr (s : List UInt8) (e : Int × Int × Int × Unit) : Int :=
  if 60 < s.length then 4 else if editOk e = false then 1 else if e.2.1 = -2 then 0
  else if e.2.1 = -1 then (if (s.length : Int) ≤ e.1 then 5 else 0)
  else if (s.length : Int) < e.1 then 5 else if s.length = 60 then 4 else 0
def app (s : List UInt8) (e : Int × Int × Int × Unit) : List UInt8 :=
  if appErr s e = 0 then (if e.2.1 = -2 then s else if e.2.1 = -1 then s.take e.1.toNat ++ s.drop (e.1 + 1).toNat else s.take e.1.toNat ++ bstr [e.2.1] ++ s.drop e.1.toNat) else []
def cApply : Ctr := cdet [.str, tEdit] (fun _ _ => True) (fun s e => [⟨.str, app s e⟩, ⟨tErr, appErr s e⟩])
def cFact : Ctr := cdet [] True [⟨.bool, true⟩]
def cTrue2 (a b : Ty) : Ctr := cdet [a, b] (fun _ _ => True) (fun _ _ => [⟨.bool, true⟩])
end Go.Proofs.YtpidkjpjjidghaaDoor

/- The number of an error, as the program tells it. -/
namespace Go.Proofs.YtpidkjpjjidghaaDoor
open Go.RowKit Go.Extern.Stop Go.Stop Go.Extern Go.Vc

theorem fr_alloc (w : World) (o : Obj) : Fr (fun _ => False) w (w.alloc o) := ⟨rfl, rfl, rfl, by simp, fun b hb _ => Ext.alloc w o b hb⟩

theorem told_nil (w : World) : Calls Tryd.prog 18 #[.nilIface] w fun e w' => e = .returned (.int .i64 0) ∧ w' = w := by
  go_enter Tryd.func18, Tryd.ntmps18
  go_wp2
  go_ret
  exact ⟨rfl, rfl⟩

set_option maxRecDepth 100000 in
set_option maxHeartbeats 4000000 in
theorem told_hit (n : Int) (w : World) (hg : w.cell? ⟨0, 0, none⟩ = some (.iface 71 (.agg #[.pointer (some ⟨1, 26, none⟩)]))) :
    Calls Tryd.prog 18 #[.iface 48 (.int .i64 n)] w fun e w' => e = .returned (.int .i64 n) ∧ Fr (fun _ => False) w w' := by
  have hlt : 0 < w.heap.size := by
    rcases Nat.eq_zero_or_pos w.heap.size with h0 | h
    · simp [World.cell?, h0] at hg
    · exact h
  have hgA : (w.alloc (.cells #[.int .i64 0] 48)).cell? ⟨0, 0, none⟩ = some (.iface 71 (.agg #[.pointer (some ⟨1, 26, none⟩)])) := by
    rw [World.cell?_alloc_lt _ _ ⟨0, 0, none⟩ hlt]; exact hg
  have htA : (w.alloc (.cells #[.int .i64 0] 48)).cell? ⟨w.heap.size, 0, none⟩ = some (.int .i64 0) := by simp
  have hfA : (w.alloc (.cells #[.int .i64 0] 48)).frozen? ⟨w.heap.size, 0, none⟩ = false := by simp
  go_enter Tryd.func18, Tryd.ntmps18
  go_wp2_with (go_at_call 23; refine (as_hit n _ (.int .i64 0) _ hgA htA hfA).mono ?_; rintro e w' ⟨rfl, rfl⟩)
  go_ret
  exact ⟨rfl, ((((fr_alloc _ _).trans (fr_alloc _ _)).trans (fr_alloc _ _)).trans (fr_alloc _ _)).trans (fr_alloc _ _)⟩

/-- the handle of the type 'error' -/
abbrev hdE : Value := .iface 71 (.agg #[.pointer (some ⟨1, 26, none⟩)])
def glE : List (Nat × Dat) := [(0, ⟨.raw, hdE⟩)]
theorem hd_of {w : World} {ro : Nat → Prop} (h : GlOk glE w ro) : w.cell? ⟨0, 0, none⟩ = some hdE := by
  obtain ⟨_, us, h1, hn⟩ := h 0 _ (List.mem_singleton.2 rfl)
  have hn : us = [hdE] ∧ hdE.oneCell' = true := hn
  exact h1 0 hdE (by rw [hn.1]; rfl)
def cTold : Ctr := cdet [tErr] (fun (n : Int) => inK .i64 n) (fun (n : Int) => [⟨I, n⟩])
theorem okTold : PlainOk Tryd.prog glE 18 cTold := by
  intro ds k hs w R0 vals hR0 hG hD
  obtain ⟨hp, hk⟩ := hs
  obtain ⟨n, rfl, hin⟩ := dest1 hp
  have hk : k [⟨I, n⟩] := hk
  obtain ⟨hl, hd⟩ := hD
  match vals, hl with
  | [v], _ =>
    have hv : Ty.okV w R0 tErr n v := hd 0 ⟨tErr, n⟩ v rfl rfl
    unfold Ty.okV at hv
    simp only [Ty.agg, Bool.false_eq_true, if_false, Ty.ok] at hv
    have hok : ∀ {w' : World} {ro : Nat → Prop}, inK .i64 n → RetOk w' ro [(⟨I, n⟩ : Dat)] (.int .i64 n) := by
      intro w' ro hn
      show Ty.okV _ _ I n _
      unfold Ty.okV
      simp only [Ty.agg, Bool.false_eq_true, if_false, Ty.ok]
      exact ⟨trivial, hn⟩
    rcases hv with ⟨h0, hv⟩ | ⟨h0, hv⟩
    · injection hv with hv
      subst hv
      have h0 : (0 : Int) = n := h0.symm
      subst h0
      refine (show Calls Tryd.prog 18 #[.nilIface] w _ from told_nil w).mono fun e w' ⟨he, hw⟩ => ?_
      subst hw
      exact ⟨Fr.refl _ _, [⟨I, (0 : Int)⟩], _, he, hk, hok hin⟩
    · injection hv with hv
      subst hv
      refine (show Calls Tryd.prog 18 #[.iface 48 (.int .i64 n)] w _ from told_hit n w (hd_of hG)).mono fun e w' ⟨he, hw⟩ => ?_
      exact ⟨hw, [⟨I, n⟩], _, he, hk, hok hin⟩
end Go.Proofs.YtpidkjpjjidghaaDoor

/- Is an error the one with a number? -/
namespace Go.Proofs.YtpidkjpjjidghaaDoor
open Go.Vc
def cError : Ctr := cdet [tErr, I] (fun (n _ : Int) => inK .i64 n ∧ True) (fun (n e : Int) => [⟨.bool, decide (n = e)⟩])
def Er : Env := { tys := [(3, I), (4, .bool), (26, tErr), (48, I)], errT := 48, eqs := [], els := [] }
theorem Er_ok : EnvOk Tryd.prog Er := EnvOk.of_list (by kernel_rfl) (by kernel_rfl) (by kernel_rfl)
end Go.Proofs.YtpidkjpjjidghaaDoor

/- Edits: EditOne. -/
namespace Go.Proofs.YtpidkjpjjidghaaDoor
open Go.Vc
abbrev Ed := Int × Int × Int × Unit
abbrev cOne : Ctr := cdet [.str, tEdit, tEdit] (fun _ _ _ => True) (fun _ _ _ => [⟨.bool, true⟩])
end Go.Proofs.YtpidkjpjjidghaaDoor

/- Edits: lists of them. -/
namespace Go.Proofs.YtpidkjpjjidghaaDoor
open Go.Vc
abbrev tEds : Ty := .sl tEdit
def Em : Env := { tys := [(3, .int .i64), (4, .bool), (5, .int .u8), (9, .str), (23, .pr I (.pr I (.pr I .un))), (26, .err 48), (33, .sl tEdit), (49, .sl (.int .u8)), (53, .ar 2 (.sl tEdit))], errT := 48, eqs := [], els := [(49, 5), (33, 23)] }
theorem Em_ok : EnvOk Tryd.prog Em := EnvOk.of_list (by kernel_rfl) (by kernel_rfl) (by kernel_rfl)

/-- an edit passed by a list: what is wrong; the edits of the list behind it; it behind them -/
def pE : Ed → List Ed → Int
  | _, [] => 0
  | e, x :: r => if turnErr x e = 0 then (if turnErr e x = 0 then pE (turn e x) r else turnErr e x) else turnErr x e
def pO : Ed → List Ed → List Ed
  | _, [] => []
  | e, x :: r => if pE e (x :: r) = 0 then turn x e :: pO (turn e x) r else []
def pF : Ed → List Ed → Ed
  | e, [] => e
  | e, x :: r => if turnErr x e = 0 then (if turnErr e x = 0 then pF (turn e x) r else turn e x) else e
def cPass : Ctr := cgen [tEdit, tEds] fun e l (k : List Dat → Prop) => l.length ≤ 8 ∧ k [⟨tEdit, pF e l⟩, ⟨tEds, pO e l⟩, ⟨tErr, pE e l⟩]
def anPass (e : Ed) (l : List Ed) : Ann :=
  [joinAll, loopAt 3 (Nat × Ed × List Ed) [(7, 23, tEdit)] (fun st g => { St.at (St.only st [2, 4, 5, 6, 7, 12, 13]) [(14, .d I (g.1 : Int))] with ob := (st.ob.set 0 (.var 23 tEdit g.2.1)).set 2 (.row 23 tEdit g.2.2) })
    (fun _ g => g.1 ≤ l.length ∧ pE e l = pE g.2.1 (l.drop g.1) ∧ pF e l = pF g.2.1 (l.drop g.1) ∧ (pE e l = 0 → pO e l = g.2.2 ++ pO g.2.1 (l.drop g.1)) ∧ g.2.2.length = g.1) (fun g => l.length - g.1)]

/-- all edits of a list, one behind the other -/
def allE : List UInt8 → List Ed → Int
  | _, [] => 0
  | s, e :: r => if appErr s e = 0 then allE (app s e) r else appErr s e
def allS : List UInt8 → List Ed → List UInt8
  | s, [] => s
  | s, e :: r => if appErr s e = 0 then allS (app s e) r else []
def cAll : Ctr := cdet [.str, tEds] (fun _ _ => True) (fun s l => [⟨.str, allS s l⟩, ⟨tErr, allE s l⟩])
def anAll (s : List UInt8) (l : List Ed) : Ann :=
  [joinAll, loopAt 2 (Nat × List UInt8) [] (fun st g => St.at (St.only st [1]) [(0, .d .str g.2), (6, .d I (g.1 : Int))])
    (fun _ g => g.1 ≤ l.length ∧ allE s l = allE g.2 (l.drop g.1) ∧ allS s l = allS g.2 (l.drop g.1)) (fun g => l.length - g.1)]

/-- two lists, each behind the other one -/
def rE : List Ed → List Ed → Int
  | [], _ => 0
  | e :: r, b => if pE e b = 0 then rE r (pO e b) else pE e b
def rA : List Ed → List Ed → List Ed
  | [], _ => []
  | e :: r, b => pF e b :: rA r (pO e b)
def rB : List Ed → List Ed → List Ed
  | [], b => b
  | e :: r, b => rB r (pO e b)
def someWho (b : List Ed) (x : Ed) : Bool := b.any fun y => decide (x.2.2.1 = y.2.2.1)
def meetE (a b : List Ed) : Int := if 8 < a.length ∨ 8 < b.length then 4 else if (a.all editOk && b.all editOk) = false then 1 else if a.any (someWho b) = true then 6 else rE a b
def meetA (a b : List Ed) : List Ed := if meetE a b = 0 then rA a b else []
def meetB (a b : List Ed) : List Ed := if meetE a b = 0 then rB a b else []
def cMeet : Ctr := cgen [tEds, tEds] fun a b (k : List Dat → Prop) => k [⟨tEds, meetA a b⟩, ⟨tEds, meetB a b⟩, ⟨tErr, meetE a b⟩]
def two (a b : List Ed) (i : Nat) : List Ed := [a, b].getD i []
def anMeet (a b : List Ed) : Ann :=
  [joinAll,
   loopAt 4 Nat [] (fun st i => St.at (St.only st [0, 1, 4, 5, 6, 33]) [(34, .d I (i : Int))]) (fun _ i => i ≤ 2 ∧ ((List.range i).all fun n => (two a b n).all editOk) = true) (fun i => 2 - i),
   loopAt 7 Nat [] (fun st j => St.at (St.only st [0, 1, 4, 5, 6, 33, 34, 37, 38]) [(39, .d I (j : Int))])
     (fun st j => j ≤ (two a b (st.i 34).toNat).length ∧ ((two a b (st.i 34).toNat).take j).all editOk = true) (fun j => 8 - j),
   loopAt 15 Nat [] (fun st i => St.at (St.only st [0, 1, 4, 5, 6, 50, 51]) [(52, .d I (i : Int))]) (fun _ i => i ≤ a.length ∧ (a.take i).any (someWho b) = false) (fun i => a.length - i),
   loopAt 18 Nat [] (fun st j => St.at (St.only st [0, 1, 4, 5, 6, 13, 50, 51, 52, 56, 57]) [(58, .d I (j : Int))])
     (fun st j => j ≤ b.length ∧ someWho (b.take j) (a.getD (st.i 52).toNat (0, 0, 0, ())) = false) (fun j => b.length - j),
   loopAt 26 (Nat × List Ed × List Ed) [(16, 23, tEdit)] (fun st g => { St.at (St.only st [4, 5, 6, 16, 70, 71]) [(1, .d tEds g.2.1), (72, .d I (g.1 : Int))] with ob := st.ob.set 0 (.row 23 tEdit g.2.2) })
     (fun _ g => g.1 ≤ a.length ∧ a.length ≤ 8 ∧ meetE a b = rE a b ∧ rE a b = rE (a.drop g.1) g.2.1 ∧ (rE a b = 0 → rA a b = g.2.2 ++ rA (a.drop g.1) g.2.1 ∧ rB a b = rB (a.drop g.1) g.2.1) ∧ g.2.1.length ≤ 8 ∧ g.2.2.length = g.1)
     (fun g => a.length - g.1)]
end Go.Proofs.YtpidkjpjjidghaaDoor

/- Edits: the document's answers. -/
namespace Go.Proofs.YtpidkjpjjidghaaDoor
open Go.Vc
def Eq_ : Env := { Em with eqs := [23] }
theorem Eq_ok : EnvOk Tryd.prog Eq_ := EnvOk.of_list (by kernel_rfl) (by kernel_rfl) (by kernel_rfl)
def cREdit : Ctr := cdet [tEdit] (fun _ => True) (fun e => [⟨I, chk e⟩])
def cMoved : Ctr := cdet [tEdit, tEdit] (fun e f => editOk e = true ∧ editOk f = true) (fun e f => [⟨tEdit, turned e f⟩])
def cRTurn : Ctr := cdet [tEdit, tEdit] (fun _ _ => True) (fun e f => [⟨tEdit, turn e f⟩, ⟨I, turnErr e f⟩])
def cRApply : Ctr := cdet [.str, tEdit] (fun _ _ => True) (fun s e => [⟨.str, app s e⟩, ⟨I, appErr s e⟩])
def cRMeet : Ctr := cgen [tEds, tEds] fun a b (k : List Dat → Prop) => k [⟨tEds, meetA a b⟩, ⟨tEds, meetB a b⟩, ⟨I, meetE a b⟩]
def cEdits : Ctr := cdet [tEds, tEds] (fun _ _ => True) (fun a b => [⟨.bool, decide (a = b)⟩])
/-- the bytes of an edited text, one after the other -/
def stepB (s : List UInt8) (e : Ed) (k : Nat) : List Int :=
  (if (k : Int) = e.1 ∧ 0 ≤ e.2.1 then [e.2.1] else []) ++ (if k < s.length ∧ ((k : Int) ≠ e.1 ∨ 0 ≤ e.2.1) then [((s.getD k 0).toNat : Int)] else [])
def bytesB (s : List UInt8) (e : Ed) (i : Nat) : List Int := ((List.range i).map (stepB s e)).flatten
def anRApply (s : List UInt8) (e : Ed) : Ann :=
  [joinAll, freezeAt 19 [6], loopAt 11 Nat [(6, 5, .int .u8)] (fun st i => { St.at (St.only st [0, 3, 6]) [(7, .d I (i : Int))] with ob := st.ob.set 1 (.row 5 (.int .u8) (bytesB s e i)) })
    (fun _ i => i ≤ s.length + 1 ∧ True) (fun i => s.length + 1 - i),
   meetAt 9 Nat [] (fun st _ => St.only st [0, 3]) (fun _ _ => e.1 ≤ s.length ∧ (e.2.1 = -1 → e.1 < s.length)),
   meetAt 15 Nat [] (fun st _ => { St.only st [0, 3, 6, 7] with ob := [.var 23 tEdit e, .row 5 (.int .u8) (bytesB s e (st.i 7).toNat ++ (if ((st.i 7).toNat : Int) = e.1 ∧ 0 ≤ e.2.1 then [e.2.1] else []))] }) (fun _ _ => True ∧ True)]
def anEdits (a b : List Ed) : Ann :=
  [joinAll, loopAt 4 Nat [] (fun st i => St.at (St.only st [0, 1, 4]) [(5, .d I (i : Int))]) (fun _ i => i ≤ a.length ∧ a.length = b.length ∧ a.take i = b.take i) (fun i => a.length - i)]
def okLs (l : List Ed) : Bool := l.all editOk
structure OutP (a b : List Ed) (i : Nat) (xs ys : List Ed) : Prop where
  all : i ≤ a.length ∧ xs.length = a.length ∧ ys.length = b.length ∧ xs.drop i = a.drop i ∧ okLs ys = true ∧ a.any (someWho ys) = false ∧ rE a b = rE (a.drop i) ys ∧
    (rE a b = 0 → rA a b = xs.take i ++ rA (a.drop i) ys ∧ rB a b = rB (a.drop i) ys)
structure InP (a b : List Ed) (i j : Nat) (xs ys : List Ed) : Prop where
  all : ∃ xs0 ys0 done e e0, OutP a b i xs0 ys0 ∧ i < a.length ∧ a[i]? = some e0 ∧ xs = xs0.set i e ∧ ys = done ++ ys0.drop j ∧ done.length = j ∧ j ≤ ys0.length ∧
    pE e0 ys0 = pE e (ys0.drop j) ∧ pF e0 ys0 = pF e (ys0.drop j) ∧ (pE e0 ys0 = 0 → pO e0 ys0 = done ++ pO e (ys0.drop j)) ∧ editOk e = true ∧ e.2.2.1 = e0.2.2.1 ∧ okLs done = true ∧
    done.map (·.2.2.1) = (ys0.take j).map (·.2.2.1)
def anRMeet (a b : List Ed) : Ann :=
  [joinAll,
   loopAt 4 Nat [] (fun st i => St.at (St.only st [0, 1, 4, 5, 6]) [(7, .d I (i : Int))]) (fun _ i => i ≤ a.length ∧ okLs (a.take i) = true) (fun i => a.length - i),
   loopAt 9 Nat [] (fun st i => St.at (St.only st [0, 1, 4, 5, 6]) [(8, .d I (i : Int))]) (fun _ i => i ≤ b.length ∧ okLs (b.take i) = true) (fun i => b.length - i),
   loopAt 14 Nat [] (fun st i => St.at (St.only st [0, 1, 4, 5, 6]) [(9, .d I (i : Int))]) (fun _ i => i ≤ a.length ∧ (a.take i).any (someWho b) = false) (fun i => a.length - i),
   loopAt 17 Nat [] (fun st j => St.at (St.only st [0, 1, 4, 5, 6, 9]) [(10, .d I (j : Int))])
     (fun st j => j ≤ b.length ∧ someWho (b.take j) (a.getD (st.i 9).toNat (0, 0, 0, ())) = false) (fun j => b.length - j),
   loopAt 25 (Nat × List Ed × List Ed) [] (fun st g => { St.at (St.only st [4, 5, 6, 11, 12]) [(13, .d I (g.1 : Int))] with ob := [.row 23 tEdit g.2.1, .row 23 tEdit g.2.2] })
     (fun _ g => OutP a b g.1 g.2.1 g.2.2) (fun g => a.length - g.1),
   loopAt 28 (Nat × List Ed × List Ed) [] (fun st g => { St.at (St.only st [4, 5, 6, 11, 12, 13]) [(14, .d I (g.1 : Int))] with ob := [.row 23 tEdit g.2.1, .row 23 tEdit g.2.2] })
     (fun st g => InP a b (st.i 13).toNat g.1 g.2.1 g.2.2 ∧ 0 ≤ st.i 13) (fun g => b.length - g.1)]
end Go.Proofs.YtpidkjpjjidghaaDoor

/- What the functions of this seat have to satisfy, by program: each verification condition in plain words. -/
namespace Go.Proofs.YtpidkjpjjidghaaDoor
open Go.Vc
set_option linter.unusedVariables false
theorem vcIn (a b c : Int) (k : List Dat → Prop) : vcF ⟨Eq_, [], glE, [], []⟩ [joinAll] (Tryd.f20.body.getD .skip) Tryd.f20.ntmps [(.tmp 6, .bool)] [⟨I, a⟩, ⟨I, b⟩, ⟨I, c⟩] k = (
  (decide (b ≤ a) = true → k [Dat.mk Ty.bool (decide (a ≤ c))]) ∧ (decide (b ≤ a) = false → k [Dat.mk Ty.bool false])) := by kernel_rfl
theorem vcREdit (e : Ed) (k : List Dat → Prop) : vcF ⟨Eq_, [(20, cWithin)], glE, [], []⟩ [joinAll] (Tryd.f11.body.getD .skip) Tryd.f11.ntmps [(.tmp 2, I)] [⟨tEdit, e⟩] k = (
  True ∧ ((!inB e.fst (0 : Int) (60 : Int)) = true → k [Dat.mk (I) (1 : Int)]) ∧ ((!inB e.fst (0 : Int) (60 : Int)) = false → True ∧ ((!inB e.snd.fst (-2 : Int) (255 : Int)) = true → k [Dat.mk (I) (1 : Int)]) ∧ ((!inB e.snd.fst (-2 : Int) (255 : Int)) = false → True ∧ ((!inB e.snd.snd.fst (0 : Int) (4 : Int)) = true → k [Dat.mk (I) (1 : Int)]) ∧ ((!inB e.snd.snd.fst (0 : Int) (4 : Int)) = false → k [Dat.mk (I) (0 : Int)])))) := by kernel_rfl
theorem vcMoved (e f : Ed) (k : List Dat → Prop) : vcF ⟨Eq_, [], glE, [], []⟩ [joinAll] (Tryd.f21.body.getD .skip) Tryd.f21.ntmps [(.cell 4 23, tEdit)] [⟨tEdit, e⟩, ⟨tEdit, f⟩] k = (
  (decide (e.snd.fst = (-2 : Int)) = true → k [Dat.mk (tEdit) e]) ∧ (decide (e.snd.fst = (-2 : Int)) = false → (decide (f.snd.fst = (-2 : Int)) = true → k [Dat.mk (tEdit) e]) ∧ (decide (f.snd.fst = (-2 : Int)) = false → (decide (f.snd.fst = (-1 : Int)) = true → (decide (f.fst = e.fst) = true → (decide (e.snd.fst = (-1 : Int)) = true → (decide (f.fst < e.fst) = true → inK IntKind.i64 (e.fst - (1 : Int)) ∧ k [Dat.mk (tEdit) (e.fst - (1 : Int), (-2 : Int), e.snd.snd)]) ∧ (decide (f.fst < e.fst) = false → k [Dat.mk (tEdit) (e.fst, (-2 : Int), e.snd.snd)])) ∧ (decide (e.snd.fst = (-1 : Int)) = false → (decide (f.fst < e.fst) = true → inK IntKind.i64 (e.fst - (1 : Int)) ∧ k [Dat.mk (tEdit) (e.fst - (1 : Int), e.snd)]) ∧ (decide (f.fst < e.fst) = false → k [Dat.mk (tEdit) e]))) ∧ (decide (f.fst = e.fst) = false → (decide (f.fst < e.fst) = true → inK IntKind.i64 (e.fst - (1 : Int)) ∧ k [Dat.mk (tEdit) (e.fst - (1 : Int), e.snd)]) ∧ (decide (f.fst < e.fst) = false → k [Dat.mk (tEdit) e]))) ∧ (decide (f.snd.fst = (-1 : Int)) = false → (decide (f.fst < e.fst) = true → inK IntKind.i64 (e.fst + (1 : Int)) ∧ k [Dat.mk (tEdit) (e.fst + (1 : Int), e.snd)]) ∧ (decide (f.fst < e.fst) = false → (decide (f.fst = e.fst) = true → (decide (e.snd.fst = (-1 : Int)) = true → inK IntKind.i64 (e.fst + (1 : Int)) ∧ k [Dat.mk (tEdit) (e.fst + (1 : Int), e.snd)]) ∧ (decide (e.snd.fst = (-1 : Int)) = false → (decide (f.snd.snd.fst < e.snd.snd.fst) = true → inK IntKind.i64 (e.fst + (1 : Int)) ∧ k [Dat.mk (tEdit) (e.fst + (1 : Int), e.snd)]) ∧ (decide (f.snd.snd.fst < e.snd.snd.fst) = false → k [Dat.mk (tEdit) e]))) ∧ (decide (f.fst = e.fst) = false → k [Dat.mk (tEdit) e])))))) := by kernel_rfl
theorem vcRTurn (e f : Ed) (k : List Dat → Prop) : vcF ⟨Eq_, [(11, cREdit), (21, cMoved)], glE, [], []⟩ [joinAll] (Tryd.f13.body.getD .skip) Tryd.f13.ntmps [(.cell 4 23, tEdit), (.tmp 5, I)] [⟨tEdit, e⟩, ⟨tEdit, f⟩] k = (
  True ∧ ((!decide (chk e = (0 : Int))) = true → k [Dat.mk (tEdit) ((0 : Int), (0 : Int), (0 : Int), ()), Dat.mk (I) (1 : Int)]) ∧ ((!decide (chk e = (0 : Int))) = false → True ∧ ((!decide (chk f = (0 : Int))) = true → k [Dat.mk (tEdit) ((0 : Int), (0 : Int), (0 : Int), ()), Dat.mk (I) (1 : Int)]) ∧ ((!decide (chk f = (0 : Int))) = false → (decide (e.snd.snd.fst = f.snd.snd.fst) = true → k [Dat.mk (tEdit) ((0 : Int), (0 : Int), (0 : Int), ()), Dat.mk (I) (6 : Int)]) ∧ (decide (e.snd.snd.fst = f.snd.snd.fst) = false → (editOk e = true ∧ editOk f = true) ∧ (decide ((60 : Int) < (turned e f).fst) = true → k [Dat.mk (tEdit) ((0 : Int), (0 : Int), (0 : Int), ()), Dat.mk (I) (4 : Int)]) ∧ (decide ((60 : Int) < (turned e f).fst) = false → k [Dat.mk (tEdit) (turned e f), Dat.mk (I) (0 : Int)]))))) := by kernel_rfl
theorem vcRApply (s : List UInt8) (e : Ed) (k : List Dat → Prop) : vcF ⟨Eq_, [(11, cREdit)], glE, [], []⟩ (anRApply s e) (Tryd.f12.body.getD .skip) Tryd.f12.ntmps [(.tmp 4, .str), (.tmp 5, I)] [⟨.str, s⟩, ⟨tEdit, e⟩] k = (
  (decide ((60 : Int) < (↑s.length : Int)) = true → k [Dat.mk Ty.str [], Dat.mk (I) (4 : Int)]) ∧ (decide ((60 : Int) < (↑s.length : Int)) = false → True ∧ ((!decide (chk e = (0 : Int))) = true → k [Dat.mk Ty.str [], Dat.mk (I) (1 : Int)]) ∧ ((!decide (chk e = (0 : Int))) = false → (decide (e.snd.fst = (-2 : Int)) = true → k [Dat.mk Ty.str s, Dat.mk (I) (0 : Int)]) ∧ (decide (e.snd.fst = (-2 : Int)) = false → ((decide (e.snd.fst = (-1 : Int)) = true → (decide ((↑s.length : Int) ≤ e.fst) = true → k [Dat.mk Ty.str [], Dat.mk (I) (5 : Int)]) ∧ (decide ((↑s.length : Int) ≤ e.fst) = false → (decide ((↑s.length : Int) < e.fst) = true → k [Dat.mk Ty.str [], Dat.mk (I) (5 : Int)]) ∧ (decide ((↑s.length : Int) < e.fst) = false → ∃ (x : Nat), (e.fst ≤ (↑s.length : Int) ∧ (e.snd.fst = (-1 : Int) → e.fst < (↑s.length : Int))) ∧ (s = s ∧ ([] : List Nat) = [] ∧ True) ∧ (((23 : Nat) = (23 : Nat) ∧ e = e) ∧ True) ∧ hdE = hdE ∧ True))) ∧ (decide (e.snd.fst = (-1 : Int)) = false → (decide ((↑s.length : Int) < e.fst) = true → k [Dat.mk Ty.str [], Dat.mk (I) (5 : Int)]) ∧ (decide ((↑s.length : Int) < e.fst) = false → ∃ (x : Nat), (e.fst ≤ (↑s.length : Int) ∧ (e.snd.fst = (-1 : Int) → e.fst < (↑s.length : Int))) ∧ (s = s ∧ ([] : List Nat) = [] ∧ True) ∧ (((23 : Nat) = (23 : Nat) ∧ e = e) ∧ True) ∧ hdE = hdE ∧ True))) ∧ ∀ (x : Nat), e.fst ≤ (↑s.length : Int) ∧ (e.snd.fst = (-1 : Int) → e.fst < (↑s.length : Int)) → (∃ (x : Nat), (x ≤ s.length + (1 : Nat) ∧ True) ∧ (s = s ∧ ([] : List Nat) = [] ∧ True ∧ (0 : Int) = (↑x : Int) ∧ True) ∧ (((23 : Nat) = (23 : Nat) ∧ e = e) ∧ ((5 : Nat) = (5 : Nat) ∧ [] = bytesB s e x) ∧ True) ∧ hdE = hdE ∧ True) ∧ ∀ (x : Nat), x ≤ s.length + (1 : Nat) ∧ True → (decide ((↑x : Int) ≤ (↑s.length : Int)) = true → ((decide ((↑x : Int) = e.fst) = true → (decide ((0 : Int) ≤ e.snd.fst) = true → inK IntKind.u8 e.snd.fst ∧ (bytesB s e x).length + ((List.replicate (1 : Nat) (0 : Int)).set (0 : Nat) e.snd.fst).length ≤ (1000000000 : Nat) ∧ ∃ (x_1 : Nat), (True ∧ True) ∧ (s = s ∧ ([] : List Nat) = [] ∧ True ∧ (↑x : Int) = (↑x : Int) ∧ True) ∧ (((23 : Nat) = (23 : Nat) ∧ e = e) ∧ ((5 : Nat) = (5 : Nat) ∧ (bytesB s e x).append ((List.replicate (1 : Nat) (0 : Int)).set (0 : Nat) e.snd.fst) = bytesB s e (↑x : Int).toNat ++ if (↑(↑x : Int).toNat : Int) = e.fst ∧ (0 : Int) ≤ e.snd.fst then [e.snd.fst] else []) ∧ True) ∧ hdE = hdE ∧ True) ∧ (decide ((0 : Int) ≤ e.snd.fst) = false → ∃ (x_1 : Nat), (True ∧ True) ∧ (s = s ∧ ([] : List Nat) = [] ∧ True ∧ (↑x : Int) = (↑x : Int) ∧ True) ∧ (((23 : Nat) = (23 : Nat) ∧ e = e) ∧ ((5 : Nat) = (5 : Nat) ∧ bytesB s e x = bytesB s e (↑x : Int).toNat ++ if (↑(↑x : Int).toNat : Int) = e.fst ∧ (0 : Int) ≤ e.snd.fst then [e.snd.fst] else []) ∧ True) ∧ hdE = hdE ∧ True)) ∧ (decide ((↑x : Int) = e.fst) = false → ∃ (x_1 : Nat), (True ∧ True) ∧ (s = s ∧ ([] : List Nat) = [] ∧ True ∧ (↑x : Int) = (↑x : Int) ∧ True) ∧ (((23 : Nat) = (23 : Nat) ∧ e = e) ∧ ((5 : Nat) = (5 : Nat) ∧ bytesB s e x = bytesB s e (↑x : Int).toNat ++ if (↑(↑x : Int).toNat : Int) = e.fst ∧ (0 : Int) ≤ e.snd.fst then [e.snd.fst] else []) ∧ True) ∧ hdE = hdE ∧ True)) ∧ ∀ (x_1 : Nat), True ∧ True → (decide ((↑x : Int) < (↑s.length : Int)) = true → ((!decide ((↑x : Int) = e.fst)) = true → (0 : Int) ≤ (↑x : Int) ∧ (↑x : Int) < (↑s.length : Int) ∧ (bytesB s e (↑x : Int).toNat ++ if (↑(↑x : Int).toNat : Int) = e.fst ∧ (0 : Int) ≤ e.snd.fst then [e.snd.fst] else []).length + ((List.replicate (1 : Nat) (0 : Int)).set (0 : Nat) (↑(s.getD (↑x : Int).toNat (0 : UInt8)).toNat : Int)).length ≤ (1000000000 : Nat) ∧ inK IntKind.i64 ((↑x : Int) + (1 : Int)) ∧ ∃ (x_2 : Nat), (x_2 ≤ s.length + (1 : Nat) ∧ True) ∧ s.length + (1 : Nat) - x_2 < s.length + (1 : Nat) - x ∧ (s = s ∧ ([] : List Nat) = [] ∧ True ∧ (↑x : Int) + (1 : Int) = (↑x_2 : Int) ∧ True) ∧ (((23 : Nat) = (23 : Nat) ∧ e = e) ∧ ((5 : Nat) = (5 : Nat) ∧ (bytesB s e (↑x : Int).toNat ++ if (↑(↑x : Int).toNat : Int) = e.fst ∧ (0 : Int) ≤ e.snd.fst then [e.snd.fst] else []).append ((List.replicate (1 : Nat) (0 : Int)).set (0 : Nat) (↑(s.getD (↑x : Int).toNat (0 : UInt8)).toNat : Int)) = bytesB s e x_2) ∧ True) ∧ hdE = hdE ∧ True) ∧ ((!decide ((↑x : Int) = e.fst)) = false → (decide ((0 : Int) ≤ e.snd.fst) = true → (0 : Int) ≤ (↑x : Int) ∧ (↑x : Int) < (↑s.length : Int) ∧ (bytesB s e (↑x : Int).toNat ++ if (↑(↑x : Int).toNat : Int) = e.fst ∧ (0 : Int) ≤ e.snd.fst then [e.snd.fst] else []).length + ((List.replicate (1 : Nat) (0 : Int)).set (0 : Nat) (↑(s.getD (↑x : Int).toNat (0 : UInt8)).toNat : Int)).length ≤ (1000000000 : Nat) ∧ inK IntKind.i64 ((↑x : Int) + (1 : Int)) ∧ ∃ (x_2 : Nat), (x_2 ≤ s.length + (1 : Nat) ∧ True) ∧ s.length + (1 : Nat) - x_2 < s.length + (1 : Nat) - x ∧ (s = s ∧ ([] : List Nat) = [] ∧ True ∧ (↑x : Int) + (1 : Int) = (↑x_2 : Int) ∧ True) ∧ (((23 : Nat) = (23 : Nat) ∧ e = e) ∧ ((5 : Nat) = (5 : Nat) ∧ (bytesB s e (↑x : Int).toNat ++ if (↑(↑x : Int).toNat : Int) = e.fst ∧ (0 : Int) ≤ e.snd.fst then [e.snd.fst] else []).append ((List.replicate (1 : Nat) (0 : Int)).set (0 : Nat) (↑(s.getD (↑x : Int).toNat (0 : UInt8)).toNat : Int)) = bytesB s e x_2) ∧ True) ∧ hdE = hdE ∧ True) ∧ (decide ((0 : Int) ≤ e.snd.fst) = false → inK IntKind.i64 ((↑x : Int) + (1 : Int)) ∧ ∃ (x_2 : Nat), (x_2 ≤ s.length + (1 : Nat) ∧ True) ∧ s.length + (1 : Nat) - x_2 < s.length + (1 : Nat) - x ∧ (s = s ∧ ([] : List Nat) = [] ∧ True ∧ (↑x : Int) + (1 : Int) = (↑x_2 : Int) ∧ True) ∧ (((23 : Nat) = (23 : Nat) ∧ e = e) ∧ ((5 : Nat) = (5 : Nat) ∧ (bytesB s e (↑x : Int).toNat ++ if (↑(↑x : Int).toNat : Int) = e.fst ∧ (0 : Int) ≤ e.snd.fst then [e.snd.fst] else []) = bytesB s e x_2) ∧ True) ∧ hdE = hdE ∧ True))) ∧ (decide ((↑x : Int) < (↑s.length : Int)) = false → inK IntKind.i64 ((↑x : Int) + (1 : Int)) ∧ ∃ (x_2 : Nat), (x_2 ≤ s.length + (1 : Nat) ∧ True) ∧ s.length + (1 : Nat) - x_2 < s.length + (1 : Nat) - x ∧ (s = s ∧ ([] : List Nat) = [] ∧ True ∧ (↑x : Int) + (1 : Int) = (↑x_2 : Int) ∧ True) ∧ (((23 : Nat) = (23 : Nat) ∧ e = e) ∧ ((5 : Nat) = (5 : Nat) ∧ (bytesB s e (↑x : Int).toNat ++ if (↑(↑x : Int).toNat : Int) = e.fst ∧ (0 : Int) ≤ e.snd.fst then [e.snd.fst] else []) = bytesB s e x_2) ∧ True) ∧ hdE = hdE ∧ True)) ∧ (decide ((↑x : Int) ≤ (↑s.length : Int)) = false → (decide ((60 : Int) < (↑(bytesB s e x).length : Int)) = true → k [Dat.mk Ty.str [], Dat.mk (I) (4 : Int)]) ∧ (decide ((60 : Int) < (↑(bytesB s e x).length : Int)) = false → k [Dat.mk Ty.str (bstr (bytesB s e x)), Dat.mk (I) (0 : Int)])))))) := by kernel_rfl
theorem vcRMeet (a b : List Ed) (k : List Dat → Prop) : vcF ⟨Eq_, [(11, cREdit), (21, cMoved)], glE, [], []⟩ (anRMeet a b) (Tryd.f14.body.getD .skip) Tryd.f14.ntmps [(.tmp 4, tEds), (.tmp 5, tEds), (.tmp 6, I)] [⟨tEds, a⟩, ⟨tEds, b⟩] k = (
  (decide ((8 : Int) < (↑a.length : Int)) = true → k [Dat.mk (tEdit).sl [], Dat.mk (tEdit).sl [], Dat.mk (I) (4 : Int)]) ∧ (decide ((8 : Int) < (↑a.length : Int)) = false → (decide ((8 : Int) < (↑b.length : Int)) = true → k [Dat.mk (tEdit).sl [], Dat.mk (tEdit).sl [], Dat.mk (I) (4 : Int)]) ∧ (decide ((8 : Int) < (↑b.length : Int)) = false → (∃ (x : Nat), (x ≤ a.length ∧ okLs (List.take x a) = true) ∧ (a = a ∧ b = b ∧ True ∧ True ∧ (0 : Int) = (0 : Int) ∧ (0 : Int) = (↑x : Int) ∧ True) ∧ True ∧ hdE = hdE ∧ True) ∧ ∀ (x : Nat), x ≤ a.length ∧ okLs (List.take x a) = true → (decide ((↑x : Int) < (↑a.length : Int)) = true → (0 : Int) ≤ (↑x : Int) ∧ (↑x : Int) < (↑a.length : Int) ∧ True ∧ ((!decide (chk (a.getD (↑x : Int).toNat ((0 : Int), (0 : Int), (0 : Int), ())) = (0 : Int))) = true → k [Dat.mk (tEdit).sl [], Dat.mk (tEdit).sl [], Dat.mk (I) (1 : Int)]) ∧ ((!decide (chk (a.getD (↑x : Int).toNat ((0 : Int), (0 : Int), (0 : Int), ())) = (0 : Int))) = false → inK IntKind.i64 ((↑x : Int) + (1 : Int)) ∧ ∃ (x_1 : Nat), (x_1 ≤ a.length ∧ okLs (List.take x_1 a) = true) ∧ a.length - x_1 < a.length - x ∧ (a = a ∧ b = b ∧ True ∧ True ∧ (0 : Int) = (0 : Int) ∧ (↑x : Int) + (1 : Int) = (↑x_1 : Int) ∧ True) ∧ True ∧ hdE = hdE ∧ True)) ∧ (decide ((↑x : Int) < (↑a.length : Int)) = false → (∃ (x : Nat), (x ≤ b.length ∧ okLs (List.take x b) = true) ∧ (a = a ∧ b = b ∧ True ∧ True ∧ (0 : Int) = (0 : Int) ∧ (0 : Int) = (↑x : Int) ∧ True) ∧ True ∧ hdE = hdE ∧ True) ∧ ∀ (x : Nat), x ≤ b.length ∧ okLs (List.take x b) = true → (decide ((↑x : Int) < (↑b.length : Int)) = true → (0 : Int) ≤ (↑x : Int) ∧ (↑x : Int) < (↑b.length : Int) ∧ True ∧ ((!decide (chk (b.getD (↑x : Int).toNat ((0 : Int), (0 : Int), (0 : Int), ())) = (0 : Int))) = true → k [Dat.mk (tEdit).sl [], Dat.mk (tEdit).sl [], Dat.mk (I) (1 : Int)]) ∧ ((!decide (chk (b.getD (↑x : Int).toNat ((0 : Int), (0 : Int), (0 : Int), ())) = (0 : Int))) = false → inK IntKind.i64 ((↑x : Int) + (1 : Int)) ∧ ∃ (x_1 : Nat), (x_1 ≤ b.length ∧ okLs (List.take x_1 b) = true) ∧ b.length - x_1 < b.length - x ∧ (a = a ∧ b = b ∧ True ∧ True ∧ (0 : Int) = (0 : Int) ∧ (↑x : Int) + (1 : Int) = (↑x_1 : Int) ∧ True) ∧ True ∧ hdE = hdE ∧ True)) ∧ (decide ((↑x : Int) < (↑b.length : Int)) = false → (∃ (x : Nat), (x ≤ a.length ∧ (List.take x a).any (someWho b) = false) ∧ (a = a ∧ b = b ∧ True ∧ True ∧ (0 : Int) = (0 : Int) ∧ (0 : Int) = (↑x : Int) ∧ True) ∧ True ∧ hdE = hdE ∧ True) ∧ ∀ (x : Nat), x ≤ a.length ∧ (List.take x a).any (someWho b) = false → (decide ((↑x : Int) < (↑a.length : Int)) = true → (∃ (x_1 : Nat), (x_1 ≤ b.length ∧ someWho (List.take x_1 b) (a.getD (↑x : Int).toNat ((0 : Int), (0 : Int), (0 : Int), ())) = false) ∧ (a = a ∧ b = b ∧ True ∧ True ∧ (0 : Int) = (0 : Int) ∧ (↑x : Int) = (↑x : Int) ∧ (0 : Int) = (↑x_1 : Int) ∧ True) ∧ True ∧ hdE = hdE ∧ True) ∧ ∀ (x_1 : Nat), x_1 ≤ b.length ∧ someWho (List.take x_1 b) (a.getD (↑x : Int).toNat ((0 : Int), (0 : Int), (0 : Int), ())) = false → (decide ((↑x_1 : Int) < (↑b.length : Int)) = true → ((0 : Int) ≤ (↑x : Int) ∧ (↑x : Int) < (↑a.length : Int) ∧ (0 : Int) ≤ (↑x_1 : Int) ∧ (↑x_1 : Int) < (↑b.length : Int) ∧ True) ∧ (decide ((a.getD (↑x : Int).toNat ((0 : Int), (0 : Int), (0 : Int), ())).snd.snd.fst = (b.getD (↑x_1 : Int).toNat ((0 : Int), (0 : Int), (0 : Int), ())).snd.snd.fst) = true → k [Dat.mk (tEdit).sl [], Dat.mk (tEdit).sl [], Dat.mk (I) (6 : Int)]) ∧ (decide ((a.getD (↑x : Int).toNat ((0 : Int), (0 : Int), (0 : Int), ())).snd.snd.fst = (b.getD (↑x_1 : Int).toNat ((0 : Int), (0 : Int), (0 : Int), ())).snd.snd.fst) = false → inK IntKind.i64 ((↑x_1 : Int) + (1 : Int)) ∧ ∃ (x_2 : Nat), (x_2 ≤ b.length ∧ someWho (List.take x_2 b) (a.getD (↑x : Int).toNat ((0 : Int), (0 : Int), (0 : Int), ())) = false) ∧ b.length - x_2 < b.length - x_1 ∧ (a = a ∧ b = b ∧ True ∧ True ∧ (0 : Int) = (0 : Int) ∧ (↑x : Int) = (↑x : Int) ∧ (↑x_1 : Int) + (1 : Int) = (↑x_2 : Int) ∧ True) ∧ True ∧ hdE = hdE ∧ True)) ∧ (decide ((↑x_1 : Int) < (↑b.length : Int)) = false → inK IntKind.i64 ((↑x : Int) + (1 : Int)) ∧ ∃ (x_2 : Nat), (x_2 ≤ a.length ∧ (List.take x_2 a).any (someWho b) = false) ∧ a.length - x_2 < a.length - x ∧ (a = a ∧ b = b ∧ True ∧ True ∧ (0 : Int) = (0 : Int) ∧ (↑x : Int) + (1 : Int) = (↑x_2 : Int) ∧ True) ∧ True ∧ hdE = hdE ∧ True)) ∧ (decide ((↑x : Int) < (↑a.length : Int)) = false → a.length ≤ (1000000000 : Nat) ∧ b.length ≤ (1000000000 : Nat) ∧ (∃ (x : Nat × List Ed × List Ed), OutP a b x.fst x.snd.fst x.snd.snd ∧ (True ∧ True ∧ (0 : Int) = (0 : Int) ∧ True ∧ True ∧ (0 : Int) = (↑x.fst : Int) ∧ True) ∧ (((23 : Nat) = (23 : Nat) ∧ a = x.snd.fst) ∧ ((23 : Nat) = (23 : Nat) ∧ b = x.snd.snd) ∧ True) ∧ hdE = hdE ∧ True) ∧ ∀ (x : Nat × List Ed × List Ed), OutP a b x.fst x.snd.fst x.snd.snd → (decide ((↑x.fst : Int) < (↑x.snd.fst.length : Int)) = true → (∃ (x_1 : Nat × List Ed × List Ed), (InP a b (↑x.fst : Int).toNat x_1.fst x_1.snd.fst x_1.snd.snd ∧ (0 : Int) ≤ (↑x.fst : Int)) ∧ (True ∧ True ∧ (0 : Int) = (0 : Int) ∧ True ∧ True ∧ (↑x.fst : Int) = (↑x.fst : Int) ∧ (0 : Int) = (↑x_1.fst : Int) ∧ True) ∧ (((23 : Nat) = (23 : Nat) ∧ x.snd.fst = x_1.snd.fst) ∧ ((23 : Nat) = (23 : Nat) ∧ x.snd.snd = x_1.snd.snd) ∧ True) ∧ hdE = hdE ∧ True) ∧ ∀ (x_1 : Nat × List Ed × List Ed), InP a b (↑x.fst : Int).toNat x_1.fst x_1.snd.fst x_1.snd.snd ∧ (0 : Int) ≤ (↑x.fst : Int) → (decide ((↑x_1.fst : Int) < (↑x_1.snd.snd.length : Int)) = true → (0 : Int) ≤ (↑x.fst : Int) ∧ (↑x.fst : Int) < (↑x_1.snd.fst.length : Int) ∧ (0 : Int) ≤ (↑x_1.fst : Int) ∧ (↑x_1.fst : Int) < (↑x_1.snd.snd.length : Int) ∧ (editOk (x_1.snd.fst.getD (↑x.fst : Int).toNat ((0 : Int), (0 : Int), (0 : Int), ())) = true ∧ editOk (x_1.snd.snd.getD (↑x_1.fst : Int).toNat ((0 : Int), (0 : Int), (0 : Int), ())) = true) ∧ (0 : Int) ≤ (↑x.fst : Int) ∧ (↑x.fst : Int) < (↑x_1.snd.fst.length : Int) ∧ (0 : Int) ≤ (↑x_1.fst : Int) ∧ (↑x_1.fst : Int) < (↑x_1.snd.snd.length : Int) ∧ (editOk (x_1.snd.fst.getD (↑x.fst : Int).toNat ((0 : Int), (0 : Int), (0 : Int), ())) = true ∧ editOk (x_1.snd.snd.getD (↑x_1.fst : Int).toNat ((0 : Int), (0 : Int), (0 : Int), ())) = true) ∧ (SV.nils = SV.nils ∧ SV.nils = SV.nils ∧ (0 : Int) = (0 : Int) ∧ SV.os (0 : Nat) = SV.os (0 : Nat) ∧ SV.os (1 : Nat) = SV.os (1 : Nat) ∧ (↑x.fst : Int) = (↑x.fst : Int) ∧ (↑x_1.fst : Int) = (↑x_1.fst : Int) ∧ (↑x_1.fst : Int) = (↑x_1.fst : Int) ∧ SV.os (1 : Nat) = SV.os (1 : Nat) ∧ (↑x_1.snd.snd.length : Int) = (↑x_1.snd.snd.length : Int) ∧ decide ((↑x_1.fst : Int) < (↑x_1.snd.snd.length : Int)) = decide ((↑x_1.fst : Int) < (↑x_1.snd.snd.length : Int)) ∧ SV.os (0 : Nat) = SV.os (0 : Nat) ∧ (↑x.fst : Int) = (↑x.fst : Int) ∧ SV.ea (tEdit) (0 : Nat) (↑x.fst : Int).toNat [] = SV.ea (tEdit) (0 : Nat) (↑x.fst : Int).toNat [] ∧ x_1.snd.fst.getD (↑x.fst : Int).toNat ((0 : Int), (0 : Int), (0 : Int), ()) = x_1.snd.fst.getD (↑x.fst : Int).toNat ((0 : Int), (0 : Int), (0 : Int), ()) ∧ SV.os (1 : Nat) = SV.os (1 : Nat) ∧ (↑x_1.fst : Int) = (↑x_1.fst : Int) ∧ SV.ea (tEdit) (1 : Nat) (↑x_1.fst : Int).toNat [] = SV.ea (tEdit) (1 : Nat) (↑x_1.fst : Int).toNat [] ∧ x_1.snd.snd.getD (↑x_1.fst : Int).toNat ((0 : Int), (0 : Int), (0 : Int), ()) = x_1.snd.snd.getD (↑x_1.fst : Int).toNat ((0 : Int), (0 : Int), (0 : Int), ()) ∧ turned (x_1.snd.fst.getD (↑x.fst : Int).toNat ((0 : Int), (0 : Int), (0 : Int), ())) (x_1.snd.snd.getD (↑x_1.fst : Int).toNat ((0 : Int), (0 : Int), (0 : Int), ())) = turned (x_1.snd.fst.getD (↑x.fst : Int).toNat ((0 : Int), (0 : Int), (0 : Int), ())) (x_1.snd.snd.getD (↑x_1.fst : Int).toNat ((0 : Int), (0 : Int), (0 : Int), ())) ∧ True) ∧ (0 : Int) ≤ (↑x_1.fst : Int) ∧ (↑x_1.fst : Int) < (↑x_1.snd.snd.length : Int) ∧ (0 : Int) ≤ (↑x.fst : Int) ∧ (↑x.fst : Int) < (↑x_1.snd.fst.length : Int) ∧ (editOk (x_1.snd.snd.getD (↑x_1.fst : Int).toNat ((0 : Int), (0 : Int), (0 : Int), ())) = true ∧ editOk (x_1.snd.fst.getD (↑x.fst : Int).toNat ((0 : Int), (0 : Int), (0 : Int), ())) = true) ∧ (0 : Int) ≤ (↑x_1.fst : Int) ∧ (↑x_1.fst : Int) < (↑x_1.snd.snd.length : Int) ∧ (0 : Int) ≤ (↑x.fst : Int) ∧ (↑x.fst : Int) < (↑x_1.snd.fst.length : Int) ∧ (editOk (x_1.snd.snd.getD (↑x_1.fst : Int).toNat ((0 : Int), (0 : Int), (0 : Int), ())) = true ∧ editOk (x_1.snd.fst.getD (↑x.fst : Int).toNat ((0 : Int), (0 : Int), (0 : Int), ())) = true) ∧ (SV.nils = SV.nils ∧ SV.nils = SV.nils ∧ (0 : Int) = (0 : Int) ∧ SV.os (0 : Nat) = SV.os (0 : Nat) ∧ SV.os (1 : Nat) = SV.os (1 : Nat) ∧ (↑x.fst : Int) = (↑x.fst : Int) ∧ (↑x_1.fst : Int) = (↑x_1.fst : Int) ∧ SV.pv (tEdit) (2 : Nat) [] = SV.pv (tEdit) (2 : Nat) [] ∧ (↑x_1.fst : Int) = (↑x_1.fst : Int) ∧ SV.os (1 : Nat) = SV.os (1 : Nat) ∧ (↑x_1.snd.snd.length : Int) = (↑x_1.snd.snd.length : Int) ∧ decide ((↑x_1.fst : Int) < (↑x_1.snd.snd.length : Int)) = decide ((↑x_1.fst : Int) < (↑x_1.snd.snd.length : Int)) ∧ SV.os (0 : Nat) = SV.os (0 : Nat) ∧ (↑x.fst : Int) = (↑x.fst : Int) ∧ SV.ea (tEdit) (0 : Nat) (↑x.fst : Int).toNat [] = SV.ea (tEdit) (0 : Nat) (↑x.fst : Int).toNat [] ∧ x_1.snd.fst.getD (↑x.fst : Int).toNat ((0 : Int), (0 : Int), (0 : Int), ()) = x_1.snd.fst.getD (↑x.fst : Int).toNat ((0 : Int), (0 : Int), (0 : Int), ()) ∧ SV.os (1 : Nat) = SV.os (1 : Nat) ∧ (↑x_1.fst : Int) = (↑x_1.fst : Int) ∧ SV.ea (tEdit) (1 : Nat) (↑x_1.fst : Int).toNat [] = SV.ea (tEdit) (1 : Nat) (↑x_1.fst : Int).toNat [] ∧ x_1.snd.snd.getD (↑x_1.fst : Int).toNat ((0 : Int), (0 : Int), (0 : Int), ()) = x_1.snd.snd.getD (↑x_1.fst : Int).toNat ((0 : Int), (0 : Int), (0 : Int), ()) ∧ turned (x_1.snd.fst.getD (↑x.fst : Int).toNat ((0 : Int), (0 : Int), (0 : Int), ())) (x_1.snd.snd.getD (↑x_1.fst : Int).toNat ((0 : Int), (0 : Int), (0 : Int), ())) = turned (x_1.snd.fst.getD (↑x.fst : Int).toNat ((0 : Int), (0 : Int), (0 : Int), ())) (x_1.snd.snd.getD (↑x_1.fst : Int).toNat ((0 : Int), (0 : Int), (0 : Int), ())) ∧ SV.os (1 : Nat) = SV.os (1 : Nat) ∧ (↑x_1.fst : Int) = (↑x_1.fst : Int) ∧ SV.ea (tEdit) (1 : Nat) (↑x_1.fst : Int).toNat [] = SV.ea (tEdit) (1 : Nat) (↑x_1.fst : Int).toNat [] ∧ x_1.snd.snd.getD (↑x_1.fst : Int).toNat ((0 : Int), (0 : Int), (0 : Int), ()) = x_1.snd.snd.getD (↑x_1.fst : Int).toNat ((0 : Int), (0 : Int), (0 : Int), ()) ∧ SV.os (0 : Nat) = SV.os (0 : Nat) ∧ (↑x.fst : Int) = (↑x.fst : Int) ∧ SV.ea (tEdit) (0 : Nat) (↑x.fst : Int).toNat [] = SV.ea (tEdit) (0 : Nat) (↑x.fst : Int).toNat [] ∧ x_1.snd.fst.getD (↑x.fst : Int).toNat ((0 : Int), (0 : Int), (0 : Int), ()) = x_1.snd.fst.getD (↑x.fst : Int).toNat ((0 : Int), (0 : Int), (0 : Int), ()) ∧ turned (x_1.snd.snd.getD (↑x_1.fst : Int).toNat ((0 : Int), (0 : Int), (0 : Int), ())) (x_1.snd.fst.getD (↑x.fst : Int).toNat ((0 : Int), (0 : Int), (0 : Int), ())) = turned (x_1.snd.snd.getD (↑x_1.fst : Int).toNat ((0 : Int), (0 : Int), (0 : Int), ())) (x_1.snd.fst.getD (↑x.fst : Int).toNat ((0 : Int), (0 : Int), (0 : Int), ())) ∧ True) ∧ (decide ((60 : Int) < (turned (x_1.snd.fst.getD (↑x.fst : Int).toNat ((0 : Int), (0 : Int), (0 : Int), ())) (x_1.snd.snd.getD (↑x_1.fst : Int).toNat ((0 : Int), (0 : Int), (0 : Int), ()))).fst) = true → k [Dat.mk (tEdit).sl [], Dat.mk (tEdit).sl [], Dat.mk (I) (4 : Int)]) ∧ (decide ((60 : Int) < (turned (x_1.snd.fst.getD (↑x.fst : Int).toNat ((0 : Int), (0 : Int), (0 : Int), ())) (x_1.snd.snd.getD (↑x_1.fst : Int).toNat ((0 : Int), (0 : Int), (0 : Int), ()))).fst) = false → (decide ((60 : Int) < (turned (x_1.snd.snd.getD (↑x_1.fst : Int).toNat ((0 : Int), (0 : Int), (0 : Int), ())) (x_1.snd.fst.getD (↑x.fst : Int).toNat ((0 : Int), (0 : Int), (0 : Int), ()))).fst) = true → k [Dat.mk (tEdit).sl [], Dat.mk (tEdit).sl [], Dat.mk (I) (4 : Int)]) ∧ (decide ((60 : Int) < (turned (x_1.snd.snd.getD (↑x_1.fst : Int).toNat ((0 : Int), (0 : Int), (0 : Int), ())) (x_1.snd.fst.getD (↑x.fst : Int).toNat ((0 : Int), (0 : Int), (0 : Int), ()))).fst) = false → (0 : Int) ≤ (↑x.fst : Int) ∧ (↑x.fst : Int) < (↑x_1.snd.fst.length : Int) ∧ (0 : Int) ≤ (↑x_1.fst : Int) ∧ (↑x_1.fst : Int) < (↑x_1.snd.snd.length : Int) ∧ inK IntKind.i64 ((↑x_1.fst : Int) + (1 : Int)) ∧ ∃ (x_2 : Nat × List Ed × List Ed), (InP a b (↑x.fst : Int).toNat x_2.fst x_2.snd.fst x_2.snd.snd ∧ (0 : Int) ≤ (↑x.fst : Int)) ∧ b.length - x_2.fst < b.length - x_1.fst ∧ (True ∧ True ∧ (0 : Int) = (0 : Int) ∧ True ∧ True ∧ (↑x.fst : Int) = (↑x.fst : Int) ∧ (↑x_1.fst : Int) + (1 : Int) = (↑x_2.fst : Int) ∧ True) ∧ (((23 : Nat) = (23 : Nat) ∧ x_1.snd.fst.set (↑x.fst : Int).toNat (turned (x_1.snd.fst.getD (↑x.fst : Int).toNat ((0 : Int), (0 : Int), (0 : Int), ())) (x_1.snd.snd.getD (↑x_1.fst : Int).toNat ((0 : Int), (0 : Int), (0 : Int), ()))) = x_2.snd.fst) ∧ ((23 : Nat) = (23 : Nat) ∧ x_1.snd.snd.set (↑x_1.fst : Int).toNat (turned (x_1.snd.snd.getD (↑x_1.fst : Int).toNat ((0 : Int), (0 : Int), (0 : Int), ())) (x_1.snd.fst.getD (↑x.fst : Int).toNat ((0 : Int), (0 : Int), (0 : Int), ()))) = x_2.snd.snd) ∧ True) ∧ hdE = hdE ∧ True))) ∧ (decide ((↑x_1.fst : Int) < (↑x_1.snd.snd.length : Int)) = false → inK IntKind.i64 ((↑x.fst : Int) + (1 : Int)) ∧ ∃ (x_2 : Nat × List Ed × List Ed), OutP a b x_2.fst x_2.snd.fst x_2.snd.snd ∧ a.length - x_2.fst < a.length - x.fst ∧ (True ∧ True ∧ (0 : Int) = (0 : Int) ∧ True ∧ True ∧ (↑x.fst : Int) + (1 : Int) = (↑x_2.fst : Int) ∧ True) ∧ (((23 : Nat) = (23 : Nat) ∧ x_1.snd.fst = x_2.snd.fst) ∧ ((23 : Nat) = (23 : Nat) ∧ x_1.snd.snd = x_2.snd.snd) ∧ True) ∧ hdE = hdE ∧ True)) ∧ (decide ((↑x.fst : Int) < (↑x.snd.fst.length : Int)) = false → k [Dat.mk (tEdit).sl x.snd.fst, Dat.mk (tEdit).sl x.snd.snd, Dat.mk (I) (0 : Int)]))))))) := by kernel_rfl
theorem vcEdits (a b : List Ed) (k : List Dat → Prop) : vcF ⟨Eq_, [], glE, [], []⟩ (anEdits a b) (Tryd.f16.body.getD .skip) Tryd.f16.ntmps [(.tmp 4, .bool)] [⟨tEds, a⟩, ⟨tEds, b⟩] k = (
  ((!decide ((↑a.length : Int) = (↑b.length : Int))) = true → k [Dat.mk Ty.bool false]) ∧ ((!decide ((↑a.length : Int) = (↑b.length : Int))) = false → (∃ (x : Nat), (x ≤ a.length ∧ a.length = b.length ∧ List.take x a = List.take x b) ∧ (a = a ∧ b = b ∧ false = false ∧ (0 : Int) = (↑x : Int) ∧ True) ∧ True ∧ hdE = hdE ∧ True) ∧ ∀ (x : Nat), x ≤ a.length ∧ a.length = b.length ∧ List.take x a = List.take x b → (decide ((↑x : Int) < (↑a.length : Int)) = true → ((0 : Int) ≤ (↑x : Int) ∧ (↑x : Int) < (↑a.length : Int) ∧ (0 : Int) ≤ (↑x : Int) ∧ (↑x : Int) < (↑b.length : Int) ∧ True) ∧ ((!(decide ((a.getD (↑x : Int).toNat ((0 : Int), (0 : Int), (0 : Int), ())).fst = (b.getD (↑x : Int).toNat ((0 : Int), (0 : Int), (0 : Int), ())).fst) && (decide ((a.getD (↑x : Int).toNat ((0 : Int), (0 : Int), (0 : Int), ())).snd.fst = (b.getD (↑x : Int).toNat ((0 : Int), (0 : Int), (0 : Int), ())).snd.fst) && (decide ((a.getD (↑x : Int).toNat ((0 : Int), (0 : Int), (0 : Int), ())).snd.snd.fst = (b.getD (↑x : Int).toNat ((0 : Int), (0 : Int), (0 : Int), ())).snd.snd.fst) && true)))) = true → k [Dat.mk Ty.bool false]) ∧ ((!(decide ((a.getD (↑x : Int).toNat ((0 : Int), (0 : Int), (0 : Int), ())).fst = (b.getD (↑x : Int).toNat ((0 : Int), (0 : Int), (0 : Int), ())).fst) && (decide ((a.getD (↑x : Int).toNat ((0 : Int), (0 : Int), (0 : Int), ())).snd.fst = (b.getD (↑x : Int).toNat ((0 : Int), (0 : Int), (0 : Int), ())).snd.fst) && (decide ((a.getD (↑x : Int).toNat ((0 : Int), (0 : Int), (0 : Int), ())).snd.snd.fst = (b.getD (↑x : Int).toNat ((0 : Int), (0 : Int), (0 : Int), ())).snd.snd.fst) && true)))) = false → inK IntKind.i64 ((↑x : Int) + (1 : Int)) ∧ ∃ (x_1 : Nat), (x_1 ≤ a.length ∧ a.length = b.length ∧ List.take x_1 a = List.take x_1 b) ∧ a.length - x_1 < a.length - x ∧ (a = a ∧ b = b ∧ false = false ∧ (↑x : Int) + (1 : Int) = (↑x_1 : Int) ∧ True) ∧ True ∧ hdE = hdE ∧ True)) ∧ (decide ((↑x : Int) < (↑a.length : Int)) = false → k [Dat.mk Ty.bool true]))) := by kernel_rfl
theorem vcSays (s : List UInt8) (x y : Ed) (a b : List Ed) (k : List Dat → Prop) : vcF ⟨Eq_, [(7, cApply), (8, cTurn), (9, cError), (10, cCheck), (11, cREdit), (12, cRApply), (13, cRTurn), (14, cRMeet), (15, cMeet), (16, cEdits)], glE, [], []⟩ [joinAll] (Tryd.f4.body.getD .skip) Tryd.f4.ntmps [(.tmp 10, .bool)] [⟨.str, s⟩, ⟨tEdit, x⟩, ⟨tEdit, y⟩, ⟨tEds, a⟩, ⟨tEds, b⟩] k = (
  (True ∧ True ∧ (inK IntKind.i64 (chk x) ∧ True) ∧ True) ∧ True ∧ True ∧ (inK IntKind.i64 (appErr s x) ∧ True) ∧ (decide (appErr s x = appErr s x) = true → True ∧ True ∧ (inK IntKind.i64 (turnErr x y) ∧ True) ∧ (decide (turnErr x y = turnErr x y) = true → (decide (chk x = chk x) = true → ((app s x == app s x) = true → ((decide ((turn x y).fst = (turn x y).fst) && (decide ((turn x y).snd.fst = (turn x y).snd.fst) && (decide ((turn x y).snd.snd.fst = (turn x y).snd.snd.fst) && true))) = true → (inK IntKind.i64 (meetE a b) ∧ True) ∧ (decide (meetE a b = meetE a b) = true → True ∧ (decide (meetA a b = meetA a b) = true → True ∧ k [Dat.mk Ty.bool (decide (meetB a b = meetB a b))]) ∧ (decide (meetA a b = meetA a b) = false → k [Dat.mk Ty.bool false])) ∧ (decide (meetE a b = meetE a b) = false → k [Dat.mk Ty.bool false])) ∧ ((decide ((turn x y).fst = (turn x y).fst) && (decide ((turn x y).snd.fst = (turn x y).snd.fst) && (decide ((turn x y).snd.snd.fst = (turn x y).snd.snd.fst) && true))) = false → k [Dat.mk Ty.bool false])) ∧ ((app s x == app s x) = false → k [Dat.mk Ty.bool false])) ∧ (decide (chk x = chk x) = false → k [Dat.mk Ty.bool false])) ∧ (decide (turnErr x y = turnErr x y) = false → (decide (chk x = chk x) = true → ((app s x == app s x) = true → k [Dat.mk Ty.bool false]) ∧ ((app s x == app s x) = false → k [Dat.mk Ty.bool false])) ∧ (decide (chk x = chk x) = false → k [Dat.mk Ty.bool false]))) ∧ (decide (appErr s x = appErr s x) = false → True ∧ True ∧ (inK IntKind.i64 (turnErr x y) ∧ True) ∧ (decide (turnErr x y = turnErr x y) = true → (decide (chk x = chk x) = true → k [Dat.mk Ty.bool false]) ∧ (decide (chk x = chk x) = false → k [Dat.mk Ty.bool false])) ∧ (decide (turnErr x y = turnErr x y) = false → (decide (chk x = chk x) = true → k [Dat.mk Ty.bool false]) ∧ (decide (chk x = chk x) = false → k [Dat.mk Ty.bool false])))) := by kernel_rfl
end Go.Proofs.YtpidkjpjjidghaaDoor

/- What the functions of this seat have to satisfy, by program: each verification condition in plain words. -/
namespace Go.Proofs.YtpidkjpjjidghaaDoor
open Go.Vc
set_option linter.unusedVariables false
theorem vcPass (e : Ed) (l : List Ed) (k : List Dat → Prop) : vcF ⟨Em, [(8, cTurn)], glE, [], []⟩ (anPass e l) (Tryd.f22.body.getD .skip) Tryd.f22.ntmps [(.cell 4 23, tEdit), (.tmp 5, tEds), (.tmp 6, tErr)] [⟨tEdit, e⟩, ⟨tEds, l⟩] k = (
  (∃ (x : Nat × Ed × List Ed), (x.fst ≤ l.length ∧ pE e l = pE x.snd.fst (List.drop x.fst l) ∧ pF e l = pF x.snd.fst (List.drop x.fst l) ∧ (pE e l = (0 : Int) → pO e l = x.snd.snd ++ pO x.snd.fst (List.drop x.fst l)) ∧ x.snd.snd.length = x.fst) ∧ (([] : List Nat) = [] ∧ ([] : List Nat) = [] ∧ True ∧ (0 : Int) = (0 : Int) ∧ True ∧ l = l ∧ (↑l.length : Int) = (↑l.length : Int) ∧ (0 : Int) = (↑x.fst : Int) ∧ True) ∧ (((23 : Nat) = (23 : Nat) ∧ e = x.snd.fst) ∧ ((23 : Nat) = (23 : Nat) ∧ ((0 : Int), (0 : Int), (0 : Int), ()) = ((0 : Int), (0 : Int), (0 : Int), ())) ∧ ((23 : Nat) = (23 : Nat) ∧ [] = x.snd.snd) ∧ True) ∧ hdE = hdE ∧ True) ∧ ∀ (x : Nat × Ed × List Ed), x.fst ≤ l.length ∧ pE e l = pE x.snd.fst (List.drop x.fst l) ∧ pF e l = pF x.snd.fst (List.drop x.fst l) ∧ (pE e l = (0 : Int) → pO e l = x.snd.snd ++ pO x.snd.fst (List.drop x.fst l)) ∧ x.snd.snd.length = x.fst → (decide ((↑x.fst : Int) < (↑l.length : Int)) = true → (0 : Int) ≤ (↑x.fst : Int) ∧ (↑x.fst : Int) < (↑l.length : Int) ∧ True ∧ ((!decide (turnErr (l.getD (↑x.fst : Int).toNat ((0 : Int), (0 : Int), (0 : Int), ())) x.snd.fst = (0 : Int))) = true → k [Dat.mk (tEdit) x.snd.fst, Dat.mk (tEdit).sl [], Dat.mk (Ty.err (48 : Nat)) (turnErr (l.getD (↑x.fst : Int).toNat ((0 : Int), (0 : Int), (0 : Int), ())) x.snd.fst)]) ∧ ((!decide (turnErr (l.getD (↑x.fst : Int).toNat ((0 : Int), (0 : Int), (0 : Int), ())) x.snd.fst = (0 : Int))) = false → True ∧ ((!decide (turnErr x.snd.fst (l.getD (↑x.fst : Int).toNat ((0 : Int), (0 : Int), (0 : Int), ())) = (0 : Int))) = true → k [Dat.mk (tEdit) (turn x.snd.fst (l.getD (↑x.fst : Int).toNat ((0 : Int), (0 : Int), (0 : Int), ()))), Dat.mk (tEdit).sl [], Dat.mk (Ty.err (48 : Nat)) (turnErr x.snd.fst (l.getD (↑x.fst : Int).toNat ((0 : Int), (0 : Int), (0 : Int), ())))]) ∧ ((!decide (turnErr x.snd.fst (l.getD (↑x.fst : Int).toNat ((0 : Int), (0 : Int), (0 : Int), ())) = (0 : Int))) = false → x.snd.snd.length + ((List.replicate (1 : Nat) ((0 : Int), (0 : Int), (0 : Int), ())).set (0 : Nat) (turn (l.getD (↑x.fst : Int).toNat ((0 : Int), (0 : Int), (0 : Int), ())) x.snd.fst)).length ≤ (1000000000 : Nat) ∧ inK IntKind.i64 ((↑x.fst : Int) + (1 : Int)) ∧ ∃ (x_1 : Nat × Ed × List Ed), (x_1.fst ≤ l.length ∧ pE e l = pE x_1.snd.fst (List.drop x_1.fst l) ∧ pF e l = pF x_1.snd.fst (List.drop x_1.fst l) ∧ (pE e l = (0 : Int) → pO e l = x_1.snd.snd ++ pO x_1.snd.fst (List.drop x_1.fst l)) ∧ x_1.snd.snd.length = x_1.fst) ∧ l.length - x_1.fst < l.length - x.fst ∧ (([] : List Nat) = [] ∧ ([] : List Nat) = [] ∧ True ∧ (0 : Int) = (0 : Int) ∧ True ∧ l = l ∧ (↑l.length : Int) = (↑l.length : Int) ∧ (↑x.fst : Int) + (1 : Int) = (↑x_1.fst : Int) ∧ True) ∧ (((23 : Nat) = (23 : Nat) ∧ turn x.snd.fst (l.getD (↑x.fst : Int).toNat ((0 : Int), (0 : Int), (0 : Int), ())) = x_1.snd.fst) ∧ ((23 : Nat) = (23 : Nat) ∧ ((0 : Int), (0 : Int), (0 : Int), ()) = ((0 : Int), (0 : Int), (0 : Int), ())) ∧ ((23 : Nat) = (23 : Nat) ∧ x.snd.snd.append ((List.replicate (1 : Nat) ((0 : Int), (0 : Int), (0 : Int), ())).set (0 : Nat) (turn (l.getD (↑x.fst : Int).toNat ((0 : Int), (0 : Int), (0 : Int), ())) x.snd.fst)) = x_1.snd.snd) ∧ True) ∧ hdE = hdE ∧ True))) ∧ (decide ((↑x.fst : Int) < (↑l.length : Int)) = false → k [Dat.mk (tEdit) x.snd.fst, Dat.mk (tEdit).sl x.snd.snd, Dat.mk (Ty.err (48 : Nat)) (0 : Int)])) := by kernel_rfl
theorem vcAll (s : List UInt8) (l : List Ed) (k : List Dat → Prop) : vcF ⟨Em, [(7, cApply)], glE, [], []⟩ (anAll s l) (Tryd.f17.body.getD .skip) Tryd.f17.ntmps [(.tmp 4, .str), (.tmp 5, tErr)] [⟨.str, s⟩, ⟨tEds, l⟩] k = (
  (∃ (x : Nat × List UInt8), (x.fst ≤ l.length ∧ allE s l = allE x.snd (List.drop x.fst l) ∧ allS s l = allS x.snd (List.drop x.fst l)) ∧ (s = x.snd ∧ l = l ∧ (0 : Int) = (↑x.fst : Int) ∧ True) ∧ True ∧ hdE = hdE ∧ True) ∧ ∀ (x : Nat × List UInt8), x.fst ≤ l.length ∧ allE s l = allE x.snd (List.drop x.fst l) ∧ allS s l = allS x.snd (List.drop x.fst l) → (decide ((↑x.fst : Int) < (↑l.length : Int)) = true → (0 : Int) ≤ (↑x.fst : Int) ∧ (↑x.fst : Int) < (↑l.length : Int) ∧ True ∧ ((!decide (appErr x.snd (l.getD (↑x.fst : Int).toNat ((0 : Int), (0 : Int), (0 : Int), ())) = (0 : Int))) = true → k [Dat.mk Ty.str [], Dat.mk (Ty.err (48 : Nat)) (appErr x.snd (l.getD (↑x.fst : Int).toNat ((0 : Int), (0 : Int), (0 : Int), ())))]) ∧ ((!decide (appErr x.snd (l.getD (↑x.fst : Int).toNat ((0 : Int), (0 : Int), (0 : Int), ())) = (0 : Int))) = false → inK IntKind.i64 ((↑x.fst : Int) + (1 : Int)) ∧ ∃ (x_1 : Nat × List UInt8), (x_1.fst ≤ l.length ∧ allE s l = allE x_1.snd (List.drop x_1.fst l) ∧ allS s l = allS x_1.snd (List.drop x_1.fst l)) ∧ l.length - x_1.fst < l.length - x.fst ∧ (app x.snd (l.getD (↑x.fst : Int).toNat ((0 : Int), (0 : Int), (0 : Int), ())) = x_1.snd ∧ l = l ∧ (↑x.fst : Int) + (1 : Int) = (↑x_1.fst : Int) ∧ True) ∧ True ∧ hdE = hdE ∧ True)) ∧ (decide ((↑x.fst : Int) < (↑l.length : Int)) = false → k [Dat.mk Ty.str x.snd, Dat.mk (Ty.err (48 : Nat)) (0 : Int)])) := by kernel_rfl
theorem vcMeet (a b : List Ed) (k : List Dat → Prop) : vcF ⟨Em, [(10, cCheck), (22, cPass)], glE, [], []⟩ (anMeet a b) (Tryd.f15.body.getD .skip) Tryd.f15.ntmps [(.tmp 4, tEds), (.tmp 5, tEds), (.tmp 6, tErr)] [⟨tEds, a⟩, ⟨tEds, b⟩] k = (
  (decide ((8 : Int) < (↑a.length : Int)) = true → (4 : Int) ≠ (0 : Int) ∧ k [Dat.mk (tEdit).sl [], Dat.mk (tEdit).sl [], Dat.mk (Ty.err (48 : Nat)) (4 : Int)]) ∧ (decide ((8 : Int) < (↑a.length : Int)) = false → (decide ((8 : Int) < (↑b.length : Int)) = true → (4 : Int) ≠ (0 : Int) ∧ k [Dat.mk (tEdit).sl [], Dat.mk (tEdit).sl [], Dat.mk (Ty.err (48 : Nat)) (4 : Int)]) ∧ (decide ((8 : Int) < (↑b.length : Int)) = false → (∃ (x : Nat), (x ≤ (2 : Nat) ∧ ((List.range x).all fun (n : Nat) => (two a b n).all editOk) = true) ∧ (a = a ∧ b = b ∧ True ∧ True ∧ (0 : Int) = (0 : Int) ∧ ((List.replicate (2 : Nat) []).set (0 : Nat) a).set (1 : Nat) b = ((List.replicate (2 : Nat) []).set (0 : Nat) a).set (1 : Nat) b ∧ (0 : Int) = (↑x : Int) ∧ True) ∧ True ∧ hdE = hdE ∧ True) ∧ ∀ (x : Nat), x ≤ (2 : Nat) ∧ ((List.range x).all fun (n : Nat) => (two a b n).all editOk) = true → (decide ((↑x : Int) < (2 : Int)) = true → (0 : Int) ≤ (↑x : Int) ∧ (↑x : Int) < (↑(2 : Nat) : Int) ∧ (∃ (x_1 : Nat), (x_1 ≤ (two a b (↑x : Int).toNat).length ∧ (List.take x_1 (two a b (↑x : Int).toNat)).all editOk = true) ∧ (a = a ∧ b = b ∧ True ∧ True ∧ (0 : Int) = (0 : Int) ∧ ((List.replicate (2 : Nat) []).set (0 : Nat) a).set (1 : Nat) b = ((List.replicate (2 : Nat) []).set (0 : Nat) a).set (1 : Nat) b ∧ (↑x : Int) = (↑x : Int) ∧ (((List.replicate (2 : Nat) []).set (0 : Nat) a).set (1 : Nat) b).getD (↑x : Int).toNat [] = (((List.replicate (2 : Nat) []).set (0 : Nat) a).set (1 : Nat) b).getD (↑x : Int).toNat [] ∧ (↑((((List.replicate (2 : Nat) []).set (0 : Nat) a).set (1 : Nat) b).getD (↑x : Int).toNat []).length : Int) = (↑((((List.replicate (2 : Nat) []).set (0 : Nat) a).set (1 : Nat) b).getD (↑x : Int).toNat []).length : Int) ∧ (0 : Int) = (↑x_1 : Int) ∧ True) ∧ True ∧ hdE = hdE ∧ True) ∧ ∀ (x_1 : Nat), x_1 ≤ (two a b (↑x : Int).toNat).length ∧ (List.take x_1 (two a b (↑x : Int).toNat)).all editOk = true → (decide ((↑x_1 : Int) < (↑((((List.replicate (2 : Nat) []).set (0 : Nat) a).set (1 : Nat) b).getD (↑x : Int).toNat []).length : Int)) = true → (0 : Int) ≤ (↑x_1 : Int) ∧ (↑x_1 : Int) < (↑((((List.replicate (2 : Nat) []).set (0 : Nat) a).set (1 : Nat) b).getD (↑x : Int).toNat []).length : Int) ∧ True ∧ ((!decide (chk (((((List.replicate (2 : Nat) []).set (0 : Nat) a).set (1 : Nat) b).getD (↑x : Int).toNat []).getD (↑x_1 : Int).toNat ((0 : Int), (0 : Int), (0 : Int), ())) = (0 : Int))) = true → k [Dat.mk (tEdit).sl [], Dat.mk (tEdit).sl [], Dat.mk (Ty.err (48 : Nat)) (chk (((((List.replicate (2 : Nat) []).set (0 : Nat) a).set (1 : Nat) b).getD (↑x : Int).toNat []).getD (↑x_1 : Int).toNat ((0 : Int), (0 : Int), (0 : Int), ())))]) ∧ ((!decide (chk (((((List.replicate (2 : Nat) []).set (0 : Nat) a).set (1 : Nat) b).getD (↑x : Int).toNat []).getD (↑x_1 : Int).toNat ((0 : Int), (0 : Int), (0 : Int), ())) = (0 : Int))) = false → inK IntKind.i64 ((↑x_1 : Int) + (1 : Int)) ∧ ∃ (x_2 : Nat), (x_2 ≤ (two a b (↑x : Int).toNat).length ∧ (List.take x_2 (two a b (↑x : Int).toNat)).all editOk = true) ∧ (8 : Nat) - x_2 < (8 : Nat) - x_1 ∧ (a = a ∧ b = b ∧ True ∧ True ∧ (0 : Int) = (0 : Int) ∧ ((List.replicate (2 : Nat) []).set (0 : Nat) a).set (1 : Nat) b = ((List.replicate (2 : Nat) []).set (0 : Nat) a).set (1 : Nat) b ∧ (↑x : Int) = (↑x : Int) ∧ (((List.replicate (2 : Nat) []).set (0 : Nat) a).set (1 : Nat) b).getD (↑x : Int).toNat [] = (((List.replicate (2 : Nat) []).set (0 : Nat) a).set (1 : Nat) b).getD (↑x : Int).toNat [] ∧ (↑((((List.replicate (2 : Nat) []).set (0 : Nat) a).set (1 : Nat) b).getD (↑x : Int).toNat []).length : Int) = (↑((((List.replicate (2 : Nat) []).set (0 : Nat) a).set (1 : Nat) b).getD (↑x : Int).toNat []).length : Int) ∧ (↑x_1 : Int) + (1 : Int) = (↑x_2 : Int) ∧ True) ∧ True ∧ hdE = hdE ∧ True)) ∧ (decide ((↑x_1 : Int) < (↑((((List.replicate (2 : Nat) []).set (0 : Nat) a).set (1 : Nat) b).getD (↑x : Int).toNat []).length : Int)) = false → inK IntKind.i64 ((↑x : Int) + (1 : Int)) ∧ ∃ (x_2 : Nat), (x_2 ≤ (2 : Nat) ∧ ((List.range x_2).all fun (n : Nat) => (two a b n).all editOk) = true) ∧ (2 : Nat) - x_2 < (2 : Nat) - x ∧ (a = a ∧ b = b ∧ True ∧ True ∧ (0 : Int) = (0 : Int) ∧ ((List.replicate (2 : Nat) []).set (0 : Nat) a).set (1 : Nat) b = ((List.replicate (2 : Nat) []).set (0 : Nat) a).set (1 : Nat) b ∧ (↑x : Int) + (1 : Int) = (↑x_2 : Int) ∧ True) ∧ True ∧ hdE = hdE ∧ True)) ∧ (decide ((↑x : Int) < (2 : Int)) = false → (∃ (x : Nat), (x ≤ a.length ∧ (List.take x a).any (someWho b) = false) ∧ (a = a ∧ b = b ∧ True ∧ True ∧ (0 : Int) = (0 : Int) ∧ a = a ∧ (↑a.length : Int) = (↑a.length : Int) ∧ (0 : Int) = (↑x : Int) ∧ True) ∧ True ∧ hdE = hdE ∧ True) ∧ ∀ (x : Nat), x ≤ a.length ∧ (List.take x a).any (someWho b) = false → (decide ((↑x : Int) < (↑a.length : Int)) = true → (0 : Int) ≤ (↑x : Int) ∧ (↑x : Int) < (↑a.length : Int) ∧ (∃ (x_1 : Nat), (x_1 ≤ b.length ∧ someWho (List.take x_1 b) (a.getD (↑x : Int).toNat ((0 : Int), (0 : Int), (0 : Int), ())) = false) ∧ (a = a ∧ b = b ∧ True ∧ True ∧ (0 : Int) = (0 : Int) ∧ ([] : List Nat) = [] ∧ a = a ∧ (↑a.length : Int) = (↑a.length : Int) ∧ (↑x : Int) = (↑x : Int) ∧ b = b ∧ (↑b.length : Int) = (↑b.length : Int) ∧ (0 : Int) = (↑x_1 : Int) ∧ True) ∧ (((23 : Nat) = (23 : Nat) ∧ a.getD (↑x : Int).toNat ((0 : Int), (0 : Int), (0 : Int), ()) = a.getD (↑x : Int).toNat ((0 : Int), (0 : Int), (0 : Int), ())) ∧ True) ∧ hdE = hdE ∧ True) ∧ ∀ (x_1 : Nat), x_1 ≤ b.length ∧ someWho (List.take x_1 b) (a.getD (↑x : Int).toNat ((0 : Int), (0 : Int), (0 : Int), ())) = false → (decide ((↑x_1 : Int) < (↑b.length : Int)) = true → (0 : Int) ≤ (↑x_1 : Int) ∧ (↑x_1 : Int) < (↑b.length : Int) ∧ (decide ((a.getD (↑x : Int).toNat ((0 : Int), (0 : Int), (0 : Int), ())).snd.snd.fst = (b.getD (↑x_1 : Int).toNat ((0 : Int), (0 : Int), (0 : Int), ())).snd.snd.fst) = true → (6 : Int) ≠ (0 : Int) ∧ k [Dat.mk (tEdit).sl [], Dat.mk (tEdit).sl [], Dat.mk (Ty.err (48 : Nat)) (6 : Int)]) ∧ (decide ((a.getD (↑x : Int).toNat ((0 : Int), (0 : Int), (0 : Int), ())).snd.snd.fst = (b.getD (↑x_1 : Int).toNat ((0 : Int), (0 : Int), (0 : Int), ())).snd.snd.fst) = false → inK IntKind.i64 ((↑x_1 : Int) + (1 : Int)) ∧ ∃ (x_2 : Nat), (x_2 ≤ b.length ∧ someWho (List.take x_2 b) (a.getD (↑x : Int).toNat ((0 : Int), (0 : Int), (0 : Int), ())) = false) ∧ b.length - x_2 < b.length - x_1 ∧ (a = a ∧ b = b ∧ True ∧ True ∧ (0 : Int) = (0 : Int) ∧ ([] : List Nat) = [] ∧ a = a ∧ (↑a.length : Int) = (↑a.length : Int) ∧ (↑x : Int) = (↑x : Int) ∧ b = b ∧ (↑b.length : Int) = (↑b.length : Int) ∧ (↑x_1 : Int) + (1 : Int) = (↑x_2 : Int) ∧ True) ∧ (((23 : Nat) = (23 : Nat) ∧ a.getD (↑x : Int).toNat ((0 : Int), (0 : Int), (0 : Int), ()) = a.getD (↑x : Int).toNat ((0 : Int), (0 : Int), (0 : Int), ())) ∧ True) ∧ hdE = hdE ∧ True)) ∧ (decide ((↑x_1 : Int) < (↑b.length : Int)) = false → inK IntKind.i64 ((↑x : Int) + (1 : Int)) ∧ ∃ (x_2 : Nat), (x_2 ≤ a.length ∧ (List.take x_2 a).any (someWho b) = false) ∧ a.length - x_2 < a.length - x ∧ (a = a ∧ b = b ∧ True ∧ True ∧ (0 : Int) = (0 : Int) ∧ a = a ∧ (↑a.length : Int) = (↑a.length : Int) ∧ (↑x : Int) + (1 : Int) = (↑x_2 : Int) ∧ True) ∧ True ∧ hdE = hdE ∧ True)) ∧ (decide ((↑x : Int) < (↑a.length : Int)) = false → (∃ (x : Nat × List Ed × List Ed), (x.fst ≤ a.length ∧ a.length ≤ (8 : Nat) ∧ meetE a b = rE a b ∧ rE a b = rE (List.drop x.fst a) x.snd.fst ∧ (rE a b = (0 : Int) → rA a b = x.snd.snd ++ rA (List.drop x.fst a) x.snd.fst ∧ rB a b = rB (List.drop x.fst a) x.snd.fst) ∧ x.snd.fst.length ≤ (8 : Nat) ∧ x.snd.snd.length = x.fst) ∧ (b = x.snd.fst ∧ True ∧ True ∧ (0 : Int) = (0 : Int) ∧ True ∧ a = a ∧ (↑a.length : Int) = (↑a.length : Int) ∧ (0 : Int) = (↑x.fst : Int) ∧ True) ∧ (((23 : Nat) = (23 : Nat) ∧ [] = x.snd.snd) ∧ True) ∧ hdE = hdE ∧ True) ∧ ∀ (x : Nat × List Ed × List Ed), x.fst ≤ a.length ∧ a.length ≤ (8 : Nat) ∧ meetE a b = rE a b ∧ rE a b = rE (List.drop x.fst a) x.snd.fst ∧ (rE a b = (0 : Int) → rA a b = x.snd.snd ++ rA (List.drop x.fst a) x.snd.fst ∧ rB a b = rB (List.drop x.fst a) x.snd.fst) ∧ x.snd.fst.length ≤ (8 : Nat) ∧ x.snd.snd.length = x.fst → (decide ((↑x.fst : Int) < (↑a.length : Int)) = true → (0 : Int) ≤ (↑x.fst : Int) ∧ (↑x.fst : Int) < (↑a.length : Int) ∧ x.snd.fst.length ≤ (8 : Nat) ∧ ((!decide (pE (a.getD (↑x.fst : Int).toNat ((0 : Int), (0 : Int), (0 : Int), ())) x.snd.fst = (0 : Int))) = true → k [Dat.mk (tEdit).sl [], Dat.mk (tEdit).sl [], Dat.mk (Ty.err (48 : Nat)) (pE (a.getD (↑x.fst : Int).toNat ((0 : Int), (0 : Int), (0 : Int), ())) x.snd.fst)]) ∧ ((!decide (pE (a.getD (↑x.fst : Int).toNat ((0 : Int), (0 : Int), (0 : Int), ())) x.snd.fst = (0 : Int))) = false → x.snd.snd.length + ((List.replicate (1 : Nat) ((0 : Int), (0 : Int), (0 : Int), ())).set (0 : Nat) (pF (a.getD (↑x.fst : Int).toNat ((0 : Int), (0 : Int), (0 : Int), ())) x.snd.fst)).length ≤ (1000000000 : Nat) ∧ inK IntKind.i64 ((↑x.fst : Int) + (1 : Int)) ∧ ∃ (x_1 : Nat × List Ed × List Ed), (x_1.fst ≤ a.length ∧ a.length ≤ (8 : Nat) ∧ meetE a b = rE a b ∧ rE a b = rE (List.drop x_1.fst a) x_1.snd.fst ∧ (rE a b = (0 : Int) → rA a b = x_1.snd.snd ++ rA (List.drop x_1.fst a) x_1.snd.fst ∧ rB a b = rB (List.drop x_1.fst a) x_1.snd.fst) ∧ x_1.snd.fst.length ≤ (8 : Nat) ∧ x_1.snd.snd.length = x_1.fst) ∧ a.length - x_1.fst < a.length - x.fst ∧ (pO (a.getD (↑x.fst : Int).toNat ((0 : Int), (0 : Int), (0 : Int), ())) x.snd.fst = x_1.snd.fst ∧ True ∧ True ∧ (0 : Int) = (0 : Int) ∧ True ∧ a = a ∧ (↑a.length : Int) = (↑a.length : Int) ∧ (↑x.fst : Int) + (1 : Int) = (↑x_1.fst : Int) ∧ True) ∧ (((23 : Nat) = (23 : Nat) ∧ x.snd.snd.append ((List.replicate (1 : Nat) ((0 : Int), (0 : Int), (0 : Int), ())).set (0 : Nat) (pF (a.getD (↑x.fst : Int).toNat ((0 : Int), (0 : Int), (0 : Int), ())) x.snd.fst)) = x_1.snd.snd) ∧ True) ∧ hdE = hdE ∧ True)) ∧ (decide ((↑x.fst : Int) < (↑a.length : Int)) = false → x.snd.fst.length ≤ (1000000000 : Nat) ∧ k [Dat.mk (tEdit).sl x.snd.snd, Dat.mk (tEdit).sl x.snd.fst, Dat.mk (Ty.err (48 : Nat)) (0 : Int)])))))) := by kernel_rfl
theorem vcLM (s : List UInt8) (a b : List Ed) (k : List Dat → Prop) : vcF ⟨Em, [(6, cFact), (15, cMeet), (17, cAll), (9, cError)], glE, [], []⟩ [joinAll] (Tryd.f5.body.getD .skip) Tryd.f5.ntmps [(.tmp 6, .bool)] [⟨.str, s⟩, ⟨tEds, a⟩, ⟨tEds, b⟩] k = (
  True ∧ ((!true) = true → k [Dat.mk Ty.bool false]) ∧ ((!true) = false → ((!decide (meetE a b = (0 : Int))) = true → (decide ((↑(meetA a b).length : Int) = (0 : Int)) = true → k [Dat.mk Ty.bool (decide ((↑(meetB a b).length : Int) = (0 : Int)))]) ∧ (decide ((↑(meetA a b).length : Int) = (0 : Int)) = false → k [Dat.mk Ty.bool false])) ∧ ((!decide (meetE a b = (0 : Int))) = false → ((!decide ((↑(meetA a b).length : Int) = (↑a.length : Int))) = true → k [Dat.mk Ty.bool false]) ∧ ((!decide ((↑(meetA a b).length : Int) = (↑a.length : Int))) = false → ((!decide ((↑(meetB a b).length : Int) = (↑b.length : Int))) = true → k [Dat.mk Ty.bool false]) ∧ ((!decide ((↑(meetB a b).length : Int) = (↑b.length : Int))) = false → True ∧ True ∧ ((!decide (allE s a = (0 : Int))) = true → k [Dat.mk Ty.bool true]) ∧ ((!decide (allE s a = (0 : Int))) = false → ((!decide (allE s b = (0 : Int))) = true → k [Dat.mk Ty.bool true]) ∧ ((!decide (allE s b = (0 : Int))) = false → True ∧ True ∧ ((!decide (allE (allS s a) (meetB a b) = (0 : Int))) = true → (inK IntKind.i64 (allE (allS s a) (meetB a b)) ∧ True) ∧ (decide (allE (allS s a) (meetB a b) = (4 : Int)) = true → k [Dat.mk Ty.bool true]) ∧ (decide (allE (allS s a) (meetB a b) = (4 : Int)) = false → (inK IntKind.i64 (allE (allS s b) (meetA a b)) ∧ True) ∧ k [Dat.mk Ty.bool (decide (allE (allS s b) (meetA a b) = (4 : Int)))])) ∧ ((!decide (allE (allS s a) (meetB a b) = (0 : Int))) = false → ((!decide (allE (allS s b) (meetA a b) = (0 : Int))) = true → (inK IntKind.i64 (allE (allS s a) (meetB a b)) ∧ True) ∧ (decide (allE (allS s a) (meetB a b) = (4 : Int)) = true → k [Dat.mk Ty.bool true]) ∧ (decide (allE (allS s a) (meetB a b) = (4 : Int)) = false → (inK IntKind.i64 (allE (allS s b) (meetA a b)) ∧ True) ∧ k [Dat.mk Ty.bool (decide (allE (allS s b) (meetA a b) = (4 : Int)))])) ∧ ((!decide (allE (allS s b) (meetA a b) = (0 : Int))) = false → k [Dat.mk Ty.bool (allS (allS s a) (meetB a b) == allS (allS s b) (meetA a b))]))))))))) := by kernel_rfl
end Go.Proofs.YtpidkjpjjidghaaDoor

/- Edits: either way it is one text. -/
namespace Go.Proofs.YtpidkjpjjidghaaDoor
open Go.Vc

def cutL (s : List UInt8) (i : Nat) : List UInt8 := s.take i ++ s.drop (i + 1)
def putL (s : List UInt8) (i : Nat) (b : List UInt8) : List UInt8 := s.take i ++ b ++ s.drop i
theorem cut_at {s : List UInt8} {i : Nat} (hi : i < s.length) (k : Nat) : (cutL s i)[k]? = if k < i then s[k]? else s[k + 1]? := by
  unfold cutL
  rw [List.getElem?_append, List.length_take, Nat.min_eq_left (by omega)]
  split
  · rename_i h
    rw [List.getElem?_take, if_pos h]
  · rename_i h
    rw [List.getElem?_drop]
    congr 1; omega
theorem put_at {s : List UInt8} {i : Nat} {b : UInt8} (hi : i ≤ s.length) (k : Nat) : (putL s i [b])[k]? = if k < i then s[k]? else if k = i then some b else s[k - 1]? := by
  unfold putL
  rw [List.append_assoc, List.getElem?_append, List.length_take, Nat.min_eq_left hi]
  split
  · rename_i h
    rw [List.getElem?_take, if_pos h]
  · rename_i h
    by_cases hk : k = i
    · subst hk
      rw [if_pos rfl, Nat.sub_self]; rfl
    · rw [if_neg hk]
      obtain ⟨m, hm⟩ : ∃ m, k - i = m + 1 := ⟨k - i - 1, by omega⟩
      rw [hm, List.cons_append, List.getElem?_cons_succ, List.nil_append, List.getElem?_drop]
      congr 1; omega
theorem cut_len {s : List UInt8} {i : Nat} (hi : i < s.length) : (cutL s i).length = s.length - 1 := by
  unfold cutL; rw [List.length_append, List.length_take, List.length_drop]; omega
theorem put_len {s : List UInt8} {i : Nat} {b : UInt8} (hi : i ≤ s.length) : (putL s i [b]).length = s.length + 1 := by
  unfold putL; simp only [List.length_append, List.length_take, List.length_drop, List.length_cons, List.length_nil]; omega

theorem cut_cut {s : List UInt8} {i j : Nat} (hij : i < j) (hj : j < s.length) : cutL (cutL s i) (j - 1) = cutL (cutL s j) i := by
  apply List.ext_getElem?
  intro k
  rw [cut_at (s := cutL s i) (i := j - 1) (by rw [cut_len (by omega)]; omega), cut_at (s := cutL s j) (i := i) (by rw [cut_len hj]; omega)]
  simp only [cut_at (show i < s.length by omega), cut_at hj]
  repeat' split
  all_goals first | rfl | omega | (congr 1; omega)
theorem put_put {s : List UInt8} {i j : Nat} {x y : UInt8} (hij : i ≤ j) (hj : j ≤ s.length) : putL (putL s i [x]) (j + 1) [y] = putL (putL s j [y]) i [x] := by
  apply List.ext_getElem?
  intro k
  rw [put_at (s := putL s i [x]) (i := j + 1) (by rw [put_len (by omega)]; omega), put_at (s := putL s j [y]) (i := i) (by rw [put_len hj]; omega)]
  simp only [put_at (show i ≤ s.length by omega), put_at hj]
  repeat' split
  all_goals first | rfl | omega | (congr 1; omega)
/-- a byte put in at i, one cut at j, behind it -/
theorem put_cut {s : List UInt8} {i j : Nat} {x : UInt8} (hij : i ≤ j) (hj : j < s.length) : cutL (putL s i [x]) (j + 1) = putL (cutL s j) i [x] := by
  apply List.ext_getElem?
  intro k
  rw [cut_at (s := putL s i [x]) (i := j + 1) (by rw [put_len (by omega)]; omega), put_at (s := cutL s j) (i := i) (by rw [cut_len hj]; omega)]
  simp only [put_at (show i ≤ s.length by omega), cut_at hj]
  repeat' split
  all_goals first | rfl | omega | (congr 1; omega)
/-- ahead of it -/
theorem cut_put {s : List UInt8} {i j : Nat} {x : UInt8} (hij : j < i) (hi : i ≤ s.length) : cutL (putL s i [x]) j = putL (cutL s j) (i - 1) [x] := by
  apply List.ext_getElem?
  intro k
  rw [cut_at (s := putL s i [x]) (i := j) (by rw [put_len hi]; omega), put_at (s := cutL s j) (i := i - 1) (by rw [cut_len (by omega)]; omega)]
  simp only [put_at hi, cut_at (show j < s.length by omega)]
  repeat' split
  all_goals first | rfl | omega | (congr 1; omega)
end Go.Proofs.YtpidkjpjjidghaaDoor

/- What the functions of this seat have to satisfy, by program: each verification condition in plain words. -/
namespace Go.Proofs.YtpidkjpjjidghaaDoor
open Go.Vc
set_option linter.unusedVariables false
theorem vcOne (s : List UInt8) (a b : Ed) (k : List Dat → Prop) : vcF ⟨Ee, [(6, cFact), (7, cApply), (8, cTurn), (9, cError)], glE, [], []⟩ [joinAll] (Tryd.f3.body.getD .skip) Tryd.f3.ntmps [(.tmp 6, .bool)] [⟨.str, s⟩, ⟨tEdit, a⟩, ⟨tEdit, b⟩] k = (
  True ∧ ((!true) = true → k [Dat.mk Ty.bool false]) ∧ ((!true) = false → True ∧ True ∧ True ∧ True ∧ ((!decide (appErr s a = (0 : Int))) = true → k [Dat.mk Ty.bool true]) ∧ ((!decide (appErr s a = (0 : Int))) = false → ((!decide (appErr s b = (0 : Int))) = true → k [Dat.mk Ty.bool true]) ∧ ((!decide (appErr s b = (0 : Int))) = false → ((!decide (turnErr b a = (0 : Int))) = true → k [Dat.mk Ty.bool true]) ∧ ((!decide (turnErr b a = (0 : Int))) = false → ((!decide (turnErr a b = (0 : Int))) = true → k [Dat.mk Ty.bool true]) ∧ ((!decide (turnErr a b = (0 : Int))) = false → True ∧ True ∧ ((!decide (appErr (app s a) (turn b a) = (0 : Int))) = true → (inK IntKind.i64 (appErr (app s a) (turn b a)) ∧ True) ∧ (decide (appErr (app s a) (turn b a) = (4 : Int)) = true → (inK IntKind.i64 (appErr (app s b) (turn a b)) ∧ True) ∧ k [Dat.mk Ty.bool (decide (appErr (app s b) (turn a b) = (4 : Int)))]) ∧ (decide (appErr (app s a) (turn b a) = (4 : Int)) = false → k [Dat.mk Ty.bool false])) ∧ ((!decide (appErr (app s a) (turn b a) = (0 : Int))) = false → ((!decide (appErr (app s b) (turn a b) = (0 : Int))) = true → (inK IntKind.i64 (appErr (app s a) (turn b a)) ∧ True) ∧ (decide (appErr (app s a) (turn b a) = (4 : Int)) = true → (inK IntKind.i64 (appErr (app s b) (turn a b)) ∧ True) ∧ k [Dat.mk Ty.bool (decide (appErr (app s b) (turn a b) = (4 : Int)))]) ∧ (decide (appErr (app s a) (turn b a) = (4 : Int)) = false → k [Dat.mk Ty.bool false])) ∧ ((!decide (appErr (app s b) (turn a b) = (0 : Int))) = false → k [Dat.mk Ty.bool (app (app s a) (turn b a) == app (app s b) (turn a b))])))))))) := by kernel_rfl
end Go.Proofs.YtpidkjpjjidghaaDoor

/- What the functions of this seat have to satisfy, by program: each verification condition in plain words. -/
namespace Go.Proofs.YtpidkjpjjidghaaDoor
open Go.Vc
set_option linter.unusedVariables false
theorem vcWithin (a b c : Int) (k : List Dat → Prop) : vcF ⟨Ee, [], glE, [], []⟩ [] (Tryd.f19.body.getD .skip) Tryd.f19.ntmps [(.tmp 6, .bool)] [⟨I, a⟩, ⟨I, b⟩, ⟨I, c⟩] k = (
  (decide (b ≤ a) = true → k [Dat.mk Ty.bool (decide (a ≤ c))]) ∧ (decide (b ≤ a) = false → k [Dat.mk Ty.bool false])) := by kernel_rfl
theorem vcCheck (e : Int × Int × Int × Unit) (k : List Dat → Prop) : vcF ⟨Ee, [(19, cWithin)], glE, [], []⟩ [] (Tryd.f10.body.getD .skip) Tryd.f10.ntmps [(.tmp 2, tErr)] [⟨tEdit, e⟩] k = (
  True ∧ ((!inB e.fst (0 : Int) (60 : Int)) = true → (1 : Int) ≠ (0 : Int) ∧ k [Dat.mk (Ty.err (48 : Nat)) (1 : Int)]) ∧ ((!inB e.fst (0 : Int) (60 : Int)) = false → True ∧ ((!inB e.snd.fst (-2 : Int) (255 : Int)) = true → (1 : Int) ≠ (0 : Int) ∧ k [Dat.mk (Ty.err (48 : Nat)) (1 : Int)]) ∧ ((!inB e.snd.fst (-2 : Int) (255 : Int)) = false → True ∧ ((!inB e.snd.snd.fst (0 : Int) (4 : Int)) = true → (1 : Int) ≠ (0 : Int) ∧ k [Dat.mk (Ty.err (48 : Nat)) (1 : Int)]) ∧ ((!inB e.snd.snd.fst (0 : Int) (4 : Int)) = false → k [Dat.mk (Ty.err (48 : Nat)) (0 : Int)])))) := by kernel_rfl
theorem vcTurn (e f : Int × Int × Int × Unit) (k : List Dat → Prop) : vcF ⟨Ee, [(10, cCheck), (19, cWithin)], glE, [], []⟩ [] (Tryd.f8.body.getD .skip) Tryd.f8.ntmps [(.cell 4 23, tEdit), (.tmp 5, tErr)] [⟨tEdit, e⟩, ⟨tEdit, f⟩] k = (
  True ∧ ((!decide (chk e = (0 : Int))) = true → k [Dat.mk (tEdit) ((0 : Int), (0 : Int), (0 : Int), ()), Dat.mk (Ty.err (48 : Nat)) (chk e)]) ∧ ((!decide (chk e = (0 : Int))) = false → True ∧ ((!decide (chk f = (0 : Int))) = true → k [Dat.mk (tEdit) ((0 : Int), (0 : Int), (0 : Int), ()), Dat.mk (Ty.err (48 : Nat)) (chk f)]) ∧ ((!decide (chk f = (0 : Int))) = false → (decide (e.snd.snd.fst = f.snd.snd.fst) = true → (6 : Int) ≠ (0 : Int) ∧ k [Dat.mk (tEdit) ((0 : Int), (0 : Int), (0 : Int), ()), Dat.mk (Ty.err (48 : Nat)) (6 : Int)]) ∧ (decide (e.snd.snd.fst = f.snd.snd.fst) = false → (decide (e.snd.fst = (-2 : Int)) = true → (decide ((60 : Int) < e.fst) = true → (4 : Int) ≠ (0 : Int) ∧ k [Dat.mk (tEdit) ((0 : Int), (0 : Int), (0 : Int), ()), Dat.mk (Ty.err (48 : Nat)) (4 : Int)]) ∧ (decide ((60 : Int) < e.fst) = false → k [Dat.mk (tEdit) e, Dat.mk (Ty.err (48 : Nat)) (0 : Int)])) ∧ (decide (e.snd.fst = (-2 : Int)) = false → (decide (f.snd.fst = (-2 : Int)) = true → (decide ((60 : Int) < e.fst) = true → (4 : Int) ≠ (0 : Int) ∧ k [Dat.mk (tEdit) ((0 : Int), (0 : Int), (0 : Int), ()), Dat.mk (Ty.err (48 : Nat)) (4 : Int)]) ∧ (decide ((60 : Int) < e.fst) = false → k [Dat.mk (tEdit) e, Dat.mk (Ty.err (48 : Nat)) (0 : Int)])) ∧ (decide (f.snd.fst = (-2 : Int)) = false → (decide ((0 : Int) ≤ f.snd.fst) = true → (decide (f.fst < e.fst) = true → inK IntKind.i64 (e.fst + (1 : Int)) ∧ (decide ((60 : Int) < e.fst + (1 : Int)) = true → (4 : Int) ≠ (0 : Int) ∧ k [Dat.mk (tEdit) ((0 : Int), (0 : Int), (0 : Int), ()), Dat.mk (Ty.err (48 : Nat)) (4 : Int)]) ∧ (decide ((60 : Int) < e.fst + (1 : Int)) = false → k [Dat.mk (tEdit) (e.fst + (1 : Int), e.snd), Dat.mk (Ty.err (48 : Nat)) (0 : Int)])) ∧ (decide (f.fst < e.fst) = false → (decide (f.fst = e.fst) = true → ((!decide ((0 : Int) ≤ e.snd.fst)) = true → inK IntKind.i64 (e.fst + (1 : Int)) ∧ (decide ((60 : Int) < e.fst + (1 : Int)) = true → (4 : Int) ≠ (0 : Int) ∧ k [Dat.mk (tEdit) ((0 : Int), (0 : Int), (0 : Int), ()), Dat.mk (Ty.err (48 : Nat)) (4 : Int)]) ∧ (decide ((60 : Int) < e.fst + (1 : Int)) = false → k [Dat.mk (tEdit) (e.fst + (1 : Int), e.snd), Dat.mk (Ty.err (48 : Nat)) (0 : Int)])) ∧ ((!decide ((0 : Int) ≤ e.snd.fst)) = false → (decide (f.snd.snd.fst < e.snd.snd.fst) = true → inK IntKind.i64 (e.fst + (1 : Int)) ∧ (decide ((60 : Int) < e.fst + (1 : Int)) = true → (4 : Int) ≠ (0 : Int) ∧ k [Dat.mk (tEdit) ((0 : Int), (0 : Int), (0 : Int), ()), Dat.mk (Ty.err (48 : Nat)) (4 : Int)]) ∧ (decide ((60 : Int) < e.fst + (1 : Int)) = false → k [Dat.mk (tEdit) (e.fst + (1 : Int), e.snd), Dat.mk (Ty.err (48 : Nat)) (0 : Int)])) ∧ (decide (f.snd.snd.fst < e.snd.snd.fst) = false → (decide ((60 : Int) < e.fst) = true → (4 : Int) ≠ (0 : Int) ∧ k [Dat.mk (tEdit) ((0 : Int), (0 : Int), (0 : Int), ()), Dat.mk (Ty.err (48 : Nat)) (4 : Int)]) ∧ (decide ((60 : Int) < e.fst) = false → k [Dat.mk (tEdit) e, Dat.mk (Ty.err (48 : Nat)) (0 : Int)])))) ∧ (decide (f.fst = e.fst) = false → (decide ((60 : Int) < e.fst) = true → (4 : Int) ≠ (0 : Int) ∧ k [Dat.mk (tEdit) ((0 : Int), (0 : Int), (0 : Int), ()), Dat.mk (Ty.err (48 : Nat)) (4 : Int)]) ∧ (decide ((60 : Int) < e.fst) = false → k [Dat.mk (tEdit) e, Dat.mk (Ty.err (48 : Nat)) (0 : Int)])))) ∧ (decide ((0 : Int) ≤ f.snd.fst) = false → (decide (f.fst < e.fst) = true → inK IntKind.i64 (e.fst - (1 : Int)) ∧ (decide ((60 : Int) < e.fst - (1 : Int)) = true → (4 : Int) ≠ (0 : Int) ∧ k [Dat.mk (tEdit) ((0 : Int), (0 : Int), (0 : Int), ()), Dat.mk (Ty.err (48 : Nat)) (4 : Int)]) ∧ (decide ((60 : Int) < e.fst - (1 : Int)) = false → k [Dat.mk (tEdit) (e.fst - (1 : Int), e.snd), Dat.mk (Ty.err (48 : Nat)) (0 : Int)])) ∧ (decide (f.fst < e.fst) = false → (decide (f.fst = e.fst) = true → ((!decide ((0 : Int) ≤ e.snd.fst)) = true → (decide ((60 : Int) < e.fst) = true → (4 : Int) ≠ (0 : Int) ∧ k [Dat.mk (tEdit) ((0 : Int), (0 : Int), (0 : Int), ()), Dat.mk (Ty.err (48 : Nat)) (4 : Int)]) ∧ (decide ((60 : Int) < e.fst) = false → k [Dat.mk (tEdit) (e.fst, (-2 : Int), e.snd.snd), Dat.mk (Ty.err (48 : Nat)) (0 : Int)])) ∧ ((!decide ((0 : Int) ≤ e.snd.fst)) = false → (decide ((60 : Int) < e.fst) = true → (4 : Int) ≠ (0 : Int) ∧ k [Dat.mk (tEdit) ((0 : Int), (0 : Int), (0 : Int), ()), Dat.mk (Ty.err (48 : Nat)) (4 : Int)]) ∧ (decide ((60 : Int) < e.fst) = false → k [Dat.mk (tEdit) e, Dat.mk (Ty.err (48 : Nat)) (0 : Int)]))) ∧ (decide (f.fst = e.fst) = false → (decide ((60 : Int) < e.fst) = true → (4 : Int) ≠ (0 : Int) ∧ k [Dat.mk (tEdit) ((0 : Int), (0 : Int), (0 : Int), ()), Dat.mk (Ty.err (48 : Nat)) (4 : Int)]) ∧ (decide ((60 : Int) < e.fst) = false → k [Dat.mk (tEdit) e, Dat.mk (Ty.err (48 : Nat)) (0 : Int)])))))))))) := by kernel_rfl
theorem vcApply (s : List UInt8) (e : Int × Int × Int × Unit) (k : List Dat → Prop) : vcF ⟨Ee, [(10, cCheck)], glE, [], []⟩ [] (Tryd.f7.body.getD .skip) Tryd.f7.ntmps [(.tmp 4, .str), (.tmp 5, tErr)] [⟨.str, s⟩, ⟨tEdit, e⟩] k = (
  (decide ((60 : Int) < (↑s.length : Int)) = true → (4 : Int) ≠ (0 : Int) ∧ k [Dat.mk Ty.str [], Dat.mk (Ty.err (48 : Nat)) (4 : Int)]) ∧ (decide ((60 : Int) < (↑s.length : Int)) = false → True ∧ ((!decide (chk e = (0 : Int))) = true → k [Dat.mk Ty.str [], Dat.mk (Ty.err (48 : Nat)) (chk e)]) ∧ ((!decide (chk e = (0 : Int))) = false → (decide (e.snd.fst = (-2 : Int)) = true → k [Dat.mk Ty.str s, Dat.mk (Ty.err (48 : Nat)) (0 : Int)]) ∧ (decide (e.snd.fst = (-2 : Int)) = false → (decide (e.snd.fst = (-1 : Int)) = true → (decide ((↑s.length : Int) ≤ e.fst) = true → (5 : Int) ≠ (0 : Int) ∧ k [Dat.mk Ty.str [], Dat.mk (Ty.err (48 : Nat)) (5 : Int)]) ∧ (decide ((↑s.length : Int) ≤ e.fst) = false → (0 : Int) ≤ (0 : Int) ∧ (0 : Int) ≤ e.fst ∧ e.fst ≤ (↑s.length : Int) ∧ inK IntKind.i64 (e.fst + (1 : Int)) ∧ (0 : Int) ≤ e.fst + (1 : Int) ∧ e.fst + (1 : Int) ≤ (↑s.length : Int) ∧ (↑s.length : Int) ≤ (↑s.length : Int) ∧ (List.drop (Int.toNat (0 : Int)) (List.take (Int.toNat e.fst) s)).length + (List.drop (e.fst + (1 : Int)).toNat (List.take (↑s.length : Int).toNat s)).length ≤ maxLen ∧ k [Dat.mk Ty.str ((List.drop (Int.toNat (0 : Int)) (List.take (Int.toNat e.fst) s)).append (List.drop (e.fst + (1 : Int)).toNat (List.take (↑s.length : Int).toNat s))), Dat.mk (Ty.err (48 : Nat)) (0 : Int)])) ∧ (decide (e.snd.fst = (-1 : Int)) = false → (decide ((↑s.length : Int) < e.fst) = true → (5 : Int) ≠ (0 : Int) ∧ k [Dat.mk Ty.str [], Dat.mk (Ty.err (48 : Nat)) (5 : Int)]) ∧ (decide ((↑s.length : Int) < e.fst) = false → (decide ((↑s.length : Int) = (60 : Int)) = true → (4 : Int) ≠ (0 : Int) ∧ k [Dat.mk Ty.str [], Dat.mk (Ty.err (48 : Nat)) (4 : Int)]) ∧ (decide ((↑s.length : Int) = (60 : Int)) = false → (0 : Int) ≤ (0 : Int) ∧ (0 : Int) ≤ e.fst ∧ e.fst ≤ (↑s.length : Int) ∧ inK IntKind.u8 e.snd.fst ∧ (List.drop (Int.toNat (0 : Int)) (List.take (Int.toNat e.fst) s)).length + (bstr ((List.replicate (1 : Nat) (0 : Int)).set (0 : Nat) e.snd.fst)).length ≤ maxLen ∧ (0 : Int) ≤ e.fst ∧ e.fst ≤ (↑s.length : Int) ∧ (↑s.length : Int) ≤ (↑s.length : Int) ∧ ((List.drop (Int.toNat (0 : Int)) (List.take (Int.toNat e.fst) s)).append (bstr ((List.replicate (1 : Nat) (0 : Int)).set (0 : Nat) e.snd.fst))).length + (List.drop (Int.toNat e.fst) (List.take (↑s.length : Int).toNat s)).length ≤ maxLen ∧ k [Dat.mk Ty.str (((List.drop (Int.toNat (0 : Int)) (List.take (Int.toNat e.fst) s)).append (bstr ((List.replicate (1 : Nat) (0 : Int)).set (0 : Nat) e.snd.fst))).append (List.drop (Int.toNat e.fst) (List.take (↑s.length : Int).toNat s))), Dat.mk (Ty.err (48 : Nat)) (0 : Int)]))))))) := by kernel_rfl
theorem vcFact (k : List Dat → Prop) : vcF ⟨Ee, [(7, cApply), (8, cTurn)], glE, [], []⟩ [] (Tryd.f6.body.getD .skip) Tryd.f6.ntmps [(.tmp 0, .bool)] [] k = (
  True ∧ True ∧ (decide (appErr [(97 : UInt8), (98 : UInt8)] ((1 : Int), (120 : Int), (0 : Int), ()) = (0 : Int)) = true → (decide (turnErr ((1 : Int), (-1 : Int), (0 : Int), ()) ((0 : Int), (120 : Int), (1 : Int), ()) = (0 : Int)) = true → ((app [(97 : UInt8), (98 : UInt8)] ((1 : Int), (120 : Int), (0 : Int), ()) == [(97 : UInt8), (120 : UInt8), (98 : UInt8)]) = true → k [Dat.mk Ty.bool (decide ((1 : Int) + (1 : Int) = (2 : Int)))]) ∧ ((app [(97 : UInt8), (98 : UInt8)] ((1 : Int), (120 : Int), (0 : Int), ()) == [(97 : UInt8), (120 : UInt8), (98 : UInt8)]) = false → k [Dat.mk Ty.bool false])) ∧ (decide (turnErr ((1 : Int), (-1 : Int), (0 : Int), ()) ((0 : Int), (120 : Int), (1 : Int), ()) = (0 : Int)) = false → k [Dat.mk Ty.bool false])) ∧ (decide (appErr [(97 : UInt8), (98 : UInt8)] ((1 : Int), (120 : Int), (0 : Int), ()) = (0 : Int)) = false → k [Dat.mk Ty.bool false])) := by kernel_rfl
end Go.Proofs.YtpidkjpjjidghaaDoor

/- The edits' functions keep their contracts; what one meant is kept. -/
namespace Go.Proofs.YtpidkjpjjidghaaDoor
open Go.Vc

theorem wfE {e : Int × Int × Int × Unit} (h : Ty.wf tEdit e) : inK .i64 e.1 ∧ inK .i64 e.2.1 ∧ inK .i64 e.2.2.1 := ⟨h.1, h.2.1, h.2.2.1⟩

theorem okWithin : PlainOk Tryd.prog glE 19 cWithin := by
  refine plain_of (CxOk.mk' Ee_ok rfl (by kernel_rfl) (gl := glE) GOk.nil GoOk.nil noIt) Tryd.func19 (c := Tryd.f19.body.getD .skip) (rvs := [(.tmp 6, .bool)]) (by kernel_rfl) (by kernel_rfl) (by kernel_rfl) ?_
  intro ds k ⟨hp, hk⟩ hwf
  obtain ⟨a, b, c, rfl, -⟩ := dest3 hp
  have hk : k [⟨.bool, inB a b c⟩] := hk
  refine ⟨[], ?_⟩
  rw [vcWithin]
  unfold inB at hk
  refine ⟨fun h => ?_, fun h => ?_⟩ <;> simpa [h] using hk

theorem okCheck : PlainOk Tryd.prog glE 10 cCheck := by
  refine plain_of (CxOk.mk' Ee_ok rfl (by kernel_rfl) (gl := glE) (GOk.cons okWithin Tryd.func19 (by kernel_rfl) (by kernel_rfl) GOk.nil) GoOk.nil noIt) Tryd.func10 (c := Tryd.f10.body.getD .skip) (rvs := [(.tmp 2, tErr)]) (by kernel_rfl) (by kernel_rfl) (by kernel_rfl) ?_
  intro ds k ⟨hp, hk⟩ hwf
  obtain ⟨e, rfl, -⟩ := dest1 hp
  have hk : k [⟨tErr, chk e⟩] := hk
  refine ⟨[], ?_⟩
  rw [vcCheck]
  unfold chk editOk at hk
  refine ⟨trivial, fun h1 => ⟨by decide, ?_⟩, fun h1 => ⟨trivial, fun h2 => ⟨by decide, ?_⟩, fun h2 => ⟨trivial, fun h3 => ⟨by decide, ?_⟩, fun h3 => ?_⟩⟩⟩
  all_goals simp_all

theorem editOk_iff {e : Int × Int × Int × Unit} : editOk e = true ↔ 0 ≤ e.1 ∧ e.1 ≤ 60 ∧ -2 ≤ e.2.1 ∧ e.2.1 ≤ 255 ∧ 0 ≤ e.2.2.1 ∧ e.2.2.1 ≤ 4 := by
  simp [editOk, inB, and_assoc]
theorem chk0 {e : Int × Int × Int × Unit} : chk e = 0 ↔ editOk e = true := by
  unfold chk; split <;> simp_all
theorem chk1 {e : Int × Int × Int × Unit} (h : ¬ chk e = 0) : chk e = 1 ∧ editOk e = false := by
  unfold chk at *; split <;> simp_all

theorem okTurn : PlainOk Tryd.prog glE 8 cTurn := by
  refine plain_of (CxOk.mk' Ee_ok rfl (by kernel_rfl) (gl := glE) (GOk.cons okCheck Tryd.func10 (by kernel_rfl) (by kernel_rfl) (GOk.cons okWithin Tryd.func19 (by kernel_rfl) (by kernel_rfl) GOk.nil)) GoOk.nil noIt) Tryd.func8 (c := Tryd.f8.body.getD .skip) (rvs := [(.cell 4 23, tEdit), (.tmp 5, tErr)]) (by kernel_rfl) (by kernel_rfl) (by kernel_rfl) ?_
  intro ds k ⟨hp, hk⟩ hwf
  obtain ⟨e, f, rfl, -⟩ := dest2 hp
  have hk : k [⟨tEdit, turn e f⟩, ⟨tErr, turnErr e f⟩] := hk
  refine ⟨[], ?_⟩
  rw [vcTurn]
  have ret : ∀ (a : Int × Int × Int × Unit) (b : Int), turnErr e f = b → turn e f = a → k [⟨tEdit, a⟩, ⟨tErr, b⟩] := by
    intro a b h1 h2; rw [← h1, ← h2]; exact hk
  simp only [Bool.not_eq_true', decide_eq_false_iff_not, decide_eq_true_eq, Bool.not_eq_false', inK_i64]
  refine ⟨trivial, fun h => ?_, fun h => ⟨trivial, fun g => ?_, fun g => ?_⟩⟩
  · obtain ⟨h, h'⟩ := chk1 h
    refine ret _ _ ?_ ?_ <;> simp [turn, turnErr, h, h']
  · have h := chk0.1 h
    obtain ⟨g, g'⟩ := chk1 g
    refine ret _ _ ?_ ?_ <;> simp [turn, turnErr, h, g, g']
  · have h := chk0.1 h
    have g := chk0.1 g
    have he := editOk_iff.1 h
    have hf := editOk_iff.1 g
    obtain ⟨e1, e2, e3, ⟨⟩⟩ := e
    obtain ⟨f1, f2, f3, ⟨⟩⟩ := f
    simp only at *
    have retT : ∀ (a : Int × Int × Int × Unit), e3 ≠ f3 → turned (e1, e2, e3, ()) (f1, f2, f3, ()) = a → ¬ 60 < a.1 → k [⟨tEdit, a⟩, ⟨tErr, 0⟩] := by
      intro a h0 h1 h2
      have : turnErr (e1, e2, e3, ()) (f1, f2, f3, ()) = 0 := by unfold turnErr; simp [h, g, h0, h1]; omega
      refine ret _ _ this ?_
      unfold turn; rw [if_pos this, h1]
    have retF : ∀ (a : Int × Int × Int × Unit), e3 ≠ f3 → turned (e1, e2, e3, ()) (f1, f2, f3, ()) = a → 60 < a.1 → k [⟨tEdit, ((0 : Int), (0 : Int), (0 : Int), ())⟩, ⟨tErr, (4 : Int)⟩] := by
      intro a h0 h1 h2
      have : turnErr (e1, e2, e3, ()) (f1, f2, f3, ()) = 4 := by unfold turnErr; simp [h, g, h0, h1]; omega
      refine ret _ _ this ?_
      unfold turn; rw [if_neg (by rw [this]; decide)]
    refine ⟨fun hw => ⟨by decide, ?_⟩, fun hw => ?_⟩
    · have : turnErr (e1, e2, e3, ()) (f1, f2, f3, ()) = 6 := by
        unfold turnErr; rw [if_neg (by rw [h]; decide), if_neg (by rw [g]; decide)]; exact if_pos hw
      refine ret _ _ this ?_
      unfold turn; rw [if_neg (by rw [this]; decide)]
    · refine ⟨fun h1 => ⟨fun h2 => by omega, fun h2 => retT _ hw (by simp [turned, h1]) h2⟩, fun h1 => ⟨fun h1' => ⟨fun h2 => by omega, fun h2 => retT _ hw (by simp [turned, h1']) h2⟩, fun h1' => ⟨fun h3 => ?_, fun h3 => ?_⟩⟩⟩
      · refine ⟨fun h4 => ⟨by omega, fun h5 => ⟨by decide, retF (e1 + 1, e2, e3, ()) hw (by simp [turned, h1, h1', h3, h4]) h5⟩, fun h5 => retT _ hw (by simp [turned, h1, h1', h3, h4]) h5⟩, fun h4 => ⟨fun h6 => ?_, fun h6 => ?_⟩⟩
        · refine ⟨fun h7 => ?_, fun h7 => ⟨fun h8 => ?_, fun h8 => ?_⟩⟩
          · refine ⟨by omega, fun h5 => ⟨by decide, retF (e1 + 1, e2, e3, ()) hw (by simp [turned, h1, h1', h3, h6]; omega) h5⟩, fun h5 => retT _ hw (by simp [turned, h1, h1', h3, h6]; omega) h5⟩
          · refine ⟨by omega, fun h5 => ⟨by decide, retF (e1 + 1, e2, e3, ()) hw (by simp [turned, h1, h1', h3, h6, h8]) h5⟩, fun h5 => retT _ hw (by simp [turned, h1, h1', h3, h6, h8]) h5⟩
          · refine ⟨fun h5 => by omega, fun h5 => retT _ hw (by simp [turned, h1, h1', h3, h6]; omega) h5⟩
        · refine ⟨fun h5 => by omega, fun h5 => retT _ hw (by simp [turned, h1, h1', h3, h4, h6]) h5⟩
      · refine ⟨fun h4 => ⟨by omega, fun h5 => by omega, fun h5 => retT _ hw (by simp [turned, h1, h1', h3, h4]) h5⟩, fun h4 => ⟨fun h6 => ⟨fun h7 => ⟨fun h5 => by omega, fun h5 => retT _ hw (by simp [turned, h1, h1', h3, h6]; omega) h5⟩, fun h7 => ⟨fun h5 => by omega, fun h5 => retT _ hw (by simp [turned, h1, h1', h3, h6]; omega) h5⟩⟩, fun h6 => ⟨fun h5 => by omega, fun h5 => retT _ hw (by simp [turned, h1, h1', h3, h4, h6]) h5⟩⟩⟩

theorem len_wf {s : List UInt8} (h : Ty.wf .str s) : s.length ≤ maxLen := h

theorem okApply : PlainOk Tryd.prog glE 7 cApply := by
  refine plain_of (CxOk.mk' Ee_ok rfl (by kernel_rfl) (gl := glE) (GOk.cons okCheck Tryd.func10 (by kernel_rfl) (by kernel_rfl) GOk.nil) GoOk.nil noIt) Tryd.func7 (c := Tryd.f7.body.getD .skip) (rvs := [(.tmp 4, .str), (.tmp 5, tErr)]) (by kernel_rfl) (by kernel_rfl) (by kernel_rfl) ?_
  intro ds k ⟨hp, hk⟩ hwf
  obtain ⟨s, e, rfl, -⟩ := dest2 hp
  have hk : k [⟨.str, app s e⟩, ⟨tErr, appErr s e⟩] := hk
  refine ⟨[], ?_⟩
  rw [vcApply]
  have retE : ∀ (b : Int), appErr s e = b → b ≠ 0 → k [⟨.str, []⟩, ⟨tErr, b⟩] := by
    intro b h h0
    have : app s e = [] := by unfold app; rw [if_neg (by rw [h]; exact h0)]
    rw [← h, ← this]; exact hk
  have retT : ∀ (a : List UInt8), appErr s e = 0 → app s e = a → k [⟨.str, a⟩, ⟨tErr, 0⟩] := by
    intro b h h0
    rw [← h, ← h0]; exact hk
  simp only [Bool.not_eq_true', decide_eq_false_iff_not, decide_eq_true_eq, Bool.not_eq_false', inK_i64, inK_u8]
  refine ⟨fun h => ⟨by decide, retE 4 ?_ (by decide)⟩, fun h => ⟨trivial, fun h1 => ?_, fun h1 => ?_⟩⟩
  · unfold appErr; rw [if_pos (by omega)]
  · obtain ⟨h1, h2⟩ := chk1 h1
    rw [h1]
    refine retE 1 ?_ (by decide)
    unfold appErr; rw [if_neg (by omega), if_pos h2]
  · have h1 := chk0.1 h1
    have he := editOk_iff.1 h1
    have hm : maxLen = 1000000000000 ∨ 200 ≤ maxLen := by right; decide
    have hml : 200 ≤ maxLen := by decide
    have b1 : ∀ x : Int, (bstr [x]).length = 1 := fun x => rfl
    have base : appErr s e = if e.2.1 = -2 then 0 else if e.2.1 = -1 then (if (s.length : Int) ≤ e.1 then 5 else 0)
        else if (s.length : Int) < e.1 then 5 else if s.length = 60 then 4 else 0 := by
      unfold appErr; rw [if_neg (by omega), if_neg (by rw [h1]; decide)]
    refine ⟨fun h2 => ?_, fun h2 => ⟨fun h3 => ⟨fun h4 => ⟨by decide, ?_⟩, fun h4 => ?_⟩, fun h3 => ⟨fun h4 => ⟨by decide, ?_⟩, fun h4 => ⟨fun h5 => ⟨by decide, ?_⟩, fun h5 => ?_⟩⟩⟩⟩
    · have h0 : appErr s e = 0 := by rw [base, if_pos h2]
      exact retT _ h0 (by unfold app; rw [if_pos h0, if_pos h2])
    · exact retE 5 (by rw [base, if_neg h2, if_pos h3, if_pos h4]) (by decide)
    · have h0 : appErr s e = 0 := by rw [base, if_neg h2, if_pos h3, if_neg h4]
      refine ⟨by omega, by omega, by omega, by omega, by omega, by omega, by omega, ?_, ?_⟩
      · simp only [List.length_drop, List.length_take]; omega
      · refine retT _ h0 ?_
        unfold app
        rw [if_pos h0, if_neg h2, if_pos h3]
        simp [List.take_of_length_le]
    · exact retE 5 (by rw [base, if_neg h2, if_neg h3, if_pos h4]) (by decide)
    · exact retE 4 (by rw [base, if_neg h2, if_neg h3, if_neg h4, if_pos (by omega)]) (by decide)
    · have h0 : appErr s e = 0 := by rw [base, if_neg h2, if_neg h3, if_neg h4, if_neg (by omega)]
      have hb : (List.replicate 1 (0 : Int)).set 0 e.2.1 = [e.2.1] := rfl
      rw [hb]
      refine ⟨by omega, by omega, by omega, by omega, ?_, by omega, by omega, by omega, ?_, ?_⟩
      · simp only [List.length_drop, List.length_take, b1]; omega
      · simp only [List.append_eq, List.length_append, List.length_drop, List.length_take, b1]; omega
      · refine retT _ h0 ?_
        unfold app
        rw [if_pos h0, if_neg h2, if_neg h3]
        simp [List.take_of_length_le]

theorem okFact : PlainOk Tryd.prog glE 6 cFact := by
  refine plain_of (CxOk.mk' Ee_ok rfl (by kernel_rfl) (gl := glE) (GOk.cons okApply Tryd.func7 (by kernel_rfl) (by kernel_rfl) (GOk.cons okTurn Tryd.func8 (by kernel_rfl) (by kernel_rfl) GOk.nil)) GoOk.nil noIt) Tryd.func6 (c := Tryd.f6.body.getD .skip) (rvs := [(.tmp 0, .bool)]) (by kernel_rfl) (by kernel_rfl) (by kernel_rfl) ?_
  intro ds k ⟨hp, hk⟩ hwf
  obtain ⟨rfl, -⟩ := dest0 hp
  have hk : k [⟨.bool, true⟩] := hk
  refine ⟨[], ?_⟩
  rw [vcFact]
  refine ⟨trivial, trivial, fun _ => ⟨fun _ => ⟨fun _ => hk, fun h => ?_⟩, fun h => ?_⟩, fun h => ?_⟩
  · exact absurd h (by decide)
  · exact absurd h (by decide)
  · exact absurd h (by decide)
end Go.Proofs.YtpidkjpjjidghaaDoor

/- What the functions of this seat have to satisfy, by program: each verification condition in plain words. -/
namespace Go.Proofs.YtpidkjpjjidghaaDoor
open Go.Vc
set_option linter.unusedVariables false
theorem vcError (n e : Int) (k : List Dat → Prop) : vcF ⟨Er, [(18, cTold)], glE, [], []⟩ [] (Tryd.f9.body.getD .skip) Tryd.f9.ntmps [(.tmp 4, .bool)] [⟨tErr, n⟩, ⟨I, e⟩] k = (
  IntKind.i64.wrap n = n ∧ k [Dat.mk Ty.bool (decide (n = e))]) := by kernel_rfl
end Go.Proofs.YtpidkjpjjidghaaDoor

/- Is an error the one with a number? -/
namespace Go.Proofs.YtpidkjpjjidghaaDoor
open Go.Vc
theorem PlainOk.sub {P : Program} {gl gl' : List (Nat × Dat)} {f : FuncId} {c : Ctr} (hs : ∀ x ∈ gl, x ∈ gl') (h : PlainOk P gl f c) : PlainOk P gl' f c :=
  fun ds k hk w R0 vals hR0 hG hD => h ds k hk w R0 vals hR0 (fun g d hg => hG g d (hs _ hg)) hD
theorem okError : PlainOk Tryd.prog glE 9 cError := by
  refine plain_of (CxOk.mk' Er_ok rfl (by kernel_rfl) (gl := glE) (GOk.cons okTold Tryd.func18 (by kernel_rfl) (by kernel_rfl) GOk.nil) GoOk.nil noIt) Tryd.func9 (c := Tryd.f9.body.getD .skip) (rvs := [(.tmp 4, .bool)]) (by kernel_rfl) (by kernel_rfl) (by kernel_rfl) ?_
  intro ds k ⟨hp, hk⟩ hwf
  obtain ⟨n, e, rfl, hin, -⟩ := dest2 hp
  have hk : k [⟨.bool, decide (n = e)⟩] := hk
  refine ⟨[], ?_⟩
  rw [vcError]
  exact ⟨hin, hk⟩
end Go.Proofs.YtpidkjpjjidghaaDoor

/- Edits: EditOne's law. -/
namespace Go.Proofs.YtpidkjpjjidghaaDoor
open Go.Vc

/-- what an edit that is all right does to a text -/
theorem app_zero {s : List UInt8} {e : Ed} (h : appErr s e = 0) : s.length ≤ 60 ∧ 0 ≤ e.1 ∧ e.1 ≤ 60 ∧ -2 ≤ e.2.1 ∧ e.2.1 ≤ 255 ∧ 0 ≤ e.2.2.1 ∧ e.2.2.1 ≤ 4 ∧
    ((e.2.1 = -2 ∧ app s e = s) ∨ (e.2.1 = -1 ∧ e.1 < s.length ∧ app s e = cutL s e.1.toNat) ∨ (0 ≤ e.2.1 ∧ e.1 ≤ s.length ∧ s.length < 60 ∧ app s e = putL s e.1.toNat (bstr [e.2.1]))) := by
  have ha := h
  unfold appErr at h
  split at h
  · exact absurd h (by decide)
  rename_i h1
  split at h
  · exact absurd h (by decide)
  rename_i h2
  have hok := editOk_iff.1 (show editOk e = true by simpa using h2)
  obtain ⟨k1, k2, k3, k4, k5, k6⟩ := hok
  refine ⟨by omega, k1, k2, k3, k4, k5, k6, ?_⟩
  split at h
  · rename_i h3
    exact .inl ⟨h3, by unfold app; rw [if_pos ha, if_pos h3]⟩
  rename_i h3
  split at h
  · rename_i h4
    split at h
    · exact absurd h (by decide)
    · rename_i h5
      refine .inr (.inl ⟨h4, by omega, ?_⟩)
      unfold app cutL
      rw [if_pos ha, if_neg h3, if_pos h4, show (e.1 + 1).toNat = e.1.toNat + 1 by omega]
  rename_i h4
  split at h
  · exact absurd h (by decide)
  rename_i h5
  split at h
  · exact absurd h (by decide)
  rename_i h6
  refine .inr (.inr ⟨by omega, by omega, by omega, ?_⟩)
  unfold app putL
  rw [if_pos ha, if_neg h3, if_neg h4]

theorem app_n {s : List UInt8} {e : Ed} (hs : s.length ≤ 60) (ok : editOk e = true) (h : e.2.1 = -2) : appErr s e = 0 ∧ app s e = s := by
  have h0 : appErr s e = 0 := by unfold appErr; rw [if_neg (by omega), if_neg (by rw [ok]; decide), if_pos h]
  exact ⟨h0, by unfold app; rw [if_pos h0, if_pos h]⟩
theorem app_c {s : List UInt8} {e : Ed} (hs : s.length ≤ 60) (ok : editOk e = true) (h : e.2.1 = -1) (hl : e.1 < s.length) : appErr s e = 0 ∧ app s e = cutL s e.1.toNat := by
  have h0 : appErr s e = 0 := by unfold appErr; rw [if_neg (by omega), if_neg (by rw [ok]; decide), if_neg (by omega), if_pos h, if_neg (by omega)]
  have := editOk_iff.1 ok
  exact ⟨h0, by unfold app cutL; rw [if_pos h0, if_neg (by omega), if_pos h, show (e.1 + 1).toNat = e.1.toNat + 1 by omega]⟩
theorem app_p {s : List UInt8} {e : Ed} (hs : s.length < 60) (ok : editOk e = true) (h : 0 ≤ e.2.1) (hl : e.1 ≤ s.length) : appErr s e = 0 ∧ app s e = putL s e.1.toNat (bstr [e.2.1]) := by
  have h0 : appErr s e = 0 := by unfold appErr; rw [if_neg (by omega), if_neg (by rw [ok]; decide), if_neg (by omega), if_neg (by omega), if_neg (by omega), if_neg (by omega)]
  exact ⟨h0, by unfold app putL; rw [if_pos h0, if_neg (by omega), if_neg (by omega)]⟩
theorem app_f {s : List UInt8} {e : Ed} (hs : s.length = 60) (ok : editOk e = true) (h : 0 ≤ e.2.1) (hl : e.1 ≤ s.length) : appErr s e = 4 := by
  unfold appErr; rw [if_neg (by omega), if_neg (by rw [ok]; decide), if_neg (by omega), if_neg (by omega), if_neg (by omega), if_pos hs]
theorem turn_zero {e f : Ed} (h : turnErr e f = 0) : turn e f = turned e f ∧ editOk e = true ∧ editOk f = true ∧ e.2.2.1 ≠ f.2.2.1 ∧ (turned e f).1 ≤ 60 := by
  have ht : turn e f = turned e f := by unfold turn; rw [if_pos h]
  unfold turnErr at h
  split at h
  · exact absurd h (by decide)
  rename_i h1
  split at h
  · exact absurd h (by decide)
  rename_i h2
  split at h
  · exact absurd h (by decide)
  rename_i h3
  split at h
  · exact absurd h (by decide)
  rename_i h4
  exact ⟨ht, by simpa using h1, by simpa using h2, h3, by omega⟩

theorem app_len {s : List UInt8} {e : Ed} (h : appErr s e = 0) : (app s e).length ≤ 60 := by
  obtain ⟨h1, k1, _, _, _, _, _, hc⟩ := app_zero h
  rcases hc with ⟨_, he⟩ | ⟨_, hl, he⟩ | ⟨_, hl, hs, he⟩
  · rw [he]; exact h1
  · rw [he, cut_len (by omega)]; omega
  · rw [he, show bstr [e.2.1] = [UInt8.ofNat e.2.1.toNat] from rfl, put_len (by omega)]; omega

/-- the two ways round -/
def OneP (s : List UInt8) (a b : Ed) : Prop :=
  (appErr (app s a) (turned b a) = 0 ∧ appErr (app s b) (turned a b) = 0 ∧ app (app s a) (turned b a) = app (app s b) (turned a b)) ∨
    (appErr (app s a) (turned b a) = 4 ∧ appErr (app s b) (turned a b) = 4)
theorem OneP.swap {s : List UInt8} {a b : Ed} (h : OneP s a b) : OneP s b a := by
  rcases h with ⟨h1, h2, h3⟩ | ⟨h1, h2⟩
  · exact .inl ⟨h2, h1, h3.symm⟩
  · exact .inr ⟨h2, h1⟩

theorem one_none {s : List UInt8} {a b : Ed} (ha : appErr s a = 0) (hb : appErr s b = 0) (oa : editOk a = true) (hn : a.2.1 = -2) (he : app s a = s) : OneP s a b := by
  have hc : turned b a = b := by unfold turned; rw [if_pos (.inr hn)]
  have hd : turned a b = a := by unfold turned; rw [if_pos (.inl hn)]
  obtain ⟨h1, h2⟩ := app_n (app_len hb) oa hn
  refine .inl ?_
  rw [hc, hd, he, h2]
  exact ⟨hb, h1, rfl⟩

theorem one_cc {s : List UInt8} {a b : Ed} (hs : s.length ≤ 60) (oa : editOk a = true) (ob : editOk b = true) (ca : a.2.1 = -1) (cb : b.2.1 = -1) (la : a.1 < s.length) (lb : b.1 < s.length)
    (ea : app s a = cutL s a.1.toNat) (eb : app s b = cutL s b.1.toNat) (hij : a.1 ≤ b.1) : OneP s a b := by
  have ka := editOk_iff.1 oa
  have kb := editOk_iff.1 ob
  have hla := cut_len (s := s) (i := a.1.toNat) (by omega)
  have hlb := cut_len (s := s) (i := b.1.toNat) (by omega)
  refine .inl ?_
  rcases Int.lt_or_eq_of_le hij with hlt | heq
  · have hc : turned b a = (b.1 - 1, b.2) := by unfold turned; rw [if_neg (by omega), if_neg (by omega), if_pos hlt]
    have hd : turned a b = a := by unfold turned; rw [if_neg (by omega), if_neg (by omega), if_neg (by omega), if_neg (by omega)]
    obtain ⟨p1, p2⟩ := app_c (s := cutL s a.1.toNat) (e := (b.1 - 1, b.2)) (by omega) (editOk_iff.2 ⟨by simp only; omega, by simp only; omega, kb.2.2⟩) cb (by simp only; omega)
    obtain ⟨q1, q2⟩ := app_c (s := cutL s b.1.toNat) (e := a) (by omega) oa ca (by omega)
    rw [ea, eb, hc, hd]
    refine ⟨p1, q1, ?_⟩
    rw [p2, q2]
    have := cut_cut (s := s) (i := a.1.toNat) (j := b.1.toNat) (by omega) (by omega)
    rw [← this]
    congr 1
    simp only; omega
  · have hc : turned b a = (b.1, -2, b.2.2) := by unfold turned; rw [if_neg (by omega), if_neg (by omega), if_neg (by omega), if_pos ⟨heq, by omega⟩]
    have hd : turned a b = (a.1, -2, a.2.2) := by unfold turned; rw [if_neg (by omega), if_neg (by omega), if_neg (by omega), if_pos ⟨heq.symm, by omega⟩]
    obtain ⟨p1, p2⟩ := app_n (s := cutL s a.1.toNat) (e := (b.1, -2, b.2.2)) (by omega) (editOk_iff.2 ⟨kb.1, kb.2.1, by simp only; omega, by simp only; omega, kb.2.2.2.2⟩) rfl
    obtain ⟨q1, q2⟩ := app_n (s := cutL s b.1.toNat) (e := (a.1, -2, a.2.2)) (by omega) (editOk_iff.2 ⟨ka.1, ka.2.1, by simp only; omega, by simp only; omega, ka.2.2.2.2⟩) rfl
    rw [ea, eb, hc, hd]
    refine ⟨p1, q1, ?_⟩
    rw [p2, q2, heq]

theorem one_cp {s : List UInt8} {a b : Ed} (hs : s.length < 60) (oa : editOk a = true) (ob : editOk b = true) (ca : a.2.1 = -1) (cb : 0 ≤ b.2.1) (la : a.1 < s.length) (lb : b.1 ≤ s.length)
    (ea : app s a = cutL s a.1.toNat) (eb : app s b = putL s b.1.toNat (bstr [b.2.1])) : OneP s a b := by
  have ka := editOk_iff.1 oa
  have kb := editOk_iff.1 ob
  have hbs : bstr [b.2.1] = [UInt8.ofNat b.2.1.toNat] := rfl
  have hla := cut_len (s := s) (i := a.1.toNat) (by omega)
  have hlb := put_len (s := s) (i := b.1.toNat) (b := UInt8.ofNat b.2.1.toNat) (by omega)
  refine .inl ?_
  rw [hbs] at eb
  by_cases hlt : a.1 < b.1
  · have hc : turned b a = (b.1 - 1, b.2) := by unfold turned; rw [if_neg (by omega), if_neg (by omega), if_pos hlt]
    have hd : turned a b = a := by unfold turned; rw [if_neg (by omega), if_pos cb, if_neg (by omega)]
    obtain ⟨p1, p2⟩ := app_p (s := cutL s a.1.toNat) (e := (b.1 - 1, b.2)) (by omega) (editOk_iff.2 ⟨by simp only; omega, by simp only; omega, kb.2.2⟩) cb (by simp only; omega)
    obtain ⟨q1, q2⟩ := app_c (s := putL s b.1.toNat [UInt8.ofNat b.2.1.toNat]) (e := a) (by omega) oa ca (by omega)
    rw [ea, eb, hc, hd]
    refine ⟨p1, q1, ?_⟩
    rw [p2, q2, cut_put (s := s) (i := b.1.toNat) (j := a.1.toNat) (by omega) (by omega)]
    simp only [hbs]
    congr 1; omega
  · have hc : turned b a = b := by unfold turned; rw [if_neg (by omega), if_neg (by omega), if_neg hlt, if_neg (by omega)]
    have hd : turned a b = (a.1 + 1, a.2) := by unfold turned; rw [if_neg (by omega), if_pos cb, if_pos (by omega)]
    obtain ⟨p1, p2⟩ := app_p (s := cutL s a.1.toNat) (e := b) (by omega) ob cb (by omega)
    obtain ⟨q1, q2⟩ := app_c (s := putL s b.1.toNat [UInt8.ofNat b.2.1.toNat]) (e := (a.1 + 1, a.2)) (by omega) (editOk_iff.2 ⟨by simp only; omega, by simp only; omega, ka.2.2⟩) ca (by simp only; omega)
    rw [ea, eb, hc, hd]
    refine ⟨p1, q1, ?_⟩
    rw [p2, q2, hbs, ← put_cut (s := s) (i := b.1.toNat) (j := a.1.toNat) (by omega) (by omega)]
    congr 1
    simp only; omega

theorem one_pp {s : List UInt8} {a b : Ed} (hs : s.length < 60) (oa : editOk a = true) (ob : editOk b = true) (ca : 0 ≤ a.2.1) (cb : 0 ≤ b.2.1) (la : a.1 ≤ s.length) (lb : b.1 ≤ s.length)
    (ea : app s a = putL s a.1.toNat (bstr [a.2.1])) (eb : app s b = putL s b.1.toNat (bstr [b.2.1])) (hij : a.1 < b.1 ∨ a.1 = b.1 ∧ a.2.2.1 < b.2.2.1) : OneP s a b := by
  have ka := editOk_iff.1 oa
  have kb := editOk_iff.1 ob
  have has : bstr [a.2.1] = [UInt8.ofNat a.2.1.toNat] := rfl
  have hbs : bstr [b.2.1] = [UInt8.ofNat b.2.1.toNat] := rfl
  have hla := put_len (s := s) (i := a.1.toNat) (b := UInt8.ofNat a.2.1.toNat) (by omega)
  have hlb := put_len (s := s) (i := b.1.toNat) (b := UInt8.ofNat b.2.1.toNat) (by omega)
  rw [has] at ea
  rw [hbs] at eb
  have hc : turned b a = (b.1 + 1, b.2) := by unfold turned; rw [if_neg (by omega), if_pos ca, if_pos (by omega)]
  have hd : turned a b = a := by unfold turned; rw [if_neg (by omega), if_pos cb, if_neg (by omega)]
  have oc : editOk ((b.1 + 1, b.2) : Ed) = true := editOk_iff.2 ⟨by simp only; omega, by simp only; omega, kb.2.2⟩
  unfold OneP
  rw [ea, eb, hc, hd]
  by_cases h59 : s.length = 59
  · exact .inr ⟨app_f (by omega) oc cb (by simp only; omega), app_f (by omega) oa ca (by omega)⟩
  · obtain ⟨p1, p2⟩ := app_p (s := putL s a.1.toNat [UInt8.ofNat a.2.1.toNat]) (e := (b.1 + 1, b.2)) (by omega) oc cb (by simp only; omega)
    obtain ⟨q1, q2⟩ := app_p (s := putL s b.1.toNat [UInt8.ofNat b.2.1.toNat]) (e := a) (by omega) oa ca (by omega)
    refine .inl ⟨p1, q1, ?_⟩
    rw [p2, q2, has, ← put_put (s := s) (i := a.1.toNat) (j := b.1.toNat) (by omega) (by omega)]
    simp only [hbs]
    congr 1; omega

theorem one {s : List UInt8} {a b : Ed} (ha : appErr s a = 0) (hb : appErr s b = 0) (h1 : turnErr b a = 0) (h2 : turnErr a b = 0) : OneP s a b := by
  obtain ⟨_, ob, oa, hw, _⟩ := turn_zero h1
  obtain ⟨hs, a1, a2, a3, a4, a5, a6, hac⟩ := app_zero ha
  obtain ⟨_, b1, b2, b3, b4, b5, b6, hbc⟩ := app_zero hb
  rcases hac with ⟨na, ea⟩ | ⟨ca, la, ea⟩ | ⟨pa, la, sa, ea⟩
  · exact one_none ha hb oa na ea
  · rcases hbc with ⟨nb, eb⟩ | ⟨cb, lb, eb⟩ | ⟨pb, lb, sb, eb⟩
    · exact (one_none hb ha ob nb eb).swap
    · rcases Int.le_total a.1 b.1 with h | h
      · exact one_cc hs oa ob ca cb la lb ea eb h
      · exact (one_cc hs ob oa cb ca lb la eb ea h).swap
    · exact one_cp sb oa ob ca pb la lb ea eb
  · rcases hbc with ⟨nb, eb⟩ | ⟨cb, lb, eb⟩ | ⟨pb, lb, sb, eb⟩
    · exact (one_none hb ha ob nb eb).swap
    · exact (one_cp sa ob oa cb pa lb la eb ea).swap
    · by_cases h : a.1 < b.1 ∨ a.1 = b.1 ∧ a.2.2.1 < b.2.2.1
      · exact one_pp sa oa ob pa pb la lb ea eb h
      · exact (one_pp sa ob oa pb pa lb la eb ea (by omega)).swap
end Go.Proofs.YtpidkjpjjidghaaDoor

/- Edits: lists of them, either way round: without a look at the text's bound. -/
namespace Go.Proofs.YtpidkjpjjidghaaDoor
open Go.Vc

/-- an edit done, whatever the text's length -/
def opU (s : List UInt8) (e : Ed) : List UInt8 := if e.2.1 = -2 then s else if e.2.1 = -1 then cutL s e.1.toNat else putL s e.1.toNat [UInt8.ofNat e.2.1.toNat]
def okU (s : List UInt8) (e : Ed) : Prop := editOk e = true ∧ (e.2.1 = -2 ∨ (e.2.1 = -1 ∧ e.1 < s.length) ∨ (0 ≤ e.2.1 ∧ e.1 ≤ s.length))
theorem opU_n {s : List UInt8} {e : Ed} (h : e.2.1 = -2) : opU s e = s := by unfold opU; rw [if_pos h]
theorem opU_c {s : List UInt8} {e : Ed} (h : e.2.1 = -1) : opU s e = cutL s e.1.toNat := by unfold opU; rw [if_neg (by omega), if_pos h]
theorem opU_p {s : List UInt8} {e : Ed} (h : 0 ≤ e.2.1) : opU s e = putL s e.1.toNat [UInt8.ofNat e.2.1.toNat] := by unfold opU; rw [if_neg (by omega), if_neg (by omega)]

theorem okU_of {s : List UInt8} {e : Ed} (h : appErr s e = 0) : okU s e ∧ app s e = opU s e := by
  obtain ⟨_, k1, k2, k3, k4, k5, k6, hc⟩ := app_zero h
  have ok : editOk e = true := editOk_iff.2 ⟨k1, k2, k3, k4, k5, k6⟩
  rcases hc with ⟨c, he⟩ | ⟨c, hl, he⟩ | ⟨c, hl, _, he⟩
  · exact ⟨⟨ok, .inl c⟩, by rw [he, opU_n c]⟩
  · exact ⟨⟨ok, .inr (.inl ⟨c, hl⟩)⟩, by rw [he, opU_c c]⟩
  · exact ⟨⟨ok, .inr (.inr ⟨c, hl⟩)⟩, by rw [he, opU_p c]; rfl⟩
theorem err_of {s : List UInt8} {e : Ed} (h : okU s e) : appErr s e = 0 ∨ appErr s e = 4 := by
  obtain ⟨ok, hc⟩ := h
  unfold appErr
  by_cases h60 : 60 < s.length
  · exact .inr (if_pos h60)
  rw [if_neg h60, if_neg (by rw [ok]; decide)]
  rcases hc with c | ⟨c, hl⟩ | ⟨c, hl⟩
  · exact .inl (if_pos c)
  · rw [if_neg (by omega), if_pos c, if_neg (by omega)]; exact .inl rfl
  · rw [if_neg (by omega), if_neg (by omega), if_neg (by omega)]
    by_cases hs : s.length = 60
    · exact .inr (if_pos hs)
    · exact .inl (if_neg hs)

def TwoU (s : List UInt8) (a b : Ed) : Prop := okU (opU s a) (turned b a) ∧ okU (opU s b) (turned a b) ∧ opU (opU s a) (turned b a) = opU (opU s b) (turned a b)
theorem TwoU.swap {s : List UInt8} {a b : Ed} (h : TwoU s a b) : TwoU s b a := ⟨h.2.1, h.1, h.2.2.symm⟩

theorem twoU {s : List UInt8} {a b : Ed} (oa : okU s a) (ob : okU s b) (h1 : turnErr b a = 0) (h2 : turnErr a b = 0) : TwoU s a b := by
  obtain ⟨_, _, _, hw, hb60⟩ := turn_zero h1
  obtain ⟨_, _, _, _, ha60⟩ := turn_zero h2
  -- one of them does nothing
  have none_ : ∀ {a b : Ed}, okU s a → okU s b → a.2.1 = -2 → TwoU s a b := by
    intro a b oa ob hn
    have hc : turned b a = b := by unfold turned; rw [if_pos (.inr hn)]
    have hd : turned a b = a := by unfold turned; rw [if_pos (.inl hn)]
    refine ⟨by rw [hc, opU_n hn]; exact ob, by rw [hd]; exact ⟨oa.1, .inl hn⟩, ?_⟩
    rw [hc, hd, opU_n hn, opU_n hn]
  have cc : ∀ {a b : Ed}, okU s a → okU s b → a.2.1 = -1 → b.2.1 = -1 → a.1 ≤ b.1 → TwoU s a b := by
    intro a b oa ob ca cb hij
    have ka := editOk_iff.1 oa.1
    have kb := editOk_iff.1 ob.1
    have la : a.1 < s.length := by rcases oa.2 with h | h | h <;> omega
    have lb : b.1 < s.length := by rcases ob.2 with h | h | h <;> omega
    have hla := cut_len (s := s) (i := a.1.toNat) (by omega)
    have hlb := cut_len (s := s) (i := b.1.toNat) (by omega)
    rcases Int.lt_or_eq_of_le hij with hlt | heq
    · have hc : turned b a = (b.1 - 1, b.2) := by unfold turned; rw [if_neg (by omega), if_neg (by omega), if_pos hlt]
      have hd : turned a b = a := by unfold turned; rw [if_neg (by omega), if_neg (by omega), if_neg (by omega), if_neg (by omega)]
      refine ⟨?_, ?_, ?_⟩
      · rw [hc, opU_c ca]; exact ⟨editOk_iff.2 ⟨by simp only; omega, by simp only; omega, kb.2.2⟩, .inr (.inl ⟨cb, by simp only; omega⟩)⟩
      · rw [hd, opU_c cb]; exact ⟨oa.1, .inr (.inl ⟨ca, by omega⟩)⟩
      · rw [hc, hd, opU_c ca, opU_c cb, opU_c (e := (b.1 - 1, b.2)) cb, opU_c ca, ← cut_cut (s := s) (i := a.1.toNat) (j := b.1.toNat) (by omega) (by omega)]
        congr 1; simp only; omega
    · have hc : turned b a = (b.1, -2, b.2.2) := by unfold turned; rw [if_neg (by omega), if_neg (by omega), if_neg (by omega), if_pos ⟨heq, by omega⟩]
      have hd : turned a b = (a.1, -2, a.2.2) := by unfold turned; rw [if_neg (by omega), if_neg (by omega), if_neg (by omega), if_pos ⟨heq.symm, by omega⟩]
      refine ⟨?_, ?_, ?_⟩
      · rw [hc]; exact ⟨editOk_iff.2 ⟨kb.1, kb.2.1, by simp only; omega, by simp only; omega, kb.2.2.2.2⟩, .inl rfl⟩
      · rw [hd]; exact ⟨editOk_iff.2 ⟨ka.1, ka.2.1, by simp only; omega, by simp only; omega, ka.2.2.2.2⟩, .inl rfl⟩
      · rw [hc, hd, opU_n (e := (b.1, -2, b.2.2)) rfl, opU_n (e := (a.1, -2, a.2.2)) rfl, opU_c ca, opU_c cb, heq]
  have cp : ∀ {a b : Ed}, okU s a → okU s b → a.2.1 = -1 → 0 ≤ b.2.1 → (turned a b).1 ≤ 60 → TwoU s a b := by
    intro a b oa ob ca cb h60
    have ka := editOk_iff.1 oa.1
    have kb := editOk_iff.1 ob.1
    have la : a.1 < s.length := by rcases oa.2 with h | h | h <;> omega
    have lb : b.1 ≤ s.length := by rcases ob.2 with h | h | h <;> omega
    have hla := cut_len (s := s) (i := a.1.toNat) (by omega)
    have hlb := put_len (s := s) (i := b.1.toNat) (b := UInt8.ofNat b.2.1.toNat) (by omega)
    by_cases hlt : a.1 < b.1
    · have hc : turned b a = (b.1 - 1, b.2) := by unfold turned; rw [if_neg (by omega), if_neg (by omega), if_pos hlt]
      have hd : turned a b = a := by unfold turned; rw [if_neg (by omega), if_pos cb, if_neg (by omega)]
      refine ⟨?_, ?_, ?_⟩
      · rw [hc, opU_c ca]; exact ⟨editOk_iff.2 ⟨by simp only; omega, by simp only; omega, kb.2.2⟩, .inr (.inr ⟨cb, by simp only; omega⟩)⟩
      · rw [hd, opU_p cb]; exact ⟨oa.1, .inr (.inl ⟨ca, by omega⟩)⟩
      · rw [hc, hd, opU_c ca, opU_p cb, opU_p (e := (b.1 - 1, b.2)) cb, opU_c ca, cut_put (s := s) (i := b.1.toNat) (j := a.1.toNat) (by omega) (by omega)]
        congr 1; simp only; omega
    · have hc : turned b a = b := by unfold turned; rw [if_neg (by omega), if_neg (by omega), if_neg hlt, if_neg (by omega)]
      have hd : turned a b = (a.1 + 1, a.2) := by unfold turned; rw [if_neg (by omega), if_pos cb, if_pos (by omega)]
      rw [hd] at h60
      simp only at h60
      refine ⟨?_, ?_, ?_⟩
      · rw [hc, opU_c ca]; exact ⟨ob.1, .inr (.inr ⟨cb, by omega⟩)⟩
      · rw [hd, opU_p cb]; exact ⟨editOk_iff.2 ⟨by simp only; omega, by simp only; omega, ka.2.2⟩, .inr (.inl ⟨ca, by simp only; omega⟩)⟩
      · rw [hc, hd, opU_c ca, opU_p cb, opU_p cb, opU_c (e := (a.1 + 1, a.2)) ca, ← put_cut (s := s) (i := b.1.toNat) (j := a.1.toNat) (by omega) (by omega)]
        congr 1; simp only; omega
  have pp : ∀ {a b : Ed}, okU s a → okU s b → 0 ≤ a.2.1 → 0 ≤ b.2.1 → (turned b a).1 ≤ 60 → a.1 < b.1 ∨ a.1 = b.1 ∧ a.2.2.1 < b.2.2.1 → TwoU s a b := by
    intro a b oa ob ca cb h60 hij
    have ka := editOk_iff.1 oa.1
    have kb := editOk_iff.1 ob.1
    have la : a.1 ≤ s.length := by rcases oa.2 with h | h | h <;> omega
    have lb : b.1 ≤ s.length := by rcases ob.2 with h | h | h <;> omega
    have hla := put_len (s := s) (i := a.1.toNat) (b := UInt8.ofNat a.2.1.toNat) (by omega)
    have hlb := put_len (s := s) (i := b.1.toNat) (b := UInt8.ofNat b.2.1.toNat) (by omega)
    have hc : turned b a = (b.1 + 1, b.2) := by unfold turned; rw [if_neg (by omega), if_pos ca, if_pos (by omega)]
    have hd : turned a b = a := by unfold turned; rw [if_neg (by omega), if_pos cb, if_neg (by omega)]
    rw [hc] at h60
    simp only at h60
    refine ⟨?_, ?_, ?_⟩
    · rw [hc, opU_p ca]; exact ⟨editOk_iff.2 ⟨by simp only; omega, by simp only; omega, kb.2.2⟩, .inr (.inr ⟨cb, by simp only; omega⟩)⟩
    · rw [hd, opU_p cb]; exact ⟨oa.1, .inr (.inr ⟨ca, by omega⟩)⟩
    · rw [hc, hd, opU_p ca, opU_p cb, opU_p (e := (b.1 + 1, b.2)) cb, opU_p ca, ← put_put (s := s) (i := a.1.toNat) (j := b.1.toNat) (by omega) (by omega)]
      congr 1; simp only; omega
  have ha := oa.2
  have hb := ob.2
  rcases ha with na | ⟨ca, la⟩ | ⟨pa, la⟩
  · exact none_ oa ob na
  · rcases hb with nb | ⟨cb, lb⟩ | ⟨pb, lb⟩
    · exact (none_ ob oa nb).swap
    · rcases Int.le_total a.1 b.1 with h | h
      · exact cc oa ob ca cb h
      · exact (cc ob oa cb ca h).swap
    · exact cp oa ob ca pb ha60
  · rcases hb with nb | ⟨cb, lb⟩ | ⟨pb, lb⟩
    · exact (none_ ob oa nb).swap
    · exact (cp ob oa cb pa hb60).swap
    · by_cases h : a.1 < b.1 ∨ a.1 = b.1 ∧ a.2.2.1 < b.2.2.1
      · exact pp oa ob pa pb hb60 h
      · exact (pp ob oa pb pa ha60 (by omega)).swap

/-! Lists. -/
def okL : List UInt8 → List Ed → Prop
  | _, [] => True
  | s, e :: r => okU s e ∧ okL (opU s e) r
def opL : List UInt8 → List Ed → List UInt8
  | s, [] => s
  | s, e :: r => opL (opU s e) r
theorem allE_ok : ∀ {l : List Ed} {s : List UInt8}, allE s l = 0 → okL s l ∧ allS s l = opL s l := by
  intro l
  induction l with
  | nil => intro s _; exact ⟨trivial, rfl⟩
  | cons e r ih =>
    intro s h
    unfold allE at h
    split at h
    · rename_i h0
      obtain ⟨h1, h2⟩ := okU_of h0
      obtain ⟨h3, h4⟩ := ih h
      rw [h2] at h3 h4
      exact ⟨⟨h1, h3⟩, by unfold allS opL; rw [if_pos h0, h2, h4]⟩
    · rename_i h0; exact absurd h h0
theorem allE_err : ∀ {l : List Ed} {s : List UInt8}, okL s l → allE s l = 0 ∨ allE s l = 4 := by
  intro l
  induction l with
  | nil => intro s _; exact .inl rfl
  | cons e r ih =>
    intro s ⟨h1, h2⟩
    unfold allE
    rcases err_of h1 with h | h
    · rw [if_pos h, (okU_of h).2]; exact ih h2
    · rw [if_neg (by omega)]; exact .inr h

theorem pass_two : ∀ {l : List Ed} {s : List UInt8} {e : Ed}, okU s e → okL s l → pE e l = 0 →
    okL (opU s e) (pO e l) ∧ okU (opL s l) (pF e l) ∧ opL (opU s e) (pO e l) = opU (opL s l) (pF e l) ∧ (pO e l).length = l.length := by
  intro l
  induction l with
  | nil => intro s e he _ _; exact ⟨trivial, he, rfl, rfl⟩
  | cons x r ih =>
    intro s e he ⟨hx, hr⟩ hp
    have hp' := hp
    unfold pE at hp
    split at hp
    · rename_i h1
      split at hp
      · rename_i h2
        have t1 := (turn_zero h1).1
        have t2 := (turn_zero h2).1
        obtain ⟨k1, k2, k3⟩ := twoU he hx h1 h2
        rw [← t1, ← t2] at k3
        rw [← t1] at k1
        rw [← t2] at k2
        obtain ⟨i1, i2, i3, i4⟩ := ih k2 hr hp
        have ho : pO e (x :: r) = turn x e :: pO (turn e x) r := by rw [pO, if_pos hp']
        have hf : pF e (x :: r) = pF (turn e x) r := by rw [pF, if_pos h1, if_pos h2]
        rw [ho, hf]
        refine ⟨⟨k1, by rw [k3]; exact i1⟩, i2, ?_, by simp [i4]⟩
        show opL (opU (opU s e) (turn x e)) (pO (turn e x) r) = _
        rw [k3]; exact i3
      · rename_i h2; exact absurd hp h2
    · rename_i h1; exact absurd hp h1

theorem meet_two : ∀ {a b : List Ed} {s : List UInt8}, okL s a → okL s b → rE a b = 0 →
    okL (opL s a) (rB a b) ∧ okL (opL s b) (rA a b) ∧ opL (opL s a) (rB a b) = opL (opL s b) (rA a b) := by
  intro a
  induction a with
  | nil => intro b s _ hb _; exact ⟨hb, trivial, rfl⟩
  | cons e r ih =>
    intro b s ⟨he, hr⟩ hb h
    unfold rE at h
    split at h
    · rename_i hp
      obtain ⟨i1, i2, i3, i4⟩ := pass_two he hb hp
      obtain ⟨j1, j2, j3⟩ := ih hr i1 h
      exact ⟨j1, ⟨i2, by rw [← i3]; exact j2⟩, by show opL (opL (opU s e) r) (rB r (pO e b)) = opL (opU (opL s b) (pF e b)) (rA r (pO e b)); rw [← i3]; exact j3⟩
    · rename_i hp; exact absurd h hp

theorem pO_err {e : Ed} {l : List Ed} (h : pE e l ≠ 0) : pO e l = [] := by
  cases l with
  | nil => rfl
  | cons x r => rw [pO, if_neg h]
theorem pO_len : ∀ {l : List Ed} {e : Ed}, (pO e l).length ≤ l.length := by
  intro l
  induction l with
  | nil => intro e; exact Nat.le_refl _
  | cons x r ih =>
    intro e
    rw [pO]
    split
    · simpa using ih
    · simp
theorem rA_len : ∀ {a b : List Ed}, (rA a b).length = a.length := by
  intro a
  induction a with
  | nil => intro b; rfl
  | cons e r ih => intro b; simp [rA, ih]
theorem pO_len0 : ∀ {l : List Ed} {e : Ed}, pE e l = 0 → (pO e l).length = l.length := by
  intro l
  induction l with
  | nil => intro e _; rfl
  | cons x r ih =>
    intro e h
    have h' := h
    unfold pE at h
    split at h
    · split at h
      · rw [pO, if_pos h']; simp [ih h]
      · rename_i h2; exact absurd h h2
    · rename_i h1; exact absurd h h1
theorem rB_len : ∀ {a b : List Ed}, rE a b = 0 → (rB a b).length = b.length := by
  intro a
  induction a with
  | nil => intro b _; rfl
  | cons e r ih =>
    intro b h
    unfold rE at h
    split at h
    · rename_i hp
      show (rB r (pO e b)).length = _
      rw [ih h, pO_len0 hp]
    · rename_i hp; exact absurd h hp
end Go.Proofs.YtpidkjpjjidghaaDoor

/- Edits: EditOne's law. -/
namespace Go.Proofs.YtpidkjpjjidghaaDoor
open Go.Vc

theorem one_vc (s : List UInt8) (a b : Ed) (k : List Dat → Prop) (hk : k [⟨.bool, true⟩]) :
    vcF ⟨Ee, [(6, cFact), (7, cApply), (8, cTurn), (9, cError)], glE, [], []⟩ [joinAll] (Tryd.f3.body.getD .skip) Tryd.f3.ntmps [(.tmp 6, .bool)] [⟨.str, s⟩, ⟨tEdit, a⟩, ⟨tEdit, b⟩] k := by
  rw [vcOne]
  simp only [decide_eq_true_eq, decide_eq_false_iff_not, and_true, true_and, Bool.not_eq_true', Bool.not_eq_false']
  refine ⟨(fun h => by cases h), fun _ => ⟨fun _ => hk, fun ha => ⟨fun _ => hk, fun hb => ⟨fun _ => hk, fun h1 => ⟨fun _ => hk, fun h2 => ?_⟩⟩⟩⟩⟩
  have ho := one ha hb h1 h2
  unfold OneP at ho
  rw [← (turn_zero h1).1, ← (turn_zero h2).1] at ho
  rcases ho with ⟨p, q, e⟩ | ⟨p, q⟩
  · exact ⟨fun h => absurd p h, fun _ => ⟨fun h => absurd q h, fun _ => by rw [e, beq_self_eq_true]; exact hk⟩⟩
  · rw [p, q]
    have hin : inK .i64 (4 : Int) := by rw [inK_i64]; omega
    exact ⟨fun _ => ⟨hin, fun _ => ⟨hin, hk⟩, fun h => absurd rfl h⟩, fun h => by cases h⟩

theorem okOne : PlainOk Tryd.prog glE 3 cOne := by
  refine plain_of (CxOk.mk' Ee_ok rfl (by kernel_rfl) (gl := glE) (GOk.cons okFact Tryd.func6 (by kernel_rfl) (by kernel_rfl) (GOk.cons okApply Tryd.func7 (by kernel_rfl) (by kernel_rfl) (GOk.cons okTurn Tryd.func8 (by kernel_rfl) (by kernel_rfl) (GOk.cons okError Tryd.func9 (by kernel_rfl) (by kernel_rfl) GOk.nil)))) GoOk.nil noIt) Tryd.func3 (c := Tryd.f3.body.getD .skip) (rvs := [(.tmp 6, .bool)]) (by kernel_rfl) (by kernel_rfl) (by kernel_rfl) ?_
  intro ds k ⟨hp, hk⟩ hwf
  obtain ⟨s, a, b, rfl, -⟩ := dest3 hp
  exact ⟨[joinAll], one_vc s a b k hk⟩
end Go.Proofs.YtpidkjpjjidghaaDoor

/- Edits: lists of them: what their functions answer. -/
namespace Go.Proofs.YtpidkjpjjidghaaDoor
open Go.Vc

theorem drop_at {α : Type} {l : List α} {i : Nat} {z : α} (h : i < l.length) : l.drop i = l.getD i z :: l.drop (i + 1) := by
  rw [List.getD_eq_getElem?_getD, List.getElem?_eq_getElem h, Option.getD_some]
  exact List.drop_eq_getElem_cons h
theorem take_at {α : Type} {l : List α} {i : Nat} {z : α} (h : i < l.length) : l.take (i + 1) = l.take i ++ [l.getD i z] := by
  rw [List.getD_eq_getElem?_getD, List.getElem?_eq_getElem h, Option.getD_some]
  exact List.take_succ_eq_append_getElem h

theorem pass_vc (e : Ed) (l : List Ed) (k : List Dat → Prop) (hl : l.length ≤ 8) (hk : k [⟨tEdit, pF e l⟩, ⟨tEds, pO e l⟩, ⟨tErr, pE e l⟩]) :
    vcF ⟨Em, [(8, cTurn)], glE, [], []⟩ (anPass e l) (Tryd.f22.body.getD .skip) Tryd.f22.ntmps [(.cell 4 23, tEdit), (.tmp 5, tEds), (.tmp 6, tErr)] [⟨tEdit, e⟩, ⟨tEds, l⟩] k := by
  rw [vcPass]
  simp only [decide_eq_true_eq, decide_eq_false_iff_not, Bool.not_eq_true', Bool.not_eq_false', and_true, true_and, Int.toNat_natCast, Int.ofNat_lt, Decidable.not_not]
  refine ⟨⟨(0, e, []), ⟨Nat.zero_le _, rfl, rfl, fun _ => rfl, rfl⟩, rfl, rfl, rfl⟩, ?_⟩
  rintro ⟨i, x, out⟩ ⟨h1, h2, h3, h4, h5⟩
  simp only at h1 h2 h3 h4 h5 ⊢
  refine ⟨fun hi => ?_, fun hi => ?_⟩
  · have hd : l.drop i = l.getD i (0, 0, 0, ()) :: l.drop (i + 1) := drop_at hi
    generalize l.getD i (0, 0, 0, ()) = y at hd ⊢
    rw [hd] at h2 h3 h4
    refine ⟨by omega, hi, fun he => ?_, fun h0 => ⟨fun he => ?_, fun h00 => ?_⟩⟩
    · have e1 : pE x (y :: l.drop (i + 1)) = turnErr y x := by rw [pE, if_neg he]
      have e2 : pF x (y :: l.drop (i + 1)) = x := by rw [pF, if_neg he]
      rw [← e1, ← h2]
      rw [h3, e2, pO_err (e := e) (l := l) (by rw [h2, e1]; exact he)] at hk
      exact hk
    · have e1 : pE x (y :: l.drop (i + 1)) = turnErr x y := by rw [pE, if_pos h0, if_neg he]
      have e2 : pF x (y :: l.drop (i + 1)) = turn x y := by rw [pF, if_pos h0, if_neg he]
      rw [← e1, ← h2]
      rw [h3, e2, pO_err (e := e) (l := l) (by rw [h2, e1]; exact he)] at hk
      exact hk
    · refine ⟨by simp; omega, by rw [inK_i64]; omega, (i + 1, turn x y, out ++ [turn y x]), ⟨hi, ?_, ?_, ?_, ?_⟩, by simp only; omega, by simp, rfl, rfl⟩
      · rw [h2, pE, if_pos h0, if_pos h00]
      · rw [h3, pF, if_pos h0, if_pos h00]
      · intro hp
        rw [h4 hp, pO, if_pos (by rw [← h2]; exact hp)]
        simp
      · simp [h5]
  · have hd : l.drop i = [] := List.drop_eq_nil_of_le (by omega)
    rw [hd] at h2 h3 h4
    have hz : pE e l = 0 := h2
    rw [h3, h4 hz, hz] at hk
    simpa [pF, pO] using hk
theorem okPass : PlainOk Tryd.prog glE 22 cPass := by
  refine plain_of (CxOk.mk' Em_ok rfl (by kernel_rfl) (gl := glE) (GOk.cons okTurn Tryd.func8 (by kernel_rfl) (by kernel_rfl) GOk.nil) GoOk.nil noIt) Tryd.func22 (c := Tryd.f22.body.getD .skip) (rvs := [(.cell 4 23, tEdit), (.tmp 5, tEds), (.tmp 6, tErr)]) (by kernel_rfl) (by kernel_rfl) (by kernel_rfl) ?_
  intro ds k hs hwf
  obtain ⟨e, l, rfl, hl, hk⟩ := gdest2 hs
  exact ⟨anPass e l, pass_vc e l k hl hk⟩

theorem all_vc (s : List UInt8) (l : List Ed) (hl : l.length ≤ maxLen) (k : List Dat → Prop) (hk : k [⟨.str, allS s l⟩, ⟨tErr, allE s l⟩]) :
    vcF ⟨Em, [(7, cApply)], glE, [], []⟩ (anAll s l) (Tryd.f17.body.getD .skip) Tryd.f17.ntmps [(.tmp 4, .str), (.tmp 5, tErr)] [⟨.str, s⟩, ⟨tEds, l⟩] k := by
  rw [vcAll]
  simp only [decide_eq_true_eq, decide_eq_false_iff_not, Bool.not_eq_true', Bool.not_eq_false', and_true, true_and, Int.toNat_natCast, Int.ofNat_lt, Decidable.not_not]
  refine ⟨⟨(0, s), ⟨Nat.zero_le _, rfl, rfl⟩, rfl, rfl⟩, ?_⟩
  rintro ⟨i, t⟩ ⟨h1, h2, h3⟩
  simp only at h1 h2 h3 ⊢
  refine ⟨fun hi => ?_, fun hi => ?_⟩
  · have hd : l.drop i = l.getD i (0, 0, 0, ()) :: l.drop (i + 1) := drop_at hi
    generalize l.getD i (0, 0, 0, ()) = y at hd ⊢
    rw [hd] at h2 h3
    refine ⟨by omega, hi, fun he => ?_, fun h0 => ⟨?_, (i + 1, app t y), ⟨hi, ?_, ?_⟩, by simp only; omega, rfl, rfl⟩⟩
    · have e1 : allE t (y :: l.drop (i + 1)) = appErr t y := by rw [allE, if_neg he]
      have e2 : allS t (y :: l.drop (i + 1)) = [] := by rw [allS, if_neg he]
      rw [h2, h3, e1, e2] at hk
      exact hk
    · rw [inK_i64]; unfold maxLen at hl; omega
    · rw [h2, allE, if_pos h0]
    · rw [h3, allS, if_pos h0]
  · have hd : l.drop i = [] := List.drop_eq_nil_of_le (by omega)
    rw [hd] at h2 h3
    rw [h2, h3] at hk
    exact hk
theorem okAll : PlainOk Tryd.prog glE 17 cAll := by
  refine plain_of (CxOk.mk' Em_ok rfl (by kernel_rfl) (gl := glE) (GOk.cons okApply Tryd.func7 (by kernel_rfl) (by kernel_rfl) GOk.nil) GoOk.nil noIt) Tryd.func17 (c := Tryd.f17.body.getD .skip) (rvs := [(.tmp 4, .str), (.tmp 5, tErr)]) (by kernel_rfl) (by kernel_rfl) (by kernel_rfl) ?_
  intro ds k ⟨hp, hk⟩ hwf
  obtain ⟨s, l, rfl, -⟩ := dest2 hp
  exact ⟨anAll s l, all_vc s l (wf2 hwf).2.1 k hk⟩
end Go.Proofs.YtpidkjpjjidghaaDoor

/- Edits: two lists met; EditMeet's law. -/
namespace Go.Proofs.YtpidkjpjjidghaaDoor
open Go.Vc

theorem chk_one {e : Ed} : chk e = 0 ↔ editOk e = true := by unfold chk; split <;> simp_all
theorem two_all {a b : List Ed} : ((List.range 2).all fun n => (two a b n).all editOk) = (a.all editOk && b.all editOk) := by
  simp [two, List.range_succ]
theorem all_take_false {l : List Ed} {i : Nat} {z : Ed} (h : i < l.length) (hb : editOk (l.getD i z) ≠ true) : l.all editOk = false := by
  refine List.all_eq_false.2 ⟨l.getD i z, ?_, hb⟩
  rw [List.getD_eq_getElem?_getD, List.getElem?_eq_getElem h, Option.getD_some]
  exact List.getElem_mem h
theorem any_true {l b : List Ed} {i : Nat} {z : Ed} (h : i < l.length) (hb : someWho b (l.getD i z) = true) : l.any (someWho b) = true := by
  refine List.any_eq_true.2 ⟨l.getD i z, ?_, hb⟩
  rw [List.getD_eq_getElem?_getD, List.getElem?_eq_getElem h, Option.getD_some]
  exact List.getElem_mem h
theorem some_true {b : List Ed} {x : Ed} {j : Nat} {z : Ed} (h : j < b.length) (hb : x.2.2.1 = (b.getD j z).2.2.1) : someWho b x = true := by
  refine List.any_eq_true.2 ⟨b.getD j z, ?_, by simpa using hb⟩
  rw [List.getD_eq_getElem?_getD, List.getElem?_eq_getElem h, Option.getD_some]
  exact List.getElem_mem h

theorem meet_vc (a b : List Ed) (k : List Dat → Prop) (hk : k [⟨tEds, meetA a b⟩, ⟨tEds, meetB a b⟩, ⟨tErr, meetE a b⟩]) :
    vcF ⟨Em, [(10, cCheck), (22, cPass)], glE, [], []⟩ (anMeet a b) (Tryd.f15.body.getD .skip) Tryd.f15.ntmps [(.tmp 4, tEds), (.tmp 5, tEds), (.tmp 6, tErr)] [⟨tEds, a⟩, ⟨tEds, b⟩] k := by
  have herr : ∀ n : Int, n ≠ 0 → meetE a b = n → k [⟨tEds, []⟩, ⟨tEds, []⟩, ⟨tErr, n⟩] := by
    intro n hn he
    unfold meetA meetB at hk
    rw [he, if_neg hn, if_neg hn] at hk
    exact hk
  rw [vcMeet]
  have h2 : ((List.replicate 2 ([] : List Ed)).set 0 a).set 1 b = [a, b] := rfl
  simp only [h2, decide_eq_true_eq, decide_eq_false_iff_not, Bool.not_eq_true', Bool.not_eq_false', and_true, true_and, Int.toNat_natCast, Int.ofNat_lt, Decidable.not_not]
  have h8 : (8 : Int) = ((8 : Nat) : Int) := rfl
  refine ⟨fun h => ⟨by decide, herr 4 (by decide) (by unfold meetE; rw [if_pos (.inl (by omega))])⟩, fun ha => ⟨fun h => ⟨by decide, herr 4 (by decide) (by unfold meetE; rw [if_pos (.inr (by omega))])⟩, fun hb => ?_⟩⟩
  have ha : a.length ≤ 8 := by omega
  have hb : b.length ≤ 8 := by omega
  refine ⟨⟨0, ⟨Nat.zero_le _, rfl⟩, rfl⟩, ?_⟩
  rintro i ⟨hi, hall⟩
  refine ⟨fun hi2 => ?_, fun hi2 => ?_⟩
  · have hi2 : i < 2 := by omega
    have hlen : (two a b i).length ≤ 8 := by
      rcases (show i = 0 ∨ i = 1 by omega) with rfl | rfl
      · exact ha
      · exact hb
    have h12 : 8 < a.length ∨ 8 < b.length → False := by omega
    refine ⟨by omega, by omega, ⟨0, ⟨Nat.zero_le _, rfl⟩, rfl⟩, ?_⟩
    rintro j ⟨hj, hja⟩
    change (_ < (two a b i).length → _) ∧ (¬ _ < (two a b i).length → _)
    refine ⟨fun hjl => ⟨by omega, hjl, fun hc => ?_, fun hc => ⟨by rw [inK_i64]; omega, j + 1, ⟨hjl, ?_⟩, by omega, by omega⟩⟩, fun hjl => ⟨by rw [inK_i64]; omega, i + 1, ⟨by omega, ?_⟩, by omega, by omega⟩⟩
    · have hne : ¬ editOk ((two a b i).getD j (0, 0, 0, ())) = true := fun h => hc (chk_one.2 h)
      have h1 : chk ((two a b i).getD j (0, 0, 0, ())) = 1 := by unfold chk; rw [if_neg hne]
      have := herr 1 (by decide) (by
        unfold meetE
        rw [if_neg h12, if_pos]
        have hf := all_take_false hjl hne
        rcases (show i = 0 ∨ i = 1 by omega) with rfl | rfl
        · rw [show a.all editOk = false from hf]; rfl
        · rw [show b.all editOk = false from hf, Bool.and_false])
      show k [⟨tEds, []⟩, ⟨tEds, []⟩, ⟨tErr, chk ((two a b i).getD j (0, 0, 0, ()))⟩]
      rw [h1]; exact this
    · rw [take_at (z := (0, 0, 0, ())) hjl, List.all_append, hja]
      simpa using chk_one.1 (show chk ((two a b i).getD j (0, 0, 0, ())) = 0 from hc)
    · rw [List.range_succ, List.all_append, hall]
      rw [List.take_of_length_le (by omega)] at hja
      simpa using hja
  · have hi3 : i = 2 := by omega
    subst hi3
    rw [two_all] at hall
    refine ⟨⟨0, ⟨Nat.zero_le _, rfl⟩, rfl⟩, ?_⟩
    rintro i ⟨hi, hany⟩
    refine ⟨fun hil => ⟨by omega, hil, ⟨0, ⟨Nat.zero_le _, rfl⟩, rfl⟩, ?_⟩, fun hil => ?_⟩
    · rintro j ⟨hj, hso⟩
      refine ⟨fun hjl => ⟨by omega, hjl, fun he => ⟨by decide, herr 6 (by decide) ?_⟩, fun he => ⟨by rw [inK_i64]; omega, j + 1, ⟨hjl, ?_⟩, by omega, by omega⟩⟩, fun hjl => ⟨by rw [inK_i64]; omega, i + 1, ⟨hil, ?_⟩, by omega, by omega⟩⟩
      · unfold meetE
        rw [if_neg (by omega), if_neg (by rw [hall]; decide), if_pos (any_true hil (some_true hjl he))]
      · unfold someWho at hso ⊢
        rw [take_at (z := (0, 0, 0, ())) hjl, List.any_append, hso]
        simpa using he
      · rw [List.take_of_length_le (by omega)] at hso
        rw [take_at (z := (0, 0, 0, ())) hil, List.any_append, hany]
        simpa using hso
    · rw [List.take_of_length_le (by omega)] at hany
      have hm : meetE a b = rE a b := by
        unfold meetE
        rw [if_neg (by omega), if_neg (by rw [hall]; decide), if_neg (by rw [hany]; decide)]
      refine ⟨⟨(0, b, []), ⟨Nat.zero_le _, ha, hm, rfl, fun _ => ⟨rfl, rfl⟩, hb, rfl⟩, ⟨rfl, rfl⟩, rfl⟩, ?_⟩
      rintro ⟨i, ys, out⟩ ⟨p1, p2, p3, p4, p5, p6, p7⟩
      simp only at p1 p2 p3 p4 p5 p6 p7 ⊢
      refine ⟨fun hil => ?_, fun hil => ?_⟩
      · have hd : a.drop i = a.getD i (0, 0, 0, ()) :: a.drop (i + 1) := drop_at hil
        generalize a.getD i (0, 0, 0, ()) = x at hd ⊢
        rw [hd] at p4 p5
        refine ⟨by omega, hil, p6, fun he => herr _ he (by rw [p3, p4, rE, if_neg he]), fun he => ⟨by simp; omega, by rw [inK_i64]; omega, (i + 1, pO x ys, out ++ [pF x ys]), ⟨hil, p2, p3, by rw [p4, rE, if_pos he], fun h0 => ?_, Nat.le_trans pO_len p6, by simp [p7]⟩, by simp only; omega, ⟨rfl, by simp⟩, rfl⟩⟩
        obtain ⟨q1, q2⟩ := p5 h0
        exact ⟨by rw [q1, rA]; simp, by rw [q2, rB]⟩
      · have hd : a.drop i = [] := List.drop_eq_nil_of_le (by omega)
        rw [hd] at p4 p5
        have h0 : rE a b = 0 := p4
        obtain ⟨q1, q2⟩ := p5 h0
        unfold meetA meetB at hk
        rw [p3, h0, if_pos rfl, if_pos rfl, q1, q2] at hk
        refine ⟨by omega, ?_⟩
        simpa [rA, rB] using hk
theorem okMeet : PlainOk Tryd.prog glE 15 cMeet := by
  refine plain_of (CxOk.mk' Em_ok rfl (by kernel_rfl) (gl := glE) (GOk.cons okCheck Tryd.func10 (by kernel_rfl) (by kernel_rfl) (GOk.cons okPass Tryd.func22 (by kernel_rfl) (by kernel_rfl) GOk.nil)) GoOk.nil noIt) Tryd.func15 (c := Tryd.f15.body.getD .skip) (rvs := [(.tmp 4, tEds), (.tmp 5, tEds), (.tmp 6, tErr)]) (by kernel_rfl) (by kernel_rfl) (by kernel_rfl) ?_
  intro ds k hs hwf
  obtain ⟨a, b, rfl, hk⟩ := gdest2 hs
  exact ⟨anMeet a b, meet_vc a b k hk⟩

abbrev cLM : Ctr := cdet [.str, tEds, tEds] (fun _ _ _ => True) (fun _ _ _ => [⟨.bool, true⟩])
theorem err04 {n : Int} (h : n = 0 ∨ n = 4) (h0 : n ≠ 0) : n = 4 := by omega
theorem lm_vc (s : List UInt8) (a b : List Ed) (k : List Dat → Prop) (hk : k [⟨.bool, true⟩]) :
    vcF ⟨Em, [(6, cFact), (15, cMeet), (17, cAll), (9, cError)], glE, [], []⟩ [joinAll] (Tryd.f5.body.getD .skip) Tryd.f5.ntmps [(.tmp 6, .bool)] [⟨.str, s⟩, ⟨tEds, a⟩, ⟨tEds, b⟩] k := by
  rw [vcLM]
  simp only [decide_eq_true_eq, decide_eq_false_iff_not, and_true, true_and, Bool.not_eq_true', Bool.not_eq_false']
  refine ⟨(fun h => by cases h), fun _ => ⟨fun he => ?_, fun he => ?_⟩⟩
  · have h1 : meetA a b = [] := by unfold meetA; rw [if_neg he]
    have h2 : meetB a b = [] := by unfold meetB; rw [if_neg he]
    rw [h1, h2]
    exact ⟨fun _ => hk, fun h => absurd rfl h⟩
  · have h1 : meetA a b = rA a b := by unfold meetA; rw [if_pos he]
    have h2 : meetB a b = rB a b := by unfold meetB; rw [if_pos he]
    have hr : rE a b = 0 := by
      unfold meetE at he
      split at he
      · exact absurd he (by decide)
      · split at he
        · exact absurd he (by decide)
        · split at he
          · exact absurd he (by decide)
          · exact he
    rw [h1, h2, rA_len, rB_len hr]
    refine ⟨fun h => absurd rfl h, fun _ => ⟨fun h => absurd rfl h, fun _ => ⟨fun _ => hk, fun ea => ⟨fun _ => hk, fun eb => ?_⟩⟩⟩⟩
    obtain ⟨oa, sa⟩ := allE_ok ea
    obtain ⟨ob, sb⟩ := allE_ok eb
    obtain ⟨m1, m2, m3⟩ := meet_two oa ob hr
    rw [← sa] at m1 m3
    rw [← sb] at m2 m3
    have e1 := allE_err m1
    have e2 := allE_err m2
    have in4 : ∀ {n : Int}, n = 0 ∨ n = 4 → inK .i64 n := by intro n h; rw [inK_i64]; omega
    refine ⟨fun h => ⟨in4 e1, fun _ => hk, fun h4 => absurd (err04 e1 h) h4⟩, fun h => ⟨fun h' => ⟨in4 e1, fun _ => hk, fun _ => ⟨in4 e2, ?_⟩⟩, fun h' => ?_⟩⟩
    · rw [err04 e2 h']; exact hk
    · rw [(allE_ok h).2, (allE_ok h').2, m3, beq_self_eq_true]; exact hk
theorem okLM : PlainOk Tryd.prog glE 5 cLM := by
  refine plain_of (CxOk.mk' Em_ok rfl (by kernel_rfl) (gl := glE) (GOk.cons okFact Tryd.func6 (by kernel_rfl) (by kernel_rfl) (GOk.cons okMeet Tryd.func15 (by kernel_rfl) (by kernel_rfl) (GOk.cons okAll Tryd.func17 (by kernel_rfl) (by kernel_rfl) (GOk.cons okError Tryd.func9 (by kernel_rfl) (by kernel_rfl) GOk.nil)))) GoOk.nil noIt) Tryd.func5 (c := Tryd.f5.body.getD .skip) (rvs := [(.tmp 6, .bool)]) (by kernel_rfl) (by kernel_rfl) (by kernel_rfl) ?_
  intro ds k ⟨hp, hk⟩ hwf
  obtain ⟨s, a, b, rfl, -⟩ := dest3 hp
  exact ⟨[joinAll], lm_vc s a b k hk⟩
end Go.Proofs.YtpidkjpjjidghaaDoor

/- Edits: the document's answers are the program's. -/
namespace Go.Proofs.YtpidkjpjjidghaaDoor
open Go.Vc

theorem okIn : PlainOk Tryd.prog glE 20 cWithin := by
  refine plain_of (CxOk.mk' Eq_ok (by kernel_rfl) (by kernel_rfl) (gl := glE) GOk.nil GoOk.nil noIt) Tryd.func20 (c := Tryd.f20.body.getD .skip) (rvs := [(.tmp 6, .bool)]) (by kernel_rfl) (by kernel_rfl) (by kernel_rfl) ?_
  intro ds k ⟨hp, hk⟩ hwf
  obtain ⟨a, b, c, rfl, -⟩ := dest3 hp
  have hk : k [⟨.bool, inB a b c⟩] := hk
  refine ⟨[joinAll], ?_⟩
  rw [vcIn]
  unfold inB at hk
  refine ⟨fun h => ?_, fun h => ?_⟩
  · rw [h] at hk; exact hk
  · rw [h] at hk; exact hk
theorem okREdit : PlainOk Tryd.prog glE 11 cREdit := by
  refine plain_of (CxOk.mk' Eq_ok (by kernel_rfl) (by kernel_rfl) (gl := glE) (GOk.cons okIn Tryd.func20 (by kernel_rfl) (by kernel_rfl) GOk.nil) GoOk.nil noIt) Tryd.func11 (c := Tryd.f11.body.getD .skip) (rvs := [(.tmp 2, I)]) (by kernel_rfl) (by kernel_rfl) (by kernel_rfl) ?_
  intro ds k ⟨hp, hk⟩ hwf
  obtain ⟨e, rfl, -⟩ := dest1 hp
  have hk : k [⟨I, chk e⟩] := hk
  refine ⟨[joinAll], ?_⟩
  rw [vcREdit]
  simp only [Bool.not_eq_true', Bool.not_eq_false', true_and]
  unfold chk editOk at hk
  refine ⟨fun h => ?_, fun h1 => ⟨fun h => ?_, fun h2 => ⟨fun h => ?_, fun h3 => ?_⟩⟩⟩
  · simpa [h] using hk
  · simpa [h] using hk
  · simpa [h] using hk
  · simpa [h1, h2, h3] using hk
theorem okMoved : PlainOk Tryd.prog glE 21 cMoved := by
  refine plain_of (CxOk.mk' Eq_ok (by kernel_rfl) (by kernel_rfl) (gl := glE) GOk.nil GoOk.nil noIt) Tryd.func21 (c := Tryd.f21.body.getD .skip) (rvs := [(.cell 4 23, tEdit)]) (by kernel_rfl) (by kernel_rfl) (by kernel_rfl) ?_
  intro ds k ⟨hp, hk⟩ hwf
  obtain ⟨e, f, rfl, ⟨he, hf⟩⟩ := dest2 hp
  have hk : k [⟨tEdit, turned e f⟩] := hk
  have ke := editOk_iff.1 he
  have kf := editOk_iff.1 hf
  refine ⟨[joinAll], ?_⟩
  rw [vcMoved]
  simp only [decide_eq_true_eq, decide_eq_false_iff_not]
  have hin : inK .i64 (e.1 - 1) := by rw [inK_i64]; omega
  have hin2 : inK .i64 (e.1 + 1) := by rw [inK_i64]; omega
  refine ⟨fun h => ?_, fun h1 => ⟨fun h => ?_, fun h2 => ⟨fun h3 => ⟨fun h4 => ⟨fun h5 => ⟨fun h6 => ⟨hin, ?_⟩, fun h6 => ?_⟩, fun h5 => ⟨fun h6 => ⟨hin, ?_⟩, fun h6 => ?_⟩⟩, fun h4 => ⟨fun h6 => ⟨hin, ?_⟩, fun h6 => ?_⟩⟩, fun h3 => ⟨fun h4 => ⟨hin2, ?_⟩, fun h4 => ⟨fun h5 => ⟨fun h6 => ⟨hin2, ?_⟩, fun h6 => ⟨fun h7 => ⟨hin2, ?_⟩, fun h7 => ?_⟩⟩, fun h5 => ?_⟩⟩⟩⟩⟩
  · unfold turned at hk; rw [if_pos (.inl h)] at hk; exact hk
  · unfold turned at hk; rw [if_pos (.inr h)] at hk; exact hk
  · omega
  · unfold turned at hk; rw [if_neg (by omega), if_neg (by omega), if_neg h6, if_pos ⟨h4, by omega⟩] at hk; exact hk
  · omega
  · unfold turned at hk; rw [if_neg (by omega), if_neg (by omega), if_neg h6, if_neg (by omega)] at hk; exact hk
  · unfold turned at hk; rw [if_neg (by omega), if_neg (by omega), if_pos h6] at hk; exact hk
  · unfold turned at hk; rw [if_neg (by omega), if_neg (by omega), if_neg h6, if_neg (by omega)] at hk; exact hk
  · unfold turned at hk; rw [if_neg (by omega), if_pos (by omega), if_pos (by omega)] at hk; exact hk
  · unfold turned at hk; rw [if_neg (by omega), if_pos (by omega), if_pos (by omega)] at hk; exact hk
  · unfold turned at hk; rw [if_neg (by omega), if_pos (by omega), if_pos (by omega)] at hk; exact hk
  · unfold turned at hk; rw [if_neg (by omega), if_pos (by omega), if_neg (by omega)] at hk; exact hk
  · unfold turned at hk; rw [if_neg (by omega), if_pos (by omega), if_neg (by omega)] at hk; exact hk
theorem okRTurn : PlainOk Tryd.prog glE 13 cRTurn := by
  refine plain_of (CxOk.mk' Eq_ok (by kernel_rfl) (by kernel_rfl) (gl := glE) (GOk.cons okREdit Tryd.func11 (by kernel_rfl) (by kernel_rfl) (GOk.cons okMoved Tryd.func21 (by kernel_rfl) (by kernel_rfl) GOk.nil)) GoOk.nil noIt) Tryd.func13 (c := Tryd.f13.body.getD .skip) (rvs := [(.cell 4 23, tEdit), (.tmp 5, I)]) (by kernel_rfl) (by kernel_rfl) (by kernel_rfl) ?_
  intro ds k ⟨hp, hk⟩ hwf
  obtain ⟨e, f, rfl, -⟩ := dest2 hp
  have hk : k [⟨tEdit, turn e f⟩, ⟨I, turnErr e f⟩] := hk
  refine ⟨[joinAll], ?_⟩
  rw [vcRTurn]
  simp only [decide_eq_true_eq, decide_eq_false_iff_not, Bool.not_eq_true', Bool.not_eq_false', true_and]
  have herr : ∀ n : Int, n ≠ 0 → turnErr e f = n → k [⟨tEdit, ((0, 0, 0, ()) : Ed)⟩, ⟨I, n⟩] := by
    intro n hn h
    unfold turn at hk
    rw [h, if_neg hn] at hk
    exact hk
  refine ⟨fun h => herr 1 (by decide) ?_, fun h1 => ⟨fun h => herr 1 (by decide) ?_, fun h2 => ⟨fun h => herr 6 (by decide) ?_, fun h3 => ⟨⟨chk_one.1 h1, chk_one.1 h2⟩, fun h => herr 4 (by decide) ?_, fun h4 => ?_⟩⟩⟩⟩
  · have : editOk e = false := by cases he : editOk e with
      | false => rfl
      | true => exact absurd (chk_one.2 he) h
    unfold turnErr; rw [if_pos this]
  · have : editOk f = false := by cases he : editOk f with
      | false => rfl
      | true => exact absurd (chk_one.2 he) h
    unfold turnErr; rw [if_neg (by rw [chk_one.1 h1]; decide), if_pos this]
  · unfold turnErr; rw [if_neg (by rw [chk_one.1 h1]; decide), if_neg (by rw [chk_one.1 h2]; decide), if_pos h]
  · unfold turnErr; rw [if_neg (by rw [chk_one.1 h1]; decide), if_neg (by rw [chk_one.1 h2]; decide), if_neg h3, if_pos h]
  · have h0 : turnErr e f = 0 := by unfold turnErr; rw [if_neg (by rw [chk_one.1 h1]; decide), if_neg (by rw [chk_one.1 h2]; decide), if_neg h3, if_neg h4]
    rw [(turn_zero h0).1, h0] at hk
    exact hk

theorem edits_vc (a b : List Ed) (ha : a.length ≤ maxLen) (k : List Dat → Prop) (hk : k [⟨.bool, decide (a = b)⟩]) :
    vcF ⟨Eq_, [], glE, [], []⟩ (anEdits a b) (Tryd.f16.body.getD .skip) Tryd.f16.ntmps [(.tmp 4, .bool)] [⟨tEds, a⟩, ⟨tEds, b⟩] k := by
  rw [vcEdits]
  simp only [decide_eq_true_eq, decide_eq_false_iff_not, Bool.not_eq_true', Bool.not_eq_false', and_true, true_and, Int.toNat_natCast, Int.ofNat_lt, Int.natCast_inj, Bool.and_true, Bool.and_eq_true, Bool.and_eq_false_iff]
  refine ⟨fun h => ?_, fun hl => ⟨⟨0, ⟨Nat.zero_le _, hl, rfl⟩, rfl⟩, ?_⟩⟩
  · rw [show decide (a = b) = false from decide_eq_false fun e => h (by rw [e])] at hk; exact hk
  rintro i ⟨hi, -, ht⟩
  refine ⟨fun hil => ⟨⟨by omega, hil, by omega, by omega⟩, fun h => ?_, fun h => ⟨by rw [inK_i64]; unfold maxLen at ha; omega, i + 1, ⟨hil, hl, ?_⟩, by omega, by omega⟩⟩, fun hil => ?_⟩
  · rw [show decide (a = b) = false from decide_eq_false fun e => by subst e; simp at h] at hk; exact hk
  · have hx : a.getD i (0, 0, 0, ()) = b.getD i (0, 0, 0, ()) := Prod.ext h.1 (Prod.ext h.2.1 (Prod.ext h.2.2 rfl))
    rw [take_at (z := (0, 0, 0, ())) hil, take_at (z := (0, 0, 0, ())) (by omega), ht, hx]
  · rw [List.take_of_length_le (by omega), List.take_of_length_le (by omega)] at ht
    rw [show decide (a = b) = true from decide_eq_true ht] at hk; exact hk
theorem okEdits : PlainOk Tryd.prog glE 16 cEdits := by
  refine plain_of (CxOk.mk' Eq_ok (by kernel_rfl) (by kernel_rfl) (gl := glE) GOk.nil GoOk.nil noIt) Tryd.func16 (c := Tryd.f16.body.getD .skip) (rvs := [(.tmp 4, .bool)]) (by kernel_rfl) (by kernel_rfl) (by kernel_rfl) ?_
  intro ds k ⟨hp, hk⟩ hwf
  obtain ⟨a, b, rfl, -⟩ := dest2 hp
  exact ⟨anEdits a b, edits_vc a b (wf2 hwf).1.1 k hk⟩
end Go.Proofs.YtpidkjpjjidghaaDoor

/- Edits: the document's texts and lists; EditSays' law. -/
namespace Go.Proofs.YtpidkjpjjidghaaDoor
open Go.Vc

def byts (l : List UInt8) : List Int := l.map fun b => (b.toNat : Int)
theorem bstr_byts (l : List UInt8) : bstr (byts l) = l := by
  unfold bstr byts
  rw [List.map_map]
  conv => rhs; rw [← List.map_id l]
  exact List.map_congr_left fun b _ => by simp
theorem bstr_app (x y : List Int) : bstr (x ++ y) = bstr x ++ bstr y := List.map_append
theorem byts_len (l : List UInt8) : (byts l).length = l.length := List.length_map _
theorem byts_take {s : List UInt8} {i : Nat} (h : i < s.length) : byts (s.take (i + 1)) = byts (s.take i) ++ [((s.getD i 0).toNat : Int)] := by
  rw [take_at (z := 0) h]; unfold byts; rw [List.map_append]; rfl
theorem bytes_succ (s : List UInt8) (e : Ed) (i : Nat) : bytesB s e (i + 1) = bytesB s e i ++ stepB s e i := by
  unfold bytesB; rw [List.range_succ, List.map_append, List.flatten_append]; simp
theorem bytes_len (s : List UInt8) (e : Ed) : ∀ i, (bytesB s e i).length ≤ 2 * i := by
  intro i
  induction i with
  | zero => exact Nat.le_refl _
  | succ i ih =>
    rw [bytes_succ, List.length_append]
    have : (stepB s e i).length ≤ 2 := by
      unfold stepB; rw [List.length_append]
      split <;> split <;> simp
    omega

theorem step_in {s : List UInt8} {e : Ed} {i : Nat} (h1 : i < s.length) (h2 : (i : Int) ≠ e.1 ∨ 0 ≤ e.2.1) : stepB s e i = (if (i : Int) = e.1 ∧ 0 ≤ e.2.1 then [e.2.1] else []) ++ [((s.getD i 0).toNat : Int)] := by
  have : (if i < s.length ∧ ((i : Int) ≠ e.1 ∨ 0 ≤ e.2.1) then [((s.getD i 0).toNat : Int)] else []) = [((s.getD i 0).toNat : Int)] := if_pos ⟨h1, h2⟩
  unfold stepB; rw [this]
theorem step_out {s : List UInt8} {e : Ed} {i : Nat} (h : ¬ (i < s.length ∧ ((i : Int) ≠ e.1 ∨ 0 ≤ e.2.1))) : stepB s e i = if (i : Int) = e.1 ∧ 0 ≤ e.2.1 then [e.2.1] else [] := by
  have : (if i < s.length ∧ ((i : Int) ≠ e.1 ∨ 0 ≤ e.2.1) then [((s.getD i 0).toNat : Int)] else []) = [] := if_neg h
  unfold stepB; rw [this, List.append_nil]

theorem bytes_c {s : List UInt8} {e : Ed} (hc : e.2.1 = -1) (h0 : 0 ≤ e.1) (h1 : e.1 < s.length) : ∀ i, i ≤ s.length →
    bytesB s e i = if i ≤ e.1.toNat then byts (s.take i) else byts (s.take e.1.toNat) ++ byts ((s.take i).drop (e.1.toNat + 1)) := by
  intro i
  induction i with
  | zero => intro _; rw [if_pos (Nat.zero_le _)]; rfl
  | succ i ih =>
    intro hi
    rw [bytes_succ, ih (by omega)]
    have hs : stepB s e i = if (i : Int) = e.1 then [] else [((s.getD i 0).toNat : Int)] := by
      unfold stepB
      rw [if_neg (by omega)]
      by_cases h : (i : Int) = e.1
      · rw [if_neg (by omega), if_pos h]; rfl
      · rw [if_pos (by omega), if_neg h]; rfl
    rw [hs]
    by_cases h : (i : Int) = e.1
    · rw [if_pos (by omega), if_pos h, if_neg (by omega), show i = e.1.toNat by omega, List.append_nil]
      rw [List.drop_eq_nil_of_le (by rw [List.length_take]; omega)]
      simp [byts]
    · rw [if_neg h]
      by_cases h2 : i + 1 ≤ e.1.toNat
      · rw [if_pos (by omega), if_pos h2, byts_take (by omega)]
      · rw [if_neg (by omega), if_neg h2, List.append_assoc]
        congr 1
        rw [take_at (z := 0) (show i < s.length by omega), List.drop_append_of_le_length (by rw [List.length_take]; omega)]
        unfold byts; rw [List.map_append]; rfl
theorem bytes_p {s : List UInt8} {e : Ed} (hc : 0 ≤ e.2.1) (h0 : 0 ≤ e.1) (h1 : e.1 ≤ s.length) : ∀ i, i ≤ s.length →
    bytesB s e i = if i ≤ e.1.toNat then byts (s.take i) else byts (s.take e.1.toNat) ++ [e.2.1] ++ byts ((s.take i).drop e.1.toNat) := by
  intro i
  induction i with
  | zero => intro _; rw [if_pos (Nat.zero_le _)]; rfl
  | succ i ih =>
    intro hi
    rw [bytes_succ, ih (by omega)]
    have hs : stepB s e i = (if (i : Int) = e.1 then [e.2.1] else []) ++ [((s.getD i 0).toNat : Int)] := by
      rw [step_in (by omega) (.inr hc)]
      by_cases h : (i : Int) = e.1
      · rw [if_pos ⟨h, hc⟩, if_pos h]
      · rw [if_neg (fun k => h k.1), if_neg h]
    rw [hs]
    by_cases h : (i : Int) = e.1
    · rw [if_pos (by omega), if_pos h, if_neg (by omega), show e.1.toNat = i by omega, take_at (z := 0) (show i < s.length by omega), List.drop_left' (by rw [List.length_take]; omega), ← List.append_assoc]
      rfl
    · rw [if_neg h, List.nil_append]
      by_cases h2 : i + 1 ≤ e.1.toNat
      · rw [if_pos (by omega), if_pos h2, byts_take (by omega)]
      · rw [if_neg (by omega), if_neg h2, List.append_assoc]
        congr 1
        rw [take_at (z := 0) (show i < s.length by omega), List.drop_append_of_le_length (by rw [List.length_take]; omega)]
        unfold byts; rw [List.map_append]; rfl
/-- all bytes of an edited text -/
theorem bytes_all {s : List UInt8} {e : Ed} (ok : editOk e = true) (hn : e.2.1 ≠ -2) (h1 : e.1 ≤ s.length) (hc : e.2.1 = -1 → e.1 < s.length) :
    bstr (bytesB s e (s.length + 1)) = opU s e ∧ (bytesB s e (s.length + 1)).length = (opU s e).length := by
  have ke := editOk_iff.1 ok
  have hlen : ∀ x : List Int, (bstr x).length = x.length := fun x => List.length_map _
  suffices bstr (bytesB s e (s.length + 1)) = opU s e from ⟨this, by rw [← this, hlen]⟩
  rw [bytes_succ]
  by_cases hm : e.2.1 = -1
  · have := hc hm
    rw [bytes_c hm ke.1 this _ (Nat.le_refl _), if_neg (by omega), List.take_length, show stepB s e s.length = [] by
      unfold stepB; rw [if_neg (by omega), if_neg (by omega)]; rfl, List.append_nil, bstr_app, bstr_byts, bstr_byts, opU_c hm]
    rfl
  · have hp : 0 ≤ e.2.1 := by omega
    rw [bytes_p hp ke.1 h1 _ (Nat.le_refl _), opU_p hp]
    by_cases hl : s.length ≤ e.1.toNat
    · have he : e.1.toNat = s.length := by omega
      rw [if_pos hl, List.take_length, show stepB s e s.length = [e.2.1] by
        unfold stepB; rw [if_pos ⟨by omega, hp⟩, if_neg (by omega)]; rfl, bstr_app, bstr_byts, he]
      unfold putL
      rw [List.take_length, List.drop_length, List.append_nil]; rfl
    · rw [if_neg hl, List.take_length, show stepB s e s.length = [] by
        unfold stepB; rw [if_neg (by omega), if_neg (by omega)]; rfl, List.append_nil, bstr_app, bstr_app, bstr_byts, bstr_byts]
      rfl

theorem rapply_vc (s : List UInt8) (e : Ed) (k : List Dat → Prop) (hk : k [⟨.str, app s e⟩, ⟨I, appErr s e⟩]) :
    vcF ⟨Eq_, [(11, cREdit)], glE, [], []⟩ (anRApply s e) (Tryd.f12.body.getD .skip) Tryd.f12.ntmps [(.tmp 4, .str), (.tmp 5, I)] [⟨.str, s⟩, ⟨tEdit, e⟩] k := by
  rw [vcRApply]
  have herr : ∀ n : Int, n ≠ 0 → appErr s e = n → k [⟨.str, ([] : List UInt8)⟩, ⟨I, n⟩] := by
    intro n hn h
    unfold app at hk
    rw [h, if_neg hn] at hk
    exact hk
  simp only [decide_eq_true_eq, decide_eq_false_iff_not, Bool.not_eq_true', Bool.not_eq_false', and_true, true_and, Int.toNat_natCast, Int.ofNat_lt, Decidable.not_not]
  refine ⟨fun h => herr 4 (by decide) ?_, fun h60 => ⟨fun h => herr 1 (by decide) ?_, fun hok => ?_⟩⟩
  · unfold appErr; rw [if_pos (by omega)]
  · have : editOk e = false := by cases he : editOk e with
      | false => rfl
      | true => exact absurd (chk_one.2 he) h
    unfold appErr; rw [if_neg (by omega), if_pos this]
  have ok := chk_one.1 hok
  have ke := editOk_iff.1 ok
  have e0 : appErr s e = if e.2.1 = -2 then 0 else if e.2.1 = -1 then (if (s.length : Int) ≤ e.1 then 5 else 0) else if (s.length : Int) < e.1 then 5 else if s.length = 60 then 4 else 0 := by
    unfold appErr; rw [if_neg (by omega), if_neg (by rw [ok]; decide)]
  refine ⟨fun hn => ?_, fun hn => ⟨⟨fun hm => ⟨fun h => herr 5 (by decide) ?_, fun h => ⟨fun h' => herr 5 (by decide) ?_, fun h' => ⟨0, by omega, fun _ => by omega⟩⟩⟩, fun hm => ⟨fun h => herr 5 (by decide) ?_, fun h => ⟨0, by omega, fun h' => absurd h' hm⟩⟩⟩, ?_⟩⟩
  · rw [if_pos hn] at e0
    unfold app at hk
    rw [e0, if_pos rfl, if_pos hn] at hk
    exact hk
  · rw [e0, if_neg hn, if_pos hm, if_pos h]
  · omega
  · rw [e0, if_neg hn, if_neg hm, if_pos h]
  rintro - ⟨hl, hc⟩
  refine ⟨⟨0, Nat.zero_le _, rfl, rfl⟩, ?_⟩
  intro i hi
  have hb := bytes_len s e i
  refine ⟨fun hil => ⟨⟨fun h1 => ⟨fun h2 => ⟨?_, by simp; omega, 0, ?_⟩, fun h2 => ⟨0, ?_⟩⟩, fun h1 => ⟨0, ?_⟩⟩, ?_⟩, fun hil => ?_⟩
  · show IntKind.u8.wrap _ = _
    unfold IntKind.wrap; simp [IntKind.signed, IntKind.bits]; omega
  · rw [if_pos ⟨h1, h2⟩]; rfl
  · rw [if_neg (fun h => h2 h.2), List.append_nil]
  · rw [if_neg (fun h => h1 h.1), List.append_nil]
  · rintro - -
    have hin : inK .i64 ((i : Int) + 1) := by rw [inK_i64]; omega
    have hb2 : (bytesB s e i ++ if (i : Int) = e.1 ∧ 0 ≤ e.2.1 then [e.2.1] else []).length ≤ 2 * i + 1 := by rw [List.length_append]; split <;> simp <;> omega
    refine ⟨fun hlt => ⟨fun h1 => ⟨by omega, hlt, by simp at hb2 ⊢; omega, hin, i + 1, by omega, by omega, by omega, ?_⟩, fun h1 => ⟨fun h2 => ⟨by omega, hlt, by simp at hb2 ⊢; omega, hin, i + 1, by omega, by omega, by omega, ?_⟩, fun h2 => ⟨hin, i + 1, by omega, by omega, by omega, ?_⟩⟩⟩, fun hlt => ⟨hin, i + 1, by omega, by omega, by omega, ?_⟩⟩
    · rw [bytes_succ, step_in hlt (.inl h1)]
      simp
    · rw [bytes_succ, step_in hlt (.inr h2)]
      simp
    · rw [bytes_succ, step_out (by rintro ⟨_, h | h⟩ <;> contradiction)]
    · rw [bytes_succ, step_out (fun h => hlt h.1)]
  · have he : i = s.length + 1 := by omega
    subst he
    obtain ⟨b1, b2⟩ := bytes_all ok hn hl hc
    rw [b1, b2]
    have hu : okU s e := ⟨ok, by omega⟩
    have hlen : (opU s e).length = if e.2.1 = -1 then s.length - 1 else s.length + 1 := by
      by_cases hm : e.2.1 = -1
      · rw [opU_c hm, if_pos hm, cut_len (by have := hc hm; omega)]
      · rw [opU_p (by omega), if_neg hm, put_len (by omega)]
    refine ⟨fun h => herr 4 (by decide) ?_, fun h => ?_⟩
    · have hm : e.2.1 ≠ -1 := by intro hm; rw [hlen, if_pos hm] at h; omega
      rw [hlen, if_neg hm] at h
      rw [e0, if_neg hn, if_neg hm, if_neg (by omega), if_pos (by omega)]
    · have h0 : appErr s e = 0 := by
        rw [e0, if_neg hn]
        split
        · rename_i hm
          rw [if_neg (by have := hc hm; omega)]
        · rename_i hm
          rw [hlen, if_neg hm] at h
          rw [if_neg (by omega), if_neg (by omega)]
      rw [(okU_of h0).2, h0] at hk
      exact hk
theorem okRApply : PlainOk Tryd.prog glE 12 cRApply := by
  refine plain_of (CxOk.mk' Eq_ok (by kernel_rfl) (by kernel_rfl) (gl := glE) (GOk.cons okREdit Tryd.func11 (by kernel_rfl) (by kernel_rfl) GOk.nil) GoOk.nil noIt) Tryd.func12 (c := Tryd.f12.body.getD .skip) (rvs := [(.tmp 4, .str), (.tmp 5, I)]) (by kernel_rfl) (by kernel_rfl) (by kernel_rfl) ?_
  intro ds k ⟨hp, hk⟩ hwf
  obtain ⟨s, e, rfl, -⟩ := dest2 hp
  exact ⟨anRApply s e, rapply_vc s e k hk⟩
end Go.Proofs.YtpidkjpjjidghaaDoor

/- Edits: the document's meeting of two lists; EditSays' law. -/
namespace Go.Proofs.YtpidkjpjjidghaaDoor
open Go.Vc

theorem who_map {b : List Ed} {x : Ed} : someWho b x = (b.map (·.2.2.1)).any fun z => decide (x.2.2.1 = z) := by unfold someWho; rw [List.any_map]; rfl
theorem turned_who {e f : Ed} : (turned e f).2.2.1 = e.2.2.1 := by
  unfold turned
  repeat' split
  all_goals rfl
theorem turned_ok {e f : Ed} (he : editOk e = true) (hf : editOk f = true) (h : (turned e f).1 ≤ 60) : editOk (turned e f) = true := by
  have ke := editOk_iff.1 he
  have kf := editOk_iff.1 hf
  rw [editOk_iff]
  revert h
  unfold turned
  repeat' split
  all_goals intro h
  all_goals first | omega | (simp only at h ⊢; omega)
theorem turnErr_of {e f : Ed} (he : editOk e = true) (hf : editOk f = true) (hw : e.2.2.1 ≠ f.2.2.1) : turnErr e f = if 60 < (turned e f).1 then 4 else 0 := by
  unfold turnErr; rw [if_neg (by rw [he]; decide), if_neg (by rw [hf]; decide), if_neg hw]
theorem mem_at {l : List Ed} {i : Nat} {z : Ed} (h : i < l.length) : l.getD i z ∈ l := by
  rw [List.getD_eq_getElem?_getD, List.getElem?_eq_getElem h, Option.getD_some]; exact List.getElem_mem h
theorem ok_at {l : List Ed} {i : Nat} {z : Ed} (h : i < l.length) (hl : okLs l = true) : editOk (l.getD i z) = true := List.all_eq_true.1 hl _ (mem_at h)
theorem who_ne {a b : List Ed} (h : a.any (someWho b) = false) {x y : Ed} (hx : x ∈ a) (hy : y ∈ b) : x.2.2.1 ≠ y.2.2.1 := by
  intro he
  have := List.any_eq_false.1 h x hx
  exact this (List.any_eq_true.2 ⟨y, hy, by simpa using he⟩)
theorem set_at {l : List Ed} {i : Nat} {x : Ed} (h : i < l.length) : (l.set i x).getD i (0, 0, 0, ()) = x := by simp [List.getD_eq_getElem?_getD, h]
theorem getD_drop {l r : List Ed} {i : Nat} (h : l.drop i = r.drop i) : l.getD i (0, 0, 0, ()) = r.getD i (0, 0, 0, ()) := by
  have : (l.drop i)[0]? = (r.drop i)[0]? := by rw [h]
  rw [List.getElem?_drop, List.getElem?_drop, Nat.add_zero] at this
  rw [List.getD_eq_getElem?_getD, List.getD_eq_getElem?_getD, this]

theorem out_zero {a b : List Ed} (hb : okLs b = true) (hw : a.any (someWho b) = false) : OutP a b 0 a b :=
  ⟨Nat.zero_le _, rfl, rfl, rfl, hb, hw, rfl, fun _ => ⟨rfl, rfl⟩⟩
theorem in_zero {a b xs ys : List Ed} {i : Nat} (ha : okLs a = true) (h : OutP a b i xs ys) (hi : i < a.length) : InP a b i 0 xs ys := by
  obtain ⟨h1, h2, h3, h4, h5, h6, h7, h8⟩ := h.all
  have he := getD_drop h4
  refine ⟨xs, ys, [], a.getD i (0, 0, 0, ()), a.getD i (0, 0, 0, ()), h, hi, ?_, ?_, rfl, rfl, Nat.zero_le _, rfl, rfl, fun _ => rfl, ok_at hi ha, rfl, rfl, rfl⟩
  · rw [List.getD_eq_getElem?_getD, List.getElem?_eq_getElem hi]; rfl
  · rw [← he, List.getD_eq_getElem?_getD, List.getElem?_eq_getElem (by omega), Option.getD_some]
    exact (List.set_getElem_self (by omega)).symm

/-- an edit of a row and one of the other list, where both stand now -/
theorem in_at {a b xs ys : List Ed} {i j : Nat} (ha : okLs a = true) (h : InP a b i j xs ys) (hj : j < ys.length) :
    i < xs.length ∧ editOk (xs.getD i (0, 0, 0, ())) = true ∧ editOk (ys.getD j (0, 0, 0, ())) = true ∧ j < b.length ∧ (xs.getD i (0, 0, 0, ())).2.2.1 ≠ (ys.getD j (0, 0, 0, ())).2.2.1 ∧
    ((60 < (turned (xs.getD i (0, 0, 0, ())) (ys.getD j (0, 0, 0, ()))).1 ∨ 60 < (turned (ys.getD j (0, 0, 0, ())) (xs.getD i (0, 0, 0, ()))).1) → rE a b = 4) ∧
    ((turned (xs.getD i (0, 0, 0, ())) (ys.getD j (0, 0, 0, ()))).1 ≤ 60 → (turned (ys.getD j (0, 0, 0, ())) (xs.getD i (0, 0, 0, ()))).1 ≤ 60 →
      InP a b i (j + 1) (xs.set i (turned (xs.getD i (0, 0, 0, ())) (ys.getD j (0, 0, 0, ())))) (ys.set j (turned (ys.getD j (0, 0, 0, ())) (xs.getD i (0, 0, 0, ()))))) := by
  obtain ⟨xs0, ys0, done, e, e0, ho, hi, hae, rfl, rfl, hd, hj0, q1, q2, q3, oe, we, od, dm⟩ := h.all
  obtain ⟨h1, h2, h3, h4, h5, h6, h7, h8⟩ := ho.all
  have hjl : j < ys0.length := by
    rw [List.length_append, List.length_drop] at hj; omega
  have hx : (xs0.set i e).getD i (0, 0, 0, ()) = e := set_at (by omega)
  have hy : (done ++ ys0.drop j).getD j (0, 0, 0, ()) = ys0.getD j (0, 0, 0, ()) := by
    rw [List.getD_eq_getElem?_getD, List.getElem?_append_right (by omega), hd, Nat.sub_self, List.getElem?_drop, Nat.add_zero, List.getD_eq_getElem?_getD]
  rw [hx, hy]
  have hdr : ys0.drop j = ys0.getD j (0, 0, 0, ()) :: ys0.drop (j + 1) := drop_at hjl
  have oy : editOk (ys0.getD j (0, 0, 0, ())) = true := ok_at hjl h5
  have hm := mem_at (z := (0, 0, 0, ())) hjl
  have hwj : (ys0.take (j + 1)).map (·.2.2.1) = (ys0.take j).map (·.2.2.1) ++ [(ys0.getD j (0, 0, 0, ())).2.2.1] := by rw [take_at (z := (0, 0, 0, ())) hjl, List.map_append]; rfl
  generalize hyg : ys0.getD j (0, 0, 0, ()) = y at *
  have hne : e.2.2.1 ≠ y.2.2.1 := by rw [we]; exact who_ne h6 (List.mem_of_getElem? hae) hm
  rw [hdr] at q1 q2 q3
  have t1 := turnErr_of oe oy hne
  have t2 := turnErr_of oy oe (fun h => hne h.symm)
  have hra : a.drop i = e0 :: a.drop (i + 1) := by rw [drop_at (z := (0, 0, 0, ())) hi, List.getD_eq_getElem?_getD, hae]; rfl
  refine ⟨by rw [List.length_set]; omega, oe, oy, by omega, hne, fun hor => ?_, fun ha60 hb60 => ?_⟩
  · have h4 : pE e0 ys0 = 4 := by
      rw [q1, pE]
      by_cases hq : 60 < (turned y e).1
      · rw [if_pos hq] at t2
        rw [t2, if_neg (by decide)]
      · rw [if_neg hq] at t2
        rw [if_pos (hor.resolve_right hq)] at t1
        rw [t2, t1, if_pos rfl, if_neg (by decide)]
    rw [h7, hra, rE, h4, if_neg (by decide)]
  · rw [if_neg (by omega)] at t1 t2
    have u1 := (turn_zero t1).1
    have u2 := (turn_zero t2).1
    refine ⟨xs0, ys0, done ++ [turned y e], turned e y, e0, ho, hi, hae, ?_, ?_, by simp [hd], hjl, ?_, ?_, fun hp => ?_, turned_ok oe oy ha60, by rw [turned_who, we], ?_, ?_⟩
    · rw [List.set_set]
    · rw [List.set_append_right _ _ (by omega), hd, Nat.sub_self, hdr]; simp
    · rw [q1, pE, if_pos t2, if_pos t1, u1]
    · rw [q2, pF, if_pos t2, if_pos t1, u1]
    · rw [q3 hp, pO, if_pos (by rw [← q1]; exact hp), u1, u2]; simp
    · unfold okLs at od ⊢
      rw [List.all_append, od]
      simpa using turned_ok oy oe hb60
    · rw [List.map_append, dm, hwj]
      simp [turned_who]
theorem in_end {a b xs ys : List Ed} {i j : Nat} (h : InP a b i j xs ys) (hj : ¬ j < ys.length) : OutP a b (i + 1) xs ys := by
  obtain ⟨xs0, ys0, done, e, e0, ho, hi, hae, rfl, rfl, hd, hj0, q1, q2, q3, oe, we, od, dm⟩ := h.all
  obtain ⟨h1, h2, h3, h4, h5, h6, h7, h8⟩ := ho.all
  have hjl : j = ys0.length := by
    rw [List.length_append, List.length_drop] at hj; omega
  subst hjl
  rw [List.drop_length] at q1 q2 q3 ⊢
  rw [List.append_nil]
  have hz : pE e0 ys0 = 0 := q1
  have hra : a.drop i = e0 :: a.drop (i + 1) := by rw [drop_at (z := (0, 0, 0, ())) hi, List.getD_eq_getElem?_getD, hae]; rfl
  have hpo : pO e0 ys0 = done := by rw [q3 hz]; exact List.append_nil _
  refine ⟨hi, by rw [List.length_set]; exact h2, by rw [hd]; exact h3, ?_, od, ?_, ?_, fun h0 => ?_⟩
  · rw [List.drop_set_of_lt (by omega), ← List.drop_drop, h4, List.drop_drop]
  · refine List.any_eq_false.2 fun x hx hs => ?_
    rw [who_map, dm, List.take_length, ← who_map] at hs
    exact List.any_eq_false.1 h6 x hx hs
  · rw [h7, hra, rE, if_pos hz, hpo]
  · obtain ⟨k1, k2⟩ := h8 h0
    rw [k1, k2, hra, rA, rB, hpo, q2]
    refine ⟨?_, rfl⟩
    rw [take_at (z := (0, 0, 0, ())) (show i < (xs0.set i e).length by rw [List.length_set]; omega), set_at (by omega), List.take_set_of_le (Nat.le_refl _)]
    simp [pF]

theorem rmeet_vc (a b : List Ed) (k : List Dat → Prop) (hk : k [⟨tEds, meetA a b⟩, ⟨tEds, meetB a b⟩, ⟨I, meetE a b⟩]) :
    vcF ⟨Eq_, [(11, cREdit), (21, cMoved)], glE, [], []⟩ (anRMeet a b) (Tryd.f14.body.getD .skip) Tryd.f14.ntmps [(.tmp 4, tEds), (.tmp 5, tEds), (.tmp 6, I)] [⟨tEds, a⟩, ⟨tEds, b⟩] k := by
  have herr : ∀ n : Int, n ≠ 0 → meetE a b = n → k [⟨tEds, ([] : List Ed)⟩, ⟨tEds, ([] : List Ed)⟩, ⟨I, n⟩] := by
    intro n hn he
    unfold meetA meetB at hk
    rw [he, if_neg hn, if_neg hn] at hk
    exact hk
  rw [vcRMeet]
  simp only [decide_eq_true_eq, decide_eq_false_iff_not, Bool.not_eq_true', Bool.not_eq_false', and_true, true_and, Int.toNat_natCast, Int.ofNat_lt, Decidable.not_not]
  refine ⟨fun h => herr 4 (by decide) (by unfold meetE; rw [if_pos (.inl (by omega))]), fun ha => ⟨fun h => herr 4 (by decide) (by unfold meetE; rw [if_pos (.inr (by omega))]), fun hb => ?_⟩⟩
  have ha : a.length ≤ 8 := by omega
  have hb : b.length ≤ 8 := by omega
  have h12 : 8 < a.length ∨ 8 < b.length → False := by omega
  refine ⟨⟨0, ⟨Nat.zero_le _, rfl⟩, rfl⟩, ?_⟩
  rintro i ⟨hi, hai⟩
  refine ⟨fun hil => ⟨by omega, hil, fun hc => herr 1 (by decide) ?_, fun hc => ⟨by rw [inK_i64]; omega, i + 1, ⟨hil, ?_⟩, by omega, by omega⟩⟩, fun hil => ?_⟩
  · unfold meetE
    rw [if_neg h12, if_pos (by rw [all_take_false hil (fun h => hc (chk_one.2 h))]; rfl)]
  · unfold okLs at hai ⊢
    rw [take_at (z := (0, 0, 0, ())) hil, List.all_append, hai]
    simpa using chk_one.1 hc
  have hoa : okLs a = true := by rw [List.take_of_length_le (by omega)] at hai; exact hai
  refine ⟨⟨0, ⟨Nat.zero_le _, rfl⟩, rfl⟩, ?_⟩
  rintro i2 ⟨hi2, hbi⟩
  refine ⟨fun hil2 => ⟨by omega, hil2, fun hc => herr 1 (by decide) ?_, fun hc => ⟨by rw [inK_i64]; omega, i2 + 1, ⟨hil2, ?_⟩, by omega, by omega⟩⟩, fun hil2 => ?_⟩
  · unfold meetE
    rw [if_neg h12, if_pos (by rw [all_take_false hil2 (fun h => hc (chk_one.2 h)), Bool.and_false])]
  · unfold okLs at hbi ⊢
    rw [take_at (z := (0, 0, 0, ())) hil2, List.all_append, hbi]
    simpa using chk_one.1 hc
  have hob : okLs b = true := by rw [List.take_of_length_le (by omega)] at hbi; exact hbi
  have hall : (a.all editOk && b.all editOk) = true := by unfold okLs at hoa hob; rw [hoa, hob]; rfl
  refine ⟨⟨0, ⟨Nat.zero_le _, rfl⟩, rfl⟩, ?_⟩
  rintro i3 ⟨hi3, hany⟩
  refine ⟨fun hil3 => ⟨⟨0, ⟨Nat.zero_le _, rfl⟩, rfl⟩, ?_⟩, fun hil3 => ?_⟩
  · rintro j ⟨hj, hso⟩
    refine ⟨fun hjl => ⟨⟨by omega, hil3, by omega, hjl⟩, fun he => herr 6 (by decide) ?_, fun he => ⟨by rw [inK_i64]; omega, j + 1, ⟨hjl, ?_⟩, by omega, by omega⟩⟩, fun hjl => ⟨by rw [inK_i64]; omega, i3 + 1, ⟨hil3, ?_⟩, by omega, by omega⟩⟩
    · unfold meetE
      rw [if_neg h12, if_neg (by rw [hall]; decide), if_pos (any_true hil3 (some_true hjl he))]
    · unfold someWho at hso ⊢
      rw [take_at (z := (0, 0, 0, ())) hjl, List.any_append, hso]
      simpa using he
    · rw [List.take_of_length_le (by omega)] at hso
      rw [take_at (z := (0, 0, 0, ())) hil3, List.any_append, hany]
      simpa using hso
  · rw [List.take_of_length_le (by omega)] at hany
    have hm : meetE a b = rE a b := by
      unfold meetE
      rw [if_neg h12, if_neg (by rw [hall]; decide), if_neg (by rw [hany]; decide)]
    refine ⟨by omega, by omega, ⟨(0, a, b), out_zero hob hany, rfl, rfl, rfl⟩, ?_⟩
    rintro ⟨i, xs, ys⟩ ho
    simp only at ho ⊢
    obtain ⟨h1, h2, h3, -, h5, -, h7, h8⟩ := ho.all
    refine ⟨fun hil => ⟨⟨(0, xs, ys), ⟨in_zero hoa ho (by omega), by omega⟩, rfl, rfl, rfl⟩, ?_⟩, fun hil => ?_⟩
    · rintro ⟨j, xs', ys'⟩ ⟨hin, -⟩
      simp only at hin ⊢
      refine ⟨fun hjl => ?_, fun hjl => ⟨by rw [inK_i64]; omega, (i + 1, xs', ys'), in_end hin hjl, by simp only; omega, by simp only; omega, rfl, rfl⟩⟩
      obtain ⟨k1, k2, k3, k4, -, k5, k6⟩ := in_at hoa hin hjl
      generalize xs'.getD i (0, 0, 0, ()) = x at *
      generalize ys'.getD j (0, 0, 0, ()) = y at *
      refine ⟨by omega, k1, by omega, hjl, ⟨k2, k3⟩, by omega, k1, by omega, hjl, ⟨k2, k3⟩, by omega, hjl, by omega, k1, ⟨k3, k2⟩, by omega, hjl, by omega, k1, ⟨k3, k2⟩, fun h => herr 4 (by decide) (by rw [hm]; exact k5 (.inl h)), fun h => ⟨fun h' => herr 4 (by decide) (by rw [hm]; exact k5 (.inr h')), fun h' => ⟨by omega, k1, by omega, hjl, by rw [inK_i64]; omega, (j + 1, xs'.set i (turned x y), ys'.set j (turned y x)), ⟨k6 (by omega) (by omega), by omega⟩, by simp only; omega, by simp only; omega, rfl, rfl⟩⟩⟩
    · have hi : i = a.length := by omega
      subst hi
      rw [List.drop_length] at h7 h8
      have hz : rE a b = 0 := h7
      obtain ⟨q1, q2⟩ := h8 hz
      unfold meetA meetB at hk
      rw [hm, hz, if_pos rfl, if_pos rfl, q1, q2, ← h2, List.take_length] at hk
      simpa [rA, rB] using hk
theorem okRMeet : PlainOk Tryd.prog glE 14 cRMeet := by
  refine plain_of (CxOk.mk' Eq_ok (by kernel_rfl) (by kernel_rfl) (gl := glE) (GOk.cons okREdit Tryd.func11 (by kernel_rfl) (by kernel_rfl) (GOk.cons okMoved Tryd.func21 (by kernel_rfl) (by kernel_rfl) GOk.nil)) GoOk.nil noIt) Tryd.func14 (c := Tryd.f14.body.getD .skip) (rvs := [(.tmp 4, tEds), (.tmp 5, tEds), (.tmp 6, I)]) (by kernel_rfl) (by kernel_rfl) (by kernel_rfl) ?_
  intro ds k hs hwf
  obtain ⟨a, b, rfl, hk⟩ := gdest2 hs
  exact ⟨anRMeet a b, rmeet_vc a b k hk⟩

abbrev cSays : Ctr := cdet [.str, tEdit, tEdit, tEds, tEds] (fun _ _ _ _ _ => True) (fun _ _ _ _ _ => [⟨.bool, true⟩])
theorem chk_in (e : Ed) : inK .i64 (chk e) := by rw [inK_i64]; unfold chk; split <;> omega
theorem app_in (s : List UInt8) (e : Ed) : inK .i64 (appErr s e) := by rw [inK_i64]; unfold appErr; repeat' split
                                                                       all_goals omega
theorem turn_in (e f : Ed) : inK .i64 (turnErr e f) := by rw [inK_i64]; unfold turnErr; repeat' split
                                                          all_goals omega
theorem pE_in : ∀ (l : List Ed) (e : Ed), inK .i64 (pE e l) := by
  intro l
  induction l with
  | nil => intro e; rw [inK_i64]; unfold pE; omega
  | cons x r ih =>
    intro e
    rw [pE]
    split
    · split
      · exact ih _
      · exact turn_in _ _
    · exact turn_in _ _
theorem rE_in : ∀ (a b : List Ed), inK .i64 (rE a b) := by
  intro a
  induction a with
  | nil => intro b; rw [inK_i64]; unfold rE; omega
  | cons e r ih =>
    intro b
    rw [rE]
    split
    · exact ih _
    · exact pE_in _ _
theorem meet_in (a b : List Ed) : inK .i64 (meetE a b) := by
  unfold meetE
  split
  · rw [inK_i64]; omega
  · split
    · rw [inK_i64]; omega
    · split
      · rw [inK_i64]; omega
      · exact rE_in _ _
theorem says_vc (s : List UInt8) (x y : Ed) (a b : List Ed) (k : List Dat → Prop) (hk : k [⟨.bool, true⟩]) :
    vcF ⟨Eq_, [(7, cApply), (8, cTurn), (9, cError), (10, cCheck), (11, cREdit), (12, cRApply), (13, cRTurn), (14, cRMeet), (15, cMeet), (16, cEdits)], glE, [], []⟩ [joinAll] (Tryd.f4.body.getD .skip) Tryd.f4.ntmps [(.tmp 10, .bool)] [⟨.str, s⟩, ⟨tEdit, x⟩, ⟨tEdit, y⟩, ⟨tEds, a⟩, ⟨tEds, b⟩] k := by
  rw [vcSays]
  simp only [decide_true, and_true, true_and, Bool.and_true, beq_self_eq_true, forall_const, reduceCtorEq, Bool.true_eq_false, false_implies, chk_in, app_in, turn_in, meet_in, hk]
theorem okSays : PlainOk Tryd.prog glE 4 cSays := by
  refine plain_of (CxOk.mk' Eq_ok (by kernel_rfl) (by kernel_rfl) (gl := glE) (GOk.cons okApply Tryd.func7 (by kernel_rfl) (by kernel_rfl) (GOk.cons okTurn Tryd.func8 (by kernel_rfl) (by kernel_rfl) (GOk.cons okError Tryd.func9 (by kernel_rfl) (by kernel_rfl) (GOk.cons okCheck Tryd.func10 (by kernel_rfl) (by kernel_rfl) (GOk.cons okREdit Tryd.func11 (by kernel_rfl) (by kernel_rfl) (GOk.cons okRApply Tryd.func12 (by kernel_rfl) (by kernel_rfl) (GOk.cons okRTurn Tryd.func13 (by kernel_rfl) (by kernel_rfl) (GOk.cons okRMeet Tryd.func14 (by kernel_rfl) (by kernel_rfl) (GOk.cons okMeet Tryd.func15 (by kernel_rfl) (by kernel_rfl) (GOk.cons okEdits Tryd.func16 (by kernel_rfl) (by kernel_rfl) GOk.nil)))))))))) GoOk.nil noIt) Tryd.func4 (c := Tryd.f4.body.getD .skip) (rvs := [(.tmp 10, .bool)]) (by kernel_rfl) (by kernel_rfl) (by kernel_rfl) ?_
  intro ds k ⟨hp, hk⟩ hwf
  obtain ⟨s, d1, rfl, h1⟩ := destS hp
  obtain ⟨x, d2, rfl, h2⟩ := destS h1
  obtain ⟨y, d3, rfl, h3⟩ := destS h2
  obtain ⟨a, d4, rfl, h4⟩ := destS h3
  obtain ⟨b, d5, rfl, h5⟩ := destS h4
  obtain ⟨rfl, -⟩ := dest0 h5
  exact ⟨[joinAll], says_vc s x y a b k hk⟩
end Go.Proofs.YtpidkjpjjidghaaDoor

/- The handle of the type 'error', as the cards list it, lies in its variable. -/
namespace Go.Proofs.YtpidkjpjjidghaaDoor
open Go.Vc
theorem glOk {W : World} (h : laidMetH Tryd.prog Rows.editOneRow.laid W) : GlOk glE W fun b => b < W.heap.size :=
  gl_of_handle (n := "errors.errorType") (u := 71) (ty := 26) (d := Rows.laid_errors_errorType) h (.head _) rfl rfl (by kernel_rfl) (by kernel_rfl) (by kernel_rfl) (by kernel_rfl) rfl
end Go.Proofs.YtpidkjpjjidghaaDoor

/- Five arguments. -/
namespace Go.Vc
theorem types5 {a b c d e : Ty} {xs : List Dat} (h : xs.map (·.t) = [a, b, c, d, e]) : ∃ x y z u v, xs = [⟨a, x⟩, ⟨b, y⟩, ⟨c, z⟩, ⟨d, u⟩, ⟨e, v⟩] := by
  match xs, h with
  | [⟨_, x⟩, ⟨_, y⟩, ⟨_, z⟩, ⟨_, q⟩, ⟨_, r⟩], h => simp at h; obtain ⟨h1, h2, h3, h4, h5⟩ := h; subst h1; subst h2; subst h3; subst h4; subst h5; exact ⟨x, y, z, q, r, rfl⟩
theorem types6 {a b c d e f : Ty} {xs : List Dat} (h : xs.map (·.t) = [a, b, c, d, e, f]) : ∃ x y z u v w, xs = [⟨a, x⟩, ⟨b, y⟩, ⟨c, z⟩, ⟨d, u⟩, ⟨e, v⟩, ⟨f, w⟩] := by
  match xs, h with
  | [⟨_, x⟩, ⟨_, y⟩, ⟨_, z⟩, ⟨_, q⟩, ⟨_, r⟩, ⟨_, s⟩], h => simp at h; obtain ⟨h1, h2, h3, h4, h5, h6⟩ := h; subst h1; subst h2; subst h3; subst h4; subst h5; subst h6; exact ⟨x, y, z, q, r, s, rfl⟩
end Go.Vc
