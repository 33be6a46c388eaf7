import Derived.Test.YthdbbgajmgjfcaaGreatDoorTBRowVX
namespace Go.Vc
open Go.RowKit
def bslT(_:Env)(_:St)(_:TypeId)(_:Nat)(_:Option Nat)(_:St→Prop):Prop:=False
theorem bslT_ok[Dn]{P:Program}{E:Env}(hE:EnvOk P E){w0:World}{M:Ms}{R0:Nat→Prop}{A:Asg}{st:St}{a:Act}{w:World}(I:Inv w0 M R0 A st a w){T:TypeId}{j:Nat}{v:Value}{dst:Option Nat}{k:St→Prop}
 (hv:SvOk w (Ro R0 w0.heap.size A st.ob w) A (.os j) v) (h:bslT E st T j dst k):∃ A' st' v' w',k st'∧Inv w0 M R0 A' st' (a.put dst v') w'∧(Instr.buildSlice T 1 #[(0,v)]).run P w = .ok v' w':=h.elim
def apdT(_:Env)(_:St)(_:TypeId)(_:SV)(_:Nat)(_:Option Nat)(_:St→Prop):Prop:=False
theorem apdT_ok[Dn]{P:Program}{E:Env}(hE:EnvOk P E){w0:World}{M:Ms}{R0:Nat→Prop}{A:Asg}{st:St}{a:Act}{w:World}(I:Inv w0 M R0 A st a w){T ty:TypeId}{s:SV}{j:Nat}{v vx:Value}
 (hs:SvOk w (Ro R0 w0.heap.size A st.ob w) A s v) (hx:SvOk w (Ro R0 w0.heap.size A st.ob w) A (.os j) vx) {dst:Option Nat} {k:St→Prop} (h:apdT E st T s j dst k) :
 ∃ A' st' v' w',k st'∧Inv w0 M R0 A' st' (a.put dst v') w'∧(Builtin.append_ #[T,T] ty #[v,vx]).run P w = .ok v' w':=h.elim
def taI:SV→Option (Ty×Nat×List Nat×Nat×List Nat)
 | .ta t i p k q=>some (t,i,p,k,q)
 | _=>none
theorem taI_ok{s:SV}{t:Ty}{i:Nat}{p:List Nat}{k:Nat}{q:List Nat}(h:taI s=some (t,i,p,k,q)):s = .ta t i p k q:=by
 unfold taI at h
 split at h
 ·injection h with h;injection h with h1 h;injection h with h2 h;injection h with h3 h;injection h with h4 h5
  subst h1;subst h2;subst h3;subst h4;subst h5;rfl
 ·cases h
def stT(_:St)(_:Ty)(_:SV)(_:Ty)(_:Nat)(_:List Nat)(_:Nat)(_:List Nat)(_:St→Prop):Prop:=False
theorem stT_ok[Dn]{P:Program}{T:TypeId}{w0:World}{M:Ms}{R0:Nat→Prop}{A:Asg}{st:St}{a:Act}{w:World}(I:Inv w0 M R0 A st a w){t:Ty}(hf:Fit P t (.inl T)){t0:Ty}{i:Nat}{p:List Nat}{kk:Nat}{q:List Nat}
 {x:SV} {v u:Value} (hs:SvOk w (Ro R0 w0.heap.size A st.ob w) A (.ta t0 i p kk q) v) (hx:SvOk w (Ro R0 w0.heap.size A st.ob w) A x u) {k:St→Prop} (h:stT st t x t0 i p kk q k) :
 ∃ st' w',k st'∧Inv w0 M R0 A st' a w'∧(Instr.storeAt T v u).run P w = .ok () w':=h.elim
def ownP(st:St):List (Nat×SV)→Option Nat
 | [(0,.os j)]=>match st.ob[j]? with
  | some (.row _ _ _)=>some j
  | some (.trow _ _ _)=>some j
  | _=>none
 | _=>none
theorem ownP_ok{st:St}{l:List (Nat×SV)}{j:Nat}(h:ownP st l=some j):l=[(0,.os j)]:=by
 unfold ownP at h
 split at h
 ·split at h
  ·injection h with h;subst h;rfl
  ·injection h with h;subst h;rfl
  ·cases h
 ·cases h
def ownX(st:St):SV→Option Nat
 | .os j=>match st.ob[j]? with
  | some (.trow _ _ _)=>some j
  | _=>none
 | _=>none
theorem ownX_ok{st:St}{s:SV}{j:Nat}(h:ownX st s=some j):s = .os j:=by
 unfold ownX at h
 split at h
 ·split at h
  ·injection h with h;subst h;rfl
  ·cases h
 ·cases h
end Go.Vc
