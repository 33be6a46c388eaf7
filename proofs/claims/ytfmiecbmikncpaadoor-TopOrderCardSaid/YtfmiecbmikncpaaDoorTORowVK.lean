import Derived.Test.YtfmiecbmikncpaaDoorTORowVJA
import Derived.Deep.Quiet
import Derived.StillTail
import Derived.RangeFuncGives
namespace Go.Vc
open Go.RowKit
def Ty.cv:(t:Ty)→t.D→List Value
 | .int k,n=>[.int k n]
 | .bool,b=>[.bool b]
 | .str,s=>[.string ⟨s.toArray⟩]
 | .err T,n=>if n=(0:Int) then[.nilIface] else[.iface T (.int .i64 n)]
 | .sl _,_=>[]
 | .pr a b,x=>Ty.cv a x.1++Ty.cv b x.2
 | .un,_=>[]
 | .ar _ t,xs=>(xs.map fun x=>Ty.cv t x).flatten
 | .fn _ _,_=>[]
 | .ptr _,_=>[]
 | .raw,x=>[x]
 | .nm,_=>[.map none]
theorem ok_cv{w:World}{ro:Nat→Prop}:∀ {t:Ty},t.flat=true→∀ {x:t.D} {cs:List Value},t.ok w ro x cs→cs=t.cv x
 | .int _,_,_,_,h=>h.1
 | .bool,_,_,_,h=>h
 | .str,_,_,_,h=>h.1
 | .err _,_,n,_,h=>by
   rcases h with ⟨h1,h2⟩ | ⟨h1,h2⟩
   · simp only[Ty.cv];rw[if_pos h1,h2]
   · simp only[Ty.cv];rw[if_neg h1,h2]
 | .sl t,hf,_,_,_=>by simp[Ty.flat] at hf
 | .pr a b,hf,x,_,h=>by
   obtain⟨c1,c2,h,h1,h2⟩:=h
   simp only[Ty.flat,Bool.and_eq_true] at hf
   rw[h,ok_cv hf.1 h1,ok_cv hf.2 h2];rfl
 | .un,_,_,_,h=>h
 | .ar n t,hf,xs,_,h=>by
   obtain⟨hn,css,h,h1⟩:=h
   rw[h]
   simp only[Ty.cv]
   congr 1
   apply List.ext_getElem?
   intro i
   rw[List.getElem?_map]
   by_cases hi:i<xs.length
   · have hc:i<css.length:=by rw[h1.1];exact hi
     rw[List.getElem?_eq_getElem hc,List.getElem?_eq_getElem hi]
     have:=(h1.2 i _ _ (List.getElem?_eq_getElem hi) (List.getElem?_eq_getElem hc)).2
     rw[ok_cv (t:=t) hf this];rfl
   · rw[List.getElem?_eq_none (by rw[h1.1];omega),List.getElem?_eq_none (by omega)];rfl
 | .fn g t,hf,_,_,_=>by simp[Ty.flat] at hf
 | .ptr t,hf,_,_,_=>by simp[Ty.flat] at hf
 | .raw,_,x,_,h=>h.1
 | .nm,_,x,_,h=>h
def valR(rs:List Dat):Value :=
 match rs with
 | [r]=>r.t.mk (r.t.cv r.x)
 | rs => .tuple (rs.map fun r=>r.t.mk (r.t.cv r.x)).toArray
theorem okV_cv[Dn]{w:World}{ro:Nat→Prop}{t:Ty}(hf:t.flat=true){x:t.D}{v:Value}(h:t.okV w ro x v):v=t.mk (t.cv x):=by
 rw[← ok_cv hf (okV_cells h)];exact okV_eq_mk h
theorem RetOk.val[Dn]{w:World}{ro:Nat→Prop}{rs:List Dat}{v:Value}(hf:flatR rs=true)(h:RetOk w ro rs v):v=valR rs:=by
 unfold RetOk at h
 unfold valR
 split at h
 · rename_i r
   exact okV_cv (by simpa [flatR] using hf) h
 · rename_i hno
   obtain⟨vs,rfl,hl,hd⟩:=h
   split
   · rename_i r;exact absurd rfl (hno r)
   · congr 1
     apply Array.toList_inj.1
     apply List.ext_getElem?
     intro i
     simp only[List.getElem?_map]
     by_cases hi:i<rs.length
     · have hc:i<vs.toList.length:=by rw[hl];exact hi
       rw[List.getElem?_eq_getElem hc,List.getElem?_eq_getElem hi]
       have:=hd i _ _ (List.getElem?_eq_getElem hi) (List.getElem?_eq_getElem hc)
       rw[okV_cv (List.all_eq_true.1 hf _ (List.getElem_mem hi)) this];rfl
     · rw[List.getElem?_eq_none (by rw[hl];omega),List.getElem?_eq_none (by omega)];rfl
def isQ:Op→Bool
 | .move _ | .assign _ | .nilCheck _ | .makeFunc _ _ _ | .pick _ _ _ | .load _ _ | .fieldAddr _ _ _ | .indexAddr _ _ _ | .index _ _ _ | .unOp _ _ _ | .extract _ _ | .makeInterface _ _ | .convert _ _ _ | .slice _ _ _ _ _ | .build _ _ | .binOp _ _ _ _ _ | .lookup _ _ _ _=>true
 | .call c=>match c.callee with
   | .builtin .len | .builtin .max | .builtin .min=>true
   | _=>false
 | _=>false
def FW(r:Option Nat):Fence:={ Fence.wide with round:=r }
def SeqGo(P:Program)(gl:List (Nat×Dat))(g:Nat)(lb:Array Value)(R:World→Prop)(xs:List Value):Prop :=
 ∀ (n l:Nat) (J Jx:Nat→World→Prop) (W:World),AbidesFrom W.heap.size J→AbidesFrom W.heap.size Jx→(∀ k W',J k W'→GlOk gl W' (fun b=>b<W'.heap.size)∧R W') →
   (∀ m k x W1,xs[k]?=some x→J k W1→YieldAt (FW none) m P l #[x] W1 fun e W'=>(e = .returned (.bool true)∧J (k+1) W')∨(e = .returned (.bool false)∧Jx (k+1) W')) →
   J 0 W→CallsIn (FW none) n P g (#[.func (.yield l) #[] #[]]++lb) W fun e W'=>(∃ v,e = .returned v)∧(J xs.length W'∨∃ k,Jx k W')
structure ItC where
 t:Ty
 e:Ty
 f:t.D→Option (List e.D)
def ItOk(P:Program)(gl:List (Nat×Dat))(g:Nat)(c:ItC):Prop :=
 EntOk P g∧∀ (y:c.t.D) (xs:List c.e.D),c.f y=some xs→(∀ x∈xs,∀ w ro,c.e.okV w ro x (c.e.mk (c.e.cv x))) ∧
   ∀ caps:Array Value,SeqGo P gl g caps (fun W=>c.t.ok W (fun b=>b<W.heap.size) y caps.toList) (xs.map fun x=>c.e.mk (c.e.cv x))
structure Cx where
 E:Env
 Γ:List (FuncId×Ctr)
 gl:List (Nat×Dat)
 it:List (FuncId×ItC):=[]
 Γo:List (FuncId×OCtr):=[]
structure CxOk[Dn](P:Program)(X:Cx):Prop where
 E:EnvOk P X.E
 q:∀ T,X.E.eqT T=true→eqB P T=true
 Γ:GOk P X.gl X.Γ
 m:P.follows .mixedOrders=true
 it:∀ g c,(g,c)∈X.it→ItOk P X.gl g c
 Γo:GoOk P X.gl X.Γo
def qcal(X:Cx)(st:St)(op:Op)(k:SV→Prop):Prop :=
 match op with
 | .call c=>match cee X.E st c.callee with
   | some (f,ex)=>match lookA st (c.args.toList.map (st.ev X.E)++ex) X.Γ f with
     | some (.det _ pre fn,ds,_)=>pre ds∧(if flatR (fn ds)=true then k (toSV (fn ds)) else False)
     | _=>False
   | none=>False
 | _=>False
def xq(X:Cx)(st:St)(o:Oper)(k:St→Prop):Prop :=
 if isQ o.op=true then qop X.E st o.op fun s=>k (st.put o.dst s) else qcal X st o.op fun s=>k (st.put o.dst s)
def Cls[Dn](w w':World):Prop:=Same w w'∧Ext w w'
theorem Cls.refl[Dn](w:World):Cls w w:=⟨Same.refl w,Ext.refl w⟩
theorem Cls.trans[Dn]{a b c:World}(h:Cls a b)(k:Cls b c):Cls a c :=
 ⟨⟨k.1.os.trans h.1.os,k.1.tape.trans h.1.tape,k.1.output.trans h.1.output,Nat.le_trans h.1.size k.1.size,fun e=>Nat.le_trans (h.1.drawn e) (k.1.drawn e)⟩,fun i hi=>(k.2 i (Nat.lt_of_lt_of_le hi h.1.size)).trans (h.2 i hi)⟩
theorem Cls.drawn[Dn](w:World):Cls w { w with drawn:=w.drawn+1 }:=⟨⟨rfl,rfl,rfl,Nat.le_refl _,fun _=>Nat.le_succ _⟩,fun _ _=>rfl⟩
theorem xq_ok[Dn]{P:Program}{X:Cx}(hX:CxOk P X){w0:World}{M:Ms}{R0:Nat→Prop}(hB:BaseOk X.gl w0 M R0){A:Asg}{st:St}{a:Act}{w:World}(I:Inv w0 M R0 A st a w){o:Oper}{k:St→Prop}(h:xq X st o k) :
   ∃ v st',k st'∧Inv w0 M R0 A st' (a.put o.dst v) w∧∀ w',Cls w w'→o.quietAt P a (Cls w) w' v:=by
 unfold xq at h
 split at h
 · obtain⟨s',v',hk,hs,hr⟩:=qop_ok hX.E hX.q I h
   exact⟨v',_,hk,I.put hs,fun w' hw=>by
     unfold Oper.quietAt
     rw[hr w' hw.2]
     exact⟨rfl,rfl⟩⟩
 · obtain⟨dst,op,type,pos,after,guard⟩:=o
   unfold qcal at h
   split at h
   · rename_i c he
     simp only at he
     obtain⟨callee,args,at_⟩:=c
     split at h
     · rename_i f ex hc
       split at h
       · rename_i ps pre fn ds b hl
         obtain⟨hent,hpl,hd⟩:=hX.Γ.lookA hl
         obtain⟨hpre,h⟩:=h
         split at h
         · rename_i hfl
           obtain⟨vs,hall,hrun⟩:=run_cee (P:=P) I hc hent (args:=args)
           have hD:=(argsV_ok I hd hall).2
           have hgl:=(hB.now I).mono (fun b hb=>hb.1) (fun _ _=>rfl)
           -- the value,whatever world of the class it is asked in
           have key:∀ w',Cls w w'→Calls P f vs.toArray w' fun e w''=>e = .returned (valR (fn ds))∧Cls w w'':=by
             intro w' hw
             have hD':DOk w' (fun b=>b<w.heap.size) ds vs:=⟨hD.1,fun j d v h1 h2=>okV_mono (fun _ hb=>hb) (fun b hb=>hw.2 b hb) (hD.2 j d v h1 h2)⟩
             refine (hpl ds (fun rs=>rs=fn ds) ⟨hpre,rfl⟩ w' (fun b=>b<w.heap.size) _ (fun b hb=>Nat.lt_of_lt_of_le hb hw.1.size) (hgl.mono (fun _ hb=>hb) (fun b hb=>hw.2 b hb)) hD').mono fun e w'' he => ?_
             obtain⟨hfr,rs,v,rfl,rfl,hret⟩:=he
             exact⟨by rw[hret.val hfl],hw.trans ⟨hfr.same,hfr.ext⟩⟩
           refine⟨valR (fn ds),_,h,I.put ?_,fun w' hw => ?_⟩
           ·
             obtain⟨e,w1,fr,hr,_⟩:=(hpl ds (fun rs=>rs=fn ds) ⟨hpre,rfl⟩ w (fun b=>b<w.heap.size) _ (fun b hb=>hb) hgl hD) []
             obtain⟨hfr,rs,v,rfl,rfl,hret⟩:=hr
             rw[← hret.val hfl]
             exact (hret.flat hfl).sv
           · unfold Oper.quietAt
             subst he
             rw[hrun]
             exact⟨rfl,key w' hw⟩
         · exact h.elim
       · exact h.elim
     · exact h.elim
   · exact h.elim
def gslot(all:List Oper)(j:Nat):Option Nat :=
 match all[j]? with
 | some o=>o.dst
 | none=>none
def withG(all:List Oper)(st:St)(o:Oper)(yes no:St→Prop):Prop :=
 match o.guard with
 | none=>yes st
 | some (j,pol)=>match gslot all j with
   | some s=>match st.tm.getD s .any with
     | .bt true=>match pol with
       | true=>yes st
       | false=>no st
     | .bt false=>match pol with
       | true=>no st
       | false=>yes st
     | .d .bool b=>(b=true→match pol with
         | true=>yes (st.put (some s) (.bt true))
         | false=>no (st.put (some s) (.bt true))) ∧
       (b=false→match pol with
         | true=>no (st.put (some s) (.bt false))
         | false=>yes (st.put (some s) (.bt false)))
     | .und=>no st
     | _=>False
   | none=>False
theorem Inv.learn[Dn]{w0:World}{M:Ms}{R0:Nat→Prop}{A:Asg}{st:St}{a:Act}{w:World}(I:Inv w0 M R0 A st a w){s:Nat}{b:Bool}(h:a.tmps.getD s undef = .bool b)(hs:s<st.tm.length):Inv w0 M R0 A (st.put (some s) (.bt b)) a w:=by
 have h1:=I.put (d:=some s) (s := .bt b) (v := .bool b) (show SvOk _ _ _ _ _ from rfl)
 have:a.put (some s) (.bool b)=a:=by
   have hlt:s<a.tmps.size:=by rw[I.len];exact hs
   have hv:a.tmps[s] = .bool b:=by simpa [hlt] using h
   simp only[Act.put]
   congr 1
   apply Array.ext_getElem?
   intro i
   rw[Array.getElem?_setIfInBounds]
   split
   · rename_i hi;subst hi;simp[hlt,hv]
   · rfl
 rwa [this] at h1
theorem withG_ok[Dn]{w0:World}{M:Ms}{R0:Nat→Prop}{A:Asg}{st:St}{a:Act}{w:World}(I:Inv w0 M R0 A st a w){all:List Oper}{o:Oper}{yes no:St→Prop}(h:withG all st o yes no) :
   ∃ st',Inv w0 M R0 A st' a w∧((Region.wanted o (yielded all.toArray a.tmps)=true∧yes st')∨(Region.wanted o (yielded all.toArray a.tmps)=false∧no st')):=by
 unfold withG at h
 split at h
 · rename_i hg
   exact⟨st,I,.inl ⟨by simp[Region.wanted,hg],h⟩⟩
 · rename_i j pol hg
   split at h
   · rename_i s hs
     have hy:∀ b,a.tmps.getD s undef = .bool b→yielded all.toArray a.tmps j=some b:=by
       intro b hb
       have hlt:s<a.tmps.size:=by
         rcases Nat.lt_or_ge s a.tmps.size with h | h
         · exact h
         · rw[Array.getD_eq_getD_getElem?,Array.getElem?_eq_none h] at hb;simp[undef] at hb
       have hv:a.tmps[s]?=some (.bool b):=by
         rw[Array.getElem?_eq_getElem hlt];congr 1;simpa [hlt] using hb
       unfold gslot at hs
       split at hs
       · rename_i oj hoj
         simp[yielded,hoj,hs,hv]
       · cases hs
     have hw:∀ b,a.tmps.getD s undef = .bool b→Region.wanted o (yielded all.toArray a.tmps)=(b==pol):=by
       intro b hb
       simp only[Region.wanted,hg,hy b hb]
       cases b<;>cases pol<;>rfl
     have hsl:∀ sv,st.tm.getD s .any=sv→sv ≠ .any→s<st.tm.length:=by
       intro sv hsv hne
       rcases Nat.lt_or_ge s st.tm.length with h | h
       · exact h
       · rw[List.getD_eq_getElem?_getD,List.getElem?_eq_none h] at hsv
         exact absurd hsv.symm hne
     have hval:∀ sv,st.tm.getD s .any=sv→sv ≠ .any→SvOk w (Ro R0 w0.heap.size A st.ob w) A sv (a.tmps.getD s undef):=by
       intro sv hsv hne
       have hlt:=hsl sv hsv hne
       rw[List.getD_eq_getElem?_getD,List.getElem?_eq_getElem hlt] at hsv
       exact I.tm s sv (by rw[List.getElem?_eq_getElem hlt];exact congrArg some hsv)
     split at h
     · rename_i hb
       have hv:a.tmps.getD s undef = .bool true:=hval _ hb (by simp)
       refine⟨st,I,?_⟩
       rw[hw _ hv]
       cases pol
       · exact .inr ⟨rfl,h⟩
       · exact .inl ⟨rfl,h⟩
     · rename_i hb
       have hv:a.tmps.getD s undef = .bool false:=hval _ hb (by simp)
       refine⟨st,I,?_⟩
       rw[hw _ hv]
       cases pol
       · exact .inl ⟨rfl,h⟩
       · exact .inr ⟨rfl,h⟩
     · rename_i b hb
       have hv0:[a.tmps.getD s undef]=[Value.bool b]:=hval _ hb (by simp)
       injection hv0 with hv
       have hlt:=hsl _ hb (by simp)
       refine⟨_,I.learn hv hlt,?_⟩
       rw[hw _ hv]
       cases b
       · have h2:=h.2 rfl
         cases pol
         · exact .inl ⟨rfl,h2⟩
         · exact .inr ⟨rfl,h2⟩
       · have h2:=h.1 rfl
         cases pol
         · exact .inr ⟨rfl,h2⟩
         · exact .inl ⟨rfl,h2⟩
     · rename_i hb
       have hv:a.tmps.getD s undef=undef:=hval _ hb (by simp)
       refine⟨st,I,.inr ⟨?_,h⟩⟩
       have hlt:=hsl _ hb (by simp)
       have hlt':s<a.tmps.size:=by rw[I.len];exact hlt
       have hv':a.tmps[s]?=some undef:=by
         rw[Array.getElem?_eq_getElem hlt'];congr 1;simpa [hlt'] using hv
       unfold gslot at hs
       split at hs
       · rename_i oj hoj
         simp[Region.wanted,hg,yielded,hoj,hs,hv',undef]
       · cases hs
     · exact h.elim
   · exact h.elim
def xqs(X:Cx)(all:List Oper):List Oper→St→(St→Prop)→Prop
 | [],st,k=>k st
 | o::r,st,k=>withG all st o (fun st=>xq X st o fun st'=>xqs X all r st' k) (fun st=>xqs X all r (st.put o.dst .und) k)
theorem xqs_ok[Dn]{P:Program}{X:Cx}(hX:CxOk P X){w0:World}{M:Ms}{R0:Nat→Prop}(hB:BaseOk X.gl w0 M R0){A:Asg}{w:World}{all:List Oper}{k:St→Prop}:∀ {l:List Oper} {st:St} {a:Act},Inv w0 M R0 A st a w→xqs X all l st k →
   wpQuiet P all.toArray (Cls w) (fun a'=>∃ st',k st'∧Inv w0 M R0 A st' a' w) l a:=by
 intro l
 induction l with
 | nil=>intro st a I h;exact⟨st,h,I⟩
 | cons o r ih =>
   intro st a I h
   obtain⟨st1,I1,h1⟩:=withG_ok I h
   unfold wpQuiet
   rcases h1 with ⟨hw,h1⟩ | ⟨hw,h1⟩
   · rw[if_pos hw]
     obtain⟨v,st2,hk,I2,hq⟩:=xq_ok hX hB I1 h1
     exact⟨v,hq,ih I2 hk⟩
   · rw[if_neg (by simp[hw])]
     exact ih (I1.put (s := .und) (v:=undef) rfl) h1
end Go.Vc
