import Derived.Test.YtfmiecbmikncpaaDoorTORowVR
namespace Go.Vc
open Go.RowKit
def maskL(S:Nat→Bool):Nat→List SV→List SV
 | _,[]=>[]
 | j,s::r=>(match S j with | true=>s | false => .any)::maskL S (j+1) r
def St.mask(st:St)(S:Nat→Bool):St:=⟨maskL S 0 st.tm,st.ob,st.gs⟩
theorem maskL_get(S:Nat→Bool):∀ (l:List SV) (n j:Nat),(maskL S n l)[j]?=l[j]?.map fun s=>match S (n+j) with | true=>s | false => .any
 | [],n,j=>by simp[maskL]
 | s::r,n,0=>by simp[maskL]
 | s::r,n,j+1=>by
   simp only[maskL,List.getElem?_cons_succ]
   rw[maskL_get S r (n+1) j,show n+1+j=n+(j+1) by omega]
theorem maskL_len(S:Nat→Bool):∀ (l:List SV) (n:Nat),(maskL S n l).length=l.length
 | [],_=>rfl
 | s::r,n=>by simp[maskL,maskL_len S r (n+1)]
def waits(all:List Oper)(i k:Nat):Bool :=
 match all[i]? with
 | some o=>o.after.toList.any fun e=>Region.binds .any e&&e.on==k
 | none=>false
def known(all:List Oper)(n i s:Nat):Bool :=
 (List.range n).all fun k=>match all[k]? with
   | some o=>match o.dst with
     | some d=>if d=s then decide (k<i)&&waits all i k else true
     | none=>true
   | none=>true
theorem known_spec{all:List Oper}{n i s:Nat}(h:known all n i s=true){k:Nat}{o:Oper}(hk:k<n)(ho:all[k]?=some o)(hd:o.dst=some s):k<i∧waits all i k=true:=by
 have:=List.all_eq_true.1 h k (List.mem_range.2 hk)
 simpa [ho,hd] using this
def SvEq(s s':SV):Prop:=∀ w ro A v,SvOk w ro A s v↔SvOk w ro A s' v
theorem SvEq.refl(s:SV):SvEq s s:=fun _ _ _ _=>Iff.rfl
theorem SvEq.trans{a b c:SV}(h:SvEq a b)(k:SvEq b c):SvEq a c:=fun w ro A v=>(h w ro A v).trans (k w ro A v)
theorem SvEq.symm{a b:SV}(h:SvEq a b):SvEq b a:=fun w ro A v=>(h w ro A v).symm
theorem SvEq.bool(b:Bool):SvEq (.d .bool b) (.bt b):=by
 intro w ro A v
 show [v]=[Value.bool b]↔v = .bool b
 simp
theorem Inv.weaken[Dn]{w0:World}{M:Ms}{R0:Nat→Prop}{A:Asg}{st st':St}{a:Act}{w:World}(I:Inv w0 M R0 A st a w)(hob:st'.ob=st.ob)(hgs:st'.gs=st.gs)(hl:st'.tm.length=st.tm.length)
   (h:∀ (j:Nat) (s':SV),st'.tm[j]?=some s'→s' = .any∨∃ s:SV,st.tm[j]?=some s∧SvEq s s'):Inv w0 M R0 A st' a w where
 fr:=I.fr
 defers:=I.defers
 mks:=by rw[hob];exact I.mks
 gh:=by rw[hob,hgs];exact I.gh
 num:=by rw[hob];exact I.num
 len:=by rw[hl];exact I.len
 tm:=by
   rw[hob]
   intro j s' hj
   rcases h j s' hj with rfl | ⟨s,hs,he⟩
   · trivial
   · exact (he _ _ _ _).1 (I.tm j s hs)
 ob:=by rw[hob];exact I.ob
 dj:=by rw[hob];exact I.dj
 fp:=by rw[hob];exact I.fp
def StEq(st st':St):Prop:=st'.ob=st.ob∧st'.gs=st.gs∧st'.tm.length=st.tm.length∧∀ (j:Nat) s,st.tm[j]?=some s→∃ s',st'.tm[j]?=some s'∧SvEq s s'
theorem StEq.refl[Dn](st:St):StEq st st:=⟨rfl,rfl,rfl,fun _ s h=>⟨s,h,SvEq.refl s⟩⟩
def xq1(X:Cx)(st:St)(o:Oper)(k:SV→Prop):Prop :=
 if isQ o.op=true then qop X.E st o.op k else
 match apO o.op with
 | some (T,s,x)=>apv X.E st T (st.ev X.E s) (st.ev X.E x) k
 | none=>match o.op with
 | .buildSlice T len parts=>bslv X.E T len (parts.toList.map fun p=>(p.1,st.ev X.E p.2)) k
 | .makeSlice T l c=>match o.dst with
   | some d=>match X.E.sa.contains d,asI (st.ev X.E l),asI (st.ev X.E c) with
     | true,some n,some m=>mkv X.E T n m k
     | _,_,_=>False
   | none=>False
 | .call c=>match cee X.E st c.callee with
   | some (f,ex)=>match lookA st (c.args.toList.map (st.ev X.E)++ex) X.Γ f with
     | some (.det _ pre fn,ds,b)=>pre ds∧(match b with
         | true=>if flatR (fn ds)=true then k (toSV (fn ds)) else False
         | false=>k (toSV (fn ds)))
     | _=>False
   | none=>False
 | _=>False
theorem xq1_pk[Dn]{X:Cx}{st:St}{o:Oper}:Pk fun k=>xq1 X st o k:=by
 intro k h
 simp only[xq1] at h ⊢
 split at h
 · rename_i ht
   simp only[if_pos ht];exact pk_qop k h
 · rename_i ht
   simp only[if_neg ht]
   split at h
   · exact pk_apv k h
   split at h
   · exact pk_bslv k h
   · split at h
     · split at h
       · exact pk_mkv k h
       · exact h.elim
     · exact h.elim
   · split at h
     · split at h
       · rename_i ds b _
         obtain⟨hp,h⟩:=h
         cases b
         · exact⟨_,h,fun k' hk=>⟨hp,hk⟩⟩
         · simp only at h ⊢
           split at h
           · rename_i hf;exact⟨_,h,fun k' hk=>⟨hp,by rw[if_pos hf];exact hk⟩⟩
           · exact h.elim
       · exact h.elim
     · exact h.elim
   · exact h.elim
theorem xq1_run[Dn]{P:Program}{X:Cx}(hX:CxOk P X){w0:World}{M:Ms}{R0:Nat→Prop}(hB:BaseOk X.gl w0 M R0){A:Asg}{st:St}{a:Act}{w:World}(I:Inv w0 M R0 A st a w){o:Oper}{k:SV→Prop}(h:xq1 X st o k)
   {K:Act→World→Prop} {Q:Exit→Act→World→Prop} (hK:∀ s v w',k s→Same w w'→Ext w w'→SvOk w' (Ro R0 w0.heap.size A st.ob w') A s v→K (a.put o.dst v) w'):o.wp P a w K Q:=by
 unfold xq1 at h
 split at h
 · obtain⟨s',v',hk,hs,hr⟩:=qop_ok hX.E hX.q I h
   unfold Oper.wp
   rw[hr w (Ext.refl w)]
   exact hK _ _ _ hk (Same.refl w) (Ext.refl w) hs
 · rename_i hnq
   clear hnq
   obtain⟨dst,op,type,pos,after,guard⟩:=o
   simp only at h
   split at h
   · rename_i T s x hap
     unfold apO at hap
     split at hap
     · rename_i c
       obtain⟨callee,args,ats⟩:=c
       simp only at hap
       split at hap
       · rename_i s' x' T1 T2 hargs hats
         split at hap
         · rename_i hT
           subst hT
           injection hap with hap;injection hap with e1 e2;injection e2 with e2 e3
           subst e1;subst e2;subst e3
           have ea:args=#[s',x']:=by apply Array.toList_inj.1;rw[hargs]
           have et:ats=#[T1,T1]:=by apply Array.toList_inj.1;rw[hats]
           subst ea;subst et
           obtain⟨r,v',w',hk,h1,h2,h3,hr⟩:=apv_ok (ty:=type) hX.E I (I.ev s') (I.ev x') h
           unfold Oper.wp
           have hr':(execOp a.eval ⟨dst,Op.call ⟨.builtin .append,#[s',x'],#[T1,T1]⟩,type,pos,after,guard⟩).run P w = .ok (.value v') w':=by
             simp[execOp,resolve,invoke,builtin,hr]
           rw[hr']
           exact hK _ _ _ hk h1 h2 h3
         · cases hap
       · cases hap
     · cases hap
   rename_i hapn
   clear hapn
   split at h
   · rename_i T len parts
     obtain⟨s,v',w',hk,h1,h2,h3,hr⟩:=bslv_ok (vals:=parts.toList.map fun p=>(p.1,a.eval p.2)) hX.E I (by simp) (fun j p v h1 h2=>by
       rw[List.getElem?_map] at h1 h2
       obtain⟨q,hq1,rfl⟩:=Option.map_eq_some_iff.1 h1
       obtain⟨q',hq2,rfl⟩:=Option.map_eq_some_iff.1 h2
       rw[hq1] at hq2;injection hq2 with hq2;subst hq2
       exact⟨rfl,I.ev _⟩) h
     have hpa:(parts.map fun (x:Nat×Operand)=>(x.1,a.eval x.2))=(parts.toList.map fun p=>(p.1,a.eval p.2)).toArray:=by
       apply Array.toList_inj.1;simp
     unfold Oper.wp
     rw[show (execOp a.eval ⟨dst,Op.buildSlice T len parts,type,pos,after,guard⟩)=(do pure (.value (← Instr.buildSlice T len (parts.map fun (i,x)=>(i,a.eval x))))) from rfl,hpa]
     have hr':(do pure (Next.value (← Instr.buildSlice T len (parts.toList.map fun p=>(p.1,a.eval p.2)).toArray)):Sem Next).run P w = .ok (.value v') w':=by
       simp[hr]
     rw[hr']
     exact hK _ _ _ hk h1 h2 h3
   · rename_i T l c
     split at h
     · split at h
       · rename_i hn hm
         obtain⟨kl,e1,_⟩:=asI_ok hn (I.ev l)
         obtain⟨kc,e2,_⟩:=asI_ok hm (I.ev c)
         obtain⟨s,v',w',hk,h1,h2,h3,hr⟩:=mkv_ok (kl:=kl) (kc:=kc) hX.E I h
         unfold Oper.wp
         have hr':∀ d:Option Nat,(execOp a.eval ⟨d,Op.makeSlice T l c,type,pos,after,guard⟩).run P w = .ok (.value v') w':=by
           intro d;simp[execOp,e1,e2,hr]
         rw[hr']
         exact hK _ _ _ hk h1 h2 h3
       · exact h.elim
     · exact h.elim
   · rename_i c
     obtain⟨callee,args,at_⟩:=c
     simp only at h
     split at h
     · rename_i f ex hc
       split at h
       · rename_i ps pre fn ds b hl
         obtain⟨hent,hpl,hd⟩:=hX.Γ.lookA hl
         obtain⟨hpre,h⟩:=h
         obtain⟨vs,hall,hrun⟩:=run_cee (P:=P) I hc hent (args:=args)
         have hgl:=hB.now I
         unfold Oper.wp
         rw[hrun]
         cases b
         · have hD:=(argsV_ok I hd hall).1 rfl
           refine (hpl ds (fun rs=>rs=fn ds) ⟨hpre,rfl⟩ w _ _ (fun b hb=>hb.1) hgl hD).mono fun e w' he => ?_
           obtain⟨hfr,rs,v,rfl,rfl,hret⟩:=he
           exact hK _ _ _ h hfr.same hfr.ext (hret.mono (fun b hb=>ro_ext I hfr.size b hb) (fun _ _=>rfl)).sv
         · have hD:=(argsV_ok I hd hall).2
           refine (hpl ds (fun rs=>rs=fn ds) ⟨hpre,rfl⟩ w _ _ (fun b hb=>hb) (hgl.mono (fun b hb=>hb.1) (fun _ _=>rfl)) hD).mono fun e w' he => ?_
           obtain⟨hfr,rs,v,rfl,rfl,hret⟩:=he
           simp only at h
           split at h
           · rename_i hfl
             exact hK _ _ _ h hfr.same hfr.ext (hret.flat hfl).sv
           · exact h.elim
       · exact h.elim
     · exact h.elim
   · exact h.elim
def withM(all:List Oper)(mst st:St)(o:Oper)(yes no:St→Prop):Prop :=
 match o.guard with
 | none=>yes st
 | some (j,pol)=>match gslot all j with
   | some s=>match mst.tm.getD s .any with
     | .bt true=>match pol with
       | true=>yes st
       | false=>no st
     | .bt false=>match pol with
       | true=>no st
       | false=>yes st
     | .d .bool b=>(b=true→match pol with
         | true=>yes (st.put (some s) (.bt true))
         | false=>no (st.put (some s) (.bt true))) ∧
       (b=false→match pol with
         | true=>no (st.put (some s) (.bt false))
         | false=>yes (st.put (some s) (.bt false)))
     | .und=>no st
     | _=>False
   | none=>False
theorem put_eq[Dn]{st:St}{s:Nat}{b:Bool}(h:st.tm[s]?=some (.d .bool b)):StEq st (st.put (some s) (.bt b)):=by
 refine⟨rfl,rfl,by simp[St.put],fun j sv hj => ?_⟩
 by_cases hjs:s=j
 · subst hjs
   rw[h] at hj;injection hj with hj;subst hj
   have hlt:=(List.getElem?_eq_some_iff.1 h).1
   exact⟨.bt b,by simp[St.put,hlt],SvEq.bool b⟩
 · exact⟨sv,by simp only[St.put];rw[List.getElem?_set_ne hjs];exact hj,SvEq.refl sv⟩
theorem withM_dec[Dn]{all:List Oper}{S:Nat→Bool}{st:St}{o:Oper}{yes no:St→Prop}(h:withM all (st.mask S) st o yes no) :
   ∃ (d:Bool) (st1:St),StEq st st1∧(d=true→yes st1)∧(d=false→no st1) ∧
     ∀ {w0:World} {M:Ms} {R0:Nat→Prop} {A:Asg} {a:Act} {w:World} {st':St},st'.tm=(st.mask S).tm→Inv w0 M R0 A st' a w→Region.wanted o (yielded all.toArray a.tmps)=d:=by
 unfold withM at h
 split at h
 · rename_i hg
   exact⟨true,st,StEq.refl st,fun _=>h,(fun h=>by cases h),fun _ I=>by simp[Region.wanted,hg]⟩
 · rename_i j pol hg
   split at h
   · rename_i s hs
     have hmem:∀ sv,(st.mask S).tm.getD s .any=sv→sv ≠ .any→(st.mask S).tm[s]?=some sv:=by
       intro sv hsv hne
       rw[List.getD_eq_getElem?_getD] at hsv
       cases hq:(st.mask S).tm[s]? with
       | none=>rw[hq] at hsv;exact absurd hsv.symm hne
       | some x=>rw[hq] at hsv;exact congrArg some hsv
     have hreal:∀ sv,(st.mask S).tm[s]?=some sv→sv ≠ .any→st.tm[s]?=some sv:=by
       intro sv hsv hne
       rw[show (st.mask S).tm=maskL S 0 st.tm from rfl,maskL_get] at hsv
       obtain⟨x,hx,he⟩:=Option.map_eq_some_iff.1 hsv
       split at he
       · rw[hx,he]
       · exact absurd he.symm hne
     have hy:∀ (tm:Array Value) (b:Bool),tm.getD s undef = .bool b→yielded all.toArray tm j=some b:=by
       intro tm b hb
       have hlt:s<tm.size:=by
         rcases Nat.lt_or_ge s tm.size with h | h
         · exact h
         · rw[Array.getD_eq_getD_getElem?,Array.getElem?_eq_none h] at hb;simp[undef] at hb
       have hv:tm[s]?=some (.bool b):=by
         rw[Array.getElem?_eq_getElem hlt];congr 1;simpa [hlt] using hb
       unfold gslot at hs
       split at hs
       · rename_i oj hoj
         simp[yielded,hoj,hs,hv]
       · cases hs
     have hw:∀ (tm:Array Value) (b:Bool),tm.getD s undef = .bool b→Region.wanted o (yielded all.toArray tm)=(b==pol):=by
       intro tm b hb
       simp only[Region.wanted,hg,hy tm b hb]
       cases b<;>cases pol<;>rfl
     split at h
     · rename_i hb
       have h1:=hmem _ hb (by simp)
       refine⟨(true==pol),st,StEq.refl st,fun hd => ?_,fun hd => ?_,fun he I=>hw _ _ (I.tm s (.bt true) (by rw[he];exact h1))⟩
       · cases pol
         · cases hd
         · exact h
       · cases pol
         · exact h
         · cases hd
     · rename_i hb
       have h1:=hmem _ hb (by simp)
       refine⟨(false==pol),st,StEq.refl st,fun hd => ?_,fun hd => ?_,fun he I=>hw _ _ (I.tm s (.bt false) (by rw[he];exact h1))⟩
       · cases pol
         · exact h
         · cases hd
       · cases pol
         · cases hd
         · exact h
     · rename_i b hb
       have h1:=hmem _ hb (by simp)
       have h2:=hreal _ h1 (by simp)
       have hv:∀ {w0:World} {M:Ms} {R0:Nat→Prop} {A:Asg} {a:Act} {w:World} {st':St},st'.tm=(st.mask S).tm→Inv w0 M R0 A st' a w→a.tmps.getD s undef = .bool b:=by
         intro w0 M R0 A a w st' he I
         have hv0:[a.tmps.getD s undef]=[Value.bool b]:=I.tm s (.d .bool b) (by rw[he];exact h1)
         injection hv0
       refine⟨(b==pol),st.put (some s) (.bt b),put_eq h2,fun hd => ?_,fun hd => ?_,fun he I=>hw _ _ (hv he I)⟩
       · cases b
         · have:=h.2 rfl
           cases pol
           · exact this
           · cases hd
         · have:=h.1 rfl
           cases pol
           · cases hd
           · exact this
       · cases b
         · have:=h.2 rfl
           cases pol
           · cases hd
           · exact this
         · have:=h.1 rfl
           cases pol
           · exact this
           · cases hd
     · rename_i hb
       have h1:=hmem _ hb (by simp)
       refine⟨false,st,StEq.refl st,(fun h=>by cases h),fun _=>h,fun {w0 M R0 A a w st'} he I => ?_⟩
       have hv:a.tmps.getD s undef=undef:=I.tm s .und (by rw[he];exact h1)
       have hlt:s<(st.mask S).tm.length:=(List.getElem?_eq_some_iff.1 h1).1
       have hlt':s<a.tmps.size:=by rw[I.len,he];exact hlt
       have hv':a.tmps[s]?=some undef:=by
         rw[Array.getElem?_eq_getElem hlt'];congr 1;simpa [hlt'] using hv
       unfold gslot at hs
       split at hs
       · rename_i oj hoj
         simp[Region.wanted,hg,yielded,hoj,hs,hv',undef]
       · cases hs
     · exact h.elim
   · exact h.elim
def xqm(X:Cx)(all:List Oper)(n:Nat):Nat→List Oper→St→(St→Prop)→Prop
 | _,[],st,k=>k st
 | i,o::r,st,k=>withM all (st.mask (known all n i)) st o
     (fun st=>xq1 X (st.mask (known all n i)) o fun s=>xqm X all n (i+1) r (st.put o.dst s) k)
     (fun st=>xqm X all n (i+1) r (st.put o.dst .und) k)
def OpOk[Dn](P:Program)(gl:List (Nat×Dat))(all:List Oper)(n i:Nat)(o:Oper)(F:St):Prop :=
 ∀ (w0:World) (M:Ms) (R0:Nat→Prop) (A:Asg) (a:Act) (w:World),BaseOk gl w0 M R0→Inv w0 M R0 A (F.mask (known all n i)) a w→∀ (K:Act→World→Prop) (Q:Exit→Act→World→Prop),
   (∀ v w',Same w w'→Ext w w'→(∀ d s,o.dst=some d→F.tm[d]?=some s→SvOk w' (Ro R0 w0.heap.size A F.ob w') A s v)→K (a.put o.dst v) w')→wpOp P all.toArray Q i K a w
def DstOne(all:List Oper)(n:Nat):Prop:=∀ (i j:Nat) oi oj d,i<n→j<n→all[i]?=some oi→all[j]?=some oj→oi.dst=some d→oj.dst=some d→i=j
theorem mask_get[Dn]{st:St}{S:Nat→Bool}{j:Nat}{s:SV}(h:(st.mask S).tm[j]?=some s):s = .any∨(S j=true∧st.tm[j]?=some s):=by
 rw[show (st.mask S).tm=maskL S 0 st.tm from rfl,maskL_get,Nat.zero_add] at h
 obtain⟨x,hx,he⟩:=Option.map_eq_some_iff.1 h
 split at he
 · rename_i hS;subst he;exact .inr ⟨hS,hx⟩
 · exact .inl he.symm
theorem mask_mk[Dn]{st:St}{S:Nat→Bool}{j:Nat}{s:SV}(hS:S j=true)(h:st.tm[j]?=some s):(st.mask S).tm[j]?=some s:=by
 rw[show (st.mask S).tm=maskL S 0 st.tm from rfl,maskL_get,Nat.zero_add,h,hS];rfl
theorem mask_len[Dn]{st:St}{S:Nat→Bool}:(st.mask S).tm.length=st.tm.length:=maskL_len S st.tm 0
def pureB(o:Oper):Bool :=
 match o.op with
 | .move _ | .nilCheck _ | .fieldAddr _ _ _ | .unOp _ _ _=>true
 | .binOp _ _ _ (.const (.map none)) _=>false
 | .binOp _ _ _ _ _=>true
 | _=>false
def St.wo(st:St)(ob:List Ob):St:=⟨st.tm,ob,st.gs⟩
theorem pure_xq1{X:Cx}{st:St}{o:Oper}{k:SV→Prop}{ob:List Ob}(hp:pureB o=true)(h:xq1 X st o k):xq1 X (st.wo ob) o k:=by
 obtain⟨dst,op,type,pos,after,guard⟩:=o
 cases op with
 | unOp u _ _=>cases u<;>exact h
 | binOp op T x y ty =>
   have hm:∀ s:St,mlk X.E s (.binOp op T x y ty)=none:=by
     intro s
     unfold mlk
     split
     · rename_i e;cases e
     · rename_i e;cases e;simp[pureB] at hp
     · rfl
   unfold xq1 at h ⊢
   simp only[isQ,if_true] at h ⊢
   unfold qop at h ⊢
   rw[hm] at h ⊢
   exact h
 | _=>first | exact h | (simp[pureB] at hp)
theorem xqm_trace[Dn]{P:Program}{X:Cx}(hX:CxOk P X){all:List Oper}{n:Nat}(hone:DstOne all n){k:St→Prop}:∀ {l:List Oper} {i:Nat} {st:St},(∀ j,j<l.length→l[j]?=all[i+j]?)→i+l.length≤n→xqm X all n i l st k →
   ∃ F,k F∧F.ob=st.ob∧F.gs=st.gs∧F.tm.length=st.tm.length ∧
     (∀ slot s,(∀ (j:Nat) o,l[j]?=some o→o.dst≠some slot)→st.tm[slot]?=some s→∃ s',F.tm[slot]?=some s'∧SvEq s s') ∧
     (∀ (j:Nat) o,l[j]?=some o→OpOk P X.gl all n (i+j) o F)∧∀ (ob':List Ob) (j:Nat) o,l[j]?=some o→pureB o=true→OpOk P X.gl all n (i+j) o (F.wo ob'):=by
 intro l
 induction l with
 | nil =>
   intro i st _ _ h
   exact⟨st,h,rfl,rfl,rfl,fun slot s _ hs=>⟨s,hs,SvEq.refl s⟩,(fun j o ho=>by simp at ho),fun ob' j o ho=>by simp at ho⟩
 | cons o r ih =>
   intro i st hl hn h
   have h0:all[i]?=some o:=by have:=hl 0 (by simp);simpa using this.symm
   have hin:i<n:=by simp only[List.length_cons] at hn;omega
   have hlr:∀ j,j<r.length→r[j]?=all[i+1+j]?:=fun j hj=>by
     have:=hl (j+1) (by simp;omega)
     simpa [Nat.add_assoc,Nat.add_comm 1 j] using this
   unfold xqm at h
   obtain⟨d,st1,heq,hyes,hno,hdec⟩:=withM_dec h
   -- the value,and the rest
   have hs:∃ s,xqm X all n (i+1) r (st1.put o.dst s) k∧((d=true∧xq1 X (st1.mask (known all n i)) o (fun s'=>s'=s))∨(d=false∧s = .und)):=by
     cases d
     · exact⟨.und,hno rfl,.inr ⟨rfl,rfl⟩⟩
     · obtain⟨s,hs1,hs2⟩:=xq1_pk _ (hyes rfl)
       exact⟨s,hs1,.inl ⟨rfl,hs2 _ rfl⟩⟩
   obtain⟨s,hrest,hop⟩:=hs
   obtain⟨F,hk,hob,hgs,hlen,hun,hops,hpur⟩:=ih hlr (by simp only[List.length_cons] at hn;omega) hrest
   have hob1:F.ob=st.ob:=by rw[hob,St.put_ob,heq.1]
   have hgs1:F.gs=st.gs:=by rw[hgs,St.put_gs,heq.2.1]
   have hlen1:F.tm.length=st.tm.length:=by rw[hlen,St.put_len,heq.2.2.1]
   -- a slot that nobody from here on writes
   have keep:∀ slot s1,(∀ (j:Nat) o',(o::r)[j]?=some o'→o'.dst≠some slot)→st1.tm[slot]?=some s1→∃ s',F.tm[slot]?=some s'∧SvEq s1 s':=by
     intro slot s1 hno hs1
     refine hun slot s1 (fun j o' ho'=>hno (j+1) o' (by simpa using ho')) ?_
     have hne:=hno 0 o rfl
     cases hd:o.dst with
     | none=>simpa [St.put,hd] using hs1
     | some x =>
       simp only[St.put]
       rw[List.getElem?_set_ne (by intro e;subst e;exact hne hd)]
       exact hs1
   have hknown:∀ slot,known all n i slot=true→∀ (j:Nat) o',(o::r)[j]?=some o'→o'.dst≠some slot:=by
     intro slot hkn j o' ho' hd'
     have hj:j<(o::r).length:=(List.getElem?_eq_some_iff.1 ho').1
     have ha:all[i+j]?=some o':=by rw[← hl j hj];exact ho'
     have:=(known_spec hkn (k:=i+j) (by simp only[List.length_cons] at hn hj;omega) ha hd').1
     omega
   refine⟨F,hk,hob1,hgs1,hlen1,fun slot s0 hno hs0 => ?_,fun j o' ho' => ?_,fun ob' j o' ho' hpu => ?_⟩
   · obtain⟨s1,hs1,e1⟩:=heq.2.2.2 slot s0 hs0
     obtain⟨s2,hs2,e2⟩:=keep slot s1 hno hs1
     exact⟨s2,hs2,e1.trans e2⟩
   · cases j with
     | zero =>
       simp only[List.getElem?_cons_zero,Option.some.injEq] at ho'
       subst ho'
       intro w0 M R0 A a w hB I K Q hK
       have I1:Inv w0 M R0 A (st1.mask (known all n i)) a w:=by
         refine I.weaken (by show st1.ob=F.ob;rw[hob1,heq.1]) (by show st1.gs=F.gs;rw[hgs1,heq.2.1]) (by rw[mask_len,mask_len,hlen1,heq.2.2.1]) fun slot s' hs' => ?_
         rcases mask_get hs' with rfl | ⟨hkn,hs1⟩
         · exact .inl rfl
         · obtain⟨s2,hs2,e2⟩:=keep slot s' (hknown slot hkn) hs1
           exact .inr ⟨s2,mask_mk hkn hs2,e2.symm⟩
       have I0:Inv w0 M R0 A (st.mask (known all n i)) a w:=by
         refine I1.weaken (by show st.ob=st1.ob;rw[heq.1]) (by show st.gs=st1.gs;rw[heq.2.1]) (by rw[mask_len,mask_len,heq.2.2.1]) fun slot s' hs' => ?_
         rcases mask_get hs' with rfl | ⟨hkn,hs1⟩
         · exact .inl rfl
         · obtain⟨s2,hs2,e2⟩:=heq.2.2.2 slot s' hs1
           exact .inr ⟨s2,mask_mk hkn hs2,e2.symm⟩
       have hwant:=hdec rfl I0
       have hFd:∀ x sF,o.dst=some x→F.tm[x]?=some sF→SvEq s sF:=by
         intro x sF hd hF
         have hxl:x<st1.tm.length:=by
           have:=(List.getElem?_eq_some_iff.1 hF).1
           rw[hlen1,← heq.2.2.1] at this;exact this
         obtain⟨s2,hs2,e2⟩:=hun x s (fun j o' ho' hd'=>by
           have hj:j<r.length:=(List.getElem?_eq_some_iff.1 ho').1
           have ha:all[i+1+j]?=some o':=by rw[← hlr j hj];exact ho'
           have:=hone i (i+1+j) o o' x hin (by simp only[List.length_cons] at hn;omega) h0 ha hd hd'
           omega) (by simp only[hd,St.put];simp[hxl])
         rw[hF] at hs2;injection hs2 with hs2;subst hs2
         exact e2
       unfold wpOp
       rw[Nat.add_zero,List.getElem?_toArray,h0]
       simp only
       rcases hop with ⟨hd1,hx⟩ | ⟨hd0,hsu⟩
       · rw[if_pos (by rw[hwant,hd1])]
         refine .inl (xq1_run hX hB I1 hx fun s' v w' hs' hsm hex hsv=>hK v w' hsm hex fun x sF hd hF => ?_)
         subst hs'
         have:st1.ob=F.ob:=by rw[hob1,heq.1]
         rw[← this]
         exact (hFd x sF hd hF _ _ _ _).1 hsv
       · rw[if_neg (by rw[hwant,hd0];decide)]
         refine hK undef w (Same.refl w) (Ext.refl w) fun x sF hd hF => ?_
         exact (hFd x sF hd hF _ _ _ _).1 (by rw[hsu];rfl)
     | succ j =>
       have:=hops j o' (by simpa using ho')
       rwa [show i+1+j=i+(j+1) by omega] at this
   · cases j with
     | zero =>
       simp only[List.getElem?_cons_zero,Option.some.injEq] at ho'
       subst ho'
       intro w0 M R0 A a w hB I K Q hK
       have I1:Inv w0 M R0 A ((st1.mask (known all n i)).wo ob') a w:=by
         refine I.weaken rfl (by show st1.gs=F.gs;rw[hgs1,heq.2.1]) (by show (st1.mask _).tm.length=((F.wo ob').mask _).tm.length;rw[mask_len,mask_len];show st1.tm.length=F.tm.length;rw[hlen1,heq.2.2.1]) fun slot s' hs' => ?_
         have hs':(st1.mask (known all n i)).tm[slot]?=some s':=hs'
         rcases mask_get hs' with rfl | ⟨hkn,hs1⟩
         · exact .inl rfl
         · obtain⟨s2,hs2,e2⟩:=keep slot s' (hknown slot hkn) hs1
           exact .inr ⟨s2,mask_mk (st:=F.wo ob') hkn hs2,e2.symm⟩
       have I0:Inv w0 M R0 A ((st.mask (known all n i)).wo ob') a w:=by
         refine I1.weaken rfl (by show st.gs=st1.gs;rw[heq.2.1]) (by show (st.mask _).tm.length=(st1.mask _).tm.length;rw[mask_len,mask_len,heq.2.2.1]) fun slot s' hs' => ?_
         have hs':(st.mask (known all n i)).tm[slot]?=some s':=hs'
         rcases mask_get hs' with rfl | ⟨hkn,hs1⟩
         · exact .inl rfl
         · obtain⟨s2,hs2,e2⟩:=heq.2.2.2 slot s' hs1
           exact .inr ⟨s2,mask_mk (st:=st1) hkn hs2,e2.symm⟩
       have hwant:=hdec (st':=(st.mask (known all n i)).wo ob') rfl I0
       have hFd:∀ x sF,o.dst=some x→F.tm[x]?=some sF→SvEq s sF:=by
         intro x sF hd hF
         have hxl:x<st1.tm.length:=by
           have:=(List.getElem?_eq_some_iff.1 hF).1
           rw[hlen1,← heq.2.2.1] at this;exact this
         obtain⟨s2,hs2,e2⟩:=hun x s (fun j o' ho' hd'=>by
           have hj:j<r.length:=(List.getElem?_eq_some_iff.1 ho').1
           have ha:all[i+1+j]?=some o':=by rw[← hlr j hj];exact ho'
           have:=hone i (i+1+j) o o' x hin (by simp only[List.length_cons] at hn;omega) h0 ha hd hd'
           omega) (by simp only[hd,St.put];simp[hxl])
         rw[hF] at hs2;injection hs2 with hs2;subst hs2
         exact e2
       unfold wpOp
       rw[Nat.add_zero,List.getElem?_toArray,h0]
       simp only
       rcases hop with ⟨hd1,hx⟩ | ⟨hd0,hsu⟩
       · rw[if_pos (by rw[hwant,hd1])]
         refine .inl (xq1_run hX hB I1 (pure_xq1 hpu hx) fun s' v w' hs' hsm hex hsv=>hK v w' hsm hex fun x sF hd hF => ?_)
         subst hs'
         exact (hFd x sF hd hF _ _ _ _).1 hsv
       · rw[if_neg (by rw[hwant,hd0];decide)]
         refine hK undef w (Same.refl w) (Ext.refl w) fun x sF hd hF => ?_
         exact (hFd x sF hd hF _ _ _ _).1 (by rw[hsu];rfl)
     | succ j =>
       have:=hpur ob' j o' (by simpa using ho') hpu
       rwa [show i+1+j=i+(j+1) by omega] at this
end Go.Vc
