import Derived.Test.YtfmiecbmikncpaaDoorTORowVTD
namespace Go.Vc
open Go.RowKit
def pzB(E:Env)(t:Ty)(dst:Option Nat):Bool :=
 match dst with
 | some d=>E.pz.contains d&&isPr t
 | none=>false
def saB(E:Env)(dst:Option Nat):Bool :=
 match dst with
 | some d=>E.sa.contains d
 | none=>false
def sop(X:Cx)(st:St)(o:Oper)(k:St→Prop):Prop :=
 match o.op with
 | .box T x=>match X.E.ty T with
   | some t=>match asT t (st.ev X.E x) with
     | some y=>k ((st.push (.var T t y)).put o.dst (.pv t st.ob.length []))
     | none=>match st.ev X.E x with
       | .ag l=>k ((st.push (.st T l)).put o.dst (.ps st.ob.length))
       | s=>match pcV st s with
         | some s'=>k ((st.push (.st T [s'])).put o.dst (.pv t st.ob.length []))
         | none=>False
   | none=>False
 | .alloc T=>match X.E.ty T with
   | some t=>match pzB X.E t o.dst with
     | true=>k ((st.push (.st T (zP t))).put o.dst (.ps st.ob.length))
     | false=>k ((st.push (.var T t t.z)).put o.dst (.pv t st.ob.length []))
   | none=>False
 | .store T p x=>match X.E.ty T with
   | some t=>match psI (st.ev X.E p) with
     | some i=>stP st t i (st.ev X.E x) (fun st'=>k (st'.put o.dst .any))
     | none=>match taI (st.ev X.E p) with
       | some (t0,i,pp,kk,q)=>stT st t (st.ev X.E x) t0 i pp kk q (fun st'=>k (st'.put o.dst .any))
       | none=>sto st t (st.ev X.E x) (fun st'=>k (st'.put o.dst .any)) (st.ev X.E p)
   | none=>False
 | .makeMap T none=>match X.E.mp T with
   | some (K,El)=>match X.E.ty K,X.E.ty El with
     | some (.ar n (.int .i64)),some v=>k ((st.push (.mp n v [])).put o.dst (.os st.ob.length))
     | _,_=>False
   | none=>False
 | .mapUpdate T x y z=>match X.E.mp T with
   | some (K,El)=>match X.E.ty K,X.E.ty El,st.ev X.E x,st.ev X.E y with
     | some (.ar n (.int .i64)),some v,.os i,.d (.ar m (.int .i64)) kk=>match st.ob.getD i .dead with
       | .mp n' v' es=>if v'=v∧n'=n∧m=n then match asT v' (st.ev X.E z) with
         | some u=>k ({ st with ob:=st.ob.set i (.mp n' v' (mpPut es kk u)) }.put o.dst .any)
         | none=>False else False
       | _=>False
     | _,_,_,_=>False
   | none=>False
 | .makeSlice T l c=>match asI (st.ev X.E l),asI (st.ev X.E c) with
   | some n,some m=>match saB X.E o.dst with
     | true=>mkv X.E T n m fun s=>k (st.put o.dst s)
     | false=>mkS X.E st T n m o.dst k
   | _,_=>False
 | .buildSlice T len parts=>match ownP st (parts.toList.map fun p=>(p.1,st.ev X.E p.2)) with
   | some j=>if len=1 then bslT X.E st T j o.dst k else False
   | none=>if len=0∧parts.size=0 then bsl0 X.E st T o.dst k else bsl X.E st T len (parts.toList.map fun p=>(p.1,st.ev X.E p.2)) o.dst k
 | .call c=>match c.callee,c.args.toList,c.argTypes.toList with
   | .builtin .append,[s,x],[T,T']=>if T=T' then match ownX st (st.ev X.E x) with
       | some j=>apdT X.E st T (st.ev X.E s) j o.dst k
       | none=>apd X.E st T (st.ev X.E s) (st.ev X.E x) o.dst k
     else False
   | callee,args,_=>match cee X.E st callee with
     | some (f,ex)=>match lookO X.Γo f with
       | some _=>calO X.Γo st f (args.map (st.ev X.E)++ex) o.dst k
       | none=>cal X.Γ st f (args.map (st.ev X.E)++ex) o.dst k
     | none=>False
 | _=>False
inductive Ow where
 | cutoff (T:TypeId) (s:SV) (n:Int)
 | rest (T:TypeId) (s:SV) (n:Int)
 | clear (T:TypeId) (s:SV)
 | grow (T TI:TypeId) (n:Int)
 | capn
 | niln (n:Int)
def owC(E:Env)(st:St):Op→Option Ow
 | .slice T x none (some h) none=>match st.ev E x,asI (st.ev E h) with
   | .os i,some n=>some (.cutoff T (.os i) n)
   | .nils,some n=>match E.ty T with
     | some (.sl _)=>some (.niln n)
     | _=>none
   | _,_=>none
 | .slice T x (some l) none none=>match st.ev E x,asI (st.ev E l) with
   | .os i,some n=>some (.rest T (.os i) n)
   | _,_=>none
 | .call c=>match c.callee,c.args.toList,c.argTypes.toList with
   | .builtin .clear,[x],[T]=>match st.ev E x with
     | .oc t i a=>some (.clear T (.oc t i a))
     | _=>none
   | .builtin .cap,[x],[T]=>match st.ev E x,E.ty T with
     | .nils,some (.sl _)=>some .capn
     | _,_=>none
   | .builtin .append,[s,x],[T,TI]=>match st.ev E s,asI (st.ev E x) with
     | .nils,some n=>some (.grow T TI n)
     | _,_=>none
   | _,_,_=>none
 | _=>none
def owS(E:Env)(st:St)(o:Ow)(dst:Option Nat)(k:St→Prop):Prop :=
 match o with
 | .cutoff T s n=>trn E st T s n dst k
 | .rest T s n=>ocut E st T s n dst k
 | .clear T s=>oclr E st T s dst k
 | .grow T TI n=>apz E st T TI n dst k
 | .capn=>k (st.put dst (.d (.int .i64) (0:Int)))
 | .niln n=>n=0∧k (st.put dst .nils)
theorem owC_ok[Dn]{P:Program}{E:Env}(hE:EnvOk P E){w0:World}{M:Ms}{R0:Nat→Prop}{A:Asg}{st:St}{a:Act}{w:World}(I:Inv w0 M R0 A st a w){dst:Option Nat}{op:Op}{type:TypeId}{pos:String}{after:Array Edge}{guard:Option (Nat×Bool)}
   {o:Ow} (ho:owC E st op=some o) {k:St→Prop} (h:owS E st o dst k) :
   ∃ A' st' v' w',k st'∧Inv w0 M R0 A' st' (a.put dst v') w'∧(execOp a.eval ⟨dst,op,type,pos,after,guard⟩).run P w = .ok (.value v') w':=by
 unfold owC at ho
 split at ho
 · rename_i T x y
   split at ho
   · rename_i i n hx hy
     injection ho with ho;subst ho
     obtain⟨kh,e2,_⟩:=asI_ok hy (I.ev y)
     have hxv:=I.ev (E:=E) x
     rw[hx] at hxv
     obtain⟨A',st',v',hk,I',hr⟩:=trn_ok (kh:=kh) hE I hxv h
     exact⟨A',st',v',w,hk,I',by simp[execOp,e2,hr]⟩
   · rename_i n hx hy
     split at ho
     · rename_i t ht
       injection ho with ho;subst ho
       obtain⟨rfl,hk⟩:=h
       obtain⟨kh,e2,_⟩:=asI_ok hy (I.ev y)
       have hxv:=I.ev (E:=E) x
       rw[hx] at hxv
       have hxv:a.eval x = .slice none 0 0:=hxv
       obtain⟨_,e',hu,hfe⟩:=hE.ty _ _ ht
       have hb:=run_bounds (P:=P) true 0 0 none (some (0:Int)) .i64 kh (by simp) (by simp) (by simp) (Nat.le_refl _) w
       simp only[Option.map_none,Option.map_some] at hb
       exact⟨A,_,.slice none 0 0,w,hk,I.put (s := .nils) rfl,by simp[execOp,e2,hxv,Instr.sliceAt,Instr.slice,run_underlying hu,hb,hfe.size w]⟩
     · cases ho
   · cases ho
 · rename_i T x y
   split at ho
   · rename_i i n hx hy
     injection ho with ho;subst ho
     obtain⟨kl,e2,_⟩:=asI_ok hy (I.ev y)
     have hxv:=I.ev (E:=E) x
     rw[hx] at hxv
     obtain⟨st',v',hk,I',hr⟩:=ocut_ok (kl:=kl) hE I hxv h
     exact⟨A,st',v',w,hk,I',by simp[execOp,e2,hr]⟩
   · cases ho
 · rename_i c
   obtain⟨callee,args,at_⟩:=c
   simp only at ho
   split at ho
   · rename_i x T ha hT
     have ha':args=#[x]:=by apply Array.toList_inj.1;simpa using ha
     have hT':at_=#[T]:=by apply Array.toList_inj.1;simpa using hT
     subst ha';subst hT'
     split at ho
     · rename_i t i m hx
       injection ho with ho;subst ho
       have hxv:=I.ev (E:=E) x
       rw[hx] at hxv
       obtain⟨st',v',w',hk,I',hr⟩:=oclr_ok (ty:=type) hE I hxv h
       exact⟨A,st',v',w',hk,I',by simp[execOp,resolve,invoke,builtin,hr]⟩
     · cases ho
   · rename_i x T ha hT
     have ha':args=#[x]:=by apply Array.toList_inj.1;simpa using ha
     have hT':at_=#[T]:=by apply Array.toList_inj.1;simpa using hT
     subst ha';subst hT'
     split at ho
     · rename_i t hx ht
       injection ho with ho;subst ho
       have hxv:=I.ev (E:=E) x
       rw[hx] at hxv
       have hxv:a.eval x = .slice none 0 0:=hxv
       obtain⟨_,e',hu,hfe⟩:=hE.ty _ _ ht
       exact⟨A,_,.int .i64 0,w,h,I.put (s := .d (.int .i64) (0:Int)) (okInt (by rw[inK_i64];omega)),by simp[execOp,resolve,invoke,builtin,hxv,Builtin.cap_,run_underlying hu,goInt]⟩
     · cases ho
   · rename_i s x T TI ha hT
     have ha':args=#[s,x]:=by apply Array.toList_inj.1;simpa using ha
     have hT':at_=#[T,TI]:=by apply Array.toList_inj.1;simpa using hT
     subst ha';subst hT'
     split at ho
     · rename_i n hx hn
       injection ho with ho;subst ho
       obtain⟨kn,e2,_⟩:=asI_ok hn (I.ev x)
       have hxv:=I.ev (E:=E) s
       rw[hx] at hxv
       have hxv:a.eval s = .slice none 0 0:=hxv
       obtain⟨A',st',v',w',hk,I',hr⟩:=apz_ok (ty:=type) (kn:=kn) hE I h
       exact⟨A',st',v',w',hk,I',by simp[execOp,resolve,invoke,builtin,hxv,e2,hr]⟩
     · cases ho
   · cases ho
 · cases ho
def xop(X:Cx)(st:St)(o:Oper)(k:St→Prop):Prop :=
 match nilC X.E st o.op with
 | some (neg,e)=>∀ b:Bool,(b=true→e)→k (st.put o.dst (.d .bool (nb neg b)))
 | none=>match owC X.E st o.op with
   | some ow=>owS X.E st ow o.dst k
   | none=>if isQ o.op=true then qop X.E st o.op fun s=>k (st.put o.dst s) else sop X st o k
theorem Inv.anyw[Dn]{w0:World}{M:Ms}{R0:Nat→Prop}{A:Asg}{st:St}{a:Act}{w:World}(I:Inv w0 M R0 A st a w)(d:Option Nat)(v:Value):Inv w0 M R0 A (st.put d .any) (a.put d v) w :=
 I.put (s := .any) (v:=v) trivial
theorem wp_val{P:Program}{o:Oper}{a:Act}{K:Act→World→Prop}{Q:Exit→Act→World→Prop}{w w':World}{v:Value}(h:(execOp a.eval o).run P w = .ok (.value v) w')(hk:K (a.put o.dst v) w'):o.wp P a w K Q:=by
 unfold Oper.wp;rw[h];exact hk
theorem wp_skp{P:Program}{o:Oper}{a:Act}{K:Act→World→Prop}{Q:Exit→Act→World→Prop}{w w':World}(h:(execOp a.eval o).run P w = .ok .skip w')(hk:K (a.put o.dst undef) w'):o.wp P a w K Q:=by
 unfold Oper.wp;rw[h];exact hk
theorem xop_ok[Dn]{P:Program}{X:Cx}(hX:CxOk P X){w0:World}{M:Ms}{R0:Nat→Prop}(hBs:BaseOk X.gl w0 M R0){A:Asg}{st:St}{a:Act}{w:World}(I:Inv w0 M R0 A st a w){o:Oper}{k:St→Prop}(h:xop X st o k)
   {K:Act→World→Prop} {Q:Exit→Act→World→Prop} (hK:∀ A' st' a' w',k st'→Inv w0 M R0 A' st' a' w'→K a' w'):o.wp P a w K Q:=by
 unfold xop at h
 split at h
 · rename_i neg e hn
   obtain⟨dst,op,type,pos,after,guard⟩:=o
   obtain⟨b,hb,hr⟩:=nilC_ok (dst:=dst) (type:=type) (pos:=pos) (after:=after) (guard:=guard) hX.E I hn
   exact wp_val hr (hK _ _ _ _ (h b hb) (I.put okBool))
 rename_i xo hnone
 clear hnone xo
 split at h
 · rename_i ow how
   obtain⟨dst,op,type,pos,after,guard⟩:=o
   obtain⟨A',st',v',w',hk,I',hr⟩:=owC_ok (dst:=dst) (type:=type) (pos:=pos) (after:=after) (guard:=guard) hX.E I how h
   exact wp_val (v:=v') (w':=w') hr (hK _ _ _ _ hk I')
 rename_i xo hnone
 clear hnone xo
 split at h
 · obtain⟨s',v',hk,hs,hr⟩:=qop_ok hX.E hX.q I h
   exact wp_val (hr w (Ext.refl w)) (hK _ _ _ _ hk (I.put hs))
 · rename_i hnq
   clear hnq
   obtain⟨dst,op,type,pos,after,guard⟩:=o
   unfold sop at h
   simp only at h
   split at h
   · rename_i T x
     split at h
     · rename_i t ht
       split at h
       · rename_i y hy
         have hv:=asT_ok hy (I.ev x)
         obtain⟨A',I',hn,hη⟩:=I.newVar T (cs:=(a.eval x).cells) (okV_cells hv)
         refine wp_val (v := .pointer (some ⟨w.heap.size,0,none⟩)) (w':=w.alloc (.cells (a.eval x).cells T)) (by simp[execOp,Instr.box,newVar,newRow]) (hK _ _ _ _ h (I'.put ?_))
         exact⟨by omega,w.heap.size,0,t,hη,off_nil t,vq_nil t,rfl⟩
       · split at h
         · rename_i l hl
           have hv:=I.ev (E:=X.E) x
           rw[hl] at hv
           obtain⟨vs,hvs,hp⟩:=hv
           have hce:(a.eval x).cells=vs:=by rw[hvs];rfl
           obtain⟨A',I',hn,hη⟩:=I.newSt T (cs:=(a.eval x).cells) (by rw[hce];exact hp)
           refine wp_val (v := .pointer (some ⟨w.heap.size,0,none⟩)) (w':=w.alloc (.cells (a.eval x).cells T)) (by simp[execOp,Instr.box,newVar,newRow]) (hK _ _ _ _ h (I'.put ?_))
           exact⟨by omega,hη.symm,w.heap.size,hη⟩
         · split at h
           · rename_i s' hpc
             obtain⟨k1,k2,k3,k4⟩:=pcV_ok I hpc (I.ev (E:=X.E) x)
             have hc1:=one_cells k2
             obtain⟨A',I',hn,hη⟩:=I.newSt T (l:=[s']) (cs:=(a.eval x).cells) ⟨[[a.eval x]],by rw[hc1];rfl,rfl,fun j s u hj hu=>by
               match j with
               | 0 =>
                 simp at hj hu;subst hj;subst hu
                 exact⟨k3,by rw[k4];rfl,a.eval x,hc1.symm,k1,fun _=>k2⟩
               | j+1=>simp at hj⟩
             refine wp_val (v := .pointer (some ⟨w.heap.size,0,none⟩)) (w':=w.alloc (.cells (a.eval x).cells T)) (by simp[execOp,Instr.box,newVar,newRow]) (hK _ _ _ _ h (I'.put ?_))
             exact⟨by omega,w.heap.size,0,t,hη,off_nil t,vq_nil t,rfl⟩
           · exact h.elim
     · exact h.elim
   · rename_i T
     split at h
     · rename_i t ht
       obtain⟨i,hi,his,hiz,hib⟩:=(hX.E.ty _ _ ht).info
       have hzl:t.zc.length=t.size:=ok_len (w:=w) (ro:=fun _=>True) (ok_zero t)
       have hzc:(t.mk t.zc).cells.toList=t.zc:=mk_cells (t:=t) (cs:=t.zc) hzl (ok_one (w:=w) (ro:=fun _=>True) (ok_zero t))
       split at h
       · rename_i hpz
         have hpr:isPr t=true:=by
           unfold pzB at hpz
           split at hpz
           · simp only[Bool.and_eq_true] at hpz;exact hpz.2
           · cases hpz
         have hp:Pcs w (Ro R0 w0.heap.size A st.ob w) A (zP t) t.zc:=by
           cases t with
           | pr a b =>
             obtain⟨_,fs,fld,hu,h0,h1,h2,h3,h4⟩:=hX.E.ty _ _ ht
             obtain⟨css,hzc,hpl⟩:=zP_ok (w:=w) (ro:=Ro R0 w0.heap.size A st.ob w) (A:=A) (t := .pr a b) (f:=0) (o:=0) ⟨fld,h0,h1,h2,h3,by simpa using h4⟩
             exact⟨css,hzc,hpl.1,hpl.2.1⟩
           | _=>simp[isPr] at hpr
         obtain⟨A',I',hn,hη⟩:=I.newSt T (cs:=(t.mk t.zc).cells) (by rw[hzc];exact hp)
         refine wp_val (v := .pointer (some ⟨w.heap.size,0,none⟩)) (w':=w.alloc (.cells (t.mk t.zc).cells T)) (by simp[execOp,Instr.alloc,zeroValue,typeInfo,hi,hiz,newVar,newRow]) (hK _ _ _ _ h (I'.put ?_))
         exact⟨by omega,hη.symm,w.heap.size,hη⟩
       · obtain⟨A',I',hn,hη⟩:=I.newVar T (t:=t) (x:=t.z) (cs:=(t.mk t.zc).cells) (by rw[hzc];exact ok_zero t)
         refine wp_val (v := .pointer (some ⟨w.heap.size,0,none⟩)) (w':=w.alloc (.cells (t.mk t.zc).cells T)) (by simp[execOp,Instr.alloc,zeroValue,typeInfo,hi,hiz,newVar,newRow]) (hK _ _ _ _ h (I'.put ?_))
         exact⟨by omega,w.heap.size,0,t,hη,off_nil t,vq_nil t,rfl⟩
     · exact h.elim
   · rename_i T p x
     split at h
     · rename_i t ht
       split at h
       · rename_i i hps
         have hev:=I.ev (E:=X.E) p
         rw[psI_ok hps] at hev
         obtain⟨st',w',hk,I',hr⟩:=stP_ok I (hX.E.ty _ _ ht) hev (I.ev x) h
         exact wp_skp (w':=w') (by simp[execOp,hr]) (hK _ _ _ _ hk (I'.anyw _ _))
       · split at h
         · rename_i t0 i pp kk q hta
           have hpv:=I.ev (E:=X.E) p
           rw[taI_ok hta] at hpv
           obtain⟨st',w',hk,I',hr⟩:=stT_ok I (hX.E.ty _ _ ht) hpv (I.ev x) h
           exact wp_skp (w':=w') (by simp[execOp,hr]) (hK _ _ _ _ hk (I'.anyw _ _))
         obtain⟨st',w',hk,I',hr⟩:=sto_ok I (hX.E.ty _ _ ht) (I.ev p) (I.ev x) h
         exact wp_skp (w':=w') (by simp[execOp,hr]) (hK _ _ _ _ hk (I'.anyw _ _))
     · exact h.elim
   · rename_i T
     split at h
     · rename_i K El hm
       split at h
       · rename_i n v hK' hEl
         have hn:A.n=st.ob.length:=I.num
         have hI:Inv w0 M R0 (A.pushT (fun _ => .map (some w.heap.size)) (fun b=>b=w.heap.size)) { st with ob:=st.ob++[.mp n v []] } a (w.alloc (.map #[] 0)) :=
           I.add none (fun _ => .map (some w.heap.size)) _ _ (Same.alloc w _) (fun b hb _=>Ext.alloc w _ b hb) (fun b hb => .inl ⟨by omega,by simp;omega⟩) fun hro =>
             ⟨w.heap.size,#[],0,Asg.push_η ..,(Asg.push_F ..).2 rfl,World.alloc_heap_new w _,rfl,fun j x e h1=>by simp at h1⟩
         refine wp_val (v := .map (some w.heap.size)) (w':=w.alloc (.map #[] 0)) (by simp[execOp,run_makeMap]) (hK _ _ _ _ h (hI.put ?_))
         exact⟨by simp[Asg.pushT,hn],by rw[← hn];exact (Asg.push_η A (fun _ => .map (some w.heap.size)) _).symm⟩
       · exact h.elim
     · exact h.elim
   · rename_i T x y z
     split at h
     · rename_i K El hm
       split at h
       · rename_i n v i m kk hK' hEl hx hy
         split at h
         · rename_i n' v' es ho
           split at h
           · rename_i hc
             obtain⟨h1,h2,h3⟩:=hc
             subst h1;subst h2;subst h3
             split at h
             · rename_i u hu
               have hi:=getD_mp ho
               have hxv:=I.ev (E:=X.E) x
               rw[hx] at hxv
               have hyv:=I.ev (E:=X.E) y
               rw[hy] at hyv
               obtain⟨hk1,hk2⟩:=kvA_okV hyv
               have huv:=asT_ok hu (I.ev (E:=X.E) z)
               obtain⟨g,es',clock,e1,hf,hh,hl,hok⟩:=I.ob i _ hi
               have hes:EsOk _ (fun y u=>Ty.okV w (Ro R0 w0.heap.size A st.ob w) _ y u) es es'.toList:=⟨by simpa using hl,fun j x e h1 h2=>hok j x e h1 (by simpa using h2)⟩
               obtain⟨es2,c2,hes2,hrun⟩:=store_run (hX.E.mp _ _ _ hm) (hX.E.ty _ _ hK') hh hes hk2 huv
               have hg:g<w.heap.size:=(Array.getElem?_eq_some_iff.1 hh).1
               have hI:=I.mod (i:=i) (.mp _ _ (mpPut es kk u)) hi rfl (w':={ w with heap:=w.heap.setIfInBounds g (.map es2 c2) }) ⟨rfl,rfl,rfl,by simp,fun _=>Nat.le_refl _⟩
                 (fun b hb hnf=>by
                   show (w.heap.setIfInBounds g _)[b]?=_
                   rw[Array.getElem?_setIfInBounds_ne (fun e=>hnf (by rw[← e];exact hf))])
                 (fun hro=>⟨g,es2,c2,e1,hf,by show (w.heap.setIfInBounds g _)[g]?=_;rw[Array.getElem?_setIfInBounds_self_of_lt hg],by simpa using hes2.1,fun j x e h1 h2=>by
                   obtain⟨m1,m2,m3⟩:=hes2.2 j x e h1 (by simpa using h2)
                   exact⟨m1,m2,okV_mono (fun b hb=>(hro b hb).1) (fun b hb=>(hro b hb).2) m3⟩⟩)
               have hxe:a.eval x = .map (some g):=hxv.2.trans e1
               exact wp_skp (w':={ w with heap:=w.heap.setIfInBounds g (.map es2 c2) }) (by simp[execOp,hxe,hk1,hrun]) (hK _ _ _ _ h (hI.anyw _ _))
             · exact h.elim
           · exact h.elim
         · exact h.elim
       · exact h.elim
     · exact h.elim
   · rename_i T l c
     split at h
     · rename_i n m hn hm
       obtain⟨kl,e1,_⟩:=asI_ok hn (I.ev l)
       obtain⟨kc,e2,_⟩:=asI_ok hm (I.ev c)
       split at h
       · obtain⟨s,v',w',hk,h1,h2,h3,hr⟩:=mkv_ok (kl:=kl) (kc:=kc) hX.E I h
         exact wp_val (w':=w') (by simp[execOp,e1,e2,hr]) (hK _ _ _ _ hk ((I.ext h1 h2).put h3))
       · obtain⟨A',st',v,w',hk,I',hr⟩:=mkS_ok (kl:=kl) (kc:=kc) hX.E I h
         exact wp_val (w':=w') (by simp[execOp,e1,e2,hr]) (hK _ _ _ _ hk I')
     · exact h.elim
   · rename_i T len parts
     split at h
     · rename_i j hj
       split at h
       · rename_i hlen;subst hlen
         have hl:=ownP_ok hj
         obtain⟨q,hq⟩:∃ q,parts=#[(0,q)]∧st.ev X.E q = .os j:=by
           have hsz:parts.toList.length=1:=by
             have:=congrArg List.length hl
             simpa using this
           match hpl:parts.toList,hsz with
           | [(n,q)],_ =>
             rw[hpl] at hl
             simp only[List.map_cons,List.map_nil,List.cons.injEq,Prod.mk.injEq,and_true] at hl
             obtain⟨rfl,h2⟩:=hl
             exact⟨q,Array.toList_inj.1 (by rw[hpl]),h2⟩
         obtain⟨rfl,hq⟩:=hq
         have hv:=I.ev (E:=X.E) q
         rw[hq] at hv
         obtain⟨A',st',v',w',hk,I',hr⟩:=bslT_ok hX.E I hv h
         refine wp_val (v:=v') (w':=w') ?_ (hK _ _ _ _ hk I')
         rw[show (execOp a.eval ⟨dst,Op.buildSlice T 1 #[(0,q)],type,pos,after,guard⟩)=(do pure (.value (← Instr.buildSlice T 1 ((#[(0,q)]:Array (Nat×Operand)).map fun (i,x)=>(i,a.eval x))))) from rfl]
         have hm:((#[(0,q)]:Array (Nat×Operand)).map fun (x:Nat×Operand)=>(x.1,a.eval x.2))=#[(0,a.eval q)]:=by apply Array.toList_inj.1;simp
         rw[hm]
         simp[hr]
       · exact h.elim
     split at h
     · rename_i h0
       obtain⟨rfl,hp0⟩:=h0
       have hp0:=Array.eq_empty_of_size_eq_zero hp0
       subst hp0
       obtain⟨A',st',v',w',hk,I',hr⟩:=bsl0_ok hX.E I h
       refine wp_val (v:=v') (w':=w') ?_ (hK _ _ _ _ hk I')
       rw[show (execOp a.eval ⟨dst,Op.buildSlice T 0 #[],type,pos,after,guard⟩)=(do pure (.value (← Instr.buildSlice T 0 ((#[]:Array (Nat×Operand)).map fun (i,x)=>(i,a.eval x))))) from rfl,Array.map_empty]
       simp[hr]
     obtain⟨st',v',w',hk,I',hr⟩:=bsl_ok (vals:=parts.toList.map fun p=>(p.1,a.eval p.2)) hX.E I (by simp) (fun j p v h1 h2=>by
       rw[List.getElem?_map] at h1 h2
       obtain⟨q,hq1,rfl⟩:=Option.map_eq_some_iff.1 h1
       obtain⟨q',hq2,rfl⟩:=Option.map_eq_some_iff.1 h2
       rw[hq1] at hq2;injection hq2 with hq2;subst hq2
       exact⟨rfl,I.ev _⟩) h
     have hpa:(parts.map fun (x:Nat×Operand)=>(x.1,a.eval x.2))=(parts.toList.map fun p=>(p.1,a.eval p.2)).toArray:=by
       apply Array.toList_inj.1;simp
     refine wp_val (v:=v') (w':=w') ?_ (hK _ _ _ _ hk I')
     rw[show (execOp a.eval ⟨dst,Op.buildSlice T len parts,type,pos,after,guard⟩)=(do pure (.value (← Instr.buildSlice T len (parts.map fun (i,x)=>(i,a.eval x))))) from rfl,hpa]
     simp[hr]
   · rename_i c
     obtain⟨callee,args,at_⟩:=c
     simp only at h
     split at h
     · rename_i s x T T' ha hT
       split at h
       · rename_i hTT;subst hTT
         have ha':args=#[s,x]:=by apply Array.toList_inj.1;simpa using ha
         have hT':at_=#[T,T]:=by apply Array.toList_inj.1;simpa using hT
         subst ha';subst hT'
         split at h
         · rename_i j hj
           have hxv:=I.ev (E:=X.E) x
           rw[ownX_ok hj] at hxv
           obtain⟨A',st',v',w',hk,I',hr⟩:=apdT_ok (ty:=type) hX.E I (I.ev s) hxv h
           exact wp_val (v:=v') (w':=w') (by simp[execOp,resolve,invoke,builtin,hr]) (hK _ _ _ _ hk I')
         obtain⟨A',st',v',w',hk,I',hr⟩:=apd_ok (ty:=type) hX.E I (I.ev s) (I.ev x) h
         exact wp_val (v:=v') (w':=w') (by simp[execOp,resolve,invoke,builtin,hr]) (hK _ _ _ _ hk I')
       · exact h.elim
     · split at h
       · rename_i f ex hc
         split at h
         · obtain⟨hent,hcal⟩:=calO_ok hX.Γo hBs I h
           obtain⟨vs,hall,hrun⟩:=run_cee (P:=P) I hc hent (args:=args)
           unfold Oper.wp
           rw[hrun]
           refine (hcal hall).mono fun e w' he => ?_
           obtain⟨v,st',A',rfl,hk,I'⟩:=he
           exact hK _ _ _ _ hk I'
         · obtain⟨hent,hcal⟩:=cal_ok hX.Γ hBs I h
           obtain⟨vs,hall,hrun⟩:=run_cee (P:=P) I hc hent (args:=args)
           unfold Oper.wp
           rw[hrun]
           refine (hcal hall).mono fun e w' he => ?_
           obtain⟨v,st',rfl,hk,I'⟩:=he
           exact hK _ _ _ _ hk I'
       · exact h.elim
   · exact h.elim
def xops(X:Cx)(all:List Oper):List Oper→St→(St→Prop)→Prop
 | [],st,k=>k st
 | o::r,st,k=>withG all st o (fun st=>xop X st o fun st'=>xops X all r st' k) (fun st=>xops X all r (st.put o.dst .und) k)
theorem xops_ok[Dn]{P:Program}{X:Cx}(hX:CxOk P X){w0:World}{M:Ms}{R0:Nat→Prop}(hBs:BaseOk X.gl w0 M R0){all:List Oper}{k:St→Prop}{Q:Exit→Act→World→Prop}(hK:∀ A' st' a' w',k st'→Inv w0 M R0 A' st' a' w'→Q .normal a' w') :
   ∀ {l:List Oper} {A:Asg} {st:St} {a:Act} {w:World},Inv w0 M R0 A st a w→xops X all l st k→wpList P all.toArray Q l a w:=by
 intro l
 induction l with
 | nil=>intro A st a w I h;exact hK _ _ _ _ h I
 | cons o r ih =>
   intro A st a w I h
   obtain⟨st1,I1,h1⟩:=withG_ok I h
   unfold wpList
   rcases h1 with ⟨hw,h1⟩ | ⟨hw,h1⟩
   · rw[if_pos hw]
     exact .inl (xop_ok hX hBs I1 h1 fun A' st' a' w' hk I'=>ih I' hk)
   · rw[if_neg (by simp[hw])]
     exact ih (I1.put (s := .und) (v:=undef) rfl) h1
def detB:List (FuncId×Ctr)→FuncId→Bool
 | [],_=>false
 | x::r,f=>if x.1=f then match x.2 with
     | .det _ _ _=>true
     | _=>detB r f
   else detB r f
def softB(X:Cx)(o:Oper):Bool :=
 isQ o.op||match o.op with
   | .buildSlice _ _ _=>true
   | .makeSlice _ _ _=>saB X.E o.dst
   | .call c=>match c.callee with
     | .value (.func f)=>detB X.Γ f
     | .value _=>true
     | .builtin .append=>match o.dst with
       | some d=>X.E.sa.contains d
       | none=>false
     | _=>false
   | _=>false
def softN(X:Cx):List Oper→Nat
 | []=>0
 | o::r=>if softB X o=true then softN X r+1 else 0
def asgN:List Oper→Nat
 | []=>0
 | o::r=>match o.op with
   | .assign _=>0
   | _=>asgN r+1
def headN(X:Cx)(ops:List Oper):Nat :=
 match asgN ops+1==ops.length with
 | true=>min (softN X ops) (asgN ops)
 | false=>softN X ops
def allQ(l:List Oper):Bool:=l.all fun o=>isQ o.op
def pairB(X:Cx)(ops:List Oper):Bool := !mixB ops (headN X ops)&&mix2B ops (headN X ops)
def regP(X:Cx)(ops:List Oper)(st:St)(k:St→Prop):Prop :=
 xqm X ops (headN X ops) 0 (ops.take (headN X ops)) st fun F=>match ops[headN X ops]? with
   | some o=>stoV X.E (F.mask (known ops (headN X ops) (headN X ops))) o fun s1=>floC X ops (headN X ops) (F.wo s1.ob) 0 (ops.take (headN X ops))∧xops X ops (ops.drop (headN X ops+1)) (F.wo s1.ob) k
   | none=>False
def triB(X:Cx)(ops:List Oper):Bool := !mixB ops (headN X ops) && !mix2B ops (headN X ops)&&mix3B ops (headN X ops)
def regT(X:Cx)(ops:List Oper)(st:St)(k:St→Prop):Prop :=
 match ops[headN X ops]? with
 | some o=>match allocO o with
   | some (T,d)=>match X.E.ty T with
     | some t=>xqm X ops (headN X ops) 0 (ops.take (headN X ops)) (st.put (some d) .any) fun F0=>xqm X ops (headN X ops) 0 (ops.take (headN X ops)) ((st.push (.var T t t.z)).put (some d) .any) fun F1 =>
         eqTm F0.tm F1.tm∧xops X ops (ops.drop (headN X ops+1)) (F1.put (some d) (.pv t st.ob.length [])) k
     | none=>False
   | none=>False
 | none=>False
def reg0(X:Cx)(ops:List Oper)(st:St)(k:St→Prop):Prop :=
 match allQ ops with
 | true=>xqs X ops ops st k
 | false=>match pairB X ops with
   | true=>regP X ops st k
   | false=>match triB X ops with
     | true=>regT X ops st k
     | false=>xqm X ops (headN X ops) 0 (ops.take (headN X ops)) st fun st'=>xops X ops (ops.drop (headN X ops)) st' k
def oneAsg(ops:List Oper):Bool:=asgN ops+1==ops.length||asgN ops==ops.length
def regJ0(X:Cx)(ops:List Oper)(st:St)(k:St→Prop):Prop :=
 match allQ ops && !oneAsg ops with
 | true=>xqs X ops ops st k
 | false=>match pairB X ops with
   | true=>regP X ops st k
   | false=>match triB X ops with
     | true=>regT X ops st k
     | false=>xqm X ops (headN X ops) 0 (ops.take (headN X ops)) st (fun _=>True)∧xops X ops (ops.drop (headN X ops)) (xqmJ X ops (headN X ops) 0 (ops.take (headN X ops)) st) k
def regOk0(X:Cx)(ops:List Oper):Bool :=
 match allQ ops with
 | true=>Region.lexB .any ops.toArray&&(!oneAsg ops||mixB ops (headN X ops))
 | false=>mixB ops (headN X ops)||pairB X ops||triB X ops
def hardO(X:Cx)(o:Oper):Bool :=
 match o.op with
 | .store _ _ _=>o.dst.isNone
 | .alloc _=>match o.dst with
   | some d => !X.E.pz.contains d
   | none=>false
 | .call c=>match c.callee with
   | .value (.func f)=>(lookO X.Γo f).isSome
   | .builtin .append=>match o.dst with
     | some d => !X.E.sa.contains d
     | none=>false
   | _=>false
 | _=>false
def asgB(o:Oper):Bool :=
 match o.op with
 | .assign _=>true
 | _=>false
def headH(X:Cx):List Oper→Nat
 | []=>0
 | o::r=>match (softB X o && !asgB o)||hardO X o with
   | true=>headH X r+1
   | false=>0
def hardL(X:Cx):Nat→List Oper→List Nat
 | _,[]=>[]
 | i,o::r=>match softB X o with
   | true=>hardL X (i+1) r
   | false=>i::hardL X (i+1) r
def hardRB(X:Cx)(ops:List Oper):Bool:=mixHB ops (headH X ops) (hardL X 0 (ops.take (headH X ops)))
def regH(X:Cx)(ops:List Oper)(st:St)(k:St→Prop):Prop :=
 xqh X ops (headH X ops) (ancs ops []) (hardL X 0 (ops.take (headH X ops))) [] 0 st fun F=>xops X ops (ops.drop (headH X ops)) F k
def hardO2(X:Cx)(o:Oper):Bool :=
 match hardO X o with
 | true=>true
 | false=>match o.op with
   | .alloc _=>o.dst.isSome
   | .makeSlice _ _ _=>o.dst.isSome
   | _=>false
def headG(X:Cx):List Oper→Nat
 | []=>0
 | o::r=>match (softB X o && !asgB o)||hardO2 X o with
   | true=>headG X r+1
   | false=>0
def hardsG(X:Cx)(ops:List Oper):List Nat:=hardL X 0 (ops.take (headG X ops))
def hardGB(X:Cx)(ops:List Oper):Bool:=mixGB ops (headG X ops) (hardsG X ops)
def regG(X:Cx)(ops:List Oper)(st:St)(k:St→Prop):Prop :=
 xqg X ops (headG X ops) (ancs ops []) ((hardsG X ops).length+1) (hardsG X ops) [] st fun F=>xops X ops (ops.drop (headG X ops)) F k
def regHG(X:Cx)(ops:List Oper)(st:St)(k:St→Prop):Prop :=
 match hardRB X ops with
 | true=>regH X ops st k
 | false=>regG X ops st k
def pickH(X:Cx)(out:List Nat)(soft:Bool):Nat→List Oper→Option Nat
 | _,[]=>none
 | i,o::r=>match !out.contains i&&((softB X o && !asgB o)==soft)&&(edgesOf o).all out.contains with
   | true=>some i
   | false=>pickH X out soft (i+1) r
def orderS(X:Cx)(ops:List Oper):Nat→List Nat→List Nat
 | 0,out=>out
 | f+1,out=>match pickH X out true 0 ops with
   | some i=>orderS X ops f (out++[i])
   | none=>match pickH X out false 0 ops with
     | some i=>orderS X ops f (out++[i])
     | none=>out
def nrmH(X:Cx)(ops:List Oper):List Oper :=
 match pmB (orderS X ops ops.length []) ops with
 | true=>pmL (orderS X ops ops.length []) ops
 | false=>ops
def nrm(X:Cx)(ops:List Oper):List Oper :=
 match regOk0 X ops with
 | true=>ops
 | false=>match regOk0 X (nrmL ops) with
   | true=>nrmL ops
   | false=>nrmH X (nrmL ops)
def reg1(X:Cx)(ops:List Oper)(st:St)(k:St→Prop):Prop :=
 match regOk0 X ops with
 | true=>reg0 X ops st k
 | false=>regHG X ops st k
def regJ1(X:Cx)(ops:List Oper)(st:St)(k:St→Prop):Prop :=
 match regOk0 X ops with
 | true=>regJ0 X ops st k
 | false=>regHG X ops st k
def reg(X:Cx)(ops:List Oper)(draw:Bool)(st:St)(k:St→Prop):Prop :=
 match draw with
 | false=>xops X ops ops st k
 | true=>reg1 X (nrm X ops) st k
def regJ(X:Cx)(ops:List Oper)(draw:Bool)(st:St)(k:St→Prop):Prop :=
 match draw with
 | false=>xops X ops ops st k
 | true=>regJ1 X (nrm X ops) st k
def regOk(X:Cx)(ops:Array Oper)(draw:Bool):Bool :=
 match draw with
 | false=>true
 | true=>regOk0 X (nrm X ops.toList)||(hardRB X (nrm X ops.toList)||hardGB X (nrm X ops.toList))
theorem regP_ok[Dn]{P:Program}{X:Cx}(hX:CxOk P X){w0:World}{M:Ms}{R0:Nat→Prop}(hBs:BaseOk X.gl w0 M R0){A:Asg}{st:St}{a:Act}{w:World}(I:Inv w0 M R0 A st a w){ops:List Oper}(hB:pairB X ops=true){k:St→Prop}(h:regP X ops st k)
   {Q:Exit→Act→World→Prop} (hK:∀ A' st' a' w',k st'→Inv w0 M R0 A' st' a' w'→Q .normal a' w'):AnyW P ops.toArray Q a w:=by
 unfold pairB at hB
 simp only[Bool.and_eq_true] at hB
 unfold regP at h
 have hlt:headN X ops<ops.length:=by
   have h2:=hB.2
   unfold mix2B at h2
   simp only[Bool.and_eq_true,decide_eq_true_eq] at h2
   exact h2.1.1.1.1.1.1
 have ho:=List.getElem?_eq_getElem hlt
 rw[ho] at h
 have:=mix2_ok (P:=P) hX hB.2 hBs I ho (k:=fun st'=>xops X ops (ops.drop (headN X ops+1)) st' k) h (Q:=Q) (fun A' st' a' w' hk I'=>xops_ok (all:=ops) hX hBs hK I' hk)
 exact this
theorem regT_ok[Dn]{P:Program}{X:Cx}(hX:CxOk P X){w0:World}{M:Ms}{R0:Nat→Prop}(hBs:BaseOk X.gl w0 M R0){A:Asg}{st:St}{a:Act}{w:World}(I:Inv w0 M R0 A st a w){ops:List Oper}(hB:triB X ops=true){k:St→Prop}(h:regT X ops st k)
   {Q:Exit→Act→World→Prop} (hK:∀ A' st' a' w',k st'→Inv w0 M R0 A' st' a' w'→Q .normal a' w'):AnyW P ops.toArray Q a w:=by
 unfold triB at hB
 simp only[Bool.and_eq_true] at hB
 unfold regT at h
 split at h
 · rename_i o ho
   split at h
   · rename_i T d hal
     split at h
     · rename_i t ht
       have:=mix3_ok (P:=P) hX hB.2 hBs I ho hal ht (k:=fun st'=>xops X ops (ops.drop (headN X ops+1)) st' k) h (Q:=Q) (fun A' st' a' w' hk I'=>xops_ok (all:=ops) hX hBs hK I' hk)
       exact this
     · exact h.elim
   · exact h.elim
 · exact h.elim
theorem reg0_ok[Dn]{P:Program}{X:Cx}(hX:CxOk P X){w0:World}{M:Ms}{R0:Nat→Prop}(hBs:BaseOk X.gl w0 M R0){A:Asg}{st:St}{a:Act}{w:World}(I:Inv w0 M R0 A st a w){ops:List Oper}(hB:regOk0 X ops=true){k:St→Prop}(h:reg0 X ops st k)
   {Q:Exit→Act→World→Prop} (hK:∀ A' st' a' w',k st'→Inv w0 M R0 A' st' a' w'→Q .normal a' w'):AnyW P ops.toArray Q a w:=by
 unfold reg0 at h
 unfold regOk0 at hB
 split at h
 · rename_i ha
   rw[ha] at hB
   simp only[Bool.and_eq_true] at hB
   have hB:=hB.1
   have I':=I.ext (Cls.drawn w).1 (Cls.drawn w).2
   refine AnyW.quiet (C:=Cls { w with drawn:=w.drawn+1 }) hB (Cls.refl _) ?_
   have h1:=xqs_ok (all:=ops) hX hBs I' h
   have hmono:∀ {l:List Oper} {a:Act} {R R':Act→Prop},(∀ a,R a→R' a)→wpQuiet P ops.toArray (Cls { w with drawn:=w.drawn+1 }) R l a→wpQuiet P ops.toArray (Cls { w with drawn:=w.drawn+1 }) R' l a:=by
     intro l
     induction l with
     | nil=>intro a R R' hr h;exact hr _ h
     | cons o r ih =>
       intro a R R' hr h
       unfold wpQuiet at h ⊢
       split
       · rename_i hw
         rw[if_pos hw] at h
         exact Oper.quiet_mono (fun a=>ih hr) h
       · rename_i hw
         rw[if_neg hw] at h
         exact ih hr h
   refine hmono (fun a' ha' => ?_) h1
   obtain⟨st',hk,I2⟩:=ha'
   intro w' hw'
   exact hK _ _ _ _ hk (I2.ext hw'.1 hw'.2)
 · rename_i ha
   rw[ha] at hB
   simp only[Bool.or_eq_true] at hB
   split at h
   · rename_i hp
     exact regP_ok hX hBs I hp h hK
   rename_i hp
   split at h
   · rename_i ht
     exact regT_ok hX hBs I ht h hK
   rename_i ht
   have hB:mixB ops (headN X ops)=true:=by
     rcases hB with (h | h) | h
     · exact h
     · rw[hp] at h;cases h
     · rw[ht] at h;cases h
   exact mix_ok (P:=P) hX hB hBs I h (Q:=Q) (fun st' a' w' hk I'=>xops_ok (all:=ops) hX hBs hK I' hk)
theorem regJ0_ok[Dn]{P:Program}{X:Cx}(hX:CxOk P X){w0:World}{M:Ms}{R0:Nat→Prop}(hBs:BaseOk X.gl w0 M R0){A:Asg}{st:St}{a:Act}{w:World}(I:Inv w0 M R0 A st a w){ops:List Oper}(hB:regOk0 X ops=true){k:St→Prop}(h:regJ0 X ops st k)
   {Q:Exit→Act→World→Prop} (hK:∀ A' st' a' w',k st'→Inv w0 M R0 A' st' a' w'→Q .normal a' w'):AnyW P ops.toArray Q a w:=by
 unfold regJ0 at h
 split at h
 · rename_i e
   simp only[Bool.and_eq_true] at e
   refine reg0_ok hX hBs I hB ?_ hK
   unfold reg0
   simp only[e.1]
   exact h
 · rename_i e
   split at h
   · rename_i hp
     exact regP_ok hX hBs I hp h hK
   rename_i hp
   split at h
   · rename_i ht
     exact regT_ok hX hBs I ht h hK
   rename_i ht
   have hm:mixB ops (headN X ops)=true:=by
     unfold regOk0 at hB
     rw[hp,ht,Bool.or_false,Bool.or_false] at hB
     split at hB
     · rename_i ha
       rw[ha] at e
       simp only[Bool.true_and,Bool.not_eq_false'] at e
       rw[e] at hB
       simpa using (Bool.and_eq_true _ _▸hB).2
     · exact hB
   exact mixJ_ok (P:=P) hX hm hBs I h.1 h.2 (Q:=Q) (fun st' a' w' hk I'=>xops_ok (all:=ops) hX hBs hK I' hk)
theorem regH_ok[Dn]{P:Program}{X:Cx}(hX:CxOk P X){w0:World}{M:Ms}{R0:Nat→Prop}(hBs:BaseOk X.gl w0 M R0){A:Asg}{st:St}{a:Act}{w:World}(I:Inv w0 M R0 A st a w){ops:List Oper}(hB:hardRB X ops=true){k:St→Prop}(h:regH X ops st k)
   {Q:Exit→Act→World→Prop} (hK:∀ A' st' a' w',k st'→Inv w0 M R0 A' st' a' w'→Q .normal a' w'):AnyW P ops.toArray Q a w :=
 mixH_ok (P:=P) hX hB hBs I h (Q:=Q) (fun _ _ _ _ hk I'=>xops_ok (all:=ops) hX hBs hK I' hk)
theorem regHG_ok[Dn]{P:Program}{X:Cx}(hX:CxOk P X){w0:World}{M:Ms}{R0:Nat→Prop}(hBs:BaseOk X.gl w0 M R0){A:Asg}{st:St}{a:Act}{w:World}(I:Inv w0 M R0 A st a w){ops:List Oper}(hB:(hardRB X ops||hardGB X ops)=true){k:St→Prop}(h:regHG X ops st k)
   {Q:Exit→Act→World→Prop} (hK:∀ A' st' a' w',k st'→Inv w0 M R0 A' st' a' w'→Q .normal a' w'):AnyW P ops.toArray Q a w:=by
 unfold regHG at h
 split at h
 · rename_i h0
   exact regH_ok hX hBs I h0 h hK
 · rename_i h0
   rw[h0,Bool.false_or] at hB
   exact mixG_ok (P:=P) hX hB hBs I h (Q:=Q) (fun _ _ _ _ hk I'=>xops_ok (all:=ops) hX hBs hK I' hk)
theorem reg1_ok[Dn]{P:Program}{X:Cx}(hX:CxOk P X){w0:World}{M:Ms}{R0:Nat→Prop}(hBs:BaseOk X.gl w0 M R0){A:Asg}{st:St}{a:Act}{w:World}(I:Inv w0 M R0 A st a w){ops:List Oper}(hB:(regOk0 X ops||(hardRB X ops||hardGB X ops))=true){k:St→Prop}(h:reg1 X ops st k)
   {Q:Exit→Act→World→Prop} (hK:∀ A' st' a' w',k st'→Inv w0 M R0 A' st' a' w'→Q .normal a' w'):AnyW P ops.toArray Q a w:=by
 unfold reg1 at h
 split at h
 · rename_i h0
   exact reg0_ok hX hBs I h0 h hK
 · rename_i h0
   rw[h0,Bool.false_or] at hB
   exact regHG_ok hX hBs I hB h hK
theorem regJ1_ok[Dn]{P:Program}{X:Cx}(hX:CxOk P X){w0:World}{M:Ms}{R0:Nat→Prop}(hBs:BaseOk X.gl w0 M R0){A:Asg}{st:St}{a:Act}{w:World}(I:Inv w0 M R0 A st a w){ops:List Oper}(hB:(regOk0 X ops||(hardRB X ops||hardGB X ops))=true){k:St→Prop}(h:regJ1 X ops st k)
   {Q:Exit→Act→World→Prop} (hK:∀ A' st' a' w',k st'→Inv w0 M R0 A' st' a' w'→Q .normal a' w'):AnyW P ops.toArray Q a w:=by
 unfold regJ1 at h
 split at h
 · rename_i h0
   exact regJ0_ok hX hBs I h0 h hK
 · rename_i h0
   rw[h0,Bool.false_or] at hB
   exact regHG_ok hX hBs I hB h hK
theorem nrmH_ok[Dn]{P:Program}{X:Cx}{ops:List Oper}{Q:Exit→Act→World→Prop}(hQ:∀ e a w,e≠Exit.normal→¬ Q e a w){a:Act}{w:World}(h:AnyW P (nrmH X ops).toArray Q a w):AnyW P ops.toArray Q a w:=by
 unfold nrmH at h
 split at h
 · rename_i hp
   have pm:=pmB_spec hp
   unfold AnyW at h ⊢
   have hsz:(pmL (orderS X ops ops.length []) ops).toArray.size=ops.toArray.size:=by simp[pmL_len,pm.len]
   rw[hsz] at h
   refine pm_any pm hQ _ _ _ _ _ ⟨by simp,by simp,fun i hi => ?_⟩ h
   rw[getD_replicate_false,getD_replicate_false]
 · exact h
theorem nrm_ok[Dn]{P:Program}{X:Cx}(hm:P.follows .mixedOrders=true){ops:Array Oper}{Q:Exit→Act→World→Prop}{a:Act}{w:World}(h:AnyW P (nrm X ops.toList).toArray (fun e a w=>e = .normal∧Q .normal a w) a w):RegW P ops true Q a w:=by
 have h2:AnyW P ops.toList.toArray (fun e a w=>e = .normal∧Q .normal a w) a w:=by
   unfold nrm at h
   split at h
   · exact h
   · split at h
     · exact nrmL_ok (fun e a w hne h=>hne h.1) h
     · exact nrmL_ok (fun e a w hne h=>hne h.1) (nrmH_ok (fun e a w hne h=>hne h.1) h)
 refine RegW.any hm (wpAny_monoQ (fun e a w h => ?_) h2)
 obtain⟨rfl,h⟩:=h
 exact h
theorem reg_ok[Dn]{P:Program}{X:Cx}(hX:CxOk P X){w0:World}{M:Ms}{R0:Nat→Prop}(hBs:BaseOk X.gl w0 M R0){A:Asg}{st:St}{a:Act}{w:World}(I:Inv w0 M R0 A st a w){ops:Array Oper}{draw:Bool}(hB:regOk X ops draw=true){k:St→Prop}(h:reg X ops.toList draw st k)
   {Q:Exit→Act→World→Prop} (hK:∀ A' st' a' w',k st'→Inv w0 M R0 A' st' a' w'→Q .normal a' w'):RegW P ops draw Q a w:=by
 unfold reg at h
 unfold regOk at hB
 split at h
 · exact RegW.list (xops_ok (all:=ops.toList) hX hBs hK I h)
 · exact nrm_ok (X:=X) hX.m (reg1_ok hX hBs I hB h fun A' st' a' w' hk I'=>⟨rfl,hK A' st' a' w' hk I'⟩)
theorem regJ_ok[Dn]{P:Program}{X:Cx}(hX:CxOk P X){w0:World}{M:Ms}{R0:Nat→Prop}(hBs:BaseOk X.gl w0 M R0){A:Asg}{st:St}{a:Act}{w:World}(I:Inv w0 M R0 A st a w){ops:Array Oper}{draw:Bool}(hB:regOk X ops draw=true){k:St→Prop}(h:regJ X ops.toList draw st k)
   {Q:Exit→Act→World→Prop} (hK:∀ A' st' a' w',k st'→Inv w0 M R0 A' st' a' w'→Q .normal a' w'):RegW P ops draw Q a w:=by
 unfold regJ at h
 unfold regOk at hB
 split at h
 · exact RegW.list (xops_ok (all:=ops.toList) hX hBs hK I h)
 · exact nrm_ok (X:=X) hX.m (regJ1_ok hX hBs I hB h fun A' st' a' w' hk I'=>⟨rfl,hK A' st' a' w' hk I'⟩)
end Go.Vc
