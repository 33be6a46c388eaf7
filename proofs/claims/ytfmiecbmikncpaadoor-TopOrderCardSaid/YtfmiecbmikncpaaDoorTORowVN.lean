import Derived.Test.YtfmiecbmikncpaaDoorTORowVZB
namespace Go.Vc
open Go.RowKit
def Ty.wf:(t:Ty)→t.D→Prop
 | .int k,n=>inK k n
 | .bool,_=>True
 | .str,s=>s.length≤maxLen
 | .err _,_=>True
 | .sl t,xs=>xs.length≤maxLen∧∀ x∈xs,Ty.wf t x
 | .pr a b,x=>Ty.wf a x.1∧Ty.wf b x.2
 | .un,_=>True
 | .ar n t,xs=>xs.length=n∧∀ x∈xs,Ty.wf t x
 | .fn _ t,x=>∀ y,x=some y→Ty.wf t y
 | .ptr t,x=>∀ y,x=some y→Ty.wf t y
 | .raw,_=>True
 | .nm,_=>True
theorem ok_wf{w:World}{ro:Nat→Prop}:∀ {t:Ty} {x:t.D} {cs:List Value},t.ok w ro x cs→t.wf x
 | .int _,_,_,h=>h.2
 | .bool,_,_,_=>trivial
 | .str,_,_,h=>h.2
 | .err _,_,_,_=>trivial
 | .sl t,xs,_,h=>by
   obtain⟨A,c,h,h1,h2,h3⟩:=h
   refine⟨Nat.le_trans h1 h2,fun x hx => ?_⟩
   have hne:xs≠[]:=by rintro rfl;cases hx
   obtain⟨ad,css,e,hs,hro,ho,hc⟩:=h3 hne
   obtain⟨i,hi⟩:=List.getElem?_of_mem hx
   have hl:i<css.length:=by rw[ho.1];exact (List.getElem?_eq_some_iff.1 hi).1
   exact ok_wf (ho.2 i x _ hi (List.getElem?_eq_getElem hl)).2
 | .pr a b,x,_,h=>by
   obtain⟨c1,c2,h,h1,h2⟩:=h
   exact⟨ok_wf h1,ok_wf h2⟩
 | .un,_,_,_=>trivial
 | .ar n t,xs,_,h=>by
   obtain⟨hn,css,h,ho⟩:=h
   refine⟨hn,fun x hx => ?_⟩
   obtain⟨i,hi⟩:=List.getElem?_of_mem hx
   have hl:i<css.length:=by rw[ho.1];exact (List.getElem?_eq_some_iff.1 hi).1
   exact ok_wf (ho.2 i x _ hi (List.getElem?_eq_getElem hl)).2
 | .fn g t,x,_,h=>by
   intro y hy
   subst hy
   obtain⟨caps,_,h⟩:=h
   exact ok_wf h
 | .ptr t,x,_,h=>by
   intro y hy
   subst hy
   obtain⟨ad,us,_,_,_,_,h⟩:=h
   exact ok_wf h
 | .raw,_,_,_=>trivial
 | .nm,_,_,_=>trivial
def retV(X:Cx)(st:St):List (ResultVar×Ty)→Option (List Dat)
 | []=>some []
 | (.tmp t,ty)::r=>match asV st ty (st.tm.getD t .any) with
   | some (x,_)=>match retV X st r with
     | some l=>some (⟨ty,x⟩::l)
     | none=>none
   | none=>none
 | (.cell p T,ty)::r=>if X.E.ty T=some ty then match st.tm.getD p .any with
   | .pv t0 i []=>match st.ob[i]? with
     | some (.var _ t1 x)=>if t1=t0 then if h:t1=ty then match retV X st r with
       | some l=>some (⟨ty,h▸x⟩::l)
       | none=>none else none else none
     | _=>none
   | .ps i=>match st.ob[i]? with
     | some (.st _ l)=>match packD ty l with
       | some x=>match retV X st r with
         | some l=>some (⟨ty,x⟩::l)
         | none=>none
       | none=>none
     | _=>none
   | _=>none else none
def cellP(st:St):List (ResultVar×Ty)→List Nat
 | []=>[]
 | (.cell p _,_)::r=>match st.tm.getD p .any with
   | .ps i=>match st.ob.getD i .dead with
     | .st _ l=>osL l++cellP st r
     | _=>cellP st r
   | _=>cellP st r
 | _::r=>cellP st r
def fin(X:Cx)(rvs:List (ResultVar×Ty))(k:List Dat→Prop)(st:St):Prop :=
 match cellP st rvs with
 | []=>match retV X st rvs with
   | some rs=>k rs
   | none=>False
 | i::L=>match retV X (st.frz (i::L)) rvs with
   | some rs=>k rs
   | none=>False
def glS(gl:List (Nat×Dat)):List (GK×SV):=gl.map fun x=>(.glob x.1,.ra x.2.t x.2.x)
def start(gl:List (Nat×Dat))(ntmps:Nat)(ds:List Dat):St:=⟨(ds.map fun d=>SV.d d.t d.x)++List.replicate (ntmps - ds.length) .any,[],glS gl⟩
@[irreducible] def vcF(X:Cx)(an:Ann)(c:Code)(ntmps:Nat)(rvs:List (ResultVar×Ty))(ds:List Dat)(k:List Dat→Prop):Prop :=
 xc X an c (start X.gl ntmps ds) ⟨fin X rvs k,fin X rvs k,fun _ _=>False⟩
theorem asV_ret[Dn]{w0:World}{M:Ms}{R0:Nat→Prop}{A:Asg}{st:St}{a:Act}{w:World}(I:Inv w0 M R0 A st a w)(hM:∀ b,¬ M.M b){t:Ty}{s:SV}{v:Value}{x:t.D}{b:Bool}(h:asV st t s=some (x,b))(hs:SvOk w (Ro R0 w0.heap.size A st.ob w) A s v) :
   t.okV w (fun b=>R0 b∨(w0.heap.size≤b∧b<w.heap.size)) x v:=by
 have hro:∀ b,Ro R0 w0.heap.size A st.ob w b→R0 b∨(w0.heap.size≤b∧b<w.heap.size):=fun b hb=>by
   rcases hb.2.1 with h | h
   · exact .inl h
   · exact .inr ⟨h,hb.1⟩
 unfold asV at h
 split at h
 · rename_i y hy
   injection h with h;injection h with h1 h2;subst h1
   exact okV_mono hro (fun _ _=>rfl) (asT_ok hy hs)
 · rename_i hno
   split at h
   · rename_i t'
     split at h
     · rename_i xs hx
       injection h with h;injection h with h1 h2;subst h1
       obtain⟨Ad,c,css,rfl,hc1,hc2,hoks,hcell⟩:=elems_ok I hx hs
       refine⟨Ad,c,rfl,hc1,hc2,fun hne => ?_⟩
       obtain⟨ad,e,hsp,hlt,hc⟩:=hcell hne
       refine⟨ad,css,e,hsp,?_,hoks.mono fun x u hu=>⟨hu.1,ok_mono hro (fun _ _=>rfl) hu.2⟩,hc⟩
       -- whose block it is
       cases s with
       | os i =>
         simp only[elems] at hx
         split at hx
         · rename_i e' t2 ys hob
           obtain⟨_,hv⟩:=hs
           obtain⟨css',_,_,hF⟩:=I.ob i _ hob
           have hf:=hF ad.block (by rw[← hv,e];rfl)
           rcases (I.fp i _ _ hob rfl hf).2 with h | h
           · exact .inr ⟨h,hlt⟩
           · exact absurd h (hM _)
         · cases hx
       | nils=>simp[asT] at hno
       | d t2 ys =>
         simp only[elems] at hx
         split at hx
         · rename_i ht;subst ht;simp[asT] at hno
         · cases hx
       | _=>simp[elems] at hx
     · cases h
   · cases h
theorem retV_ok[Dn]{P:Program}{X:Cx}(hX:CxOk P X){w0:World}{M:Ms}{R0:Nat→Prop}{A:Asg}{st:St}{a:Act}{w:World}(I:Inv w0 M R0 A st a w)(hM:∀ b,¬ M.M b):∀ {rvs:List (ResultVar×Ty)} {rs:List Dat},retV X st rvs=some rs →
   ∃ vs,(List.mapM (fun | .tmp t=>pure (a.tmps.getD t undef) | .cell x t=>do loadVar t (← asAddr (a.tmps.getD x undef)):ResultVar→Sem Value) (rvs.map (·.1))).run P w = .ok vs w ∧
     DOk w (fun b=>R0 b∨(w0.heap.size≤b∧b<w.heap.size)) rs vs:=by
 intro rvs
 induction rvs with
 | nil =>
   intro rs h
   simp only[retV,Option.some.injEq] at h
   subst h
   exact⟨[],rfl,rfl,fun j d v h=>by simp at h⟩
 | cons x r ih =>
   intro rs h
   obtain⟨rv,ty⟩:=x
   have mk:∀ {x:ty.D} {v:Value} {l:List Dat} {vs:List Value},ty.okV w (fun b=>R0 b∨(w0.heap.size≤b∧b<w.heap.size)) x v→DOk w (fun b=>R0 b∨(w0.heap.size≤b∧b<w.heap.size)) l vs →
       DOk w (fun b=>R0 b∨(w0.heap.size≤b∧b<w.heap.size)) (⟨ty,x⟩::l) (v::vs):=by
     intro x v l vs e1 e2
     refine⟨by simp[e2.1],fun j d u h1 h2 => ?_⟩
     cases j with
     | zero=>simp at h1 h2;subst h1;subst h2;exact e1
     | succ j=>exact e2.2 j d u (by simpa using h1) (by simpa using h2)
   cases rv with
   | tmp t =>
     simp only[retV] at h
     split at h
     · rename_i x b hx
       split at h
       · rename_i l hl
         injection h with h;subst h
         obtain⟨vs,hr,hd⟩:=ih hl
         have hok:=asV_ret I hM hx (I.ev (E:=X.E) (.tmp t))
         refine⟨a.tmps.getD t undef::vs,?_,mk hok hd⟩
         rw[List.map_cons,List.mapM_cons]
         simp only[Sem.run_bind,Sem.run_pure,Result.andThen_ok]
         rw[hr];rfl
       · cases h
     · cases h
   | cell p T =>
     simp only[retV] at h
     split at h
     · rename_i hT
       split at h
       · rename_i t0 i hp
         split at h
         · rename_i e t1 x hob
           split at h
           · rename_i ht0;subst ht0
             split at h
             · rename_i ht;subst ht
               split at h
               · rename_i l hl
                 injection h with h;subst h
                 obtain⟨vs,hr,hd⟩:=ih hl
                 have hpv:=I.ev (E:=X.E) (.tmp p)
                 rw[show st.ev X.E (.tmp p)=st.tm.getD p .any from rfl,hp] at hpv
                 obtain⟨_,g,o,t',hη,ho,_,hv⟩:=hpv
                 rw[off_nil] at ho
                 injection ho with ho;injection ho with ho1 ho2;subst ho1;subst ho2
                 obtain⟨g',cs,hη',_,hh,hok⟩:=I.ob i _ hob
                 rw[hη] at hη';injection hη' with hη';injection hη' with hη';injection hη' with hη';subst hη'
                 have hf:=hX.E.ty _ _ hT
                 have hld:=hf.load (P:=P) (w:=w) (ad:=⟨g,0,none⟩) (us:=cs.toList) (ok_len hok) (fun j u hj=>by
                   rw[addr_add,cell_of_row w g _ cs e (0,0) hh];simpa using hj)
                 have hro:∀ b,Ro R0 w0.heap.size A st.ob w b→R0 b∨(w0.heap.size≤b∧b<w.heap.size):=fun b hb=>by
                   rcases hb.2.1 with h | h
                   · exact .inl h
                   · exact .inr ⟨h,hb.1⟩
                 refine⟨t1.mk cs.toList::vs,?_,mk (okV_mk (ok_mono hro (fun _ _=>rfl) hok)) hd⟩
                 have hv':a.tmps.getD p undef = .pointer (some ⟨g,0,none⟩):=hv
                 have hload:(do loadVar T (← asAddr (a.tmps.getD p undef)):Sem Value).run P w = .ok (t1.mk cs.toList) w:=by
                   simp only[hv',asAddr,Sem.run_bind,Sem.run_pure,Result.andThen_ok,hld]
                 rw[List.map_cons,List.mapM_cons,Sem.run_bind]
                 refine Eq.trans (congrArg (fun r=>Result.andThen r _) hload) ?_
                 simp only[Result.andThen_ok,Sem.run_bind,hr,Sem.run_pure]
               · cases h
             · cases h
           · cases h
         · cases h
       · rename_i i hp
         split at h
         · rename_i e pl hob
           split at h
           · rename_i x hx
             split at h
             · rename_i l hl
               injection h with h;subst h
               obtain⟨vs,hr,hd⟩:=ih hl
               have hpv:=I.ev (E:=X.E) (.tmp p)
               rw[show st.ev X.E (.tmp p)=st.tm.getD p .any from rfl,hp] at hpv
               obtain⟨_,hv,g,hη⟩:=hpv
               obtain⟨g',cs,hη',_,hh,hpc⟩:=I.ob i _ hob
               rw[hη] at hη';injection hη' with hη';injection hη' with hη';injection hη' with hη';subst hη'
               have hok:=packD_ok hx hpc
               have hf:=hX.E.ty _ _ hT
               have hld:=hf.load (P:=P) (w:=w) (ad:=⟨g,0,none⟩) (us:=cs.toList) (ok_len hok) (fun j u hj=>by
                 rw[addr_add,cell_of_row w g _ cs e (0,0) hh];simpa using hj)
               have hro:∀ b,Ro R0 w0.heap.size A st.ob w b→R0 b∨(w0.heap.size≤b∧b<w.heap.size):=fun b hb=>by
                 rcases hb.2.1 with h | h
                 · exact .inl h
                 · exact .inr ⟨h,hb.1⟩
               refine⟨ty.mk cs.toList::vs,?_,mk (okV_mk (ok_mono hro (fun _ _=>rfl) hok)) hd⟩
               have hv':a.tmps.getD p undef = .pointer (some ⟨g,0,none⟩):=hv.trans hη
               have hload:(do loadVar T (← asAddr (a.tmps.getD p undef)):Sem Value).run P w = .ok (ty.mk cs.toList) w:=by
                 simp only[hv',asAddr,Sem.run_bind,Sem.run_pure,Result.andThen_ok,hld]
               rw[List.map_cons,List.mapM_cons,Sem.run_bind]
               refine Eq.trans (congrArg (fun r=>Result.andThen r _) hload) ?_
               simp only[Result.andThen_ok,Sem.run_bind,hr,Sem.run_pure]
             · cases h
           · cases h
         · cases h
       · cases h
     · cases h
theorem run_results{P:Program}{fn:Func}{rvs:List (ResultVar×Ty)}(hfr:fn.results.toList=rvs.map (·.1)){tmps:Array Value}{w:World}{vs:List Value}
   (hr:(List.mapM (fun | .tmp t=>pure (tmps.getD t undef) | .cell x t=>do loadVar t (← asAddr (tmps.getD x undef)):ResultVar→Sem Value) (rvs.map (·.1))).run P w = .ok vs w) :
   (results fn tmps).run P w = .ok (if h:vs.toArray.size=1 then vs.toArray[0] else .tuple vs.toArray) w:=by
 rw[← hfr] at hr
 have hm:(fn.results.mapM (fun | .tmp t=>pure (tmps.getD t undef) | .cell x t=>do loadVar t (← asAddr (tmps.getD x undef)):ResultVar→Sem Value)).run P w = .ok vs.toArray w:=by
   rw[Array.mapM_eq_mapM_toList,Sem.run_map,hr];rfl
 unfold results
 rw[Sem.run_bind]
 exact Eq.trans (congrArg (fun r=>Result.andThen r _) hm) rfl
theorem results_ok[Dn]{P:Program}{X:Cx}(hX:CxOk P X){w0:World}{M:Ms}{R0:Nat→Prop}{A:Asg}{st:St}{a:Act}{w:World}(I:Inv w0 M R0 A st a w)(hM:∀ b,¬ M.M b){fn:Func}{rvs:List (ResultVar×Ty)}{rs:List Dat}(hfr:fn.results.toList=rvs.map (·.1))(h:retV X st rvs=some rs) :
   ∃ v,(results fn a.tmps).run P w = .ok v w∧RetOk w (fun b=>R0 b∨(w0.heap.size≤b∧b<w.heap.size)) rs v:=by
 obtain⟨vs,hr,hl,hd⟩:=retV_ok hX I hM h
 refine⟨_,run_results hfr hr,?_⟩
 unfold RetOk
 split
 · rename_i r
   match vs,hl with
   | [v],_=>exact hd 0 r v rfl rfl
 · rename_i hno
   have hne:¬ vs.toArray.size=1:=by
     intro h1
     have:rs.length=1:=by rw[← hl];simpa using h1
     match rs,this with
     | [r],_=>exact hno r rfl
   rw[dif_neg hne]
   exact⟨vs.toArray,rfl,by simpa using hl,fun j d v h1 h2=>hd j d v h1 (by simpa using h2)⟩
theorem leave_ok[Dn]{P:Program}{F:Fence}{n:Nat}{fn:Func}{R:Ending→World→Prop}{w0:World}{M:Ms}{R0:Nat→Prop}{st:St}{tmps:Array Value} :
   ∀ {ds:List Deferred} {A:Asg} {w:World},Inv w0 M R0 A st ⟨tmps,ds⟩ w→(∀ A' w',Inv w0 M R0 A' st ⟨tmps,[]⟩ w'→∃ v,(results fn tmps).run P w' = .ok v w'∧R (.returned v) w')→LeavesInM F n P fn tmps R ds .returning w
 | [],A,w,I,h=>h A w I
 | d::ds,A,w,I,h=>by
   obtain⟨hnd,hds⟩:=I.mu.defers
   obtain⟨_,D,hD,rfl⟩:=hds d (List.mem_cons_self ..)
   obtain⟨h1,h2,h3⟩:=I.mu.mks D hD
   have hnot:=(List.nodup_cons.1 hnd).1
   refine⟨(by intro h;cases h),.inl ⟨D,_,rfl,run_takeDeferred h2,?_⟩⟩
   have I1:Inv w0 M R0 { A with μ:=fun D=>({ target := .collected D,args:=#[] }:Deferred)∈ds } st ⟨tmps,ds⟩ w:=by
     refine⟨I.fr,⟨(List.nodup_cons.1 hnd).2,fun x hx => ?_⟩,fun D' hD'=>I.mu.mks D' (List.mem_cons_of_mem _ hD'),I.num,I.len,fun k sv hk=>(I.gh k sv hk).mu,fun j sv hj=>(I.tm j sv hj).mu,fun i o ho=>(I.ob i o ho).mu,I.dj,I.fp⟩
     obtain⟨k1,D',_,k3⟩:=I.defers.2 x (List.mem_cons_of_mem _ hx)
     exact⟨k1,D',by rw[k3] at hx;exact hx,k3⟩
   exact leave_ok (I1.turn (grownBy_putObj' w D (.deferred none)) (fun _=>Nat.le_refl _) (fun r e=>by cases e;exact⟨h1,hnot,_,h2,rfl⟩) (fun i o b ho hm hf e=>by injection e with e;subst e;exact h3 i o ho (by cases o<;>first | rfl | cases hm) hf)) h
theorem Inv.begin[Dn]{w:World}{R0:Nat→Prop}{gl:List (Nat×Dat)}(hR0:∀ b,R0 b→b<w.heap.size)(hG:GlOk gl w R0){ntmps:Nat}{ds:List Dat}{vals:List Value}(hD:DOk w R0 ds vals)(γ:Nat→Nat→Value) :
   Inv w ⟨fun _=>False,γ,false⟩ R0 ⟨0,fun _=>undef,fun _ _=>False,fun _ _=>undef,fun _=>False⟩ (start gl ntmps ds) ⟨vals.toArray++Array.replicate (ntmps - vals.toArray.size) undef,[]⟩ w:=by
 refine⟨Fr.refl _ _,⟨List.nodup_nil,fun d hd=>(by cases hd)⟩,fun D hD=>hD.elim,rfl,?_,fun k sv hk => ?_,fun j sv hj => ?_,fun i o ho=>by simp[start] at ho,fun i j o o' b ho=>by simp[start] at ho,fun i o b ho=>by simp[start] at ho⟩
 · simp[start,hD.1]
 · simp only[start,glS,List.mem_map] at hk
   obtain⟨⟨g,d⟩,hx,he⟩:=hk
   injection he with he1 he2;subst he1;subst he2
   obtain⟨h1,us,h2,h3⟩:=hG g d hx
   have hro:∀ b,R0 b→Ro R0 w.heap.size ⟨0,fun _=>undef,fun _ _=>False,fun _ _=>undef,fun _=>False⟩ [] w b:=fun b hb=>⟨hR0 b hb,.inl hb,fun i o ho=>by simp at ho⟩
   refine⟨⟨g,0,none⟩,us,rfl,rfl,hro g h1,fun j u hj=>by rw[addr_add];simpa using h2 j u hj,ok_mono hro (fun _ _=>rfl) h3⟩
 · simp only[start] at hj
   by_cases hlt:j<ds.length
   · rw[List.getElem?_append_left (by simpa using hlt),List.getElem?_map] at hj
     obtain⟨d,hd,rfl⟩:=Option.map_eq_some_iff.1 hj
     have hl:j<vals.length:=by rw[hD.1];exact hlt
     have hv:=hD.2 j d _ hd (List.getElem?_eq_getElem hl)
     have hg:(vals.toArray++Array.replicate (ntmps - vals.toArray.size) undef).getD j undef=vals[j]:=by
       rw[Array.getD_eq_getD_getElem?,Array.getElem?_append_left (by simpa using hl)]
       simp[hl]
     rw[hg]
     exact okV_mono (fun b hb=>⟨hR0 b hb,.inl hb,fun i o ho=>by simp[start] at ho⟩) (fun _ _=>rfl) hv
   · rw[List.getElem?_append_right (by simpa using hlt),List.getElem?_replicate] at hj
     split at hj
     · injection hj with hj;subst hj;trivial
     · cases hj
theorem plain_of[Dn]{P:Program}{X:Cx}(hX:CxOk P X){f:FuncId}{fn:Func}{c:Code}{ct:Ctr}{rvs:List (ResultVar×Ty)}(hf:P.funcs[f]?=some fn)(hb:fn.body=some c)(hc:codeOk X c=true)(hr:fn.results.toList=rvs.map (·.1))
   (h:∀ ds k,ct.sem ds k→(∀ d∈ds,d.t.wf d.x)→∃ an,vcF X an c fn.ntmps rvs ds k):PlainOk P X.gl f ct:=by
 intro ds k hs w R0 vals hR0 hG hD
 have hwf:∀ d∈ds,d.t.wf d.x:=by
   intro d hd
   obtain⟨i,hi⟩:=List.getElem?_of_mem hd
   have hl:i<vals.length:=by rw[hD.1];exact (List.getElem?_eq_some_iff.1 hi).1
   exact ok_wf (okV_cells (hD.2 i d _ hi (List.getElem?_eq_getElem hl)))
 obtain⟨an,hvc⟩:=h ds k hs hwf
 unfold vcF at hvc
 have I:=Inv.begin (ntmps:=fn.ntmps) hR0 hG hD (fun _ _=>undef)
 have hB:BaseOk X.gl w ⟨fun _=>False,fun _ _=>undef,false⟩ R0:=⟨hG.mono (fun b hb=>⟨hb,fun h=>h⟩) (fun _ _=>rfl),hR0,fun b h=>h.elim⟩
 have hend:∀ A' st' a' w',fin X rvs k st'→Inv w ⟨fun _=>False,fun _ _=>undef,false⟩ R0 A' st' a' w'→LeavesInM (FW none) 0 P fn a'.tmps
     (fun e w'=>Fr (fun _=>False) w w'∧∃ rs v,e = .returned v∧k rs∧RetOk w' (fun b=>R0 b∨(w.heap.size≤b∧b<w'.heap.size)) rs v) a'.defers .returning w':=by
   intro A' st' a' w' hk I'
   obtain⟨st'',I'',rs,hrs,hk⟩:∃ st'',Inv w ⟨fun _=>False,fun _ _=>undef,false⟩ R0 A' st'' a' w'∧∃ rs,retV X st'' rvs=some rs∧k rs:=by
     unfold fin at hk
     split at hk
     · split at hk
       · rename_i rs hrs;exact⟨_,I',rs,hrs,hk⟩
       · exact hk.elim
     · split at hk
       · rename_i rs hrs;exact⟨_,I'.frz _ hB.me,rs,hrs,hk⟩
       · exact hk.elim
   refine leave_ok (tmps:=a'.tmps) (ds:=a'.defers) I'' fun A2 w2 I2 => ?_
   obtain⟨v,hv,hret⟩:=results_ok hX I2 (fun _ h=>h) hr hrs
   exact⟨v,hv,I2.fr,rs,v,rfl,hk,hret⟩
 refine callsIn_wide.1 (callsIn_of_wp_marks (F:=FW none) (n:=0) hf hb trivial (xc_ok (r:=none) hX hc hB (fun _=>rfl) (fun l h=>by cases h) I hvc ?_ ?_ ?_ ?_) rfl)
 · rintro a w ⟨_,_,_,h,_⟩;cases h
 · exact hend
 · exact hend
 · intro i A' st' a' w' hk
   exact hk.elim
def retS(X:Cx)(st:St):List (ResultVar×Ty)→Option (List SV)
 | []=>some []
 | (.tmp t,ty)::r=>match asT ty (st.tm.getD t .any) with
   | some x=>match retS X st r with
     | some l=>some (.d ty x::l)
     | none=>none
   | none=>match st.tm.getD t .any,retS X st r with
     | .ps i,some l=>some (.ps i::l)
     | .nilp,some l=>some (.nilp::l)
     | .nils,some l=>some (.nils::l)
     | .os i,some l=>some (.os i::l)
     | _,_=>none
 | (.cell p T,ty)::r=>if X.E.ty T=some ty then match st.tm.getD p .any with
   | .pv t0 i []=>match st.ob[i]? with
     | some (.var _ t1 x)=>if t1=t0 then if h:t1=ty then match retS X st r with
       | some l=>some (.d ty (h▸x)::l)
       | none=>none else none else none
     | _=>none
   | _=>none else none
def one1:List SV→SV
 | [s]=>s
 | l => .tp l
def tmpsOf:List (ResultVar×Ty)→List Nat
 | []=>[]
 | (.tmp t,ty)::r=>if ty = .un then tmpsOf r else t::tmpsOf r
 | (.cell _ _,_)::r=>tmpsOf r
def hdsG:List (GK×SV)→List SV→List Nat
 | x::r,s::q=>match s with
   | .ps _=>x.2.hd++hdsG r q
   | .os _=>x.2.hd++hdsG r q
   | _=>hdsG r q
 | _,_=>[]
def sameH(args:List SV)(gs:List (GK×SV))(σ:List Nat)(i:Nat):Bool :=
 (List.range args.length).any fun j=>match (args.getD j .any).hd,gs[j]? with
   | [k],some (.slot 0 j',s)=>decide (k=i)&&decide (j'=j)&&(match s.hd with
     | [m]=>decide (σ.getD i 0=m)
     | _=>false)
   | _,_=>false
def finO(X:Cx)(rvs:List (ResultVar×Ty))(args:List SV)(k:SV→List Ob→Prop)(st0:St):Prop :=
 (fun (st:St)=>match retS X st rvs with
 | some l=>(fun (σ:List Nat)=>match nodupB σ&&decide (keptN args≤σ.length)&&(List.range (keptN args)).all (sameH args st.gs σ) with
   | true=>k (mvT (idx σ) (idx σ) (one1 l)) (σ.map fun i=>mvO (idx σ) (idx σ) (st.ob.getD i .dead))
   | false=>False) (reachN st.ob 4 (addN (addN [] (hdsG st.gs args)) (ixs l)))
 | none=>False) (st0.frz (st0.ids (tmpsOf rvs)))
def startO(gl:List (Nat×Dat))(ntmps:Nat)(args:List SV)(ob:List Ob):St:=⟨args++List.replicate (ntmps - args.length) .any,ob,frame 0 0 args++glS gl⟩
@[irreducible] def vcO(X:Cx)(an:Ann)(c:Code)(ntmps:Nat)(rvs:List (ResultVar×Ty))(args:List SV)(ob:List Ob)(k:SV→List Ob→Prop):Prop :=
 xc X an c (startO X.gl ntmps args ob) ⟨finO X rvs args k,finO X rvs args k,fun _ _=>False⟩
end Go.Vc
