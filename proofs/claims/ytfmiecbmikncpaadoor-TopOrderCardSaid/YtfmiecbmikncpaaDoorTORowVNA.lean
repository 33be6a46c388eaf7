import Derived.Test.YtfmiecbmikncpaaDoorTORowVN
namespace Go.Vc
open Go.RowKit
def SV.wf:SV→Prop
 | .d t x=>t.wf x
 | _=>True
def Ob.wf:Ob→Prop
 | .st _ l=>∀ s∈l,s.wf
 | .row _ t xs=>∀ x∈xs,t.wf x
 | .var _ t x=>t.wf x
 | _=>True
theorem sv_wf[Dn]{w:World}{ro:Nat→Prop}{A:Asg}{s:SV}{v:Value}(h:SvOk w ro A s v):s.wf:=by
 cases s with
 | d t x=>exact ok_wf (okV_cells (t:=t) h)
 | _=>trivial
theorem ob_wf[Dn]{w:World}{ro:Nat→Prop}{A:Asg}{i:Nat}{o:Ob}(h:ObOk w ro A i o):o.wf:=by
 cases o with
 | st e l =>
   obtain⟨g,cs,e1,hf,hh,css,k1,k2,k3⟩:=h
   intro s hs
   obtain⟨j,hj⟩:=List.getElem?_of_mem hs
   have hl:j<css.length:=by rw[k2];exact (List.getElem?_eq_some_iff.1 hj).1
   obtain⟨m1,m2,v,m3,m4,m5⟩:=k3 j s _ hj (List.getElem?_eq_getElem hl)
   cases s with
   | d t x=>exact ok_wf (okV_cells (t:=t) m4)
   | _=>trivial
 | row e t xs =>
   obtain⟨css,hok,_,_⟩:=h
   intro x hx
   obtain⟨j,hj⟩:=List.getElem?_of_mem hx
   have hl:j<css.length:=by rw[hok.1];exact (List.getElem?_eq_some_iff.1 hj).1
   exact ok_wf (hok.2 j x _ hj (List.getElem?_eq_getElem hl)).2
 | var e t x =>
   obtain⟨g,cs,e1,hf,hh,hok⟩:=h
   exact ok_wf hok
 | _=>trivial
theorem retS_ok[Dn]{P:Program}{X:Cx}(hX:CxOk P X){w0:World}{M:Ms}{R0:Nat→Prop}{A:Asg}{st:St}{a:Act}{w:World}(I:Inv w0 M R0 A st a w):∀ {rvs:List (ResultVar×Ty)} {l:List SV},retS X st rvs=some l →
   ∃ vs,(List.mapM (fun | .tmp t=>pure (a.tmps.getD t undef) | .cell x t=>do loadVar t (← asAddr (a.tmps.getD x undef)):ResultVar→Sem Value) (rvs.map (·.1))).run P w = .ok vs w ∧
     All2 (fun s v=>SvOk0 w (Ro R0 w0.heap.size A st.ob w) A s v) l vs:=by
 intro rvs
 induction rvs with
 | nil =>
   intro l h
   simp only[retS,Option.some.injEq] at h
   subst h
   exact⟨[],rfl,rfl,fun j s v h=>by simp at h⟩
 | cons x r ih =>
   intro l h
   obtain⟨rv,ty⟩:=x
   have mk:∀ {s:SV} {v:Value} {l:List SV} {vs:List Value},SvOk0 w (Ro R0 w0.heap.size A st.ob w) A s v→All2 (fun s v=>SvOk0 w (Ro R0 w0.heap.size A st.ob w) A s v) l vs →
       All2 (fun s v=>SvOk0 w (Ro R0 w0.heap.size A st.ob w) A s v) (s::l) (v::vs):=by
     intro s v l vs e1 e2
     refine⟨by simp[e2.1],fun j d u h1 h2 => ?_⟩
     cases j with
     | zero=>simp at h1 h2;subst h1;subst h2;exact e1
     | succ j=>exact e2.2 j d u (by simpa using h1) (by simpa using h2)
   cases rv with
   | tmp t =>
     have hev:=I.ev (E:=X.E) (.tmp t)
     have hstep:∀ {vs:List Value},(List.mapM (fun | .tmp t=>pure (a.tmps.getD t undef) | .cell x t=>do loadVar t (← asAddr (a.tmps.getD x undef)):ResultVar→Sem Value) (r.map (·.1))).run P w = .ok vs w →
         (List.mapM (fun | .tmp t=>pure (a.tmps.getD t undef) | .cell x t=>do loadVar t (← asAddr (a.tmps.getD x undef)):ResultVar→Sem Value) (((ResultVar.tmp t,ty)::r).map (·.1))).run P w = .ok (a.tmps.getD t undef::vs) w:=by
       intro vs hr
       rw[List.map_cons,List.mapM_cons]
       simp only[Sem.run_bind,Sem.run_pure,Result.andThen_ok]
       rw[hr];rfl
     simp only[retS] at h
     split at h
     · rename_i x hx
       split at h
       · rename_i l hl
         injection h with h;subst h
         obtain⟨vs,hr,hd⟩:=ih hl
         exact⟨_,hstep hr,mk (asT_ok hx hev) hd⟩
       · cases h
     · split at h
       · rename_i i l h1 h2
         injection h with h;subst h
         obtain⟨vs,hr,hd⟩:=ih h2
         rw[show st.ev X.E (.tmp t)=st.tm.getD t .any from rfl,h1] at hev
         exact⟨_,hstep hr,mk hev hd⟩
       · rename_i l h1 h2
         injection h with h;subst h
         obtain⟨vs,hr,hd⟩:=ih h2
         rw[show st.ev X.E (.tmp t)=st.tm.getD t .any from rfl,h1] at hev
         exact⟨_,hstep hr,mk hev hd⟩
       · rename_i l h1 h2
         injection h with h;subst h
         obtain⟨vs,hr,hd⟩:=ih h2
         rw[show st.ev X.E (.tmp t)=st.tm.getD t .any from rfl,h1] at hev
         exact⟨_,hstep hr,mk hev hd⟩
       · rename_i i l h1 h2
         injection h with h;subst h
         obtain⟨vs,hr,hd⟩:=ih h2
         rw[show st.ev X.E (.tmp t)=st.tm.getD t .any from rfl,h1] at hev
         exact⟨_,hstep hr,mk hev hd⟩
       · cases h
   | cell p T =>
     simp only[retS] at h
     split at h
     · rename_i hT
       split at h
       · rename_i t0 i hp
         split at h
         · rename_i e t1 x hob
           split at h
           · rename_i ht0;subst ht0
             split at h
             · rename_i ht;subst ht
               split at h
               · rename_i l hl
                 injection h with h;subst h
                 obtain⟨vs,hr,hd⟩:=ih hl
                 have hpv:=I.ev (E:=X.E) (.tmp p)
                 rw[show st.ev X.E (.tmp p)=st.tm.getD p .any from rfl,hp] at hpv
                 obtain⟨_,g,o,t',hη,ho,_,hv⟩:=hpv
                 rw[off_nil] at ho
                 injection ho with ho;injection ho with ho1 ho2;subst ho1;subst ho2
                 obtain⟨g',cs,hη',_,hh,hok⟩:=I.ob i _ hob
                 rw[hη] at hη';injection hη' with hη';injection hη' with hη';injection hη' with hη';subst hη'
                 have hf:=hX.E.ty _ _ hT
                 have hld:=hf.load (P:=P) (w:=w) (ad:=⟨g,0,none⟩) (us:=cs.toList) (ok_len hok) (fun j u hj=>by
                   rw[addr_add,cell_of_row w g _ cs e (0,0) hh];simpa using hj)
                 refine⟨t1.mk cs.toList::vs,?_,mk (s := .d t1 x) (okV_mk hok) hd⟩
                 have hv':a.tmps.getD p undef = .pointer (some ⟨g,0,none⟩):=hv
                 have hload:(do loadVar T (← asAddr (a.tmps.getD p undef)):Sem Value).run P w = .ok (t1.mk cs.toList) w:=by
                   simp only[hv',asAddr,Sem.run_bind,Sem.run_pure,Result.andThen_ok,hld]
                 rw[List.map_cons,List.mapM_cons,Sem.run_bind]
                 refine Eq.trans (congrArg (fun r=>Result.andThen r _) hload) ?_
                 simp only[Result.andThen_ok,Sem.run_bind,hr,Sem.run_pure]
               · cases h
             · cases h
           · cases h
         · cases h
       · cases h
     · cases h
theorem sv01{w:World}{ro:Nat→Prop}{A:Asg}{s:SV}{v:Value}(h:SvOk0 w ro A s v):SvOk1 w ro A s v:=by
 cases s with
 | ag l=>exact h.elim
 | _=>exact h
theorem resultsS_ok[Dn]{P:Program}{X:Cx}(hX:CxOk P X){w0:World}{M:Ms}{R0:Nat→Prop}{A:Asg}{st:St}{a:Act}{w:World}(I:Inv w0 M R0 A st a w){fn:Func}{rvs:List (ResultVar×Ty)}{l:List SV}(hfr:fn.results.toList=rvs.map (·.1))(h:retS X st rvs=some l) :
   ∃ v,(results fn a.tmps).run P w = .ok v w∧SvOk w (Ro R0 w0.heap.size A st.ob w) A (one1 l) v:=by
 obtain⟨vs,hr,hl,hd⟩:=retS_ok hX I h
 refine⟨_,run_results hfr hr,?_⟩
 unfold one1
 split
 · rename_i s
   match vs,hl with
   | [v],_=>exact sv_one (hd 0 s v rfl rfl)
 · rename_i hno
   have hne:¬ vs.toArray.size=1:=by
     intro h1
     have:l.length=1:=by rw[← hl];simpa using h1
     match l,this with
     | [r],_=>exact hno r rfl
   rw[dif_neg hne]
   exact⟨vs.toArray,rfl,by simpa using hl,fun j d v h1 h2=>sv01 (hd j d v h1 (by simpa using h2))⟩
theorem Inv.out[Dn]{w0:World}{M M':Ms}{R0:Nat→Prop}{A:Asg}{st:St}{a:Act}{w:World}(I:Inv w0 M R0 A st a w)(hM:M'.M=M.M){σ:List Nat}(hσ:σ.Nodup){s:SV}{v:Value}(hs:SvOk w (Ro R0 w0.heap.size A st.ob w) A s v) :
   Inv w0 M' R0 { A.re σ with μ:=fun _=>False } ⟨[mvT (idx σ) (idx σ) s],σ.map fun i=>mvO (idx σ) (idx σ) (st.ob.getD i .dead),[]⟩ ⟨#[v],[]⟩ w:=by
 have hob:∀ (k:Nat) o,(σ.map fun i=>mvO (idx σ) (idx σ) (st.ob.getD i .dead))[k]?=some o→∃ i,σ[k]?=some i∧σ.getD k 0=i∧o=mvO (idx σ) (idx σ) (st.ob.getD i .dead):=by
   intro k o ho
   simp only[List.getElem?_map] at ho
   obtain⟨i,h1,h2⟩:=Option.map_eq_some_iff.1 ho
   exact⟨i,h1,by rw[List.getD_eq_getElem?_getD,h1];rfl,h2.symm⟩
 have hlv:∀ (i:Nat),(st.ob.getD i .dead).live=true→st.ob[i]?=some (st.ob.getD i .dead):=by
   intro i h
   rw[List.getD_eq_getElem?_getD] at h ⊢
   cases hq:st.ob[i]? with
   | none=>rw[hq] at h;cases h
   | some o=>rfl
 have hm:Mv A { A.re σ with μ:=fun _=>False } (idx σ) (idx σ):=⟨fun i k _ e=>⟨(idx_spec e).1,congrArg A.η (idx_spec e).2⟩,fun i k _ e=>⟨(idx_spec e).1,congrArg A.κ (idx_spec e).2⟩⟩
 have hr:∀ b,Ro R0 w0.heap.size A st.ob w b→Ro R0 w0.heap.size { A.re σ with μ:=fun _=>False } (σ.map fun i=>mvO (idx σ) (idx σ) (st.ob.getD i .dead)) w b∧Kb w w b:=by
   intro b hb
   refine⟨⟨hb.1,hb.2.1,fun k o ho hl hf => ?_⟩,Kb.of_eq rfl⟩
   obtain⟨i,k1,k2,rfl⟩:=hob k o ho
   have hl:=mvO_live hl
   have hf':A.F (σ.getD k 0) b:=hf
   rw[k2] at hf'
   exact hb.2.2 i _ (hlv i hl) hl hf'
 refine⟨by rw[hM];exact I.fr,⟨List.nodup_nil,fun d hd=>(by cases hd)⟩,fun D hD=>hD.elim,by simp[Asg.re],rfl,fun k sv hk=>by simp at hk,fun j sv hj => ?_,fun k o ho => ?_,fun k1 k2 o o' b hi hj hl hl' hb hb' => ?_,fun k o b hi hl hb => ?_⟩
 · match j,hj with
   | 0,hj =>
     simp at hj;subst hj
     exact mvT_ok hm hr hs
   | j+1,hj=>simp at hj
 · obtain⟨i,k1,k2,rfl⟩:=hob k o ho
   cases hd:(st.ob.getD i .dead).live with
   | false =>
     have:st.ob.getD i .dead = .dead:=by
       cases hx:st.ob.getD i .dead<;>first | rfl | (rw[hx] at hd;cases hd)
     rw[this];trivial
   | true =>
     exact (I.ob i _ (hlv i hd)).move hm hr (congrArg A.η k2) (congrArg A.κ k2) (congrArg A.F k2) (fun b _=>Cb.of_eq rfl) (fun _ b _=>rfl)
 · obtain⟨i,a1,a2,rfl⟩:=hob k1 o hi
   obtain⟨j,b1,b2,rfl⟩:=hob k2 o' hj
   have hl:=mvO_live hl
   have hl':=mvO_live hl'
   have hb1:A.F (σ.getD k1 0) b:=hb
   have hb2:A.F (σ.getD k2 0) b:=hb'
   rw[a2] at hb1;rw[b2] at hb2
   have:=I.dj i j _ _ b (hlv i hl) (hlv j hl') hl hl' hb1 hb2
   subst this
   have e1:=List.getElem?_eq_some_iff.1 a1
   have e2:=List.getElem?_eq_some_iff.1 b1
   rcases Nat.lt_trichotomy k1 k2 with hlt | he | hlt
   · exact absurd (e1.2.trans e2.2.symm) (List.pairwise_iff_getElem.1 hσ k1 k2 e1.1 e2.1 hlt)
   · exact he
   · exact absurd (e2.2.trans e1.2.symm) (List.pairwise_iff_getElem.1 hσ k2 k1 e2.1 e1.1 hlt)
 · obtain⟨i,a1,a2,rfl⟩:=hob k o hi
   have hl:=mvO_live hl
   have hb1:A.F (σ.getD k 0) b:=hb
   rw[a2] at hb1
   rw[hM]
   exact I.fp i _ b (hlv i hl) hl hb1
theorem hd_val{w:World}{ro:Nat→Prop}{A:Asg}{s:SV}{v:Value}{i:Nat}(hh:s.hd=[i])(h:SvOk w ro A s v):v=A.η i:=by
 cases s with
 | ps j=>simp[SV.hd] at hh;subst hh;exact h.2.1
 | os j=>simp[SV.hd] at hh;subst hh;exact h.2
 | _=>simp[SV.hd] at hh
theorem own_of[Dn]{P:Program}{X:Cx}(hX:CxOk P X){f:FuncId}{fn:Func}{c:Code}{ct:OCtr}{rvs:List (ResultVar×Ty)}(hf:P.funcs[f]?=some fn)(hb:fn.body=some c)(hc:codeOk X c=true)(hr:fn.results.toList=rvs.map (·.1))
   (h:∀ args ob k,ct args ob k→(∀ s∈args,s.wf)→(∀ o∈ob,o.wf)→∃ an,vcO X an c fn.ntmps rvs args ob k):OwnOk P X.gl f ct:=by
 intro args ob k hs w M R0 A vals hB hrd I
 have hwa:∀ s∈args,s.wf:=by
   intro s hs
   obtain⟨j,hj⟩:=List.getElem?_of_mem hs
   exact sv_wf (I.tm j s hj)
 have hwo:∀ o∈ob,o.wf:=by
   intro o ho
   obtain⟨j,hj⟩:=List.getElem?_of_mem ho
   exact ob_wf (I.ob j o hj)
 obtain⟨an,hvc⟩:=h args ob k hs hwa hwo
 unfold vcO at hvc
 have hl:vals.size=args.length:=I.len
 have I1:=I.hold (by rfl)
 have hM0:M.M=(⟨M.M,γSet M.γ 0 vals,M.rd⟩:Ms).M:=rfl
 have hB':BaseOk X.gl w ⟨M.M,γSet M.γ 0 vals,M.rd⟩ R0:=⟨hB.gl,hB.lt,hB.me⟩
 have hgl:=hB'.now I1
 have I2:Inv w ⟨M.M,γSet M.γ 0 vals,M.rd⟩ R0 A (startO X.gl fn.ntmps args ob) ⟨vals++Array.replicate (fn.ntmps - vals.size) undef,[]⟩ w:=by
   refine⟨I.fr,⟨List.nodup_nil,fun d hd=>(by cases hd)⟩,I.mks,I.num,by simp[startO,hl],fun k sv hk => ?_,fun j sv hj => ?_,I.ob,I.dj,I.fp⟩
   · rcases List.mem_append.1 hk with hk | hk
     · exact I1.gh k sv (List.mem_append_left _ hk)
     · simp only[glS,List.mem_map] at hk
       obtain⟨⟨g,d⟩,hx,he⟩:=hk
       injection he with he1 he2;subst he1;subst he2
       obtain⟨h1,us,h2,h3⟩:=hgl g d hx
       exact⟨⟨g,0,none⟩,us,rfl,rfl,h1,fun j u hj=>by rw[addr_add];simpa using h2 j u hj,h3⟩
   · simp only[startO] at hj
     by_cases hlt:j<args.length
     · rw[List.getElem?_append_left hlt] at hj
       have hg:(vals++Array.replicate (fn.ntmps - vals.size) undef).getD j undef=vals.getD j undef:=by
         rw[Array.getD_eq_getD_getElem?,Array.getElem?_append_left (by omega),← Array.getD_eq_getD_getElem?]
       rw[hg]
       exact I.tm j sv hj
     · rw[List.getElem?_append_right (by omega),List.getElem?_replicate] at hj
       split at hj
       · injection hj with hj;subst hj;trivial
       · cases hj
 have hend:∀ A' st' a' w',finO X rvs args k st'→Inv w ⟨M.M,γSet M.γ 0 vals,M.rd⟩ R0 A' st' a' w'→LeavesInM (FW none) 0 P fn a'.tmps
     (fun e w'=>∃ v s ob' A',e = .returned v∧k s ob'∧Inv w M R0 A' ⟨[s],ob',[]⟩ ⟨#[v],[]⟩ w'∧∀ i,i<keptN args→A'.η i=A.η i) a'.defers .returning w':=by
   intro A' st' a' w' hk I'
   unfold finO at hk
   have If:=I'.frz (st'.ids (tmpsOf rvs)) hB'.me
   simp only at hk
   generalize st'.frz (st'.ids (tmpsOf rvs))=sf at hk If
   split at hk
   · rename_i l hrs
     generalize reachN sf.ob 4 (addN (addN [] (hdsG sf.gs args)) (ixs l))=σ at hk
     split at hk
     · rename_i hchk
       simp only[Bool.and_eq_true,decide_eq_true_eq] at hchk
       obtain⟨⟨k1,k2⟩,k3⟩:=hchk
       refine leave_ok (tmps:=a'.tmps) (ds:=a'.defers) If fun A2 w2 I3 => ?_
       obtain⟨v,hv,hsv⟩:=resultsS_ok hX I3 hr hrs
       refine⟨v,hv,v,_,_,_,rfl,hk,I3.out (M':=M) rfl (nodupB_ok k1) hsv,fun i hi => ?_⟩
       have hsm:=List.all_eq_true.1 k3 i (List.mem_range.2 hi)
       unfold sameH at hsm
       obtain⟨j,hj,hsm⟩:=List.any_eq_true.1 hsm
       have hjl:=List.mem_range.1 hj
       split at hsm
       · rename_i k' j' s h1 h2
         simp only[Bool.and_eq_true,decide_eq_true_eq] at hsm
         obtain⟨⟨rfl,rfl⟩,hsm⟩:=hsm
         split at hsm
         · rename_i m hm
           have hm':=of_decide_eq_true hsm
           have e1:=hd_val hm (I3.gh _ s (List.mem_of_getElem? h2))
           have e2:=hd_val h1 (I.tm j' (args.getD j' .any) (by rw[List.getD_eq_getElem?_getD];rw[List.getElem?_eq_getElem hjl];rfl))
           have e3:gval ⟨M.M,γSet M.γ 0 vals,M.rd⟩ (.slot 0 j')=vals.getD j' undef:=by
             show γSet M.γ 0 vals 0 j'=_
             unfold γSet;rw[if_pos rfl]
           rw[e3] at e1
           show A2.η (σ.getD k' 0)=A.η k'
           rw[hm',← e1]
           exact e2
         · cases hsm
       · cases hsm
     · exact hk.elim
   · exact hk.elim
 refine callsIn_wide.1 (callsIn_of_wp_marks (F:=FW none) (n:=0) hf hb trivial (xc_ok (r:=none) hX hc hB' (fun _=>hrd) (fun l h=>by cases h) I2 hvc ?_ ?_ ?_ ?_) rfl)
 · rintro a w ⟨_,_,_,_,h,_⟩;cases h
 · exact hend
 · exact hend
 · intro i A' st' a' w' hk
   exact hk.elim
end Go.Vc
