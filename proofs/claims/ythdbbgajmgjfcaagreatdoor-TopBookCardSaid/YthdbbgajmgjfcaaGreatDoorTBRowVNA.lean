import Derived.Test.YthdbbgajmgjfcaaGreatDoorTBRowVN
namespace Go.Vc
open Go.RowKit
def SV.wf:SV→Prop
 | .d t x=>t.wf x
 | _=>True
def Ob.wf:Ob→Prop
 | .st _ l=>∀ s∈l,s.wf
 | .row _ t xs=>∀ x∈xs,t.wf x
 | .var _ t x=>t.wf x
 | _=>True
theorem sv_wf[Dn]{w:World}{ro:Nat→Prop}{A:Asg}{s:SV}{v:Value}(h:SvOk w ro A s v):s.wf:=by
 cases s with
 | d t x=>exact ok_wf (okV_cells (t:=t) h)
 | _=>trivial
theorem ob_wf[Dn]{w:World}{ro:Nat→Prop}{A:Asg}{i:Nat}{o:Ob}(h:ObOk w ro A i o):o.wf:=by
 cases o with
 | st e l =>
  obtain⟨g,cs,e1,hf,hh,css,k1,k2,k3⟩:=h
  intro s hs
  obtain⟨j,hj⟩:=List.getElem?_of_mem hs
  have hl:j<css.length:=by rw[k2];exact (List.getElem?_eq_some_iff.1 hj).1
  obtain⟨m1,m2,v,m3,m4,m5⟩:=k3 j s _ hj (List.getElem?_eq_getElem hl)
  cases s with
  | d t x=>exact ok_wf (okV_cells (t:=t) m4)
  | _=>trivial
 | row e t xs =>
  obtain⟨css,hok,_,_⟩:=h
  intro x hx
  obtain⟨j,hj⟩:=List.getElem?_of_mem hx
  have hl:j<css.length:=by rw[hok.1];exact (List.getElem?_eq_some_iff.1 hj).1
  exact ok_wf (hok.2 j x _ hj (List.getElem?_eq_getElem hl)).2
 | var e t x =>
  obtain⟨g,cs,e1,hf,hh,hok⟩:=h
  exact ok_wf hok
 | _=>trivial
theorem pcell_ok[Dn]{w:World}{ro:Nat→Prop}{A:Asg}{i:Nat}{o:Ob}{s:SV}(h:pcell o=some s)(ho:ObOk w ro A i o) :
 ∃ g v e,A.η i = .pointer (some ⟨g,0,none⟩)∧w.heap[g]?=some (.cells #[v] e (0,0))∧SvOk0 w ro A s v:=by
 have one:∀ {s:SV} {cs:Array Value},s.nd=true→s.len=1→Pcs w ro A [s] cs.toList→∃ v,cs=#[v]∧SvOk0 w ro A s v:=by
  intro s cs hn hl hp
  obtain⟨css,hc,hcl,hok⟩:=hp
  have hcl:css.length=1:=hcl
  match css,hcl with
  | [u],_ =>
   obtain⟨_,_,v,hu,hs,h1⟩:=hok 0 s u rfl rfl
   refine⟨v,?_,hs⟩
   apply Array.toList_inj.1
   rw[hc,hu,one_cells (h1 hn)];rfl
 unfold pcell at h
 split at h
 ·rename_i e j
  injection h with h;subst h
  obtain⟨g,cs,e1,_,hh,hp⟩:=ho
  obtain⟨v,rfl,hs⟩:=one rfl rfl hp
  exact⟨g,v,e,e1,hh,hs⟩
 ·rename_i e
  injection h with h;subst h
  obtain⟨g,cs,e1,_,hh,hp⟩:=ho
  obtain⟨v,rfl,hs⟩:=one rfl rfl hp
  exact⟨g,v,e,e1,hh,hs⟩
 ·rename_i e t x
  split at h
  ·rename_i hn
   injection h with h;subst h
   obtain⟨g,cs,e1,_,hh,hok⟩:=ho
   unfold pnil at hn
   split at hn
   ·rename_i t
    have hc:cs.toList=[Value.pointer none]:=hok
    have hc:cs=#[Value.pointer none]:=Array.toList_inj.1 hc
    subst hc
    exact⟨g,_,e,e1,hh,rfl⟩
   ·cases hn
  ·cases h
 ·cases h
theorem retS_ok[Dn]{P:Program}{X:Cx}(hX:CxOk P X){w0:World}{M:Ms}{R0:Nat→Prop}{A:Asg}{st:St}{a:Act}{w:World}(I:Inv w0 M R0 A st a w):∀ {rvs:List (ResultVar×Ty)} {l:List SV},retS X st rvs=some l →
 ∃ vs,(List.mapM (fun | .tmp t=>pure (a.tmps.getD t undef) | .cell x t=>do loadVar t (← asAddr (a.tmps.getD x undef)):ResultVar→Sem Value) (rvs.map (·.1))).run P w = .ok vs w ∧
  All2 (fun s v=>SvOk0 w (Ro R0 w0.heap.size A st.ob w) A s v) l vs:=by
 intro rvs
 induction rvs with
 | nil =>
  intro l h
  simp only[retS,Option.some.injEq] at h
  subst h
  exact⟨[],rfl,rfl,fun j s v h=>by simp at h⟩
 | cons x r ih =>
  intro l h
  obtain⟨rv,ty⟩:=x
  have mk:∀ {s:SV} {v:Value} {l:List SV} {vs:List Value},SvOk0 w (Ro R0 w0.heap.size A st.ob w) A s v→All2 (fun s v=>SvOk0 w (Ro R0 w0.heap.size A st.ob w) A s v) l vs →
   All2 (fun s v=>SvOk0 w (Ro R0 w0.heap.size A st.ob w) A s v) (s::l) (v::vs):=by
   intro s v l vs e1 e2
   refine⟨by simp[e2.1],fun j d u h1 h2 => ?_⟩
   cases j with
   | zero=>simp at h1 h2;subst h1;subst h2;exact e1
   | succ j=>exact e2.2 j d u (by simpa using h1) (by simpa using h2)
  cases rv with
  | tmp t =>
   have hev:=I.ev (E:=X.E) (.tmp t)
   have hstep:∀ {vs:List Value},(List.mapM (fun | .tmp t=>pure (a.tmps.getD t undef) | .cell x t=>do loadVar t (← asAddr (a.tmps.getD x undef)):ResultVar→Sem Value) (r.map (·.1))).run P w = .ok vs w →
    (List.mapM (fun | .tmp t=>pure (a.tmps.getD t undef) | .cell x t=>do loadVar t (← asAddr (a.tmps.getD x undef)):ResultVar→Sem Value) (((ResultVar.tmp t,ty)::r).map (·.1))).run P w = .ok (a.tmps.getD t undef::vs) w:=by
    intro vs hr
    rw[List.map_cons,List.mapM_cons]
    simp only[Sem.run_bind,Sem.run_pure,Result.andThen_ok]
    rw[hr];rfl
   simp only[retS] at h
   split at h
   ·rename_i x hx
    split at h
    ·rename_i l hl
     injection h with h;subst h
     obtain⟨vs,hr,hd⟩:=ih hl
     exact⟨_,hstep hr,mk (asT_ok hx hev) hd⟩
    ·cases h
   ·split at h
    ·rename_i i l h1 h2
     injection h with h;subst h
     obtain⟨vs,hr,hd⟩:=ih h2
     rw[show st.ev X.E (.tmp t)=st.tm.getD t .any from rfl,h1] at hev
     exact⟨_,hstep hr,mk hev hd⟩
    ·rename_i l h1 h2
     injection h with h;subst h
     obtain⟨vs,hr,hd⟩:=ih h2
     rw[show st.ev X.E (.tmp t)=st.tm.getD t .any from rfl,h1] at hev
     exact⟨_,hstep hr,mk hev hd⟩
    ·rename_i l h1 h2
     injection h with h;subst h
     obtain⟨vs,hr,hd⟩:=ih h2
     rw[show st.ev X.E (.tmp t)=st.tm.getD t .any from rfl,h1] at hev
     exact⟨_,hstep hr,mk hev hd⟩
    ·rename_i i l h1 h2
     injection h with h;subst h
     obtain⟨vs,hr,hd⟩:=ih h2
     rw[show st.ev X.E (.tmp t)=st.tm.getD t .any from rfl,h1] at hev
     exact⟨_,hstep hr,mk hev hd⟩
    ·cases h
  | cell p T =>
   simp only[retS] at h
   split at h
   ·split at h
    ·rename_i i hT hp
     split at h
     ·rename_i s l hs hl
      injection h with h;subst h
      obtain⟨vs,hr,hd⟩:=ih hl
      have hpv:=I.ev (E:=X.E) (.tmp p)
      rw[show st.ev X.E (.tmp p)=st.tm.getD p .any from rfl,hp] at hpv
      obtain⟨_,g,o,t',hη,ho,_,hv⟩:=hpv
      rw[off_nil] at ho
      injection ho with ho;injection ho with ho1 ho2;subst ho1
      have hob:∃ o,st.ob[i]?=some o∧pcell o=some s:=by
       rw[List.getD_eq_getElem?_getD] at hs
       cases hx:st.ob[i]? with
       | none=>rw[hx] at hs;cases hs
       | some o=>rw[hx] at hs;exact⟨o,rfl,hs⟩
      obtain⟨ob,ho1,ho2⟩:=hob
      obtain⟨g',v,e,hη',hh,hsv⟩:=pcell_ok ho2 (I.ob i _ ho1)
      rw[hη] at hη';injection hη' with hη';injection hη' with hη';injection hη' with hη';subst hη'
      obtain⟨t1,hT1⟩:∃ t1,X.E.ty T=some (.ptr t1):=by
       unfold ptrT at hT
       split at hT
       ·rename_i t1 h1;exact⟨t1,h1⟩
       ·cases hT
      have hf:=hX.E.ty _ _ hT1
      have hld:=hf.load (P:=P) (w:=w) (ad:=⟨g,0,none⟩) (us:=[v]) rfl (fun j u hj=>by
       rw[addr_add,cell_of_row w g _ #[v] e (0,0) hh]
       match j with
       | 0=>simpa using hj
       | j+1=>simp at hj)
      refine⟨v::vs,?_,mk hsv hd⟩
      have hv':a.tmps.getD p undef = .pointer (some ⟨g,0,none⟩):=hv
      have hload:(do loadVar T (← asAddr (a.tmps.getD p undef)):Sem Value).run P w = .ok v w:=by
       simp only[hv',asAddr,Sem.run_bind,Sem.run_pure,Result.andThen_ok,hld]
       rfl
      rw[List.map_cons,List.mapM_cons,Sem.run_bind]
      refine Eq.trans (congrArg (fun r=>Result.andThen r _) hload) ?_
      simp only[Result.andThen_ok,Sem.run_bind,hr,Sem.run_pure]
     ·cases h
    ·cases h
   split at h
   ·rename_i hT
    split at h
    ·rename_i t0 i hp
     split at h
     ·rename_i e t1 x hob
      split at h
      ·rename_i ht0;subst ht0
       split at h
       ·rename_i ht;subst ht
        split at h
        ·rename_i l hl
         injection h with h;subst h
         obtain⟨vs,hr,hd⟩:=ih hl
         have hpv:=I.ev (E:=X.E) (.tmp p)
         rw[show st.ev X.E (.tmp p)=st.tm.getD p .any from rfl,hp] at hpv
         obtain⟨_,g,o,t',hη,ho,_,hv⟩:=hpv
         rw[off_nil] at ho
         injection ho with ho;injection ho with ho1 ho2;subst ho1;subst ho2
         obtain⟨g',cs,hη',_,hh,hok⟩:=I.ob i _ hob
         rw[hη] at hη';injection hη' with hη';injection hη' with hη';injection hη' with hη';subst hη'
         have hf:=hX.E.ty _ _ hT
         have hld:=hf.load (P:=P) (w:=w) (ad:=⟨g,0,none⟩) (us:=cs.toList) (ok_len hok) (fun j u hj=>by
          rw[addr_add,cell_of_row w g _ cs e (0,0) hh];simpa using hj)
         refine⟨t1.mk cs.toList::vs,?_,mk (s := .d t1 x) (okV_mk hok) hd⟩
         have hv':a.tmps.getD p undef = .pointer (some ⟨g,0,none⟩):=hv
         have hload:(do loadVar T (← asAddr (a.tmps.getD p undef)):Sem Value).run P w = .ok (t1.mk cs.toList) w:=by
          simp only[hv',asAddr,Sem.run_bind,Sem.run_pure,Result.andThen_ok,hld]
         rw[List.map_cons,List.mapM_cons,Sem.run_bind]
         refine Eq.trans (congrArg (fun r=>Result.andThen r _) hload) ?_
         simp only[Result.andThen_ok,Sem.run_bind,hr,Sem.run_pure]
        ·cases h
       ·cases h
      ·cases h
     ·cases h
    ·cases h
   ·cases h
theorem sv01{w:World}{ro:Nat→Prop}{A:Asg}{s:SV}{v:Value}(h:SvOk0 w ro A s v):SvOk1 w ro A s v:=by
 cases s with
 | ag l=>exact h.elim
 | _=>exact h
theorem resultsS_ok[Dn]{P:Program}{X:Cx}(hX:CxOk P X){w0:World}{M:Ms}{R0:Nat→Prop}{A:Asg}{st:St}{a:Act}{w:World}(I:Inv w0 M R0 A st a w){fn:Func}{rvs:List (ResultVar×Ty)}{l:List SV}(hfr:fn.results.toList=rvs.map (·.1))(h:retS X st rvs=some l) :
 ∃ v,(results fn a.tmps).run P w = .ok v w∧SvOk w (Ro R0 w0.heap.size A st.ob w) A (one1 l) v:=by
 obtain⟨vs,hr,hl,hd⟩:=retS_ok hX I h
 refine⟨_,run_results hfr hr,?_⟩
 unfold one1
 split
 ·rename_i s
  match vs,hl with
  | [v],_=>exact sv_one (hd 0 s v rfl rfl)
 ·rename_i hno
  have hne:¬ vs.toArray.size=1:=by
   intro h1
   have:l.length=1:=by rw[← hl];simpa using h1
   match l,this with
   | [r],_=>exact hno r rfl
  rw[dif_neg hne]
  exact⟨vs.toArray,rfl,by simpa using hl,fun j d v h1 h2=>sv01 (hd j d v h1 (by simpa using h2))⟩
theorem Inv.out[Dn]{w0:World}{M M':Ms}{R0:Nat→Prop}{A:Asg}{st:St}{a:Act}{w:World}(I:Inv w0 M R0 A st a w)(hM:M'.M=M.M){σ:List Nat}(hσ:σ.Nodup){s:SV}{v:Value}(hs:SvOk w (Ro R0 w0.heap.size A st.ob w) A s v) :
 Inv w0 M' R0 { A.re σ with μ:=fun _=>False } ⟨[mvT (idx σ) (idx σ) s],σ.map fun i=>mvO (idx σ) (idx σ) (st.ob.getD i .dead),[]⟩ ⟨#[v],[]⟩ w:=by
 have hob:∀ (k:Nat) o,(σ.map fun i=>mvO (idx σ) (idx σ) (st.ob.getD i .dead))[k]?=some o→∃ i,σ[k]?=some i∧σ.getD k 0=i∧o=mvO (idx σ) (idx σ) (st.ob.getD i .dead):=by
  intro k o ho
  simp only[List.getElem?_map] at ho
  obtain⟨i,h1,h2⟩:=Option.map_eq_some_iff.1 ho
  exact⟨i,h1,by rw[List.getD_eq_getElem?_getD,h1];rfl,h2.symm⟩
 have hlv:∀ (i:Nat),(st.ob.getD i .dead).live=true→st.ob[i]?=some (st.ob.getD i .dead):=by
  intro i h
  rw[List.getD_eq_getElem?_getD] at h ⊢
  cases hq:st.ob[i]? with
  | none=>rw[hq] at h;cases h
  | some o=>rfl
 have hm:Mv A { A.re σ with μ:=fun _=>False } (idx σ) (idx σ):=⟨fun i k _ e=>⟨(idx_spec e).1,congrArg A.η (idx_spec e).2⟩,fun i k _ e=>⟨(idx_spec e).1,congrArg A.κ (idx_spec e).2⟩⟩
 have hr:∀ b,Ro R0 w0.heap.size A st.ob w b→Ro R0 w0.heap.size { A.re σ with μ:=fun _=>False } (σ.map fun i=>mvO (idx σ) (idx σ) (st.ob.getD i .dead)) w b∧Kb w w b:=by
  intro b hb
  refine⟨⟨hb.1,hb.2.1,fun k o ho hl hf => ?_⟩,Kb.of_eq rfl⟩
  obtain⟨i,k1,k2,rfl⟩:=hob k o ho
  have hl:=mvO_live hl
  have hf':A.F (σ.getD k 0) b:=hf
  rw[k2] at hf'
  exact hb.2.2 i _ (hlv i hl) hl hf'
 refine⟨by rw[hM];exact I.fr,⟨List.nodup_nil,fun d hd=>(by cases hd)⟩,fun D hD=>hD.elim,by simp[Asg.re],rfl,fun k sv hk=>by simp at hk,fun j sv hj => ?_,fun k o ho => ?_,fun k1 k2 o o' b hi hj hl hl' hb hb' => ?_,fun k o b hi hl hb => ?_⟩
 ·match j,hj with
  | 0,hj =>
   simp at hj;subst hj
   exact mvT_ok hm hr hs
  | j+1,hj=>simp at hj
 ·obtain⟨i,k1,k2,rfl⟩:=hob k o ho
  cases hd:(st.ob.getD i .dead).live with
  | false =>
   have:st.ob.getD i .dead = .dead:=by
    cases hx:st.ob.getD i .dead<;>first | rfl | (rw[hx] at hd;cases hd)
   rw[this];trivial
  | true =>
   exact (I.ob i _ (hlv i hd)).move hm hr (congrArg A.η k2) (congrArg A.κ k2) (congrArg A.F k2) (fun b _=>Cb.of_eq rfl) (fun _ b _=>rfl)
 ·obtain⟨i,a1,a2,rfl⟩:=hob k1 o hi
  obtain⟨j,b1,b2,rfl⟩:=hob k2 o' hj
  have hl:=mvO_live hl
  have hl':=mvO_live hl'
  have hb1:A.F (σ.getD k1 0) b:=hb
  have hb2:A.F (σ.getD k2 0) b:=hb'
  rw[a2] at hb1;rw[b2] at hb2
  have:=I.dj i j _ _ b (hlv i hl) (hlv j hl') hl hl' hb1 hb2
  subst this
  have e1:=List.getElem?_eq_some_iff.1 a1
  have e2:=List.getElem?_eq_some_iff.1 b1
  rcases Nat.lt_trichotomy k1 k2 with hlt | he | hlt
  ·exact absurd (e1.2.trans e2.2.symm) (List.pairwise_iff_getElem.1 hσ k1 k2 e1.1 e2.1 hlt)
  ·exact he
  ·exact absurd (e2.2.trans e1.2.symm) (List.pairwise_iff_getElem.1 hσ k2 k1 e2.1 e1.1 hlt)
 ·obtain⟨i,a1,a2,rfl⟩:=hob k o hi
  have hl:=mvO_live hl
  have hb1:A.F (σ.getD k 0) b:=hb
  rw[a2] at hb1
  rw[hM]
  exact I.fp i _ b (hlv i hl) hl hb1
theorem hd_val{w:World}{ro:Nat→Prop}{A:Asg}{s:SV}{v:Value}{i:Nat}(hh:s.hd=[i])(h:SvOk w ro A s v):(s.pfB=false∧v=A.η i)∨(s.pfB=true∧∃ g o,A.η i = .pointer (some ⟨g,0,none⟩)∧v = .pointer (some ⟨g,o,none⟩)):=by
 cases s with
 | ps j=>simp[SV.hd] at hh;subst hh;exact .inl ⟨rfl,h.2.1⟩
 | os j=>simp[SV.hd] at hh;subst hh;exact .inl ⟨rfl,h.2⟩
 | pf t j o q =>
  simp[SV.hd] at hh;subst hh
  obtain⟨_,g,o',t',e1,_,_,e2⟩:=h
  exact .inr ⟨rfl,g,_,e1,e2⟩
 | _=>simp[SV.hd] at hh
theorem hd_two{w w':World}{ro ro':Nat→Prop}{A A':Asg}{s s':SV}{v:Value}{i m:Nat}(h1:s.hd=[i])(h2:s'.hd=[m])(hp:s'.pfB=s.pfB)(hs:SvOk w ro A s v)(hs':SvOk w' ro' A' s' v):A'.η m=A.η i:=by
 rcases hd_val h1 hs with ⟨p1,e1⟩ | ⟨p1,g,o,e1,e2⟩
 ·rcases hd_val h2 hs' with ⟨p2,e2⟩ | ⟨p2,_⟩
  ·rw[← e1,← e2]
  ·rw[p1,p2] at hp;cases hp
 ·rcases hd_val h2 hs' with ⟨p2,_⟩ | ⟨p2,g',o',e3,e4⟩
  ·rw[p1,p2] at hp;cases hp
  ·rw[e2] at e4
   injection e4 with e4;injection e4 with e4;injection e4 with e4
   rw[e1,e3,e4]
theorem own_of[Dn]{P:Program}{X:Cx}(hX:CxOk P X){f:FuncId}{fn:Func}{c:Code}{ct:OCtr}{rvs:List (ResultVar×Ty)}(hf:P.funcs[f]?=some fn)(hb:fn.body=some c)(hc:codeOk X c=true)(hr:fn.results.toList=rvs.map (·.1))
 (h:∀ args ob k,ct args ob k→(∀ s∈args,s.wf)→(∀ o∈ob,o.wf)→∃ an,vcO X an c fn.ntmps rvs args ob k):OwnOk P X.gl f ct:=by
 intro args ob k hs w M R0 A vals hB hrd I
 have hwa:∀ s∈args,s.wf:=by
  intro s hs
  obtain⟨j,hj⟩:=List.getElem?_of_mem hs
  exact sv_wf (I.tm j s hj)
 have hwo:∀ o∈ob,o.wf:=by
  intro o ho
  obtain⟨j,hj⟩:=List.getElem?_of_mem ho
  exact ob_wf (I.ob j o hj)
 obtain⟨an,hvc⟩:=h args ob k hs hwa hwo
 unfold vcO at hvc
 have hl:vals.size=args.length:=I.len
 have I1:=I.hold (by rfl)
 have hM0:M.M=(⟨M.M,γSet M.γ 0 vals,M.rd⟩:Ms).M:=rfl
 have hB':BaseOk X.gl w ⟨M.M,γSet M.γ 0 vals,M.rd⟩ R0:=⟨hB.gl,hB.lt,hB.me⟩
 have hgl:=hB'.now I1
 have I2:Inv w ⟨M.M,γSet M.γ 0 vals,M.rd⟩ R0 A (startO X.gl fn.ntmps args ob) ⟨vals++Array.replicate (fn.ntmps - vals.size) undef,[]⟩ w:=by
  refine⟨I.fr,⟨List.nodup_nil,fun d hd=>(by cases hd)⟩,I.mks,I.num,by simp[startO,hl],fun k sv hk => ?_,fun j sv hj => ?_,I.ob,I.dj,I.fp⟩
  ·rcases List.mem_append.1 hk with hk | hk
   ·exact I1.gh k sv (List.mem_append_left _ hk)
   ·simp only[glS,List.mem_map] at hk
    obtain⟨⟨g,d⟩,hx,he⟩:=hk
    injection he with he1 he2;subst he1;subst he2
    obtain⟨h1,us,h2,h3⟩:=hgl g d hx
    exact⟨⟨g,0,none⟩,us,rfl,rfl,h1.1,fun j u hj=>by rw[addr_add];simpa using h2 j u hj,h3⟩
  ·simp only[startO] at hj
   by_cases hlt:j<args.length
   ·rw[List.getElem?_append_left hlt] at hj
    have hg:(vals++Array.replicate (fn.ntmps - vals.size) undef).getD j undef=vals.getD j undef:=by
     rw[Array.getD_eq_getD_getElem?,Array.getElem?_append_left (by omega),← Array.getD_eq_getD_getElem?]
    rw[hg]
    exact I.tm j sv hj
   ·rw[List.getElem?_append_right (by omega),List.getElem?_replicate] at hj
    split at hj
    ·injection hj with hj;subst hj;trivial
    ·cases hj
 have hend:∀ A' st' a' w',finO X rvs args k st'→Inv w ⟨M.M,γSet M.γ 0 vals,M.rd⟩ R0 A' st' a' w'→LeavesInM (FW none) 0 P fn a'.tmps
  (fun e w'=>∃ v s ob' A',e = .returned v∧k s ob'∧Inv w M R0 A' ⟨[s],ob',[]⟩ ⟨#[v],[]⟩ w'∧∀ i,i<keptN args→A'.η i=A.η i) a'.defers .returning w':=by
  intro A' st' a' w' hk I'
  unfold finO at hk
  have If:=I'.frz (st'.ids (tmpsOf rvs)) hB'.me
  simp only at hk
  generalize st'.frz (st'.ids (tmpsOf rvs))=sf at hk If
  split at hk
  ·rename_i l hrs
   generalize reachN sf.ob 4 (addN (addN [] (hdsG sf.gs args)) (ixs l))=σ at hk
   split at hk
   ·rename_i hchk
    simp only[Bool.and_eq_true,decide_eq_true_eq] at hchk
    obtain⟨⟨k1,k2⟩,k3⟩:=hchk
    refine leave_ok (tmps:=a'.tmps) (ds:=a'.defers) If fun A2 w2 I3 => ?_
    obtain⟨v,hv,hsv⟩:=resultsS_ok hX I3 hr hrs
    refine⟨v,hv,v,_,_,_,rfl,hk,I3.out (M':=M) rfl (nodupB_ok k1) hsv,fun i hi => ?_⟩
    have hsm:=List.all_eq_true.1 k3 i (List.mem_range.2 hi)
    unfold sameH at hsm
    obtain⟨j,hj,hsm⟩:=List.any_eq_true.1 hsm
    have hjl:=List.mem_range.1 hj
    split at hsm
    ·rename_i k' j' s h1 h2
     simp only[Bool.and_eq_true,decide_eq_true_eq] at hsm
     obtain⟨⟨rfl,rfl⟩,hsm⟩:=hsm
     split at hsm
     ·rename_i m hm
      simp only[Bool.and_eq_true,decide_eq_true_eq,beq_iff_eq] at hsm
      obtain⟨hm',hpf⟩:=hsm
      have e3:gval ⟨M.M,γSet M.γ 0 vals,M.rd⟩ (.slot 0 j')=vals.getD j' undef:=by
       show γSet M.γ 0 vals 0 j'=_
       unfold γSet;rw[if_pos rfl]
      have e1:=I3.gh _ s (List.mem_of_getElem? h2)
      rw[e3] at e1
      show A2.η (σ.getD k' 0)=A.η k'
      rw[hm']
      exact hd_two h1 hm hpf (I.tm j' (args.getD j' .any) (by rw[List.getD_eq_getElem?_getD];rw[List.getElem?_eq_getElem hjl];rfl)) e1
     ·cases hsm
    ·cases hsm
   ·exact hk.elim
  ·exact hk.elim
 refine callsIn_wide.1 (callsIn_of_wp_marks (F:=FW none) (n:=0) hf hb trivial (xc_ok (r:=none) hX hc hB' (fun _=>hrd) (fun l h=>by cases h) I2 hvc ?_ ?_ ?_ ?_) rfl)
 ·rintro a w ⟨_,_,_,_,h,_⟩;cases h
 ·exact hend
 ·exact hend
 ·intro i A' st' a' w' hk
  exact hk.elim
end Go.Vc
