import Derived.Test.YtfmiecbmikncpaaDoorTORowVJ
namespace Go.Vc
open Go.RowKit
def idx:List Nat→Nat→Option Nat
 | [],_=>none
 | x::r,i=>if x=i then some 0 else match idx r i with
   | some k=>some (k+1)
   | none=>none
theorem idx_spec:∀ {σ:List Nat} {i k:Nat},idx σ i=some k→k<σ.length∧σ.getD k 0=i:=by
 intro σ
 induction σ with
 | nil=>intro i k h;cases h
 | cons x r ih =>
   intro i k h
   unfold idx at h
   split at h
   · rename_i e;injection h with h;subst h;exact⟨by simp,by simpa using e⟩
   · split at h
     · rename_i k' e
       injection h with h;subst h
       obtain⟨h1,h2⟩:=ih e
       exact⟨by simp;omega,by simpa using h2⟩
     · cases h
def nodupB:List Nat→Bool
 | []=>true
 | x::r => !r.contains x&&nodupB r
theorem nodupB_ok:∀ {l:List Nat},nodupB l=true→l.Nodup
 | [],_=>List.nodup_nil
 | x::r,h=>by
   simp only[nodupB,Bool.and_eq_true,Bool.not_eq_true',List.contains_eq_mem,decide_eq_false_iff_not] at h
   exact List.nodup_cons.2 ⟨h.1,nodupB_ok h.2⟩
theorem Pcs.map{w:World}{ro ro':Nat→Prop}{A A':Asg}{f:SV→SV}{l:List SV}{cs:List Value}(h:Pcs w ro A l cs)(hone:(l.map f).all SV.one=true)
   (hf:∀ s v,s.one=true→(f s).one=true→SvOk0 w ro A s v→SvOk0 w ro' A' (f s) v∧(f s).len=s.len∧((f s).nd=true→s.nd=true)):Pcs w ro' A' (l.map f) cs:=by
 obtain⟨css,h1,h2,h3⟩:=h
 refine⟨css,h1,by simp[h2],fun j s u hj hu => ?_⟩
 rw[List.getElem?_map] at hj
 obtain⟨s0,k1,rfl⟩:=Option.map_eq_some_iff.1 hj
 obtain⟨m1,m2,v,m3,m4,m5⟩:=h3 j s0 u k1 hu
 have ho:=List.all_eq_true.1 hone (f s0) (List.mem_map.2 ⟨s0,List.mem_of_getElem? k1,rfl⟩)
 obtain⟨n1,n2,n3⟩:=hf s0 v m1 ho m4
 exact⟨ho,by rw[m2,n2],v,m3,n1,fun hn=>m5 (n3 hn)⟩
def Asg.re(A:Asg)(σ:List Nat):Asg:={ A with n:=σ.length,η:=fun k=>A.η (σ.getD k 0),F:=fun k=>A.F (σ.getD k 0),κ:=fun k=>A.κ (σ.getD k 0) }
def mv(f g:Nat→Option Nat):SV→SV
 | .os i=>match f i with
   | some k => .os k
   | none => .any
 | .pv t i q=>match f i with
   | some k => .pv t k q
   | none => .any
 | .ea t i n q=>match f i with
   | some k => .ea t k n q
   | none => .any
 | .oc t i a=>match f i with
   | some k => .oc t k a
   | none => .any
 | .ps i=>match f i with
   | some k => .ps k
   | none => .any
 | .pf t i o q=>match f i with
   | some k => .pf t k o q
   | none => .any
 | .tv i p=>match g i with
   | some k => .tv k p
   | none => .any
 | .ta t i p n q=>match g i with
   | some k => .ta t k p n q
   | none => .any
 | .ag _ => .any
 | .tp _ => .any
 | s=>s
def mvT(f g:Nat→Option Nat):SV→SV
 | .tp l => .tp (l.map (mv f g))
 | .ag l=>if (l.map (mv f g)).all SV.one=true then .ag (l.map (mv f g)) else .any
 | s=>mv f g s
def mvO(f g:Nat→Option Nat):Ob→Ob
 | .st e l=>if (l.map (mv f g)).all SV.one=true then .st e (l.map (mv f g)) else .dead
 | o=>o
structure Mv(A A':Asg)(f g:Nat→Option Nat):Prop where
 η:∀ i k,i<A.n→f i=some k→k<A'.n∧A'.η k=A.η i
 κ:∀ i k,i<A.n→g i=some k→k<A'.n∧A'.κ k=A.κ i
theorem mv_ok0[Dn]{w w':World}{ro ro':Nat→Prop}{A A':Asg}{f g:Nat→Option Nat}(hm:Mv A A' f g)(hr:∀ b,ro b→ro' b∧Kb w w' b){s:SV}{v:Value}(h:SvOk0 w ro A s v):SvOk0 w' ro' A' (mv f g s) v:=by
 cases s with
 | d t x=>exact okV_grow (fun b hb=>(hr b hb).1) (fun a u hb=>(hr _ hb).2 a u rfl) h
 | bt b=>exact h
 | os i =>
   simp only[mv]
   split
   · rename_i k e;obtain⟨h1,h2⟩:=h;exact⟨(hm.η _ _ h1 e).1,by rw[(hm.η _ _ h1 e).2];exact h2⟩
   · trivial
 | pv t i q =>
   simp only[mv]
   split
   · rename_i k e;obtain⟨h1,h2⟩:=h;exact⟨(hm.η _ _ h1 e).1,by rw[(hm.η _ _ h1 e).2];exact h2⟩
   · trivial
 | ea t i n q =>
   simp only[mv]
   split
   · rename_i k e;obtain⟨h1,h2⟩:=h;exact⟨(hm.η _ _ h1 e).1,by rw[(hm.η _ _ h1 e).2];exact h2⟩
   · trivial
 | oc t i a =>
   simp only[mv]
   split
   · rename_i k e;obtain⟨h1,h2⟩:=h;exact⟨(hm.η _ _ h1 e).1,by rw[(hm.η _ _ h1 e).2];exact h2⟩
   · trivial
 | ra t x=>exact SvOk0.keep (A:=A') (s := .ra t x) hr (Asg.le.refl A') h
 | fs t x=>exact SvOk0.keep (A:=A') (s := .fs t x) hr (Asg.le.refl A') h
 | ps i =>
   simp only[mv]
   split
   · rename_i k e;obtain⟨h1,h2⟩:=h;exact⟨(hm.η _ _ h1 e).1,by rw[(hm.η _ _ h1 e).2];exact h2⟩
   · trivial
 | pf t i o q =>
   simp only[mv]
   split
   · rename_i k e;obtain⟨h1,h2⟩:=h;exact⟨(hm.η _ _ h1 e).1,by rw[(hm.η _ _ h1 e).2];exact h2⟩
   · trivial
 | tv i p =>
   simp only[mv]
   split
   · rename_i k e;obtain⟨h1,h2⟩:=h;exact⟨(hm.κ _ _ h1 e).1,by rw[(hm.κ _ _ h1 e).2];exact h2⟩
   · trivial
 | ta t i p n q =>
   simp only[mv]
   split
   · rename_i k e;obtain⟨h1,h2⟩:=h;exact⟨(hm.κ _ _ h1 e).1,by rw[(hm.κ _ _ h1 e).2];exact h2⟩
   · trivial
 | nils=>exact h
 | nilp=>exact h
 | und=>exact h
 | any=>trivial
 | ag l=>trivial
 | tp l=>trivial
theorem mv_flat(f g:Nat→Option Nat)(s:SV):(∀ l,mv f g s ≠ .ag l)∧(∀ l,mv f g s ≠ .tp l):=by
 cases s<;>simp only[mv]<;>(try split)<;>simp
theorem sv_up{w:World}{ro:Nat→Prop}{A:Asg}{s:SV}{v:Value}(h1:∀ l,s ≠ .ag l)(h2:∀ l,s ≠ .tp l)(h:SvOk0 w ro A s v):SvOk w ro A s v:=by
 cases s with
 | ag l=>exact absurd rfl (h1 l)
 | tp l=>exact absurd rfl (h2 l)
 | _=>exact h
theorem sv_up1{w:World}{ro:Nat→Prop}{A:Asg}{s:SV}{v:Value}(h1:∀ l,s ≠ .ag l)(h:SvOk0 w ro A s v):SvOk1 w ro A s v:=by
 cases s with
 | ag l=>exact absurd rfl (h1 l)
 | _=>exact h
theorem mv_len{f g:Nat→Option Nat}{s:SV}(h:s.one=true)(_:(mv f g s).one=true):(mv f g s).len=s.len∧((mv f g s).nd=true→s.nd=true):=by
 cases s with
 | d t x=>exact⟨rfl,fun h=>h⟩
 | os i=>simp only[mv];split<;>exact⟨rfl,fun _=>rfl⟩
 | pv t i q=>simp only[mv];split<;>exact⟨rfl,fun _=>rfl⟩
 | ps i=>simp only[mv];split<;>exact⟨rfl,fun _=>rfl⟩
 | pf t i o q=>simp only[mv];split<;>exact⟨rfl,fun _=>rfl⟩
 | bt b=>exact⟨rfl,fun _=>rfl⟩
 | nils=>exact⟨rfl,fun _=>rfl⟩
 | nilp=>exact⟨rfl,fun _=>rfl⟩
 | _=>simp[SV.one] at h
theorem Pcs.move[Dn]{w w':World}{ro ro':Nat→Prop}{A A':Asg}{f g:Nat→Option Nat}(hm:Mv A A' f g)(hr:∀ b,ro b→ro' b∧Kb w w' b){l:List SV}{cs:List Value}(h:Pcs w ro A l cs)(hone:(l.map (mv f g)).all SV.one=true):Pcs w' ro' A' (l.map (mv f g)) cs:=by
 obtain⟨css,hc,hl,hok⟩:=h
 refine⟨css,hc,by simpa using hl,fun j s u h1 h2 => ?_⟩
 rw[List.getElem?_map] at h1
 obtain⟨s0,h3,rfl⟩:=Option.map_eq_some_iff.1 h1
 have ho:(mv f g s0).one=true:=List.all_eq_true.1 hone _ (List.mem_map.2 ⟨s0,List.mem_of_getElem? h3,rfl⟩)
 obtain⟨k1,k2,v,k3,k4,k5⟩:=hok j s0 u h3 h2
 exact⟨ho,by rw[k2,(mv_len k1 ho).1],v,k3,mv_ok0 hm hr k4,fun hn=>k5 ((mv_len k1 ho).2 hn)⟩
theorem mvT_ok[Dn]{w w':World}{ro ro':Nat→Prop}{A A':Asg}{f g:Nat→Option Nat}(hm:Mv A A' f g)(hr:∀ b,ro b→ro' b∧Kb w w' b){s:SV}{v:Value}(h:SvOk w ro A s v):SvOk w' ro' A' (mvT f g s) v:=by
 cases s with
 | tp l =>
   obtain⟨vs,e,h1,h2⟩:=h
   refine⟨vs,e,by simpa using h1,fun j s u hj hu => ?_⟩
   rw[List.getElem?_map] at hj
   obtain⟨s0,h3,rfl⟩:=Option.map_eq_some_iff.1 hj
   have h4:=h2 j s0 u h3 hu
   cases s0 with
   | ag l'=>trivial
   | _=>exact sv_up1 (mv_flat f g _).1 (mv_ok0 hm hr h4)
 | ag l =>
   obtain⟨vs,e,h1⟩:=h
   simp only[mvT]
   split
   · rename_i hone;exact⟨vs,e,h1.move hm hr hone⟩
   · trivial
 | d t x=>exact sv_up (s:=mv f g (.d t x)) (mv_flat f g _).1 (mv_flat f g _).2 (mv_ok0 (s := .d t x) hm hr h)
 | bt b=>exact h
 | os i=>exact sv_up (s:=mv f g (.os i)) (mv_flat f g _).1 (mv_flat f g _).2 (mv_ok0 (s := .os i) hm hr h)
 | pv t i q=>exact sv_up (s:=mv f g (.pv t i q)) (mv_flat f g _).1 (mv_flat f g _).2 (mv_ok0 (s := .pv t i q) hm hr h)
 | ea t i k q=>exact sv_up (s:=mv f g (.ea t i k q)) (mv_flat f g _).1 (mv_flat f g _).2 (mv_ok0 (s := .ea t i k q) hm hr h)
 | oc t i a=>exact sv_up (s:=mv f g (.oc t i a)) (mv_flat f g _).1 (mv_flat f g _).2 (mv_ok0 (s := .oc t i a) hm hr h)
 | ra t x=>exact sv_up (s:=mv f g (.ra t x)) (mv_flat f g _).1 (mv_flat f g _).2 (mv_ok0 (s := .ra t x) hm hr h)
 | fs t x=>exact sv_up (s:=mv f g (.fs t x)) (mv_flat f g _).1 (mv_flat f g _).2 (mv_ok0 (s := .fs t x) hm hr h)
 | ps i=>exact sv_up (s:=mv f g (.ps i)) (mv_flat f g _).1 (mv_flat f g _).2 (mv_ok0 (s := .ps i) hm hr h)
 | pf t i o q=>exact sv_up (s:=mv f g (.pf t i o q)) (mv_flat f g _).1 (mv_flat f g _).2 (mv_ok0 (s := .pf t i o q) hm hr h)
 | tv i p=>exact sv_up (s:=mv f g (.tv i p)) (mv_flat f g _).1 (mv_flat f g _).2 (mv_ok0 (s := .tv i p) hm hr h)
 | ta t i p k q=>exact sv_up (s:=mv f g (.ta t i p k q)) (mv_flat f g _).1 (mv_flat f g _).2 (mv_ok0 (s := .ta t i p k q) hm hr h)
 | nils=>exact h
 | nilp=>exact h
 | und=>exact h
 | any=>trivial
theorem mvO_live{f g:Nat→Option Nat}{o:Ob}(h:(mvO f g o).live=true):o.live=true:=by
 cases o with
 | st e l=>rfl
 | _=>exact h
theorem ObOk.move[Dn]{w w':World}{ro ro':Nat→Prop}{A A':Asg}{f g:Nat→Option Nat}(hm:Mv A A' f g)(hr:∀ b,ro b→ro' b∧Kb w w' b){i k:Nat}(hη:A'.η k=A.η i)(hκ:A'.κ k=A.κ i)(hF:A'.F k=A.F i)
   {o:Ob} (hw:∀ b,A.F i b→Cb w w' b) (hmp:o.isMp=true→∀ b,A.F i b→w'.heap[b]?=w.heap[b]?) (h:ObOk w ro A i o):ObOk w' ro' A' k (mvO f g o):=by
 cases o with
 | var e t x =>
   obtain⟨g,cs,e1,hf,hh,hok⟩:=h
   exact⟨g,cs,hη.trans e1,by rw[hF];exact hf,hw g hf _ _ _ hh,ok_grow (fun b hb=>(hr b hb).1) (fun a u hb=>(hr _ hb).2 a u rfl) hok⟩
 | row e t xs =>
   obtain⟨css,hok,hown,hf⟩:=h
   refine⟨css,hok.mono fun x u hu=>⟨hu.1,ok_grow (fun b hb=>(hr b hb).1) (fun a u hb=>(hr _ hb).2 a u rfl) hu.2⟩,?_,by rw[hη,hF];exact hf⟩
   rw[hη]
   exact ownsRow_keep (fun b hb=>hw b (hf b hb)) hown
 | st e l =>
   obtain⟨g',cs,e1,hf,hh,hok⟩:=h
   simp only[mvO]
   split
   · rename_i hone
     exact⟨g',cs,hη.trans e1,by rw[hF];exact hf,hw g' hf _ _ _ hh,hok.move hm hr hone⟩
   · trivial
 | trow e u xs =>
   obtain⟨h1,h2,h3,h4⟩:=h
   refine⟨by rw[hκ,hη];exact h1,?_,by rw[hκ];exact h3,by rw[hκ,hF];exact h4⟩
   rw[hκ]
   exact Ot.nd_keep hr (fun p b hp hb=>hw b (h4 p b hp hb)) h2
 | mp n v es =>
   obtain⟨g,es',clock,e1,hf,hh,hl,hok⟩:=h
   exact⟨g,es',clock,hη.trans e1,by rw[hF];exact hf,(hmp rfl g hf).trans hh,hl,fun j x e h1 h2=>⟨(hok j x e h1 h2).1,(hok j x e h1 h2).2.1,okV_grow (fun b hb=>(hr b hb).1) (fun a u hb=>(hr _ hb).2 a u rfl) (hok j x e h1 h2).2.2⟩⟩
 | dead=>trivial
def SV.ix:SV→List Nat
 | .os i=>[i]
 | .pv _ i _=>[i]
 | .ea _ i _ _=>[i]
 | .oc _ i _=>[i]
 | .ps i=>[i]
 | .pf _ i _ _=>[i]
 | .tv i _=>[i]
 | .ta _ i _ _ _=>[i]
 | _=>[]
def ixs:List SV→List Nat
 | []=>[]
 | s::r=>s.ix++ixs r
def Ob.ix:Ob→List Nat
 | .st _ l=>ixs l
 | _=>[]
def addN:List Nat→List Nat→List Nat
 | l,[]=>l
 | l,x::r=>match l.contains x with
   | true=>addN l r
   | false=>addN (l++[x]) r
def ixO(ob:List Ob):List Nat→List Nat
 | []=>[]
 | i::r=>(ob.getD i .dead).ix++ixO ob r
def reachN(ob:List Ob):Nat→List Nat→List Nat
 | 0,l=>l
 | n+1,l=>reachN ob n (addN l (ixO ob l))
def SV.hd:SV→List Nat
 | .ps i=>[i]
 | .os i=>[i]
 | _=>[]
def hds:List SV→List Nat
 | []=>[]
 | s::r=>s.hd++hds r
def keptN(args:List SV):Nat:=(addN [] (hds args)).length
def reachA(args:List SV)(ob:List Ob):List Nat:=reachN ob 4 (addN (addN [] (hds args)) (ixs args))
def OCtr:Type:=List SV→List Ob→(SV→List Ob→Prop)→Prop
def OwnOk[Dn](P:Program)(gl:List (Nat×Dat))(f:FuncId)(c:OCtr):Prop :=
 ∀ args ob k,c args ob k→∀ (w:World) (M:Ms) (R0:Nat→Prop) (A:Asg) (vals:Array Value),BaseOk gl w M R0→M.rd=false→Inv w M R0 A ⟨args,ob,[]⟩ ⟨vals,[]⟩ w →
   Calls P f vals w fun e w'=>∃ v s ob' A',e = .returned v∧k s ob'∧Inv w M R0 A' ⟨[s],ob',[]⟩ ⟨#[v],[]⟩ w'∧∀ i,i<keptN args→A'.η i=A.η i
def GoOk[Dn](P:Program)(gl:List (Nat×Dat)):List (FuncId×OCtr)→Prop
 | []=>True
 | x::r=>(EntOk P x.1∧OwnOk P gl x.1 x.2)∧GoOk P gl r
def lookO:List (FuncId×OCtr)→FuncId→Option OCtr
 | [],_=>none
 | x::r,f=>if x.1=f then some x.2 else lookO r f
theorem GoOk.look[Dn]{P:Program}{gl:List (Nat×Dat)}:∀ {l:List (FuncId×OCtr)},GoOk P gl l→∀ {f c},lookO l f=some c→EntOk P f∧OwnOk P gl f c
 | [],_,_,_,h=>by cases h
 | x::r,hG,f,c,h=>by
   simp only[lookO] at h
   split at h
   · rename_i hx;injection h with h;subst h;subst hx;exact hG.1
   · exact hG.2.look h
def subSt(σ:List Nat)(args:List SV)(ob:List Ob):St:=⟨args.map (mv (idx σ) (idx σ)),σ.map fun i=>mvO (idx σ) (idx σ) (ob.getD i .dead),[]⟩
def drF(σ:List Nat)(nk i:Nat):Option Nat :=
 match idx σ i with
 | some k=>if k<nk then some i else none
 | none=>some i
def drG(σ:List Nat)(i:Nat):Option Nat :=
 match idx σ i with
 | some _=>none
 | none=>some i
def emF(σ:List Nat)(nk N k:Nat):Option Nat:=if k<nk then some (σ.getD k 0) else some (N+(k - nk))
def mrgL(σ:List Nat)(nk N:Nat)(ob':List Ob):Nat→List Ob→List Ob
 | _,[]=>[]
 | i,o::r=>(match idx σ i with
   | some k=>if k<nk then mvO (emF σ nk N) (emF σ nk N) (ob'.getD k .dead) else .dead
   | none=>mvO (drF σ nk) (drG σ) o)::mrgL σ nk N ob' (i+1) r
def mrg(σ:List Nat)(nk:Nat)(st:St)(ob':List Ob):St :=
 ⟨st.tm.map (mvT (drF σ nk) (drG σ)),mrgL σ nk st.ob.length ob' 0 st.ob++(ob'.drop nk).map (mvO (emF σ nk st.ob.length) (emF σ nk st.ob.length)),st.gs.map fun x=>(x.1,mvT (drF σ nk) (drG σ) x.2)⟩
def calO(Γ:List (FuncId×OCtr))(st:St)(f:FuncId)(args:List SV)(dst:Option Nat)(k:St→Prop):Prop :=
 match lookO Γ f with
 | some c=>(fun (σ:List Nat)=>(fun (sub:St)=>(fun (nk:Nat)=>match nodupB σ&&σ.all (fun i=>decide (i<st.ob.length))&&decide (nk≤σ.length) with
   | true=>c sub.tm sub.ob fun s ob'=>k ((mrg σ nk st ob').put dst (mvT (emF σ nk st.ob.length) (emF σ nk st.ob.length) s))
   | false=>False) (keptN sub.tm)) (subSt σ args st.ob)) (reachA args st.ob)
 | none=>False
def subM(A:Asg)(σ:List Nat)(st:St)(_:World)(b:Nat):Prop:=∃ i o,i∈σ∧st.ob[i]?=some o∧o.live=true∧A.F i b
def subR(w0:World)(R0:Nat→Prop)(A:Asg)(σ:List Nat)(st:St)(w:World)(b:Nat):Prop:=Ro R0 w0.heap.size A st.ob w b∨subM A σ st w b
theorem Inv.sub[Dn]{w0:World}{M:Ms}{R0:Nat→Prop}{A:Asg}{st:St}{a:Act}{w:World}(I:Inv w0 M R0 A st a w){σ:List Nat}(hσ:σ.Nodup){args:List SV}{vals:List Value}
   (ha:All2 (SvOk w (Ro R0 w0.heap.size A st.ob w) A) args vals):Inv w ⟨subM A σ st w,M.γ,false⟩ (subR w0 R0 A σ st w) { A.re σ with μ:=fun _=>False } (subSt σ args st.ob) ⟨vals.toArray,[]⟩ w:=by
 have hob:∀ (k:Nat) o,(subSt σ args st.ob).ob[k]?=some o→∃ i,σ[k]?=some i∧σ.getD k 0=i∧o=mvO (idx σ) (idx σ) (st.ob.getD i .dead):=by
   intro k o ho
   simp only[subSt,List.getElem?_map] at ho
   obtain⟨i,h1,h2⟩:=Option.map_eq_some_iff.1 ho
   exact⟨i,h1,by rw[List.getD_eq_getElem?_getD,h1];rfl,h2.symm⟩
 have hlv:∀ (i:Nat),(st.ob.getD i .dead).live=true→st.ob[i]?=some (st.ob.getD i .dead):=by
   intro i h
   rw[List.getD_eq_getElem?_getD] at h ⊢
   cases hq:st.ob[i]? with
   | none=>rw[hq] at h;cases h
   | some o=>rfl
 have hm:Mv A { A.re σ with μ:=fun _=>False } (idx σ) (idx σ):=⟨fun i k _ e=>⟨(idx_spec e).1,congrArg A.η (idx_spec e).2⟩,fun i k _ e=>⟨(idx_spec e).1,congrArg A.κ (idx_spec e).2⟩⟩
 have hr:∀ b,Ro R0 w0.heap.size A st.ob w b→Ro (subR w0 R0 A σ st w) w.heap.size { A.re σ with μ:=fun _=>False } (subSt σ args st.ob).ob w b∧Kb w w b:=by
   intro b hb
   refine⟨⟨hb.1,.inl (.inl hb),fun k o ho hl hf => ?_⟩,Kb.of_eq rfl⟩
   obtain⟨i,k1,k2,rfl⟩:=hob k o ho
   have hl:=mvO_live hl
   have hf':A.F (σ.getD k 0) b:=hf
   rw[k2] at hf'
   exact hb.2.2 i _ (hlv i hl) hl hf'
 refine⟨Fr.refl _ _,⟨List.nodup_nil,fun d hd=>(by cases hd)⟩,fun D hD=>hD.elim,by simp[Asg.re,subSt],by simp[subSt,ha.1],fun k sv hk=>by simp[subSt] at hk,fun j sv hj => ?_,fun k o ho => ?_,fun k1 k2 o o' b hi hj hl hl' hb hb' => ?_,fun k o b hi hl hb => ?_⟩
 · simp only[subSt,List.getElem?_map] at hj
   obtain⟨s,h1,rfl⟩:=Option.map_eq_some_iff.1 hj
   have hlt:j<vals.length:=by rw[ha.1];exact (List.getElem?_eq_some_iff.1 h1).1
   have h2:=ha.2 j s vals[j] h1 (List.getElem?_eq_getElem hlt)
   have h3:(vals.toArray).getD j undef=vals[j]:=by simp[hlt]
   show SvOk w _ _ _ ((vals.toArray).getD j undef)
   rw[h3]
   cases s with
   | ag l=>trivial
   | tp l=>trivial
   | _=>exact sv_up (mv_flat _ _ _).1 (mv_flat _ _ _).2 (mv_ok0 hm hr h2)
 · obtain⟨i,k1,k2,rfl⟩:=hob k o ho
   cases hd:(st.ob.getD i .dead).live with
   | false =>
     have:st.ob.getD i .dead = .dead:=by
       cases hx:st.ob.getD i .dead<;>first | rfl | (rw[hx] at hd;cases hd)
     rw[this];trivial
   | true =>
     exact (I.ob i _ (hlv i hd)).move hm hr (congrArg A.η k2) (congrArg A.κ k2) (congrArg A.F k2) (fun b _=>Cb.of_eq rfl) (fun _ b _=>rfl)
 · obtain⟨i,a1,a2,rfl⟩:=hob k1 o hi
   obtain⟨j,b1,b2,rfl⟩:=hob k2 o' hj
   have hl:=mvO_live hl
   have hl':=mvO_live hl'
   have hb1:A.F (σ.getD k1 0) b:=hb
   have hb2:A.F (σ.getD k2 0) b:=hb'
   rw[a2] at hb1;rw[b2] at hb2
   have:=I.dj i j _ _ b (hlv i hl) (hlv j hl') hl hl' hb1 hb2
   subst this
   have e1:=List.getElem?_eq_some_iff.1 a1
   have e2:=List.getElem?_eq_some_iff.1 b1
   rcases Nat.lt_trichotomy k1 k2 with hlt | he | hlt
   · exact absurd (e1.2.trans e2.2.symm) (List.pairwise_iff_getElem.1 hσ k1 k2 e1.1 e2.1 hlt)
   · exact he
   · exact absurd (e2.2.trans e1.2.symm) (List.pairwise_iff_getElem.1 hσ k2 k1 e2.1 e1.1 hlt)
 · obtain⟨i,a1,a2,rfl⟩:=hob k o hi
   have hl:=mvO_live hl
   have hb1:A.F (σ.getD k 0) b:=hb
   rw[a2] at hb1
   exact⟨(I.fp i _ b (hlv i hl) hl hb1).1,.inr ⟨i,_,List.mem_of_getElem? a1,hlv i hl,hl,hb1⟩⟩
theorem BaseOk.sub[Dn]{gl:List (Nat×Dat)}{w0:World}{M:Ms}{R0:Nat→Prop}(hB:BaseOk gl w0 M R0){A:Asg}{st:St}{a:Act}{w:World}(I:Inv w0 M R0 A st a w)(σ:List Nat) :
   BaseOk gl w ⟨subM A σ st w,M.γ,false⟩ (subR w0 R0 A σ st w) :=
 ⟨(hB.now I).mono (fun b hb=>⟨.inl hb,fun⟨i,o,_,ho,hl,hf⟩=>hb.2.2 i o ho hl hf⟩) (fun _ _=>rfl),fun b hb=>by
   rcases hb with hb | ⟨i,o,_,ho,hl,hf⟩
   · exact hb.1
   · exact (I.fp i o b ho hl hf).1,fun b hb _ => .inr hb⟩
theorem idx_get:∀ {σ:List Nat},σ.Nodup→∀ {k:Nat},k<σ.length→idx σ (σ.getD k 0)=some k
 | [],_,k,h=>by simp at h
 | x::r,hn,0,_=>by simp[idx]
 | x::r,hn,k+1,h=>by
   have hn':=List.nodup_cons.1 hn
   have hk:k<r.length:=by simpa using h
   have h1:=idx_get hn'.2 hk
   have hne:x≠r.getD k 0:=by
     rintro rfl
     exact hn'.1 (by rw[List.getD_eq_getElem?_getD,List.getElem?_eq_getElem hk];exact List.getElem_mem ..)
   simp only[List.getD_cons_succ,idx]
   rw[if_neg hne,h1]
theorem idx_none:∀ {σ:List Nat} {i:Nat},idx σ i=none→i∉σ
 | [],_,_=>by simp
 | x::r,i,h=>by
   unfold idx at h
   split at h
   · cases h
   · rename_i hne
     split at h
     · cases h
     · rename_i hr
       intro hm
       rcases List.mem_cons.1 hm with rfl | hm
       · exact hne rfl
       · exact idx_none hr hm
theorem mrgL_get{σ:List Nat}{nk N:Nat}{ob':List Ob}:∀ {l:List Ob} {j i:Nat} {o:Ob},(mrgL σ nk N ob' j l)[i]?=some o→∃ o0,l[i]?=some o0∧o=(match idx σ (j+i) with
   | some k=>if k<nk then mvO (emF σ nk N) (emF σ nk N) (ob'.getD k .dead) else .dead
   | none=>mvO (drF σ nk) (drG σ) o0)
 | [],_,_,_,h=>by simp[mrgL] at h
 | x::r,j,0,o,h=>by simp only[mrgL,List.getElem?_cons_zero,Option.some.injEq] at h;exact⟨x,rfl,h.symm⟩
 | x::r,j,i+1,o,h=>by
   simp only[mrgL,List.getElem?_cons_succ] at h
   obtain⟨o0,h1,h2⟩:=mrgL_get h
   exact⟨o0,by simpa using h1,by rw[h2,show j+1+i=j+(i+1) by omega]⟩
theorem mrgL_len{σ:List Nat}{nk N:Nat}{ob':List Ob}:∀ {l:List Ob} {j:Nat},(mrgL σ nk N ob' j l).length=l.length
 | [],_=>rfl
 | x::r,j=>by simp[mrgL,mrgL_len (l:=r)]
def tauF(σ:List Nat)(nk N i:Nat):Option Nat :=
 if i<N then match idx σ i with
   | some k=>if k<nk then some k else none
   | none=>none
 else some (i - N+nk)
theorem Inv.merge[Dn]{w0:World}{M:Ms}{R0:Nat→Prop}{A:Asg}{st:St}{a:Act}{w:World}(I:Inv w0 M R0 A st a w){σ:List Nat}(hσ:σ.Nodup)(hlt:∀ i∈σ,i<st.ob.length){nk:Nat}(hnk:nk≤σ.length)(hme:∀ b,M.M b→b<w0.heap.size→R0 b)
   {A':Asg} {s:SV} {ob':List Ob} {v:Value} {w':World} (I2:Inv w ⟨subM A σ st w,M.γ,false⟩ (subR w0 R0 A σ st w) A' ⟨[s],ob',[]⟩ ⟨#[v],[]⟩ w') (hk:∀ i,i<nk→A'.η i=A.η (σ.getD i 0)) :
   ∃ A'',Inv w0 M R0 A'' (mrg σ nk st ob') a w'∧SvOk w' (Ro R0 w0.heap.size A'' (mrg σ nk st ob').ob w') A'' (mvT (emF σ nk st.ob.length) (emF σ nk st.ob.length) s) v:=by
 obtain⟨N,hN⟩:∃ N,N=st.ob.length:=⟨_,rfl⟩
 have hAn:A.n=N:=I.num.trans hN.symm
 have hAn':A'.n=ob'.length:=I2.num
 have hσk:∀ k,k<nk→σ.getD k 0<N:=fun k h=>by
   rw[hN];apply hlt
   rw[List.getD_eq_getElem?_getD,List.getElem?_eq_getElem (by omega)];exact List.getElem_mem ..
 have hlen:(mrg σ nk st ob').ob.length=N+(ob'.length - nk):=by simp[mrg,mrgL_len,hN]
 have hτe:∀ k i,emF σ nk N k=some i→tauF σ nk N i=some k∧(k<ob'.length→i<N+(ob'.length - nk)):=by
   intro k i h
   unfold emF at h
   split at h
   · rename_i hk'
     injection h with h;subst h
     refine⟨?_,fun _=>by have:=hσk k hk';omega⟩
     unfold tauF
     rw[if_pos (hσk k hk'),idx_get hσ (by omega)]
     simp only
     rw[if_pos hk']
   · rename_i hk'
     injection h with h;subst h
     refine⟨?_,fun _=>by omega⟩
     unfold tauF
     rw[if_neg (by omega)]
     congr 1;omega
 let A2:Asg:=⟨N+(ob'.length - nk),fun i=>(tauF σ nk N i).elim (A.η i) A'.η,fun i=>(tauF σ nk N i).elim (A.F i) A'.F,fun i=>(tauF σ nk N i).elim (A.κ i) A'.κ,A.μ⟩
 have hη1:∀ {i k},tauF σ nk N i=some k→A2.η i=A'.η k∧A2.F i=A'.F k∧A2.κ i=A'.κ k:=by
   intro i k h;simp only[A2,h];exact⟨rfl,rfl,rfl⟩
 have hη0:∀ {i},tauF σ nk N i=none→A2.η i=A.η i∧A2.F i=A.F i∧A2.κ i=A.κ i:=by
   intro i h;simp only[A2,h];exact⟨rfl,rfl,rfl⟩
 have hmE:Mv A' A2 (emF σ nk N) (emF σ nk N):=⟨fun k i hlt h=>⟨(hτe k i h).2 (by omega),(hη1 (hτe k i h).1).1⟩,fun k i hlt h=>⟨(hτe k i h).2 (by omega),(hη1 (hτe k i h).1).2.2⟩⟩
 have hmD:Mv A A2 (drF σ nk) (drG σ):=by
   refine⟨fun i k hi h => ?_,fun i k hi h => ?_⟩
   · unfold drF at h
     split at h
     · rename_i m hm
       split at h
       · rename_i hmk
         injection h with h;subst h
         refine⟨by show i<N+_;omega,?_⟩
         have ht:tauF σ nk N i=some m:=by unfold tauF;rw[if_pos (by omega),hm];simp only;rw[if_pos hmk]
         rw[(hη1 ht).1,hk m hmk,(idx_spec hm).2]
       · cases h
     · rename_i hm
       injection h with h;subst h
       have ht:tauF σ nk N i=none:=by unfold tauF;rw[if_pos (by omega),hm]
       exact⟨by show i<N+_;omega,(hη0 ht).1⟩
   · unfold drG at h
     split at h
     · cases h
     · rename_i hm
       injection h with h;subst h
       have ht:tauF σ nk N i=none:=by unfold tauF;rw[if_pos (by omega),hm]
       exact⟨by show i<N+_;omega,(hη0 ht).2.2⟩
 -- the objects behind the call
 have hget:∀ i o,(mrg σ nk st ob').ob[i]?=some o→o.live=true→(∃ k o0,tauF σ nk N i=some k∧ob'[k]?=some o0∧o=mvO (emF σ nk N) (emF σ nk N) o0) ∨
     (i<N∧tauF σ nk N i=none∧i∉σ∧∃ o0,st.ob[i]?=some o0∧o=mvO (drF σ nk) (drG σ) o0):=by
   intro i o ho hl
   simp only[mrg,← hN] at ho
   rcases Nat.lt_or_ge i N with hi | hi
   · rw[List.getElem?_append_left (by rw[mrgL_len];omega)] at ho
     obtain⟨o0,h1,h2⟩:=mrgL_get ho
     rw[Nat.zero_add] at h2
     cases hx:idx σ i with
     | some k =>
       simp only[hx] at h2
       split at h2
       · rename_i hk'
         subst h2
         refine .inl ⟨k,ob'.getD k .dead,by unfold tauF;rw[if_pos hi,hx];simp only;rw[if_pos hk'],?_,rfl⟩
         rw[List.getD_eq_getElem?_getD]
         cases hq:ob'[k]? with
         | none =>
           rw[List.getD_eq_getElem?_getD,hq] at hl;cases hl
         | some o1=>rfl
       · subst h2;cases hl
     | none =>
       simp only[hx] at h2
       exact .inr ⟨hi,by unfold tauF;rw[if_pos hi,hx],idx_none hx,o0,h1,h2⟩
   · rw[List.getElem?_append_right (by rw[mrgL_len];omega),mrgL_len,List.getElem?_map,List.getElem?_drop] at ho
     obtain⟨o0,h1,rfl⟩:=Option.map_eq_some_iff.1 ho
     exact .inl ⟨i - N+nk,o0,by unfold tauF;rw[if_neg (by omega)],by rw[show i - N+nk=nk+(i - st.ob.length) by omega];exact h1,rfl⟩
 have hsub:∀ {b},subM A σ st w b→b<w.heap.size∧(w0.heap.size≤b∨M.M b):=fun⟨i,o,_,ho,hl,hf⟩=>I.fp i o _ ho hl hf
 have hapart:∀ {i o b},i∉σ→st.ob[i]?=some o→o.live=true→A.F i b→¬ subM A σ st w b:=by
   rintro i o b hi ho hl hf ⟨j,o',hj,ho',hl',hf'⟩
   have:=I.dj i j o o' b ho ho' hl hl' hf hf'
   subst this;exact hi hj
 have hwr:∀ {k o b},ob'[k]?=some o→o.live=true→A'.F k b→b<w'.heap.size∧(w.heap.size≤b∨subM A σ st w b):=fun ho hl hf=>I2.fp _ _ _ ho hl hf
 have hsz:w.heap.size≤w'.heap.size:=I2.fr.size
 have hblk:∀ {b},b<w.heap.size→¬ subM A σ st w b→w'.heap[b]?=w.heap[b]?:=fun hb hm=>I2.fr.block _ hb hm
 have hro2:∀ b,Ro R0 w0.heap.size A st.ob w b→Ro R0 w0.heap.size A2 (mrg σ nk st ob').ob w' b∧Kb w w' b:=by
   intro b ⟨h1,h2,h3⟩
   have hns:¬ subM A σ st w b:=fun⟨i,o,_,ho,hl,hf⟩=>h3 i o ho hl hf
   refine⟨⟨by omega,h2,fun i o ho hl hf => ?_⟩,Kb.of_eq (hblk h1 hns)⟩
   rcases hget i o ho hl with ⟨k,o0,ht,ho0,rfl⟩ | ⟨_,ht,_,o0,ho0,rfl⟩
   · rw[(hη1 ht).2.1] at hf
     rcases (hwr ho0 (mvO_live hl) hf).2 with h | h
     · omega
     · exact hns h
   · rw[(hη0 ht).2.1] at hf
     exact h3 i o0 ho0 (mvO_live hl) hf
 have hro1:∀ b,Ro (subR w0 R0 A σ st w) w.heap.size A' ob' w' b→Ro R0 w0.heap.size A2 (mrg σ nk st ob').ob w' b∧Kb w' w' b:=by
   intro b ⟨h1,h2,h3⟩
   refine⟨⟨h1,?_,fun i o ho hl hf => ?_⟩,Kb.of_eq rfl⟩
   · rcases h2 with (h | h) | h
     · exact h.2.1
     · rcases (hsub h).2 with h | h
       · exact .inr h
       · rcases Nat.lt_or_ge b w0.heap.size with hlt | hge
         · exact .inl (hme b h hlt)
         · exact .inr hge
     · exact .inr (Nat.le_trans I.fr.size h)
   · rcases hget i o ho hl with ⟨k,o0,ht,ho0,rfl⟩ | ⟨_,ht,hni,o0,ho0,rfl⟩
     · rw[(hη1 ht).2.1] at hf
       exact h3 k o0 ho0 (mvO_live hl) hf
     · rw[(hη0 ht).2.1] at hf
       have hl0:=mvO_live hl
       rcases h2 with (h | h) | h
       · exact h.2.2 i o0 ho0 hl0 hf
       · exact hapart hni ho0 hl0 hf h
       · have:=(I.fp i o0 b ho0 hl0 hf).1;omega
 have hv:=I2.tm 0 s rfl
 refine⟨A2,?_,mvT_ok (by rw[← hN];exact hmE) hro1 (by simpa using hv)⟩
 refine⟨⟨I2.fr.os.trans I.fr.os,I2.fr.tape.trans I.fr.tape,I2.fr.output.trans I.fr.output,Nat.le_trans I.fr.size hsz,fun b hb hm => ?_,fun e=>Nat.le_trans (I.fr.drawn e) (I2.fr.drawn e)⟩,I.defers,fun D hD => ?_,hlen.symm,by rw[I.len];simp[mrg],fun k sv hk' => ?_,fun j sv hj => ?_,fun i o ho => ?_,fun i j o o' b hi hj hl hl' hb hb' => ?_,fun i o b hi hl hb => ?_⟩
 · refine (hblk (Nat.lt_of_lt_of_le hb I.fr.size) fun h => ?_).trans (I.fr.block b hb hm)
   rcases (hsub h).2 with h | h
   · omega
   · exact hm h
 · obtain⟨h1,h2,h3⟩:=I.mks D hD
   have hns:¬ subM A σ st w D:=fun⟨i,o,_,ho,hl,hf⟩=>h3 i o ho hl hf
   have hDl:=(Array.getElem?_eq_some_iff.1 h2).1
   refine⟨h1,(hblk hDl hns).trans h2,fun i o ho hl hf => ?_⟩
   rcases hget i o ho hl with ⟨k,o0,ht,ho0,rfl⟩ | ⟨_,ht,_,o0,ho0,rfl⟩
   · rw[(hη1 ht).2.1] at hf
     rcases (hwr ho0 (mvO_live hl) hf).2 with h | h
     · omega
     · exact hns h
   · rw[(hη0 ht).2.1] at hf
     exact h3 i o0 ho0 (mvO_live hl) hf
 · simp only[mrg,List.mem_map] at hk'
   obtain⟨x,hx,he⟩:=hk'
   injection he with he1 he2;subst he1;subst he2
   exact mvT_ok hmD hro2 (I.gh _ _ hx)
 · simp only[mrg,List.getElem?_map] at hj
   obtain⟨s0,h1,rfl⟩:=Option.map_eq_some_iff.1 hj
   exact mvT_ok hmD hro2 (I.tm j s0 h1)
 · cases hl:o.live with
   | false=>cases o<;>first | trivial | simp[Ob.live] at hl
   | true =>
     rcases hget i o ho hl with ⟨k,o0,ht,ho0,rfl⟩ | ⟨_,ht,hni,o0,ho0,rfl⟩
     · exact (I2.ob k o0 ho0).move hmE hro1 (hη1 ht).1 (hη1 ht).2.2 (hη1 ht).2.1 (fun b _=>Cb.of_eq rfl) (fun _ b _=>rfl)
     · have hl0:=mvO_live hl
       exact (I.ob i o0 ho0).move hmD hro2 (hη0 ht).1 (hη0 ht).2.2 (hη0 ht).2.1 (fun b hf=>Cb.of_eq (hblk (I.fp i o0 b ho0 hl0 hf).1 (hapart hni ho0 hl0 hf))) (fun _ b hf=>hblk (I.fp i o0 b ho0 hl0 hf).1 (hapart hni ho0 hl0 hf))
 · rcases hget i o hi hl with ⟨k,o0,ht,ho0,rfl⟩ | ⟨hiN,ht,hni,o0,ho0,rfl⟩<;>rcases hget j o' hj hl' with ⟨k',o1,ht',ho1,rfl⟩ | ⟨hjN,ht',hnj,o1,ho1,rfl⟩
   · rw[(hη1 ht).2.1] at hb;rw[(hη1 ht').2.1] at hb'
     have:=I2.dj k k' o0 o1 b ho0 ho1 (mvO_live hl) (mvO_live hl') hb hb'
     subst this
     -- the same object of the callee's lies at one place
     have inj:∀ {i},tauF σ nk N i=some k→emF σ nk N k=some i:=by
       intro i h
       unfold tauF at h
       split at h
       · split at h
         · rename_i m hm
           split at h
           · rename_i hmk
             injection h with h;subst h
             unfold emF;rw[if_pos hmk,(idx_spec hm).2]
           · cases h
         · cases h
       · injection h with h;subst h
         unfold emF;rw[if_neg (by omega)];congr 1;omega
     have e1:=inj ht
     have e2:=inj ht'
     rw[e1] at e2;injection e2
   · rw[(hη1 ht).2.1] at hb;rw[(hη0 ht').2.1] at hb'
     rcases (hwr ho0 (mvO_live hl) hb).2 with h | h
     · have:=(I.fp j o1 b ho1 (mvO_live hl') hb').1;omega
     · exact absurd h (hapart hnj ho1 (mvO_live hl') hb')
   · rw[(hη0 ht).2.1] at hb;rw[(hη1 ht').2.1] at hb'
     rcases (hwr ho1 (mvO_live hl') hb').2 with h | h
     · have:=(I.fp i o0 b ho0 (mvO_live hl) hb).1;omega
     · exact absurd h (hapart hni ho0 (mvO_live hl) hb)
   · rw[(hη0 ht).2.1] at hb;rw[(hη0 ht').2.1] at hb'
     exact I.dj i j o0 o1 b ho0 ho1 (mvO_live hl) (mvO_live hl') hb hb'
 · rcases hget i o hi hl with ⟨k,o0,ht,ho0,rfl⟩ | ⟨_,ht,_,o0,ho0,rfl⟩
   · rw[(hη1 ht).2.1] at hb
     obtain⟨h1,h2⟩:=hwr ho0 (mvO_live hl) hb
     refine⟨h1,?_⟩
     rcases h2 with h | h
     · exact .inl (Nat.le_trans I.fr.size h)
     · exact (hsub h).2
   · rw[(hη0 ht).2.1] at hb
     obtain⟨h1,h2⟩:=I.fp i o0 b ho0 (mvO_live hl) hb
     exact⟨by omega,h2⟩
theorem calO_ok[Dn]{P:Program}{gl:List (Nat×Dat)}{Γ:List (FuncId×OCtr)}(hΓ:GoOk P gl Γ){w0:World}{M:Ms}{R0:Nat→Prop}(hB:BaseOk gl w0 M R0){A:Asg}{st:St}{a:Act}{w:World}(I:Inv w0 M R0 A st a w){f:FuncId}{args:List SV}{dst:Option Nat}{k:St→Prop}(h:calO Γ st f args dst k) :
   EntOk P f∧∀ {vals:List Value},All2 (SvOk w (Ro R0 w0.heap.size A st.ob w) A) args vals→Calls P f vals.toArray w fun e w'=>∃ v st' A',e = .returned v∧k st'∧Inv w0 M R0 A' st' (a.put dst v) w':=by
 unfold calO at h
 split at h
 · rename_i c hc
   simp only at h
   generalize hσe:reachA args st.ob=σ at h
   split at h
   · rename_i hchk
     simp only[Bool.and_eq_true,decide_eq_true_eq] at hchk
     obtain⟨⟨h1,h2⟩,h3⟩:=hchk
     have hnd:=nodupB_ok h1
     obtain⟨hent,hown⟩:=hΓ.look hc
     refine⟨hent,fun {vals} hargs => ?_⟩
     have Is:=I.sub hnd hargs
     refine (hown _ _ _ h w _ _ _ vals.toArray (hB.sub I σ) rfl Is).mono fun e w' hw => ?_
     obtain⟨v,s,ob',A',rfl,hk,I2,hkeep⟩:=hw
     obtain⟨A'',I3,hs⟩:=I.merge hnd (fun i hi=>by simpa using List.all_eq_true.1 h2 i hi) h3 hB.me I2 (fun i hi=>(hkeep i hi).trans rfl)
     exact⟨v,_,A'',rfl,hk,I3.put hs⟩
   · exact h.elim
 · exact h.elim
end Go.Vc
