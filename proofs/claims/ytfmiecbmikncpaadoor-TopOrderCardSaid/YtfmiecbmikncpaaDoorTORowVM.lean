import Derived.Test.YtfmiecbmikncpaaDoorTORowVL
import Derived.Test.YtfmiecbmikncpaaDoorTORowVW
namespace Go.Vc
open Go.RowKit
def leS:SV→SV→Prop
 | _,.any=>True
 | .d t x,.d t' x'=>if h:t=t' then (h▸x)=x' else False
 | .bt b,.bt b'=>b=b'
 | .bt b,.d .bool b'=>b=b'
 | .d .bool b,.bt b'=>b=b'
 | .nils,.nils=>True
 | .nilp,.nilp=>True
 | .nils,.d (.sl _) xs=>xs=[]
 | .os i,.os j=>if i=j then True else False
 | .ps i,.ps j=>if i=j then True else False
 | .pv t i q,.pv t' i' q'=>if t=t'∧i=i' then q=q' else False
 | .pf t i o q,.pf t' i' o' q'=>if t=t'∧i=i'∧o=o' then q=q' else False
 | .ea t i k q,.ea t' i' k' q'=>if t=t'∧i=i'∧q=q' then k=k' else False
 | .oc t i a,.oc t' i' a'=>if t=t'∧i=i' then a=a' else False
 | .tv i p,.tv i' p'=>if i=i' then p=p' else False
 | .ra t x,.ra t' x'=>if h:t=t' then (h▸x)=x' else False
 | .fs t x,.fs t' x'=>if h:t=t' then (h▸x)=x' else False
 | .fs t x,.d (.sl t') x'=>if h:t=t' then (h▸x)=x' else False
 | _,_=>False
theorem leS_ok[Dn]{w:World}{ro:Nat→Prop}{A:Asg}{s s':SV}{v:Value}(h:leS s s')(hs:SvOk w ro A s v):SvOk w ro A s' v:=by
 unfold leS at h
 split at h
 · trivial
 · split at h
   · rename_i ht;subst ht;simp only at h;subst h;exact hs
   · exact h.elim
 · subst h;exact hs
 · subst h
   have hs':v = .bool _:=hs
   subst hs';exact okBool
 · subst h
   have hs':[v]=[Value.bool _]:=hs
   injection hs'
 · exact hs
 · exact hs
 · subst h
   have hs':v = .slice none 0 0:=hs
   subst hs'
   exact⟨none,0,rfl,Nat.zero_le _,Nat.zero_le _,fun h=>absurd rfl h⟩
 · split at h
   · rename_i hi;subst hi;exact hs
   · exact h.elim
 · split at h
   · rename_i hi;subst hi;exact hs
   · exact h.elim
 · split at h
   · rename_i hi;obtain⟨rfl,rfl⟩:=hi;subst h;exact hs
   · exact h.elim
 · split at h
   · rename_i hi;obtain⟨rfl,rfl,rfl⟩:=hi;subst h;exact hs
   · exact h.elim
 · split at h
   · rename_i hi;obtain⟨rfl,rfl,rfl⟩:=hi;subst h;exact hs
   · exact h.elim
 · split at h
   · rename_i hi;obtain⟨rfl,rfl⟩:=hi;subst h;exact hs
   · exact h.elim
 · split at h
   · rename_i hi;subst hi;subst h;exact hs
   · exact h.elim
 · split at h
   · rename_i ht;subst ht;simp only at h;subst h;exact hs
   · exact h.elim
 · split at h
   · rename_i ht;subst ht;simp only at h;subst h;exact hs
   · exact h.elim
 · split at h
   · rename_i ht;subst ht;simp only at h;subst h;exact hs.1
   · exact h.elim
 · exact h.elim
theorem leS_ok0[Dn]{w:World}{ro:Nat→Prop}{A:Asg}{s s':SV}{v:Value}(h:leS s s')(h1:s'.one=true)(hs:SvOk0 w ro A s v):SvOk0 w ro A s' v:=by
 have:=leS_ok h (sv_one hs)
 cases s' with
 | d t x=>exact this
 | os i=>exact this
 | bt b=>exact this
 | pv t i q=>exact this
 | pf t i o q=>exact this
 | ps i=>exact this
 | nils=>exact this
 | nilp=>exact this
 | _=>simp[SV.one] at h1
theorem leS_len{s s':SV}(h:leS s s')(h0:s.one=true)(h1:s'.one=true):s'.len=s.len:=by
 unfold leS at h
 split at h
 all_goals first
   | rfl
   | exact h.elim
   | (simp[SV.one] at h1;done)
   | (split at h
      · rename_i ht;subst ht;rfl
      · exact h.elim)
   | skip
def leTm:List SV→List SV→Prop
 | [],[]=>True
 | s::l,s'::l'=>match s' with
   | .any=>leTm l l'
   | s'=>leS s s'∧leTm l l'
 | _,_=>False
def leO:Ob→Ob→Prop
 | _,.dead=>True
 | .var e t x,.var e' t' x'=>if h:t=t' then e=e'∧(h▸x)=x' else False
 | .row e t xs,.row e' t' xs'=>if h:t=t' then e=e'∧(h▸xs)=xs' else False
 | .trow e u xs,.trow e' u' xs'=>if h:u=u'∧e=e' then (h.1▸h.2▸xs)=xs' else False
 | .st e l,.st e' l'=>if e=e'∧l'.all SV.one=true then leTm l l' else False
 | .mp n v es,.mp n' v' es'=>if h:v=v' then n=n'∧(h▸es:List (List Int×v'.D))=es' else False
 | _,_=>False
def leOb:List Ob→List Ob→Prop
 | [],[]=>True
 | o::l,o'::l'=>match o' with
   | .dead=>leOb l l'
   | o'=>leO o o'∧leOb l l'
 | _,_=>False
def reS(σ:List Nat):SV→SV
 | .os i=>match idx σ i with
   | some k => .os k
   | none => .any
 | .pv t i q=>match idx σ i with
   | some k => .pv t k q
   | none => .any
 | .ea t i n q=>match idx σ i with
   | some k => .ea t k n q
   | none => .any
 | .oc t i a=>match idx σ i with
   | some k => .oc t k a
   | none => .any
 | .ps i=>match idx σ i with
   | some k => .ps k
   | none => .any
 | .pf t i o q=>match idx σ i with
   | some k => .pf t k o q
   | none => .any
 | .tv i p=>match idx σ i with
   | some k => .tv k p
   | none => .any
 | .ta t i p n q=>match idx σ i with
   | some k => .ta t k p n q
   | none => .any
 | .ag _ => .any
 | .tp _ => .any
 | s=>s
def reO(σ:List Nat):Ob→Ob
 | .st e l=>if (l.map (reS σ)).all SV.one=true then .st e (l.map (reS σ)) else .dead
 | o=>o
def St.re(st:St)(σ:List Nat):St:=⟨st.tm.map (reS σ),σ.map fun i=>reO σ (st.ob.getD i .dead),st.gs.map fun x=>(x.1,reS σ x.2)⟩
theorem reS_ok0[Dn]{w:World}{ro ro':Nat→Prop}{A:Asg}{σ:List Nat}(hr:∀ b,ro b→ro' b){s:SV}{v:Value}(h:SvOk0 w ro A s v):SvOk0 w ro' (A.re σ) (reS σ s) v:=by
 have hr':∀ b,ro b→ro' b∧Kb w w b:=fun b hb=>⟨hr b hb,Kb.of_eq rfl⟩
 have hη:∀ {i k:Nat},idx σ i=some k→k<(A.re σ).n∧(A.re σ).η k=A.η i∧(A.re σ).κ k=A.κ i:=fun e=>⟨(idx_spec e).1,congrArg A.η (idx_spec e).2,congrArg A.κ (idx_spec e).2⟩
 cases s with
 | d t x=>exact SvOk0.keep (A:=A.re σ) (s := .d t x) hr' (Asg.le.refl (A.re σ)) h
 | bt b=>exact h
 | os i =>
   simp only[reS]
   split
   · rename_i k e;exact⟨(hη e).1,by rw[(hη e).2.1];exact h.2⟩
   · trivial
 | pv t i q =>
   simp only[reS]
   split
   · rename_i k e
     obtain⟨h1,h2⟩:=h
     exact⟨(hη e).1,by rw[(hη e).2.1];exact h2⟩
   · trivial
 | ea t i n q =>
   simp only[reS]
   split
   · rename_i k e
     obtain⟨h1,h2⟩:=h
     exact⟨(hη e).1,by rw[(hη e).2.1];exact h2⟩
   · trivial
 | oc t i a =>
   simp only[reS]
   split
   · rename_i k e
     obtain⟨h1,h2⟩:=h
     exact⟨(hη e).1,by rw[(hη e).2.1];exact h2⟩
   · trivial
 | ra t x=>exact SvOk0.keep (A:=A.re σ) (s := .ra t x) hr' (Asg.le.refl (A.re σ)) h
 | fs t x=>exact SvOk0.keep (A:=A.re σ) (s := .fs t x) hr' (Asg.le.refl (A.re σ)) h
 | ps i =>
   simp only[reS]
   split
   · rename_i k e
     obtain⟨h1,h2⟩:=h
     exact⟨(hη e).1,by rw[(hη e).2.1];exact h2⟩
   · trivial
 | pf t i o q =>
   simp only[reS]
   split
   · rename_i k e
     obtain⟨h1,h2⟩:=h
     exact⟨(hη e).1,by rw[(hη e).2.1];exact h2⟩
   · trivial
 | tv i p =>
   simp only[reS]
   split
   · rename_i k e
     obtain⟨h1,h2⟩:=h
     exact⟨(hη e).1,by rw[(hη e).2.2];exact h2⟩
   · trivial
 | ta t i p n q =>
   simp only[reS]
   split
   · rename_i k e
     obtain⟨h1,h2⟩:=h
     exact⟨(hη e).1,by rw[(hη e).2.2];exact h2⟩
   · trivial
 | nils=>exact h
 | nilp=>exact h
 | und=>exact h
 | any=>trivial
 | ag l=>trivial
 | tp l=>trivial
theorem reS_ok[Dn]{w:World}{ro ro':Nat→Prop}{A:Asg}{σ:List Nat}(hr:∀ b,ro b→ro' b){s:SV}{v:Value}(h:SvOk w ro A s v):SvOk w ro' (A.re σ) (reS σ s) v:=by
 have up:∀ {s:SV},(∀ l,s ≠ .ag l)→(∀ l,s ≠ .tp l)→SvOk0 w ro' (A.re σ) s v→SvOk w ro' (A.re σ) s v:=by
   intro s h1 h2 h
   cases s with
   | ag l=>exact absurd rfl (h1 l)
   | tp l=>exact absurd rfl (h2 l)
   | _=>exact h
 have nag:∀ s:SV,(∀ l,reS σ s ≠ .ag l)∧(∀ l,reS σ s ≠ .tp l):=by
   intro s
   cases s<;>simp only[reS]<;>(try split)<;>simp
 cases s with
 | ag l=>trivial
 | tp l=>trivial
 | d t x=>exact up (nag _).1 (nag _).2 (reS_ok0 (s := .d t x) hr h)
 | bt b=>exact up (nag _).1 (nag _).2 (reS_ok0 (s := .bt b) hr h)
 | os i=>exact up (nag _).1 (nag _).2 (reS_ok0 (s := .os i) hr h)
 | pv t i q=>exact up (nag _).1 (nag _).2 (reS_ok0 (s := .pv t i q) hr h)
 | ea t i k q=>exact up (nag _).1 (nag _).2 (reS_ok0 (s := .ea t i k q) hr h)
 | oc t i a=>exact up (nag _).1 (nag _).2 (reS_ok0 (s := .oc t i a) hr h)
 | ra t x=>exact up (nag _).1 (nag _).2 (reS_ok0 (s := .ra t x) hr h)
 | fs t x=>exact up (nag _).1 (nag _).2 (reS_ok0 (s := .fs t x) hr h)
 | ps i=>exact up (nag _).1 (nag _).2 (reS_ok0 (s := .ps i) hr h)
 | pf t i o q=>exact up (nag _).1 (nag _).2 (reS_ok0 (s := .pf t i o q) hr h)
 | tv i p=>exact up (nag _).1 (nag _).2 (reS_ok0 (s := .tv i p) hr h)
 | ta t i p k q=>exact up (nag _).1 (nag _).2 (reS_ok0 (s := .ta t i p k q) hr h)
 | nils=>exact h
 | nilp=>exact h
 | und=>exact h
 | any=>trivial
theorem reO_live{σ:List Nat}{o:Ob}(h:(reO σ o).live=true):o.live=true:=by
 cases o with
 | st e l=>rfl
 | _=>exact h
theorem reS_len{σ:List Nat}{s:SV}(h:s.one=true)(h2:(reS σ s).one=true):(reS σ s).len=s.len∧((reS σ s).nd=true→s.nd=true):=by
 cases s with
 | d t x=>exact⟨rfl,fun h=>h⟩
 | os i=>simp only[reS] at h2 ⊢;split<;>exact⟨rfl,fun _=>rfl⟩
 | pv t i q=>simp only[reS] at h2 ⊢;split<;>exact⟨rfl,fun _=>rfl⟩
 | ps i=>simp only[reS] at h2 ⊢;split<;>exact⟨rfl,fun _=>rfl⟩
 | pf t i o q=>simp only[reS] at h2 ⊢;split<;>exact⟨rfl,fun _=>rfl⟩
 | bt b=>exact⟨rfl,fun _=>rfl⟩
 | nils=>exact⟨rfl,fun _=>rfl⟩
 | nilp=>exact⟨rfl,fun _=>rfl⟩
 | _=>simp[SV.one] at h
theorem Inv.re[Dn]{w0:World}{M:Ms}{R0:Nat→Prop}{A:Asg}{st:St}{a:Act}{w:World}(I:Inv w0 M R0 A st a w){σ:List Nat}(hσ:σ.Nodup):Inv w0 M R0 (A.re σ) (st.re σ) a w:=by
 have hob:∀ (k:Nat) o,(st.re σ).ob[k]?=some o→∃ i,σ[k]?=some i∧σ.getD k 0=i∧o=reO σ (st.ob.getD i .dead):=by
   intro k o ho
   simp only[St.re,List.getElem?_map] at ho
   obtain⟨i,h1,h2⟩:=Option.map_eq_some_iff.1 ho
   exact⟨i,h1,by rw[List.getD_eq_getElem?_getD,h1];rfl,h2.symm⟩
 have hlv:∀ (i:Nat),(st.ob.getD i .dead).live=true→st.ob[i]?=some (st.ob.getD i .dead):=by
   intro i h
   rw[List.getD_eq_getElem?_getD] at h ⊢
   cases hq:st.ob[i]? with
   | none=>rw[hq] at h;cases h
   | some o=>rfl
 have hr:∀ b,Ro R0 w0.heap.size A st.ob w b→Ro R0 w0.heap.size (A.re σ) (st.re σ).ob w b:=by
   intro b ⟨h1,h2,h3⟩
   refine⟨h1,h2,fun k o ho hl hf => ?_⟩
   obtain⟨i,k1,k2,rfl⟩:=hob k o ho
   have hl:=reO_live hl
   have hf':A.F (σ.getD k 0) b:=hf
   rw[k2] at hf'
   exact h3 i _ (hlv i hl) hl hf'
 refine⟨I.fr,I.defers,fun D hD => ?_,by simp[Asg.re,St.re],by rw[I.len];simp[St.re],fun k sv hk => ?_,fun j sv hj => ?_,fun k o ho => ?_,fun k1 k2 o o' b hi hj hl hl' hb hb' => ?_,fun k o b hi hl hb => ?_⟩
 · obtain⟨h1,h2,h3⟩:=I.mks D hD
   refine⟨h1,h2,fun k o ho hl hf => ?_⟩
   obtain⟨i,k1,k2,rfl⟩:=hob k o ho
   have hl:=reO_live hl
   have hf':A.F (σ.getD k 0) D:=hf
   rw[k2] at hf'
   exact h3 i _ (hlv i hl) hl hf'
 · simp only[St.re,List.mem_map] at hk
   obtain⟨x,hx,he⟩:=hk
   injection he with he1 he2;subst he1;subst he2
   exact reS_ok hr (I.gh _ _ hx)
 · simp only[St.re,List.getElem?_map] at hj
   obtain⟨s,h1,rfl⟩:=Option.map_eq_some_iff.1 hj
   exact reS_ok hr (I.tm j s h1)
 · obtain⟨i,k1,k2,rfl⟩:=hob k o ho
   cases hd:(st.ob.getD i .dead).live with
   | false =>
     have:st.ob.getD i .dead = .dead:=by
       cases hx:st.ob.getD i .dead<;>first | rfl | (rw[hx] at hd;cases hd)
     rw[this];trivial
   | true =>
     have hη:(A.re σ).η k=A.η i:=congrArg A.η k2
     have hF:(A.re σ).F k=A.F i:=congrArg A.F k2
     have hκ:(A.re σ).κ k=A.κ i:=congrArg A.κ k2
     have hr':∀ b,Ro R0 w0.heap.size A st.ob w b→Ro R0 w0.heap.size (A.re σ) (st.re σ).ob w b∧Kb w w b:=fun b hb=>⟨hr b hb,Kb.of_eq rfl⟩
     have h:=I.ob i _ (hlv i hd)
     generalize st.ob.getD i .dead=o0 at h
     cases o0 with
     | var e t x =>
       obtain⟨g,cs,e1,hf,hh,hok⟩:=h
       exact⟨g,cs,hη.trans e1,by rw[hF];exact hf,hh,ok_mono hr (fun _ _=>rfl) hok⟩
     | row e t xs =>
       obtain⟨css,hok,hown,hf⟩:=h
       exact⟨css,hok.mono fun x u hu=>⟨hu.1,ok_mono hr (fun _ _=>rfl) hu.2⟩,by rw[hη];exact hown,by rw[hη,hF];exact hf⟩
     | st e l =>
       obtain⟨g,cs,e1,hf,hh,hok⟩:=h
       simp only[reO]
       split
       · rename_i hone
         exact⟨g,cs,hη.trans e1,by rw[hF];exact hf,hh,hok.map hone fun s v h1 h2 h3=>⟨reS_ok0 hr h3,reS_len h1 h2⟩⟩
       · trivial
     | trow e u xs =>
       obtain⟨h1,h2,h3,h4⟩:=h
       exact⟨by rw[hκ,hη];exact h1,by rw[hκ];exact Ot.nd_keep hr' (fun _ _ _ _=>Cb.of_eq rfl) h2,by rw[hκ];exact h3,by rw[hκ,hF];exact h4⟩
     | mp n v es =>
       obtain⟨g,es',clock,e1,hf,hh,hl,hok⟩:=h
       exact⟨g,es',clock,hη.trans e1,by rw[hF];exact hf,hh,hl,fun j x e h1 h2=>⟨(hok j x e h1 h2).1,(hok j x e h1 h2).2.1,okV_mono hr (fun _ _=>rfl) (hok j x e h1 h2).2.2⟩⟩
     | dead=>trivial
 · obtain⟨i,a1,a2,rfl⟩:=hob k1 o hi
   obtain⟨j,b1,b2,rfl⟩:=hob k2 o' hj
   have hl:=reO_live hl
   have hl':=reO_live hl'
   have hb1:A.F (σ.getD k1 0) b:=hb
   have hb2:A.F (σ.getD k2 0) b:=hb'
   rw[a2] at hb1;rw[b2] at hb2
   have:=I.dj i j _ _ b (hlv i hl) (hlv j hl') hl hl' hb1 hb2
   subst this
   have e1:=List.getElem?_eq_some_iff.1 a1
   have e2:=List.getElem?_eq_some_iff.1 b1
   rcases Nat.lt_trichotomy k1 k2 with hlt | he | hlt
   · exact absurd (e1.2.trans e2.2.symm) (List.pairwise_iff_getElem.1 hσ k1 k2 e1.1 e2.1 hlt)
   · exact he
   · exact absurd (e2.2.trans e1.2.symm) (List.pairwise_iff_getElem.1 hσ k2 k1 e2.1 e1.1 hlt)
 · obtain⟨i,a1,a2,rfl⟩:=hob k o hi
   have hl:=reO_live hl
   have hb1:A.F (σ.getD k 0) b:=hb
   rw[a2] at hb1
   exact I.fp i _ b (hlv i hl) hl hb1
def leG:List (GK×SV)→List (GK×SV)→Prop
 | [],[]=>True
 | x::l,x'::l'=>if x.1=x'.1 then match x'.2 with
     | .any=>leG l l'
     | s'=>leS x.2 s'∧leG l l'
   else False
 | _,_=>False
theorem leG_ok:∀ {l l':List (GK×SV)},leG l l'→∀ k s',(k,s')∈l'→∃ s,(k,s)∈l∧leS s s'
 | [],[],_=>fun k s' h=>by cases h
 | x::l,x'::l',h=>by
   have key:x.1=x'.1∧leS x.2 x'.2∧leG l l':=by
     unfold leG at h
     split at h
     · rename_i he
       split at h
       · rename_i hx;rw[hx];exact⟨he,by cases x.2<;>trivial,h⟩
       · exact⟨he,h⟩
     · exact h.elim
   obtain⟨h1,h2,h3⟩:=key
   intro k s' hk
   rcases List.mem_cons.1 hk with hk | hk
   · subst hk
     have h1':x.1=k:=h1
     subst h1'
     exact⟨x.2,List.mem_cons_self ..,h2⟩
   · obtain⟨s,k1,k2⟩:=leG_ok h3 k s' hk
     exact⟨s,List.mem_cons_of_mem _ k1,k2⟩
 | [],_::_,h=>h.elim
 | _::_,[],h=>h.elim
def St.leA(st st':St):Prop:=leTm st.tm st'.tm∧leOb st.ob st'.ob∧leG st.gs st'.gs
def permT:List Nat→List SV→List SV→List Nat
 | σ,s::l,s'::l'=>match s,s' with
   | .os i,.os k=>permT (σ.set k i) l l'
   | .ps i,.ps k=>permT (σ.set k i) l l'
   | .pv _ i _,.pv _ k _=>permT (σ.set k i) l l'
   | _,_=>permT σ l l'
 | σ,_,_=>σ
def permG:List Nat→List (GK×SV)→List (GK×SV)→List Nat
 | σ,x::l,x'::l'=>permG (permT σ [x.2] [x'.2]) l l'
 | σ,_,_=>σ
def permO(ob:List Ob):List Nat→Nat→List Ob→List Nat
 | σ,_,[]=>σ
 | σ,k,o'::r=>match o' with
   | .st _ l'=>match ob.getD (σ.getD k 0) .dead with
     | .st _ l=>permO ob (permT σ l l') (k+1) r
     | _=>permO ob σ (k+1) r
   | _=>permO ob σ (k+1) r
def St.perm(st st':St):List Nat:=permO st.ob (permO st.ob (permG (permT (List.range st'.ob.length) st.tm st'.tm) st.gs st'.gs) 0 st'.ob) 0 st'.ob
def St.le(st st':St):Prop :=
 match nodupB (st.perm st') with
 | true=>(st.re (st.perm st')).leA st'
 | false=>False
theorem leTm_ok:∀ {l l':List SV},leTm l l'→l.length=l'.length∧∀ (j:Nat) s',l'[j]?=some s'→∃ s,l[j]?=some s∧leS s s'
 | [],[],_=>⟨rfl,fun j s' h=>by simp at h⟩
 | s::l,s'::l',h=>by
   have key:leS s s'∧leTm l l':=by
     unfold leTm at h
     split at h
     · exact⟨by cases s<;>trivial,h⟩
     · exact h
   obtain⟨h1,h2⟩:=key
   obtain⟨k1,k2⟩:=leTm_ok h2
   refine⟨by simp[k1],fun j x hx => ?_⟩
   cases j with
   | zero=>simp at hx;subst hx;exact⟨s,rfl,h1⟩
   | succ j=>simpa using k2 j x (by simpa using hx)
 | [],_::_,h=>h.elim
 | _::_,[],h=>h.elim
theorem leOb_ok:∀ {l l':List Ob},leOb l l'→l.length=l'.length∧∀ (j:Nat) s',l'[j]?=some s'→∃ s,l[j]?=some s∧leO s s'
 | [],[],_=>⟨rfl,fun j s' h=>by simp at h⟩
 | s::l,s'::l',h=>by
   have key:leO s s'∧leOb l l':=by
     unfold leOb at h
     split at h
     · exact⟨by cases s<;>trivial,h⟩
     · exact h
   obtain⟨h1,h2⟩:=key
   obtain⟨k1,k2⟩:=leOb_ok h2
   refine⟨by simp[k1],fun j x hx => ?_⟩
   cases j with
   | zero=>simp at hx;subst hx;exact⟨s,rfl,h1⟩
   | succ j=>simpa using k2 j x (by simpa using hx)
 | [],_::_,h=>h.elim
 | _::_,[],h=>h.elim
theorem one_cell0{w:World}{ro:Nat→Prop}{A:Asg}{b:Bool}{v:Value}(h:SvOk0 w ro A (.bt b) v):v.oneCell'=true:=by
 have h':v = .bool b:=h
 subst h';rfl
theorem leS_nd[Dn]{w:World}{ro:Nat→Prop}{A:Asg}{s s':SV}{v:Value}(h:leS s s')(h1:s'.one=true)(hn:s'.nd=true)(hs:SvOk0 w ro A s v)(ho:s.nd=true→v.oneCell'=true):v.oneCell'=true:=by
 cases s with
 | d t x =>
   cases s' with
   | bt b=>exact one_cell0 (leS_ok0 h h1 hs)
   | d t' x'=>simp[SV.nd] at hn
   | os i=>exact h.elim
   | pv t i q=>exact h.elim
   | pf t i o q=>exact h.elim
   | ps i=>exact h.elim
   | nils=>exact h.elim
   | nilp=>exact h.elim
   | _=>simp[SV.one] at h1
 | _=>exact ho rfl
theorem leO_ok[Dn]{w:World}{ro:Nat→Prop}{A:Asg}{i:Nat}{o o':Ob}(h:leO o o')(ho:ObOk w ro A i o):ObOk w ro A i o'∧(o'.live=true→o.live=true):=by
 unfold leO at h
 split at h
 · exact⟨trivial,fun h=>by simp[Ob.live] at h⟩
 · split at h
   · rename_i ht;subst ht
     obtain⟨rfl,h2⟩:=h
     simp only at h2;subst h2
     exact⟨ho,fun _=>rfl⟩
   · exact h.elim
 · split at h
   · rename_i ht;subst ht
     obtain⟨rfl,h2⟩:=h
     simp only at h2;subst h2
     exact⟨ho,fun _=>rfl⟩
   · exact h.elim
 · split at h
   · rename_i ht
     obtain⟨ht1,ht2⟩:=ht
     subst ht1;subst ht2
     simp only at h;subst h
     exact⟨ho,fun _=>rfl⟩
   · exact h.elim
 · split at h
   · rename_i hh
     obtain⟨rfl,hone⟩:=hh
     obtain⟨g,cs,e1,hf,hg,css,c1,c2,c3⟩:=ho
     obtain⟨t1,t2⟩:=leTm_ok h
     refine⟨⟨g,cs,e1,hf,hg,css,c1,c2.trans t1,fun j s u hj hu => ?_⟩,fun _=>rfl⟩
     obtain⟨s0,k1,k2⟩:=t2 j s hj
     obtain⟨m1,m2,v,m3,m4,m5⟩:=c3 j s0 u k1 hu
     have hso:=List.all_eq_true.1 hone s (List.mem_of_getElem? hj)
     exact⟨hso,by rw[m2,leS_len k2 m1 hso],v,m3,leS_ok0 k2 hso m4,fun hn=>leS_nd k2 hso hn m4 m5⟩
   · exact h.elim
 · split at h
   · rename_i hv;subst hv
     obtain⟨rfl,h2⟩:=h
     simp only at h2;subst h2
     exact⟨ho,fun _=>rfl⟩
   · exact h.elim
 · exact h.elim
theorem Inv.leA[Dn]{w0:World}{M:Ms}{R0:Nat→Prop}{A:Asg}{st st':St}{a:Act}{w:World}(I:Inv w0 M R0 A st a w)(h:st.leA st'):Inv w0 M R0 A st' a w:=by
 obtain⟨t1,t2⟩:=leTm_ok h.1
 obtain⟨o1,o2⟩:=leOb_ok h.2.1
 have hro:∀ b,Ro R0 w0.heap.size A st.ob w b→Ro R0 w0.heap.size A st'.ob w b∧Kb w w b:=by
   intro b ⟨h1,h2,h3⟩
   refine⟨⟨h1,h2,fun i o ho hl hf => ?_⟩,Kb.of_eq rfl⟩
   obtain⟨o0,k1,k2⟩:=o2 i o ho
   exact h3 i o0 k1 ((leO_ok k2 (I.ob i o0 k1)).2 hl) hf
 refine⟨I.fr,I.defers,fun D hD => ?_,I.num.trans o1,I.len.trans t1,fun k sv hk => ?_,fun j sv hj => ?_,fun i o ho => ?_,fun i j o o' b hi hj hl hl' => ?_,fun i o b hi hl => ?_⟩
 · obtain⟨h1,h2,h3⟩:=I.mks D hD
   refine⟨h1,h2,fun i o ho hl hf => ?_⟩
   obtain⟨o0,k1,k2⟩:=o2 i o ho
   exact h3 i o0 k1 ((leO_ok k2 (I.ob i o0 k1)).2 hl) hf
 · obtain⟨s,k1,k2⟩:=leG_ok h.2.2 k sv hk
   exact leS_ok k2 ((I.gh k s k1).keep hro (Asg.le.refl A))
 · obtain⟨s,k1,k2⟩:=t2 j sv hj
   exact leS_ok k2 ((I.tm j s k1).keep hro (Asg.le.refl A))
 · obtain⟨o0,k1,k2⟩:=o2 i o ho
   have hi:i<A.n:=by rw[I.num];exact (List.getElem?_eq_some_iff.1 k1).1
   exact (leO_ok k2 ((I.ob i o0 k1).keep hro (Asg.le.refl A) hi (fun _=>Iff.rfl) (fun _ _=>Cb.of_eq rfl) (fun _ _ _=>rfl))).1
 · obtain⟨o0,k1,k2⟩:=o2 i o hi
   obtain⟨o0',m1,m2⟩:=o2 j o' hj
   exact I.dj i j o0 o0' b k1 m1 ((leO_ok k2 (I.ob i o0 k1)).2 hl) ((leO_ok m2 (I.ob j o0' m1)).2 hl')
 · obtain⟨o0,k1,k2⟩:=o2 i o hi
   exact I.fp i o0 b k1 ((leO_ok k2 (I.ob i o0 k1)).2 hl)
theorem Inv.le[Dn]{w0:World}{M:Ms}{R0:Nat→Prop}{A:Asg}{st st':St}{a:Act}{w:World}(I:Inv w0 M R0 A st a w)(h:st.le st'):∃ A',Inv w0 M R0 A' st' a w:=by
 unfold St.le at h
 split at h
 · rename_i hn
   exact⟨_,(I.re (nodupB_ok hn)).leA h⟩
 · exact h.elim
end Go.Vc
