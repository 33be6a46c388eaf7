import Derived.Test.YtfmiecbmikncpaaDoorTORowVC
namespace Go.Vc
open Go.RowKit
theorem off_append:∀ {t:Ty} {q r:List Nat} {o o2:Nat} {t' t2:Ty},off t q=some (o,t')→off t' r=some (o2,t2)→off t (q++r)=some (o+o2,t2):=by
 intro t
 induction t with
 | pr a b iha ihb =>
   intro q r o o2 t' t2 h h2
   match q with
   | []=>simp only[off,Option.some.injEq,Prod.mk.injEq] at h;obtain⟨rfl,rfl⟩:=h;simpa using h2
   | 0::q=>simp only[off,List.cons_append] at h ⊢;exact iha h h2
   | (f+1)::q =>
     simp only[off,List.cons_append] at h ⊢
     split at h
     · rename_i x hx
       simp only[Option.some.injEq,Prod.mk.injEq] at h
       obtain⟨rfl,rfl⟩:=h
       have:=ihb hx h2
       rw[List.cons_append] at this
       rw[this];simp[Nat.add_assoc]
     · cases h
 | ar n t ih =>
   intro q r o o2 t' t2 h h2
   match q with
   | []=>simp only[off,Option.some.injEq,Prod.mk.injEq] at h;obtain⟨rfl,rfl⟩:=h;simpa using h2
   | k::q =>
     simp only[off,List.cons_append] at h ⊢
     split at h
     · rename_i x hx
       simp only[Option.some.injEq,Prod.mk.injEq] at h
       obtain⟨rfl,rfl⟩:=h
       rw[ih hx h2];simp[Nat.add_assoc]
     · cases h
 | _ =>
   intro q r o o2 t' t2 h h2
   match q with
   | []=>simp only[off,Option.some.injEq,Prod.mk.injEq] at h;obtain⟨rfl,rfl⟩:=h;simpa using h2
   | _::_=>simp[off] at h
theorem vq_append:∀ {t:Ty} {q r:List Nat} {o:Nat} {t':Ty},off t q=some (o,t')→vq t q→vq t' r→vq t (q++r):=by
 intro t
 induction t with
 | pr a b iha ihb =>
   intro q r o t' h h1 h2
   match q with
   | []=>simp only[off,Option.some.injEq,Prod.mk.injEq] at h;obtain⟨rfl,rfl⟩:=h;simpa using h2
   | 0::q=>simp only[off,vq,List.cons_append] at h h1 ⊢;exact iha h h1 h2
   | (f+1)::q =>
     simp only[off,vq,List.cons_append] at h h1 ⊢
     split at h
     · rename_i x hx
       simp only[Option.some.injEq,Prod.mk.injEq] at h
       obtain⟨rfl,rfl⟩:=h
       exact ihb hx h1 h2
     · cases h
 | ar n t ih =>
   intro q r o t' h h1 h2
   match q with
   | []=>simp only[off,Option.some.injEq,Prod.mk.injEq] at h;obtain⟨rfl,rfl⟩:=h;simpa using h2
   | k::q =>
     simp only[off,vq,List.cons_append] at h h1 ⊢
     split at h
     · rename_i x hx
       simp only[Option.some.injEq,Prod.mk.injEq] at h
       obtain⟨rfl,rfl⟩:=h
       exact⟨h1.1,ih hx h1.2 h2⟩
     · cases h
 | _ =>
   intro q r o t' h h1 h2
   match q with
   | []=>simp only[off,Option.some.injEq,Prod.mk.injEq] at h;obtain⟨rfl,rfl⟩:=h;simpa using h2
   | _::_=>simp[off] at h
def isPr:Ty→Bool
 | .pr _ _=>true
 | _=>false
theorem Fit.fields[Dn]{P:Program}:∀ {t:Ty} {fs:Array Field} {f0 o0 f o2:Nat} {tf:Ty},Fit P t (.inr (fs,f0,o0))→off t [f]=some (o2,tf)→t ≠ .un →
   ∃ fld,fs[f0+f]?=some fld∧fld.offset=o0+o2∧tf.size≠0∧Fit P tf (.inl fld.type):=by
 intro t
 induction t with
 | pr a b iha ihb =>
   intro fs f0 o0 f o2 tf h ho _
   obtain⟨fld,h1,h2,h3,h4,h5⟩:=h
   match f with
   | 0 =>
     change off a []=some (o2,tf) at ho
     rw[off_nil] at ho
     simp only[Option.some.injEq,Prod.mk.injEq] at ho
     obtain⟨rfl,rfl⟩:=ho
     exact⟨fld,by simpa using h1,by simpa using h2,h3,h4⟩
   | f+1 =>
     simp only[off] at ho
     split at ho
     · rename_i x hx
       simp only[Option.some.injEq,Prod.mk.injEq] at ho
       obtain⟨rfl,rfl⟩:=ho
       have hb:b ≠ .un:=by rintro rfl;simp[off] at hx
       obtain⟨fld',k1,k2,k3,k4⟩:=ihb h5 hx hb
       exact⟨fld',by rw[← k1];congr 1;omega,by rw[k2];omega,k3,k4⟩
     · cases ho
 | un=>intro fs f0 o0 f o2 tf h ho hu;exact absurd rfl hu
 | _=>intro fs f0 o0 f o2 tf h ho _;exact h.elim
theorem Fit.field[Dn]{P:Program}{t:Ty}{S f o2:Nat}{tf:Ty}(h:Fit P t (.inl S))(hp:isPr t=true)(ho:off t [f]=some (o2,tf)) :
   ∃ fs fld,P.underlying S=some (.struct fs)∧fs[f]?=some fld∧fld.offset=o2∧tf.size≠0∧Fit P tf (.inl fld.type):=by
 cases t with
 | pr a b =>
   obtain⟨_,fs,fld,h0,h1,h2,h3,h4,h5⟩:=h
   match f with
   | 0 =>
     change off a []=some (o2,tf) at ho
     rw[off_nil] at ho
     simp only[Option.some.injEq,Prod.mk.injEq] at ho
     obtain⟨rfl,rfl⟩:=ho
     exact⟨fs,fld,h0,h1,h2,h3,h4⟩
   | f+1 =>
     simp only[off] at ho
     split at ho
     · rename_i x hx
       simp only[Option.some.injEq,Prod.mk.injEq] at ho
       obtain⟨rfl,rfl⟩:=ho
       have hb:b ≠ .un:=by rintro rfl;simp[off] at hx
       obtain⟨fld',k1,k2,k3,k4⟩:=h5.fields hx hb
       exact⟨fs,fld',h0,by rw[← k1];congr 1;omega,by rw[k2],k3,k4⟩
     · cases ho
 | _=>simp[isPr] at hp
theorem run_field[Dn]{P:Program}{t:Ty}{S f o2:Nat}{tf:Ty}(h:Fit P t (.inl S))(hp:isPr t=true)(ho:off t [f]=some (o2,tf))(ad:Addr)(w:World) :
   (Instr.fieldAt S (.pointer (some ad)) f).run P w = .ok (.pointer (some (ad.add o2))) w:=by
 obtain⟨fs,fld,h0,h1,h2,h3,h4⟩:=h.field hp ho
 simp[Instr.fieldAt,run_underlying h0,h1,Instr.sureAddr,fieldPlace,h4.size w,h3,h2]
def fa(ts:Ty)(f:Nat)(k:SV→Prop):SV→Prop
 | .pv t i q=>match off t q,off ts [f] with
   | some (_,t'),some _=>if t'=ts∧isPr ts=true then k (.pv t i (q++[f])) else False
   | _,_=>False
 | .ea t i kk q=>match off t q,off ts [f] with
   | some (_,t'),some _=>if t'=ts∧isPr ts=true then k (.ea t i kk (q++[f])) else False
   | _,_=>False
 | .ra t x=>if t=ts∧isPr ts=true then match sub t x [f] with
   | some ⟨t',y⟩=>k (.ra t' y)
   | none=>False else False
 | .ps i=>match off ts [f] with
   | some (o2,tf)=>if isPr ts=true then k (.pf tf i o2 []) else False
   | none=>False
 | .pf t i o0 q=>match off t q,off ts [f] with
   | some (_,t'),some _=>if t'=ts∧isPr ts=true then k (.pf t i o0 (q++[f])) else False
   | _,_=>False
 | .ta t i p kk q=>match off t q,off ts [f] with
   | some (_,t'),some _=>if t'=ts∧isPr ts=true then k (.ta t i p kk (q++[f])) else False
   | _,_=>False
 | _=>False
theorem Fit.vqr[Dn]{P:Program}:∀ {t:Ty} {fs:Array Field} {f0 o0 f:Nat} {r:Nat×Ty},Fit P t (.inr (fs,f0,o0))→off t [f]=some r→vq t [f]:=by
 intro t
 induction t with
 | pr a b iha ihb =>
   intro fs f0 o0 f r h ho
   obtain⟨fld,_,_,_,_,h5⟩:=h
   match f with
   | 0=>exact vq_nil a
   | f+1 =>
     simp only[off] at ho
     split at ho
     · rename_i x hx;exact ihb h5 hx
     · cases ho
 | un=>intro fs f0 o0 f r h ho;simp[off] at ho
 | _=>intro fs f0 o0 f r h ho;exact h.elim
theorem Fit.vql[Dn]{P:Program}{t:Ty}{S f:Nat}{r:Nat×Ty}(h:Fit P t (.inl S))(hp:isPr t=true)(ho:off t [f]=some r):vq t [f]:=by
 cases t with
 | pr a b =>
   obtain⟨_,fs,fld,_,_,_,_,_,h5⟩:=h
   match f with
   | 0=>exact vq_nil a
   | f+1 =>
     simp only[off] at ho
     split at ho
     · rename_i x hx;exact h5.vqr hx
     · cases ho
 | _=>simp[isPr] at hp
theorem fa_ok[Dn]{P:Program}{S f:Nat}{w:World}{ro:Nat→Prop}{A:Asg}{ts:Ty}(hf:Fit P ts (.inl S))
   {s:SV} {v:Value} (hs:SvOk w ro A s v) {k:SV→Prop} (h:fa ts f k s) :
   ∃ s' v',k s'∧SvOk w ro A s' v'∧∀ w'':World,(Instr.fieldAt S v f).run P w'' = .ok v' w'':=by
 unfold fa at h
 split at h
 · rename_i t i q
   split at h
   · rename_i o t' o2 hq hf2
     split at h
     · rename_i hh
       obtain⟨rfl,hp⟩:=hh
       obtain⟨o2,tf⟩:=o2
       obtain⟨hi,g,o',t'',hη,ho,hv,rfl⟩:=hs
       rw[hq] at ho;injection ho with ho;injection ho with ho ho';subst ho;subst ho'
       refine⟨_,_,h,⟨hi,g,o+o2,tf,hη,off_append hq hf2,vq_append hq hv (hf.vql hp hf2),rfl⟩,fun w'' => ?_⟩
       rw[run_field hf hp hf2,addr_add]
     · exact h.elim
   · exact h.elim
 · rename_i t i kk q
   split at h
   · rename_i o t' o2 hq hf2
     split at h
     · rename_i hh
       obtain⟨rfl,hp⟩:=hh
       obtain⟨o2,tf⟩:=o2
       obtain⟨hi,g,n,c,o',t'',hη,hkn,ho,hv,rfl⟩:=hs
       rw[hq] at ho;injection ho with ho;injection ho with ho ho';subst ho;subst ho'
       refine⟨_,_,h,⟨hi,g,n,c,o+o2,tf,hη,hkn,off_append hq hf2,vq_append hq hv (hf.vql hp hf2),rfl⟩,fun w'' => ?_⟩
       rw[run_field hf hp hf2,addr_add,Nat.add_assoc]
     · exact h.elim
   · exact h.elim
 · rename_i t x
   split at h
   · rename_i hh
     obtain⟨rfl,hp⟩:=hh
     split at h
     · rename_i t' y hy
       obtain⟨ad,us,rfl,hsp,hro,hc,hok⟩:=hs
       -- the field's offset
       have hex:∃ r,off t [f]=some r:=by
         have key:∀ (t:Ty) (x:t.D) (f:Nat) (d:Dat),sub t x [f]=some d→∃ r,off t [f]=some r:=by
           intro t
           induction t with
           | pr a b iha ihb =>
             intro x f d hd
             match f with
             | 0=>exact⟨_,off_nil a⟩
             | f+1 =>
               obtain⟨r,hr⟩:=ihb x.2 f d (by simpa [sub] using hd)
               exact⟨(a.size+r.1,r.2),by simp only[off,hr]⟩
           | ar n t _=>intro x f d hd;exact⟨(f*t.size+0,t),by simp only[off,off_nil]⟩
           | _=>intro x f d hd;simp[sub] at hd
         exact key t x f _ hy
       obtain⟨⟨o2,tf⟩,ho⟩:=hex
       obtain⟨x',e,hl,hx⟩:=sub_ok hok (hf.vql hp ho) ho
       rw[hy] at e;injection e with e;injection e with e1 e2;subst e1
       have e2':=eq_of_heq e2
       subst e2'
       refine⟨_,_,h,⟨ad.add o2,(us.drop o2).take t'.size,rfl,?_,?_,fun j u hj => ?_,hx⟩,fun w''=>run_field hf hp ho ad w''⟩
       · unfold Addr.add;split<;>simp[hsp]
       · have:(ad.add o2).block=ad.block:=by unfold Addr.add;split<;>rfl
         rw[this];exact hro
       · rw[addr_add_add ad hsp]
         rw[List.getElem?_take] at hj
         split at hj
         · rw[List.getElem?_drop] at hj;exact hc _ u hj
         · cases hj
     · exact h.elim
   · exact h.elim
 · rename_i i
   split at h
   · rename_i o2 tf ho
     split at h
     · rename_i hp
       obtain⟨hi,rfl,g,hη⟩:=hs
       refine⟨_,_,h,⟨hi,g,0,tf,hη,off_nil tf,vq_nil tf,rfl⟩,fun w'' => ?_⟩
       rw[hη,run_field hf hp ho,addr_add,Nat.zero_add,Nat.add_zero]
     · exact h.elim
   · exact h.elim
 · rename_i t i o0 q
   split at h
   · rename_i o t' o2 hq hf2
     split at h
     · rename_i hh
       obtain⟨rfl,hp⟩:=hh
       obtain⟨o2,tf⟩:=o2
       obtain⟨hi,g,o',t'',hη,ho,hv,rfl⟩:=hs
       rw[hq] at ho;injection ho with ho;injection ho with ho ho';subst ho;subst ho'
       refine⟨_,_,h,⟨hi,g,o+o2,tf,hη,off_append hq hf2,vq_append hq hv (hf.vql hp hf2),rfl⟩,fun w'' => ?_⟩
       rw[run_field hf hp hf2,addr_add,Nat.add_assoc]
     · exact h.elim
   · exact h.elim
 · rename_i t i p kk q
   split at h
   · rename_i o t' o2 hq hf2
     split at h
     · rename_i hh
       obtain⟨rfl,hp⟩:=hh
       obtain⟨o2,tf⟩:=o2
       obtain⟨hi,g,n,c,o',t'',hη,hkn,ho,hv,rfl⟩:=hs
       rw[hq] at ho;injection ho with ho;injection ho with ho ho';subst ho;subst ho'
       refine⟨_,_,h,⟨hi,g,n,c,o+o2,tf,hη,hkn,off_append hq hf2,vq_append hq hv (hf.vql hp hf2),rfl⟩,fun w'' => ?_⟩
       rw[run_field hf hp hf2,addr_add,Nat.add_assoc]
     · exact h.elim
   · exact h.elim
 · exact h.elim
theorem run_index_slice[Dn]{P:Program}{T e:TypeId}{t:Ty}(hu:P.underlying T=some (.slice e))(he:Fit P t (.inl e))(ad:Addr)(len cap:Nat)(k:IntKind)(n:Int)(h0:0≤n)(h1:n<len)(w:World) :
   (Instr.indexAt T (.slice (some ad) len cap) (.int k n)).run P w = .ok (.pointer (some (ad.add (n.toNat*t.size)))) w:=by
 simp[Instr.indexAt,run_underlying hu,asIntOf,h0,h1,he.size w]
theorem run_index_array[Dn]{P:Program}{T e:TypeId}{t:Ty}{m:Nat}(hu:P.underlying T=some (.array m e))(he:Fit P t (.inl e))(ad:Addr)(k:IntKind)(n:Int)(h0:0≤n)(h1:n<m)(w:World) :
   (Instr.indexAt T (.pointer (some ad)) (.int k n)).run P w = .ok (.pointer (some (ad.add (n.toNat*t.size)))) w:=by
 simp[Instr.indexAt,run_underlying hu,asIntOf,h0,h1,he.size w,Instr.sureAddr]
def iaT(tT:Ty)(n:Int)(i:Nat)(p:List Nat)(k:SV→Prop):(u:Ot)→u.D→Prop
 | .sl _ u,ys=>if tT = .sl u.er then 0≤n∧n<(List.length ys:Int)∧k (.ta u.er i p n.toNat []) else False
 | .d _,_=>False
def ia(st:St)(tT:Ty)(n:Int)(k:SV→Prop):SV→Prop
 | .os i=>match st.ob[i]? with
   | some (.row _ t xs)=>if tT = .sl t then 0≤n∧n<(xs.length:Int)∧k (.ea t i n.toNat []) else False
   | some (.trow _ u xs)=>if tT = .sl u.er then 0≤n∧n<(List.length xs:Int)∧k (.ta u.er i [] n.toNat []) else False
   | _=>False
 | .oc t i a=>match st.ob[i]? with
   | some (.row _ t' xs)=>if tT = .sl t∧t'=t then 0≤n∧n+(a:Int)<(xs.length:Int)∧k (.ea t i (a+n.toNat) []) else False
   | _=>False
 | .tv i p=>match st.ob[i]? with
   | some (.trow e u xs)=>(Ot.sl e u).get xs p (iaT tT n i p k)
   | _=>False
 | .pf t i o0 q=>match off t q with
   | some (_,.ar m t')=>if tT = .ar m t' then 0≤n∧n<(m:Int)∧k (.pf t i o0 (q++[n.toNat])) else False
   | _=>False
 | .ta t i p kk q=>match off t q with
   | some (_,.ar m t')=>if tT = .ar m t' then 0≤n∧n<(m:Int)∧k (.ta t i p kk (q++[n.toNat])) else False
   | _=>False
 | .d (.sl t) xs=>if tT = .sl t then 0≤n∧n<(xs.length:Int)∧k (.ra t (xs.getD n.toNat t.z)) else False
 | .pv t i q=>match off t q with
   | some (_,.ar m t')=>if tT = .ar m t' then 0≤n∧n<(m:Int)∧k (.pv t i (q++[n.toNat])) else False
   | _=>False
 | .ea t i kk q=>match off t q with
   | some (_,.ar m t')=>if tT = .ar m t' then 0≤n∧n<(m:Int)∧k (.ea t i kk (q++[n.toNat])) else False
   | _=>False
 | .ra (.ar m t) xs=>if tT = .ar m t then 0≤n∧n<(m:Int)∧k (.ra t (xs.getD n.toNat t.z)) else False
 | _=>False
theorem ia_ok[Dn]{P:Program}{T:Nat}{w0:World}{M:Ms}{R0:Nat→Prop}{A:Asg}{st:St}{a:Act}{w:World}(I:Inv w0 M R0 A st a w){tT:Ty}(hf:Fit P tT (.inl T))
   {s:SV} {v:Value} (hs:SvOk w (Ro R0 w0.heap.size A st.ob w) A s v) {kk:IntKind} {n:Int} {k:SV→Prop} (h:ia st tT n k s) :
   ∃ s' v',k s'∧SvOk w (Ro R0 w0.heap.size A st.ob w) A s' v'∧∀ w'':World,(Instr.indexAt T v (.int kk n)).run P w'' = .ok v' w'':=by
 unfold ia at h
 split at h
 · rename_i i
   split at h
   · rename_i e t xs hob
     split at h
     · rename_i ht;subst ht
       obtain⟨h0,h1,hk⟩:=h
       obtain⟨hi,rfl⟩:=hs
       obtain⟨css,hoks,hown,_⟩:=I.ob i _ hob
       obtain⟨_,e',hu,he⟩:=hf
       rcases hown.2 with ⟨_,he0⟩ | ⟨g,cap,cur,hη,_,hh,hnc,_,hcur,htake⟩
       · omega
       refine⟨_,_,hk,⟨hi,g,xs.length,cap,0,t,hη,by omega,off_nil t,vq_nil t,rfl⟩,fun w'' => ?_⟩
       rw[hη,run_index_slice hu he _ _ _ _ _ h0 h1,addr_add];simp
     · exact h.elim
   · rename_i e u xs hob
     split at h
     · rename_i ht;subst ht
       obtain⟨h0,h1,hk⟩:=h
       obtain⟨hi,rfl⟩:=hs
       obtain⟨hκ,hnd,_,_⟩:=I.ob i _ hob
       obtain⟨⟨css,_,_,hown⟩,_⟩:=hnd
       obtain⟨_,e',hu,he⟩:=hf
       rw[hκ] at hown
       rcases hown.2 with ⟨_,he0⟩ | ⟨g,cap,cur,hη,_,hh,hnc,_,hcur,htake⟩
       · have:(List.length xs:Int)=0:=by simp only[ls] at he0;omega
         omega
       refine⟨_,_,hk,⟨hi,g,_,cap,0,u.er,hκ.trans hη,by simp only[ls];omega,off_nil _,vq_nil _,rfl⟩,fun w'' => ?_⟩
       rw[hη,run_index_slice hu he _ _ _ _ _ h0 (by simpa [ls] using h1),addr_add];simp
     · exact h.elim
   · exact h.elim
 · rename_i t i a
   split at h
   · rename_i e t' xs hob
     split at h
     · rename_i ht;obtain⟨ht,ht'⟩:=ht;subst ht;subst ht'
       obtain⟨h0,h1,hk⟩:=h
       obtain⟨hi,g,m,c,hη,ham,rfl⟩:=hs
       obtain⟨css,hoks,hown,_⟩:=I.ob i _ hob
       obtain⟨_,e',hu,he⟩:=hf
       have hm:m=xs.length:=by
         rw[hη] at hown
         rcases hown.2 with ⟨e1,_⟩ | ⟨g',cap,cur,e1,_⟩
         · cases e1
         · injection e1
       subst hm
       refine⟨_,_,hk,⟨hi,g,xs.length,c,0,t',hη,by omega,off_nil _,vq_nil _,rfl⟩,fun w'' => ?_⟩
       rw[run_index_slice hu he _ _ _ _ _ h0 (by omega),addr_add,Nat.add_mul,Nat.add_zero]
     · exact h.elim
   · exact h.elim
 · rename_i i p
   split at h
   · rename_i e u xs hob
     obtain⟨hi,rfl,hone⟩:=hs
     obtain⟨_,hnd,_,_⟩:=I.ob i _ hob
     obtain⟨u',ys,hK,hn',hvp⟩:=Ot.get_spec hnd h
     unfold iaT at hK
     split at hK
     · rename_i e1 u1 ys'
       split at hK
       · rename_i ht;subst ht
         obtain⟨h0,h1,hk⟩:=hK
         obtain⟨⟨css,_,_,hown⟩,_⟩:=hn'
         obtain⟨_,e',hu,he⟩:=hf
         have hκ':atp (A.κ i) p []=A.κ i p:=by unfold atp;rw[List.append_nil]
         rw[hκ'] at hown
         rcases hown.2 with ⟨_,he0⟩ | ⟨g,cap,cur,hη,_,hh,hnc,_,hcur,htake⟩
         · have:(List.length ys':Int)=0:=by simp only[ls] at he0;omega
           omega
         refine⟨_,_,hk,⟨hi,g,_,cap,0,u1.er,hη,by simp only[ls];omega,off_nil _,vq_nil _,rfl⟩,fun w'' => ?_⟩
         rw[hη,run_index_slice hu he _ _ _ _ _ h0 (by simpa [ls] using h1),addr_add];simp
       · exact hK.elim
     · exact hK.elim
   · exact h.elim
 · rename_i t i o0 q
   split at h
   · rename_i o m t' hq
     split at h
     · rename_i ht;subst ht
       obtain⟨h0,h1,hk⟩:=h
       obtain⟨hi,g,o',t'',hη,ho,hv,rfl⟩:=hs
       rw[hq] at ho;injection ho with ho;injection ho with ho ho';subst ho;subst ho'
       obtain⟨_,e',hu,he⟩:=hf
       have ho2:off (.ar m t') [n.toNat]=some (n.toNat*t'.size,t'):=by simp only[off,off_nil,Nat.add_zero]
       refine⟨_,_,hk,⟨hi,g,_,t',hη,off_append hq ho2,vq_append hq hv ⟨by omega,vq_nil t'⟩,rfl⟩,fun w'' => ?_⟩
       rw[run_index_array hu he _ _ _ h0 h1,addr_add,Nat.add_assoc]
     · exact h.elim
   · exact h.elim
 · rename_i t i p kx q
   split at h
   · rename_i o m t' hq
     split at h
     · rename_i ht;subst ht
       obtain⟨h0,h1,hk⟩:=h
       obtain⟨hi,g,nn,c,o',t'',hη,hkn,ho,hv,rfl⟩:=hs
       rw[hq] at ho;injection ho with ho;injection ho with ho ho';subst ho;subst ho'
       obtain⟨_,e',hu,he⟩:=hf
       have ho2:off (.ar m t') [n.toNat]=some (n.toNat*t'.size,t'):=by simp only[off,off_nil,Nat.add_zero]
       refine⟨_,_,hk,⟨hi,g,nn,c,_,t',hη,hkn,off_append hq ho2,vq_append hq hv ⟨by omega,vq_nil t'⟩,rfl⟩,fun w'' => ?_⟩
       rw[run_index_array hu he _ _ _ h0 h1,addr_add,Nat.add_assoc]
     · exact h.elim
   · exact h.elim
 · rename_i t xs
   split at h
   · rename_i ht;subst ht
     obtain⟨h0,h1,hk⟩:=h
     have hs':Ty.ok w _ (.sl t) xs [v]:=hs
     obtain⟨Ad,c,e,hc1,hc2,hx⟩:=hs'
     injection e with e;subst e
     obtain⟨_,e',hu,he⟩:=hf
     have hne:xs≠[]:=by rintro rfl;simp at h1;omega
     obtain⟨ad,css,rfl,hsp,hro,hoks,hcell⟩:=hx hne
     obtain⟨u,hcu,hul,huo⟩:=hoks.at_ (k:=n.toNat) (by omega) t.z
     refine⟨_,_,hk,⟨ad.add (n.toNat*t.size),u,rfl,?_,?_,fun j x hj => ?_,huo⟩,fun w''=>run_index_slice hu he ad _ _ _ _ h0 h1 w''⟩
     · unfold Addr.add;split<;>simp[hsp]
     · have:(ad.add (n.toNat*t.size)).block=ad.block:=by unfold Addr.add;split<;>rfl
       rw[this];exact hro
     · rw[addr_add_add ad hsp]
       refine hcell _ x ?_
       have hfa:=flat_at hoks.all hcu
       rw[← hfa,List.getElem?_take] at hj
       split at hj
       · rw[List.getElem?_drop] at hj;exact hj
       · cases hj
   · exact h.elim
 · rename_i t i q
   split at h
   · rename_i o m t' hq
     split at h
     · rename_i ht;subst ht
       obtain⟨h0,h1,hk⟩:=h
       obtain⟨hi,g,o',t'',hη,ho,hv,rfl⟩:=hs
       rw[hq] at ho;injection ho with ho;injection ho with ho ho';subst ho;subst ho'
       obtain⟨_,e',hu,he⟩:=hf
       have ho2:off (.ar m t') [n.toNat]=some (n.toNat*t'.size,t'):=by simp only[off,off_nil,Nat.add_zero]
       refine⟨_,_,hk,⟨hi,g,_,t',hη,off_append hq ho2,vq_append hq hv ⟨by omega,vq_nil t'⟩,rfl⟩,fun w'' => ?_⟩
       rw[run_index_array hu he _ _ _ h0 h1,addr_add]
     · exact h.elim
   · exact h.elim
 · rename_i t i kx q
   split at h
   · rename_i o m t' hq
     split at h
     · rename_i ht;subst ht
       obtain⟨h0,h1,hk⟩:=h
       obtain⟨hi,g,nn,c,o',t'',hη,hkn,ho,hv,rfl⟩:=hs
       rw[hq] at ho;injection ho with ho;injection ho with ho ho';subst ho;subst ho'
       obtain⟨_,e',hu,he⟩:=hf
       have ho2:off (.ar m t') [n.toNat]=some (n.toNat*t'.size,t'):=by simp only[off,off_nil,Nat.add_zero]
       refine⟨_,_,hk,⟨hi,g,nn,c,_,t',hη,hkn,off_append hq ho2,vq_append hq hv ⟨by omega,vq_nil t'⟩,rfl⟩,fun w'' => ?_⟩
       rw[run_index_array hu he _ _ _ h0 h1,addr_add,Nat.add_assoc]
     · exact h.elim
   · exact h.elim
 · rename_i m t xs
   split at h
   · rename_i ht;subst ht
     obtain⟨h0,h1,hk⟩:=h
     obtain⟨ad,us,rfl,hsp,hro,hc,hok⟩:=hs
     obtain⟨_,e',hu,he⟩:=hf
     have ho2:off (.ar m t) [n.toNat]=some (n.toNat*t.size,t):=by simp only[off,off_nil,Nat.add_zero]
     obtain⟨x',e,hl,hx⟩:=sub_ok hok (show vq (.ar m t) [n.toNat] from ⟨by omega,vq_nil t⟩) ho2
     have hsn:∀ (y:t.D),sub t y []=some ⟨t,y⟩:=fun y=>by cases t<;>rfl
     simp only[sub,hsn,Option.some.injEq,Dat.mk.injEq,heq_eq_eq,true_and] at e
     subst e
     refine⟨_,_,hk,⟨ad.add (n.toNat*t.size),_,rfl,?_,?_,fun j x hj => ?_,hx⟩,fun w''=>run_index_array hu he ad _ _ h0 h1 w''⟩
     · unfold Addr.add;split<;>simp[hsp]
     · have:(ad.add (n.toNat*t.size)).block=ad.block:=by unfold Addr.add;split<;>rfl
       rw[this];exact hro
     · rw[addr_add_add ad hsp]
       rw[List.getElem?_take] at hj
       split at hj
       · rw[List.getElem?_drop] at hj;exact hc _ x hj
       · cases hj
   · exact h.elim
 · exact h.elim
end Go.Vc
