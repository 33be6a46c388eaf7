import Derived.Test.YtfmiecbmikncpaaDoorTORowVH
import Derived.Lib.AppendZeros
import Derived.Maps.AppendAt
import Derived.ArgAppend
namespace Go.Vc
open Go.RowKit
def St.push(st:St)(o:Ob):St:={ st with ob:=st.ob++[o] }
def St.setOb(st:St)(i:Nat)(o:Ob):St:={ st with ob:=st.ob.set i o }
theorem spl_take(cs:List Value)(p n:Nat)(us:List Value)(h:p+us.length≤n)(hn:n≤cs.length):(spl cs p us).take n=spl (cs.take n) p us:=by
 simp only[spl]
 have h1:(cs.take p).length=p:=by simp;omega
 rw[show n=((cs.take p)++us).length+(n - (p+us.length)) by simp;omega,take_app]
 rw[show ((cs.take p)++us).length+(n - (p+us.length))=n by simp;omega]
 rw[List.take_take,Nat.min_eq_left (by omega),List.drop_take]
theorem run_storeVar[Dn]{P:Program}{t:Ty}{T:TypeId}(hf:Fit P t (.inl T)){w w1:World}{ro:Nat→Prop}{y:t.D}{v:Value}(hv:t.okV w1 ro y v){g o:Nat}{cur:Array Value}{e:TypeId}(hg:w.heap[g]?=some (.cells cur e (0,0)))(hl:o+t.size≤cur.size) :
   (storeVar T ⟨g,o,none⟩ v).run P w = .ok () (w.setRow g (spl cur.toList o v.cells.toList).toArray):=by
 have hc:=okV_cells hv
 have hsz:v.cells.size=t.size:=by simpa using ok_len hc
 have h1:=run_storeCells_at P g o e v.cells.toList 0 cur w hg (by simp[hsz];omega) (ok_one hc)
 unfold storeVar
 simp only[Sem.run_bind,hf.size w,Result.andThen_ok,hsz]
 simp only[ne_eq,not_true_eq_false,if_false]
 simpa [spl] using h1
def stH(st:St)(n:Nat)(t:Ty)(q:List Nat)(x:SV):Option SV :=
 match q with
 | []=>if t.agg=false∧n=1 then pcV st x else none
 | _::_=>none
def stC(st:St)(s:SV)(t0 t:Ty)(q:List Nat)(x:SV):Option SV :=
 match s with
 | .d t1 x1=>if t1=t0 then match asT t x with
     | some y=>match upd t1 x1 q ⟨t,y⟩ with
       | some x'=>some (.d t1 x')
       | none=>none
     | none=>stH st (SV.d t1 x1).len t q x
   else none
 | s=>stH st s.len t q x
def sto(st:St)(t:Ty)(x:SV)(k:St→Prop):SV→Prop
 | .pv t0 i q=>match st.ob[i]? with
   | some (.var e t1 x1)=>if t1=t0 then match asT t x with
     | some y=>match upd t1 x1 q ⟨t,y⟩ with
       | some x'=>k (st.setOb i (.var e t1 x'))
       | none=>False
     | none=>match stC st (.d t1 x1) t0 t q x with
       | some s'=>k (st.setOb i (.st e [s']))
       | none=>False
     else False
   | some (.st e l)=>match chk l 0 with
     | some s=>match stC st s t0 t q x with
       | some s'=>k (st.setOb i (.st e (chs l 0 s')))
       | none=>False
     | none=>False
   | _=>False
 | .ea t0 i kk q=>match st.ob[i]? with
   | some (.row e t1 xs)=>if t1=t0 then match asT t x with
     | some y=>match upd t1 (xs.getD kk t1.z) q ⟨t,y⟩ with
       | some x'=>k (st.setOb i (.row e t1 (xs.set kk x')))
       | none=>False
     | none=>False else False
   | _=>False
 | .pf t0 i o q=>match st.ob[i]? with
   | some (.st e l)=>match chk l o with
     | some s=>match stC st s t0 t q x with
       | some s'=>k (st.setOb i (.st e (chs l o s')))
       | none=>False
     | none=>False
   | _=>False
 | _=>False
theorem off_of_upd[Dn]:∀ {t:Ty} {x:t.D} {q:List Nat} {y:Dat} {x':t.D},upd t x q y=some x'→∃ o,off t q=some (o,y.t):=by
 intro t
 induction t with
 | pr a b iha ihb =>
   intro x q y x' h
   match q with
   | [] =>
     simp only[upd] at h
     split at h
     · rename_i e;exact⟨0,by rw[off_nil,e]⟩
     · cases h
   | 0::q =>
     simp only[upd] at h
     split at h
     · rename_i u hu;exact iha hu
     · cases h
   | (f+1)::q =>
     simp only[upd] at h
     split at h
     · rename_i u hu
       obtain⟨o,ho⟩:=ihb hu
       exact⟨a.size+o,by simp only[off,ho]⟩
     · cases h
 | ar n t ih =>
   intro x q y x' h
   match q with
   | [] =>
     simp only[upd] at h
     split at h
     · rename_i e;exact⟨0,by rw[off_nil,e]⟩
     · cases h
   | k::q =>
     simp only[upd] at h
     split at h
     · rename_i u hu
       obtain⟨o,ho⟩:=ih hu
       exact⟨k*t.size+o,by simp only[off,ho]⟩
     · cases h
 | _ =>
   intro x q y x' h
   match q with
   | [] =>
     simp only[upd] at h
     split at h
     · rename_i e;exact⟨0,by rw[off_nil,e]⟩
     · cases h
   | _::_=>simp[upd] at h
theorem sto_pf[Dn]{P:Program}{T:TypeId}{w0:World}{M:Ms}{R0:Nat→Prop}{A:Asg}{st:St}{a:Act}{w:World}(I:Inv w0 M R0 A st a w){t:Ty}(hf:Fit P t (.inl T))
   {t0:Ty} {i o:Nat} {q:List Nat} {x:SV} {v u:Value} (hs:SvOk0 w (Ro R0 w0.heap.size A st.ob w) A (.pf t0 i o q) v) (hx:SvOk w (Ro R0 w0.heap.size A st.ob w) A x u)
   {e:TypeId} {l:List SV} (hob:st.ob[i]?=some (.st e l)) {s s':SV} (hck:chk l o=some s) (h:stC st s t0 t q x=some s') :
   ∃ w',Inv w0 M R0 A { st with ob:=st.ob.set i (.st e (chs l o s')) } a w'∧(Instr.storeAt T v u).run P w = .ok () w':=by
 obtain⟨_,g,o',t',hη,ho,hv,rfl⟩:=hs
 obtain⟨g',cs,hη',hFg,hh,css,hcs,hl,hch⟩:=I.ob i _ hob
 rw[hη] at hη';injection hη' with hη';injection hη' with hη';injection hη' with hη';subst hη'
 obtain⟨j,us,hj,hus,hle,hdt,hset⟩:=chk_spec hl (fun j s u h1 h2=>(hch j s u h1 h2).2.1) hck
 obtain⟨hset1,hset2⟩:=hset s'
 obtain⟨h1,hul,vv,huv,hsv,hcell1⟩:=hch j s us hj hus
 have hjl:j<l.length:=(List.getElem?_eq_some_iff.1 hj).1
 have hjc:j<css.length:=by omega
 have hcsl:cs.toList.length=css.flatten.length:=by rw[hcs]
 -- what is written,and what the piece is then
 have key:∃ us':List Value,us'.length=us.length∧s'.one=true∧s'.len=s.len∧ChOk w (Ro R0 w0.heap.size A st.ob w) A s' us' ∧
     (storeVar T ⟨g,o+o',none⟩ u).run P w = .ok () (w.setRow g (spl cs.toList o us').toArray):=by
   have hd:∀ {n:Nat},n=s.len→stH st n t q x=some s'→∃ us':List Value,us'.length=us.length∧s'.one=true∧s'.len=s.len∧ChOk w (Ro R0 w0.heap.size A st.ob w) A s' us' ∧
       (storeVar T ⟨g,o+o',none⟩ u).run P w = .ok () (w.setRow g (spl cs.toList o us').toArray):=by
     intro s0 hs0 h
     unfold stH at h
     split at h
     · split at h
       · rename_i hh0
         obtain⟨hag,hsl⟩:=hh0
         rw[off_nil] at ho
         injection ho with ho;injection ho with ho1 ho2;subst ho1;subst ho2
         obtain⟨k1,k2,k3,k4⟩:=pcV_ok I h hx
         refine⟨[u],by rw[hul,← hs0,hsl];rfl,k3,by rw[k4,← hs0,hsl],⟨u,(one_cells k2).symm,k1,fun _=>k2⟩,?_⟩
         have hcells:=one_cells k2
         have hsz:u.cells.size=1:=by rw[← Array.length_toList,hcells];rfl
         have hr:=run_storeCells_at P g o e [u] 0 cs w hh (by simp only[Nat.add_zero,List.length_singleton,← Array.length_toList,hcsl];omega) (by simpa using k2)
         unfold storeVar
         simp only[Sem.run_bind,hf.size w,Result.andThen_ok,hsz,size_one hag,ne_eq,not_true_eq_false,if_false,hcells,Nat.add_zero] at hr ⊢
         rw[hr]
         simp[spl]
       · cases h
     · cases h
   unfold stC at h
   split at h
   · rename_i t1 x1
     split at h
     · rename_i ht;subst ht
       split at h
       · rename_i y hy
         split at h
         · rename_i x' hu
           injection h with h;subst h
           have hyv:=asT_ok hy hx
           obtain⟨o2,ho2⟩:=off_of_upd hu
           rw[ho] at ho2;injection ho2 with ho2;injection ho2 with e1 e2;subst e1;subst e2
           have hok:t1.ok w (Ro R0 w0.heap.size A st.ob w) x1 us:=by rw[huv];exact okV_cells hsv
           obtain⟨_,_,hlt,_⟩:=sub_ok hok hv ho
           have hnew:=upd_ok hok hv ho hu (okV_cells hyv)
           have hnl:=ok_len hnew
           have hvl:=ok_len (okV_cells hyv)
           have hul':us.length=t1.size:=hul
           refine⟨spl us o' u.cells.toList,by rw[hnl,hul'],rfl,rfl,⟨t1.mk (spl us o' u.cells.toList),(mk_cells hnl (ok_one hnew)).symm,okV_mk hnew,(fun h=>by cases h)⟩,?_⟩
           have hle':o+t1.size≤css.flatten.length:=hle
           have hr:=run_storeVar hf hyv hh (o:=o+o') (by simp only[← Array.length_toList,hcsl];omega)
           rw[hr]
           have hdt':(cs.toList.drop o).take t1.size=us:=by rw[hcs];exact hdt
           rw[← hdt',spl_spl _ _ _ _ _ (by rw[hcsl];omega) (by omega)]
         · cases h
       · exact hd rfl h
     · cases h
   · exact hd rfl h
 obtain⟨us',hul',k1,k2,k3,hr⟩:=key
 refine⟨w.setRow g (spl cs.toList o us').toArray,I.mod (.st e (chs l o s')) hob rfl (Same.setRow w g _) (fun b hb hF=>setRow_other w g b _ (fun hbg=>hF (hbg▸hFg))) (fun hro => ?_),by simp[Instr.storeAt,Instr.sureAddr,hr]⟩
 refine⟨g,_,hη,hFg,setRow_heap w g cs _ e _ hh,css.set j us',?_,by rw[hset1];simp[hl],fun m s0 u0 h1 h2 => ?_⟩
 · rw[hset2 us' hul',← hcs]
 · rw[hset1] at h1
   by_cases hmj:j=m
   · subst hmj
     rw[List.getElem?_set_self hjl] at h1
     rw[List.getElem?_set_self hjc] at h2
     injection h1 with h1;injection h2 with h2;subst h1;subst h2
     exact⟨k1,by rw[hul',hul,k2],k3.keep (fun b hb=>⟨(hro b hb).1,Kb.of_eq (hro b hb).2⟩) (Asg.le.refl A)⟩
   · rw[List.getElem?_set_ne hmj] at h1 h2
     obtain⟨m1,m2,m3⟩:=hch m s0 u0 h1 h2
     exact⟨m1,m2,m3.keep (fun b hb=>⟨(hro b hb).1,Kb.of_eq (hro b hb).2⟩) (Asg.le.refl A)⟩
theorem sto_ok[Dn]{P:Program}{T:TypeId}{w0:World}{M:Ms}{R0:Nat→Prop}{A:Asg}{st:St}{a:Act}{w:World}(I:Inv w0 M R0 A st a w){t:Ty}(hf:Fit P t (.inl T))
   {s x:SV} {v u:Value} (hs:SvOk w (Ro R0 w0.heap.size A st.ob w) A s v) (hx:SvOk w (Ro R0 w0.heap.size A st.ob w) A x u) {k:St→Prop} (h:sto st t x k s) :
   ∃ st' w',k st'∧Inv w0 M R0 A st' a w'∧(Instr.storeAt T v u).run P w = .ok () w':=by
 unfold sto at h
 split at h
 · rename_i t0 i q
   split at h
   · rename_i e t1 x1 hob
     split at h
     · rename_i ht;subst ht
       split at h
       · rename_i y hy
         split at h
         · rename_i x' hu
           have hyv:=asT_ok hy hx
           obtain⟨_,g,o,t',hη,ho,hv,rfl⟩:=hs
           obtain⟨o',ho'⟩:=off_of_upd hu
           rw[ho] at ho';injection ho' with ho';injection ho' with e1 e2;subst e1;subst e2
           obtain⟨g',cs,hη',hFg,hh,hok⟩:=I.ob i _ hob
           rw[hη] at hη';injection hη' with hη';injection hη' with hη';injection hη' with hη';subst hη'
           obtain⟨_,_,hl,_⟩:=sub_ok hok hv ho
           have hlc:cs.size=t1.size:=by simpa using ok_len hok
           have hr:=run_storeVar hf hyv hh (o:=o) (by omega)
           refine⟨_,w.setRow g (spl cs.toList o u.cells.toList).toArray,h,I.mod (.var e t1 x') hob rfl (Same.setRow w g _) (fun b hb hF=>setRow_other w g b _ (fun hbg=>hF (hbg▸hFg))) (fun hro => ?_),by simp[Instr.storeAt,Instr.sureAddr,hr]⟩
           exact⟨g,_,hη,hFg,setRow_heap w g cs _ e _ hh,by
             have:=upd_ok hok hv ho hu (okV_cells hyv)
             simpa using ok_mono (fun b hb=>(hro b hb).1) (fun b hb=>(hro b hb).2) this⟩
         · exact h.elim
       · split at h
         · rename_i s' hst
           have I1:Inv w0 M R0 A { st with ob:=st.ob.set i (.st e [.d t1 x1]) } a w:=by
             refine I.mod (.st e [.d t1 x1]) hob rfl (Same.refl w) (fun _ _ _=>rfl) (fun hro => ?_)
             obtain⟨g,cs,hη,hFg,hh,hok⟩:=I.ob i _ hob
             have hok':=ok_mono (fun b hb=>(hro b hb).1) (fun b hb=>(hro b hb).2) hok
             refine⟨g,cs,hη,hFg,hh,[cs.toList],by simp,rfl,fun j s u h1 h2 => ?_⟩
             match j with
             | 0 =>
               simp at h1 h2;subst h1;subst h2
               exact⟨rfl,ok_len hok',t1.mk cs.toList,(mk_cells (ok_len hok') (ok_one hok')).symm,okV_mk hok',(fun h=>by cases h)⟩
             | j+1=>simp at h1
           have hi:i<st.ob.length:=(List.getElem?_eq_some_iff.1 hob).1
           obtain⟨hi',g,o,t',hη,ho,hv,rfl⟩:=hs
           have hro2:∀ b,Ro R0 w0.heap.size A st.ob w b→Ro R0 w0.heap.size A (st.ob.set i (.st e [.d t1 x1])) w b:=by
             intro b ⟨h1,h2,h3⟩
             refine⟨h1,h2,fun m o' hm hl hf => ?_⟩
             by_cases hmi:m=i
             · subst hmi;exact h3 m _ hob rfl hf
             · rw[List.getElem?_set_ne (Ne.symm hmi)] at hm;exact h3 m o' hm hl hf
           have hst':stC { st with ob:=st.ob.set i (.st e [.d t1 x1]) } (.d t1 x1) t1 t q x=some s':=by
             have hp:∀ x,pcV { st with ob:=st.ob.set i (.st e [.d t1 x1]) } x=pcV st x:=by
               intro x
               cases x with
               | os m =>
                 simp only[pcV]
                 by_cases hm:m=i
                 · subst hm;rw[List.getElem?_set_self hi,hob]
                 · rw[List.getElem?_set_ne (Ne.symm hm)]
               | _=>rfl
             have e0:stC { st with ob:=st.ob.set i (.st e [.d t1 x1]) } (.d t1 x1) t1 t q x=stC st (.d t1 x1) t1 t q x:=by simp only[stC,stH,hp]
             rw[e0];exact hst
           obtain⟨w',I',hr⟩:=sto_pf (o:=0) I1 hf ⟨hi',g,o,t',hη,ho,hv,by rw[Nat.zero_add]⟩ (hx.keep (fun b hb=>⟨hro2 b hb,Kb.of_eq rfl⟩) (Asg.le.refl A)) (l:=[.d t1 x1]) (e:=e) (by simp[hi]) (s := .d t1 x1) rfl hst'
           refine⟨_,w',h,?_,hr⟩
           have e1:({ st with ob:=(st.ob.set i (.st e [.d t1 x1])).set i (.st e (chs [.d t1 x1] 0 s')) }:St)=st.setOb i (.st e [s']):=by
             simp[St.setOb,List.set_set,chs]
           rw[← e1];exact I'
         · exact h.elim
     · exact h.elim
   · rename_i e l hob
     split at h
     · rename_i s hck
       split at h
       · rename_i s' hst
         obtain⟨hi',g,o,t',hη,ho,hv,rfl⟩:=hs
         obtain⟨w',I',hr⟩:=sto_pf (o:=0) I hf ⟨hi',g,o,t',hη,ho,hv,by rw[Nat.zero_add]⟩ hx hob hck hst
         exact⟨_,w',h,I',hr⟩
       · exact h.elim
     · exact h.elim
   · exact h.elim
 · rename_i t0 i kk q
   split at h
   · rename_i e t1 xs hob
     split at h
     · rename_i ht;subst ht
       split at h
       · rename_i y hy
         split at h
         · rename_i x' hu
           have hyv:=asT_ok hy hx
           obtain⟨_,g,n,c,o,t',hη,hkn,ho,hv,rfl⟩:=hs
           obtain⟨o',ho'⟩:=off_of_upd hu
           rw[ho] at ho';injection ho' with ho';injection ho' with e1 e2;subst e1;subst e2
           obtain⟨css,hoks,hown,hF⟩:=I.ob i _ hob
           have hFg:A.F i g:=hF g (by rw[hη];rfl)
           rw[hη] at hown
           obtain⟨hlen,hown⟩:=hown
           rcases hown with ⟨he,_⟩ | ⟨g',cap,cur,he,hb0,hh,hnc,hcm,hcur,htake⟩
           · cases he
           injection he with he1 he2 he3
           injection he1 with he1;injection he1 with he1;subst he1;subst he2;subst he3
           obtain⟨us,hus,hul,huo⟩:=hoks.at_ hkn t1.z
           obtain⟨_,_,hl,_⟩:=sub_ok huo hv ho
           have hb:(kk+1)*t1.size≤xs.length*t1.size:=Nat.mul_le_mul_right _ hkn
           rw[Nat.add_mul] at hb
           have hcb:xs.length*t1.size≤c*t1.size:=Nat.mul_le_mul_right _ hnc
           have hr:=run_storeVar hf hyv hh (o:=kk*t1.size+o) (by omega)
           have hvl:=ok_len (okV_cells hyv)
           refine⟨_,w.setRow g (spl cur.toList (kk*t1.size+o) u.cells.toList).toArray,h,I.mod (.row e t1 (xs.set kk x')) hob rfl (Same.setRow w g _) (fun b hb hF=>setRow_other w g b _ (fun hbg=>hF (hbg▸hFg))) (fun hro => ?_),by simp[Instr.storeAt,Instr.sureAddr,hr]⟩
           have hnew:=upd_ok huo hv ho hu (okV_cells hyv)
           have hnl:=ok_len hnew
           have hkc:kk<css.length:=by rw[hoks.1];exact hkn
           have hfs:=flat_set hoks.all hkc hnl
           have hfa:=flat_at hoks.all hus
           have hfl:css.flatten.length=xs.length*t1.size:=hlen
           rw[← hfa,spl_spl _ _ _ _ _ (by omega) (by omega)] at hfs
           refine⟨css.set kk (spl us o u.cells.toList),(hoks.set_ kk ⟨hnl,hnew⟩).mono fun x u hu=>⟨hu.1,ok_mono (fun b hb=>(hro b hb).1) (fun b hb=>(hro b hb).2) hu.2⟩,?_,hF⟩
           rw[hη]
           refine⟨by rw[← hfa,hfs,spl_len _ _ _ (by omega),hfl];simp,.inr ⟨g,c,_,by simp,hb0,setRow_heap w g cur _ e _ hh,by simpa using hnc,hcm,?_,?_⟩⟩
           · have:=spl_len cur.toList (kk*t1.size+o) u.cells.toList (by simp only[Array.length_toList] at hvl ⊢;omega)
             simpa [hcur] using this
           · rw[List.length_set,← hfa,hfs,← htake]
             simp only
             rw[spl_take _ _ _ _ (by omega) (by simp only[Array.length_toList] at hvl ⊢;omega)]
         · exact h.elim
       · exact h.elim
     · exact h.elim
   · exact h.elim
 · rename_i t0 i o q
   split at h
   · rename_i e l hob
     split at h
     · rename_i s hck
       split at h
       · rename_i s' hst
         obtain⟨w',I',hr⟩:=sto_pf I hf hs hx hob hck hst
         exact⟨_,w',h,I',hr⟩
       · exact h.elim
     · exact h.elim
   · exact h.elim
 · exact h.elim
def unpD:(t:Ty)→t.D→List SV
 | .pr a b,x => .d a x.1::unpD b x.2
 | .un,_=>[]
 | t,x=>[.d t x]
def agP(t:Ty):SV→Option (List SV)
 | .ag l=>if lenS l=t.size then some l else none
 | .d t' x=>if h:t'=t then some (unpD t (h▸x)) else none
 | _=>none
def stP(st:St)(t:Ty)(i:Nat)(x:SV)(k:St→Prop):Prop :=
 match st.ob[i]? with
 | some (.st e l0)=>if lenS l0=t.size∧t.agg=true then match agP t x with
     | some l=>k (st.setOb i (.st e l))
     | none=>False else False
 | _=>False
theorem unpD_ok{w:World}{ro:Nat→Prop}{A:Asg}:∀ {t:Ty} {x:t.D} {cs:List Value},t.ok w ro x cs→Pcs w ro A (unpD t x) cs:=by
 have one:∀ {t:Ty} {x:t.D} {cs:List Value},t.ok w ro x cs→(SV.d t x).one=true∧cs.length=(SV.d t x).len∧ChOk w ro A (.d t x) cs:=fun {t x cs} h =>
   ⟨rfl,ok_len h,t.mk cs,(mk_cells (ok_len h) (ok_one h)).symm,okV_mk h,fun h=>by cases h⟩
 have sing:∀ {t:Ty} {x:t.D} {cs:List Value},t.ok w ro x cs→Pcs w ro A [.d t x] cs:=fun {t x cs} h =>
   ⟨[cs],by simp,rfl,fun j s u h1 h2=>by
     match j with
     | 0=>simp at h1 h2;subst h1;subst h2;exact one h
     | j+1=>simp at h1⟩
 intro t
 induction t with
 | pr a b _ ihb =>
   intro x cs h
   obtain⟨c1,c2,rfl,h1,h2⟩:=h
   obtain⟨css,rfl,hl,hch⟩:=ihb h2
   refine⟨c1::css,by simp,by simp[unpD,hl],fun j s u hj hu => ?_⟩
   match j with
   | 0=>simp[unpD] at hj hu;subst hj;subst hu;exact one h1
   | j+1=>exact hch j s u (by simpa [unpD] using hj) (by simpa using hu)
 | un=>intro x cs h;have h':_=_:=h;subst h';exact⟨[],rfl,rfl,fun j s u h1=>by simp[unpD] at h1⟩
 | _=>intro x cs h;exact sing h
theorem agP_ok[Dn]{w:World}{ro:Nat→Prop}{A:Asg}{t:Ty}{x:SV}{l:List SV}{u:Value}(h:agP t x=some l)(hx:SvOk w ro A x u):Pcs w ro A l u.cells.toList∧u.cells.toList.length=t.size:=by
 unfold agP at h
 split at h
 · rename_i l'
   split at h
   · rename_i hln
     injection h with h;subst h
     obtain⟨vs,rfl,hp⟩:=hx
     refine⟨hp,?_⟩
     show vs.toList.length=_
     rw[pcs_len hp,hln]
   · cases h
 · rename_i t' y
   split at h
   · rename_i ht;subst ht
     injection h with h;subst h
     have hok:=okV_cells (show t'.okV w ro y u from hx)
     exact⟨unpD_ok hok,ok_len hok⟩
   · cases h
 · cases h
theorem stP_ok[Dn]{P:Program}{T:TypeId}{w0:World}{M:Ms}{R0:Nat→Prop}{A:Asg}{st:St}{a:Act}{w:World}(I:Inv w0 M R0 A st a w){t:Ty}(hf:Fit P t (.inl T))
   {i:Nat} {x:SV} {v u:Value} (hs:SvOk w (Ro R0 w0.heap.size A st.ob w) A (.ps i) v) (hx:SvOk w (Ro R0 w0.heap.size A st.ob w) A x u) {k:St→Prop} (h:stP st t i x k) :
   ∃ st' w',k st'∧Inv w0 M R0 A st' a w'∧(Instr.storeAt T v u).run P w = .ok () w':=by
 unfold stP at h
 split at h
 · rename_i e l0 hob
   split at h
   · rename_i hc
     split at h
     · rename_i l hl
       obtain⟨hp,hlen⟩:=agP_ok hl hx
       obtain⟨_,rfl,_⟩:=hs
       obtain⟨g,cs,hη,hFg,hh,hp0⟩:=I.ob i _ hob
       have hcs:cs.size=t.size:=by rw[← Array.length_toList,pcs_len hp0,hc.1]
       have hsz:u.cells.size=t.size:=by simpa using hlen
       have hr:(storeVar T ⟨g,0,none⟩ u).run P w = .ok () (w.setRow g u.cells):=by
         have h1:=run_storeCells_at P g 0 e u.cells.toList 0 cs w hh (by simp[hsz,hcs]) (pcs_one hp)
         unfold storeVar
         simp only[Sem.run_bind,hf.size w,Result.andThen_ok,hsz]
         simp only[ne_eq,not_true_eq_false,if_false]
         have e2:(cs.toList.take 0++u.cells.toList++cs.toList.drop (0+u.cells.toList.length)).toArray=u.cells:=by
           rw[List.drop_of_length_le (by simp[hsz,hcs])]
           simp
         simp only[Nat.add_zero] at h1
         rw[h1,e2]
       refine⟨_,w.setRow g u.cells,h,I.mod (.st e l) hob rfl (Same.setRow w g _) (fun b hb hF=>setRow_other w g b _ (fun hbg=>hF (hbg▸hFg))) (fun hro => ?_),by rw[hη];simp[Instr.storeAt,Instr.sureAddr,hr]⟩
       exact⟨g,_,hη,hFg,setRow_heap w g cs _ e _ hh,hp.keep (fun b hb=>⟨(hro b hb).1,Kb.of_eq (hro b hb).2⟩) (Asg.le.refl A)⟩
     · exact h.elim
   · exact h.elim
 · exact h.elim
def mkS(E:Env)(st:St)(T:TypeId)(n m:Int)(dst:Option Nat)(k:St→Prop):Prop :=
 match E.ty T,E.el T with
 | some (.sl t),some e=>if 0<t.size∧t.size≤64 then 0≤n∧n≤m∧m≤1000000000∧k ((st.push (.row e t (List.replicate n.toNat t.z))).put dst (.os st.ob.length)) else False
 | _,_=>False
theorem Inv.newRow[Dn]{w0:World}{M:Ms}{R0:Nat→Prop}{A:Asg}{st:St}{a:Act}{w w':World}(I:Inv w0 M R0 A st a w)(d:Option Nat){e:TypeId}{t:Ty}{xs:List t.D}{v:Value}{css:List (List Value)}
   (hsame:Same w w') (hblk:∀ b,b<w.heap.size→(∀ i o',d=some i→st.ob[i]?=some o'→o'.live=true→¬ A.F i b)→w'.heap[b]?=w.heap[b]?)
   (hF:∀ b,v.ownBlock=some b→(w.heap.size≤b∧b<w'.heap.size)∨∃ i o',d=some i∧st.ob[i]?=some o'∧o'.live=true∧A.F i b)
   (hx:Oks (fun x u=>u.length=t.size∧t.ok w (Ro R0 w0.heap.size A st.ob w) x u) xs css) (hown:w'.ownsRow 0 e t.size v xs.length css.flatten) (dst:Option Nat) :
   ∃ A',Inv w0 M R0 A' (St.put { st with ob:=dropOb d st.ob++[.row e t xs] } dst (.os st.ob.length)) (a.put dst v) w':=by
 have hn:A.n=st.ob.length:=I.num
 refine⟨A.push v (fun b=>v.ownBlock=some b),Inv.put (I.add d (fun _=>v) (fun b=>v.ownBlock=some b) (.row e t xs) hsame hblk hF (fun hro => ?_)) ⟨by simp[Asg.pushT,hn],by rw[← hn,Asg.push_η]⟩⟩
 exact⟨css,hx.mono fun x u hu=>⟨hu.1,ok_mono (fun b hb=>(hro b hb).1) (fun b hb=>(hro b hb).2) hu.2⟩,by rw[Asg.push_η];exact hown,fun g hg=>by rw[Asg.push_η] at hg;exact (Asg.push_F ..).2 hg⟩
theorem madeCells_flat(z:List Value)(hz:0<z.length)(n:Nat):(madeCells z.toArray (n*z.length)).toList=(List.replicate n z).flatten:=by
 apply List.ext_getElem?
 intro i
 have hl:(List.replicate n z).flatten.length=n*z.length:=by
   rw[flatten_len (n:=z.length) (fun u hu=>by rw[(List.mem_replicate.1 hu).2])];simp
 by_cases hi:i<n*z.length
 · have h1:(madeCells z.toArray (n*z.length)).toList[i]?=some (z[i%z.length]'(Nat.mod_lt _ hz)):=by
     unfold madeCells
     rw[Array.toList_map,List.getElem?_map,Array.toList_range,List.getElem?_range hi]
     simp[getElem!_pos,Nat.mod_lt _ hz]
   have h2:(List.replicate n z).flatten[i]?=some (z[i%z.length]'(Nat.mod_lt _ hz)):=by
     have hk:i/z.length<n:=by rw[Nat.div_lt_iff_lt_mul hz];exact hi
     have hfa:=flat_at (css:=List.replicate n z) (m:=z.length) (fun u hu=>by rw[(List.mem_replicate.1 hu).2]) (k:=i/z.length) (u:=z) (by simp[hk])
     have hdm:i/z.length*z.length+i%z.length=i:=by rw[Nat.mul_comm];exact Nat.div_add_mod ..
     have:(((List.replicate n z).flatten.drop (i/z.length*z.length)).take z.length)[i%z.length]?=some (z[i%z.length]'(Nat.mod_lt _ hz)):=by
       rw[hfa];exact List.getElem?_eq_getElem _
     rw[List.getElem?_take,if_pos (Nat.mod_lt _ hz),List.getElem?_drop,hdm] at this
     exact this
   rw[h1,h2]
 · rw[List.getElem?_eq_none (by simp[size_madeCells];omega),List.getElem?_eq_none (by omega)]
theorem mkS_ok[Dn]{P:Program}{E:Env}(hE:EnvOk P E){w0:World}{M:Ms}{R0:Nat→Prop}{A:Asg}{st:St}{a:Act}{w:World}(I:Inv w0 M R0 A st a w){T:TypeId}{n m:Int}{kl kc:IntKind}{dst:Option Nat}{k:St→Prop}
   (h:mkS E st T n m dst k):∃ A' st' v w',k st'∧Inv w0 M R0 A' st' (a.put dst v) w'∧(Instr.makeSlice T (.int kl n) (.int kc m)).run P w = .ok v w':=by
 unfold mkS at h
 split at h
 · rename_i t e ht he
   split at h
   · rename_i hsz
     obtain⟨h0,h1,h2,hk⟩:=h
     obtain⟨_,e',hu',hfe⟩:=hE.ty _ _ ht
     have hu:=hE.el _ _ he
     rw[hu] at hu';injection hu' with hu';injection hu' with hu';subst hu'
     obtain⟨i,hi,his,hiz,hib⟩:=hfe.info
     have hzc:(t.mk t.zc).cells=t.zc.toArray:=by
       apply Array.toList_inj.1
       have hzl:t.zc.length=t.size:=ok_len (w:=w) (ro:=fun _=>True) (ok_zero t)
       have:=mk_cells (t:=t) (cs:=t.zc) hzl (ok_one (w:=w) (ro:=fun _=>True) (ok_zero t))
       simpa using this
     have hzl:t.zc.length=t.size:=ok_len (w:=w) (ro:=fun _=>True) (ok_zero t)
     have hby:i.bytes*m.toNat≤281474976710656:=by
       have:i.bytes≤2048:=by omega
       have h3:i.bytes*m.toNat≤2048*1000000000:=Nat.mul_le_mul this (by omega)
       omega
     have hby':(i.bytes:Int)*m≤281474976710656:=by
       have:((i.bytes*m.toNat:Nat):Int)≤281474976710656:=by omega
       rw[Int.natCast_mul,Int.toNat_of_nonneg (by omega)] at this
       exact this
     have hr:=run_make (P:=P) w T e i (t.mk t.zc) hu hi hiz kl kc n m h0 h1 hby' (by omega)
     have hmade:(madeCells (t.mk t.zc).cells (m.toNat*i.size)).toList=(List.replicate m.toNat t.zc).flatten:=by
       rw[hzc,his,← hzl]
       exact madeCells_flat t.zc (by omega) _
     obtain⟨A',hI⟩:=I.newRow none (e:=e) (t:=t) (xs:=List.replicate n.toNat t.z) (v := .slice (some ⟨w.heap.size,0,none⟩) n.toNat m.toNat) (css:=List.replicate n.toNat t.zc) (Same.alloc w _)
       (w':=w.alloc (.cells (madeCells (t.mk t.zc).cells (m.toNat*i.size)) e)) (fun b hb _=>Ext.alloc w _ b hb)
       (fun b hb => .inl (by simp only[Value.ownBlock,Option.some.injEq] at hb;subst hb;simp)) ⟨by simp,fun i x u hx hu=>by
         rw[List.getElem?_replicate] at hx hu
         split at hx
         · rename_i hlt
           rw[if_pos hlt] at hu
           injection hx with hx;injection hu with hu;subst hx;subst hu
           exact⟨hzl,ok_zero t⟩
         · cases hx⟩ ⟨by rw[flatten_len (n:=t.size) (fun u hu=>by rw[(List.mem_replicate.1 hu).2,hzl])];simp,.inr ⟨w.heap.size,m.toNat,_,by simp,Nat.zero_le _,heap_alloc_new w _,by simp;omega,by simp only[maxLen];omega,by rw[size_madeCells,his],by
           rw[hmade]
           have e1:List.replicate m.toNat t.zc=List.replicate n.toNat t.zc++List.replicate (m.toNat - n.toNat) t.zc:=by rw[List.replicate_append_replicate];congr 1;omega
           rw[e1,List.flatten_append]
           have e2:(List.replicate n.toNat t.zc).flatten.length=(List.replicate n.toNat t.z).length*t.size:=by
             rw[flatten_len (n:=t.size) (fun u hu=>by rw[(List.mem_replicate.1 hu).2,hzl])];simp
           rw[← e2,List.take_left]⟩⟩ dst
     exact⟨A',_,_,_,hk,hI,hr⟩
   · exact h.elim
 · exact h.elim
def elems(st:St)(t:Ty):SV→Option (List t.D)
 | .d t' xs=>if h:t' = .sl t then some (h▸xs:(Ty.sl t).D) else none
 | .nils=>some []
 | .os i=>match st.ob[i]? with
   | some (.row _ t' xs)=>if h:t'=t then some (h▸xs) else none
   | _=>none
 | _=>none
theorem elems_ok[Dn]{w0:World}{M:Ms}{R0:Nat→Prop}{A:Asg}{st:St}{a:Act}{w:World}(I:Inv w0 M R0 A st a w){t:Ty}{s:SV}{v:Value}{xs:List t.D}(h:elems st t s=some xs)(hs:SvOk w (Ro R0 w0.heap.size A st.ob w) A s v) :
   ∃ Ad c css,v = .slice Ad xs.length c∧xs.length≤c∧c≤maxLen∧Oks (fun x u=>u.length=t.size∧t.ok w (Ro R0 w0.heap.size A st.ob w) x u) xs css ∧
     (xs≠[]→∃ ad,Ad=some ad∧ad.spot=none∧ad.block<w.heap.size∧∀ j u,css.flatten[j]?=some u→w.cell? (ad.add j)=some u):=by
 unfold elems at h
 split at h
 · rename_i t' ys
   split at h
   · rename_i ht;subst ht
     injection h with h;subst h
     have hs':Ty.ok w (Ro R0 w0.heap.size A st.ob w) (.sl t) ys [v]:=hs
     obtain⟨Ad,c,e,hc1,hc2,hx⟩:=hs'
     injection e with e
     by_cases hne:ys=[]
     · subst hne
       exact⟨Ad,c,[],e,hc1,hc2,⟨rfl,fun i x u hx=>by simp at hx⟩,fun h=>absurd rfl h⟩
     · obtain⟨ad,css,e2,hsp,hro,hoks,hcell⟩:=hx hne
       exact⟨Ad,c,css,e,hc1,hc2,hoks,fun _=>⟨ad,e2,hsp,hro.1,hcell⟩⟩
   · cases h
 · injection h with h;subst h
   have hs':v = .slice none 0 0:=hs
   exact⟨none,0,[],hs',Nat.le_refl _,Nat.zero_le _,⟨rfl,fun i x u hx=>by simp at hx⟩,fun h=>absurd rfl h⟩
 · rename_i i
   split at h
   · rename_i e t' ys hob
     split at h
     · rename_i ht;subst ht
       injection h with h;subst h
       obtain⟨_,rfl⟩:=hs
       obtain⟨css,hoks,hown,_⟩:=I.ob i _ hob
       rcases hown.2 with ⟨h1,h2⟩ | ⟨g,cap,cur,h1,_,hh,hnc,hm,hcur,htake⟩
       · have hy:ys=[]:=List.eq_nil_of_length_eq_zero h2
         subst hy
         exact⟨none,0,css,by rw[h1];rfl,Nat.le_refl _,Nat.zero_le _,hoks,fun h=>absurd rfl h⟩
       · refine⟨_,cap,css,h1,hnc,hm,hoks,fun _=>⟨_,rfl,rfl,(Array.getElem?_eq_some_iff.1 hh).1,fun j u hj => ?_⟩⟩
         rw[addr_add,cell_of_row w g _ cur e (0,0) hh]
         rw[← htake,List.getElem?_take] at hj
         split at hj
         · simpa using hj
         · cases hj
     · cases h
   · cases h
 · cases h
def apd(E:Env)(st:St)(T:TypeId)(s x:SV)(dst:Option Nat)(k:St→Prop):Prop :=
 match E.ty T,E.el T with
 | some (.sl t),some e=>if 0<t.size∧t.size≤64 then
     match elems st t x with
     | some ys=>match s with
       | .nils=>ys.length≤1000000000∧k ((st.push (.row e t ys)).put dst (.os st.ob.length))
       | .fs t' xs=>if h:t'=t then (0<ys.length∧List.length (h▸xs:List t.D)+ys.length≤1000000000) ∧
           k ((st.push (.row e t (List.append (h▸xs:List t.D) ys))).put dst (.os st.ob.length)) else False
       | .os i=>match st.ob[i]? with
         | some (.row e' t' xs)=>if h:t'=t then if e'=e then (List.length (h▸xs:List t.D)+ys.length≤1000000000) ∧
             k (St.put { st with ob:=dropOb (some i) st.ob++[.row e t (List.append (h▸xs:List t.D) ys)] } dst (.os st.ob.length)) else False else False
         | _=>False
       | _=>False
     | none=>False
   else False
 | _,_=>False
theorem run_append_none{P:Program}(w:World){T ty e:TypeId}{i:TypeInfo}(ht:P.underlying T=some (.slice e))(hi:P.info? e=some i){base size:Nat}
   {v:Value} {n:Nat} {xs:List Value} (hown:w.ownsRow base e size v n xs) (c:Nat):(Builtin.append_ #[T,T] ty #[v,.slice none 0 c]).run P w = .ok v w:=by
 rcases hown.2 with ⟨rfl,rfl⟩ | ⟨g,cap,cur,rfl,_,_,hnc,_⟩
 · simp[Builtin.append_,run_underlying ht,sizeOf,typeInfo,hi,Builtin.lenOf,Builtin.firstCells]
 · simp[Builtin.append_,run_underlying ht,sizeOf,typeInfo,hi,Builtin.lenOf,Builtin.firstCells,hnc,storeCells]
theorem Oks.append{α:Type}{R:α→List Value→Prop}{xs ys:List α}{c1 c2:List (List Value)}(h1:Oks R xs c1)(h2:Oks R ys c2):Oks R (xs++ys) (c1++c2):=by
 refine⟨by simp[h1.1,h2.1],fun i x u hx hu => ?_⟩
 by_cases hi:i<xs.length
 · rw[List.getElem?_append_left hi] at hx
   rw[List.getElem?_append_left (by rw[h1.1];exact hi)] at hu
   exact h1.2 i x u hx hu
 · rw[List.getElem?_append_right (by omega)] at hx
   rw[List.getElem?_append_right (by rw[h1.1];omega),h1.1] at hu
   exact h2.2 _ x u hx hu
theorem apd_core[Dn]{P:Program}{E:Env}(hE:EnvOk P E){w0:World}{M:Ms}{R0:Nat→Prop}{A:Asg}{st:St}{a:Act}{w:World}(I:Inv w0 M R0 A st a w){T ty e:TypeId}{t:Ty}(ht:E.ty T=some (.sl t))(he:E.el T=some e)
   (hsz:0<t.size∧t.size≤64) (d:Option Nat) {v vx:Value} {xs ys:List t.D} {c1:List (List Value)} (h1:Oks (fun x u=>u.length=t.size∧t.ok w (Ro R0 w0.heap.size A st.ob w) x u) xs c1) (hown:w.ownsRow 0 e t.size v xs.length c1.flatten)
   (hd:∀ b,v.ownBlock=some b→∃ i o',d=some i∧st.ob[i]?=some o'∧o'.live=true∧A.F i b)
   {sx:SV} (hx:elems st t sx=some ys) (hsx:SvOk w (Ro R0 w0.heap.size A st.ob w) A sx vx) (hlen:xs.length+ys.length≤1000000000) (dst:Option Nat) :
   ∃ A' v' w',Inv w0 M R0 A' (St.put { st with ob:=dropOb d st.ob++[.row e t (List.append xs ys)] } dst (.os st.ob.length)) (a.put dst v') w'∧(Builtin.append_ #[T,T] ty #[v,vx]).run P w = .ok v' w':=by
 obtain⟨_,e',hu',hfe⟩:=hE.ty _ _ ht
 have hu:=hE.el _ _ he
 rw[hu] at hu';injection hu' with hu';injection hu' with hu';subst hu'
 obtain⟨i,hi,his,hiz,hib⟩:=hfe.info
 obtain⟨Ad,c,c2,rfl,hc1,hc2,h2,hcell⟩:=elems_ok I hx hsx
 have hzc:(t.mk t.zc).cells.size=t.size:=by
   have hzl:t.zc.length=t.size:=ok_len (w:=w) (ro:=fun _=>True) (ok_zero t)
   have:=mk_cells (t:=t) (cs:=t.zc) hzl (ok_one (w:=w) (ro:=fun _=>True) (ok_zero t))
   rw[← Array.length_toList,this,hzl]
 have hap:=h1.append h2
 have hfl:(c1++c2).flatten=c1.flatten++c2.flatten:=by simp
 by_cases hne:ys=[]
 · subst hne
   have hc2':c2=[]:=List.eq_nil_of_length_eq_zero (by simpa using h2.1)
   subst hc2'
   have hown':w.ownsRow 0 e t.size v (List.append xs []).length (c1++[]).flatten:=by simpa using hown
   cases Ad with
   | none =>
     have hr:=run_append_none (P:=P) w (T:=T) (ty:=ty) hu hi hown c
     obtain⟨A',hI⟩:=I.newRow d (e:=e) (t:=t) (xs:=List.append xs []) (v:=v) (css:=c1++[]) (Same.refl w) (fun b _ _=>rfl) (fun b hb => .inr (hd b hb)) hap hown' dst
     exact⟨A',v,w,hI,hr⟩
   | some ad =>
     obtain⟨v',w',hr,hown2,hg,_,hat⟩:=run_append_own_at (P:=P) w 0 T ty e i (t.mk t.zc) t.size i.bytes hu hi hiz his rfl hzc hsz.1 v xs.length c1.flatten hown ad 0 c [] (by simp) (fun j u hj=>by simp at hj) (fun u hu=>by simp at hu)
       (by simp only[maxLen];simp at hlen;omega) (by
         have:i.bytes≤2048:=by omega
         have h3:(xs.length+0)*i.bytes≤1000000000*2048:=Nat.mul_le_mul (by simpa using hlen) this
         omega) (Nat.zero_le _)
     have hown3:w'.ownsRow 0 e t.size v' (List.append xs []).length (c1++[]).flatten:=by simpa using hown2
     obtain⟨A',hI⟩:=I.newRow d (e:=e) (t:=t) (xs:=List.append xs []) (v:=v') (css:=c1++[]) ⟨hg.os,hg.tape,hg.output,hg.size,fun _=>run_drawn P _ _ hr⟩ (w':=w') (fun b hb hno=>hg.block b hb (fun hbe=>by
         obtain⟨i',o',k1,k2,k3,k4⟩:=hd b hbe.symm
         exact hno i' o' k1 k2 k3 k4)) (fun b hb=>by
         rcases hat with h | h
         · rw[h] at hb;exact .inr (hd b hb)
         · have hlt:=(hown2.lt b hb).2
           rw[hb] at h;injection h with h;subst h
           exact .inl ⟨Nat.le_refl _,hlt⟩) hap hown3 dst
     exact⟨A',v',w',hI,hr⟩
 · obtain⟨ad,rfl,hsp,hab,hcl⟩:=hcell hne
   obtain⟨v',w',hr,hown2,hg,_,hat⟩:=run_append_own_at (P:=P) w 0 T ty e i (t.mk t.zc) t.size i.bytes hu hi hiz his rfl hzc hsz.1 v xs.length c1.flatten hown ad ys.length c c2.flatten h2.flen hcl (fun u hu=>by
       obtain⟨l,hl,hul⟩:=List.mem_flatten.1 hu
       obtain⟨j,hj⟩:=List.getElem?_of_mem hl
       have hlt:j<ys.length:=by rw[← h2.1];exact (List.getElem?_eq_some_iff.1 hj).1
       exact ok_one (h2.2 j _ l (List.getElem?_eq_getElem hlt) hj).2 u hul)
     (by simp only[maxLen];omega) (by
       have:i.bytes≤2048:=by omega
       have h3:(xs.length+ys.length)*i.bytes≤1000000000*2048:=Nat.mul_le_mul hlen this
       omega) (Nat.zero_le _)
   have hown3:w'.ownsRow 0 e t.size v' (List.append xs ys).length (c1++c2).flatten:=by
     have:(List.append xs ys).length=xs.length+ys.length:=List.length_append
     rw[this,hfl];exact hown2
   obtain⟨A',hI⟩:=I.newRow d (e:=e) (t:=t) (xs:=List.append xs ys) (v:=v') (css:=c1++c2) ⟨hg.os,hg.tape,hg.output,hg.size,fun _=>run_drawn P _ _ hr⟩ (w':=w') (fun b hb hno=>hg.block b hb (fun hbe=>by
       obtain⟨i',o',k1,k2,k3,k4⟩:=hd b hbe.symm
       exact hno i' o' k1 k2 k3 k4)) (fun b hb=>by
       rcases hat with h | h
       · rw[h] at hb;exact .inr (hd b hb)
       · have hlt:=(hown2.lt b hb).2
         rw[hb] at h;injection h with h;subst h
         exact .inl ⟨Nat.le_refl _,hlt⟩) hap hown3 dst
   exact⟨A',v',w',hI,hr⟩
theorem apd_fs[Dn]{P:Program}{E:Env}(hE:EnvOk P E){w0:World}{M:Ms}{R0:Nat→Prop}{A:Asg}{st:St}{a:Act}{w:World}(I:Inv w0 M R0 A st a w){T ty e:TypeId}{t:Ty}(ht:E.ty T=some (.sl t))(he:E.el T=some e)
   (hsz:0<t.size∧t.size≤64) {v vx:Value} {xs ys:List t.D} (hv:SvOk w (Ro R0 w0.heap.size A st.ob w) A (.fs t xs) v)
   {sx:SV} (hx:elems st t sx=some ys) (hsx:SvOk w (Ro R0 w0.heap.size A st.ob w) A sx vx) (hpos:0<ys.length) (hlen:xs.length+ys.length≤1000000000) (dst:Option Nat) :
   ∃ A' v' w',Inv w0 M R0 A' ((st.push (.row e t (List.append xs ys))).put dst (.os st.ob.length)) (a.put dst v') w'∧(Builtin.append_ #[T,T] ty #[v,vx]).run P w = .ok v' w':=by
 obtain⟨_,e',hu',hfe⟩:=hE.ty _ _ ht
 have hu:=hE.el _ _ he
 rw[hu] at hu';injection hu' with hu';injection hu' with hu';subst hu'
 obtain⟨i,hi,his,hiz,hib⟩:=hfe.info
 obtain⟨hok,Ab,hve⟩:=hv
 have hok':Ty.ok w (Ro R0 w0.heap.size A st.ob w) (.sl t) xs [v]:=hok
 obtain⟨Ab',c',e1,hc1',hc2',hcell'⟩:=hok'
 injection e1 with e1
 rw[hve] at e1;injection e1 with e2 _ e3;subst e2;subst e3;subst hve
 obtain⟨Ad,c,c2,rfl,hc1,hc2,h2,hcell⟩:=elems_ok I hx hsx
 have hne:ys≠[]:=List.length_pos_iff.1 hpos
 obtain⟨ad,rfl,hsp,hab,hcl⟩:=hcell hne
 have hzc:(t.mk t.zc).cells.size=t.size:=by
   have hzl:t.zc.length=t.size:=ok_len (w:=w) (ro:=fun _=>True) (ok_zero t)
   have:=mk_cells (t:=t) (cs:=t.zc) hzl (ok_one (w:=w) (ro:=fun _=>True) (ok_zero t))
   rw[← Array.length_toList,this,hzl]
 have hbb:(xs.length+ys.length)*i.bytes≤140737488355328:=by
   have:i.bytes≤2048:=by omega
   have h3:(xs.length+ys.length)*i.bytes≤1000000000*2048:=Nat.mul_le_mul hlen this
   omega
 by_cases hxs:xs=[]
 · subst hxs
   cases Ab with
   | none =>
     obtain⟨A',v',w',hI,hr⟩:=apd_core hE I (ty:=ty) ht he hsz none (xs:=[]) (c1:=[]) ⟨rfl,fun i x u hx=>by simp at hx⟩ (World.ownsRow_nil w 0 e t.size) (fun b hb=>by simp[Value.ownBlock] at hb) hx hsx (by simpa using hlen) dst
     exact⟨A',v',w',hI,hr⟩
   | some bd =>
     obtain⟨v',w',hr,hown,hg⟩:=run_append_arg_grows (P:=P) w T ty e i (t.mk t.zc) t.size i.bytes hu hi hiz his rfl hzc hsz.1 bd 0 0 [] (by simp) (fun j u hj=>by simp at hj) ad ys.length c c2.flatten h2.flen hcl (by omega) (by simp only[maxLen];omega) (by simpa using hbb)
     obtain⟨A',hI⟩:=I.newRow none (e:=e) (t:=t) (xs:=List.append [] ys) (v:=v') (css:=c2) ⟨hg.os,hg.tape,hg.output,hg.size,fun _=>run_drawn P _ _ hr⟩ (w':=w') (fun b hb _=>hg.block b hb (by simp)) (fun b hb => .inl ⟨(hown.lt b hb).1,(hown.lt b hb).2⟩) h2 (by
       obtain⟨k1,k2⟩:=hown
       refine⟨by simpa using k1,?_⟩
       rcases k2 with ⟨k2,k3⟩ | ⟨g,cap,cur,k2,k3,k4⟩
       · exact .inl ⟨k2,by simpa using k3⟩
       · exact .inr ⟨g,cap,cur,by simpa using k2,Nat.zero_le _,by simpa using k4⟩) dst
     exact⟨A',v',w',hI,hr⟩
 · obtain⟨bd,css,rfl,hspb,hrob,hoksb,hcellb⟩:=hcell' hxs
   obtain⟨v',w',hr,hown,hg⟩:=run_append_arg_grows (P:=P) w T ty e i (t.mk t.zc) t.size i.bytes hu hi hiz his rfl hzc hsz.1 bd xs.length xs.length css.flatten hoksb.flen hcellb ad ys.length c c2.flatten h2.flen hcl (by omega) (by simp only[maxLen];omega) hbb
   obtain⟨A',hI⟩:=I.newRow none (e:=e) (t:=t) (xs:=List.append xs ys) (v:=v') (css:=css++c2) ⟨hg.os,hg.tape,hg.output,hg.size,fun _=>run_drawn P _ _ hr⟩ (w':=w') (fun b hb _=>hg.block b hb (by simp)) (fun b hb => .inl ⟨(hown.lt b hb).1,(hown.lt b hb).2⟩) (hoksb.append h2) (by
     have hl:(List.append xs ys).length=xs.length+ys.length:=List.length_append
     have hf:(css++c2).flatten=css.flatten++c2.flatten:=by simp
     rw[hl,hf]
     obtain⟨k1,k2⟩:=hown
     refine⟨k1,?_⟩
     rcases k2 with ⟨k2,k3⟩ | ⟨g,cap,cur,k2,k3,k4⟩
     · exact .inl ⟨k2,k3⟩
     · exact .inr ⟨g,cap,cur,k2,Nat.zero_le _,k4⟩) dst
   exact⟨A',v',w',hI,hr⟩
theorem apd_ok[Dn]{P:Program}{E:Env}(hE:EnvOk P E){w0:World}{M:Ms}{R0:Nat→Prop}{A:Asg}{st:St}{a:Act}{w:World}(I:Inv w0 M R0 A st a w){T ty:TypeId}{s x:SV}{v u:Value}
   (hs:SvOk w (Ro R0 w0.heap.size A st.ob w) A s v) (hx:SvOk w (Ro R0 w0.heap.size A st.ob w) A x u) {dst:Option Nat} {k:St→Prop} (h:apd E st T s x dst k) :
   ∃ A' st' v' w',k st'∧Inv w0 M R0 A' st' (a.put dst v') w'∧(Builtin.append_ #[T,T] ty #[v,u]).run P w = .ok v' w':=by
 unfold apd at h
 split at h
 · rename_i t e ht he
   split at h
   · rename_i hsz
     split at h
     · rename_i ys hys
       split at h
       · obtain⟨hl,hk⟩:=h
         have hs':v = .slice none 0 0:=hs
         subst hs'
         obtain⟨A',v',w',hI,hr⟩:=apd_core hE I (ty:=ty) ht he hsz none (xs:=[]) (c1:=[]) ⟨rfl,fun i x u hx=>by simp at hx⟩ (World.ownsRow_nil w 0 e t.size) (fun b hb=>by simp[Value.ownBlock] at hb) hys hx (by simpa using hl) dst
         exact⟨A',_,v',w',hk,hI,hr⟩
       · rename_i t' xs
         split at h
         · rename_i htt;subst htt
           obtain⟨⟨hp,hl⟩,hk⟩:=h
           obtain⟨A',v',w',hI,hr⟩:=apd_fs hE I (ty:=ty) ht he hsz hs hys hx hp hl dst
           exact⟨A',_,v',w',hk,hI,hr⟩
         · exact h.elim
       · rename_i i
         split at h
         · rename_i e' t' xs hob
           split at h
           · rename_i htt;subst htt
             split at h
             · rename_i hee;subst hee
               obtain⟨hl,hk⟩:=h
               obtain⟨_,rfl⟩:=hs
               obtain⟨css,hoks,hown,hF⟩:=I.ob i _ hob
               obtain⟨A',v',w',hI,hr⟩:=apd_core hE I (ty:=ty) ht he hsz (some i) hoks hown (fun b hb=>⟨i,_,rfl,hob,rfl,hF b hb⟩) hys hx hl dst
               exact⟨A',_,v',w',hk,hI,hr⟩
             · exact h.elim
           · exact h.elim
         · exact h.elim
       · exact h.elim
     · exact h.elim
   · exact h.elim
 · exact h.elim
def trn(E:Env)(st:St)(T:TypeId)(s:SV)(n:Int)(dst:Option Nat)(k:St→Prop):Prop :=
 match E.ty T,s with
 | some (.sl t),.os i=>match st.ob[i]? with
   | some (.row e t' xs)=>if t'=t then (0≤n∧n≤(xs.length:Int))∧k (St.put { st with ob:=dropOb (some i) st.ob++[.row e t' (xs.take n.toNat)] } dst (.os st.ob.length)) else False
   | _=>False
 | _,_=>False
theorem trn_ok[Dn]{P:Program}{E:Env}(hE:EnvOk P E){w0:World}{M:Ms}{R0:Nat→Prop}{A:Asg}{st:St}{a:Act}{w:World}(I:Inv w0 M R0 A st a w){T:TypeId}{s:SV}{v:Value}{n:Int}{kh:IntKind}
   (hs:SvOk w (Ro R0 w0.heap.size A st.ob w) A s v) {dst:Option Nat} {k:St→Prop} (h:trn E st T s n dst k) :
   ∃ A' st' v',k st'∧Inv w0 M R0 A' st' (a.put dst v') w∧(Instr.sliceAt T v none (some (.int kh n)) none).run P w = .ok v' w:=by
 unfold trn at h
 split at h
 · rename_i t i ht
   split at h
   · rename_i e t' xs hob
     split at h
     · rename_i htt;subst htt
       obtain⟨⟨h0,h1⟩,hk⟩:=h
       obtain⟨_,rfl⟩:=hs
       obtain⟨css,hoks,hown,hF⟩:=I.ob i _ hob
       obtain⟨_,e',hu,hfe⟩:=hE.ty _ _ ht
       have hoks2:=hoks.cut 0 n.toNat
       rw[List.drop_zero,List.drop_zero] at hoks2
       have hlen:(xs.take n.toNat).length=n.toNat:=by rw[List.length_take];omega
       have hfl:=flat_cut hoks.all 0 n.toNat
       rw[Nat.zero_mul,List.drop_zero,List.drop_zero] at hfl
       rcases hown.2 with ⟨hv,hz⟩ | ⟨g,cap,cur,hv,hg0,hgc,hnc,hcm,hcs,htk⟩
       · have hn0:n=0:=by omega
         subst hn0
         have hown2:w.ownsRow 0 e t'.size (.slice none 0 0) (xs.take (Int.toNat 0)).length (css.take (Int.toNat 0)).flatten:=by
           refine⟨by simp,.inl ⟨rfl,by simp⟩⟩
         obtain⟨A',hI⟩:=I.newRow (some i) (Same.refl w) (fun b _ _=>rfl) (fun b hb=>by simp[Value.ownBlock] at hb) hoks2 hown2 dst
         refine⟨A',_,_,hk,hI,?_⟩
         have hb:=run_bounds (P:=P) true 0 0 none (some (0:Int)) .i64 kh (by simp) (by simp) (by simp) (Nat.le_refl _) w
         simp only[Option.map_none,Option.map_some] at hb
         simp[Instr.sliceAt,Instr.slice,run_underlying hu,hv,hb,hfe.size w]
       · have hown2:w.ownsRow 0 e t'.size (.slice (some ⟨g,0,none⟩) n.toNat cap) (xs.take n.toNat).length (css.take n.toNat).flatten:=by
           refine⟨by rw[hoks2.flen],.inr ⟨g,cap,cur,by rw[hlen],hg0,hgc,by rw[hlen];omega,hcm,hcs,?_⟩⟩
           rw[hlen,hfl,← htk,List.take_take,Nat.min_eq_left (Nat.mul_le_mul_right _ (by omega))]
         obtain⟨A',hI⟩:=I.newRow (some i) (Same.refl w) (fun b _ _=>rfl) (fun b hb => .inr ⟨i,_,rfl,hob,rfl,hF b (by rw[hv];exact hb)⟩) hoks2 hown2 dst
         refine⟨A',_,_,hk,hI,?_⟩
         have hb:=run_bounds (P:=P) true xs.length cap none (some n) .i64 kh (by simp) (by simpa using h0) (by simpa using h1) hnc w
         simp only[Option.map_none,Option.map_some] at hb
         simp[Instr.sliceAt,Instr.slice,run_underlying hu,hv,hb,hfe.size w]
         intro _;simp[Addr.add]
     · exact h.elim
   · exact h.elim
 · exact h.elim
def ocut(E:Env)(st:St)(T:TypeId)(s:SV)(n:Int)(dst:Option Nat)(k:St→Prop):Prop :=
 match E.ty T,s with
 | some (.sl t),.os i=>match st.ob[i]? with
   | some (.row _ t' xs)=>if t'=t then (0≤n∧n<(xs.length:Int))∧k (st.put dst (.oc t' i n.toNat)) else False
   | _=>False
 | _,_=>False
theorem ocut_ok[Dn]{P:Program}{E:Env}(hE:EnvOk P E){w0:World}{M:Ms}{R0:Nat→Prop}{A:Asg}{st:St}{a:Act}{w:World}(I:Inv w0 M R0 A st a w){T:TypeId}{s:SV}{v:Value}{n:Int}{kl:IntKind}
   (hs:SvOk w (Ro R0 w0.heap.size A st.ob w) A s v) {dst:Option Nat} {k:St→Prop} (h:ocut E st T s n dst k) :
   ∃ st' v',k st'∧Inv w0 M R0 A st' (a.put dst v') w∧(Instr.sliceAt T v (some (.int kl n)) none none).run P w = .ok v' w:=by
 unfold ocut at h
 split at h
 · rename_i t i ht
   split at h
   · rename_i e t' xs hob
     split at h
     · rename_i htt;subst htt
       obtain⟨⟨h0,h1⟩,hk⟩:=h
       obtain⟨hi,rfl⟩:=hs
       obtain⟨css,hoks,hown,hF⟩:=I.ob i _ hob
       obtain⟨_,e',hu,hfe⟩:=hE.ty _ _ ht
       rcases hown.2 with ⟨hv,hz⟩ | ⟨g,cap,cur,hv,hg0,hgc,hnc,hcm,hcs,htk⟩
       · omega
       · refine⟨_,.slice (some ⟨g,n.toNat*t'.size,none⟩) (xs.length - n.toNat) (cap - n.toNat),hk,I.put (s := .oc t' i n.toNat) ⟨hi,g,xs.length,cap,hv,by omega,rfl⟩,?_⟩
         have hb:=run_bounds (P:=P) true xs.length cap (some n) none kl .i64 (by simpa using h0) (by simp;omega) (by simp) hnc w
         simp only[Option.map_none,Option.map_some] at hb
         simp[Instr.sliceAt,Instr.slice,run_underlying hu,hv,hb,hfe.size w]
         rw[if_neg (by omega)]
         simp[Addr.add]
         exact fun h=>h.symm
     · exact h.elim
   · exact h.elim
 · exact h.elim
def oclr(E:Env)(st:St)(T:TypeId)(s:SV)(dst:Option Nat)(k:St→Prop):Prop :=
 match E.ty T,s with
 | some (.sl t),.oc t' i a=>match st.ob[i]? with
   | some (.row e t2 xs)=>if t2=t∧t'=t then k (St.put { st with ob:=st.ob.set i (.row e t2 (xs.take a++List.replicate (xs.length - a) t2.z)) } dst .any) else False
   | _=>False
 | _,_=>False
theorem oclr_ok[Dn]{P:Program}{E:Env}(hE:EnvOk P E){w0:World}{M:Ms}{R0:Nat→Prop}{A:Asg}{st:St}{a:Act}{w:World}(I:Inv w0 M R0 A st a w){T ty:TypeId}{s:SV}{v:Value}
   (hs:SvOk w (Ro R0 w0.heap.size A st.ob w) A s v) {dst:Option Nat} {k:St→Prop} (h:oclr E st T s dst k) :
   ∃ st' v' w',k st'∧Inv w0 M R0 A st' (a.put dst v') w'∧(Builtin.clear_ #[T] ty #[v]).run P w = .ok v' w':=by
 unfold oclr at h
 split at h
 · rename_i t t' i m ht
   split at h
   · rename_i e t2 xs hob
     split at h
     · rename_i htt;obtain⟨e1,e2⟩:=htt;subst e2;subst e1
       obtain⟨hi,g,n,c,hη,ham,rfl⟩:=hs
       obtain⟨css,hoks,hown,hF⟩:=I.ob i _ hob
       have hFg:A.F i g:=hF g (by rw[hη];rfl)
       obtain⟨_,e',hu,hfe⟩:=hE.ty _ _ ht
       obtain⟨inf,hinf,his,hiz,hib⟩:=hfe.info
       rw[hη] at hown
       obtain⟨hlen,hown⟩:=hown
       rcases hown with ⟨he,_⟩ | ⟨g',cap,cur,he,hb0,hh,hnc,hcm,hcur,htake⟩
       · cases he
       injection he with he1 he2 he3
       injection he1 with he1;injection he1 with he1;subst he1;subst he2;subst he3
       have hzl:t2.zc.length=t2.size:=ok_len (w:=w) (ro:=fun _=>True) (ok_zero t2)
       have hzc:(t2.mk t2.zc).cells.toList=t2.zc:=mk_cells (t:=t2) (cs:=t2.zc) hzl (ok_one (w:=w) (ro:=fun _=>True) (ok_zero t2))
       have hzs:(t2.mk t2.zc).cells.size=t2.size:=by rw[← Array.length_toList,hzc,hzl]
       have hZ:(Builtin.zeroCells (t2.mk t2.zc).cells (xs.length - m)).toList=(List.replicate (xs.length - m) t2.zc).flatten:=by
         by_cases hz0:t2.zc.length=0
         · have hnil:t2.zc=[]:=List.eq_nil_of_length_eq_zero hz0
           have hs0:(t2.mk t2.zc).cells.size=0:=by rw[hzs,← hzl];exact hz0
           unfold Builtin.zeroCells
           rw[hs0,hnil];simp
         · have h1:=madeCells_flat t2.zc (by omega) (xs.length - m)
           have h2:(t2.mk t2.zc).cells=t2.zc.toArray:=by apply Array.toList_inj.1;simpa using hzc
           rw[h2,← h1]
           unfold Builtin.zeroCells madeCells
           simp
       have hZl:((List.replicate (xs.length - m) t2.zc).flatten).length=(xs.length - m)*t2.size:=by
         rw[flatten_len (n:=t2.size) (fun u hu=>by rw[(List.mem_replicate.1 hu).2,hzl])];simp
       have hadd:m*t2.size+(xs.length - m)*t2.size=xs.length*t2.size:=by rw[← Nat.add_mul];congr 1;omega
       have hcb:xs.length*t2.size≤c*t2.size:=Nat.mul_le_mul_right _ hnc
       have hone:∀ v∈(List.replicate (xs.length - m) t2.zc).flatten,v.oneCell'=true:=by
         intro v hv
         obtain⟨l,hl,hvl⟩:=List.mem_flatten.1 hv
         rw[(List.mem_replicate.1 hl).2] at hvl
         exact ok_one (w:=w) (ro:=fun _=>True) (ok_zero t2) v hvl
       have h1:=run_storeCells_at P g (m*t2.size) e (List.replicate (xs.length - m) t2.zc).flatten 0 cur w hh (by rw[hZl];omega) hone
       have hr:(storeCells ⟨g,m*t2.size,none⟩ (List.replicate (xs.length - m) t2.zc).flatten).run P w = .ok () (w.setRow g (spl cur.toList (m*t2.size) (List.replicate (xs.length - m) t2.zc).flatten).toArray):=by simpa [spl] using h1
       refine⟨_,.tuple #[],w.setRow g (spl cur.toList (m*t2.size) (List.replicate (xs.length - m) t2.zc).flatten).toArray,h,Inv.put (s := .any) (v := .tuple #[]) (I.mod (.row e t2 (xs.take m++List.replicate (xs.length - m) t2.z)) hob rfl (Same.setRow w g _) (fun b hb hF=>setRow_other w g b _ (fun hbg=>hF (hbg▸hFg))) (fun hro => ?_)) trivial,?_⟩
       · have hcut:=hoks.cut 0 m
         rw[List.drop_zero,List.drop_zero] at hcut
         have hfl:=flat_cut hoks.all 0 m
         rw[Nat.zero_mul,List.drop_zero,List.drop_zero] at hfl
         have hzr:Oks (fun x u=>u.length=t2.size∧t2.ok w (Ro R0 w0.heap.size A st.ob w) x u) (List.replicate (xs.length - m) t2.z) (List.replicate (xs.length - m) t2.zc):=by
           refine⟨by simp,fun j x u h1 h2 => ?_⟩
           rw[List.getElem?_replicate] at h1 h2
           split at h1
           · injection h1 with h1;subst h1
             rename_i hj
             rw[if_pos hj] at h2;injection h2 with h2;subst h2
             exact⟨hzl,ok_zero t2⟩
           · cases h1
         have hall:=hcut.append hzr
         have hcl:css.flatten.length=xs.length*t2.size:=hlen
         have hnew:(css.take m++List.replicate (xs.length - m) t2.zc).flatten=spl css.flatten (m*t2.size) (List.replicate (xs.length - m) t2.zc).flatten:=by
           rw[List.flatten_append,hfl]
           unfold spl
           rw[List.drop_of_length_le (by rw[hZl,hcl];omega),List.append_nil]
         have hxl:(xs.take m++List.replicate (xs.length - m) t2.z).length=xs.length:=by simp;omega
         refine⟨css.take m++List.replicate (xs.length - m) t2.zc,hall.mono fun x u hu=>⟨hu.1,ok_mono (fun b hb=>(hro b hb).1) (fun b hb=>(hro b hb).2) hu.2⟩,?_,hF⟩
         rw[hη,hxl,hnew]
         refine⟨by rw[spl_len _ _ _ (by rw[hZl,hcl];omega),hcl],.inr ⟨g,c,_,rfl,hb0,setRow_heap w g cur _ e _ hh,hnc,hcm,?_,?_⟩⟩
         · have:=spl_len cur.toList (m*t2.size) (List.replicate (xs.length - m) t2.zc).flatten (by rw[hZl];simp only[Array.length_toList];omega)
           simpa [hcur] using this
         · rw[← htake]
           simp only
           rw[spl_take _ _ _ _ (by rw[hZl];omega) (by simp only[Array.length_toList];omega)]
       · have hne:xs.length - m≠0:=by omega
         obtain⟨q,hq⟩:=Nat.exists_eq_succ_of_ne_zero hne
         have hz:(zeroValue e').run P w = .ok (t2.mk t2.zc) w:=by simp[zeroValue,typeInfo,hinf,hiz]
         rw[hq] at hr hZ ⊢
         simp only[Builtin.clear_,List.getElem?_toArray,List.getElem?_cons_zero,Sem.run_bind,run_underlying hu,Result.andThen_ok,hz,hZ,hr,Sem.run_pure]
     · exact h.elim
   · exact h.elim
 · exact h.elim
def apz(E:Env)(st:St)(T TI:TypeId)(n:Int)(dst:Option Nat)(k:St→Prop):Prop :=
 match E.ty T,E.el T,E.ty TI with
 | some (.sl t),some e,some (.int .i64)=>if 0<t.size∧t.size≤64 then (0<n∧n≤1000000000)∧k ((st.push (.row e t (List.replicate n.toNat t.z))).put dst (.os st.ob.length)) else False
 | _,_,_=>False
theorem apz_ok[Dn]{P:Program}{E:Env}(hE:EnvOk P E){w0:World}{M:Ms}{R0:Nat→Prop}{A:Asg}{st:St}{a:Act}{w:World}(I:Inv w0 M R0 A st a w){T TI ty:TypeId}{n:Int}{kn:IntKind}
   {dst:Option Nat} {k:St→Prop} (h:apz E st T TI n dst k) :
   ∃ A' st' v' w',k st'∧Inv w0 M R0 A' st' (a.put dst v') w'∧(Builtin.append_ #[T,TI] ty #[.slice none 0 0,.int kn n]).run P w = .ok v' w':=by
 unfold apz at h
 split at h
 · rename_i t e ht he hti
   split at h
   · rename_i hsz
     obtain⟨⟨h0,h1⟩,hk⟩:=h
     obtain⟨_,e',hu',hfe⟩:=hE.ty _ _ ht
     have hu:=hE.el _ _ he
     rw[hu] at hu';injection hu' with hu';injection hu' with hu';subst hu'
     obtain⟨i,hi,his,hiz,hib⟩:=hfe.info
     have hui:P.underlying TI=some (.int .i64):=(hE.ty _ _ hti).2
     have hn:n=((n.toNat:Nat):Int):=by omega
     have hzl:t.zc.length=t.size:=ok_len (w:=w) (ro:=fun _=>True) (ok_zero t)
     have hzc:(t.mk t.zc).cells.toList=t.zc:=mk_cells (t:=t) (cs:=t.zc) hzl (ok_one (w:=w) (ro:=fun _=>True) (ok_zero t))
     have hza:(t.mk t.zc).cells=t.zc.toArray:=by apply Array.toList_inj.1;simpa using hzc
     have hZ:∀ m:Nat,(Builtin.zeroCells (t.mk t.zc).cells m).toList=(List.replicate m t.zc).flatten:=fun m=>by
       have h1:=madeCells_flat t.zc (by omega) m
       rw[hza,← h1]
       unfold Builtin.zeroCells madeCells
       simp
     have hr:=Lib.run_append_nil_zeros (P:=P) w T TI ty e i (t.mk t.zc) kn .i64 hu hui hi hiz n.toNat (by omega) (by omega) (by omega) (by
       have h2:n.toNat*i.bytes≤1000000000*2048:=Nat.mul_le_mul (by omega) (by omega)
       omega)
     rw[← hn] at hr
     have hge:=grownCap_ge w n.toNat 0 e
     have hle:=grownCap_le_maxLen w n.toNat 0 e (by simp only[maxLen];omega)
     have hlen:((List.replicate n.toNat t.zc).flatten).length=n.toNat*t.size:=by
       rw[flatten_len (n:=t.size) (fun u hu=>by rw[(List.mem_replicate.1 hu).2,hzl])];simp
     have hoks:Oks (fun x u=>u.length=t.size∧t.ok w (Ro R0 w0.heap.size A st.ob w) x u) (List.replicate n.toNat t.z) (List.replicate n.toNat t.zc):=by
       refine⟨by simp,fun j x u h1 h2 => ?_⟩
       rw[List.getElem?_replicate] at h1 h2
       split at h1
       · injection h1 with h1;subst h1
         rename_i hj
         rw[if_pos hj] at h2;injection h2 with h2;subst h2
         exact⟨hzl,ok_zero t⟩
       · cases h1
     obtain⟨A',hI⟩:=I.newRow none (e:=e) (t:=t) (xs:=List.replicate n.toNat t.z) (v := .slice (some ⟨w.heap.size,0,none⟩) n.toNat (grownCap w n.toNat 0 e)) (css:=List.replicate n.toNat t.zc)
       (w':=w.drew.alloc (.cells (Builtin.zeroCells (t.mk t.zc).cells n.toNat++Builtin.zeroCells (t.mk t.zc).cells (grownCap w n.toNat 0 e - n.toNat)) e))
       ⟨rfl,rfl,rfl,by show w.heap.size≤(w.heap.push _).size;simp,fun _=>Nat.le_succ _⟩ (fun b hb _=>Ext.alloc w.drew _ b hb) (fun b hb=>by
         have hb:some w.heap.size=some b:=hb
         injection hb with hb
         subst hb
         exact .inl ⟨Nat.le_refl _,by show w.heap.size<(w.heap.push _).size;simp⟩) hoks (by
         refine⟨by rw[hlen];simp,.inr ⟨w.heap.size,grownCap w n.toNat 0 e,_,by simp,Nat.zero_le _,heap_alloc_new w.drew _,by simpa using hge,hle,?_,?_⟩⟩
         · have hzs:(t.mk t.zc).cells.size=t.size:=by rw[← Array.length_toList,hzc,hzl]
           rw[Array.size_append,size_zeroCells,size_zeroCells,hzs,← Nat.add_mul]
           congr 1;omega
         · rw[Array.toList_append,hZ,hZ,List.length_replicate,← hlen,List.take_left]) dst
     exact⟨A',_,_,_,hk,hI,hr⟩
   · exact h.elim
 · exact h.elim
end Go.Vc
