import Derived.Test.YtfmiecbmikncpaaDoorTORowVI
namespace Go.Vc
open Go.RowKit
def bslv(E:Env)(T:TypeId)(len:Nat)(parts:List (Nat×SV))(k:SV→Prop):Prop :=
 match E.ty T with
 | some (.sl t)=>if 0<t.size∧t.size≤64∧(0<len∧len≤65536)∧arOk (.ar len t) parts=true then
     match bld (.ar len t) (Ty.z (.ar len t)) parts with
     | some y=>k (.d (.sl t) y)
     | none=>False
   else False
 | _=>False
def bsl(E:Env)(st:St)(T:TypeId)(len:Nat)(parts:List (Nat×SV))(dst:Option Nat)(k:St→Prop):Prop:=bslv E T len parts fun s=>k (st.put dst s)
theorem bslv_ok[Dn]{P:Program}{E:Env}(hE:EnvOk P E){w0:World}{M:Ms}{R0:Nat→Prop}{A:Asg}{st:St}{a:Act}{w:World}(I:Inv w0 M R0 A st a w){T:TypeId}{len:Nat}{parts:List (Nat×SV)}{vals:List (Nat×Value)}
   (hl:vals.length=parts.length) (hall:∀ (j:Nat) (p:Nat×SV) (v:Nat×Value),parts[j]?=some p→vals[j]?=some v→p.1=v.1∧SvOk w (Ro R0 w0.heap.size A st.ob w) A p.2 v.2)
   {k:SV→Prop} (h:bslv E T len parts k) :
   ∃ s v' w',k s∧Same w w'∧Ext w w'∧SvOk w' (Ro R0 w0.heap.size A st.ob w') A s v'∧(Instr.buildSlice T len vals.toArray).run P w = .ok v' w':=by
 unfold bslv at h
 split at h
 · rename_i t ht
   split at h
   · rename_i hh
     obtain⟨h0,h1,⟨hlp,h2⟩,har⟩:=hh
     split at h
     · rename_i y hb
       obtain⟨_,e,hu,hfe⟩:=hE.ty _ _ ht
       obtain⟨i,hi,his,hiz,hib⟩:=hfe.info
       have hzl:t.zc.length=t.size:=ok_len (w:=w) (ro:=fun _=>True) (ok_zero t)
       have hzc:(t.mk t.zc).cells=t.zc.toArray:=by
         apply Array.toList_inj.1
         have:=mk_cells (t:=t) (cs:=t.zc) hzl (ok_one (w:=w) (ro:=fun _=>True) (ok_zero t))
         simpa using this
       have harr:∀ p∈parts,p.1<len:=by
         intro p hp
         have:=List.all_eq_true.1 har p hp
         simpa using this
       have hz0:(Ty.ar len t).ok w (Ro R0 w0.heap.size A st.ob w) (Ty.z (.ar len t)) (madeCells t.zc.toArray (len*t.zc.length)).toList:=by
         rw[madeCells_flat t.zc (by omega) len]
         exact ok_zero (.ar len t)
       obtain⟨cs',hfill,hok⟩:=fill_ar harr hz0 hb hl hall
       have hn:len*t.size≤16777216:=by
         have:len*t.size≤65536*64:=Nat.mul_le_mul h2 h1
         omega
       have hr:(Instr.buildSlice T len vals.toArray).run P w = .ok (.slice (some ⟨w.heap.size,0,none⟩) len len) (w.alloc (.cells cs' e)):=by
         have hz:(zeroValue e).run P w = .ok (t.mk t.zc) w:=by simp[zeroValue,typeInfo,hi,hiz]
         have hmade:(Array.range (len*t.size)).map (t.zc.toArray[· % t.zc.toArray.size]!)=madeCells t.zc.toArray (len*t.zc.length):=by
           unfold madeCells;rw[hzl]
         have h2p:¬ (len*t.size>2 ^ 24):=by omega
         have hl0:¬ (len*t.size=0):=by
           have:0<len*t.size:=Nat.mul_pos hlp h0
           omega
         simp only[Instr.buildSlice,Sem.run_bind,run_underlying hu,Result.andThen_ok,hfe.size w,if_neg h2p,if_neg hl0,hz,hzc]
         have hrz:∀ (bad:Option (Array Value)→Sem Value) (z:Array Value),z=t.zc.toArray→(Sem.run P (match Instr.fill (fun i=>some (i*t.size,t.size)) ((Array.range (len*t.size)).map (fun x=>z[x%z.size]!)) vals.toArray.toList with
             | some cells=>do pure (Value.slice (some (← newRow e cells)) len len)
             | x=>bad x) w) = .ok (.slice (some ⟨w.heap.size,0,none⟩) len len) (w.alloc (.cells cs' e)):=by
           rintro bad z rfl
           rw[hmade,hfill]
           rfl
         have hrz':=fun bad=>hrz bad _ rfl
         simp at hrz' ⊢
         exact hrz' _
       refine⟨_,_,_,h,Same.alloc w (.cells cs' e),Ext.alloc w _,?_,hr⟩
       obtain⟨hyl,css,hcs,hoks⟩:=hok
       refine⟨some ⟨w.heap.size,0,none⟩,len,by rw[hyl],by rw[hyl];exact Nat.le_refl _,by simp only[maxLen];omega,fun _=>⟨_,css,rfl,rfl,ro_ext I (by simp) _ (.inr ⟨Nat.le_refl _,by simp⟩),hoks.mono fun x u hu=>⟨hu.1,ok_mono (fun b hb=>ro_ext I (by simp) b (.inl hb)) (fun b hb=>Ext.alloc w _ b hb.1) hu.2⟩,fun j u hj => ?_⟩⟩
       rw[addr_add,cell_of_row _ _ _ cs' e (0,0) (heap_alloc_new w _)]
       rw[← hcs] at hj
       simpa using hj
     · exact h.elim
   · exact h.elim
 · exact h.elim
theorem bsl_ok[Dn]{P:Program}{E:Env}(hE:EnvOk P E){w0:World}{M:Ms}{R0:Nat→Prop}{A:Asg}{st:St}{a:Act}{w:World}(I:Inv w0 M R0 A st a w){T:TypeId}{len:Nat}{parts:List (Nat×SV)}{vals:List (Nat×Value)}
   (hl:vals.length=parts.length) (hall:∀ (j:Nat) (p:Nat×SV) (v:Nat×Value),parts[j]?=some p→vals[j]?=some v→p.1=v.1∧SvOk w (Ro R0 w0.heap.size A st.ob w) A p.2 v.2)
   {dst:Option Nat} {k:St→Prop} (h:bsl E st T len parts dst k) :
   ∃ st' v' w',k st'∧Inv w0 M R0 A st' (a.put dst v') w'∧(Instr.buildSlice T len vals.toArray).run P w = .ok v' w':=by
 obtain⟨s,v',w',hk,h1,h2,h3,h4⟩:=bslv_ok hE I hl hall h
 exact⟨_,v',w',hk,(I.ext h1 h2).put h3,h4⟩
def mkv(E:Env)(T:TypeId)(n m:Int)(k:SV→Prop):Prop :=
 match E.ty T with
 | some (.sl t)=>if 0<t.size∧t.size≤64 then 0≤n∧n≤m∧m≤1000000000∧k (.d (.sl t) (List.replicate n.toNat t.z:List t.D)) else False
 | _=>False
theorem mkv_ok[Dn]{P:Program}{E:Env}(hE:EnvOk P E){w0:World}{M:Ms}{R0:Nat→Prop}{A:Asg}{st:St}{a:Act}{w:World}(I:Inv w0 M R0 A st a w){T:TypeId}{n m:Int}{kl kc:IntKind}{k:SV→Prop}(h:mkv E T n m k) :
   ∃ s v' w',k s∧Same w w'∧Ext w w'∧SvOk w' (Ro R0 w0.heap.size A st.ob w') A s v'∧(Instr.makeSlice T (.int kl n) (.int kc m)).run P w = .ok v' w':=by
 unfold mkv at h
 split at h
 · rename_i t ht
   split at h
   · rename_i hsz
     obtain⟨h0,h1,h2,hk⟩:=h
     obtain⟨_,e,hu,hfe⟩:=hE.ty _ _ ht
     obtain⟨i,hi,his,hiz,hib⟩:=hfe.info
     have hzc:(t.mk t.zc).cells=t.zc.toArray:=by
       apply Array.toList_inj.1
       have hzl:t.zc.length=t.size:=ok_len (w:=w) (ro:=fun _=>True) (ok_zero t)
       have:=mk_cells (t:=t) (cs:=t.zc) hzl (ok_one (w:=w) (ro:=fun _=>True) (ok_zero t))
       simpa using this
     have hzl:t.zc.length=t.size:=ok_len (w:=w) (ro:=fun _=>True) (ok_zero t)
     have hby:i.bytes*m.toNat≤281474976710656:=by
       have:i.bytes≤2048:=by omega
       have h3:i.bytes*m.toNat≤2048*1000000000:=Nat.mul_le_mul this (by omega)
       omega
     have hby':(i.bytes:Int)*m≤281474976710656:=by
       have:((i.bytes*m.toNat:Nat):Int)≤281474976710656:=by omega
       rw[Int.natCast_mul,Int.toNat_of_nonneg (by omega)] at this
       exact this
     have hr:=run_make (P:=P) w T e i (t.mk t.zc) hu hi hiz kl kc n m h0 h1 hby' (by omega)
     have hmade:(madeCells (t.mk t.zc).cells (m.toNat*i.size)).toList=(List.replicate m.toNat t.zc).flatten:=by
       rw[hzc,his,← hzl]
       exact madeCells_flat t.zc (by omega) _
     refine⟨_,_,_,hk,Same.alloc w (.cells (madeCells (t.mk t.zc).cells (m.toNat*i.size)) e),Ext.alloc w _,?_,hr⟩
     have hl:(List.replicate n.toNat t.z).length=n.toNat:=List.length_replicate
     refine⟨some ⟨w.heap.size,0,none⟩,m.toNat,by rw[hl],by rw[hl];omega,by simp only[maxLen];omega,fun _=>⟨⟨w.heap.size,0,none⟩,List.replicate n.toNat t.zc,rfl,rfl,ro_ext I (by simp) _ (.inr ⟨Nat.le_refl _,by simp⟩),⟨by simp,fun i x u hx hu => ?_⟩,fun j u hj => ?_⟩⟩
     · rw[List.getElem?_replicate] at hx hu
       split at hx
       · rename_i hlt
         rw[if_pos hlt] at hu
         injection hx with hx;injection hu with hu;subst hx;subst hu
         exact⟨hzl,ok_zero t⟩
       · cases hx
     · rw[addr_add,cell_of_row _ _ _ (madeCells (t.mk t.zc).cells (m.toNat*i.size)) e (0,0) (heap_alloc_new w _)]
       have e1:(List.replicate m.toNat t.zc).flatten=(List.replicate n.toNat t.zc).flatten++(List.replicate (m.toNat - n.toNat) t.zc).flatten:=by
         rw[← List.flatten_append,List.replicate_append_replicate];congr 2;omega
       have hj2:(madeCells (t.mk t.zc).cells (m.toNat*i.size)).toList[j]?=some u:=by
         rw[hmade,e1,List.getElem?_append_left (List.getElem?_eq_some_iff.1 hj).1]
         exact hj
       simpa using hj2
   · exact h.elim
 · exact h.elim
def apv(E:Env)(st:St)(T:TypeId)(s x:SV)(k:SV→Prop):Prop :=
 match E.ty T,E.el T with
 | some (.sl t),some _=>if 0<t.size∧t.size≤64 then
     match elems st t x with
     | some ys=>match s with
       | .fs t' xs=>if h:t'=t then (0<List.length (h▸xs:List t.D)∧0<ys.length∧List.length (h▸xs:List t.D)+ys.length≤1000000000)∧k (.d (.sl t) (List.append (h▸xs:List t.D) ys)) else False
       | _=>False
     | none=>False
   else False
 | _,_=>False
def apO:Op→Option (TypeId×Operand×Operand)
 | .call c=>match c.callee,c.args.toList,c.argTypes.toList with
   | .builtin .append,[s,x],[T,T']=>if T=T' then some (T,s,x) else none
   | _,_,_=>none
 | _=>none
theorem apv_ok[Dn]{P:Program}{E:Env}(hE:EnvOk P E){w0:World}{M:Ms}{R0:Nat→Prop}{A:Asg}{st:St}{a:Act}{w:World}(I:Inv w0 M R0 A st a w){T ty:TypeId}{s x:SV}{v vx:Value}
   (hs:SvOk w (Ro R0 w0.heap.size A st.ob w) A s v) (hsx:SvOk w (Ro R0 w0.heap.size A st.ob w) A x vx) {k:SV→Prop} (h:apv E st T s x k) :
   ∃ r v' w',k r∧Same w w'∧Ext w w'∧SvOk w' (Ro R0 w0.heap.size A st.ob w') A r v'∧(Builtin.append_ #[T,T] ty #[v,vx]).run P w = .ok v' w':=by
 unfold apv at h
 split at h
 · rename_i t e ht he
   split at h
   · rename_i hsz
     split at h
     · rename_i ys hx
       split at h
       · rename_i t' xs
         split at h
         · rename_i hh
           subst hh
           obtain⟨⟨hxp,hpos,hlen⟩,hk⟩:=h
           simp only at hxp hlen hk
           obtain⟨_,e',hu',hfe⟩:=hE.ty _ _ ht
           have hu:=hE.el _ _ he
           rw[hu] at hu';injection hu' with hu';injection hu' with hu';subst hu'
           obtain⟨i,hi,his,hiz,hib⟩:=hfe.info
           obtain⟨hok,Ab,hve⟩:=hs
           have hok':Ty.ok w (Ro R0 w0.heap.size A st.ob w) (.sl t') xs [v]:=hok
           obtain⟨Ab',c',e1,hc1',hc2',hcell'⟩:=hok'
           injection e1 with e1
           rw[hve] at e1;injection e1 with e2 _ e3;subst e2;subst e3;subst hve
           obtain⟨Ad,c,c2,rfl,hc1,hc2,h2,hcell⟩:=elems_ok I hx hsx
           have hne:ys≠[]:=List.length_pos_iff.1 hpos
           obtain⟨ad,rfl,hsp,hab,hcl⟩:=hcell hne
           have hzc:(t'.mk t'.zc).cells.size=t'.size:=by
             have hzl:t'.zc.length=t'.size:=ok_len (w:=w) (ro:=fun _=>True) (ok_zero t')
             have:=mk_cells (t:=t') (cs:=t'.zc) hzl (ok_one (w:=w) (ro:=fun _=>True) (ok_zero t'))
             rw[← Array.length_toList,this,hzl]
           have hbb:(xs.length+ys.length)*i.bytes≤140737488355328:=by
             have:i.bytes≤2048:=by omega
             have h3:(xs.length+ys.length)*i.bytes≤1000000000*2048:=Nat.mul_le_mul hlen this
             omega
           have hxs:xs≠[]:=List.length_pos_iff.1 hxp
           obtain⟨bd,css,rfl,hspb,hrob,hoksb,hcellb⟩:=hcell' hxs
           obtain⟨v',w',hr,hown,hg⟩:=run_append_arg_grows (P:=P) w T ty e i (t'.mk t'.zc) t'.size i.bytes hu hi hiz his rfl hzc hsz.1 bd xs.length xs.length css.flatten hoksb.flen hcellb ad ys.length c c2.flatten h2.flen hcl (by omega) (by simp only[maxLen];omega) hbb
           have hext:Ext w w':=fun b hb=>hg.block b hb (by simp)
           have hf:(css++c2).flatten=css.flatten++c2.flatten:=by simp
           have hl:(List.append xs ys).length=xs.length+ys.length:=List.length_append
           have hro:∀ b,Ro R0 w0.heap.size A st.ob w b→Ro R0 w0.heap.size A st.ob w' b:=fun b hb=>ro_ext I hg.size b (.inl hb)
           have hoks:Oks (fun x u=>u.length=t'.size∧t'.ok w' (Ro R0 w0.heap.size A st.ob w') x u) (List.append xs ys) (css++c2) :=
             (hoksb.append h2).mono fun x u hu=>⟨hu.1,ok_mono hro (fun b hb=>hext b hb.1) hu.2⟩
           refine⟨_,v',w',hk,⟨hg.os,hg.tape,hg.output,hg.size,fun _=>run_drawn P _ _ hr⟩,hext,?_,hr⟩
           show (Ty.sl t').ok w' _ (List.append xs ys) [v']
           have hlt:=hown.lt
           obtain⟨k1,k2⟩:=hown
           rcases k2 with ⟨_,k3⟩ | ⟨g,cap,cur,rfl,k3,k4,k5,k6,k7,k8⟩
           · omega
           · refine⟨some ⟨g,0,none⟩,cap,by rw[hl],by rw[hl];exact k5,k6,fun _=>⟨⟨g,0,none⟩,css++c2,rfl,rfl,ro_ext I hg.size g (.inr (hlt g rfl)),hoks,fun j u hj => ?_⟩⟩
             rw[addr_add,Nat.zero_add,cell_of_row w' g _ cur e (0,0) k4]
             rw[hf,← k8,List.getElem?_take] at hj
             split at hj
             · simpa using hj
             · cases hj
         · exact h.elim
       · exact h.elim
     · exact h.elim
   · exact h.elim
 · exact h.elim
inductive Ctr where
 | det (ps:List Ty) (pre:List Dat→Prop) (f:List Dat→List Dat)
 | gen (ps:List Ty) (sem:List Dat→(List Dat→Prop)→Prop)
def Ctr.ps:Ctr→List Ty
 | .det ps _ _=>ps
 | .gen ps _=>ps
def Ctr.sem:Ctr→List Dat→(List Dat→Prop)→Prop
 | .det _ pre f,ds,k=>pre ds∧k (f ds)
 | .gen _ sem,ds,k=>sem ds k
def DOk(w:World)(ro:Nat→Prop)(ds:List Dat)(vs:List Value):Prop:=vs.length=ds.length∧∀ (j:Nat) (d:Dat) (v:Value),ds[j]?=some d→vs[j]?=some v→d.t.okV w ro d.x v
def RetOk(w:World)(ro:Nat→Prop)(rs:List Dat)(v:Value):Prop :=
 match rs with
 | [r]=>r.t.okV w ro r.x v
 | rs=>∃ vs,v = .tuple vs∧DOk w ro rs vs.toList
def toSV:List Dat→SV
 | [r] => .d r.t r.x
 | rs => .tp (rs.map fun r => .d r.t r.x)
def GlOk(gl:List (Nat×Dat))(w:World)(ro:Nat→Prop):Prop :=
 ∀ g d,(g,d)∈gl→ro g∧∃ us,(∀ j u,us[j]?=some u→w.cell? ⟨g,j,none⟩=some u)∧d.t.ok w ro d.x us
theorem GlOk.mono{gl:List (Nat×Dat)}{w w':World}{ro ro':Nat→Prop}(hr:∀ b,ro b→ro' b)(hw:∀ b,ro b→w'.heap[b]?=w.heap[b]?)(h:GlOk gl w ro):GlOk gl w' ro':=by
 intro g d hg
 obtain⟨h1,us,h2,h3⟩:=h g d hg
 refine⟨hr _ h1,us,fun j u hj => ?_,ok_mono hr hw h3⟩
 rw[← h2 j u hj]
 exact World.cell?_of_block (hw _ h1)
structure BaseOk(gl:List (Nat×Dat))(w0:World)(M:Ms)(R0:Nat→Prop):Prop where
 gl:GlOk gl w0 fun b=>R0 b∧¬ M.M b
 lt:∀ b,R0 b→b<w0.heap.size
 me:∀ b,M.M b→b<w0.heap.size→R0 b
theorem BaseOk.now[Dn]{gl:List (Nat×Dat)}{w0:World}{M:Ms}{R0:Nat→Prop}(hb:BaseOk gl w0 M R0){A:Asg}{st:St}{a:Act}{w:World}(I:Inv w0 M R0 A st a w):GlOk gl w (Ro R0 w0.heap.size A st.ob w) :=
 hb.gl.mono (fun b h=>⟨Nat.lt_of_lt_of_le (hb.lt b h.1) I.fr.size,.inl h.1,fun i o ho hl hf=>by
   rcases (I.fp i o b ho hl hf).2 with h' | h'
   · have:=hb.lt b h.1;omega
   · exact h.2 h'⟩) (fun b h=>I.fr.block b (hb.lt b h.1) h.2)
def PlainOk[Dn](P:Program)(gl:List (Nat×Dat))(f:FuncId)(c:Ctr):Prop :=
 ∀ ds k,c.sem ds k→∀ (w:World) (R0:Nat→Prop) (vals:List Value),(∀ b,R0 b→b<w.heap.size)→GlOk gl w R0→DOk w R0 ds vals →
   Calls P f vals.toArray w fun e w'=>Fr (fun _=>False) w w'∧∃ rs v,e = .returned v∧k rs∧RetOk w' (fun b=>R0 b∨(w.heap.size≤b∧b<w'.heap.size)) rs v
def EntOk(P:Program)(f:FuncId):Prop:=∃ fn,P.funcs[f]?=some fn∧fn.body.isSome=true∧(fn.name == "runtime.NumGoroutine")=false
def GOk[Dn](P:Program)(gl:List (Nat×Dat)):List (FuncId×Ctr)→Prop
 | []=>True
 | x::r=>(EntOk P x.1∧PlainOk P gl x.1 x.2)∧GOk P gl r
theorem RetOk.sv{w:World}{ro:Nat→Prop}{A:Asg}{rs:List Dat}{v:Value}(h:RetOk w ro rs v):SvOk w ro A (toSV rs) v:=by
 unfold RetOk at h
 split at h
 · exact h
 · rename_i hno
   obtain⟨vs,rfl,hl,hd⟩:=h
   have:toSV rs = .tp (rs.map fun r => .d r.t r.x):=by
     unfold toSV
     split
     · rename_i r;exact absurd rfl (hno r)
     · rfl
   rw[this]
   refine⟨vs,rfl,by simpa using hl,fun j sv v h1 h2 => ?_⟩
   rw[List.getElem?_map] at h1
   obtain⟨d,hd1,rfl⟩:=Option.map_eq_some_iff.1 h1
   exact hd j d v hd1 h2
def asV(st:St)(t:Ty)(s:SV):Option (t.D×Bool) :=
 match asT t s with
 | some x=>some (x,false)
 | none=>match t with
   | .sl t'=>match elems st t' s with
     | some xs=>some (xs,true)
     | none=>none
   | _=>none
theorem asV_ok[Dn]{w0:World}{M:Ms}{R0:Nat→Prop}{A:Asg}{st:St}{a:Act}{w:World}(I:Inv w0 M R0 A st a w){t:Ty}{s:SV}{v:Value}{x:t.D}{b:Bool}(h:asV st t s=some (x,b))(hs:SvOk w (Ro R0 w0.heap.size A st.ob w) A s v) :
   (b=false→t.okV w (Ro R0 w0.heap.size A st.ob w) x v)∧t.okV w (fun b=>b<w.heap.size) x v:=by
 unfold asV at h
 split at h
 · rename_i y hy
   injection h with h;injection h with h1 h2;subst h1;subst h2
   have:=asT_ok hy hs
   exact⟨fun _=>this,okV_mono (fun b hb=>hb.1) (fun _ _=>rfl) this⟩
 · split at h
   · rename_i t'
     split at h
     · rename_i xs hx
       injection h with h;injection h with h1 h2;subst h1;subst h2
       refine⟨(fun h=>by cases h),?_⟩
       obtain⟨Ad,c,css,rfl,hc1,hc2,hoks,hcell⟩:=elems_ok I hx hs
       refine⟨Ad,c,rfl,hc1,hc2,fun hne => ?_⟩
       obtain⟨ad,e,hsp,hlt,hc⟩:=hcell hne
       exact⟨ad,css,e,hsp,hlt,hoks.mono fun x u hu=>⟨hu.1,ok_mono (fun b hb=>hb.1) (fun _ _=>rfl) hu.2⟩,hc⟩
     · cases h
   · cases h
def treeV(st:St):(t:Ty)→SV→Option t.D
 | .sl t',.os i=>match st.ob[i]? with
   | some (.trow _ u xs)=>if h:u.er=t' then some (h▸(ls xs):List t'.D) else none
   | _=>none
 | _,_=>none
theorem nd_data[Dn]{w:World}{ro:Nat→Prop}(hro:∀ b,ro b→b<w.heap.size):∀ {u:Ot} {e:TypeId} {κ:List Nat→Value} {xs:(Ot.sl e u).D},(Ot.sl e u).nd w ro κ xs→(Ty.sl u.er).ok w (fun b=>b<w.heap.size) xs [κ []]:=by
 intro u
 induction u with
 | d t =>
   intro e κ xs hn
   obtain⟨⟨css,hl,hc,hown⟩,_⟩:=hn
   have hoks:Oks (fun x u=>u.length=t.size∧t.ok w (fun b=>b<w.heap.size) x u) (ls xs) css:=⟨hl,fun k y c hy hcc=>⟨(hc k y c hy hcc).1,ok_mono hro (fun _ _=>rfl) (hc k y c hy hcc).2⟩⟩
   rcases hown.2 with ⟨h1,h2⟩ | ⟨g,cap,cur,h1,_,hh,hnc,hm,hcur,htake⟩
   · have hy:xs=[]:=List.eq_nil_of_length_eq_zero h2
     subst hy
     exact⟨none,0,by rw[h1];rfl,Nat.le_refl _,Nat.zero_le _,fun h=>absurd rfl h⟩
   · refine⟨_,cap,by rw[h1],hnc,hm,fun _=>⟨_,css,rfl,rfl,(Array.getElem?_eq_some_iff.1 hh).1,hoks,fun j u hj => ?_⟩⟩
     rw[addr_add,cell_of_row w g _ cur e (0,0) hh]
     rw[← htake,List.getElem?_take] at hj
     split at hj
     · simpa using hj
     · cases hj
 | sl e2 u ih =>
   intro e κ xs hn
   obtain⟨⟨css,hl,hc,hown⟩,hsub⟩:=hn
   have hoks:Oks (fun x u'=>u'.length=(Ty.sl u.er).size∧(Ty.sl u.er).ok w (fun b=>b<w.heap.size) x u') (ls xs) css:=⟨hl,fun k y c hy hcc=>by
     obtain⟨m1,m2⟩:=hc k y c hy hcc
     refine⟨m1,?_⟩
     have m2':c=[κ [k]]:=m2
     rw[m2']
     exact ih (hsub k y hy)⟩
   rcases hown.2 with ⟨h1,h2⟩ | ⟨g,cap,cur,h1,_,hh,hnc,hm,hcur,htake⟩
   · have hy:xs=[]:=List.eq_nil_of_length_eq_zero h2
     subst hy
     exact⟨none,0,by rw[h1];rfl,Nat.le_refl _,Nat.zero_le _,fun h=>absurd rfl h⟩
   · refine⟨_,cap,by rw[h1],hnc,hm,fun _=>⟨_,css,rfl,rfl,(Array.getElem?_eq_some_iff.1 hh).1,hoks,fun j u hj => ?_⟩⟩
     rw[addr_add,cell_of_row w g _ cur e (0,0) hh]
     rw[← htake,List.getElem?_take] at hj
     split at hj
     · simpa using hj
     · cases hj
theorem treeV_ok[Dn]{w0:World}{M:Ms}{R0:Nat→Prop}{A:Asg}{st:St}{a:Act}{w:World}(I:Inv w0 M R0 A st a w){t:Ty}{s:SV}{v:Value}{x:t.D}(h:treeV st t s=some x)(hs:SvOk w (Ro R0 w0.heap.size A st.ob w) A s v):t.okV w (fun b=>b<w.heap.size) x v:=by
 unfold treeV at h
 split at h
 · rename_i t' i
   split at h
   · rename_i e u xs hob
     split at h
     · rename_i hu;subst hu
       injection h with h;subst h
       obtain⟨_,rfl⟩:=hs
       obtain⟨h1,h2,_,_⟩:=I.ob i _ hob
       have:=nd_data (fun b (hb:Ro R0 w0.heap.size A st.ob w b)=>hb.1) h2
       rw[h1] at this
       exact this
     · cases h
   · cases h
 · cases h
def asW(st:St)(t:Ty)(s:SV):Option (t.D×Bool) :=
 match asV st t s with
 | some r=>some r
 | none=>match treeV st t s with
   | some x=>some (x,true)
   | none=>none
theorem asW_ok[Dn]{w0:World}{M:Ms}{R0:Nat→Prop}{A:Asg}{st:St}{a:Act}{w:World}(I:Inv w0 M R0 A st a w){t:Ty}{s:SV}{v:Value}{x:t.D}{b:Bool}(h:asW st t s=some (x,b))(hs:SvOk w (Ro R0 w0.heap.size A st.ob w) A s v) :
   (b=false→t.okV w (Ro R0 w0.heap.size A st.ob w) x v)∧t.okV w (fun b=>b<w.heap.size) x v:=by
 unfold asW at h
 split at h
 · rename_i r hr
   injection h with h;subst h
   exact asV_ok I hr hs
 · split at h
   · rename_i y hy
     injection h with h;injection h with h1 h2;subst h1;subst h2
     exact⟨(fun h=>by cases h),treeV_ok I hy hs⟩
   · cases h
def piecesV(st:St):(t:Ty)→List SV→Option t.D
 | .pr a b,s::r=>match asW st a s with
   | some (x,_)=>match piecesV st b r with
     | some y=>some (x,y)
     | none=>none
   | none=>none
 | .un,[]=>some ()
 | _,_=>none
def lookP(st:St)(t:Ty):SV→Option t.D
 | .ps i=>match st.ob[i]? with
   | some (.st _ l)=>piecesV st t l
   | _=>none
 | _=>none
def asA(st:St)(t:Ty)(s:SV):Option (t.D×Bool) :=
 match asW st t s with
 | some r=>some r
 | none=>match t with
   | .ptr t'=>match lookP st t' s with
     | some x=>some (some x,true)
     | none=>none
   | .pr a b=>match s with
     | .ag l=>match piecesV st (.pr a b) l with
       | some x=>some (x,true)
       | none=>none
     | _=>none
   | _=>none
theorem piecesV_ok[Dn]{w0:World}{M:Ms}{R0:Nat→Prop}{A:Asg}{st:St}{a:Act}{w:World}(I:Inv w0 M R0 A st a w):∀ {t:Ty} {l:List SV} {cs:List Value} {x:t.D},piecesV st t l=some x →
   Pcs w (Ro R0 w0.heap.size A st.ob w) A l cs→t.ok w (fun b=>b<w.heap.size) x cs:=by
 intro t
 induction t with
 | pr a b _ ihb =>
   intro l cs x h hp
   cases l with
   | nil=>simp[piecesV] at h
   | cons s r =>
     simp only[piecesV] at h
     split at h
     · rename_i y b1 hy
       split at h
       · rename_i z hz
         injection h with h;subst h
         obtain⟨css,rfl,hl,hall⟩:=hp
         cases css with
         | nil=>simp at hl
         | cons u us =>
           obtain⟨h1,h2,v,rfl,hv,hnd⟩:=hall 0 s u rfl rfl
           have hs:SvOk w (Ro R0 w0.heap.size A st.ob w) A s v:=by
             cases s<;>first | exact hv | exact hv.elim
           refine⟨_,_,by rw[List.flatten_cons],okV_cells (asW_ok I hy hs).2,ihb hz ⟨us,rfl,by simpa using hl,fun j s' u' e1 e2=>hall (j+1) s' u' (by simpa using e1) (by simpa using e2)⟩⟩
       · cases h
     · cases h
 | un =>
   intro l cs x h hp
   cases l with
   | nil =>
     obtain⟨css,rfl,hl,_⟩:=hp
     have:css=[]:=List.eq_nil_of_length_eq_zero (by simpa using hl)
     subst this;rfl
   | cons s r=>simp[piecesV] at h
 | _=>intro l cs x h _;simp[piecesV] at h
theorem asA_ok[Dn]{w0:World}{M:Ms}{R0:Nat→Prop}{A:Asg}{st:St}{a:Act}{w:World}(I:Inv w0 M R0 A st a w){t:Ty}{s:SV}{v:Value}{x:t.D}{b:Bool}(h:asA st t s=some (x,b))(hs:SvOk w (Ro R0 w0.heap.size A st.ob w) A s v) :
   (b=false→t.okV w (Ro R0 w0.heap.size A st.ob w) x v)∧t.okV w (fun b=>b<w.heap.size) x v:=by
 unfold asA at h
 split at h
 · rename_i r hr
   injection h with h;subst h
   exact asW_ok I hr hs
 · split at h
   · rename_i t'
     split at h
     · rename_i y hy
       injection h with h;injection h with h1 h2;subst h1;subst h2
       refine⟨(fun h=>by cases h),?_⟩
       unfold lookP at hy
       split at hy
       · rename_i i
         split at hy
         · rename_i e l hob
           obtain⟨g,cs,hη,hF,hh,hp⟩:=I.ob i _ hob
           obtain⟨_,hv,_⟩:=hs
           have hg:g<w.heap.size:=(Array.getElem?_eq_some_iff.1 hh).1
           refine⟨⟨g,0,none⟩,cs.toList,by rw[hv,hη],rfl,hg,fun j u hj => ?_,piecesV_ok I hy hp⟩
           rw[addr_add,cell_of_row _ _ _ cs e (0,0) hh]
           simpa using hj
         · cases hy
       · cases hy
     · cases h
   · rename_i a1 b1
     split at h
     · rename_i l
       split at h
       · rename_i y hy
         injection h with h;injection h with h1 h2;subst h1;subst h2
         obtain⟨vs,rfl,hp⟩:=hs
         exact⟨(fun h=>by cases h),vs,rfl,piecesV_ok I hy hp⟩
       · cases h
     · cases h
   · cases h
def argsV(st:St):List Ty→List SV→Option (List Dat×Bool)
 | [],[]=>some ([],false)
 | t::ts,s::ss=>match asA st t s with
   | some (x,b)=>match argsV st ts ss with
     | some (ds,b')=>some (⟨t,x⟩::ds,b||b')
     | none=>none
   | none=>none
 | _,_=>none
theorem argsV_ok[Dn]{w0:World}{M:Ms}{R0:Nat→Prop}{A:Asg}{st:St}{a:Act}{w:World}(I:Inv w0 M R0 A st a w):∀ {ts:List Ty} {ss:List SV} {vs:List Value} {ds:List Dat} {b:Bool},argsV st ts ss=some (ds,b)→All2 (SvOk w (Ro R0 w0.heap.size A st.ob w) A) ss vs →
   (b=false→DOk w (Ro R0 w0.heap.size A st.ob w) ds vs)∧DOk w (fun b=>b<w.heap.size) ds vs:=by
 intro ts
 induction ts with
 | nil =>
   intro ss vs ds b h hall
   cases ss with
   | cons s ss=>simp[argsV] at h
   | nil =>
     simp only[argsV,Option.some.injEq,Prod.mk.injEq] at h
     obtain⟨rfl,rfl⟩:=h
     have:vs=[]:=List.eq_nil_of_length_eq_zero (by simpa using hall.1)
     subst this
     exact⟨fun _=>⟨rfl,fun j d v h=>by simp at h⟩,⟨rfl,fun j d v h=>by simp at h⟩⟩
 | cons t ts ih =>
   intro ss vs ds b h hall
   cases ss with
   | nil=>simp[argsV] at h
   | cons s ss =>
     match vs,hall with
     | v::vs,hall =>
       have hs:=hall.2 0 s v rfl rfl
       have hall':All2 (SvOk w (Ro R0 w0.heap.size A st.ob w) A) ss vs:=⟨by simpa using hall.1,fun j sv u h1 h2=>hall.2 (j+1) sv u (by simpa using h1) (by simpa using h2)⟩
       simp only[argsV] at h
       split at h
       · rename_i x b1 hx
         split at h
         · rename_i ds' b2 hd
           injection h with h;injection h with h1 h2;subst h1;subst h2
           obtain⟨k1,k2⟩:=asA_ok I hx hs
           obtain⟨m1,m2⟩:=ih hd hall'
           have mk:∀ ro,t.okV w ro x v→DOk w ro ds' vs→DOk w ro (⟨t,x⟩::ds') (v::vs):=by
             intro ro e1 e2
             refine⟨by simp[e2.1],fun j d u h1 h2 => ?_⟩
             cases j with
             | zero=>simp at h1 h2;subst h1;subst h2;exact e1
             | succ j=>exact e2.2 j d u (by simpa using h1) (by simpa using h2)
           refine⟨fun hb => ?_,mk _ k2 m2⟩
           simp only[Bool.or_eq_false_iff] at hb
           exact mk _ (k1 hb.1) (m1 hb.2)
         · cases h
       · cases h
def flatR(rs:List Dat):Bool:=rs.all fun r=>r.t.flat
theorem RetOk.flat{w w':World}{ro ro':Nat→Prop}{rs:List Dat}{v:Value}(hf:flatR rs=true)(h:RetOk w ro rs v):RetOk w' ro' rs v:=by
 unfold RetOk at h ⊢
 split at h
 · rename_i r
   exact okV_flat (by simpa [flatR] using hf) h
 · obtain⟨vs,e,hl,hd⟩:=h
   refine⟨vs,e,hl,fun j d v h1 h2=>okV_flat ?_ (hd j d v h1 h2)⟩
   exact List.all_eq_true.1 hf d (List.mem_of_getElem? h1)
theorem RetOk.mono{w w':World}{ro ro':Nat→Prop}{rs:List Dat}{v:Value}(hr:∀ b,ro b→ro' b)(hw:∀ b,ro b→w'.heap[b]?=w.heap[b]?)(h:RetOk w ro rs v):RetOk w' ro' rs v:=by
 unfold RetOk at h ⊢
 split at h
 · exact okV_mono hr hw h
 · obtain⟨vs,e,hl,hd⟩:=h
   exact⟨vs,e,hl,fun j d v h1 h2=>okV_mono hr hw (hd j d v h1 h2)⟩
def capT:Ty→Bool
 | .pr a b => !a.agg&&capT b
 | .un=>true
 | _=>false
def unc:(t:Ty)→t.D→List SV
 | .pr a b,x => .d a x.1::unc b x.2
 | _,_=>[]
theorem unc_ok{w:World}{ro:Nat→Prop}{A:Asg}:∀ {t:Ty} {x:t.D} {cs:List Value},capT t=true→t.ok w ro x cs→All2 (SvOk w ro A) (unc t x) cs:=by
 intro t
 induction t with
 | pr a b _ ih =>
   intro x cs hc h
   simp only[capT,Bool.and_eq_true,Bool.not_eq_true'] at hc
   obtain⟨c1,c2,rfl,h1,h2⟩:=h
   have hl:=ok_len h1
   rw[size_one hc.1] at hl
   match c1,hl with
   | [v],_ =>
     have hv:SvOk w ro A (.d a x.1) v:=by
       show a.okV w ro x.1 v
       unfold Ty.okV
       rw[if_neg (by simp[hc.1])];exact h1
     obtain⟨k1,k2⟩:=ih hc.2 h2
     refine⟨by simp[unc,k1],fun j sv u h1 h2 => ?_⟩
     cases j with
     | zero=>simp[unc] at h1 h2;subst h1;subst h2;exact hv
     | succ j=>exact k2 j sv u (by simpa [unc] using h1) (by simpa using h2)
 | un=>intro x cs _ h;have h':cs=[]:=h;subst h';exact⟨rfl,fun j sv v h=>by simp[unc] at h⟩
 | _=>intro x cs hc;simp[capT] at hc
def cee(E:Env)(st:St):Callee→Option (FuncId×List SV)
 | .value (.func f)=>some (f,[])
 | .value x=>match st.ev E x with
   | .d (.fn g t) (some y)=>if capT t=true then some (g,unc t y) else none
   | _=>none
 | _=>none
theorem run_cee[Dn]{P:Program}{E:Env}{w0:World}{M:Ms}{R0:Nat→Prop}{A:Asg}{st:St}{a:Act}{w:World}(I:Inv w0 M R0 A st a w){c:Callee}{f:FuncId}{ex:List SV}(h:cee E st c=some (f,ex))(hent:EntOk P f){args:Array Operand} :
   ∃ vs:List Value,All2 (SvOk w (Ro R0 w0.heap.size A st.ob w) A) (args.toList.map (st.ev E)++ex) vs ∧
     ∀ {dst:Option Nat} {at_:Array TypeId} {type:TypeId} {pos:String} {after:Array Edge} {guard:Option (Nat×Bool)} (w'':World),
       (execOp a.eval ⟨dst,.call ⟨c,args,at_⟩,type,pos,after,guard⟩).run P w'' = .ok (.enter f vs.toArray) w'':=by
 obtain⟨fn,hf,hb,hnm⟩:=hent
 have hb':¬ fn.body=none:=by intro h;rw[h] at hb;cases hb
 have hn':¬ fn.name = "runtime.NumGoroutine" := by simpa using hnm
 have hargs:All2 (SvOk w (Ro R0 w0.heap.size A st.ob w) A) (args.toList.map (st.ev E)) (args.toList.map a.eval):=⟨by simp,fun j sv v h1 h2=>by
   rw[List.getElem?_map] at h1 h2
   obtain⟨q,hq1,rfl⟩:=Option.map_eq_some_iff.1 h1
   obtain⟨q',hq2,rfl⟩:=Option.map_eq_some_iff.1 h2
   rw[hq1] at hq2;injection hq2 with hq2;subst hq2
   exact I.ev _⟩
 have ha:args.map a.eval=(args.toList.map a.eval).toArray:=by apply Array.toList_inj.1;simp
 unfold cee at h
 split at h
 · injection h with h;injection h with h1 h2;subst h1;subst h2
   refine⟨args.toList.map a.eval,by simpa using hargs,fun {dst at_ type pos after guard} w'' => ?_⟩
   rw[← ha]
   simp[execOp,resolve,Deferred.ofValue,invoke,callFunc,Act.eval,hf,hb',hn']
 · rename_i x hnf
   split at h
   · rename_i g t y hx
     split at h
     · rename_i hcap
       injection h with h;injection h with h1 h2;subst h1;subst h2
       have hv:=I.ev (E:=E) x
       rw[hx] at hv
       obtain⟨caps,he,hok⟩:=hv
       injection he with he
       have hu:=unc_ok (A:=A) hcap hok
       refine⟨args.toList.map a.eval++caps.toList,⟨by simp only[List.length_append];rw[hargs.1,hu.1],fun j sv v h1 h2 => ?_⟩,fun {dst at_ type pos after guard} w'' => ?_⟩
       · by_cases hj:j<(args.toList.map (st.ev E)).length
         · rw[List.getElem?_append_left hj] at h1
           rw[List.getElem?_append_left (by rw[hargs.1];exact hj)] at h2
           exact hargs.2 j sv v h1 h2
         · rw[List.getElem?_append_right (by omega)] at h1
           rw[List.getElem?_append_right (by rw[hargs.1];omega),hargs.1] at h2
           exact hu.2 _ sv v h1 h2
       · have e2:(args.toList.map a.eval++caps.toList).toArray=args.map a.eval++caps:=by apply Array.toList_inj.1;simp
         rw[e2]
         simp[execOp,resolve,Deferred.ofValue,invoke,callFunc,he,hf,hb',hn']
     · cases h
   · cases h
 · cases h
def lookA(st:St)(args:List SV):List (FuncId×Ctr)→FuncId→Option (Ctr×List Dat×Bool)
 | [],_=>none
 | x::r,f=>if x.1=f then match argsV st x.2.ps args with
     | some (ds,b)=>some (x.2,ds,b)
     | none=>lookA st args r f
   else lookA st args r f
theorem GOk.lookA[Dn]{P:Program}{gl:List (Nat×Dat)}{st:St}{args:List SV}:∀ {l:List (FuncId×Ctr)},GOk P gl l→∀ {f c ds b},lookA st args l f=some (c,ds,b)→EntOk P f∧PlainOk P gl f c∧argsV st c.ps args=some (ds,b)
 | [],_,_,_,_,_,h=>by cases h
 | x::r,hg,f,c,ds,b,h=>by
   simp only[Go.Vc.lookA] at h
   split at h
   · rename_i hx
     split at h
     · rename_i ds' b' ha
       injection h with h;injection h with h1 h2;injection h2 with h2 h3
       subst hx;subst h1;subst h2;subst h3
       exact⟨hg.1.1,hg.1.2,ha⟩
     · exact hg.2.lookA h
   · exact hg.2.lookA h
def cal(Γ:List (FuncId×Ctr))(st:St)(f:FuncId)(args:List SV)(dst:Option Nat)(k:St→Prop):Prop :=
 match lookA st args Γ f with
 | some (c,ds,b)=>match b with
   | false=>c.sem ds fun rs=>k (st.put dst (toSV rs))
   | true=>c.sem ds fun rs=>if flatR rs=true then k (st.put dst (toSV rs)) else False
 | none=>False
theorem Fr.same[Dn]{w w':World}(h:Fr (fun _=>False) w w'):Same w w':=⟨h.os,h.tape,h.output,h.size,h.drawn⟩
theorem Fr.ext[Dn]{w w':World}(h:Fr (fun _=>False) w w'):Ext w w':=fun b hb=>h.block b hb (fun h=>h)
theorem cal_ok[Dn]{P:Program}{gl:List (Nat×Dat)}{Γ:List (FuncId×Ctr)}(hΓ:GOk P gl Γ){w0:World}{M:Ms}{R0:Nat→Prop}(hB:BaseOk gl w0 M R0){A:Asg}{st:St}{a:Act}{w:World}(I:Inv w0 M R0 A st a w){f:FuncId}{args:List SV}{dst:Option Nat}{k:St→Prop}(h:cal Γ st f args dst k) :
   EntOk P f∧∀ {vals:List Value},All2 (SvOk w (Ro R0 w0.heap.size A st.ob w) A) args vals→Calls P f vals.toArray w fun e w'=>∃ v st',e = .returned v∧k st'∧Inv w0 M R0 A st' (a.put dst v) w':=by
 unfold cal at h
 split at h
 · rename_i c ds b hc
   obtain⟨hent,hpl,hd⟩:=hΓ.lookA hc
   refine⟨hent,fun {vals} hargs => ?_⟩
   have hgl:=hB.now I
   split at h
   · have hD:=(argsV_ok I hd hargs).1 rfl
     refine (hpl ds _ h w _ vals (fun b hb=>hb.1) hgl hD).mono fun e w' hw => ?_
     obtain⟨hfr,rs,v,rfl,hk,hret⟩:=hw
     refine⟨v,_,rfl,hk,(I.ext hfr.same hfr.ext).put (hret.mono (fun b hb => ?_) (fun _ _=>rfl)).sv⟩
     exact ro_ext I hfr.size b hb
   · have hD:=(argsV_ok I hd hargs).2
     refine (hpl ds _ h w _ vals (fun b hb=>hb) (hgl.mono (fun b hb=>hb.1) (fun _ _=>rfl)) hD).mono fun e w' hw => ?_
     obtain⟨hfr,rs,v,rfl,hk,hret⟩:=hw
     split at hk
     · rename_i hfl
       exact⟨v,_,rfl,hk,(I.ext hfr.same hfr.ext).put (hret.flat hfl).sv⟩
     · exact hk.elim
 · exact h.elim
end Go.Vc
