import Derived.Test.YtfmiecbmikncpaaDoorTORowVE
import Derived.Laws.Strings2
namespace Go.Vc
open Go.RowKit
def asT(t:Ty):SV→Option t.D
 | .d t' x=>if h:t'=t then some (h▸x) else none
 | .bt b=>if h:Ty.bool=t then some (h▸b) else none
 | .nils=>match t with
   | .sl _=>some []
   | _=>none
 | .ra t' x=>match t with
   | .ptr t1=>if h:t'=t1 then some (some (h▸x)) else none
   | _=>none
 | .nilp=>match t with
   | .ptr _=>some none
   | _=>none
 | .fs t' xs=>match t with
   | .sl t1=>if h:t'=t1 then some (h▸xs) else none
   | _=>none
 | _=>none
theorem asT_ok{w:World}{ro:Nat→Prop}{A:Asg}{t:Ty}{s:SV}{v:Value}{x:t.D}(h:asT t s=some x)(hs:SvOk w ro A s v):t.okV w ro x v:=by
 unfold asT at h
 split at h
 · split at h
   · rename_i ht;subst ht
     injection h with h;subst h;exact hs
   · cases h
 · split at h
   · rename_i ht;subst ht
     injection h with h;subst h
     have hs':v = .bool _:=hs
     subst hs';exact rfl
   · cases h
 · split at h
   · injection h with h;subst h
     have hs':v = .slice none 0 0:=hs
     subst hs'
     exact⟨none,0,rfl,Nat.zero_le _,Nat.zero_le _,fun h=>absurd rfl h⟩
   · cases h
 · split at h
   · split at h
     · rename_i ht;subst ht
       injection h with h;subst h
       obtain⟨ad,us,e,hs1,hs2,hs3,hs4⟩:=hs
       exact⟨ad,us,by rw[e],hs1,hs2,hs3,hs4⟩
     · cases h
   · cases h
 · split at h
   · injection h with h;subst h
     have hs':v = .pointer none:=hs
     subst hs';rfl
   · cases h
 · split at h
   · split at h
     · rename_i ht;subst ht
       injection h with h;subst h
       exact hs.1
     · cases h
   · cases h
 · cases h
def bld(t:Ty)(x:t.D):List (Nat×SV)→Option t.D
 | []=>some x
 | (i,s)::r=>match off t [i] with
   | some (_,ti)=>match asT ti s with
     | some y=>match upd t x [i] ⟨ti,y⟩ with
       | some x'=>bld t x' r
       | none=>none
     | none=>none
   | none=>none
theorem foldl_spl:∀ (us:List Value) (o j:Nat) (cs:Array Value),o+j+us.length≤cs.size →
   ((us.zipIdx j).foldl (fun (cs:Array Value) (x:Value×Nat)=>cs.setIfInBounds (o+x.2) x.1) cs).toList=spl cs.toList (o+j) us:=by
 intro us
 induction us with
 | nil=>intro o j cs h;simp[spl]
 | cons u us ih =>
   intro o j cs h
   simp only[List.zipIdx_cons,List.foldl_cons]
   simp only[List.length_cons] at h
   rw[show j+1=j+1 from rfl,ih o (j+1) _ (by simp;omega)]
   simp only[Array.toList_setIfInBounds,spl]
   have hlt:o+j<cs.toList.length:=by simp;omega
   rw[List.set_eq_take_append_cons_drop,if_pos hlt]
   have e1:(cs.toList.take (o+j)++u::cs.toList.drop (o+j+1)).take (o+(j+1))=cs.toList.take (o+j)++[u]:=by
     have hl:(cs.toList.take (o+j)).length=o+j:=by simp;omega
     rw[show o+(j+1)=(cs.toList.take (o+j)).length+1 by omega,take_app];rfl
   have e2:(cs.toList.take (o+j)++u::cs.toList.drop (o+j+1)).drop (o+(j+1)+us.length)=cs.toList.drop (o+j+(us.length+1)):=by
     have hl:(cs.toList.take (o+j)).length=o+j:=by simp;omega
     rw[show o+(j+1)+us.length=(cs.toList.take (o+j)).length+(1+us.length) by omega,drop_app,
       show u::cs.toList.drop (o+j+1)=[u]++cs.toList.drop (o+j+1) from rfl,show 1+us.length=[u].length+us.length from rfl,drop_app,List.drop_drop]
     congr 1;omega
   rw[e1,e2];simp
theorem fill_ok[Dn]{w:World}{ro:Nat→Prop}{A:Asg}{t:Ty}{place:Nat→Option (Nat×Nat)}(hp:∀ i o tf,off t [i]=some (o,tf)→place i=some (o,tf.size))(hv:∀ i r,off t [i]=some r→(∃ n t',t = .ar n t'∧i<n)∨isPr t=true∧vq t [i]) :
   ∀ {parts:List (Nat×SV)} {vals:List (Nat×Value)} {x y:t.D} {cs:Array Value},t.ok w ro x cs.toList→bld t x parts=some y →
     vals.length=parts.length→(∀ (j:Nat) (p:Nat×SV) (v:Nat×Value),parts[j]?=some p→vals[j]?=some v→p.1=v.1∧SvOk w ro A p.2 v.2) →
     ∃ cs',Instr.fill place cs vals=some cs'∧t.ok w ro y cs'.toList:=by
 intro parts
 induction parts with
 | nil =>
   intro vals x y cs hok hb hl _
   have:vals=[]:=List.eq_nil_of_length_eq_zero hl
   subst this
   simp only[bld,Option.some.injEq] at hb
   subst hb
   exact⟨cs,rfl,hok⟩
 | cons p parts ih =>
   intro vals x y cs hok hb hl hall
   match vals,hl with
   | (i',v)::vals,hl =>
     obtain⟨hi,hs⟩:=hall 0 p (i',v) rfl rfl
     obtain⟨i,s⟩:=p
     simp only at hi hs
     subst hi
     simp only[bld] at hb
     split at hb
     · rename_i o ti ho
       split at hb
       · rename_i y1 hy1
         split at hb
         · rename_i x1 hx1
           have hyv:=okV_cells (asT_ok hy1 hs)
           have hvq:vq t [i]:=by
             rcases hv i _ ho with ⟨n,t',rfl,hin⟩ | h
             · exact⟨hin,vq_nil t'⟩
             · exact h.2
           have hu:=upd_ok hok hvq ho hx1 hyv
           obtain⟨_,_,hb2,_⟩:=sub_ok hok hvq ho
           have hlen:=ok_len hyv
           have hlc:=ok_len hok
           have hsz:v.cells.size=ti.size:=by simpa using hlen
           have hcs:cs.size=t.size:=by simpa using hlc
           have hc:¬ ((decide (v.cells.size≠ti.size)||decide (o+v.cells.size>cs.size))=true):=by rw[hsz,hcs];simp;omega
           simp only[Instr.fill,hp i o ti ho]
           rw[if_neg hc]
           have hf:((v.cells.zipIdx).foldl (fun (cs:Array Value) (x:Value×Nat)=>cs.setIfInBounds (o+x.2) x.1) cs).toList=spl cs.toList o v.cells.toList:=by
             rw[← Array.foldl_toList,Array.toList_zipIdx]
             have:=foldl_spl v.cells.toList o 0 cs (by simp[hsz,hcs];omega)
             simpa using this
           refine ih (cs:=(v.cells.zipIdx).foldl (fun (cs:Array Value) (x:Value×Nat)=>cs.setIfInBounds (o+x.2) x.1) cs) (by rw[hf];exact hu) hb (by simpa using hl) fun j p v h1 h2=>hall (j+1) p v (by simpa using h1) (by simpa using h2)
         · cases hb
       · cases hb
     · cases hb
theorem run_mapM_places[Dn]{P:Program}:∀ {t:Ty} {fs:Array Field} {f o:Nat},Fit P t (.inr (fs,f,o)) →
   ∃ l:List (Nat×Nat),(∀ w:World,(List.mapM (fun f:Field=>(do pure (f.offset,← sizeOf f.type):Sem (Nat×Nat))) (fs.toList.drop f)).run P w = .ok l w) ∧
     ∀ i o2 tf,off t [i]=some (o2,tf)→l[i]?=some (o+o2,tf.size):=by
 intro t
 induction t with
 | un =>
   intro fs f o h
   have hf:fs.size=f:=h
   refine⟨[],fun w => ?_,fun i o2 tf ho=>by simp[off] at ho⟩
   rw[List.drop_of_length_le (by simp;omega)];rfl
 | pr a b _ ih =>
   intro fs f o h
   obtain⟨fld,hfl,hof,hsz,hfa,hfb⟩:=h
   obtain⟨l,hl,hp⟩:=ih hfb
   have hd:fs.toList.drop f=fld::fs.toList.drop (f+1):=by
     have hlt:f<fs.toList.length:=by have:=(Array.getElem?_eq_some_iff.1 hfl).1;simpa using this
     rw[List.drop_eq_getElem_cons hlt]
     congr 1
     have:=(Array.getElem?_eq_some_iff.1 hfl).2
     simpa using this
   refine⟨(o,a.size)::l,fun w => ?_,fun i o2 tf ho => ?_⟩
   · rw[hd,List.mapM_cons]
     simp only[Sem.run_bind,hfa.size w,Result.andThen_ok,Sem.run_pure,hof]
     rw[hl w]
     rfl
   · match i with
     | 0 =>
       change off a []=some (o2,tf) at ho
       rw[off_nil] at ho
       simp only[Option.some.injEq,Prod.mk.injEq] at ho
       obtain⟨rfl,rfl⟩:=ho
       simp
     | i+1 =>
       simp only[off] at ho
       split at ho
       · rename_i x hx
         simp only[Option.some.injEq,Prod.mk.injEq] at ho
         obtain⟨rfl,rfl⟩:=ho
         rw[List.getElem?_cons_succ,hp i x.1 x.2 hx,Nat.add_assoc]
       · cases ho
 | _=>intro fs f o h;exact h.elim
def arOk(t:Ty)(parts:List (Nat×SV)):Bool :=
 match t with
 | .ar n _=>parts.all fun p=>decide (p.1<n)
 | _=>isPr t
theorem fill_ar[Dn]{w:World}{ro:Nat→Prop}{A:Asg}{n:Nat}{t':Ty}:∀ {parts:List (Nat×SV)} {vals:List (Nat×Value)} {x y:(Ty.ar n t').D} {cs:Array Value},(∀ p∈parts,p.1<n)→(Ty.ar n t').ok w ro x cs.toList→bld (.ar n t') x parts=some y →
   vals.length=parts.length→(∀ (j:Nat) (p:Nat×SV) (v:Nat×Value),parts[j]?=some p→vals[j]?=some v→p.1=v.1∧SvOk w ro A p.2 v.2) →
   ∃ cs',Instr.fill (fun i=>some (i*t'.size,t'.size)) cs vals=some cs'∧(Ty.ar n t').ok w ro y cs'.toList:=by
 intro parts
 induction parts with
 | nil =>
   intro vals x y cs _ hok hb hl _
   have:vals=[]:=List.eq_nil_of_length_eq_zero hl
   subst this
   simp only[bld,Option.some.injEq] at hb
   subst hb
   exact⟨cs,rfl,hok⟩
 | cons p parts ih =>
   intro vals x y cs hr hok hb hl hall
   match vals,hl with
   | (i',v)::vals,hl =>
     obtain⟨hi,hs⟩:=hall 0 p (i',v) rfl rfl
     have hpr:=hr p (List.mem_cons_self ..)
     obtain⟨i,s⟩:=p
     simp only at hi hs hpr
     subst hi
     simp only[bld] at hb
     split at hb
     · rename_i o ti ho
       split at hb
       · rename_i y1 hy1
         split at hb
         · rename_i x1 hx1
           have hyv:=okV_cells (asT_ok hy1 hs)
           have hvq:vq (.ar n t') [i]:=⟨hpr,vq_nil t'⟩
           have hu:=upd_ok hok hvq ho hx1 hyv
           obtain⟨_,_,hb2,_⟩:=sub_ok hok hvq ho
           have hoo:o=i*t'.size∧ti=t':=by
             simp only[off,off_nil,Nat.add_zero,Option.some.injEq,Prod.mk.injEq] at ho
             exact⟨ho.1.symm,ho.2.symm⟩
           obtain⟨rfl,rfl⟩:=hoo
           have hlen:=ok_len hyv
           have hlc:=ok_len hok
           have hsz:v.cells.size=ti.size:=by simpa using hlen
           have hcs:cs.size=(Ty.ar n ti).size:=by simpa using hlc
           have hc:¬ ((decide (v.cells.size≠ti.size)||decide (i*ti.size+v.cells.size>cs.size))=true):=by rw[hsz,hcs];simp;omega
           simp only[Instr.fill]
           rw[if_neg hc]
           have hf:((v.cells.zipIdx).foldl (fun (cs:Array Value) (x:Value×Nat)=>cs.setIfInBounds (i*ti.size+x.2) x.1) cs).toList=spl cs.toList (i*ti.size) v.cells.toList:=by
             rw[← Array.foldl_toList,Array.toList_zipIdx]
             have:=foldl_spl v.cells.toList (i*ti.size) 0 cs (by simp[hsz,hcs];omega)
             simpa using this
           refine ih (cs:=(v.cells.zipIdx).foldl (fun (cs:Array Value) (x:Value×Nat)=>cs.setIfInBounds (i*ti.size+x.2) x.1) cs) (fun p hp=>hr p (List.mem_cons_of_mem _ hp)) (by rw[hf];exact hu) hb (by simpa using hl) fun j p v h1 h2=>hall (j+1) p v (by simpa using h1) (by simpa using h2)
         · cases hb
       · cases hb
     · cases hb
theorem build_ok[Dn]{P:Program}{t:Ty}{T:TypeId}(hf:Fit P t (.inl T)){w:World}{ro:Nat→Prop}{A:Asg}{parts:List (Nat×SV)}{vals:List (Nat×Value)}{y:t.D}
   (hb:bld t t.z parts=some y) (har:arOk t parts=true) (hl:vals.length=parts.length)
   (hall:∀ (j:Nat) (p:Nat×SV) (v:Nat×Value),parts[j]?=some p→vals[j]?=some v→p.1=v.1∧SvOk w ro A p.2 v.2) :
   ∃ v',t.okV w ro y v'∧∀ w'':World,(Instr.build T vals.toArray).run P w'' = .ok v' w'':=by
 obtain⟨i0,hi0,_,hz0,_⟩:=hf.info
 have hz:∀ w'':World,(zeroValue T).run P w'' = .ok (t.mk t.zc) w'':=fun w''=>by simp[zeroValue,typeInfo,hi0,hz0]
 have hzok:t.ok w ro t.z t.zc:=ok_zero t
 cases t with
 | pr a b =>
   obtain⟨_,fs,fld,hu,h0,h1,h2,h3,h4⟩:=hf
   have hfit:Fit P (.pr a b) (.inr (fs,0,0)):=⟨fld,h0,h1,h2,h3,by simpa using h4⟩
   obtain⟨l,hlr,hp⟩:=run_mapM_places hfit
   have hmk:((Ty.pr a b).mk (Ty.pr a b).zc).cells=(Ty.pr a b).zc.toArray:=rfl
   obtain⟨cs',hfill,hok⟩:=fill_ok (w:=w) (ro:=ro) (A:=A) (t := .pr a b) (place:=(l.toArray[·]?)) (fun i o tf ho=>by
       have:=hp i o tf ho
       simpa using this) (fun i r ho => .inr ⟨rfl,hfit.vqr ho⟩) (cs:=(Ty.pr a b).zc.toArray) (by simpa using hzok) hb hl hall
   refine⟨.agg cs',⟨cs',rfl,hok⟩,fun w'' => ?_⟩
   simp only[Instr.build,Sem.run_bind,hz w'',Result.andThen_ok,run_underlying hu,hmk]
   have hm:(fs.mapM (fun f:Field=>(do pure (f.offset,← sizeOf f.type):Sem (Nat×Nat)))).run P w'' = .ok l.toArray w'':=by
     rw[Array.mapM_eq_mapM_toList]
     simp only[Sem.run_map]
     have:=hlr w''
     simp only[List.drop_zero] at this
     rw[this];rfl
   rw[hm]
   simp only[List.getElem?_toArray] at hfill
   simp[hfill]
 | ar n t' =>
   obtain⟨_,e,hu,he⟩:=hf
   have hmk:((Ty.ar n t').mk (Ty.ar n t').zc).cells=(Ty.ar n t').zc.toArray:=rfl
   have harr:∀ p∈parts,p.1<n:=by
     intro p hp
     have:=List.all_eq_true.1 har p hp
     simpa using this
   -- indexes in range are those of the parts: carried by a place that answers them alone
   obtain⟨cs',hfill,hok⟩:∃ cs',Instr.fill (fun i=>some (i*t'.size,t'.size)) (Ty.ar n t').zc.toArray vals=some cs'∧(Ty.ar n t').ok w ro y cs'.toList:=by
     exact fill_ar harr (by simpa using hzok) hb hl hall
   refine⟨.agg cs',⟨cs',rfl,hok⟩,fun w'' => ?_⟩
   simp only[Instr.build,Sem.run_bind,hz w'',Result.andThen_ok,run_underlying hu,hmk,he.size w'']
   simp[hfill]
 | _=>simp[arOk,isPr] at har
theorem run_part[Dn]{P:Program}{t:Ty}{T:TypeId}(hf:Fit P t (.inl T)){w w1:World}{ro:Nat→Prop}{x:t.D}{cs:Array Value}{o:Nat}(h:t.ok w1 ro x ((cs.toList.drop o).take t.size)) :
   (part T cs o).run P w = .ok (t.mk ((cs.toList.drop o).take t.size)) w:=by
 unfold part Ty.mk
 simp only[Sem.run_bind,hf.isAgg w,Result.andThen_ok]
 cases ha:t.agg with
 | true =>
   simp only[if_true,Sem.run_bind,hf.size w,Result.andThen_ok,Sem.run_pure]
   congr 2
   apply Array.toList_inj.1
   simp[List.take_drop]
 | false =>
   have hl:=ok_len h
   rw[size_one ha] at hl ⊢
   have hlt:o<cs.size:=by
     simp only[List.length_take,List.length_drop,Array.length_toList] at hl;omega
   simp only[Bool.false_eq_true,if_false]
   have e1:cs[o]?=some cs[o]:=Array.getElem?_eq_getElem hlt
   have e2:(cs.toList.drop o).take 1=[cs[o]]:=by
     rw[List.drop_eq_getElem_cons (by simpa using hlt)];simp
   rw[e1,e2];rfl
def ix(tT:Ty)(n:Int)(k:SV→Prop):SV→Prop
 | .d .str s=>if tT = .str then 0≤n∧n<(s.length:Int)∧k (.d (.int .u8) ((s.getD n.toNat 0).toNat:Int)) else False
 | .d (.ar m t) xs=>if tT = .ar m t then 0≤n∧n<(m:Int)∧k (.d t (xs.getD n.toNat t.z)) else False
 | _=>False
theorem ix_ok[Dn]{P:Program}{T:TypeId}{tT:Ty}(hf:Fit P tT (.inl T)){w:World}{ro:Nat→Prop}{A:Asg}{s:SV}{v:Value}(hs:SvOk w ro A s v){kk:IntKind}{n:Int}{k:SV→Prop}(h:ix tT n k s) :
   ∃ s' v',k s'∧SvOk w ro A s' v'∧∀ w'':World,(Instr.index T v (.int kk n)).run P w'' = .ok v' w'':=by
 unfold ix at h
 split at h
 · rename_i l
   split at h
   · rename_i ht;subst ht
     obtain⟨h0,h1,hk⟩:=h
     have hs':Ty.ok w ro .str l [v]:=hs
     have e:=hs'.1
     injection e with e;subst e
     refine⟨_,_,hk,okInt (inK_u8.2 ⟨by omega,by have:=(l.getD n.toNat 0).toNat_lt;omega⟩),fun w'' => ?_⟩
     have hlt:n.toNat<l.length:=by omega
     have hg:(⟨l.toArray⟩:ByteArray)[n.toNat]?=some (l.getD n.toNat 0):=by
       have h':n.toNat<(⟨l.toArray⟩:ByteArray).size:=by simpa [ByteArray.size] using hlt
       rw[getElem?_pos (⟨l.toArray⟩:ByteArray) n.toNat h',List.getD_eq_getElem?_getD,List.getElem?_eq_getElem hlt]
       rfl
     simp[Instr.index,asIntOf,run_underlying hf.2,h0,hg]
   · exact h.elim
 · rename_i m t xs
   split at h
   · rename_i ht;subst ht
     obtain⟨h0,h1,hk⟩:=h
     obtain⟨cs,rfl,hok⟩:=hs
     obtain⟨_,e,hu,he⟩:=hf
     have ho2:off (.ar m t) [n.toNat]=some (n.toNat*t.size,t):=by simp only[off,off_nil,Nat.add_zero]
     obtain⟨x',e1,hl,hx⟩:=sub_ok hok (show vq (.ar m t) [n.toNat] from ⟨by omega,vq_nil t⟩) ho2
     have hsn:∀ (y:t.D),sub t y []=some ⟨t,y⟩:=fun y=>by cases t<;>rfl
     simp only[sub,hsn,Option.some.injEq,Dat.mk.injEq,heq_eq_eq,true_and] at e1
     subst e1
     refine⟨_,_,hk,okV_mk hx,fun w'' => ?_⟩
     simp[Instr.index,asIntOf,run_underlying hu,h0,h1,he.size w'',run_part he hx]
   · exact h.elim
 · exact h.elim
def SV.norm:SV→SV
 | .fs t xs => .d (.sl t) xs
 | s=>s
theorem SV.norm_ok{w:World}{ro:Nat→Prop}{A:Asg}{s:SV}{v:Value}(h:SvOk w ro A s v):SvOk w ro A s.norm v:=by
 unfold SV.norm
 split
 · exact h.1
 · exact h
def SV.np:SV→SV
 | .d (.ptr t) (some x) => .ra t x
 | s=>s
theorem SV.np_ok{w:World}{ro:Nat→Prop}{A:Asg}{s:SV}{v:Value}(h:SvOk w ro A s v):SvOk w ro A s.np v:=by
 unfold SV.np
 split
 · obtain⟨ad,us,e,h1,h2,h3,h4⟩:=h
   injection e with e
   exact⟨ad,us,e,h1,h2,h3,h4⟩
 · exact h
def lnT(k:SV→Prop):(u:Ot)→u.D→Prop
 | .sl _ _,ys=>k (.d (.int .i64) (List.length ys:Int))
 | .d _,_=>False
def ln(st:St)(tT:Ty)(k:SV→Prop):SV→Prop
 | .os i=>match st.ob[i]?,tT with
   | some (.row _ _ xs),.sl _=>k (.d (.int .i64) (xs.length:Int))
   | some (.trow _ _ xs),.sl _=>k (.d (.int .i64) (List.length xs:Int))
   | _,_=>False
 | .oc _ i a=>match st.ob[i]?,tT with
   | some (.row _ _ xs),.sl _=>k (.d (.int .i64) ((xs.length - a:Nat):Int))
   | _,_=>False
 | .tv i p=>match st.ob[i]?,tT with
   | some (.trow e u xs),.sl _=>(Ot.sl e u).get xs p (lnT k)
   | _,_=>False
 | .d (.sl _) xs=>match tT with
   | .sl _=>k (.d (.int .i64) (xs.length:Int))
   | _=>False
 | .nils=>match tT with
   | .sl _=>k (.d (.int .i64) (0:Int))
   | _=>False
 | .d .str s=>match tT with
   | .str=>k (.d (.int .i64) (s.length:Int))
   | _=>False
 | _=>False
theorem bsize(l:List UInt8):(⟨l.toArray⟩:ByteArray).size=l.length:=by show l.toArray.size=_;simp
theorem inK_len[Dn]{n:Nat}(h:n≤maxLen):inK .i64 (n:Int):=by
 rw[inK_i64];simp only[maxLen] at h;omega
theorem ln_ok[Dn]{P:Program}{T ty:TypeId}{w0:World}{M:Ms}{R0:Nat→Prop}{A:Asg}{st:St}{a:Act}{w:World}(I:Inv w0 M R0 A st a w){tT:Ty}(hf:Fit P tT (.inl T))
   {s:SV} {v:Value} (hs:SvOk w (Ro R0 w0.heap.size A st.ob w) A s v) {k:SV→Prop} (h:ln st tT k s) :
   ∃ s' v',k s'∧SvOk w (Ro R0 w0.heap.size A st.ob w) A s' v'∧∀ w'':World,(Builtin.len_ #[T] ty #[v]).run P w'' = .ok v' w'':=by
 unfold ln at h
 split at h
 · rename_i i
   split at h
   · rename_i e t xs t' hob
     obtain⟨hi,rfl⟩:=hs
     obtain⟨css,hoks,hown,_⟩:=I.ob i _ hob
     obtain⟨_,e',hu,he⟩:=hf
     have hv:∃ A' c,A.η i = .slice A' xs.length c∧xs.length≤maxLen:=by
       rcases hown.2 with ⟨h1,h2⟩ | ⟨g,cap,cur,h1,_,_,hnc,hm,_⟩
       · exact⟨none,0,by rw[h1,h2],by rw[h2];exact Nat.zero_le _⟩
       · exact⟨_,_,h1,by omega⟩
     obtain⟨A',c,hv,hm⟩:=hv
     refine⟨_,_,h,okInt (inK_len hm),fun w'' => ?_⟩
     rw[hv];simp[Builtin.len_,run_underlying hu,goInt]
   · rename_i e u xs t' hob
     obtain⟨hi,rfl⟩:=hs
     obtain⟨hκ,⟨⟨css,_,_,hown⟩,_⟩,_⟩:=I.ob i _ hob
     rw[hκ] at hown
     obtain⟨_,e',hu,he⟩:=hf
     have hv:∃ A' c,A.η i = .slice A' (ls xs).length c∧(ls xs).length≤maxLen:=by
       rcases hown.2 with ⟨h1,h2⟩ | ⟨g,cap,cur,h1,_,_,hnc,hm,_⟩
       · exact⟨none,0,by rw[h1,h2],by rw[h2];exact Nat.zero_le _⟩
       · exact⟨_,_,h1,by omega⟩
     obtain⟨A',c,hv,hm⟩:=hv
     refine⟨_,_,h,okInt (inK_len hm),fun w'' => ?_⟩
     rw[hv];simp[Builtin.len_,run_underlying hu,goInt]
   · exact h.elim
 · rename_i t i a
   split at h
   · rename_i e t' xs t2 hob
     obtain⟨hi,g,m,c,hη,ham,rfl⟩:=hs
     obtain⟨css,hoks,hown,_⟩:=I.ob i _ hob
     obtain⟨_,e',hu,he⟩:=hf
     have hm:m=xs.length∧xs.length≤maxLen:=by
       rw[hη] at hown
       rcases hown.2 with ⟨e1,_⟩ | ⟨g',cap,cur,e1,_,_,hnc,hm,_⟩
       · cases e1
       · injection e1 with e2 e3 e4
         exact⟨e3,by omega⟩
     obtain⟨hm,hml⟩:=hm
     subst hm
     refine⟨_,_,h,okInt (inK_len (Nat.le_trans (Nat.sub_le _ _) hml)),fun w'' => ?_⟩
     simp[Builtin.len_,run_underlying hu,goInt]
   · exact h.elim
 · rename_i i p
   split at h
   · rename_i e u xs t' hob
     obtain⟨hi,rfl,hone⟩:=hs
     obtain⟨_,hnd,_,_⟩:=I.ob i _ hob
     obtain⟨u',ys,hK,hn',hvp⟩:=Ot.get_spec hnd h
     obtain⟨_,e',hu,he⟩:=hf
     unfold lnT at hK
     split at hK
     · rename_i e1 u1 ys'
       obtain⟨⟨css,_,_,hown⟩,_⟩:=hn'
       have hκ':atp (A.κ i) p []=A.κ i p:=by unfold atp;rw[List.append_nil]
       rw[hκ'] at hown
       have hv:∃ A' c,A.κ i p = .slice A' (ls ys').length c∧(ls ys').length≤maxLen:=by
         rcases hown.2 with ⟨h1,h2⟩ | ⟨g,cap,cur,h1,_,_,hnc,hm,_⟩
         · exact⟨none,0,by rw[h1,h2],by rw[h2];exact Nat.zero_le _⟩
         · exact⟨_,_,h1,by omega⟩
       obtain⟨A',c,hv,hm⟩:=hv
       refine⟨_,_,hK,okInt (inK_len hm),fun w'' => ?_⟩
       rw[hv];simp[Builtin.len_,run_underlying hu,goInt]
     · exact hK.elim
   · exact h.elim
 · split at h
   · rename_i t0 xs _ _
     have hs':Ty.ok w _ (.sl t0) xs [v]:=hs
     obtain⟨Ad,c,e,hc1,hc2,_⟩:=hs'
     injection e with e;subst e
     obtain⟨_,e',hu,he⟩:=hf
     refine⟨_,_,h,okInt (inK_len (Nat.le_trans hc1 hc2)),fun w'' => ?_⟩
     simp[Builtin.len_,run_underlying hu,goInt]
   · exact h.elim
 · split at h
   · have hs':v = .slice none 0 0:=hs
     subst hs'
     obtain⟨_,e',hu,he⟩:=hf
     refine⟨_,_,h,okInt (by rw[inK_i64];omega),fun w'' => ?_⟩
     simp[Builtin.len_,run_underlying hu,goInt]
   · exact h.elim
 · split at h
   · rename_i l _
     have hs':Ty.ok w (Ro R0 w0.heap.size A st.ob w) .str l [v]:=hs
     have e:=hs'.1
     injection e with e;subst e
     refine⟨_,_,h,okInt (inK_len hs'.2),fun w'' => ?_⟩
     simp[Builtin.len_,run_underlying hf.2,goInt,bsize]
   · exact h.elim
 · exact h.elim
def cut(tT:Ty)(lo hi:Option Int)(k:SV→Prop):SV→Prop
 | .d (.sl t) xs=>if tT = .sl t then 0≤lo.getD 0∧lo.getD 0≤hi.getD (xs.length:Int)∧hi.getD (xs.length:Int)≤(xs.length:Int)∧k (.d (.sl t) ((xs.take (hi.getD (xs.length:Int)).toNat).drop (lo.getD 0).toNat)) else False
 | .d .str s=>if tT = .str then 0≤lo.getD 0∧lo.getD 0≤hi.getD (s.length:Int)∧hi.getD (s.length:Int)≤(s.length:Int)∧k (.d .str ((s.take (hi.getD (s.length:Int)).toNat).drop (lo.getD 0).toNat)) else False
 | .ra (.ar m t) xs=>if tT = .ar m t∧m≤65536 then 0≤lo.getD 0∧lo.getD 0≤hi.getD (m:Int)∧hi.getD (m:Int)≤(m:Int)∧k (.d (.sl t) ((xs.take (hi.getD (m:Int)).toNat).drop (lo.getD 0).toNat)) else False
 | _=>False
theorem Oks.cut{α:Type}{R:α→List Value→Prop}{xs:List α}{css:List (List Value)}(h:Oks R xs css)(i j:Nat):Oks R ((xs.take j).drop i) ((css.take j).drop i):=by
 refine⟨by simp[h.1],fun k x u hx hu => ?_⟩
 rw[List.getElem?_drop,List.getElem?_take] at hx hu
 split at hx
 · rename_i hk
   rw[if_pos hk] at hu
   exact h.2 _ x u hx hu
 · cases hx
theorem flat_cut{css:List (List Value)}{m:Nat}(h:∀ u∈css,u.length=m)(i j:Nat):((css.take j).drop i).flatten=(css.flatten.take (j*m)).drop (i*m):=by
 have h1:∀ (css:List (List Value)),(∀ u∈css,u.length=m)→∀ j,(css.take j).flatten=css.flatten.take (j*m):=by
   intro css
   induction css with
   | nil=>intro _ j;simp
   | cons c r ih =>
     intro h j
     have hc:=h c (List.mem_cons_self ..)
     cases j with
     | zero=>simp
     | succ j =>
       rw[List.take_succ_cons,List.flatten_cons,List.flatten_cons,ih (fun u hu=>h u (List.mem_cons_of_mem _ hu)),show (j+1)*m=c.length+j*m by rw[hc,Nat.add_mul];omega,take_app]
 have h2:∀ (css:List (List Value)),(∀ u∈css,u.length=m)→∀ i,(css.drop i).flatten=css.flatten.drop (i*m):=by
   intro css
   induction css with
   | nil=>intro _ i;simp
   | cons c r ih =>
     intro h i
     have hc:=h c (List.mem_cons_self ..)
     cases i with
     | zero=>simp
     | succ i =>
       rw[List.drop_succ_cons,List.flatten_cons,ih (fun u hu=>h u (List.mem_cons_of_mem _ hu)),show (i+1)*m=c.length+i*m by rw[hc,Nat.add_mul];omega,drop_app]
 rw[h2 _ (fun u hu=>h u (List.mem_of_mem_take hu)),h1 _ h]
theorem add_block(ad:Addr)(n:Nat):(ad.add n).block=ad.block:=by unfold Addr.add;split<;>rfl
theorem add_spot(ad:Addr)(n:Nat)(h:ad.spot=none):(ad.add n).spot=none:=by unfold Addr.add;split<;>simp[h]
theorem run_bounds{P:Program}(sl:Bool)(len cap:Nat)(lo hi:Option Int)(kl kh:IntKind)(h0:0≤lo.getD 0)(h1:lo.getD 0≤hi.getD (len:Int))(h2:hi.getD (len:Int)≤(len:Int))(hc:len≤cap)(w:World) :
   (Instr.sliceBounds sl len cap (lo.map (Value.int kl)) (hi.map (Value.int kh)) none).run P w = .ok ((lo.getD 0).toNat,(hi.getD (len:Int)).toNat,cap) w:=by
 cases lo<;>cases hi<;>simp at h0 h1 h2 ⊢
 · simp[Instr.sliceBounds]
 · rename_i b
   simp[Instr.sliceBounds,Instr.sliceBound,asIntOf,show 0≤b from h1,show b≤(cap:Int) by omega]
 · rename_i a
   simp[Instr.sliceBounds,Instr.sliceBound,asIntOf,h0,h1]
 · rename_i a b
   simp[Instr.sliceBounds,Instr.sliceBound,asIntOf,h0,show 0≤b by omega,show b≤(cap:Int) by omega]
   intro hh;omega
def cut3(tT:Ty)(lo:Option Int)(hi mx:Int)(k:SV→Prop):SV→Prop
 | .d (.sl t) xs=>if tT = .sl t then hi=mx∧0≤lo.getD 0∧lo.getD 0≤hi∧hi≤(xs.length:Int)∧k (.fs t ((xs.take hi.toNat).drop (lo.getD 0).toNat)) else False
 | _=>False
theorem run_bounds3{P:Program}(sl:Bool)(len cap:Nat)(lo:Option Int)(hi:Int)(kl kh km:IntKind)(h0:0≤lo.getD 0)(h1:lo.getD 0≤hi)(h2:hi≤(len:Int))(hc:len≤cap)(w:World) :
   (Instr.sliceBounds sl len cap (lo.map (Value.int kl)) (some (Value.int kh hi)) (some (Value.int km hi))).run P w = .ok ((lo.getD 0).toNat,hi.toNat,hi.toNat) w:=by
 cases lo<;>simp at h0 h1 ⊢
 · have e:max hi 0=hi:=Int.max_eq_left h1
   simp[Instr.sliceBounds,Instr.sliceBound,asIntOf,show 0≤hi from h1,show hi≤(cap:Int) by omega,e]

 · rename_i a
   have e:max hi 0=hi:=Int.max_eq_left (by omega)
   simp[Instr.sliceBounds,Instr.sliceBound,asIntOf,h0,show 0≤hi by omega,show hi≤(cap:Int) by omega,h1,e]
theorem cut3_ok[Dn]{P:Program}{T:TypeId}{tT:Ty}(hf:Fit P tT (.inl T)){w:World}{ro:Nat→Prop}{A:Asg}{s:SV}{v:Value}(hs:SvOk w ro A s v){lo:Option Int}{hi mx:Int}{kl kh km:IntKind}{k:SV→Prop}(h:cut3 tT lo hi mx k s) :
   ∃ s' v',k s'∧SvOk w ro A s' v'∧∀ w'':World,(Instr.sliceAt T v (lo.map (Value.int kl)) (some (Value.int kh hi)) (some (Value.int km mx))).run P w'' = .ok v' w'':=by
 unfold cut3 at h
 split at h
 · rename_i t xs
   split at h
   · rename_i ht;subst ht
     obtain⟨rfl,h0,h1,h2,hk⟩:=h
     have hs':Ty.ok w ro (.sl t) xs [v]:=hs
     obtain⟨Ad,c,e,hc1,hc2,hx⟩:=hs'
     injection e with e;subst e
     obtain⟨_,e',hu,he⟩:=hf
     generalize hL:(lo.getD 0).toNat=L at *
     generalize hH:hi.toNat=H at *
     have hLH:L≤H:=by omega
     have hHx:H≤xs.length:=by omega
     have hlen:((xs.take H).drop L).length=H - L:=by simp;omega
     refine⟨_,.slice (if H=L then Ad else Ad.map (·.add (L*t.size))) (H - L) (H - L),hk,⟨⟨_,H - L,by rw[hlen],by rw[hlen];omega,by omega,fun hne => ?_⟩,_,by rw[hlen]⟩,fun w'' => ?_⟩
     · have hpos:0<((xs.take H).drop L).length:=List.length_pos_iff.2 hne
       have hxs:xs≠[]:=by rintro rfl;simp at hpos
       obtain⟨ad,css,rfl,hsp,hro,hoks,hcell⟩:=hx hxs
       rw[if_neg (by omega)]
       refine⟨ad.add (L*t.size),(css.take H).drop L,rfl,add_spot _ _ hsp,by rw[add_block];exact hro,hoks.cut L H,fun j u hj => ?_⟩
       rw[flat_cut hoks.all,List.getElem?_drop,List.getElem?_take] at hj
       split at hj
       · rw[addr_add_add ad hsp];exact hcell _ u hj
       · cases hj
     · have hb:=run_bounds3 (P:=P) true xs.length c lo hi kl kh km h0 h1 h2 hc1 w''
       simp only[Instr.sliceAt,Instr.slice,Sem.run_bind,run_underlying hu,Result.andThen_ok,hb,he.size w'',Sem.run_pure,hL,hH]
   · exact h.elim
 · exact h.elim
theorem cut_ok[Dn]{P:Program}{T:TypeId}{tT:Ty}(hf:Fit P tT (.inl T)){w:World}{ro:Nat→Prop}{A:Asg}{s:SV}{v:Value}(hs:SvOk w ro A s v){lo hi:Option Int}{kl kh:IntKind}{k:SV→Prop}(h:cut tT lo hi k s) :
   ∃ s' v',k s'∧SvOk w ro A s' v'∧∀ w'':World,(Instr.sliceAt T v (lo.map (Value.int kl)) (hi.map (Value.int kh)) none).run P w'' = .ok v' w'':=by
 unfold cut at h
 split at h
 · rename_i t xs
   split at h
   · rename_i ht;subst ht
     obtain⟨h0,h1,h2,hk⟩:=h
     have hs':Ty.ok w ro (.sl t) xs [v]:=hs
     obtain⟨Ad,c,e,hc1,hc2,hx⟩:=hs'
     injection e with e;subst e
     obtain⟨_,e',hu,he⟩:=hf
     generalize hL:(lo.getD 0).toNat=L at *
     generalize hH:(hi.getD (xs.length:Int)).toNat=H at *
     have hLH:L≤H:=by omega
     have hHx:H≤xs.length:=by omega
     have hlen:((xs.take H).drop L).length=H - L:=by simp;omega
     refine⟨_,.slice (if c=L then Ad else Ad.map (·.add (L*t.size))) (H - L) (c - L),hk,⟨_,c - L,by rw[hlen],by rw[hlen];omega,by omega,fun hne => ?_⟩,fun w'' => ?_⟩
     · have hpos:0<((xs.take H).drop L).length:=List.length_pos_iff.2 hne
       have hxs:xs≠[]:=by rintro rfl;simp at hpos
       obtain⟨ad,css,rfl,hsp,hro,hoks,hcell⟩:=hx hxs
       rw[if_neg (by omega)]
       refine⟨ad.add (L*t.size),(css.take H).drop L,rfl,add_spot _ _ hsp,by rw[add_block];exact hro,hoks.cut L H,fun j u hj => ?_⟩
       rw[flat_cut hoks.all,List.getElem?_drop,List.getElem?_take] at hj
       split at hj
       · rw[addr_add_add ad hsp];exact hcell _ u hj
       · cases hj
     · have hb:=run_bounds (P:=P) true xs.length c lo hi kl kh h0 h1 h2 hc1 w''
       simp only[Instr.sliceAt,Instr.slice,Sem.run_bind,run_underlying hu,Result.andThen_ok,hb,he.size w'',Sem.run_pure,hL,hH]
   · exact h.elim
 · rename_i l
   split at h
   · rename_i ht;subst ht
     obtain⟨h0,h1,h2,hk⟩:=h
     have hs':Ty.ok w ro .str l [v]:=hs
     have e:=hs'.1
     injection e with e;subst e
     have hlm:=hs'.2
     generalize hL':(lo.getD 0).toNat=L at *
     generalize hH':(hi.getD (l.length:Int)).toNat=H at *
     refine⟨_,_,hk,⟨rfl,?_⟩,fun w'' => ?_⟩
     · simp only[List.length_drop,List.length_take];omega
     · have hb:=run_bounds (P:=P) false l.length l.length lo hi kl kh h0 h1 h2 (Nat.le_refl _) w''
       simp only[Instr.sliceAt,Instr.slice,Sem.run_bind,run_underlying hf.2,Result.andThen_ok,Option.isSome_none,Bool.false_eq_true,if_false,bsize,hb,Sem.run_pure]
       rw[ByteArray.extract_mk,← List.drop_take]
       simp[hL',hH']
   · exact h.elim
 · rename_i m t xs
   split at h
   · rename_i ht
     obtain⟨ht,hm⟩:=ht
     subst ht
     obtain⟨h0,h1,h2,hk⟩:=h
     obtain⟨ad,us,rfl,hsp,hro,hcell,hlen,css,rfl,hoks⟩:=hs
     obtain⟨_,e',hu,he⟩:=hf
     generalize hL:(lo.getD 0).toNat=L at *
     generalize hH:(hi.getD (m:Int)).toNat=H at *
     have hLH:L≤H:=by omega
     have hHm:H≤m:=by omega
     have hlen2:((xs.take H).drop L).length=H - L:=by simp;omega
     refine⟨_,.slice (some (if m=L then ad else ad.add (L*t.size))) (H - L) (m - L),hk,⟨_,m - L,by rw[hlen2],by rw[hlen2];omega,by simp only[maxLen];omega,fun hne => ?_⟩,fun w'' => ?_⟩
     · have hpos:0<((xs.take H).drop L).length:=List.length_pos_iff.2 hne
       rw[if_neg (by omega)]
       refine⟨ad.add (L*t.size),(css.take H).drop L,rfl,add_spot _ _ hsp,by rw[add_block];exact hro,hoks.cut L H,fun j u hj => ?_⟩
       rw[flat_cut hoks.all,List.getElem?_drop,List.getElem?_take] at hj
       split at hj
       · rw[addr_add_add ad hsp];exact hcell _ u hj
       · cases hj
     · have hb:=run_bounds (P:=P) false m m lo hi kl kh h0 h1 h2 (Nat.le_refl _) w''
       simp only[Instr.sliceAt,Sem.run_bind,run_underlying hu,Result.andThen_ok,hb,he.size w'',Sem.run_pure,hL,hH,Instr.sureAddr]
   · exact h.elim
 · exact h.elim
end Go.Vc
