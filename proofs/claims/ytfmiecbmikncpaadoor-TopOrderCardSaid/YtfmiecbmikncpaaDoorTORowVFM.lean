import Derived.Test.YtfmiecbmikncpaaDoorTORowVF
import Derived.WideKeyRuns
namespace Go.Vc
open Go.RowKit
def mpGet{β:Type}:List (List Int×β)→List Int→Option β
 | [],_=>none
 | e::r,k=>if e.1=k then some e.2 else mpGet r k
def mpPut{β:Type}:List (List Int×β)→List Int→β→List (List Int×β)
 | [],k,y=>[(k,y)]
 | e::r,k,y=>if e.1=k then (k,y)::r else e::mpPut r k y
def KeyT(P:Program)(n:Nat)(T:TypeId):Prop:=Fit P (.ar n (.int .i64)) (.inl T)
theorem kvA_okV{w:World}{ro:Nat→Prop}{n:Nat}{x:List Int}{v:Value}(h:(Ty.ar n (.int .i64)).okV w ro x v):v=kvA x∧x.length=n:=by
 obtain⟨cs,rfl,hn,css,hc,h2,h3⟩:=h
 refine⟨?_,hn⟩
 unfold kvA
 congr 1
 apply Array.toList_inj.1
 rw[hc]
 apply List.ext_getElem?
 have hcs:css=x.map fun y=>[Value.int .i64 y]:=by
   apply List.ext_getElem?
   intro i
   rw[List.getElem?_map]
   by_cases hi:i<x.length
   · have hi2:i<css.length:=by rw[h2];exact hi
     rw[List.getElem?_eq_getElem hi,List.getElem?_eq_getElem hi2]
     have:=(h3 i _ _ (List.getElem?_eq_getElem hi) (List.getElem?_eq_getElem hi2)).2.1
     rw[this];rfl
   · rw[List.getElem?_eq_none (by omega),List.getElem?_eq_none (by omega)];rfl
 intro i
 rw[hcs]
 have key:∀ l:List Int,(l.map fun y=>[Value.int .i64 y]).flatten=l.map (Value.int .i64):=by
   intro l
   induction l with
   | nil=>rfl
   | cons a r ih=>rw[List.map_cons,List.flatten_cons,ih];rfl
 rw[key]
theorem part_key[Dn]{P:Program}{e:TypeId}(hf:Fit P (.int .i64) (.inl e)){x:List Int}{i:Nat}{a:Int}(h:x[i]?=some a)(w:World) :
   (part e (x.map (Value.int .i64)).toArray (i*P.cellsOf e)).run P w = .ok (.int .i64 a) w:=by
 obtain⟨j,hj,hs,_⟩:=hf.info
 have hc:P.cellsOf e=1:=by simp[Program.cellsOf,hj,hs,Ty.size]
 rw[hc,Nat.mul_one]
 exact part_one hf rfl (by simp[h])
theorem eqItems_run[Dn]{P:Program}{e:TypeId}(hf:Fit P (.int .i64) (.inl e)){x y:List Int}(d:Nat)(w:World):∀ is:List Nat,(∀ i∈is,i<x.length∧i<y.length) →
   (Op.eqItems (d+1) e (P.cellsOf e) (x.map (Value.int .i64)).toArray (y.map (Value.int .i64)).toArray is).run P w = .ok (is.all fun i=>decide (x.getD i 0=y.getD i 0)) w:=by
 intro is
 induction is with
 | nil=>intro _;rfl
 | cons i is ih =>
   intro h
   obtain⟨h1,h2⟩:=h i (List.mem_cons_self ..)
   have e1:x[i]?=some (x.getD i 0):=by rw[List.getD_eq_getElem?_getD,List.getElem?_eq_getElem h1];rfl
   have e2:y[i]?=some (y.getD i 0):=by rw[List.getD_eq_getElem?_getD,List.getElem?_eq_getElem h2];rfl
   have e3:=run_equalIn_int w d e .i64 .i64 (x.getD i 0) (y.getD i 0) hf.2
   simp only[Op.eqItems,Sem.run_bind,part_key hf e1 w,part_key hf e2 w,Result.andThen_ok,e3,List.all_cons]
   by_cases hq:x.getD i 0=y.getD i 0
   · have:(x.getD i 0==y.getD i 0)=true:=by simpa using hq
     rw[this,decide_eq_true hq]
     simpa using ih fun j hj=>h j (List.mem_cons_of_mem _ hj)
   · have:(x.getD i 0==y.getD i 0)=false:=by simpa using hq
     rw[this,decide_eq_false hq]
     simp
theorem key_eq[Dn]{P:Program}{n:Nat}{T:TypeId}(hf:KeyT P n T){x y:List Int}(hx:x.length=n)(hy:y.length=n)(w:World):(Op.equal T (kvA x) (kvA y)).run P w = .ok (decide (x=y)) w:=by
 obtain⟨_,e,hu,he⟩:=hf
 obtain⟨i,hi,_⟩:=he.info
 have:=run_equalIn_array (w:=w) 9999 (x.map (Value.int .i64)).toArray (y.map (Value.int .i64)).toArray hu hi
 have h2:=eqItems_run he (x:=x) (y:=y) 9998 w (List.range n) (fun i hi=>by have:=List.mem_range.1 hi;omega)
 have h3:(List.range n).all (fun i=>decide (x.getD i 0=y.getD i 0))=decide (x=y):=by
   by_cases hq:x=y
   · subst hq;simp
   · rw[decide_eq_false hq,List.all_eq_false]
     apply Classical.byContradiction
     intro hno
     apply hq
     apply List.ext_getElem (by omega)
     intro i h1 h2
     apply Classical.byContradiction
     intro hne
     apply hno
     refine⟨i,List.mem_range.2 (by omega),?_⟩
     simpa [List.getD_eq_getElem?_getD,List.getElem?_eq_getElem h1,List.getElem?_eq_getElem h2] using hne
 rw[h3] at h2
 exact this.trans h2
theorem key_check_at[Dn]{P:Program}{n:Nat}{T:TypeId}(hf:KeyT P n T){x:List Int}(hx:x.length=n)(em:Bool)(w:World)(d:Nat):(Instr.checkKey em (d+2) T (kvA x)).run P w = .ok () w:=by
 obtain⟨_,e,hu,he⟩:=hf
 obtain⟨i,hi,_⟩:=he.info
 unfold kvA
 rw[Instr.checkKey]
 simp only[Sem.run_bind,run_underlying hu,Result.andThen_ok]
 simp only[Std.Legacy.Range.forIn_eq_forIn_range',Std.Legacy.Range.size,Nat.sub_zero,Nat.add_one_sub_one,Nat.div_one]
 have e2:∀ a:Int,(Instr.checkKey em (d+1) e (.int .i64 a)).run P w = .ok () w:=fun a=>by rw[Instr.checkKey];simp[run_underlying he.2]
 have hall:∀ i∈List.range' 0 n,i<x.length:=fun i hi=>by have:=List.mem_range'_1.1 hi;omega
 generalize List.range' 0 n=is at hall ⊢
 induction is with
 | nil=>simp
 | cons i is ih =>
   have h1:=hall i (List.mem_cons_self ..)
   have e1:x[i]?=some (x.getD i 0):=by rw[List.getD_eq_getElem?_getD,List.getElem?_eq_getElem h1];rfl
   simp only[List.forIn_cons,Sem.run_bind,run_sizeOf w hi,Result.andThen_ok,part_key he e1 w,e2,Sem.run_pure]
   exact ih fun j hj=>hall j (List.mem_cons_of_mem _ hj)
theorem key_check[Dn]{P:Program}{n:Nat}{T:TypeId}(hf:KeyT P n T){x:List Int}(hx:x.length=n)(em:Bool)(w:World):(Instr.checkKey em 10000 T (kvA x)).run P w = .ok () w:=key_check_at hf hx em w 9998
def EsOk{β:Type}(n:Nat)(R:β→Value→Prop)(es:List (List Int×β))(l:List MapEntry):Prop :=
 l.length=es.length∧∀ (j:Nat) x (e:MapEntry),es[j]?=some x→l[j]?=some e→x.1.length=n∧e.key=kvA x.1∧R x.2 e.val
theorem EsOk.tail{β:Type}{n:Nat}{R:β→Value→Prop}{x:List Int×β}{es:List (List Int×β)}{e:MapEntry}{l:List MapEntry}(h:EsOk n R (x::es) (e::l)):EsOk n R es l :=
 ⟨by have:=h.1;simpa using this,fun j y f h1 h2=>h.2 (j+1) y f (by simpa using h1) (by simpa using h2)⟩
theorem find_run[Dn]{P:Program}{n:Nat}{T:TypeId}(hf:KeyT P n T){β:Type}{R:β→Value→Prop}{k:List Int}(hk:k.length=n):∀ {es:List (List Int×β)} {l:List MapEntry} (i:Nat),EsOk n R es l →
   (mpGet es k=none∧(∀ y,mpPut es k y=es++[(k,y)])∧∀ w:World,(Instr.findAsking T (kvA k) l i).run P w = .ok none w) ∨
   ∃ (j:Nat) (y:β) (e:MapEntry),mpGet es k=some y∧l[j]?=some e∧es[j]?=some (k,y)∧R y e.val∧(∀ y',mpPut es k y'=es.set j (k,y'))∧∀ w:World,(Instr.findAsking T (kvA k) l i).run P w = .ok (some (i+j,e.val)) w:=by
 intro es
 induction es with
 | nil =>
   intro l i h
   have:l=[]:=List.eq_nil_of_length_eq_zero (by rw[h.1];rfl)
   subst this
   exact .inl ⟨rfl,fun _=>rfl,fun _=>rfl⟩
 | cons x es ih =>
   intro l i h
   cases l with
   | nil=>have:=h.1;simp at this
   | cons e l =>
     obtain⟨h1,h2,h3⟩:=h.2 0 x e rfl rfl
     have hq:=fun w=>key_eq hf hk h1 w
     rw[← h2] at hq
     by_cases hx:x.1=k
     · refine .inr ⟨0,x.2,e,by simp[mpGet,hx],rfl,by rw[← hx];rfl,h3,fun y'=>by simp[mpPut,hx],fun w => ?_⟩
       rw[Instr.findAsking,Sem.run_bind,hq w,decide_eq_true hx.symm]
       simp
     · have hx':decide (k=x.1)=false:=decide_eq_false (fun e=>hx e.symm)
       have hstep:∀ w r,(Instr.findAsking T (kvA k) l (i+1)).run P w=r→(Instr.findAsking T (kvA k) (e::l) i).run P w=r:=by
         intro w r hr
         rw[Instr.findAsking,Sem.run_bind,hq w,hx']
         simpa using hr
       rcases ih (l:=l) (i+1) h.tail with ⟨a1,a2,a3⟩ | ⟨j,y,f,a1,a2,a3,a4,a5,a6⟩
       · exact .inl ⟨by simp[mpGet,hx,a1],fun y=>by simp[mpPut,hx,a2 y],fun w=>hstep w _ (a3 w)⟩
       · refine .inr ⟨j+1,y,f,by simp[mpGet,hx,a1],by simpa using a2,by simpa using a3,a4,fun y'=>by simp[mpPut,hx,a5 y'],fun w => ?_⟩
         rw[hstep w _ (a6 w)]
         rw[show i+1+j=i+(j+1) by omega]
theorem findKey_run{P:Program}{n:Nat}{T:TypeId}(hf:KeyT P n T)(k:Value)(l:List MapEntry)(w:World):(Instr.findKey T k l).run P w=(Instr.findAsking T k l).run P w:=by
 obtain⟨_,e,hu,_⟩:=hf
 exact run_findKey_eq w (by rw[hu]) k l
theorem look_run[Dn]{P:Program}{n:Nat}{T K E:TypeId}(hm:P.underlying T=some (.map K E))(hf:KeyT P n K){v:Ty}(hv:Fit P v (.inl E)){w:World}{ro:Nat→Prop}{g:Nat}{es':Array MapEntry}{clock:Nat}{es:List (List Int×v.D)}
   (hes:EsOk n (fun y u=>v.okV w ro y u) es es'.toList) {k:List Int} (hk:k.length=n) (ok:Bool) :
   ∃ u:Value,v.okV w ro ((mpGet es k).getD v.z) u∧∀ w':World,w'.heap[g]?=some (.map es' clock)→(Instr.lookup T (.map (some g)) (kvA k) ok).run P w' = .ok (if ok then .tuple #[u,.bool (mpGet es k).isSome] else u) w':=by
 obtain⟨i,hi,_,hz,_⟩:=hv.info
 rcases find_run hf hk 0 hes with ⟨a1,_,a3⟩ | ⟨j,y,e,a1,_,_,a4,_,a6⟩
 · refine⟨v.mk v.zc,by rw[a1];exact okV_mk (ok_zero v),fun w' hh => ?_⟩
   have hc:=key_check hf hk es'.isEmpty w'
   have hob:(getObj g).run P w' = .ok (.map es' clock) w':=by simp[getObj,Sem.run,hh]
   have hzr:(zeroValue E).run P w' = .ok (v.mk v.zc) w':=by simp[zeroValue,typeInfo,hi,hz]
   have hff:(Instr.findKey K (kvA k) es'.toList).run P w' = .ok none w':=(findKey_run hf (kvA k) es'.toList w').trans (a3 w')
   simp only[Instr.lookup,Sem.run_bind,run_underlying hm,Result.andThen_ok,hob,Sem.run_pure,hc,hff,hzr,a1]
   cases ok<;>rfl
 · refine⟨e.val,by rw[a1];exact a4,fun w' hh => ?_⟩
   have hc:=key_check hf hk es'.isEmpty w'
   have hob:(getObj g).run P w' = .ok (.map es' clock) w':=by simp[getObj,Sem.run,hh]
   have hff:(Instr.findKey K (kvA k) es'.toList).run P w' = .ok (some (0+j,e.val)) w':=(findKey_run hf (kvA k) es'.toList w').trans (a6 w')
   simp only[Instr.lookup,Sem.run_bind,run_underlying hm,Result.andThen_ok,hob,Sem.run_pure,hc,hff,a1]
   cases ok<;>rfl
theorem keyStays{P:Program}(k:List Int)(w:World):(Instr.keyThatStays (kvA k) (kvA k)).run P w = .ok (kvA k) w:=by
 have hz:∀ l:List Int,((l.map (Value.int .i64)).zip (l.map (Value.int .i64))).all (fun (x:Value×Value)=>Instr.sameBits 9999 x.1 x.2)=true:=by
   intro l
   induction l with
   | nil=>rfl
   | cons a r ih=>simp[Instr.sameBits,ih]
 have h:Instr.sameBits 10000 (kvA k) (kvA k)=true:=by
   unfold kvA
   simp only[Instr.sameBits,beq_self_eq_true,Bool.true_and]
   exact hz k
 simp[Instr.keyThatStays,h]
theorem store_run[Dn]{P:Program}{n:Nat}{T K E:TypeId}(hm:P.underlying T=some (.map K E))(hf:KeyT P n K){v:Ty}{w:World}{ro:Nat→Prop}{g:Nat}{es':Array MapEntry}{clock:Nat}{es:List (List Int×v.D)}
   (hh:w.heap[g]?=some (.map es' clock)) (hes:EsOk n (fun y u=>v.okV w ro y u) es es'.toList) {k:List Int} (hk:k.length=n) {y:v.D} {u:Value} (hu:v.okV w ro y u) :
   ∃ es2 clock2,EsOk n (fun y u=>v.okV w ro y u) (mpPut es k y) es2.toList∧(Instr.mapUpdate T (.map (some g)) (kvA k) u).run P w = .ok () { w with heap:=w.heap.setIfInBounds g (.map es2 clock2) }:=by
 have hc:=key_check hf hk false w
 have hfk:=findKey_run hf (kvA k) es'.toList w
 have hob:(getObj g).run P w = .ok (.map es' clock) w:=by simp[getObj,Sem.run,hh]
 have hset:∀ o,(setObj g o).run P w = .ok () { w with heap:=w.heap.setIfInBounds g o }:=fun o=>by simp[setObj,Sem.run,hh]
 rcases find_run hf hk 0 hes with ⟨a1,a2,a3⟩ | ⟨j,y0,e,a1,b1,b2,a4,a5,a6⟩
 · refine⟨es'.push { key:=kvA k,val:=u,born:=clock },clock+1,?_,?_⟩
   · rw[a2 y]
     refine⟨by simp[hes.1],fun i x f h1 h2 => ?_⟩
     by_cases hi:i<es.length
     · rw[List.getElem?_append_left hi] at h1
       rw[Array.toList_push,List.getElem?_append_left (by rw[hes.1];exact hi)] at h2
       exact hes.2 i x f h1 h2
     · rw[List.getElem?_append_right (by omega)] at h1
       rw[Array.toList_push,List.getElem?_append_right (by rw[hes.1];omega),hes.1] at h2
       cases hq:i - es.length with
       | zero=>rw[hq] at h1 h2;simp at h1 h2;subst h1;subst h2;exact⟨hk,rfl,hu⟩
       | succ m=>rw[hq] at h1;simp at h1
   · have hff:(Instr.findKey K (kvA k) es'.toList).run P w = .ok none w:=hfk.trans (a3 w)
     simp only[Instr.mapUpdate,Sem.run_bind,run_underlying hm,Result.andThen_ok,hob,hc,hff,hset]
 · have hjk:e.key=kvA k:=(hes.2 j (k,y0) e b2 b1).2.1
   have hjl:j<es'.size:=by have:=(List.getElem?_eq_some_iff.1 b1).1;simpa using this
   refine⟨es'.modify j fun e=>{ e with key:=kvA k,val:=u },clock,?_,?_⟩
   · rw[a5 y]
     refine⟨by simp[hes.1],fun i x f h1 h2 => ?_⟩
     rw[Array.getElem?_toList,Array.getElem?_modify] at h2
     by_cases hi:j=i
     · subst hi
       rw[if_pos rfl] at h2
       obtain⟨f0,hf0,rfl⟩:=Option.map_eq_some_iff.1 h2
       have hl:j<es.length:=(List.getElem?_eq_some_iff.1 b2).1
       rw[List.getElem?_set_self hl] at h1
       injection h1 with h1;subst h1
       exact⟨hk,rfl,hu⟩
     · rw[if_neg hi] at h2
       rw[List.getElem?_set_ne hi] at h1
       exact hes.2 i x f h1 (by simpa using h2)
   · have hff:(Instr.findKey K (kvA k) es'.toList).run P w = .ok (some (0+j,e.val)) w:=hfk.trans (a6 w)
     have he:es'[0+j]?=some e:=by rw[Nat.zero_add];simpa using b1
     simp only[Nat.zero_add] at hff he
     simp only[Instr.mapUpdate,Sem.run_bind,run_underlying hm,Result.andThen_ok,hob,hc,hff,he,Option.map_some,Option.getD_some,hjk,keyStays,hset]
end Go.Vc
