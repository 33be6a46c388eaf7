import Derived.Test.YtfmiecbmikncpaaDoorTORowVFM
namespace Go.Vc
open Go.RowKit
def asI:SV→Option Int
 | .d (.int _) n=>some n
 | _=>none
def isNil:Operand→Bool
 | .const .nilIface=>true
 | _=>false
def asOI(E:Env)(st:St):Option Operand→Option (Option Int)
 | none=>some none
 | some x=>match st.ev E x with
   | .d (.int _) n=>some (some n)
   | _=>none
def as64:SV→Option Int
 | .d (.int .i64) n=>some n
 | _=>none
def mm:Bool→Int→Int→Int
 | true,a,b=>max a b
 | false,a,b=>min a b
def mb:Bool→Value→Value→Sem Value
 | true=>Builtin.max2
 | false=>Builtin.min2
def mxs(mx:Bool):Int→List SV→Option Int
 | a,[]=>some a
 | a,s::r=>match as64 s with
   | some b=>mxs mx (mm mx a b) r
   | none=>none
def bstr(xs:List Int):List UInt8:=xs.map fun n=>UInt8.ofNat n.toNat
def bop(E:Env)(op:BinOp)(T:TypeId)(y:Operand)(s1 s2:SV)(k:SV→Prop):Prop :=
 match s1,s2 with
 | .d (.int k1) a,.d (.int k2) b=>match op with
   | .shl=>shf .shl k1 a b k
   | .shr=>shf .shr k1 a b k
   | op=>if k1=k2 then ari op k1 a b k else False
 | s1,s2=>match op with
   | .eql=>match E.ty T with
     | some t=>cmp E.eqT false T t (isNil y) s1 s2 k
     | none=>False
   | .neq=>match E.ty T with
     | some t=>cmp E.eqT true T t (isNil y) s1 s2 k
     | none=>False
   | .add=>match s1,s2 with
     | .d .str a,.d .str b=>a.length+b.length≤maxLen∧k (.d .str (List.append a b))
     | _,_=>False
   | _=>False
def pcV(st:St):SV→Option SV
 | .d t x=>if t.agg=false then some (.d t x) else none
 | .bt b=>some (.d .bool b)
 | .os i=>match st.ob[i]? with
   | some (.row _ _ _)=>some (.os i)
   | some (.trow _ _ _)=>some (.os i)
   | some (.mp _ _ _)=>some (.os i)
   | _=>none
 | .ps i=>some (.ps i)
 | .pv t i q=>some (.pv t i q)
 | .pf t i o q=>some (.pf t i o q)
 | .ra t x=>some (.d (.ptr t) (some x))
 | .fs t xs=>some (.d (.sl t) xs)
 | .nils=>some .nils
 | .nilp=>some .nilp
 | _=>none
theorem pcV_ok[Dn]{w0:World}{M:Ms}{R0:Nat→Prop}{A:Asg}{st:St}{a:Act}{w:World}(I:Inv w0 M R0 A st a w){s s':SV}{v:Value}(h:pcV st s=some s')(hs:SvOk w (Ro R0 w0.heap.size A st.ob w) A s v) :
   SvOk0 w (Ro R0 w0.heap.size A st.ob w) A s' v∧v.oneCell'=true∧s'.one=true∧s'.len=1:=by
 cases s with
 | d t x =>
   simp only[pcV] at h
   split at h
   · rename_i ha
     injection h with h;subst h
     have hs':t.okV w (Ro R0 w0.heap.size A st.ob w) x v:=hs
     refine⟨hs',?_,rfl,size_one ha⟩
     unfold Ty.okV at hs'
     rw[if_neg (by simp[ha])] at hs'
     exact ok_one hs' v (by simp)
   · cases h
 | bt b=>injection h with h;subst h;have hs':v = .bool b:=hs;subst hs';exact⟨rfl,rfl,rfl,rfl⟩
 | os i =>
   simp only[pcV] at h
   split at h
   · rename_i e t xs hob
     injection h with h;subst h
     refine⟨hs,?_,rfl,rfl⟩
     obtain⟨_,hs'⟩:=hs
     obtain⟨css,_,hown,_⟩:=I.ob i _ hob
     rcases hown.2 with ⟨h1,_⟩ | ⟨g,cap,cur,h1,_⟩<;>rw[hs',h1]<;>rfl
   · rename_i e u xs hob
     injection h with h;subst h
     refine⟨hs,?_,rfl,rfl⟩
     obtain⟨_,hs'⟩:=hs
     obtain⟨hκ,⟨⟨css,_,_,hown⟩,_⟩,_⟩:=I.ob i _ hob
     rw[hκ] at hown
     rcases hown.2 with ⟨h1,_⟩ | ⟨g,cap,cur,h1,_⟩<;>rw[hs',h1]<;>rfl
   · rename_i n v es hob
     injection h with h;subst h
     refine⟨hs,?_,rfl,rfl⟩
     obtain⟨g,es',clock,e1,_⟩:=I.ob i _ hob
     rw[hs.2,e1];rfl
   · cases h
 | pv t i q=>injection h with h;subst h;refine⟨hs,?_,rfl,rfl⟩;obtain⟨_,g,o,t',_,_,_,rfl⟩:=hs;rfl
 | ps i=>injection h with h;subst h;refine⟨hs,?_,rfl,rfl⟩;obtain⟨_,e,g,r⟩:=hs;rw[e,r];rfl
 | ra t x=>injection h with h;subst h;obtain⟨ad,us,rfl,h1,h2,h3,h4⟩:=hs;exact⟨⟨ad,us,rfl,h1,h2,h3,h4⟩,rfl,rfl,rfl⟩
 | fs t xs =>
   injection h with h;subst h
   obtain⟨h1,Ad,h2⟩:=hs
   subst h2
   exact⟨h1,rfl,rfl,rfl⟩
 | nils=>injection h with h;subst h;have hs':v = .slice none 0 0:=hs;subst hs';exact⟨rfl,rfl,rfl,rfl⟩
 | nilp=>injection h with h;subst h;have hs':v = .pointer none:=hs;subst hs';exact⟨rfl,rfl,rfl,rfl⟩
 | ea t i k q=>simp[pcV] at h
 | oc t i a=>simp[pcV] at h
 | pf t i o q=>injection h with h;subst h;refine⟨hs,?_,rfl,rfl⟩;obtain⟨_,g,o',t',_,_,_,rfl⟩:=hs;rfl
 | tv i p=>simp[pcV] at h
 | ta t i p k q=>simp[pcV] at h
 | und=>simp[pcV] at h
 | any=>simp[pcV] at h
 | ag l=>simp[pcV] at h
 | tp l=>simp[pcV] at h
theorem one_cells{v:Value}(h:v.oneCell'=true):v.cells.toList=[v]:=by cases v<;>first | rfl | simp[Value.oneCell'] at h
def zpc:Ty→SV
 | .sl _ => .nils
 | t => .d t t.z
def zP:Ty→List SV
 | .pr a b=>zpc a::zP b
 | _=>[]
def setP(st:St)(t:Ty)(l:List SV):List (Nat×SV)→Option (List SV)
 | []=>some l
 | (i,s)::r=>match off t [i] with
   | some (_,ti)=>match asT ti s with
     | some y=>setP st t (l.set i (.d ti y)) r
     | none=>if ti.size=1 then match pcV st s with
         | some s'=>setP st t (l.set i s') r
         | none=>none
       else none
   | none=>none
def PL(w:World)(ro:Nat→Prop)(A:Asg)(t:Ty)(l:List SV)(css:List (List Value)):Prop :=
 css.length=l.length∧(∀ (j:Nat) s u,l[j]?=some s→css[j]?=some u→s.one=true∧u.length=s.len∧ChOk w ro A s u) ∧
   ∀ i o ti,off t [i]=some (o,ti)→∃ u,css[i]?=some u∧u.length=ti.size∧(css.take i).flatten.length=o
theorem zpc_ok{w:World}{ro:Nat→Prop}{A:Asg}(a:Ty):(zpc a).one=true∧a.zc.length=(zpc a).len∧ChOk w ro A (zpc a) a.zc:=by
 have hz:a.zc.length=a.size:=ok_len (w:=w) (ro:=ro) (ok_zero a)
 have hd:(SV.d a a.z).one=true∧a.zc.length=(SV.d a a.z).len∧ChOk w ro A (.d a a.z) a.zc :=
   ⟨rfl,hz,a.mk a.zc,(mk_cells hz (ok_one (ok_zero (w:=w) (ro:=ro) a))).symm,okV_mk (ok_zero a),fun h=>by cases h⟩
 cases a with
 | sl t=>exact⟨rfl,rfl,.slice none 0 0,rfl,rfl,fun _=>rfl⟩
 | _=>exact hd
theorem zP_ok[Dn]{P:Program}{w:World}{ro:Nat→Prop}{A:Asg}:∀ {t:Ty} {fs:Array Field} {f o:Nat},Fit P t (.inr (fs,f,o))→∃ css,t.zc=css.flatten∧PL w ro A t (zP t) css:=by
 intro t
 induction t with
 | pr a b _ ih =>
   intro fs f o h
   obtain⟨fld,_,_,_,_,h5⟩:=h
   obtain⟨css,h1,h2,h3,h4⟩:=ih h5
   obtain⟨z1,z2,z3⟩:=zpc_ok (w:=w) (ro:=ro) (A:=A) a
   have hz:a.zc.length=a.size:=ok_len (w:=w) (ro:=ro) (ok_zero a)
   refine⟨a.zc::css,by simp[Ty.zc,h1],by simp[zP,h2],fun j s u hj hu => ?_,fun i o ti ho => ?_⟩
   · cases j with
     | zero=>simp[zP] at hj hu;subst hj;subst hu;exact⟨z1,z2,z3⟩
     | succ j=>exact h3 j s u (by simpa [zP] using hj) (by simpa using hu)
   · cases i with
     | zero =>
       change off a []=some (o,ti) at ho
       rw[off_nil] at ho
       injection ho with ho;injection ho with ho1 ho2;subst ho1;subst ho2
       exact⟨a.zc,rfl,hz,by simp⟩
     | succ i =>
       simp only[off] at ho
       split at ho
       · rename_i r hr
         injection ho with ho;injection ho with ho1 ho2;subst ho1;subst ho2
         obtain⟨u,k1,k2,k3⟩:=h4 i r.1 r.2 hr
         exact⟨u,by simpa using k1,k2,by simp[k3,hz]⟩
       · cases ho
 | un=>intro fs f o _;exact⟨[],rfl,rfl,fun j s u h=>by simp[zP] at h,fun i o ti ho=>by simp[off] at ho⟩
 | _=>intro fs f o h;exact h.elim
theorem take_flat{css:List (List Value)}{i:Nat}{u:List Value}(h:css[i]?=some u):css.flatten=(css.take i).flatten++(u++(css.drop (i+1)).flatten):=by
 have hi:=(List.getElem?_eq_some_iff.1 h).1
 have e:css=css.take i++u::css.drop (i+1):=by
   have:=List.take_append_drop i css
   rw[List.drop_eq_getElem_cons hi,(List.getElem?_eq_some_iff.1 h).2] at this
   exact this.symm
 have e2:=congrArg List.flatten e
 rw[e2];simp
theorem setP_ok[Dn]{w0:World}{M:Ms}{R0:Nat→Prop}{A:Asg}{st:St}{a:Act}{w:World}(I:Inv w0 M R0 A st a w){t:Ty}{place:Nat→Option (Nat×Nat)}(hp:∀ i o tf,off t [i]=some (o,tf)→place i=some (o,tf.size)) :
   ∀ {parts:List (Nat×SV)} {vals:List (Nat×Value)} {l l':List SV} {cs:Array Value} {css:List (List Value)},cs.toList=css.flatten→PL w (Ro R0 w0.heap.size A st.ob w) A t l css→setP st t l parts=some l' →
     vals.length=parts.length→(∀ (j:Nat) (p:Nat×SV) (v:Nat×Value),parts[j]?=some p→vals[j]?=some v→p.1=v.1∧SvOk w (Ro R0 w0.heap.size A st.ob w) A p.2 v.2) →
     ∃ cs',Instr.fill place cs vals=some cs'∧Pcs w (Ro R0 w0.heap.size A st.ob w) A l' cs'.toList:=by
 intro parts
 induction parts with
 | nil =>
   intro vals l l' cs css hc hpl h hl _
   have:vals=[]:=List.eq_nil_of_length_eq_zero hl
   subst this
   simp only[setP,Option.some.injEq] at h
   subst h
   exact⟨cs,rfl,css,hc,hpl.1,hpl.2.1⟩
 | cons p parts ih =>
   intro vals l l' cs css hc hpl h hl hall
   match vals,hl with
   | (i',v)::vals,hl =>
     obtain⟨hi,hs⟩:=hall 0 p (i',v) rfl rfl
     obtain⟨i,s⟩:=p
     simp only at hi hs
     subst hi
     simp only[setP] at h
     split at h
     · rename_i o ti ho
       obtain⟨u,hu1,hu2,hu3⟩:=hpl.2.2 i o ti ho
       have hil:=(List.getElem?_eq_some_iff.1 hu1).1
       have htf:=take_flat hu1
       -- the piece is written
       have step:∀ {s':SV},s'.one=true→v.cells.toList.length=ti.size→v.cells.toList.length=s'.len→ChOk w (Ro R0 w0.heap.size A st.ob w) A s' v.cells.toList→setP st t (l.set i s') parts=some l' →
           ∃ cs',Instr.fill place cs ((i,v)::vals)=some cs'∧Pcs w (Ro R0 w0.heap.size A st.ob w) A l' cs'.toList:=by
         intro s' k1 k2 k3 k4 h
         have hcl:cs.size=css.flatten.length:=by rw[← hc];simp
         have hfl:css.flatten.length=o+ti.size+(css.drop (i+1)).flatten.length:=by rw[htf];simp[hu3,hu2];omega
         have hsz:v.cells.size=ti.size:=by simpa using k2
         have hcc:¬ ((decide (v.cells.size≠ti.size)||decide (o+v.cells.size>cs.size))=true):=by rw[hsz];simp;omega
         simp only[Instr.fill,hp i o ti ho]
         rw[if_neg hcc]
         have hf:((v.cells.zipIdx).foldl (fun (cs:Array Value) (x:Value×Nat)=>cs.setIfInBounds (o+x.2) x.1) cs).toList=spl cs.toList o v.cells.toList:=by
           rw[← Array.foldl_toList,Array.toList_zipIdx]
           have:=foldl_spl v.cells.toList o 0 cs (by simp[hsz];omega)
           simpa using this
         have hset:(css.set i v.cells.toList).flatten=spl cs.toList o v.cells.toList:=by
           have hu1':(css.set i v.cells.toList)[i]?=some v.cells.toList:=List.getElem?_set_self hil
           rw[take_flat hu1',hc,htf]
           have e1:(css.set i v.cells.toList).take i=css.take i:=by
             rw[List.take_set_of_le (Nat.le_refl _)]
           have e2:(css.set i v.cells.toList).drop (i+1)=css.drop (i+1):=by
             rw[List.drop_set_of_lt (by omega)]
           rw[e1,e2]
           simp only[spl]
           rw[← hu3,List.take_left,show (css.take i).flatten.length+v.cells.toList.length=(css.take i).flatten.length+(u.length+0) by omega,drop_app,drop_app]
           simp
         refine ih (cs:=(v.cells.zipIdx).foldl (fun (cs:Array Value) (x:Value×Nat)=>cs.setIfInBounds (o+x.2) x.1) cs) (css:=css.set i v.cells.toList) (by rw[hf,hset]) ⟨by simp[hpl.1],fun j s u' hj hu' => ?_,fun i2 o2 t2 ho2 => ?_⟩ h (by simpa using hl) fun j p v h1 h2=>hall (j+1) p v (by simpa using h1) (by simpa using h2)
         · by_cases hij:i=j
           · subst hij
             rw[List.getElem?_set_self hil] at hu'
             rw[List.getElem?_set_self (by rw[← hpl.1];exact hil)] at hj
             injection hj with hj;injection hu' with hu';subst hj;subst hu'
             exact⟨k1,k3,k4⟩
           · rw[List.getElem?_set_ne hij] at hj hu'
             exact hpl.2.1 j s u' hj hu'
         · obtain⟨u2,m1,m2,m3⟩:=hpl.2.2 i2 o2 t2 ho2
           by_cases hij:i=i2
           · subst hij
             rw[ho] at ho2;injection ho2 with ho2;injection ho2 with _ ho2;subst ho2
             exact⟨_,List.getElem?_set_self hil,k2,by rw[List.take_set_of_le (Nat.le_refl _)];exact m3⟩
           · refine⟨u2,by rw[List.getElem?_set_ne hij];exact m1,m2,?_⟩
             rcases Nat.lt_or_ge i i2 with hlt | hge
             ·
               have hlen:∀ (m:Nat),((css.set i v.cells.toList).take m).flatten.length=(css.take m).flatten.length:=by
                 intro m
                 have hmap:((css.set i v.cells.toList).take m).map List.length=(css.take m).map List.length:=by
                   rw[List.map_take,List.map_take,List.map_set]
                   congr 1
                   apply List.ext_getElem?
                   intro j
                   by_cases hj:i=j
                   · subst hj
                     rw[List.getElem?_set_self (by simpa using hil),List.getElem?_map,hu1]
                     simp[k2,hu2]
                   · rw[List.getElem?_set_ne hj]
                 simp only[List.length_flatten,hmap]
               rw[hlen];exact m3
             · rw[List.take_set_of_le hge];exact m3
       split at h
       · rename_i y hy
         have hyv:=okV_cells (asT_ok hy hs)
         have hlen:=ok_len hyv
         exact step (s' := .d ti y) rfl hlen hlen ⟨v,rfl,asT_ok hy hs,fun h=>by cases h⟩ h
       · split at h
         · rename_i hsz1
           split at h
           · rename_i s' hpc
             obtain⟨k1,k2,k3,k4⟩:=pcV_ok I hpc hs
             have hc1:=one_cells k2
             exact step k3 (by rw[hc1,hsz1];rfl) (by rw[hc1,k4];rfl) ⟨v,rfl,k1,fun _=>k2⟩ h
           · cases h
         · cases h
     · cases h
theorem build_okP[Dn]{P:Program}{t:Ty}{T:TypeId}(hf:Fit P t (.inl T))(hpr:isPr t=true){w0:World}{M:Ms}{R0:Nat→Prop}{A:Asg}{st:St}{a:Act}{w:World}(I:Inv w0 M R0 A st a w){parts:List (Nat×SV)}{vals:List (Nat×Value)}{l:List SV}
   (hb:setP st t (zP t) parts=some l) (hl:vals.length=parts.length)
   (hall:∀ (j:Nat) (p:Nat×SV) (v:Nat×Value),parts[j]?=some p→vals[j]?=some v→p.1=v.1∧SvOk w (Ro R0 w0.heap.size A st.ob w) A p.2 v.2) :
   ∃ v',SvOk w (Ro R0 w0.heap.size A st.ob w) A (.ag l) v'∧∀ w'':World,(Instr.build T vals.toArray).run P w'' = .ok v' w'':=by
 obtain⟨i0,hi0,_,hz0,_⟩:=hf.info
 have hz:∀ w'':World,(zeroValue T).run P w'' = .ok (t.mk t.zc) w'':=fun w''=>by simp[zeroValue,typeInfo,hi0,hz0]
 cases t with
 | pr a b =>
   obtain⟨_,fs,fld,hu,h0,h1,h2,h3,h4⟩:=hf
   have hfit:Fit P (.pr a b) (.inr (fs,0,0)):=⟨fld,h0,h1,h2,h3,by simpa using h4⟩
   obtain⟨l0,hlr,hp⟩:=run_mapM_places hfit
   obtain⟨css,hzc,hpl⟩:=zP_ok (w:=w) (ro:=Ro R0 w0.heap.size A st.ob w) (A:=A) hfit
   have hmk:((Ty.pr a b).mk (Ty.pr a b).zc).cells=(Ty.pr a b).zc.toArray:=rfl
   obtain⟨cs',hfill,hok⟩:=setP_ok I (t := .pr a b) (place:=(l0.toArray[·]?)) (fun i o tf ho=>by
       have:=hp i o tf ho
       simpa using this) (cs:=(Ty.pr a b).zc.toArray) (css:=css) (by simpa using hzc) hpl hb hl hall
   refine⟨.agg cs',⟨cs',rfl,hok⟩,fun w'' => ?_⟩
   simp only[Instr.build,Sem.run_bind,hz w'',Result.andThen_ok,run_underlying hu,hmk]
   have hm:(fs.mapM (fun f:Field=>(do pure (f.offset,← sizeOf f.type):Sem (Nat×Nat)))).run P w'' = .ok l0.toArray w'':=by
     rw[Array.mapM_eq_mapM_toList]
     simp only[Sem.run_map]
     have:=hlr w''
     simp only[List.drop_zero] at this
     rw[this];rfl
   rw[hm]
   simp only[List.getElem?_toArray] at hfill
   simp[hfill]
 | _=>simp[isPr] at hpr
def nck(k:SV→Prop):SV→Prop
 | .pv t i q=>k (.pv t i q)
 | .ea t i n q=>k (.ea t i n q)
 | .ra t x=>k (.ra t x)
 | .ps i=>k (.ps i)
 | .pf t i o q=>k (.pf t i o q)
 | .ta t i p n q=>k (.ta t i p n q)
 | .d (.fn g t) (some y)=>k (.d (.fn g t) (some y))
 | _=>False
def capS:List SV→Option Dat
 | []=>some ⟨.un,()⟩
 | s::r=>match capS r with
   | some ⟨t,y⟩=>match s with
     | .ra t1 x=>some ⟨.pr (.ptr t1) t,(some x,y)⟩
     | .d t1 x=>if t1.agg=false then some ⟨.pr t1 t,(x,y)⟩ else none
     | _=>none
   | none=>none
theorem capS_ok{w:World}{ro:Nat→Prop}{A:Asg}:∀ {l:List SV} {vs:List Value} {d:Dat},capS l=some d→All2 (SvOk w ro A) l vs→d.t.ok w ro d.x vs
 | [],vs,d,h,hall=>by
   simp only[capS,Option.some.injEq] at h
   subst h
   exact List.eq_nil_of_length_eq_zero (by simpa using hall.1)
 | s::r,vs,d,h,hall=>by
   match vs,hall with
   | v::vs,hall =>
     have hs:=hall.2 0 s v rfl rfl
     have hall':All2 (SvOk w ro A) r vs:=⟨by simpa using hall.1,fun j sv u h1 h2=>hall.2 (j+1) sv u (by simpa using h1) (by simpa using h2)⟩
     simp only[capS] at h
     split at h
     · rename_i t y hr
       have ih:=capS_ok hr hall'
       split at h
       · rename_i t1 x
         injection h with h;subst h
         obtain⟨ad,us,e,h1,h2,h3,h4⟩:=hs
         exact⟨[v],vs,rfl,⟨ad,us,by rw[e],h1,h2,h3,h4⟩,ih⟩
       · rename_i t1 x _
         split at h
         · rename_i ha
           injection h with h;subst h
           have hs':t1.okV w ro x v:=hs
           unfold Ty.okV at hs'
           rw[if_neg (by simp[ha])] at hs'
           exact⟨[v],vs,rfl,hs',ih⟩
         · cases h
       · cases h
     · cases h
theorem nck_ok{w:World}{ro:Nat→Prop}{A:Asg}{s:SV}{v:Value}(hs:SvOk w ro A s v){k:SV→Prop}(h:nck k s){ρ:Operand→Value}{x:Operand}(hx:ρ x=v){dst:Option Nat}{type:TypeId}{pos:String}{after:Array Edge}{guard:Option (Nat×Bool)} :
   k s∧∀ {P:Program} (w'':World),(execOp ρ ⟨dst,.nilCheck x,type,pos,after,guard⟩).run P w'' = .ok (.value v) w'':=by
 have key:(∃ ad,v = .pointer (some ad))∨(∃ g caps,v = .func (.func g) #[] caps)→∀ {P:Program} (w'':World),(execOp ρ ⟨dst,.nilCheck x,type,pos,after,guard⟩).run P w'' = .ok (.value v) w'':=by
   rintro (⟨ad,rfl⟩ | ⟨g,caps,rfl⟩) P w''<;>simp[execOp,hx]
 unfold nck at h
 split at h
 · obtain⟨_,g,o,t',_,_,_,e⟩:=hs;exact⟨h,key (.inl ⟨_,e⟩)⟩
 · obtain⟨_,g,n,c,o,t',_,_,_,_,e⟩:=hs;exact⟨h,key (.inl ⟨_,e⟩)⟩
 · obtain⟨ad,us,e,_⟩:=hs;exact⟨h,key (.inl ⟨_,e⟩)⟩
 · obtain⟨_,e,g,e2⟩:=hs;exact⟨h,key (.inl ⟨_,e.trans e2⟩)⟩
 · obtain⟨_,g,o,t',_,_,_,e⟩:=hs;exact⟨h,key (.inl ⟨_,e⟩)⟩
 · obtain⟨_,g,n,c,o,t',_,_,_,_,e⟩:=hs;exact⟨h,key (.inl ⟨_,e⟩)⟩
 · obtain⟨caps,e,_⟩:=hs
   injection e with e
   exact⟨h,key (.inr ⟨_,_,e⟩)⟩
 · exact h.elim
def bldE(E:Env)(T:TypeId)(t:Ty)(parts:List (Nat×SV)):Option t.D :=
 match E.pb.contains T with
 | true=>none
 | false=>bld t t.z parts
theorem bldE_ok{E:Env}{T:TypeId}{t:Ty}{parts:List (Nat×SV)}{y:t.D}(h:bldE E T t parts=some y):bld t t.z parts=some y:=by
 unfold bldE at h
 split at h
 · cases h
 · exact h
def mnl(st:St):SV→Option Bool
 | .d .nm _=>some true
 | .os i=>match st.ob.getD i .dead with
   | .mp _ _ _=>some false
   | _=>none
 | _=>none
def mlk(E:Env)(st:St):Op→Option SV
 | .lookup T x y ok=>match E.mp T with
   | some (K,El)=>match E.ty K,E.ty El,st.ev E x,st.ev E y with
     | some (.ar n (.int .i64)),some v,.os i,.d (.ar m (.int .i64)) kk=>match st.ob.getD i .dead with
       | .mp n' v' es=>if v'=v∧n'=n∧m=n then some (match ok with
           | true => .tp [.d v' ((mpGet es kk).getD v'.z),.d .bool (mpGet es kk).isSome]
           | false => .d v' ((mpGet es kk).getD v'.z)) else none
       | _=>none
     | _,_,_,_=>none
   | none=>none
 | .binOp op T x (.const (.map none)) _=>match E.ty T with
   | some .nm=>match op,mnl st (st.ev E x) with
     | .eql,some b=>some (.bt b)
     | .neq,some b=>some (.bt (!b))
     | _,_=>none
   | _=>none
 | _=>none
theorem getD_mp{l:List Ob}{i n:Nat}{v:Ty}{es:List (List Int×v.D)}(h:l.getD i .dead = .mp n v es):l[i]?=some (.mp n v es):=by
 rw[List.getD_eq_getElem?_getD] at h
 cases hq:l[i]? with
 | none=>rw[hq] at h;cases h
 | some o=>rw[hq] at h;simp at h;rw[h]
theorem mnl_ok[Dn]{w0:World}{M:Ms}{R0:Nat→Prop}{A:Asg}{st:St}{a:Act}{w:World}(I:Inv w0 M R0 A st a w){s:SV}{v:Value}{b:Bool}(h:mnl st s=some b)(hs:SvOk w (Ro R0 w0.heap.size A st.ob w) A s v):∃ r,v = .map r∧r.isNone=b:=by
 unfold mnl at h
 split at h
 · injection h with h;subst h
   have hs':[v]=[Value.map none]:=hs
   injection hs' with hs'
   exact⟨none,hs',rfl⟩
 · split at h
   · rename_i ho
     injection h with h;subst h
     obtain⟨g,es',clock,e1,_⟩:=I.ob _ _ (getD_mp ho)
     exact⟨some g,hs.2.trans e1,rfl⟩
   · cases h
 · cases h
theorem mlk_ok[Dn]{P:Program}{E:Env}(hE:EnvOk P E){w0:World}{M:Ms}{R0:Nat→Prop}{A:Asg}{st:St}{a:Act}{w:World}(I:Inv w0 M R0 A st a w){dst:Option Nat}{op:Op}{type:TypeId}{pos:String}{after:Array Edge}{guard:Option (Nat×Bool)}{s:SV}(h:mlk E st op=some s) :
   ∃ v',SvOk w (Ro R0 w0.heap.size A st.ob w) A s v'∧∀ w'',Ext w w''→(execOp a.eval ⟨dst,op,type,pos,after,guard⟩).run P w'' = .ok (.value v') w'':=by
 unfold mlk at h
 split at h
 · rename_i T x y ok
   split at h
   · rename_i K El hm
     split at h
     · rename_i n v i m kk hK hEl hx hy
       split at h
       · rename_i n' v' es ho
         split at h
         · rename_i hc
           obtain⟨h1,h2,h3⟩:=hc
           subst h1;subst h2;subst h3
           injection h with h;subst h
           have hi:=getD_mp ho
           have hxv:=I.ev (E:=E) x
           rw[hx] at hxv
           have hyv:=I.ev (E:=E) y
           rw[hy] at hyv
           obtain⟨hk1,hk2⟩:=kvA_okV hyv
           obtain⟨g,es',clock,e1,hf,hh,hl,hok⟩:=I.ob i _ hi
           have hes:EsOk _ (fun y u=>Ty.okV w (Ro R0 w0.heap.size A st.ob w) _ y u) es es'.toList:=⟨by simpa using hl,fun j x e h1 h2=>hok j x e h1 (by simpa using h2)⟩
           have hxe:a.eval x = .map (some g):=hxv.2.trans e1
           obtain⟨u,hu,hr⟩:=look_run (hE.mp _ _ _ hm) (hE.ty _ _ hK) (hE.ty _ _ hEl) (g:=g) (clock:=clock) hes hk2 ok
           have hfin:∀ w'',Ext w w''→(execOp a.eval ⟨dst,.lookup T x y ok,type,pos,after,guard⟩).run P w'' = .ok (.value (if ok then .tuple #[u,.bool (mpGet es kk).isSome] else u)) w'':=fun w'' hw=>by
             have:=hr w'' (by rw[hw g (Array.getElem?_eq_some_iff.1 hh).1];exact hh)
             simp[execOp,hxe,hk1,this]
           cases ok with
           | true=>exact⟨_,⟨_,rfl,rfl,fun j s v h1 h2=>by
               match j,h1,h2 with
               | 0,h1,h2=>simp at h1 h2;subst h1;subst h2;exact hu
               | 1,h1,h2=>simp at h1 h2;subst h1;subst h2;exact okBool (A:=A)
               | (j+2),h1,_=>simp at h1⟩,hfin⟩
           | false=>exact⟨_,hu,hfin⟩
         · cases h
       · cases h
     · cases h
   · cases h
 · rename_i bo T x ty
   split at h
   · rename_i hT
     obtain⟨_,K,El,hu⟩:=hE.ty _ _ hT
     split at h
     · rename_i b hb
       injection h with h;subst h
       obtain⟨r,hr,hn⟩:=mnl_ok I hb (I.ev (E:=E) x)
       have heq:∀ w'',(Op.equal T (.map r) (.map none)).run P w'' = .ok b w'':=fun w''=>by rw[← hn];exact run_equalIn_map_nil w'' 9999 T K El r hu
       refine⟨.bool b,rfl,fun w'' _ => ?_⟩
       rw[show (execOp a.eval ⟨dst,Op.binOp .eql T x (.const (.map none)) ty,type,pos,after,guard⟩)=(do pure (.value (← (do eqGuard .eql T x (.const (.map none)) (a.eval x) (.map none);binOp .eql T (a.eval x) (.map none):Sem Value)))) from rfl,hr]
       simp[eqGuard,binOp,heq w'']
     · rename_i b hb
       injection h with h;subst h
       obtain⟨r,hr,hn⟩:=mnl_ok I hb (I.ev (E:=E) x)
       have heq:∀ w'',(Op.equal T (.map r) (.map none)).run P w'' = .ok b w'':=fun w''=>by rw[← hn];exact run_equalIn_map_nil w'' 9999 T K El r hu
       refine⟨.bool (!b),rfl,fun w'' _ => ?_⟩
       rw[show (execOp a.eval ⟨dst,Op.binOp .neq T x (.const (.map none)) ty,type,pos,after,guard⟩)=(do pure (.value (← (do eqGuard .neq T x (.const (.map none)) (a.eval x) (.map none);binOp .neq T (a.eval x) (.map none):Sem Value)))) from rfl,hr]
       simp[eqGuard,binOp,heq w'']
     · cases h
   · cases h
 · cases h
def qop0(E:Env)(st:St)(op:Op)(k:SV→Prop):Prop :=
 match op with
 | .move x=>k (st.ev E x)
 | .assign x=>k (st.ev E x)
 | .pick c a b=>match st.ev E c with
   | .bt true=>k (st.ev E a)
   | .bt false=>k (st.ev E b)
   | .d .bool b'=>(b'=true→k (st.ev E a))∧(b'=false→k (st.ev E b))
   | _=>False
 | .nilCheck x=>nck k (st.ev E x).np
 | .makeFunc (.func g) first caps=>if first.size=0 then match capS (caps.toList.map (st.ev E)) with
     | some ⟨t,y⟩=>k (.d (.fn g t) (some y))
     | none=>False else False
 | .load T x=>match E.ty T with
   | some t=>ld st t k (st.ev E x)
   | none=>False
 | .fieldAddr S x f=>match E.ty S with
   | some ts=>fa ts f k (st.ev E x).np
   | none=>False
 | .indexAddr T x i=>match E.ty T,asI (st.ev E i) with
   | some tT,some n=>ia st tT n k (st.ev E x).norm
   | _,_=>False
 | .index T x i=>match E.ty T,asI (st.ev E i) with
   | some tT,some n=>ix tT n k (st.ev E x)
   | _,_=>False
 | .unOp .not _ x=>match st.ev E x with
   | .bt b=>k (.bt (!b))
   | .d .bool b=>k (.d .bool (!b))
   | _=>False
 | .unOp .neg _ x=>match st.ev E x with
   | .d (.int kk) n=>inK kk (0 - n)∧k (.d (.int kk) (0 - n))
   | _=>False
 | .extract x i=>match st.ev E x with
   | .tp l=>match l[i]? with
     | some s=>k s
     | none=>False
   | _=>False
 | .makeInterface T x=>if T=E.errT then match st.ev E x with
     | .d (.int .i64) n=>n≠0∧k (.d (.err T) n)
     | _=>False else False
 | .convert S T x=>match E.ty S,E.ty T,st.ev E x with
   | some _,some (.int k'),.d (.int _) n=>inK k' n∧k (.d (.int k') n)
   | some (.sl (.int .u8)),some .str,.d (.sl (.int .u8)) xs=>k (.d .str (bstr xs))
   | _,_,_=>False
 | .slice T x lo hi none=>match E.ty T,asOI E st lo,asOI E st hi with
   | some tT,some l,some h=>cut tT l h k (st.ev E x).norm
   | _,_,_=>False
 | .slice T x lo (some hi) (some mx)=>match E.ty T,asOI E st lo,asI (st.ev E hi),asI (st.ev E mx) with
   | some tT,some l,some h,some m=>cut3 tT l h m k (st.ev E x).norm
   | _,_,_,_=>False
 | .build T parts=>match E.ty T with
   | some t=>if arOk t (parts.toList.map fun p=>(p.1,st.ev E p.2))=true then match bldE E T t (parts.toList.map fun p=>(p.1,st.ev E p.2)) with
       | some y=>k (.d t y)
       | none=>if isPr t=true then match setP st t (zP t) (parts.toList.map fun p=>(p.1,st.ev E p.2)) with
           | some l=>k (.ag l)
           | none=>False else False
     else False
   | none=>False
 | .binOp op T x y _=>bop E op T y (st.ev E x) (st.ev E y) k
 | .call c=>match c.callee,c.args.toList,c.argTypes.toList with
   | .builtin .len,[x],[T]=>match E.ty T with
     | some tT=>ln st tT k (st.ev E x).norm
     | none=>False
   | .builtin .max,x::r,_=>match st.ev E x with
     | .d (.int .i64) a=>match mxs true a (r.map (st.ev E)) with
       | some m=>k (.d (.int .i64) m)
       | none=>False
     | _=>False
   | .builtin .min,x::r,_=>match st.ev E x with
     | .d (.int .i64) a=>match mxs false a (r.map (st.ev E)) with
       | some m=>k (.d (.int .i64) m)
       | none=>False
     | _=>False
   | _,_,_=>False
 | _=>False
def qop(E:Env)(st:St)(op:Op)(k:SV→Prop):Prop :=
 match mlk E st op with
 | some s=>k s
 | none=>qop0 E st op k
theorem asI_ok{w:World}{ro:Nat→Prop}{A:Asg}{s:SV}{v:Value}{n:Int}(h:asI s=some n)(hs:SvOk w ro A s v):∃ k,v = .int k n∧inK k n:=by
 unfold asI at h
 split at h
 · rename_i k n'
   injection h with h;subst h
   have hs':Ty.ok w ro (.int k) n' [v]:=hs
   obtain⟨h1,h2⟩:=hs'
   injection h1 with h1
   exact⟨k,h1,h2⟩
 · cases h
theorem mxs_ok{P:Program}{w:World}{ro:Nat→Prop}{A:Asg}(mx:Bool):∀ {l:List SV} {vs:List Value} {a m:Int},mxs mx a l=some m→All2 (SvOk w ro A) l vs→inK .i64 a →
   inK .i64 m∧∀ w'':World,(vs.foldlM (mb mx) (Value.int .i64 a)).run P w'' = .ok (Value.int .i64 m) w'':=by
 intro l
 induction l with
 | nil =>
   intro vs a m h hall ha
   have:vs=[]:=List.eq_nil_of_length_eq_zero (by simpa using hall.1)
   subst this
   simp only[mxs,Option.some.injEq] at h
   subst h
   exact⟨ha,fun w''=>rfl⟩
 | cons s l ih =>
   intro vs a m h hall ha
   match vs,hall with
   | v::vs,hall =>
     have hs:=hall.2 0 s v rfl rfl
     have hall':All2 (SvOk w ro A) l vs:=⟨by simpa using hall.1,fun j sv u h1 h2=>hall.2 (j+1) sv u (by simpa using h1) (by simpa using h2)⟩
     simp only[mxs] at h
     split at h
     · rename_i b hb
       have hs':v = .int .i64 b∧inK .i64 b:=by
         unfold as64 at hb
         split at hb
         · rename_i n _
           injection hb with hb;subst hb
           have hs':Ty.ok w ro (.int .i64) n [v]:=hs
           obtain⟨h1,h2⟩:=hs'
           injection h1 with h1
           exact⟨h1,h2⟩
         · cases hb
       obtain⟨rfl,h2⟩:=hs'
       have hm:inK .i64 (mm mx a b):=by
         cases mx
         · show inK .i64 (min a b)
           rcases Int.le_total a b with hab | hab
           · rw[Int.min_eq_left hab];exact ha
           · rw[Int.min_eq_right hab];exact h2
         · show inK .i64 (max a b)
           rcases Int.le_total a b with hab | hab
           · rw[Int.max_eq_right hab];exact h2
           · rw[Int.max_eq_left hab];exact ha
       obtain⟨k1,k2⟩:=ih h hall' hm
       refine⟨k1,fun w'' => ?_⟩
       rw[List.foldlM_cons,Sem.run_bind]
       have hstep:((mb mx) (Value.int .i64 a) (Value.int .i64 b)).run P w'' = .ok (Value.int .i64 (mm mx a b)) w'':=by
         cases mx
         · show (Builtin.min2 (Value.int .i64 a) (Value.int .i64 b)).run P w'' = .ok (Value.int .i64 (min a b)) w''
           simp only[Builtin.min2,Sem.run_pure]
           congr 2;split<;>omega
         · show (Builtin.max2 (Value.int .i64 a) (Value.int .i64 b)).run P w'' = .ok (Value.int .i64 (max a b)) w''
           simp only[Builtin.max2,Sem.run_pure]
           congr 2;split<;>omega
       rw[hstep]
       exact k2 w''
     · cases h
theorem bstr_run{P:Program}{w:World}{g:Value→ByteArray→Sem (ForInStep ByteArray)}(hg:∀ n r,g (.int .u8 n) r=pure (ForInStep.yield (r.push (UInt8.ofNat n.toNat)))) :
   ∀ {xs:List Int} {css:List (List Value)},Oks (fun x u=>u.length=1∧Ty.ok w (fun _=>True) (.int .u8) x u) xs css→∀ (s:ByteArray) (w'':World),
   (forIn (m:=Sem) css.flatten s g).run P w'' = .ok ⟨(s.data.toList++bstr xs).toArray⟩ w'':=by
 intro xs
 induction xs with
 | nil =>
   intro css h s w''
   have:css=[]:=List.eq_nil_of_length_eq_zero (by simpa using h.1)
   subst this
   simp[bstr]
 | cons x xs ih =>
   intro css h s w''
   match css,h with
   | c::css,h =>
     have h0:=(h.2 0 x c rfl rfl).2
     obtain⟨h1,_⟩:=h0
     subst h1
     have h':Oks (fun x u=>u.length=1∧Ty.ok w (fun _=>True) (.int .u8) x u) xs css:=⟨by simpa using h.1,fun i y u hx hu=>h.2 (i+1) y u (by simpa using hx) (by simpa using hu)⟩
     simp only[List.flatten_cons,List.singleton_append,List.forIn_cons,Sem.run_bind,hg,Sem.run_pure,Result.andThen_ok]
     rw[ih h']
     simp[bstr,ByteArray.push]
theorem bop_ok[Dn]{P:Program}{E:Env}(hE:EnvOk P E)(hq:∀ T,E.eqT T=true→eqB P T=true){op:BinOp}{T:TypeId}{x y:Operand}{w:World}{ro:Nat→Prop}{A:Asg}{s1 s2:SV}{v1 v2:Value}
   (h1:SvOk w ro A s1 v1) (h2:SvOk w ro A s2 v2) (hv2:y = .const .nilIface→v2 = .nilIface) {k:SV→Prop} (h:bop E op T y s1 s2 k) :
   ∃ s' v',k s'∧SvOk w ro A s' v'∧∀ w'':World,(do eqGuard op T x y v1 v2;binOp op T v1 v2:Sem Value).run P w'' = .ok v' w'':=by
 unfold bop at h
 split at h
 · rename_i k1 a k2 b
   have h1':Ty.ok w ro (.int k1) a [v1]:=h1
   have h2':Ty.ok w ro (.int k2) b [v2]:=h2
   obtain⟨e1,i1⟩:=h1';obtain⟨e2,i2⟩:=h2'
   injection e1 with e1;injection e2 with e2;subst e1;subst e2
   split at h
   · exact shf_ok h w ro A
   · exact shf_ok h w ro A
   · split at h
     · rename_i hk;subst hk
       exact ari_ok i1 i2 h w ro A
     · exact h.elim
 · split at h
   · split at h
     · rename_i t ht
       exact cmp_ok (neg:=false) hq (hE.ty _ _ ht) (fun hn=>by
         unfold isNil at hn;split at hn
         · rfl
         · cases hn) h1 h2 hv2 h
     · exact h.elim
   · split at h
     · rename_i t ht
       exact cmp_ok (neg:=true) hq (hE.ty _ _ ht) (fun hn=>by
         unfold isNil at hn;split at hn
         · rfl
         · cases hn) h1 h2 hv2 h
     · exact h.elim
   · split at h
     · rename_i a b _
       obtain⟨hl,hk⟩:=h
       have h1':Ty.ok w ro .str a [v1]:=h1
       have h2':Ty.ok w ro .str b [v2]:=h2
       have e1:=h1'.1;have e2:=h2'.1
       injection e1 with e1;injection e2 with e2;subst e1;subst e2
       refine⟨_,_,hk,⟨rfl,by simpa using hl⟩,fun w'' => ?_⟩
       have hsz:¬ (((a.length+b.length:Nat):Int)>IntKind.i64.max):=by
         rw[IntKind.max_i64];simp only[maxLen] at hl;omega
       have happ:(⟨a.toArray⟩:ByteArray)++⟨b.toArray⟩=⟨(List.append a b).toArray⟩:=by
         apply ByteArray.ext
         simp
       simp only[eqGuard_add,binOp,Op.stringOp,bsize]
       rw[if_neg hsz,happ]
       rfl
     · exact h.elim
   · exact h.elim
theorem asOI_ok[Dn]{E:Env}{w0:World}{M:Ms}{R0:Nat→Prop}{A:Asg}{st:St}{a:Act}{w:World}(I:Inv w0 M R0 A st a w){x:Option Operand}{n:Option Int}(h:asOI E st x=some n) :
   ∃ k,x.map a.eval=n.map (Value.int k):=by
 unfold asOI at h
 split at h
 · injection h with h;subst h;exact⟨.i64,rfl⟩
 · rename_i x
   split at h
   · rename_i k n' he
     injection h with h;subst h
     have hx:=I.ev (E:=E) x
     rw[he] at hx
     obtain⟨h1,_⟩:=hx
     injection h1 with h1
     exact⟨k,by simp[h1]⟩
   · cases h
theorem okIntE{w:World}{ro:Nat→Prop}{A:Asg}{k:IntKind}{n:Int}{v:Value}(h:SvOk w ro A (.d (.int k) n) v):v = .int k n∧inK k n:=by
 obtain⟨h1,h2⟩:=h
 injection h1 with h1
 exact⟨h1,h2⟩
theorem qop_ok[Dn]{P:Program}{E:Env}(hE:EnvOk P E)(hq:∀ T,E.eqT T=true→eqB P T=true){w0:World}{M:Ms}{R0:Nat→Prop}{A:Asg}{st:St}{a:Act}{w:World}(I:Inv w0 M R0 A st a w)
   {o:Oper} {k:SV→Prop} (h:qop E st o.op k) :
   ∃ s' v',k s'∧SvOk w (Ro R0 w0.heap.size A st.ob w) A s' v'∧∀ w'',Ext w w''→(execOp a.eval o).run P w'' = .ok (.value v') w'':=by
 obtain⟨dst,op,type,pos,after,guard⟩:=o
 unfold qop at h
 split at h
 · rename_i s hs
   obtain⟨v',h1,h2⟩:=mlk_ok hE I hs (dst:=dst) (type:=type) (pos:=pos) (after:=after) (guard:=guard)
   exact⟨s,v',h,h1,h2⟩
 rename_i hnone
 clear hnone
 unfold qop0 at h
 split at h
 · rename_i x he;subst he
   exact⟨_,_,h,I.ev x,fun w'' _=>by simp[execOp]⟩
 · rename_i x he;subst he
   exact⟨_,_,h,I.ev x,fun w'' _=>by simp[execOp]⟩
 · rename_i c x y he;subst he
   have hc:=I.ev (E:=E) c
   split at h
   · rename_i hb;rw[hb] at hc
     have hc':a.eval c = .bool true:=hc
     exact⟨_,_,h,I.ev x,fun w'' _=>by simp[execOp,hc',asBool]⟩
   · rename_i hb;rw[hb] at hc
     have hc':a.eval c = .bool false:=hc
     exact⟨_,_,h,I.ev y,fun w'' _=>by simp[execOp,hc',asBool]⟩
   · rename_i b hb;rw[hb] at hc
     have hc0:[a.eval c]=[Value.bool b]:=hc
     injection hc0 with hc'
     cases b with
     | true=>exact⟨_,_,h.1 rfl,I.ev x,fun w'' _=>by simp[execOp,hc',asBool]⟩
     | false=>exact⟨_,_,h.2 rfl,I.ev y,fun w'' _=>by simp[execOp,hc',asBool]⟩
   · exact h.elim
 · rename_i x he;subst he
   obtain⟨hk,hr⟩:=nck_ok (SV.np_ok (I.ev (E:=E) x)) h (ρ:=a.eval) (x:=x) rfl (dst:=dst) (type:=type) (pos:=pos) (after:=after) (guard:=guard)
   exact⟨_,_,hk,SV.np_ok (I.ev x),fun w'' _=>hr w''⟩
 · rename_i g first caps he;subst he
   split at h
   · rename_i hf0
     split at h
     · rename_i t y hc
       have hok:=capS_ok (w:=w) (ro:=Ro R0 w0.heap.size A st.ob w) (A:=A) (vs:=caps.toList.map a.eval) hc ⟨by simp,fun j sv v h1 h2=>by
         rw[List.getElem?_map] at h1 h2
         obtain⟨q,hq1,rfl⟩:=Option.map_eq_some_iff.1 h1
         obtain⟨q',hq2,rfl⟩:=Option.map_eq_some_iff.1 h2
         rw[hq1] at hq2;injection hq2 with hq2;subst hq2
         exact I.ev _⟩
       have hfe:first=#[]:=Array.eq_empty_of_size_eq_zero hf0
       subst hfe
       exact⟨_,_,h,⟨caps.map a.eval,rfl,by simpa using hok⟩,fun w'' _=>by simp[execOp,Instr.makeFunc]⟩
     · exact h.elim
   · exact h.elim
 · rename_i T x he;subst he
   split at h
   · rename_i t ht
     obtain⟨s',v',hk,hs,hr⟩:=ld_ok I (hE.ty _ _ ht) (I.ev x) h
     exact⟨s',v',hk,hs,fun w'' hw=>by simp[execOp,hr w'' hw]⟩
   · exact h.elim
 · rename_i S x f he;subst he
   split at h
   · rename_i ts ht
     obtain⟨s',v',hk,hs,hr⟩:=fa_ok (hE.ty _ _ ht) (SV.np_ok (I.ev x)) h
     exact⟨s',v',hk,hs,fun w'' hw=>by simp[execOp,hr w'']⟩
   · exact h.elim
 · rename_i T x i he;subst he
   split at h
   · rename_i tT n ht hn
     obtain⟨kk,hv,_⟩:=asI_ok hn (I.ev i)
     obtain⟨s',v',hk,hs,hr⟩:=ia_ok (kk:=kk) I (hE.ty _ _ ht) (SV.norm_ok (I.ev x)) h
     exact⟨s',v',hk,hs,fun w'' hw=>by simp[execOp,hv,hr w'']⟩
   · exact h.elim
 · rename_i T x i he;subst he
   split at h
   · rename_i tT n ht hn
     obtain⟨kk,hv,_⟩:=asI_ok hn (I.ev i)
     obtain⟨s',v',hk,hs,hr⟩:=ix_ok (kk:=kk) (hE.ty _ _ ht) (I.ev x) h
     exact⟨s',v',hk,hs,fun w'' hw=>by simp[execOp,hv,hr w'']⟩
   · exact h.elim
 · rename_i T x he;subst he
   have hx:=I.ev (E:=E) x
   split at h
   · rename_i b hb;rw[hb] at hx
     have hx':a.eval x = .bool b:=hx
     exact⟨_,_,h,rfl,fun w'' _=>by simp[execOp,hx',Op.unary]⟩
   · rename_i b hb;rw[hb] at hx
     have hx0:[a.eval x]=[Value.bool b]:=hx
     injection hx0 with hx'
     exact⟨_,_,h,okBool,fun w'' _=>by simp[execOp,hx',Op.unary]⟩
   · exact h.elim
 · rename_i T x he;subst he
   have hx:=I.ev (E:=E) x
   split at h
   · rename_i kk n hb;rw[hb] at hx
     obtain⟨hx',hi⟩:=okIntE hx
     obtain⟨h1,h2⟩:=h
     exact⟨_,_,h2,okInt h1,fun w'' _=>by simp[execOp,hx',Op.unary,Op.intArith];rw[← Int.zero_sub,wrap_mono h1]⟩
   · exact h.elim
 · rename_i x i he;subst he
   have hx:=I.ev (E:=E) x
   split at h
   · rename_i l hb;rw[hb] at hx
     split at h
     · rename_i s hl
       obtain⟨vs,hv,hall⟩:=hx
       have hlt:i<vs.toList.length:=by rw[hall.1];exact (List.getElem?_eq_some_iff.1 hl).1
       have hs:=hall.2 i s _ hl (List.getElem?_eq_getElem hlt)
       have hlt':i<vs.size:=by simpa using hlt
       refine⟨_,vs[i],h,?_,fun w'' _=>by simp[execOp,hv,Instr.extract,hlt']⟩
       have hs':SvOk1 w (Ro R0 w0.heap.size A st.ob w) A s vs[i]:=by simpa using hs
       cases s with
       | tp l=>exact hs'.elim
       | d t x=>exact hs'
       | bt b=>exact hs'
       | os i=>exact hs'
       | pv t i q=>exact hs'
       | ea t i k q=>exact hs'
       | oc t i a=>exact hs'
       | ra t x=>exact hs'
       | fs t x=>exact hs'
       | ps i=>exact hs'
       | pf t i o q=>exact hs'
       | tv i p=>exact hs'
       | ta t i p k q=>exact hs'
       | nils=>exact hs'
       | nilp=>exact hs'
       | und=>exact hs'
       | any=>trivial
       | ag l=>exact hs'
     · exact h.elim
   · exact h.elim
 · rename_i T x he;subst he
   have hx:=I.ev (E:=E) x
   split at h
   · rename_i hT;subst hT
     split at h
     · rename_i n hb;rw[hb] at hx
       obtain⟨hx',hi⟩:=okIntE hx
       obtain⟨h1,h2⟩:=h
       exact⟨_,_,h2,.inr ⟨h1,rfl⟩,fun w'' _=>by simp[execOp,hx',Instr.makeInterface,run_underlying hE.err]⟩
     · exact h.elim
   · exact h.elim
 · rename_i S T x he;subst he
   have hx:=I.ev (E:=E) x
   split at h
   · rename_i tS k' kk n hS hT hb;rw[hb] at hx
     obtain⟨hx',hi⟩:=okIntE hx
     obtain⟨h1,h2⟩:=h
     have hu:∃ d,P.underlying S=some d:=by
       have hf:=hE.ty _ _ hS
       cases tS with
       | int k=>exact⟨_,hf.2⟩
       | bool=>exact⟨_,hf.2⟩
       | str=>exact⟨_,hf.2⟩
       | err E=>obtain⟨ms,hm⟩:=hf.2.1;exact⟨_,hm⟩
       | sl t=>obtain⟨e,he,_⟩:=hf.2;exact⟨_,he⟩
       | ar n t=>obtain⟨e,he,_⟩:=hf.2;exact⟨_,he⟩
       | un=>exact⟨_,hf.2⟩
       | pr a b=>obtain⟨fs,_,he,_⟩:=hf.2;exact⟨_,he⟩
       | fn g t=>obtain⟨d,he,_⟩:=hf.2;exact⟨_,he⟩
       | ptr t=>obtain⟨d,he,_⟩:=hf.2;exact⟨_,he⟩
       | raw=>obtain⟨d,he,_⟩:=hf.2;exact⟨_,he⟩
       | nm=>obtain⟨d,e,he⟩:=hf.2;exact⟨_,he⟩
     obtain⟨d,hd⟩:=hu
     have hd2:=(hE.ty _ _ hT).2
     exact⟨_,_,h2,okInt h1,fun w'' _=>by simp[execOp,hx',convert,run_underlying hd,run_underlying hd2,Conv.intToInt,wrap_mono h1]⟩
   · rename_i xs hS hT hb;rw[hb] at hx
     obtain⟨_,e,hu,he⟩:=hE.ty _ _ hS
     have hd2:=(hE.ty _ _ hT).2
     have hx':Ty.ok w _ (.sl (.int .u8)) xs [a.eval x]:=hx
     obtain⟨Ad,c,hv,hc1,hc2,hcells⟩:=hx'
     injection hv with hv
     refine⟨_,_,h,⟨rfl,?_⟩,fun w'' hw => ?_⟩
     · simp only[bstr,List.length_map];omega
     · have hue:=he.2
       rw[show (execOp a.eval ⟨dst,Op.convert S T x,type,pos,after,guard⟩)=(do pure (.value (← convert S T (a.eval x)))) from rfl,hv]
       rw[Sem.run_bind]
       have hconv:(convert S T (.slice Ad xs.length c)).run P w'' = .ok (.string ⟨(bstr xs).toArray⟩) w'':=by
         simp only[convert,Sem.run_bind,run_underlying hu,run_underlying hd2,Result.andThen_ok,run_underlying hue]
         by_cases hne:xs=[]
         · subst hne
           cases Ad with
           | none=>simp[Conv.bytesToString,bstr];rfl
           | some ad=>simp[Conv.bytesToString,bstr,loadCells,loadCellsFrom];rfl
         · obtain⟨ad,css,rfl,hsp,hro,hoks,hcell⟩:=hcells hne
           have hl:=run_loadCells_list (P:=P) w'' ad css.flatten (fun j u hj=>hw.cell (hcell j u hj))
           have hlen:css.flatten.length=xs.length:=by rw[hoks.flen];simp[Ty.size]
           rw[hlen] at hl
           simp only[Conv.bytesToString,Sem.run_bind,hl,Result.andThen_ok]
           have:(⟨((ByteArray.empty).data.toList++bstr xs).toArray⟩:ByteArray)=⟨(bstr xs).toArray⟩:=by
             show (⟨([]++bstr xs).toArray⟩:ByteArray)=_
             rw[List.nil_append]
           simp only[List.forIn_toArray]
           rw[bstr_run (w:=w) (xs:=xs) (css:=css) (fun n r=>rfl) (hoks.mono fun x u hu=>⟨hu.1,hu.2⟩),this]
           rfl
       rw[hconv];rfl
   · exact h.elim
 · rename_i T x lo hi he;subst he
   split at h
   · rename_i tT l hh ht hlo hhi
     obtain⟨kl,e1⟩:=asOI_ok I hlo
     obtain⟨kh,e2⟩:=asOI_ok I hhi
     obtain⟨s',v',hk,hs,hr⟩:=cut_ok (kl:=kl) (kh:=kh) (hE.ty _ _ ht) (SV.norm_ok (I.ev x)) h
     exact⟨s',v',hk,hs,fun w'' hw=>by simp[execOp,e1,e2,hr w'']⟩
   · exact h.elim
 · rename_i T x lo hi mx he;subst he
   split at h
   · rename_i tT l hh m ht hlo hhi hmx
     obtain⟨kl,e1⟩:=asOI_ok I hlo
     obtain⟨kh,e2,_⟩:=asI_ok hhi (I.ev hi)
     obtain⟨km,e3,_⟩:=asI_ok hmx (I.ev mx)
     obtain⟨s',v',hk,hs,hr⟩:=cut3_ok (kl:=kl) (kh:=kh) (km:=km) (hE.ty _ _ ht) (SV.norm_ok (I.ev x)) h
     exact⟨s',v',hk,hs,fun w'' hw=>by simp[execOp,e1,e2,e3,hr w'']⟩
   · exact h.elim
 · rename_i T parts he;subst he
   split at h
   · rename_i t ht
     split at h
     · rename_i har
       split at h
       · rename_i y hb
         obtain⟨v',hv,hr⟩:=build_ok (w:=w) (ro:=Ro R0 w0.heap.size A st.ob w) (A:=A) (vals:=parts.toList.map fun p=>(p.1,a.eval p.2)) (hE.ty _ _ ht) (bldE_ok hb) har (by simp) (fun j p v h1 h2=>by
           rw[List.getElem?_map] at h1 h2
           obtain⟨q,hq1,rfl⟩:=Option.map_eq_some_iff.1 h1
           obtain⟨q',hq2,rfl⟩:=Option.map_eq_some_iff.1 h2
           rw[hq1] at hq2;injection hq2 with hq2;subst hq2
           exact⟨rfl,I.ev _⟩)
         refine⟨_,v',h,hv,fun w'' hw => ?_⟩
         have hr':=hr w''
         rw[show (execOp a.eval ⟨dst,Op.build T parts,type,pos,after,guard⟩)=(do pure (.value (← Instr.build T (parts.map fun (i,x)=>(i,a.eval x))))) from rfl]
         have hpa:(parts.map fun (x:Nat×Operand)=>(x.1,a.eval x.2))=(parts.toList.map fun p=>(p.1,a.eval p.2)).toArray:=by
           apply Array.toList_inj.1;simp
         rw[hpa]
         simp[hr']
       · split at h
         · rename_i hpr
           split at h
           · rename_i l hb
             obtain⟨v',hv,hr⟩:=build_okP (vals:=parts.toList.map fun p=>(p.1,a.eval p.2)) (hE.ty _ _ ht) hpr I hb (by simp) (fun j p v h1 h2=>by
               rw[List.getElem?_map] at h1 h2
               obtain⟨q,hq1,rfl⟩:=Option.map_eq_some_iff.1 h1
               obtain⟨q',hq2,rfl⟩:=Option.map_eq_some_iff.1 h2
               rw[hq1] at hq2;injection hq2 with hq2;subst hq2
               exact⟨rfl,I.ev _⟩)
             refine⟨_,v',h,hv,fun w'' hw => ?_⟩
             have hr':=hr w''
             rw[show (execOp a.eval ⟨dst,Op.build T parts,type,pos,after,guard⟩)=(do pure (.value (← Instr.build T (parts.map fun (i,x)=>(i,a.eval x))))) from rfl]
             have hpa:(parts.map fun (x:Nat×Operand)=>(x.1,a.eval x.2))=(parts.toList.map fun p=>(p.1,a.eval p.2)).toArray:=by
               apply Array.toList_inj.1;simp
             rw[hpa]
             simp[hr']
           · exact h.elim
         · exact h.elim
     · exact h.elim
   · exact h.elim
 · rename_i bo T x y ty he;subst he
   obtain⟨s',v',hk,hs,hr⟩:=bop_ok (x:=x) (y:=y) hE hq (I.ev x) (I.ev y) (fun h=>by rw[h];rfl) h
   refine⟨s',v',hk,hs,fun w'' hw => ?_⟩
   rw[show (execOp a.eval ⟨dst,Op.binOp bo T x y ty,type,pos,after,guard⟩)=(do pure (.value (← (do eqGuard bo T x y (a.eval x) (a.eval y);binOp bo T (a.eval x) (a.eval y):Sem Value)))) from rfl]
   rw[Sem.run_bind,hr w'']
   rfl
 · rename_i c he;subst he
   obtain⟨callee,args,argTypes⟩:=c
   simp only at h
   split at h
   · rename_i x T ha hT
     split at h
     · rename_i tT ht
       have ha':args=#[x]:=by apply Array.toList_inj.1;simpa using ha
       have hT':argTypes=#[T]:=by apply Array.toList_inj.1;simpa using hT
       subst ha';subst hT'
       obtain⟨s',v',hk,hs,hr⟩:=ln_ok (ty:=type) I (hE.ty _ _ ht) (SV.norm_ok (I.ev x)) h
       exact⟨s',v',hk,hs,fun w'' hw=>by simp[execOp,resolve,invoke,builtin,hr w'']⟩
     · exact h.elim
   · rename_i x r ha
     split at h
     · rename_i n hx
       have hxv:=I.ev (E:=E) x
       rw[hx] at hxv
       obtain⟨hxv,hi⟩:=okIntE hxv
       split at h
       · rename_i m hm
         obtain⟨k1,k2⟩:=mxs_ok (P:=P) (w:=w) (ro:=Ro R0 w0.heap.size A st.ob w) (A:=A) true (vs:=r.map a.eval) hm ⟨by simp,fun j sv v h1 h2=>by
           rw[List.getElem?_map] at h1 h2
           obtain⟨q,hq1,rfl⟩:=Option.map_eq_some_iff.1 h1
           obtain⟨q',hq2,rfl⟩:=Option.map_eq_some_iff.1 h2
           rw[hq1] at hq2;injection hq2 with hq2;subst hq2
           exact I.ev _⟩ hi
         refine⟨_,_,h,okInt k1,fun w'' hw => ?_⟩
         have ha':args=(x::r).toArray:=by apply Array.toList_inj.1;simpa using ha
         subst ha'
         have:=k2 w''
         simp only[mb] at this
         simp[execOp,resolve,invoke,builtin,Builtin.max_,hxv,this]
       · exact h.elim
     · exact h.elim
   · rename_i x r ha
     split at h
     · rename_i n hx
       have hxv:=I.ev (E:=E) x
       rw[hx] at hxv
       obtain⟨hxv,hi⟩:=okIntE hxv
       split at h
       · rename_i m hm
         obtain⟨k1,k2⟩:=mxs_ok (P:=P) (w:=w) (ro:=Ro R0 w0.heap.size A st.ob w) (A:=A) false (vs:=r.map a.eval) hm ⟨by simp,fun j sv v h1 h2=>by
           rw[List.getElem?_map] at h1 h2
           obtain⟨q,hq1,rfl⟩:=Option.map_eq_some_iff.1 h1
           obtain⟨q',hq2,rfl⟩:=Option.map_eq_some_iff.1 h2
           rw[hq1] at hq2;injection hq2 with hq2;subst hq2
           exact I.ev _⟩ hi
         refine⟨_,_,h,okInt k1,fun w'' hw => ?_⟩
         have ha':args=(x::r).toArray:=by apply Array.toList_inj.1;simpa using ha
         subst ha'
         have:=k2 w''
         simp only[mb] at this
         simp[execOp,resolve,invoke,builtin,Builtin.min_,hxv,this]
       · exact h.elim
     · exact h.elim
   · exact h.elim
 · exact h.elim
end Go.Vc
