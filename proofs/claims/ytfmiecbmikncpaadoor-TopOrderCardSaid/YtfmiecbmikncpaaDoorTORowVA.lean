import Derived.WalkKit
import Derived.WalkSpells
import Derived.WalkLawsBesides
namespace Go.Vc
open Go.RowKit
inductive Ty where
 | int (k:IntKind)
 | bool
 | str
 | err (T:TypeId)
 | sl (t:Ty)
 | pr (a b:Ty)
 | un
 | ar (n:Nat) (t:Ty)
 | fn (g:Nat) (t:Ty)
 | ptr (t:Ty)
 | raw
 | nm
 deriving DecidableEq
@[reducible] def Ty.D:Ty→Type
 | .int _=>Int
 | .bool=>Bool
 | .str=>List UInt8
 | .err _=>Int
 | .sl t=>List t.D
 | .pr a b=>a.D×b.D
 | .un=>Unit
 | .ar _ t=>List t.D
 | .fn _ t=>Option t.D
 | .ptr t=>Option t.D
 | .raw=>Value
 | .nm=>Unit
def Ty.size:Ty→Nat
 | .pr a b=>a.size+b.size
 | .un=>0
 | .ar n t=>n*t.size
 | _=>1
def Ty.agg:Ty→Bool
 | .pr _ _ | .un | .ar _ _=>true
 | _=>false
def Ty.z:(t:Ty)→t.D
 | .int _=>(0:Int)
 | .bool=>false
 | .str=>([]:List UInt8)
 | .err _=>(0:Int)
 | .sl t=>([]:List t.D)
 | .pr a b=>(a.z,b.z)
 | .un=>()
 | .ar n t=>List.replicate n t.z
 | .fn _ t=>(none:Option t.D)
 | .ptr t=>(none:Option t.D)
 | .raw=>(Value.nilIface:Value)
 | .nm=>()
def Ty.zc:(t:Ty)→List Value
 | .int k=>[.int k 0]
 | .bool=>[.bool false]
 | .str=>[.string ⟨#[]⟩]
 | .err _=>[.nilIface]
 | .sl _=>[.slice none 0 0]
 | .pr a b=>a.zc++b.zc
 | .un=>[]
 | .ar n t=>(List.replicate n t.zc).flatten
 | .fn _ _=>[.nilFunc]
 | .ptr _=>[.pointer none]
 | .raw=>[.nilIface]
 | .nm=>[.map none]
def Ty.flat:Ty→Bool
 | .sl _=>false
 | .fn _ _=>false
 | .ptr _=>false
 | .pr a b=>a.flat&&b.flat
 | .ar _ t=>t.flat
 | _=>true
def inK(k:IntKind)(n:Int):Prop:=k.wrap n=n
def Oks{α:Type}(R:α→List Value→Prop)(xs:List α)(css:List (List Value)):Prop :=
 css.length=xs.length∧∀ (i:Nat) (x:α) (u:List Value),xs[i]?=some x→css[i]?=some u→R x u
def Ty.ok(w:World)(ro:Nat→Prop):(t:Ty)→t.D→List Value→Prop
 | .int k,n,cs=>cs=[.int k n]∧inK k n
 | .bool,b,cs=>cs=[.bool b]
 | .str,s,cs=>cs=[.string ⟨s.toArray⟩]∧s.length≤maxLen
 | .err T,n,cs=>(n=(0:Int)∧cs=[.nilIface])∨(n≠(0:Int)∧cs=[.iface T (.int .i64 n)])
 | .sl t,xs,cs=>∃ A c,cs=[.slice A xs.length c]∧xs.length≤c∧c≤maxLen ∧
     (xs≠[]→∃ ad css,A=some ad∧ad.spot=none∧ro ad.block∧Oks (fun x u=>u.length=t.size∧Ty.ok w ro t x u) xs css ∧
       ∀ j u,css.flatten[j]?=some u→w.cell? (ad.add j)=some u)
 | .pr a b,x,cs=>∃ c1 c2,cs=c1++c2∧Ty.ok w ro a x.1 c1∧Ty.ok w ro b x.2 c2
 | .un,_,cs=>cs=[]
 | .ar n t,xs,cs=>xs.length=n∧∃ css,cs=css.flatten∧Oks (fun x u=>u.length=t.size∧Ty.ok w ro t x u) xs css
 | .fn g t,x,cs=>match x with
   | none=>cs=[.nilFunc]
   | some y=>∃ caps:Array Value,cs=[.func (.func g) #[] caps]∧Ty.ok w ro t y caps.toList
 | .ptr t,x,cs=>match x with
   | none=>cs=[.pointer none]
   | some y=>∃ ad us,cs=[.pointer (some ad)]∧ad.spot=none∧ro ad.block∧(∀ j u,us[j]?=some u→w.cell? (ad.add j)=some u)∧Ty.ok w ro t y us
 | .raw,x,cs=>cs=[x]∧x.oneCell'=true
 | .nm,_,cs=>cs=[.map none]
theorem Oks.mono{α:Type}{R R':α→List Value→Prop}{xs:List α}{css:List (List Value)}(h:Oks R xs css)(hr:∀ x u,R x u→R' x u):Oks R' xs css :=
 ⟨h.1,fun i x u hx hu=>hr x u (h.2 i x u hx hu)⟩
theorem flatten_len{css:List (List Value)}{n:Nat}(h:∀ u∈css,u.length=n):css.flatten.length=css.length*n:=by
 induction css with
 | nil=>simp
 | cons c r ih =>
   simp only[List.flatten_cons,List.length_append,List.length_cons]
   rw[ih (fun u hu=>h u (List.mem_cons_of_mem _ hu)),h c (List.mem_cons_self ..),Nat.add_mul,Nat.one_mul];omega
theorem Oks.flen{α:Type}{R:α→List Value→Prop}{n:Nat}{xs:List α}{css:List (List Value)}(h:Oks (fun x u=>u.length=n∧R x u) xs css):css.flatten.length=xs.length*n:=by
 rw[← h.1]
 refine flatten_len fun u hu => ?_
 obtain⟨i,hi⟩:=List.getElem?_of_mem hu
 have hl:i<xs.length:=by rw[← h.1];exact (List.getElem?_eq_some_iff.1 hi).1
 exact (h.2 i _ u (List.getElem?_eq_getElem hl) hi).1
theorem ok_len{w:World}{ro:Nat→Prop}:∀ {t:Ty} {x:t.D} {cs:List Value},t.ok w ro x cs→cs.length=t.size
 | .int _,_,_,h=>by rw[h.1];rfl
 | .bool,_,_,h=>by have h':_=_:=h;rw[h'];rfl
 | .str,_,_,h=>by rw[h.1];rfl
 | .err _,_,_,h=>by rcases h with ⟨_,h⟩ | ⟨_,h⟩<;>rw[h]<;>rfl
 | .sl _,_,_,h=>by obtain⟨A,c,h,_⟩:=h;rw[h];rfl
 | .pr a b,x,_,h=>by
   obtain⟨c1,c2,h,h1,h2⟩:=h
   rw[h,List.length_append,ok_len h1,ok_len h2];rfl
 | .un,_,_,h=>by have h':_=_:=h;rw[h'];rfl
 | .ar n t,xs,_,h=>by
   obtain⟨hn,css,h,h1⟩:=h
   rw[h,h1.flen,hn];rfl
 | .fn g t,x,_,h=>by
   cases x with
   | none=>have h':_=_:=h;rw[h'];rfl
   | some y=>obtain⟨caps,h,_⟩:=h;rw[h];rfl
 | .ptr t,x,_,h=>by
   cases x with
   | none=>have h':_=_:=h;rw[h'];rfl
   | some y=>obtain⟨ad,us,h,_⟩:=h;rw[h];rfl
 | .raw,x,_,h=>by rw[h.1];rfl
 | .nm,_,_,h=>by have h':_=_:=h;rw[h'];rfl
theorem ok_mono{w w':World}{ro ro':Nat→Prop}(hr:∀ b,ro b→ro' b)(hw:∀ b,ro b→w'.heap[b]?=w.heap[b]?) :
   ∀ {t:Ty} {x:t.D} {cs:List Value},t.ok w ro x cs→t.ok w' ro' x cs
 | .int _,_,_,h=>h
 | .bool,_,_,h=>h
 | .str,_,_,h=>h
 | .err _,_,_,h=>h
 | .sl t,xs,_,h=>by
   obtain⟨A,c,h,h1,h2,h3⟩:=h
   refine⟨A,c,h,h1,h2,fun hx => ?_⟩
   obtain⟨ad,css,e,hs,hro,ho,hc⟩:=h3 hx
   refine⟨ad,css,e,hs,hr _ hro,ho.mono fun x u hu=>⟨hu.1,ok_mono hr hw hu.2⟩,fun j u hj => ?_⟩
   rw[← hc j u hj]
   exact World.cell?_of_block (by
     have:(ad.add j).block=ad.block:=by unfold Addr.add;split<;>rfl
     rw[this];exact hw _ hro)
 | .pr a b,x,_,h=>by
   obtain⟨c1,c2,h,h1,h2⟩:=h
   exact⟨c1,c2,h,ok_mono hr hw h1,ok_mono hr hw h2⟩
 | .un,_,_,h=>h
 | .ar n t,xs,_,h=>by
   obtain⟨hn,css,h,h1⟩:=h
   exact⟨hn,css,h,h1.mono fun x u hu=>⟨hu.1,ok_mono hr hw hu.2⟩⟩
 | .fn g t,x,_,h=>by
   cases x with
   | none=>exact h
   | some y=>obtain⟨caps,h,h1⟩:=h;exact⟨caps,h,ok_mono hr hw h1⟩
 | .ptr t,x,_,h=>by
   cases x with
   | none=>exact h
   | some y =>
     obtain⟨ad,us,h,hs,hro,hc,h1⟩:=h
     refine⟨ad,us,h,hs,hr _ hro,fun j u hj => ?_,ok_mono hr hw h1⟩
     rw[← hc j u hj]
     exact World.cell?_of_block (by
       have:(ad.add j).block=ad.block:=by unfold Addr.add;split<;>rfl
       rw[this];exact hw _ hro)
 | .raw,_,_,h=>h
 | .nm,_,_,h=>h
theorem ok_flat{w w':World}{ro ro':Nat→Prop}:∀ {t:Ty} (_:t.flat=true) {x:t.D} {cs:List Value},t.ok w ro x cs→t.ok w' ro' x cs
 | .int _,_,_,_,h=>h
 | .bool,_,_,_,h=>h
 | .str,_,_,_,h=>h
 | .err _,_,_,_,h=>h
 | .sl t,hf,xs,_,h=>by simp[Ty.flat] at hf
 | .pr a b,hf,x,_,h=>by
   obtain⟨c1,c2,h,h1,h2⟩:=h
   simp only[Ty.flat,Bool.and_eq_true] at hf
   exact⟨c1,c2,h,ok_flat hf.1 h1,ok_flat hf.2 h2⟩
 | .un,_,_,_,h=>h
 | .ar n t,hf,xs,_,h=>by
   obtain⟨hn,css,h,h1⟩:=h
   exact⟨hn,css,h,h1.mono fun x u hu=>⟨hu.1,ok_flat (t:=t) hf hu.2⟩⟩
 | .fn g t,hf,_,_,_=>by simp[Ty.flat] at hf
 | .ptr t,hf,_,_,_=>by simp[Ty.flat] at hf
 | .raw,_,_,_,h=>h
 | .nm,_,_,_,h=>h
theorem ok_grow{w w':World}{ro ro':Nat→Prop}(hr:∀ b,ro b→ro' b)(hw:∀ a u,ro a.block→w.cell? a=some u→w'.cell? a=some u) :
   ∀ {t:Ty} {x:t.D} {cs:List Value},t.ok w ro x cs→t.ok w' ro' x cs
 | .int _,_,_,h=>h
 | .bool,_,_,h=>h
 | .str,_,_,h=>h
 | .err _,_,_,h=>h
 | .sl t,xs,_,h=>by
   obtain⟨A,c,h,h1,h2,h3⟩:=h
   refine⟨A,c,h,h1,h2,fun hx => ?_⟩
   obtain⟨ad,css,e,hs,hro,ho,hc⟩:=h3 hx
   refine⟨ad,css,e,hs,hr _ hro,ho.mono fun x u hu=>⟨hu.1,ok_grow hr hw hu.2⟩,fun j u hj=>hw _ _ ?_ (hc j u hj)⟩
   have:(ad.add j).block=ad.block:=by unfold Addr.add;split<;>rfl
   rw[this];exact hro
 | .pr a b,x,_,h=>by
   obtain⟨c1,c2,h,h1,h2⟩:=h
   exact⟨c1,c2,h,ok_grow hr hw h1,ok_grow hr hw h2⟩
 | .un,_,_,h=>h
 | .ar n t,xs,_,h=>by
   obtain⟨hn,css,h,h1⟩:=h
   exact⟨hn,css,h,h1.mono fun x u hu=>⟨hu.1,ok_grow hr hw hu.2⟩⟩
 | .fn g t,x,_,h=>by
   cases x with
   | none=>exact h
   | some y=>obtain⟨caps,h,h1⟩:=h;exact⟨caps,h,ok_grow hr hw h1⟩
 | .ptr t,x,_,h=>by
   cases x with
   | none=>exact h
   | some y =>
     obtain⟨ad,us,h,hs,hro,hc,h1⟩:=h
     refine⟨ad,us,h,hs,hr _ hro,fun j u hj=>hw _ _ ?_ (hc j u hj),ok_grow hr hw h1⟩
     have:(ad.add j).block=ad.block:=by unfold Addr.add;split<;>rfl
     rw[this];exact hro
 | .raw,_,_,h=>h
 | .nm,_,_,h=>h
theorem ok_one{w:World}{ro:Nat→Prop}:∀ {t:Ty} {x:t.D} {cs:List Value},t.ok w ro x cs→∀ u∈cs,u.oneCell'=true
 | .int _,_,_,h=>by rw[h.1];intro u hu;simp at hu;subst hu;rfl
 | .bool,_,_,h=>by have h':_=_:=h;rw[h'];intro u hu;simp at hu;subst hu;rfl
 | .str,_,_,h=>by rw[h.1];intro u hu;simp at hu;subst hu;rfl
 | .err _,_,_,h=>by rcases h with ⟨_,h⟩ | ⟨_,h⟩<;>rw[h]<;>intro u hu<;>simp at hu<;>subst hu<;>rfl
 | .sl _,_,_,h=>by obtain⟨A,c,h,_⟩:=h;rw[h];intro u hu;simp at hu;subst hu;rfl
 | .pr a b,x,_,h=>by
   obtain⟨c1,c2,h,h1,h2⟩:=h
   rw[h];intro u hu
   rcases List.mem_append.1 hu with hu | hu
   · exact ok_one h1 u hu
   · exact ok_one h2 u hu
 | .un,_,_,h=>by have h':_=_:=h;rw[h'];intro u hu;cases hu
 | .ar n t,xs,_,h=>by
   obtain⟨hn,css,h,h1⟩:=h
   rw[h];intro u hu
   obtain⟨l,hl,hul⟩:=List.mem_flatten.1 hu
   obtain⟨i,hi⟩:=List.getElem?_of_mem hl
   have hlt:i<xs.length:=by rw[← h1.1];exact (List.getElem?_eq_some_iff.1 hi).1
   exact ok_one (h1.2 i _ l (List.getElem?_eq_getElem hlt) hi).2 u hul
 | .fn g t,x,_,h=>by
   cases x with
   | none=>have h':_=_:=h;rw[h'];intro u hu;simp at hu;subst hu;rfl
   | some y=>obtain⟨caps,h,_⟩:=h;rw[h];intro u hu;simp at hu;subst hu;rfl
 | .ptr t,x,_,h=>by
   cases x with
   | none=>have h':_=_:=h;rw[h'];intro u hu;simp at hu;subst hu;rfl
   | some y=>obtain⟨ad,us,h,_⟩:=h;rw[h];intro u hu;simp at hu;subst hu;rfl
 | .raw,x,_,h=>by rw[h.1];intro u hu;simp at hu;subst hu;exact h.2
 | .nm,_,_,h=>by have h':_=_:=h;rw[h'];intro u hu;simp at hu;subst hu;rfl
theorem wrap_zero(k:IntKind):k.wrap 0=0:=by cases k<;>decide
theorem ok_zero{w:World}{ro:Nat→Prop}:∀ (t:Ty),t.ok w ro t.z t.zc
 | .int k=>⟨rfl,wrap_zero k⟩
 | .bool=>rfl
 | .str=>⟨rfl,Nat.zero_le _⟩
 | .err _ => .inl ⟨rfl,rfl⟩
 | .sl _=>⟨none,0,rfl,Nat.zero_le _,Nat.zero_le _,fun h=>absurd rfl h⟩
 | .pr a b=>⟨a.zc,b.zc,rfl,ok_zero a,ok_zero b⟩
 | .un=>rfl
 | .ar n t=>by
   refine⟨by simp[Ty.z],List.replicate n t.zc,rfl,by simp[Ty.z],fun i x u hx hu => ?_⟩
   have h1:t.z=x:=by
     have:=List.getElem?_eq_some_iff.1 hx
     obtain⟨h,e⟩:=this
     simpa [Ty.z] using e
   have h2:t.zc=u:=by
     have:=List.getElem?_eq_some_iff.1 hu
     obtain⟨h,e⟩:=this
     simpa using e
   subst h1;subst h2
   exact⟨ok_len (w:=w) (ro:=ro) (ok_zero t),ok_zero t⟩
 | .fn g t=>rfl
 | .ptr t=>rfl
 | .raw=>⟨rfl,rfl⟩
 | .nm=>rfl
def Ty.okV(w:World)(ro:Nat→Prop)(t:Ty)(x:t.D)(v:Value):Prop :=
 if t.agg then ∃ cs,v = .agg cs∧t.ok w ro x cs.toList else t.ok w ro x [v]
def Ty.mk(t:Ty)(cs:List Value):Value:=if t.agg then .agg cs.toArray else cs.headD undef
theorem size_one{t:Ty}(h:t.agg=false):t.size=1:=by cases t<;>first | rfl | simp[Ty.agg] at h
theorem okV_cells{w:World}{ro:Nat→Prop}{t:Ty}{x:t.D}{v:Value}(h:t.okV w ro x v):t.ok w ro x v.cells.toList:=by
 unfold Ty.okV at h
 split at h
 · obtain⟨cs,rfl,h⟩:=h;exact h
 · have:v.oneCell'=true:=ok_one h v (by simp)
   cases v<;>first | exact h | simp[Value.oneCell'] at this
theorem okV_mk{w:World}{ro:Nat→Prop}{t:Ty}{x:t.D}{cs:List Value}(h:t.ok w ro x cs):t.okV w ro x (t.mk cs):=by
 unfold Ty.okV Ty.mk
 split
 · exact⟨cs.toArray,rfl,by simpa using h⟩
 · rename_i ha
   have hl:=ok_len h
   rw[size_one (by simpa using ha)] at hl
   match cs,hl with
   | [c],_=>exact h
theorem okV_eq_mk{w:World}{ro:Nat→Prop}{t:Ty}{x:t.D}{v:Value}(h:t.okV w ro x v):v=t.mk v.cells.toList:=by
 have h':=okV_cells h
 unfold Ty.okV at h
 unfold Ty.mk
 split
 · rename_i ha
   rw[if_pos ha] at h
   obtain⟨cs,rfl,_⟩:=h
   simp[Value.cells]
 · rename_i ha
   rw[if_neg ha] at h
   have:v.oneCell'=true:=ok_one h v (by simp)
   cases v<;>first | rfl | simp[Value.oneCell'] at this
theorem okV_mono{w w':World}{ro ro':Nat→Prop}(hr:∀ b,ro b→ro' b)(hw:∀ b,ro b→w'.heap[b]?=w.heap[b]?){t:Ty}{x:t.D}{v:Value}(h:t.okV w ro x v):t.okV w' ro' x v:=by
 rw[okV_eq_mk h]
 exact okV_mk (ok_mono hr hw (okV_cells h))
theorem okV_grow{w w':World}{ro ro':Nat→Prop}(hr:∀ b,ro b→ro' b)(hw:∀ a u,ro a.block→w.cell? a=some u→w'.cell? a=some u){t:Ty}{x:t.D}{v:Value}(h:t.okV w ro x v):t.okV w' ro' x v:=by
 rw[okV_eq_mk h]
 exact okV_mk (ok_grow hr hw (okV_cells h))
theorem okV_flat{w w':World}{ro ro':Nat→Prop}{t:Ty}(hf:t.flat=true){x:t.D}{v:Value}(h:t.okV w ro x v):t.okV w' ro' x v:=by
 rw[okV_eq_mk h]
 exact okV_mk (ok_flat hf (okV_cells h))
theorem mk_cells{t:Ty}{cs:List Value}(hl:cs.length=t.size)(h1:∀ u∈cs,u.oneCell'=true):(t.mk cs).cells.toList=cs:=by
 unfold Ty.mk
 split
 · rfl
 · rename_i ha
   rw[size_one (by simpa using ha)] at hl
   match cs,hl with
   | [c],_ =>
     have:=h1 c (by simp)
     show (Value.cells c).toList=[c]
     cases c<;>first | rfl | simp[Value.oneCell'] at this
structure Dat where
 t:Ty
 x:t.D
def sub:(t:Ty)→t.D→List Nat→Option Dat
 | .pr a b,x,n::q=>match n with
   | 0=>sub a x.1 q
   | f+1=>sub b x.2 (f::q)
 | .ar _ t,xs,k::q=>sub t (xs.getD k t.z) q
 | t,x,[]=>some ⟨t,x⟩
 | _,_,_=>none
def off:Ty→List Nat→Option (Nat×Ty)
 | .pr a b,n::q=>match n with
   | 0=>off a q
   | f+1=>match off b (f::q) with
     | some r=>some (a.size+r.1,r.2)
     | none=>none
 | .ar _ t,k::q=>match off t q with
   | some r=>some (k*t.size+r.1,r.2)
   | none=>none
 | t,[]=>some (0,t)
 | _,_=>none
def vq:Ty→List Nat→Prop
 | .pr a b,n::q=>match n with
   | 0=>vq a q
   | f+1=>vq b (f::q)
 | .ar n t,k::q=>k<n∧vq t q
 | _,[]=>True
 | _,_=>False
def upd:(t:Ty)→t.D→List Nat→Dat→Option t.D
 | .pr a b,x,n::q,y=>match n with
   | 0=>match upd a x.1 q y with
     | some u=>some (u,x.2)
     | none=>none
   | f+1=>match upd b x.2 (f::q) y with
     | some u=>some (x.1,u)
     | none=>none
 | .ar _ t,xs,k::q,y=>match upd t (xs.getD k t.z) q y with
   | some u=>some (xs.set k u)
   | none=>none
 | t,_,[],y=>if h:y.t=t then some (h▸y.x) else none
 | _,_,_,_=>none
def spl(cs:List Value)(o:Nat)(us:List Value):List Value:=cs.take o++us++cs.drop (o+us.length)
theorem drop_app{α:Type}(c r:List α)(n:Nat):(c++r).drop (c.length+n)=r.drop n:=by
 rw[← List.drop_drop,List.drop_left]
theorem take_app{α:Type}(c r:List α)(n:Nat):(c++r).take (c.length+n)=c++r.take n:=by
 rw[List.take_append,List.take_of_length_le (by omega)]
 congr 2;omega
theorem split5{α:Type}(fl:List α)(k o n m:Nat)(h:k+m≤fl.length)(h2:o+n≤m) :
   ∃ A B1 B2 B3 C,fl=A++(B1++(B2++(B3++C)))∧A.length=k∧B1.length=o∧B2.length=n∧B3.length=m - o - n:=by
 refine⟨fl.take k,(fl.drop k).take o,(fl.drop (k+o)).take n,(fl.drop (k+o+n)).take (m - o - n),fl.drop (k+m),?_,?_,?_,?_,?_⟩
 · have e1:fl.drop (k+m)=(fl.drop (k+o+n)).drop (m - o - n):=by rw[List.drop_drop];congr 1;omega
   have e2:fl.drop (k+o+n)=(fl.drop (k+o)).drop n:=by rw[List.drop_drop]
   have e3:fl.drop (k+o)=(fl.drop k).drop o:=by rw[List.drop_drop]
   rw[e1,List.take_append_drop,e2,List.take_append_drop,e3,List.take_append_drop,List.take_append_drop]
 · simp;omega
 · simp;omega
 · simp;omega
 · simp;omega
theorem spl_spl(fl:List Value)(k o m:Nat)(us:List Value)(h:k+m≤fl.length)(h2:o+us.length≤m) :
   spl fl k (spl ((fl.drop k).take m) o us)=spl fl (k+o) us:=by
 obtain⟨A,B1,B2,B3,C,rfl,rfl,rfl,h3,h4⟩:=split5 fl k o us.length m h h2
 have e1:((A++(B1++(B2++(B3++C)))).drop A.length).take m=B1++(B2++B3):=by
   rw[List.drop_left,show m=B1.length+(B2.length+(B3.length+0)) by omega,take_app,take_app,take_app]
   simp
 rw[e1]
 have e2:spl (B1++(B2++B3)) B1.length us=B1++us++B3:=by
   simp only[spl]
   rw[List.take_left,drop_app,← h3,List.drop_left]
 rw[e2]
 simp only[spl]
 rw[List.take_left,take_app,List.take_left,show A.length+(B1++us++B3).length=A.length+(B1.length+(B2.length+(B3.length+0))) by simp;omega,
   drop_app,drop_app,drop_app,drop_app,show A.length+B1.length+us.length=A.length+(B1.length+(B2.length+0)) by omega,drop_app,drop_app,drop_app]
 simp
theorem flat_at{css:List (List Value)}{m:Nat}(h:∀ u∈css,u.length=m){k:Nat}{u:List Value}(hk:css[k]?=some u) :
   (css.flatten.drop (k*m)).take m=u:=by
 induction css generalizing k with
 | nil=>simp at hk
 | cons c r ih =>
   have hc:=h c (List.mem_cons_self ..)
   cases k with
   | zero =>
     simp only[List.getElem?_cons_zero,Option.some.injEq] at hk
     subst hk
     simp only[List.flatten_cons,Nat.zero_mul,List.drop_zero]
     rw[← hc,List.take_left]
   | succ k =>
     simp only[List.getElem?_cons_succ] at hk
     have:=ih (fun u hu=>h u (List.mem_cons_of_mem _ hu)) hk
     rw[List.flatten_cons,show (k+1)*m=c.length+k*m by rw[hc,Nat.add_mul];omega,drop_app]
     exact this
theorem flat_set{css:List (List Value)}{m:Nat}(h:∀ u∈css,u.length=m){k:Nat}(hk:k<css.length){v:List Value}(hv:v.length=m) :
   (css.set k v).flatten=spl css.flatten (k*m) v:=by
 induction css generalizing k with
 | nil=>simp at hk
 | cons c r ih =>
   have hc:=h c (List.mem_cons_self ..)
   cases k with
   | zero =>
     simp only[List.set_cons_zero,List.flatten_cons,spl,Nat.zero_mul,List.take_zero,List.nil_append,Nat.zero_add]
     rw[hv,← hc,List.drop_left]
   | succ k =>
     have:=ih (fun u hu=>h u (List.mem_cons_of_mem _ hu)) (k:=k) (by simpa using hk)
     simp only[List.set_cons_succ,List.flatten_cons,this,spl]
     rw[show (k+1)*m=c.length+k*m by rw[hc,Nat.add_mul];omega,take_app,Nat.add_assoc,drop_app,List.append_assoc,List.append_assoc,List.append_assoc]
theorem Oks.all{α:Type}{R:α→List Value→Prop}{n:Nat}{xs:List α}{css:List (List Value)}(h:Oks (fun x u=>u.length=n∧R x u) xs css):∀ u∈css,u.length=n:=by
 intro u hu
 obtain⟨i,hi⟩:=List.getElem?_of_mem hu
 have hl:i<xs.length:=by rw[← h.1];exact (List.getElem?_eq_some_iff.1 hi).1
 exact (h.2 i _ u (List.getElem?_eq_getElem hl) hi).1
theorem Oks.at_{α:Type}{R:α→List Value→Prop}{xs:List α}{css:List (List Value)}(h:Oks R xs css){k:Nat}(hk:k<xs.length)(z:α) :
   ∃ u,css[k]?=some u∧R (xs.getD k z) u:=by
 have hc:k<css.length:=by rw[h.1];exact hk
 refine⟨css[k],List.getElem?_eq_getElem hc,?_⟩
 have:xs.getD k z=xs[k]:=by simp[List.getD_eq_getElem?_getD,List.getElem?_eq_getElem hk]
 rw[this]
 exact h.2 k _ _ (List.getElem?_eq_getElem hk) (List.getElem?_eq_getElem hc)
theorem Oks.set_{α:Type}{R:α→List Value→Prop}{xs:List α}{css:List (List Value)}(h:Oks R xs css)(k:Nat){y:α}{v:List Value}(hv:R y v) :
   Oks R (xs.set k y) (css.set k v):=by
 refine⟨by simp[h.1],fun i x u hx hu => ?_⟩
 by_cases hik:k=i
 · subst hik
   simp only[List.getElem?_set,↓reduceIte] at hx hu
   split at hx<;>split at hu<;>simp at hx hu
   subst hx;subst hu;exact hv
 · rw[List.getElem?_set_ne hik] at hx hu
   exact h.2 i x u hx hu
theorem sub_ok{w:World}{ro:Nat→Prop}:∀ {t:Ty} {x:t.D} {cs:List Value} {q:List Nat} {o:Nat} {t':Ty},t.ok w ro x cs→vq t q→off t q=some (o,t') →
   ∃ x',sub t x q=some ⟨t',x'⟩∧o+t'.size≤t.size∧t'.ok w ro x' ((cs.drop o).take t'.size):=by
 intro t
 induction t with
 | pr a b iha ihb =>
   intro x cs q o t' h hv ho
   match q with
   | [] =>
     simp only[off,Option.some.injEq,Prod.mk.injEq] at ho
     obtain⟨rfl,rfl⟩:=ho
     exact⟨x,rfl,by omega,by rw[List.drop_zero,← ok_len h,List.take_length];exact h⟩
   | 0::q =>
     obtain⟨c1,c2,rfl,h1,h2⟩:=h
     obtain⟨x',e,hl,ho'⟩:=iha h1 (by simpa [vq] using hv) (by simpa [off] using ho)
     refine⟨x',by simpa [sub] using e,by simp only[Ty.size];omega,?_⟩
     have hc1:=ok_len h1
     rw[List.drop_append_of_le_length (by omega),List.take_append_of_le_length (by rw[List.length_drop];omega)]
     exact ho'
   | (f+1)::q =>
     obtain⟨c1,c2,rfl,h1,h2⟩:=h
     simp only[off] at ho
     split at ho
     · rename_i r hr
       simp only[Option.some.injEq,Prod.mk.injEq] at ho
       obtain⟨rfl,rfl⟩:=ho
       obtain⟨x',e,hl,ho'⟩:=ihb h2 (by simpa [vq] using hv) hr
       refine⟨x',by simpa [sub] using e,by simp only[Ty.size];omega,?_⟩
       have hc1:=ok_len h1
       rw[← hc1,drop_app]
       exact ho'
     · cases ho
 | ar n t ih =>
   intro xs cs q o t' h hv ho
   match q with
   | [] =>
     simp only[off,Option.some.injEq,Prod.mk.injEq] at ho
     obtain⟨rfl,rfl⟩:=ho
     exact⟨xs,rfl,by omega,by rw[List.drop_zero,← ok_len h,List.take_length];exact h⟩
   | k::q =>
     obtain⟨hn,css,rfl,h1⟩:=h
     simp only[off] at ho
     split at ho
     · rename_i r hr
       simp only[Option.some.injEq,Prod.mk.injEq] at ho
       obtain⟨rfl,rfl⟩:=ho
       have hkn:k<n:=by simp only[vq] at hv;exact hv.1
       obtain⟨u,hu,hlu,hou⟩:=h1.at_ (k:=k) (by rw[hn];exact hkn) t.z
       obtain⟨x',e,hl,ho'⟩:=ih hou (by simp only[vq] at hv;exact hv.2) hr
       refine⟨x',by simpa [sub] using e,?_,?_⟩
       · simp only[Ty.size]
         have:(k+1)*t.size≤n*t.size:=Nat.mul_le_mul_right _ hkn
         rw[Nat.add_mul] at this;omega
       · have hfa:=flat_at h1.all hu
         have:(css.flatten.drop (k*t.size+r.1)).take r.2.size=(u.drop r.1).take r.2.size:=by
           rw[← hfa,← List.drop_drop,List.drop_take,List.take_take,Nat.min_eq_left (by omega)]
         rw[this];exact ho'
     · cases ho
 | _ =>
   intro x cs q o t' h hv ho
   match q with
   | [] =>
     simp only[off,Option.some.injEq,Prod.mk.injEq] at ho
     obtain⟨rfl,rfl⟩:=ho
     exact⟨x,rfl,by omega,by rw[List.drop_zero,← ok_len h,List.take_length];exact h⟩
   | _::_=>simp[off] at ho
theorem spl_len(cs:List Value)(o:Nat)(us:List Value)(h:o+us.length≤cs.length):(spl cs o us).length=cs.length:=by
 simp[spl];omega
theorem upd_ok{w:World}{ro:Nat→Prop}:∀ {t:Ty} {x:t.D} {cs:List Value} {q:List Nat} {o:Nat} {t':Ty} {y:t'.D} {us:List Value} {x':t.D},t.ok w ro x cs→vq t q→off t q=some (o,t') →
   upd t x q ⟨t',y⟩=some x'→t'.ok w ro y us→t.ok w ro x' (spl cs o us):=by
 intro t
 induction t with
 | pr a b iha ihb =>
   intro x cs q o t' y us x' h hv ho hu hy
   have hul:=ok_len hy
   match q with
   | [] =>
     simp only[off,Option.some.injEq,Prod.mk.injEq] at ho
     obtain⟨rfl,rfl⟩:=ho
     simp only[upd,dite_true,Option.some.injEq] at hu
     subst hu
     have hl:=ok_len h
     simp only[spl,List.take_zero,List.nil_append,Nat.zero_add]
     rw[List.drop_of_length_le (by omega),List.append_nil];exact hy
   | 0::q =>
     obtain⟨c1,c2,rfl,h1,h2⟩:=h
     simp only[upd] at hu
     split at hu
     · rename_i u hu1
       simp only[Option.some.injEq] at hu
       subst hu
       have hv':vq a q:=by simpa [vq] using hv
       have ho':off a q=some (o,t'):=by simpa [off] using ho
       have:=iha h1 hv' ho' hu1 hy
       obtain⟨_,_,hb,_⟩:=sub_ok h1 hv' ho'
       have hc1:=ok_len h1
       refine⟨_,c2,?_,this,h2⟩
       simp only[spl]
       rw[List.take_append_of_le_length (by omega),List.drop_append_of_le_length (by omega),List.append_assoc,List.append_assoc,List.append_assoc]
     · cases hu
   | (f+1)::q =>
     obtain⟨c1,c2,rfl,h1,h2⟩:=h
     simp only[off] at ho
     split at ho
     · rename_i r hr
       simp only[Option.some.injEq,Prod.mk.injEq] at ho
       obtain⟨rfl,rfl⟩:=ho
       simp only[upd] at hu
       split at hu
       · rename_i u hu1
         simp only[Option.some.injEq] at hu
         subst hu
         have:=ihb h2 (by simpa [vq] using hv) hr hu1 hy
         have hc1:=ok_len h1
         refine⟨c1,_,?_,h1,this⟩
         simp only[spl]
         rw[← hc1,take_app,Nat.add_assoc,drop_app,List.append_assoc,List.append_assoc,List.append_assoc]
       · cases hu
     · cases ho
 | ar n t ih =>
   intro xs cs q o t' y us x' h hv ho hu hy
   have hul:=ok_len hy
   match q with
   | [] =>
     simp only[off,Option.some.injEq,Prod.mk.injEq] at ho
     obtain⟨rfl,rfl⟩:=ho
     simp only[upd,dite_true,Option.some.injEq] at hu
     subst hu
     have hl:=ok_len h
     simp only[spl,List.take_zero,List.nil_append,Nat.zero_add]
     rw[List.drop_of_length_le (by omega),List.append_nil];exact hy
   | k::q =>
     obtain⟨hn,css,rfl,h1⟩:=h
     simp only[off] at ho
     split at ho
     · rename_i r hr
       simp only[Option.some.injEq,Prod.mk.injEq] at ho
       obtain⟨rfl,rfl⟩:=ho
       simp only[upd] at hu
       split at hu
       · rename_i u hu1
         simp only[Option.some.injEq] at hu
         subst hu
         simp only[vq] at hv
         obtain⟨hkn,hv'⟩:=hv
         obtain⟨c,hc,hlc,hoc⟩:=h1.at_ (k:=k) (by rw[hn];exact hkn) t.z
         have:=ih hoc hv' hr hu1 hy
         have hl':=ok_len this
         obtain⟨_,_,hb,_⟩:=sub_ok hoc hv' hr
         refine⟨by simp[hn],css.set k (spl c r.1 us),?_,h1.set_ k ⟨hl',this⟩⟩
         have hkc:k<css.length:=(List.getElem?_eq_some_iff.1 hc).1
         rw[flat_set h1.all hkc hl']
         have hfa:=flat_at h1.all hc
         have hcl:(k+1)*t.size≤css.flatten.length:=by
           rw[h1.flen,hn];exact Nat.mul_le_mul_right _ hkn
         rw[Nat.add_mul] at hcl
         rw[← hfa]
         exact (spl_spl _ _ _ _ _ (by omega) (by omega)).symm
       · cases hu
     · cases ho
 | _ =>
   intro x cs q o t' y us x' h hv ho hu hy
   match q with
   | [] =>
     simp only[off,Option.some.injEq,Prod.mk.injEq] at ho
     obtain⟨rfl,rfl⟩:=ho
     have hu:x'=y:=by
       simp only[upd,dite_true] at hu
       first | exact (Option.some.inj hu).symm | rfl
     subst hu
     have hl:=ok_len h
     have hul:=ok_len hy
     simp only[spl,List.take_zero,List.nil_append,Nat.zero_add]
     rw[List.drop_of_length_le (by omega),List.append_nil];exact hy
   | _::_=>simp[off] at ho
end Go.Vc
