import Derived.Test.YtfmiecbmikncpaaDoorTORowVA
namespace Go.Vc
open Go.RowKit
theorem ask_drawn{α:Type}:∀ (k:Ask α) (w:World),w.drawn≤(w.ask k).2.drawn:=by
 intro k
 induction k with
 | done a=>intro w;exact Nat.le_refl _
 | ask what range k ih =>
   intro w
   simp only[World.ask]
   split
   · exact ih 0 w
   · exact Nat.le_trans (Nat.le_succ _) (ih _ { w with drawn:=w.drawn+1 })
theorem sys_drawn(w:World)(c:Sys):w.drawn≤(w.sys c).2.drawn:=by
 have h:=ask_drawn (Kernel.perform c w.os) w
 unfold World.sys
 generalize hx:w.ask (Kernel.perform c w.os)=x at h ⊢
 obtain⟨⟨r,os⟩,w1⟩:=x
 cases r<;>first | exact Nat.le_refl _ | exact h
theorem viewStore_drawn{p:Program}{w w':World}{a:Addr}{u:TypeId}{k:Addr}{v:Value}{b:Bool}{l:List Addr}(h:w.viewStore p a u k v b = .ok (w',l)):w'.drawn=w.drawn:=by
 unfold World.viewStore at h
 simp only[bind,Except.bind,pure,Except.pure] at h
 repeat' split at h
 all_goals first | (cases h;rfl) | cases h
theorem farStore_drawn{p:Program}{w w':World}{a:Addr}{v:Value}{b:Bool}{l:List Addr}(h:w.farStore p a v b = .ok (w',l)):w'.drawn=w.drawn:=by
 unfold World.farStore at h
 split at h
 · split at h
   · rename_i r e;cases h;exact viewStore_drawn e
   · cases h
 · cases h
theorem run_drawn{α:Type}(P:Program):∀ (m:Sem α) (w:World) {v:α} {w':World},m.run P w = .ok v w'→w.drawn≤w'.drawn:=by
 intro m
 induction m with
 | pure a=>intro w v w' h;cases h;exact Nat.le_refl _
 | load m a k ih =>
   intro w v w' h
   simp only[Sem.run] at h
   split at h
   · exact ih _ _ h
   · split at h
     · exact ih _ _ h
     · cases h
 | store m a x k ih =>
   intro w v w' h
   cases x<;>simp only[Sem.run] at h<;>first
     | (cases h;done)
     | (split at h
        · split at h
          · cases h
          · exact ih (w.setCell a _) h
        · split at h
          · rename_i e;rw[← farStore_drawn e];exact ih _ h
          · cases h)
 | new o k ih=>intro w v w' h;exact ih w.heap.size { w with heap:=w.heap.push o } h
 | shape r k ih=>intro w v w' h;exact ih _ _ h
 | freeze a n k ih =>
   intro w v w' h
   have h1:(w.freeze a n).drawn=w.drawn:=by unfold World.freeze;split<;>rfl
   rw[← h1];exact ih _ h
 | frozen a k ih=>intro w v w' h;exact ih _ _ h
 | getObj r k ih =>
   intro w v w' h
   simp only[Sem.run] at h
   split at h<;>first | (cases h;done) | exact ih _ _ h
 | setObj r o k ih =>
   intro w v w' h
   simp only[Sem.run] at h
   split at h<;>first | (cases h;done) | exact ih { w with heap:=w.heap.setIfInBounds r o } h
 | choose q k ih =>
   intro w v w' h
   simp only[Sem.run] at h
   split at h
   · exact ih _ _ h
   · exact Nat.le_trans (Nat.le_succ _) (ih _ _ h)
 | sys c k ih=>intro w v w' h;exact Nat.le_trans (sys_drawn w c) (ih _ _ h)
 | program k ih=>intro w v w' h;exact ih _ _ h
 | mark m k ih=>intro w v w' h;exact ih _ h
 | halt h=>intro w v w' h;cases h
inductive SV where
 | d (t:Ty) (x:t.D)
 | bt (b:Bool)
 | os (i:Nat)
 | pv (t:Ty) (i:Nat) (q:List Nat)
 | ea (t:Ty) (i k:Nat) (q:List Nat)
 | oc (t:Ty) (i a:Nat)
 | ra (t:Ty) (x:t.D)
 | fs (t:Ty) (xs:List t.D)
 | ps (i:Nat)
 | pf (t:Ty) (i o:Nat) (q:List Nat)
 | tv (i:Nat) (p:List Nat)
 | ta (t:Ty) (i:Nat) (p:List Nat) (k:Nat) (q:List Nat)
 | nils
 | nilp
 | und
 | any
 | ag (l:List SV)
 | tp (l:List SV)
inductive Ot where
 | d (t:Ty)
 | sl (e:TypeId) (u:Ot)
 deriving DecidableEq
instance:Coe Ty Ot:=⟨.d⟩
def Ot.er:Ot→Ty
 | .d t=>t
 | .sl _ u => .sl u.er
@[reducible] def Ot.D(u:Ot):Type:=u.er.D
def Ot.size(u:Ot):Nat:=u.er.size
@[reducible] def ls{e:TypeId}{u:Ot}(xs:(Ot.sl e u).D):List u.D:=xs
def Ot.vp:(u:Ot)→u.D→List Nat→Prop
 | .d _,_,_=>False
 | .sl _ _,_,[]=>True
 | .sl _ u,xs,k::p=>∃ y,(ls xs)[k]?=some y∧u.vp y p
def at_(κ:List Nat→Value)(k:Nat):List Nat→Value:=fun p=>κ (k::p)
def Ot.cl(w:World)(ro:Nat→Prop)(κ:List Nat→Value):(u:Ot)→u.D→List Value→Prop
 | .d t,x,cs=>t.ok w ro x cs
 | .sl _ _,_,cs=>cs=[κ []]
def Ot.nd(w:World)(ro:Nat→Prop):(u:Ot)→(List Nat→Value)→u.D→Prop
 | .d _,_,_=>True
 | .sl e u,κ,xs=>(∃ css:List (List Value),css.length=(ls xs).length ∧
     (∀ (k:Nat) y c,(ls xs)[k]?=some y→css[k]?=some c→c.length=u.size∧u.cl w ro (at_ κ k) y c) ∧
     w.ownsRow 0 e u.size (κ []) (ls xs).length css.flatten) ∧
     ∀ (k:Nat) y,(ls xs)[k]?=some y→u.nd w ro (at_ κ k) y
inductive Ob where
 | var (e:TypeId) (t:Ty) (x:t.D)
 | row (e:TypeId) (t:Ty) (xs:List t.D)
 | st (e:TypeId) (l:List SV)
 | trow (e:TypeId) (u:Ot) (xs:(Ot.sl e u).D)
 | mp (n:Nat) (v:Ty) (es:List (List Int×v.D))
 | dead
def Ob.isMp:Ob→Bool
 | .mp _ _ _=>true
 | _=>false
def kvA(x:List Int):Value := .agg (x.map (Value.int .i64)).toArray
def Ob.live:Ob→Bool
 | .dead=>false
 | _=>true
inductive GK where
 | glob (g:Nat)
 | slot (d j:Nat)
 deriving DecidableEq
structure St where
 tm:List SV
 ob:List Ob
 gs:List (GK×SV)
structure Asg where
 n:Nat
 η:Nat→Value
 F:Nat→Nat→Prop
 κ:Nat→List Nat→Value
 μ:Nat→Prop
structure Ms where
 M:Nat→Prop
 γ:Nat→Nat→Value
 rd:Bool:=false
def gval(M:Ms):GK→Value
 | .glob g => .pointer (some ⟨g,0,none⟩)
 | .slot d j=>M.γ d j
def Ro(R0:Nat→Prop)(B:Nat)(A:Asg)(ob:List Ob)(w:World)(b:Nat):Prop :=
 b<w.heap.size∧(R0 b∨B≤b)∧∀ i o,ob[i]?=some o→o.live=true→¬ A.F i b
def SvOk0(w:World)(ro:Nat→Prop)(A:Asg):SV→Value→Prop
 | .d t x,v=>t.okV w ro x v
 | .bt b,v=>v = .bool b
 | .os i,v=>i<A.n∧v=A.η i
 | .pv t i q,v=>i<A.n∧∃ g o t',A.η i = .pointer (some ⟨g,0,none⟩)∧off t q=some (o,t')∧vq t q∧v = .pointer (some ⟨g,o,none⟩)
 | .ea t i k q,v=>i<A.n∧∃ g n c o t',A.η i = .slice (some ⟨g,0,none⟩) n c∧k<n∧off t q=some (o,t')∧vq t q∧v = .pointer (some ⟨g,k*t.size+o,none⟩)
 | .oc t i a,v=>i<A.n∧∃ g n c,A.η i = .slice (some ⟨g,0,none⟩) n c∧a<n∧v = .slice (some ⟨g,a*t.size,none⟩) (n - a) (c - a)
 | .ra t x,v=>∃ ad us,v = .pointer (some ad)∧ad.spot=none∧ro ad.block∧(∀ j u,us[j]?=some u→w.cell? (ad.add j)=some u)∧t.ok w ro x us
 | .fs t xs,v=>(Ty.sl t).okV w ro xs v∧∃ Ad,v = .slice Ad xs.length xs.length
 | .ps i,v=>i<A.n∧v=A.η i∧∃ g,A.η i = .pointer (some ⟨g,0,none⟩)
 | .pf t i o0 q,v=>i<A.n∧∃ g o t',A.η i = .pointer (some ⟨g,0,none⟩)∧off t q=some (o,t')∧vq t q∧v = .pointer (some ⟨g,o0+o,none⟩)
 | .tv i p,v=>i<A.n∧v=A.κ i p∧v.oneCell'=true
 | .ta t i p k q,v=>i<A.n∧∃ g n c o t',A.κ i p = .slice (some ⟨g,0,none⟩) n c∧k<n∧off t q=some (o,t')∧vq t q∧v = .pointer (some ⟨g,k*t.size+o,none⟩)
 | .nils,v=>v = .slice none 0 0
 | .nilp,v=>v = .pointer none
 | .und,v=>v=undef
 | .any,_=>True
 | .ag _,_=>False
 | .tp _,_=>False
def All2(R:SV→Value→Prop)(l:List SV)(vs:List Value):Prop:=vs.length=l.length∧∀ (j:Nat) sv v,l[j]?=some sv→vs[j]?=some v→R sv v
def SV.nd:SV→Bool
 | .d _ _=>false
 | _=>true
def ChOk(w:World)(ro:Nat→Prop)(A:Asg)(s:SV)(u:List Value):Prop:=∃ v:Value,u=v.cells.toList∧SvOk0 w ro A s v∧(s.nd=true→v.oneCell'=true)
def SV.len:SV→Nat
 | .d t _=>t.size
 | _=>1
def SV.one:SV→Bool
 | .d _ _ | .os _ | .bt _ | .pv _ _ _ | .pf _ _ _ _ | .ps _ | .nils | .nilp=>true
 | _=>false
def Pcs(w:World)(ro:Nat→Prop)(A:Asg)(l:List SV)(cs:List Value):Prop :=
 ∃ css:List (List Value),cs=css.flatten∧css.length=l.length∧∀ (j:Nat) s u,l[j]?=some s→css[j]?=some u→s.one=true∧u.length=s.len∧ChOk w ro A s u
def SvOk1(w:World)(ro:Nat→Prop)(A:Asg):SV→Value→Prop
 | .ag l,v=>∃ vs,v = .agg vs∧Pcs w ro A l vs.toList
 | s,v=>SvOk0 w ro A s v
def SvOk(w:World)(ro:Nat→Prop)(A:Asg):SV→Value→Prop
 | .tp l,v=>∃ vs,v = .tuple vs∧All2 (SvOk1 w ro A) l vs.toList
 | s,v=>SvOk1 w ro A s v
def ObOk(w:World)(ro:Nat→Prop)(A:Asg)(i:Nat):Ob→Prop
 | .var e t x=>∃ g cs,A.η i = .pointer (some ⟨g,0,none⟩)∧A.F i g∧w.heap[g]?=some (.cells cs e (0,0))∧t.ok w ro x cs.toList
 | .row e t xs=>∃ css,Oks (fun x u=>u.length=t.size∧t.ok w ro x u) xs css∧w.ownsRow 0 e t.size (A.η i) xs.length css.flatten∧∀ g,(A.η i).ownBlock=some g→A.F i g
 | .st e l=>∃ (g:Nat) (cs:Array Value),A.η i = .pointer (some ⟨g,0,none⟩)∧A.F i g∧w.heap[g]?=some (.cells cs e (0,0))∧Pcs w ro A l cs.toList
 | .trow e u xs=>A.κ i []=A.η i∧(Ot.sl e u).nd w ro (A.κ i) xs∧(∀ p p' b,(Ot.sl e u).vp xs p→(Ot.sl e u).vp xs p'→(A.κ i p).ownBlock=some b→(A.κ i p').ownBlock=some b→p=p') ∧
     ∀ p b,(Ot.sl e u).vp xs p→(A.κ i p).ownBlock=some b→A.F i b
 | .mp n v es=>∃ g es' clock,A.η i = .map (some g)∧A.F i g∧w.heap[g]?=some (.map es' clock)∧es'.size=es.length ∧
     ∀ (j:Nat) x (e:MapEntry),es[j]?=some x→es'[j]?=some e→x.1.length=n∧e.key=kvA x.1∧v.okV w ro x.2 e.val
 | .dead=>True
abbrev Dn:Type:=Inhabited Bool
@[reducible] def Dn.b[d:Dn]:Bool:=d.default
structure Fr[Dn](M:Nat→Prop)(w0 w:World):Prop where
 os:w.os=w0.os
 tape:w.tape=w0.tape
 output:w.output=w0.output
 size:w0.heap.size≤w.heap.size
 block:∀ b,b<w0.heap.size→¬ M b→w.heap[b]?=w0.heap[b]?
 drawn:Dn.b=true→w0.drawn≤w.drawn
theorem Fr.refl[Dn](M:Nat→Prop)(w:World):Fr M w w:=⟨rfl,rfl,rfl,Nat.le_refl _,fun _ _ _=>rfl,fun _=>Nat.le_refl _⟩
theorem Fr.trans[Dn]{M:Nat→Prop}{a b c:World}(h:Fr M a b)(k:Fr M b c):Fr M a c :=
 ⟨k.os.trans h.os,k.tape.trans h.tape,k.output.trans h.output,Nat.le_trans h.size k.size,fun i hi hm=>(k.block i (Nat.lt_of_lt_of_le hi h.size) hm).trans (h.block i hi hm),fun e=>Nat.le_trans (h.drawn e) (k.drawn e)⟩
theorem Fr.below[Dn]{w w':World}(h:Fr (fun _=>False) w w'):Below w.heap.size w w':=⟨h.os,h.tape,h.output,h.size,fun k hk=>h.block k hk (fun h=>h)⟩
structure Inv[Dn](w0:World)(M:Ms)(R0:Nat→Prop)(A:Asg)(st:St)(a:Act)(w:World):Prop where
 fr:Fr M.M w0 w
 defers:a.defers.Nodup∧∀ d∈a.defers,M.rd=false∧∃ D,A.μ D∧d={ target := .collected D,args:=#[] }
 mks:∀ D,A.μ D→w0.heap.size≤D∧w.heap[D]?=some (.deferred (some []))∧∀ i o,st.ob[i]?=some o→o.live=true→¬ A.F i D
 num:A.n=st.ob.length
 len:a.tmps.size=st.tm.length
 gh:∀ k sv,(k,sv)∈st.gs→SvOk w (Ro R0 w0.heap.size A st.ob w) A sv (gval M k)
 tm:∀ j sv,st.tm[j]?=some sv→SvOk w (Ro R0 w0.heap.size A st.ob w) A sv (a.tmps.getD j undef)
 ob:∀ i o,st.ob[i]?=some o→ObOk w (Ro R0 w0.heap.size A st.ob w) A i o
 dj:∀ i j o o' b,st.ob[i]?=some o→st.ob[j]?=some o'→o.live=true→o'.live=true→A.F i b→A.F j b→i=j
 fp:∀ i o b,st.ob[i]?=some o→o.live=true→A.F i b→b<w.heap.size∧(w0.heap.size≤b∨M.M b)
theorem All2.mono{R R':SV→Value→Prop}{l:List SV}{vs:List Value}(h:All2 R l vs)(hr:∀ s v,R s v→R' s v):All2 R' l vs :=
 ⟨h.1,fun j sv v h1 h2=>hr _ _ (h.2 j sv v h1 h2)⟩
structure Asg.le(A A':Asg):Prop where
 n:A.n≤A'.n
 η:∀ i,i<A.n→A'.η i=A.η i
 κ:∀ i,i<A.n→A'.κ i=A.κ i
 μ:A'.μ=A.μ
theorem Asg.le.refl(A:Asg):A.le A:=⟨Nat.le_refl _,fun _ _=>rfl,fun _ _=>rfl,rfl⟩
def Kb(w w':World)(b:Nat):Prop:=∀ (a:Addr) (u:Value),a.block=b→w.cell? a=some u→w'.cell? a=some u
theorem Kb.of_eq{w w':World}{b:Nat}(h:w'.heap[b]?=w.heap[b]?):Kb w w' b:=fun a u hb hc=>by
 subst hb;rw[← hc];exact World.cell?_of_block h
def Cb(w w':World)(b:Nat):Prop:=∀ cs e q,w.heap[b]?=some (.cells cs e q)→w'.heap[b]?=some (.cells cs e q)
theorem Cb.of_eq{w w':World}{b:Nat}(h:w'.heap[b]?=w.heap[b]?):Cb w w' b:=fun _ _ _ hb=>h.trans hb
theorem SvOk0.keep{w w':World}{ro ro':Nat→Prop}{A A':Asg}(hr:∀ b,ro b→ro' b∧Kb w w' b)
   (hA:A.le A') {s:SV} {v:Value} (h:SvOk0 w ro A s v):SvOk0 w' ro' A' s v:=by
 cases s with
 | d t x=>exact okV_grow (fun b hb=>(hr b hb).1) (fun a u hb=>(hr _ hb).2 a u rfl) h
 | bt b=>exact h
 | os i=>exact⟨Nat.lt_of_lt_of_le h.1 hA.n,h.2.trans (hA.η i h.1).symm⟩
 | pv t i q=>obtain⟨hi,g,o,t',e,r⟩:=h;exact⟨Nat.lt_of_lt_of_le hi hA.n,g,o,t',(hA.η i hi).trans e,r⟩
 | ea t i k q=>obtain⟨hi,g,n,c,o,t',e,r⟩:=h;exact⟨Nat.lt_of_lt_of_le hi hA.n,g,n,c,o,t',(hA.η i hi).trans e,r⟩
 | oc t i a=>obtain⟨hi,g,n,c,e,r⟩:=h;exact⟨Nat.lt_of_lt_of_le hi hA.n,g,n,c,(hA.η i hi).trans e,r⟩
 | ra t x =>
   obtain⟨ad,us,e,sp,hro,hc,hok⟩:=h
   refine⟨ad,us,e,sp,(hr _ hro).1,fun j u hj => ?_,ok_grow (fun b hb=>(hr b hb).1) (fun a u hb=>(hr _ hb).2 a u rfl) hok⟩
   exact (hr _ hro).2 _ u (by unfold Addr.add;split<;>rfl) (hc j u hj)
 | fs t xs=>exact⟨okV_grow (t := .sl t) (fun b hb=>(hr b hb).1) (fun a u hb=>(hr _ hb).2 a u rfl) h.1,h.2⟩
 | ps i=>obtain⟨hi,e,g,r⟩:=h;exact⟨Nat.lt_of_lt_of_le hi hA.n,e.trans (hA.η i hi).symm,g,(hA.η i hi).trans r⟩
 | pf t i o0 q=>obtain⟨hi,g,o,t',e,r⟩:=h;exact⟨Nat.lt_of_lt_of_le hi hA.n,g,o,t',(hA.η i hi).trans e,r⟩
 | tv i p=>obtain⟨hi,e,r⟩:=h;exact⟨Nat.lt_of_lt_of_le hi hA.n,by rw[hA.κ i hi];exact e,r⟩
 | ta t i p k q=>obtain⟨hi,g,n,c,o,t',e,r⟩:=h;exact⟨Nat.lt_of_lt_of_le hi hA.n,g,n,c,o,t',by rw[hA.κ i hi];exact e,r⟩
 | nils=>exact h
 | nilp=>exact h
 | und=>exact h
 | any=>exact h
 | ag l=>exact h.elim
 | tp l=>exact h.elim
theorem ChOk.keep[Dn]{w w':World}{ro ro':Nat→Prop}{A A':Asg}(hr:∀ b,ro b→ro' b∧Kb w w' b)
   (hA:A.le A') {s:SV} {u:List Value} (h:ChOk w ro A s u):ChOk w' ro' A' s u:=by
 obtain⟨v,e,h,h1⟩:=h
 exact⟨v,e,h.keep hr hA,h1⟩
theorem Pcs.keep[Dn]{w w':World}{ro ro':Nat→Prop}{A A':Asg}(hr:∀ b,ro b→ro' b∧Kb w w' b)
   (hA:A.le A') {l:List SV} {cs:List Value} (h:Pcs w ro A l cs):Pcs w' ro' A' l cs:=by
 obtain⟨css,hc,hl,hok⟩:=h
 exact⟨css,hc,hl,fun j s u h1 h2=>⟨(hok j s u h1 h2).1,(hok j s u h1 h2).2.1,(hok j s u h1 h2).2.2.keep hr hA⟩⟩
theorem SvOk1.keep[Dn]{w w':World}{ro ro':Nat→Prop}{A A':Asg}(hr:∀ b,ro b→ro' b∧Kb w w' b)
   (hA:A.le A') {s:SV} {v:Value} (h:SvOk1 w ro A s v):SvOk1 w' ro' A' s v:=by
 cases s with
 | ag l=>obtain⟨vs,e,h⟩:=h;exact⟨vs,e,h.keep hr hA⟩
 | d t x=>exact SvOk0.keep (s := .d t x) hr hA h
 | bt b=>exact SvOk0.keep (s := .bt b) hr hA h
 | os i=>exact SvOk0.keep (s := .os i) hr hA h
 | pv t i q=>exact SvOk0.keep (s := .pv t i q) hr hA h
 | ea t i k q=>exact SvOk0.keep (s := .ea t i k q) hr hA h
 | oc t i a=>exact SvOk0.keep (s := .oc t i a) hr hA h
 | ra t x=>exact SvOk0.keep (s := .ra t x) hr hA h
 | fs t x=>exact SvOk0.keep (s := .fs t x) hr hA h
 | ps i=>exact SvOk0.keep (s := .ps i) hr hA h
 | pf t i o q=>exact SvOk0.keep (s := .pf t i o q) hr hA h
 | tv i p=>exact SvOk0.keep (s := .tv i p) hr hA h
 | ta t i p k q=>exact SvOk0.keep (s := .ta t i p k q) hr hA h
 | nils  => exact SvOk0.keep (s := .nils ) hr hA h
 | nilp  => exact SvOk0.keep (s := .nilp ) hr hA h
 | und  => exact SvOk0.keep (s := .und ) hr hA h
 | any  => exact SvOk0.keep (s := .any) (v:=v) hr hA h
 | tp l=>exact SvOk0.keep (s := .tp l) (v:=v) hr hA h
theorem SvOk.keep[Dn]{w w':World}{ro ro':Nat→Prop}{A A':Asg}(hr:∀ b,ro b→ro' b∧Kb w w' b)
   (hA:A.le A') {s:SV} {v:Value} (h:SvOk w ro A s v):SvOk w' ro' A' s v:=by
 cases s with
 | tp l=>obtain⟨vs,e,h⟩:=h;exact⟨vs,e,h.mono fun s v h=>h.keep hr hA⟩
 | d t x=>exact SvOk1.keep (s := .d t x) hr hA h
 | bt b=>exact SvOk1.keep (s := .bt b) hr hA h
 | os i=>exact SvOk1.keep (s := .os i) hr hA h
 | pv t i q=>exact SvOk1.keep (s := .pv t i q) hr hA h
 | ea t i k q=>exact SvOk1.keep (s := .ea t i k q) hr hA h
 | oc t i a=>exact SvOk1.keep (s := .oc t i a) hr hA h
 | ra t x=>exact SvOk1.keep (s := .ra t x) hr hA h
 | fs t x=>exact SvOk1.keep (s := .fs t x) hr hA h
 | ps i=>exact SvOk1.keep (s := .ps i) hr hA h
 | pf t i o q=>exact SvOk1.keep (s := .pf t i o q) hr hA h
 | tv i p=>exact SvOk1.keep (s := .tv i p) hr hA h
 | ta t i p k q=>exact SvOk1.keep (s := .ta t i p k q) hr hA h
 | nils  => exact SvOk1.keep (s := .nils ) hr hA h
 | nilp  => exact SvOk1.keep (s := .nilp ) hr hA h
 | und  => exact SvOk1.keep (s := .und ) hr hA h
 | any  => exact SvOk1.keep (s := .any) (v:=v) hr hA h
 | ag l=>exact SvOk1.keep (s := .ag l) (v:=v) hr hA h
theorem Ot.cl_keep{w w':World}{ro ro':Nat→Prop}(hr:∀ b,ro b→ro' b∧Kb w w' b){κ:List Nat→Value}:∀ {u:Ot} {x:u.D} {cs:List Value},u.cl w ro κ x cs→u.cl w' ro' κ x cs
 | .d _,_,_,h=>ok_grow (fun b hb=>(hr b hb).1) (fun a u hb=>(hr _ hb).2 a u rfl) h
 | .sl _ _,_,_,h=>h
theorem ownsRow_keep{w w':World}{e:TypeId}{size n:Nat}{v:Value}{xs:List Value}(hw:∀ b,v.ownBlock=some b→Cb w w' b)(h:w.ownsRow 0 e size v n xs):w'.ownsRow 0 e size v n xs:=by
 refine⟨h.1,?_⟩
 rcases h.2 with hn | ⟨g,cap,cur,e1,hb,hg,rest⟩
 · exact .inl hn
 · exact .inr ⟨g,cap,cur,e1,hb,hw g (by rw[e1];rfl) _ _ _ hg,rest⟩
theorem Ot.nd_keep[Dn]{w w':World}{ro ro':Nat→Prop}(hr:∀ b,ro b→ro' b∧Kb w w' b):∀ {u:Ot} {κ:List Nat→Value} {x:u.D},(∀ p b,u.vp x p→(κ p).ownBlock=some b→Cb w w' b)→u.nd w ro κ x→u.nd w' ro' κ x
 | .d _,_,_,_,_=>trivial
 | .sl e u,κ,xs,hw,h=>by
   obtain⟨⟨css,h1,h2,h3⟩,h4⟩:=h
   refine⟨⟨css,h1,fun k y c hy hc=>⟨(h2 k y c hy hc).1,Ot.cl_keep hr (h2 k y c hy hc).2⟩,ownsRow_keep (fun b hb=>hw [] b trivial hb) h3⟩,fun k y hy => ?_⟩
   exact Ot.nd_keep hr (fun p b hp hb=>hw (k::p) b ⟨y,hy,hp⟩ hb) (h4 k y hy)
theorem ObOk.keep[Dn]{w w':World}{ro ro':Nat→Prop}{A A':Asg}{i:Nat}{o:Ob}(hr:∀ b,ro b→ro' b∧Kb w w' b)(hA:A.le A')(hi:i<A.n)(hF:∀ b,A'.F i b↔A.F i b)
   (hw:∀ b,A.F i b→Cb w w' b) (hmp:o.isMp=true→∀ b,A.F i b→w'.heap[b]?=w.heap[b]?) (h:ObOk w ro A i o):ObOk w' ro' A' i o:=by
 cases o with
 | var e t x =>
   obtain⟨g,cs,e1,hf,hh,hok⟩:=h
   exact⟨g,cs,(hA.η i hi).trans e1,(hF g).2 hf,hw g hf _ _ _ hh,ok_grow (fun b hb=>(hr b hb).1) (fun a u hb=>(hr _ hb).2 a u rfl) hok⟩
 | row e t xs =>
   obtain⟨css,hok,hown,hf⟩:=h
   refine⟨css,hok.mono fun x u hu=>⟨hu.1,ok_grow (fun b hb=>(hr b hb).1) (fun a u hb=>(hr _ hb).2 a u rfl) hu.2⟩,?_,fun g hg => ?_⟩
   · rw[hA.η i hi]
     exact ownsRow_keep (fun b hb=>hw b (hf b hb)) hown
   · rw[hA.η i hi] at hg;exact (hF g).2 (hf g hg)
 | st e l =>
   obtain⟨g,cs,e1,hf,hh,hok⟩:=h
   exact⟨g,cs,(hA.η i hi).trans e1,(hF g).2 hf,hw g hf _ _ _ hh,hok.keep hr hA⟩
 | trow e u xs =>
   obtain⟨h1,h2,h3,h4⟩:=h
   have hk:=hA.κ i hi
   refine⟨by rw[hk,hA.η i hi];exact h1,?_,by rw[hk];exact h3,fun p b hp hb=>(hF b).2 (h4 p b hp (by rw[hk] at hb;exact hb))⟩
   rw[hk]
   exact Ot.nd_keep hr (fun p b hp hb=>hw b (h4 p b hp hb)) h2
 | mp n v es =>
   obtain⟨g,es',clock,e1,hf,hh,hl,hok⟩:=h
   exact⟨g,es',clock,(hA.η i hi).trans e1,(hF g).2 hf,(hmp rfl g hf).trans hh,hl,fun j x e h1 h2=>⟨(hok j x e h1 h2).1,(hok j x e h1 h2).2.1,okV_grow (fun b hb=>(hr b hb).1) (fun a u hb=>(hr _ hb).2 a u rfl) (hok j x e h1 h2).2.2⟩⟩
 | dead=>trivial
theorem getD_put{a:Act}{d:Option Nat}{v:Value}{n j:Nat}(hl:a.tmps.size=n)(hd:∀ x,d=some x→x<n) :
   (a.put d v).tmps.getD j undef=if d=some j then v else a.tmps.getD j undef:=by
 cases d with
 | none=>simp[Act.put]
 | some x =>
   have hx:=hd x rfl
   simp only[Act.put,Array.getD_eq_getD_getElem?,Option.some.injEq]
   by_cases h:x=j
   · subst h
     rw[if_pos rfl,Array.getElem?_setIfInBounds_self_of_lt (by omega)]
     rfl
   · rw[if_neg h,Array.getElem?_setIfInBounds_ne h]
def St.put(st:St)(d:Option Nat)(s:SV):St :=
 match d with
 | some x=>{ st with tm:=st.tm.set x s }
 | none=>st
theorem put_size(a:Act)(d:Option Nat)(v:Value):(a.put d v).tmps.size=a.tmps.size:=by cases d<;>simp[Act.put]
theorem put_defers(a:Act)(d:Option Nat)(v:Value):(a.put d v).defers=a.defers:=by cases d<;>rfl
theorem St.put_ob(st:St)(d:Option Nat)(s:SV):(st.put d s).ob=st.ob:=by cases d<;>rfl
theorem St.put_gs(st:St)(d:Option Nat)(s:SV):(st.put d s).gs=st.gs:=by cases d<;>rfl
theorem St.put_len(st:St)(d:Option Nat)(s:SV):(st.put d s).tm.length=st.tm.length:=by cases d<;>simp[St.put]
theorem Inv.put[Dn]{w0:World}{M:Ms}{R0:Nat→Prop}{A:Asg}{st:St}{a:Act}{w:World}(I:Inv w0 M R0 A st a w){d:Option Nat}{s:SV}{v:Value}
   (h:SvOk w (Ro R0 w0.heap.size A st.ob w) A s v):Inv w0 M R0 A (st.put d s) (a.put d v) w where
 fr:=I.fr
 defers:=by rw[put_defers];exact I.defers
 mks:=by rw[St.put_ob];exact I.mks
 gh:=by rw[St.put_ob,St.put_gs];exact I.gh
 num:=by rw[St.put_ob];exact I.num
 len:=by rw[put_size,St.put_len];exact I.len
 tm:=by
   rw[St.put_ob]
   intro j sv hj
   cases d with
   | none=>exact I.tm j sv hj
   | some x =>
     simp only[St.put] at hj
     by_cases hx:x<st.tm.length
     · rw[getD_put I.len (by rintro y ⟨⟩;exact hx)]
       by_cases hxj:x=j
       · subst hxj
         rw[if_pos rfl]
         simp only[List.getElem?_set,↓reduceIte,hx] at hj
         injection hj with hj
         subst hj;exact h
       · rw[if_neg (by simpa using hxj)]
         rw[List.getElem?_set_ne hxj] at hj
         exact I.tm j sv hj
     · rw[List.set_eq_of_length_le (by omega)] at hj
       have:a.put (some x) v=a:=by
         have:=I.len
         simp only[Act.put];congr 1
         exact Array.setIfInBounds_eq_of_size_le (by omega)
       rw[this]
       exact I.tm j sv hj
 ob:=by rw[St.put_ob];exact I.ob
 dj:=by rw[St.put_ob];exact I.dj
 fp:=by rw[St.put_ob];exact I.fp
theorem Inv.go_[Dn]{w0:World}{M:Ms}{R0:Nat→Prop}{A A':Asg}{st:St}{ob':List Ob}{a:Act}{w w':World}(I:Inv w0 M R0 A st a w)(T:Nat→Prop)
   (hos:w'.os=w.os) (htape:w'.tape=w.tape) (hout:w'.output=w.output) (hsz:w.heap.size≤w'.heap.size) (hdr:Dn.b=true→w.drawn≤w'.drawn)
   (hblk:∀ b,b<w.heap.size→(∀ i o,st.ob[i]?=some o→o.live=true→T i→¬ A.F i b)→w'.heap[b]?=w.heap[b]?)
   (hA:A.le A') (hn:A'.n=ob'.length)
   (hkeep:∀ i,i<st.ob.length→¬ T i→ob'[i]?=st.ob[i]?∧∀ b,A'.F i b↔A.F i b)
   (hF:∀ i o b,ob'[i]?=some o→o.live=true→(T i∨st.ob.length≤i)→A'.F i b →
     (w.heap.size≤b∧b<w'.heap.size)∨∃ j o',st.ob[j]?=some o'∧o'.live=true∧T j∧A.F j b)
   (hdj:∀ i j o o' b,ob'[i]?=some o→ob'[j]?=some o'→o.live=true→o'.live=true→(T i∨st.ob.length≤i)→(T j∨st.ob.length≤j)→A'.F i b→A'.F j b→i=j)
   (hnew:∀ i o,ob'[i]?=some o→(T i∨st.ob.length≤i)→ObOk w' (Ro R0 w0.heap.size A' ob' w') A' i o) :
   Inv w0 M R0 A' { st with ob:=ob' } a w':=by
 have hlen:∀ i o,ob'[i]?=some o→¬ (T i∨st.ob.length≤i)→st.ob[i]?=some o∧i<st.ob.length∧¬ T i:=by
   intro i o ho hni
   have h1:¬ T i:=fun h=>hni (.inl h)
   have h2:i<st.ob.length:=by
     rcases Nat.lt_or_ge i st.ob.length with h | h
     · exact h
     · exact absurd (.inr h) hni
   exact⟨(hkeep i h2 h1).1▸ho,h2,h1⟩
 -- where a live object of the new state has a block,a live one of the old state had it,or it is new
 have hold:∀ i o b,ob'[i]?=some o→o.live=true→A'.F i b→(w.heap.size≤b∧b<w'.heap.size)∨∃ j o',st.ob[j]?=some o'∧o'.live=true∧A.F j b:=by
   intro i o b ho hl hb
   by_cases hi:T i∨st.ob.length≤i
   · rcases hF i o b ho hl hi hb with h | ⟨j,o',h1,h2,_,h3⟩
     · exact .inl h
     · exact .inr ⟨j,o',h1,h2,h3⟩
   · obtain⟨h1,h2,h3⟩:=hlen i o ho hi
     exact .inr ⟨i,o,h1,hl,((hkeep i h2 h3).2 b).1 hb⟩
 have hro:∀ b,Ro R0 w0.heap.size A st.ob w b→Ro R0 w0.heap.size A' ob' w' b∧w'.heap[b]?=w.heap[b]?:=by
   intro b ⟨hb,hr,hno⟩
   refine⟨⟨by omega,hr,fun i o ho hl hf => ?_⟩,hblk b hb fun i o ho hl _=>hno i o ho hl⟩
   rcases hold i o b ho hl hf with h | ⟨j,o',h1,h2,h3⟩
   · omega
   · exact hno j o' h1 h2 h3
 have hro':∀ b,Ro R0 w0.heap.size A st.ob w b→Ro R0 w0.heap.size A' ob' w' b∧Kb w w' b:=fun b hb=>⟨(hro b hb).1,Kb.of_eq (hro b hb).2⟩
 have hfar:∀ i o b,st.ob[i]?=some o→o.live=true→¬ T i→A.F i b→w'.heap[b]?=w.heap[b]?:=by
   intro i o b ho hl hT hb
   refine hblk b (I.fp i o b ho hl hb).1 fun j o' ho' hl' hTj hfj => ?_
   have:=I.dj i j o o' b ho ho' hl hl' hb hfj
   subst this
   exact hT hTj
 refine⟨⟨hos.trans I.fr.os,htape.trans I.fr.tape,hout.trans I.fr.output,Nat.le_trans I.fr.size hsz,fun b hb hM => ?_,fun e=>Nat.le_trans (I.fr.drawn e) (hdr e)⟩,by rw[hA.μ];exact I.defers,fun D hD => ?_,hn,I.len,fun k sv hk=>(I.gh k sv hk).keep hro' hA,fun j sv hj => ?_,fun i o ho => ?_,fun i j o o' b hi hj hl hl' hb hb' => ?_,fun i o b hi hl hb => ?_⟩
 · rw[← I.fr.block b hb hM]
   refine hblk b (Nat.lt_of_lt_of_le hb I.fr.size) fun i o ho hl _ hf => ?_
   rcases (I.fp i o b ho hl hf).2 with h | h
   · omega
   · exact hM h
 · rw[hA.μ] at hD
   obtain⟨h1,h2,h3⟩:=I.mks D hD
   have hlt:=(Array.getElem?_eq_some_iff.1 h2).1
   refine⟨h1,(hblk D hlt fun i o ho hl _=>h3 i o ho hl).trans h2,fun i o ho hl hf => ?_⟩
   rcases hold i o D ho hl hf with h | ⟨j,o',k1,k2,k3⟩
   · omega
   · exact h3 j o' k1 k2 k3
 · exact (I.tm j sv hj).keep hro' hA
 · by_cases hi:T i∨st.ob.length≤i
   · exact hnew i o ho hi
   · obtain⟨h1,h2,h3⟩:=hlen i o ho hi
     cases hlv:o.live with
     | false=>cases o<;>first | trivial | simp[Ob.live] at hlv
     | true=>exact (I.ob i o h1).keep hro' hA (by rw[I.num];exact h2) (hkeep i h2 h3).2 (fun b hb=>Cb.of_eq (hfar i o b h1 hlv h3 hb)) (fun _ b hb=>hfar i o b h1 hlv h3 hb)
 · by_cases h1:T i∨st.ob.length≤i<;>by_cases h2:T j∨st.ob.length≤j
   · exact hdj i j o o' b hi hj hl hl' h1 h2 hb hb'
   · obtain⟨k1,k2,k3⟩:=hlen j o' hj h2
     have hbj:=((hkeep j k2 k3).2 b).1 hb'
     rcases hF i o b hi hl h1 hb with h | ⟨m,om,m1,m2,m3,m4⟩
     · have:=(I.fp j o' b k1 hl' hbj).1;omega
     · have:=I.dj m j om o' b m1 k1 m2 hl' m4 hbj
       subst this;exact absurd m3 k3
   · obtain⟨k1,k2,k3⟩:=hlen i o hi h1
     have hbi:=((hkeep i k2 k3).2 b).1 hb
     rcases hF j o' b hj hl' h2 hb' with h | ⟨m,om,m1,m2,m3,m4⟩
     · have:=(I.fp i o b k1 hl hbi).1;omega
     · have:=I.dj m i om o b m1 k1 m2 hl m4 hbi
       subst this;exact absurd m3 k3
   · obtain⟨k1,k2,k3⟩:=hlen i o hi h1
     obtain⟨l1,l2,l3⟩:=hlen j o' hj h2
     exact I.dj i j o o' b k1 l1 hl hl' (((hkeep i k2 k3).2 b).1 hb) (((hkeep j l2 l3).2 b).1 hb')
 · rcases hold i o b hi hl hb with h | ⟨j,o',h1,h2,h3⟩
   · exact⟨h.2,.inl (by have:=I.fr.size;omega)⟩
   · have:=I.fp j o' b h1 h2 h3
     exact⟨by omega,this.2⟩
end Go.Vc
