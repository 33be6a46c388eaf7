import Derived.Test.YtfmiecbmikncpaaDoorTORowVX
namespace Go.Vc
open Go.RowKit
def dropL:List Nat→List Ob→List Ob
 | [],ob=>ob
 | i::r,ob=>dropL r (ob.set i .dead)
theorem dropL_len:∀ {l:List Nat} {ob:List Ob},(dropL l ob).length=ob.length
 | [],_=>rfl
 | i::r,ob=>by unfold dropL;rw[dropL_len,List.length_set]
theorem dropL_get:∀ {l:List Nat} {ob:List Ob} {i:Nat},i∉l→(dropL l ob)[i]?=ob[i]?
 | [],_,_,_=>rfl
 | j::r,ob,i,h=>by
   unfold dropL
   rw[dropL_get (fun hm=>h (List.mem_cons_of_mem _ hm)),List.getElem?_set_ne (fun e=>h (by rw[e];exact List.mem_cons_self ..))]
theorem dropL_dead[Dn]:∀ {l:List Nat} {ob:List Ob} {i:Nat},i∈l→i<ob.length→(dropL l ob)[i]?=some .dead
 | j::r,ob,i,h,hi=>by
   unfold dropL
   by_cases hm:i∈r
   · exact dropL_dead hm (by simpa using hi)
   · rw[dropL_get hm]
     have:i=j:=by
       rcases List.mem_cons.1 h with h | h
       · exact h
       · exact absurd h hm
     subst this
     rw[List.getElem?_set_self hi]
theorem Inv.addL[Dn]{w0:World}{M:Ms}{R0:Nat→Prop}{A:Asg}{st:St}{a:Act}{w w':World}(I:Inv w0 M R0 A st a w)(D:List Nat)(κ:List Nat→Value)(F:Nat→Prop)(o:Ob)
   (hsame:Same w w') (hblk:∀ b,b<w.heap.size→(∀ i o',i∈D→st.ob[i]?=some o'→o'.live=true→¬ A.F i b)→w'.heap[b]?=w.heap[b]?)
   (hF:∀ b,F b→(w.heap.size≤b∧b<w'.heap.size)∨∃ i o',i∈D∧st.ob[i]?=some o'∧o'.live=true∧A.F i b)
   (hnew:(∀ b,Ro R0 w0.heap.size A st.ob w b→Ro R0 w0.heap.size (A.pushT κ F) (dropL D st.ob++[o]) w' b∧w'.heap[b]?=w.heap[b]?) →
     ObOk w' (Ro R0 w0.heap.size (A.pushT κ F) (dropL D st.ob++[o]) w') (A.pushT κ F) A.n o) :
   Inv w0 M R0 (A.pushT κ F) { st with ob:=dropL D st.ob++[o] } a w':=by
 have hn:A.n=st.ob.length:=I.num
 have hlen:(dropL D st.ob).length=st.ob.length:=dropL_len
 have hlast:(dropL D st.ob++[o])[st.ob.length]?=some o:=by rw[← hlen];simp
 have hpre:∀ i,i<st.ob.length→(dropL D st.ob++[o])[i]?=(dropL D st.ob)[i]?:=fun i hi=>List.getElem?_append_left (by omega)
 have hpast:∀ i x,(dropL D st.ob++[o])[i]?=some x→i≤st.ob.length:=by
   intro i x hx
   have:=(List.getElem?_eq_some_iff.1 hx).1
   simp[hlen] at this;omega
 have hro:∀ b,Ro R0 w0.heap.size A st.ob w b→Ro R0 w0.heap.size (A.pushT κ F) (dropL D st.ob++[o]) w' b∧w'.heap[b]?=w.heap[b]?:=by
   intro b ⟨hb,hr,hno⟩
   refine⟨⟨Nat.lt_of_lt_of_le hb hsame.size,hr,fun i x hx hl hf => ?_⟩,hblk b hb fun i o' _ ho hl hf=>hno i o' ho hl hf⟩
   rcases Nat.lt_or_eq_of_le (hpast i x hx) with hi | hi
   · rw[Asg.push_Fo A κ F (by omega)] at hf
     rw[hpre i hi] at hx
     by_cases hdi:i∈D
     · rw[dropL_dead hdi hi] at hx;injection hx with hx;subst hx;simp[Ob.live] at hl
     · rw[dropL_get hdi] at hx
       exact hno i x hx hl hf
   · subst hi
     rw[← hn,Asg.push_F] at hf
     rcases hF b hf with h | ⟨j,o',_,h2,h3,h4⟩
     · omega
     · exact hno j o' h2 h3 h4
 have hcase:∀ i x,(dropL D st.ob++[o])[i]?=some x→x.live=true→(i∈D∨st.ob.length≤i)→i=st.ob.length∧x=o:=by
   intro i x hx hl h
   rcases Nat.lt_or_eq_of_le (hpast i x hx) with hi | hi
   · rcases h with h | h
     · rw[hpre i hi,dropL_dead h hi] at hx;injection hx with hx;subst hx;simp[Ob.live] at hl
     · omega
   · subst hi;rw[hlast] at hx;injection hx with hx;exact⟨rfl,hx.symm⟩
 refine I.go_ (fun i=>i∈D) hsame.os hsame.tape hsame.output hsame.size hsame.drawn (fun b hb h=>hblk b hb fun i o' hi ho hl=>h i o' ho hl hi) (A.push_le κ F) (by simp[Asg.pushT,hn,hlen])
   (fun i hi hT=>⟨(hpre i hi).trans (dropL_get hT),fun b=>Asg.push_Fo A κ F (by omega) b⟩) (fun i x b hx hl h hf => ?_) (fun i j x y b hx hy hl hl' h h' _ _ => ?_) (fun i x hx h => ?_)
 · obtain⟨rfl,rfl⟩:=hcase i x hx hl h
   rw[← hn,Asg.push_F] at hf
   rcases hF b hf with h | ⟨j,o',h1,h2,h3,h4⟩
   · exact .inl h
   · exact .inr ⟨j,o',h2,h3,h1,h4⟩
 · rw[(hcase i x hx hl h).1,(hcase j y hy hl' h').1]
 · cases hl:x.live with
   | false=>cases x<;>first | trivial | simp[Ob.live] at hl
   | true =>
     obtain⟨rfl,rfl⟩:=hcase i x hx hl h
     rw[← hn]
     exact hnew hro
structure TreeOk(w:World)(ro:Nat→Prop)(κ:List Nat→Value)(F:Nat→Prop){e:TypeId}{u:Ot}(xs:(Ot.sl e u).D):Prop where
 nd:(Ot.sl e u).nd w ro κ xs
 inj:∀ p p' b,(Ot.sl e u).vp xs p→(Ot.sl e u).vp xs p'→(κ p).ownBlock=some b→(κ p').ownBlock=some b→p=p'
 F:∀ p b,(Ot.sl e u).vp xs p→(κ p).ownBlock=some b→F b
def treeK(st:St)(j:Nat)(k:(e:TypeId)→(u:Ot)→(Ot.sl e u).D→Prop):Prop :=
 match st.ob[j]? with
 | some (.row e t xs)=>k e (.d t) xs
 | some (.trow e u xs)=>k e u xs
 | _=>False
theorem vp_d{e:TypeId}{t:Ty}{xs:(Ot.sl e (.d t)).D}{p:List Nat}(h:(Ot.sl e (.d t)).vp xs p):p=[]:=by
 cases p with
 | nil=>rfl
 | cons k p=>obtain⟨y,_,h2⟩:=h;cases p<;>exact h2.elim
theorem treeK_ok[Dn]{w0:World}{M:Ms}{R0:Nat→Prop}{A:Asg}{st:St}{a:Act}{w:World}(I:Inv w0 M R0 A st a w){j:Nat}{k:(e:TypeId)→(u:Ot)→(Ot.sl e u).D→Prop}(h:treeK st j k) :
   ∃ (e:TypeId) (u:Ot) (xs:(Ot.sl e u).D) (κ:List Nat→Value),k e u xs∧TreeOk w (Ro R0 w0.heap.size A st.ob w) κ (A.F j) xs∧κ []=A.η j∧∃ o,st.ob[j]?=some o∧o.live=true:=by
 unfold treeK at h
 split at h
 · rename_i e t xs hob
   obtain⟨css,hoks,hown,hF⟩:=I.ob j _ hob
   refine⟨e,.d t,xs,fun _=>A.η j,h,⟨⟨⟨css,hoks.1,fun k y c hy hc=>hoks.2 k y c hy hc,hown⟩,fun _ _ _=>trivial⟩,fun p p' b hp hp' _ _ => ?_,fun p b _ hb=>hF b hb⟩,rfl,_,hob,rfl⟩
   rw[vp_d hp,vp_d hp']
 · rename_i e u xs hob
   obtain⟨h1,h2,h3,h4⟩:=I.ob j _ hob
   exact⟨e,u,xs,A.κ j,h,⟨h2,h3,h4⟩,h1,_,hob,rfl⟩
 · exact h.elim
theorem nd_lt{w:World}{ro:Nat→Prop}:∀ {u:Ot} {κ:List Nat→Value} {x:u.D},u.nd w ro κ x→∀ p b,u.vp x p→(κ p).ownBlock=some b→b<w.heap.size
 | .d _,_,_,_,p,b,hp,_=>by cases p<;>exact hp.elim
 | .sl e u,κ,xs,hn,[],b,_,hb=>by
   obtain⟨⟨css,_,_,h3⟩,_⟩:=hn
   exact (h3.lt b hb).2
 | .sl e u,κ,xs,hn,k::p,b,hp,hb=>by
   obtain⟨y,hy,hp⟩:=hp
   exact nd_lt (hn.2 k y hy) p b hp hb
def bslT(E:Env)(st:St)(T:TypeId)(j:Nat)(dst:Option Nat)(k:St→Prop):Prop :=
 match E.ty T,E.el T with
 | some (.sl t),some e=>treeK st j fun e' u xs=>if t = .sl u.er then k (St.put { st with ob:=dropL [j] st.ob++[.trow e (.sl e' u) [xs]] } dst (.os st.ob.length)) else False
 | _,_=>False
def kap1(v:Value)(κ:List Nat→Value):List Nat→Value
 | []=>v
 | _::p=>κ p
theorem arr1{f:Nat→Value}{v:Value}:((Array.range 1).map f).setIfInBounds 0 v=#[v]:=by
 apply Array.ext
 · simp
 · intro i h1 h2
   have h0:i=0:=by simp at h2;omega
   subst h0
   simp
theorem bslT_ok[Dn]{P:Program}{E:Env}(hE:EnvOk P E){w0:World}{M:Ms}{R0:Nat→Prop}{A:Asg}{st:St}{a:Act}{w:World}(I:Inv w0 M R0 A st a w){T:TypeId}{j:Nat}{v:Value}{dst:Option Nat}{k:St→Prop}
   (hv:SvOk w (Ro R0 w0.heap.size A st.ob w) A (.os j) v) (h:bslT E st T j dst k):∃ A' st' v' w',k st'∧Inv w0 M R0 A' st' (a.put dst v') w'∧(Instr.buildSlice T 1 #[(0,v)]).run P w = .ok v' w':=by
 unfold bslT at h
 split at h
 · rename_i t e ht he
   obtain⟨e',u,xs,κ,hk,tr,hκ,o,hob,hlive⟩:=treeK_ok I h
   split at hk
   · rename_i htu;subst htu
     obtain⟨_,e1,hu',hfe⟩:=hE.ty _ _ ht
     have hu:=hE.el _ _ he
     rw[hu] at hu';injection hu' with hu';injection hu' with hu';subst hu'
     obtain⟨i,hi,his,hiz,hib⟩:=hfe.info
     obtain⟨hjn,rfl⟩:=hv
     have hn:A.n=st.ob.length:=I.num
     have hr:(Instr.buildSlice T 1 #[(0,A.η j)]).run P w = .ok (.slice (some ⟨w.heap.size,0,none⟩) 1 1) (w.alloc (.cells #[A.η j] e)):=by
       have hone:(A.η j).cells=#[A.η j]:=by
         have hown:∃ css n,w.ownsRow 0 e' u.size (A.η j) n css:=by
           obtain⟨⟨css,_,_,h3⟩,_⟩:=tr.nd
           rw[hκ] at h3;exact⟨_,_,h3⟩
         obtain⟨css,n,_,h4⟩:=hown
         rcases h4 with ⟨h4,_⟩ | ⟨g,cap,cur,h4,_⟩<;>rw[h4]<;>rfl
       have hz:(zeroValue e).run P w = .ok ((Ty.sl u.er).mk (Ty.sl u.er).zc) w:=by simp[zeroValue,typeInfo,hi,hiz]
       have hsz:(Ty.sl u.er).size=1:=rfl
       have hzcell:((Ty.sl u.er).mk (Ty.sl u.er).zc).cells=#[.slice none 0 0]:=rfl
       simp only[Instr.buildSlice,Sem.run_bind,run_underlying hu,Result.andThen_ok,hfe.size w,hsz]
       simp[Instr.fill,hone,newRow]
       rw[hz]
       simp only[Result.andThen_ok,arr1]
     -- the new object
     obtain⟨A2,hA2⟩:∃ A2,A2=A.pushT (kap1 (.slice (some ⟨w.heap.size,0,none⟩) 1 1) κ) (fun b=>b=w.heap.size∨A.F j b):=⟨_,rfl⟩
     have hlt:∀ p b,(Ot.sl e' u).vp xs p→(κ p).ownBlock=some b→b<w.heap.size:=nd_lt tr.nd
     have hvp:∀ p,(Ot.sl e (.sl e' u)).vp [xs] p→p=[]∨∃ p',p=0::p'∧(Ot.sl e' u).vp xs p':=by
       intro p hp
       cases p with
       | nil=>exact .inl rfl
       | cons m p' =>
         obtain⟨y,hy,hp⟩:=hp
         have:m=0∧y=xs:=by
           cases m with
           | zero=>simp[ls] at hy;exact⟨rfl,hy.symm⟩
           | succ m=>simp[ls] at hy
         obtain⟨rfl,rfl⟩:=this
         exact .inr ⟨p',rfl,hp⟩
     have I1:=I.addL [j] (kap1 (.slice (some ⟨w.heap.size,0,none⟩) 1 1) κ) (fun b=>b=w.heap.size∨A.F j b) (.trow e (.sl e' u) [xs]) (w':=w.alloc (.cells #[A.η j] e)) (Same.alloc w _) (fun b hb _=>Ext.alloc w _ b hb)
       (fun b hb=>by
         rcases hb with rfl | hb
         · exact .inl ⟨Nat.le_refl _,by simp⟩
         · exact .inr ⟨j,o,List.mem_cons_self ..,hob,hlive,hb⟩) (fun hro=>by
         refine⟨by rw[Asg.push_κ,Asg.push_η],?_,?_,?_⟩
         · rw[Asg.push_κ]
           refine⟨⟨[[A.η j]],rfl,fun k y c hy hc => ?_,?_⟩,fun k y hy => ?_⟩
           · cases k with
             | zero =>
               simp only[List.getElem?_cons_zero,Option.some.injEq] at hc
               subst hc
               exact⟨rfl,congrArg (fun z=>[z]) hκ.symm⟩
             | succ k=>simp at hc
           · refine⟨rfl,.inr ⟨w.heap.size,1,_,rfl,Nat.zero_le _,heap_alloc_new w _,Nat.le_refl _,by decide,rfl,rfl⟩⟩
           · have:k=0∧y=xs:=by
               cases k with
               | zero=>simp[ls] at hy;exact⟨rfl,hy.symm⟩
               | succ k=>simp[ls] at hy
             obtain⟨rfl,rfl⟩:=this
             refine Ot.nd_keep (fun b hb=>⟨(hro b hb).1,Kb.of_eq (hro b hb).2⟩) (fun p b hp hb => ?_) tr.nd
             exact Cb.of_eq (Ext.alloc w _ b (hlt p b hp hb))
         · rw[Asg.push_κ]
           intro p p' b hp hp' hb hb'
           rcases hvp p hp with rfl | ⟨q,rfl,hq⟩<;>rcases hvp p' hp' with rfl | ⟨q',rfl,hq'⟩
           · rfl
           · have:=hlt q' b hq' hb'
             simp only[kap1,Value.ownBlock,Option.some.injEq] at hb;omega
           · have:=hlt q b hq hb
             simp only[kap1,Value.ownBlock,Option.some.injEq] at hb';omega
           · rw[tr.inj q q' b hq hq' hb hb']
         · rw[Asg.push_κ]
           intro p b hp hb
           refine (Asg.push_F ..).2 ?_
           rcases hvp p hp with rfl | ⟨q,rfl,hq⟩
           · simp only[kap1,Value.ownBlock,Option.some.injEq] at hb;exact .inl hb.symm
           · exact .inr (tr.F q b hq hb))
     refine⟨_,_,_,_,hk,I1.put (d:=dst) (s := .os st.ob.length) (v := .slice (some ⟨w.heap.size,0,none⟩) 1 1) ⟨by simp[Asg.pushT,hn],?_⟩,hr⟩
     rw[← hn,Asg.push_η];rfl
   · exact hk.elim
 · exact h.elim
def kap2(v:Value)(n:Nat)(κ κ':List Nat→Value):List Nat→Value
 | []=>v
 | k::p=>if k<n then κ (k::p) else κ' ((k - n)::p)
def apdT(E:Env)(st:St)(T:TypeId)(s:SV)(j:Nat)(dst:Option Nat)(k:St→Prop):Prop :=
 match E.ty T,E.el T,st.ob[j]? with
 | some (.sl t),some e,some (.trow e1 (.sl e2 u) ys)=>if e1=e∧t = .sl u.er then match s with
     | .nils=>List.length ys≤1000000000∧k (St.put { st with ob:=dropL [j] st.ob++[.trow e (.sl e2 u) ys] } dst (.os st.ob.length))
     | .os i=>match st.ob[i]? with
       | some (.trow e3 U xs)=>if h:U = .sl e2 u then if e3=e∧i≠j then List.length (h▸xs:(Ot.sl e (.sl e2 u)).D)+List.length ys≤1000000000 ∧
           k (St.put { st with ob:=dropL [i,j] st.ob++[.trow e (.sl e2 u) (List.append (h▸xs:(Ot.sl e (.sl e2 u)).D) ys)] } dst (.os st.ob.length)) else False else False
       | _=>False
     | _=>False
   else False
 | _,_,_=>False
theorem nd_src[Dn]{w:World}{ro:Nat→Prop}{e:TypeId}{u:Ot}{κ:List Nat→Value}{xs:(Ot.sl e u).D}(hn:(Ot.sl e u).nd w ro κ xs):∃ (Ad:Option Addr) (c:Nat) (css:List (List Value)),κ [] = .slice Ad (ls xs).length c∧css.length=(ls xs).length ∧
   (∀ (k:Nat) y cc,(ls xs)[k]?=some y→css[k]?=some cc→cc.length=u.size∧u.cl w ro (at_ κ k) y cc)∧w.ownsRow 0 e u.size (κ []) (ls xs).length css.flatten ∧
   ((ls xs)≠[]→∃ ad,Ad=some ad∧∀ j v,css.flatten[j]?=some v→w.cell? (ad.add j)=some v):=by
 obtain⟨⟨css,h1,h2,h3⟩,_⟩:=hn
 have h3':=h3
 obtain⟨hlen,h3⟩:=h3
 rcases h3 with ⟨he,h0⟩ | ⟨g,cap,cur,he,_,hh,hnc,hm,hcur,htake⟩
 · refine⟨none,0,css,by rw[he,h0],h1,h2,h3',fun hne => ?_⟩
   exact absurd (List.eq_nil_of_length_eq_zero h0) hne
 · refine⟨_,cap,css,he,h1,h2,h3',fun _=>⟨_,rfl,fun j v hj => ?_⟩⟩
   rw[addr_add,cell_of_row w g _ cur e (0,0) hh]
   rw[← htake,List.getElem?_take] at hj
   split at hj
   · simpa using hj
   · cases hj
theorem own_one{w:World}{e:TypeId}{n:Nat}{size:Nat}{v:Value}{css:List Value}(h:w.ownsRow 0 e size v n css):v.oneCell'=true:=by
 rcases h.2 with ⟨h,_⟩ | ⟨g,cap,cur,h,_⟩<;>rw[h]<;>rfl
theorem apdT_core[Dn]{P:Program}{E:Env}(hE:EnvOk P E){w0:World}{M:Ms}{R0:Nat→Prop}{A:Asg}{st:St}{a:Act}{w:World}(I:Inv w0 M R0 A st a w){T ty e e2:TypeId}{u:Ot}(ht:E.ty T=some (.sl (.sl u.er)))(he:E.el T=some e)
   {D:List Nat} {κ κ':List Nat→Value} {F F':Nat→Prop} {xs ys:(Ot.sl e (.sl e2 u)).D} (tr:TreeOk w (Ro R0 w0.heap.size A st.ob w) κ F xs) (tr':TreeOk w (Ro R0 w0.heap.size A st.ob w) κ' F' ys)
   (hF:∀ b,F b→∃ i o',i∈D∧st.ob[i]?=some o'∧o'.live=true∧A.F i b) (hF':∀ b,F' b→∃ i o',i∈D∧st.ob[i]?=some o'∧o'.live=true∧A.F i b) (hd:∀ b,F b→F' b→False)
   (hlen:(ls xs).length+(ls ys).length≤1000000000) (dst:Option Nat) :
   ∃ A' v' w',Inv w0 M R0 A' (St.put { st with ob:=dropL D st.ob++[.trow e (.sl e2 u) (List.append (ls xs) (ls ys))] } dst (.os st.ob.length)) (a.put dst v') w'∧(Builtin.append_ #[T,T] ty #[κ [],κ' []]).run P w = .ok v' w':=by
 obtain⟨_,e',hu',hfe⟩:=hE.ty _ _ ht
 have hu:=hE.el _ _ he
 rw[hu] at hu';injection hu' with hu';injection hu' with hu';subst hu'
 obtain⟨i,hi,his,hiz,hib⟩:=hfe.info
 have hn:A.n=st.ob.length:=I.num
 obtain⟨Ad1,c1,cs1,hκ1,hl1,hc1,hown1,_⟩:=nd_src tr.nd
 obtain⟨Ad2,c2,cs2,hκ2,hl2,hc2,hown2,hsrc⟩:=nd_src tr'.nd
 have hzc:((Ty.sl u.er).mk (Ty.sl u.er).zc).cells.size=1:=rfl
 have hlt1:∀ p b,(Ot.sl e (.sl e2 u)).vp xs p→(κ p).ownBlock=some b→b<w.heap.size:=nd_lt tr.nd
 have hlt2:∀ p b,(Ot.sl e (.sl e2 u)).vp ys p→(κ' p).ownBlock=some b→b<w.heap.size:=nd_lt tr'.nd
 -- the run
 have hrun:∃ v' w',(Builtin.append_ #[T,T] ty #[κ [],κ' []]).run P w = .ok v' w'∧w'.ownsRow 0 e 1 v' ((ls xs).length+(ls ys).length) (cs1.flatten++cs2.flatten)∧w.grownBy w' (κ []).ownBlock ∧
     (v'.ownBlock=(κ []).ownBlock∨v'.ownBlock=some w.heap.size):=by
   have hbb:((ls xs).length+(ls ys).length)*i.bytes≤140737488355328:=by
     have h1:(Ty.sl u.er).size=1:=rfl
     have:i.bytes≤2048:=by rw[h1] at hib;omega
     have h3:((ls xs).length+(ls ys).length)*i.bytes≤1000000000*2048:=Nat.mul_le_mul hlen this
     omega
   by_cases hne:(ls ys)=[]
   · have hcs:cs2=[]:=List.eq_nil_of_length_eq_zero (by rw[hl2,hne];rfl)
     subst hcs
     cases Ad2 with
     | none =>
       have hr:=run_append_none (P:=P) w (T:=T) (ty:=ty) hu hi hown1 c2
       rw[hκ2,hne]
       have hown1':w.ownsRow 0 e 1 (κ []) (ls xs).length cs1.flatten:=hown1
       exact⟨κ [],w,hr,by simpa using hown1',World.grownBy.refl w _,.inl rfl⟩
     | some ad =>
       obtain⟨v',w',hr,k1,k2,_,k4⟩:=run_append_own_at (P:=P) w 0 T ty e i ((Ty.sl u.er).mk (Ty.sl u.er).zc) 1 i.bytes hu hi hiz his rfl hzc (by decide) (κ []) (ls xs).length cs1.flatten hown1 ad (ls ys).length c2 [] (by rw[hne];rfl) (fun j u hj=>by simp at hj) (fun u hu=>by simp at hu)
         (by simp only[maxLen];omega) hbb (Nat.zero_le _)
       rw[hκ2]
       exact⟨v',w',hr,by simpa using k1,k2,k4⟩
   · obtain⟨ad,rfl,hcl⟩:=hsrc hne
     obtain⟨v',w',hr,k1,k2,_,k4⟩:=run_append_own_at (P:=P) w 0 T ty e i ((Ty.sl u.er).mk (Ty.sl u.er).zc) 1 i.bytes hu hi hiz his rfl hzc (by decide) (κ []) (ls xs).length cs1.flatten hown1 ad (ls ys).length c2 cs2.flatten hown2.1 hcl (fun z hz=>by
         obtain⟨l,hl,hzl⟩:=List.mem_flatten.1 hz
         obtain⟨q,hq⟩:=List.getElem?_of_mem hl
         have hqlt:q<(ls ys).length:=by rw[← hl2];exact (List.getElem?_eq_some_iff.1 hq).1
         obtain⟨_,k2⟩:=hc2 q _ l (List.getElem?_eq_getElem hqlt) hq
         have k2':l=[κ' [q]]:=k2
         subst k2'
         have:z=κ' [q]:=by simpa using hzl
         subst this
         obtain⟨⟨css,_,_,h3⟩,_⟩:=tr'.nd.2 q _ (List.getElem?_eq_getElem hqlt)
         exact own_one h3)
       (by simp only[maxLen];omega) hbb (Nat.zero_le _)
     rw[hκ2]
     exact⟨v',w',hr,k1,k2,k4⟩
 obtain⟨v',w',hr,hown,hg,hat⟩:=hrun
 have hxs:∀ {k:Nat} {y},(List.append (ls xs) (ls ys))[k]?=some y→(k<(ls xs).length∧(ls xs)[k]?=some y)∨(¬ k<(ls xs).length∧(ls ys)[k - (ls xs).length]?=some y):=by
   intro k y hy
   have hy:(ls xs++ls ys)[k]?=some y:=hy
   by_cases hk:k<(ls xs).length
   · rw[List.getElem?_append_left hk] at hy;exact .inl ⟨hk,hy⟩
   · rw[List.getElem?_append_right (by omega)] at hy;exact .inr ⟨hk,hy⟩
 have hvp:∀ p,(Ot.sl e (.sl e2 u)).vp (List.append (ls xs) (ls ys)) p→p=[]∨(∃ k q,p=k::q∧k<(ls xs).length∧(Ot.sl e (.sl e2 u)).vp xs p)∨∃ k q,p=k::q∧¬ k<(ls xs).length∧(Ot.sl e (.sl e2 u)).vp ys ((k - (ls xs).length)::q):=by
   intro p hp
   cases p with
   | nil=>exact .inl rfl
   | cons k q =>
     obtain⟨y,hy,hp⟩:=hp
     rcases hxs hy with ⟨h1,h2⟩ | ⟨h1,h2⟩
     · exact .inr (.inl ⟨k,q,rfl,h1,y,h2,hp⟩)
     · exact .inr (.inr ⟨k,q,rfl,h1,y,h2,hp⟩)
 have hsame:Same w w':=⟨hg.os,hg.tape,hg.output,hg.size,fun _=>run_drawn P _ _ hr⟩
 have hkeep:∀ b,b<w.heap.size→(κ []).ownBlock≠some b→w'.heap[b]?=w.heap[b]?:=fun b hb hne=>hg.block b hb (fun h=>hne h.symm)
 -- blocks of what hangs
 have hb1:∀ {k:Nat} {q:List Nat} {b:Nat},(Ot.sl e (.sl e2 u)).vp xs (k::q)→(κ (k::q)).ownBlock=some b→(κ []).ownBlock≠some b:=by
   intro k q b hp hb h
   have:=tr.inj [] (k::q) b trivial hp h hb
   cases this
 have hb2:∀ {p:List Nat} {b:Nat},(Ot.sl e (.sl e2 u)).vp ys p→(κ' p).ownBlock=some b→(κ []).ownBlock≠some b:=fun hp hb h=>hd _ (tr.F [] _ trivial h) (tr'.F _ _ hp hb)
 have I1:=I.addL D (kap2 v' (ls xs).length κ κ') (fun b=>v'.ownBlock=some b∨F b∨F' b) (.trow e (.sl e2 u) (List.append (ls xs) (ls ys))) (w':=w') hsame (fun b hb hno=>hkeep b hb (fun h=>by
     obtain⟨i',o',k1,k2,k3,k4⟩:=hF b (tr.F [] b trivial h)
     exact hno i' o' k1 k2 k3 k4)) (fun b hb=>by
     rcases hb with hb | hb | hb
     · rcases hat with h | h
       · rw[h] at hb;exact .inr (hF b (tr.F [] b trivial hb))
       · have:=(hown.lt b hb).2
         rw[hb] at h;injection h with h;subst h
         exact .inl ⟨Nat.le_refl _,this⟩
     · exact .inr (hF b hb)
     · exact .inr (hF' b hb)) (fun hro=>by
     refine⟨by rw[Asg.push_κ,Asg.push_η],?_,?_,?_⟩
     · rw[Asg.push_κ]
       refine⟨⟨cs1++cs2,?_,fun k y c hy hc => ?_,?_⟩,fun k y hy => ?_⟩
       · rw[List.length_append,hl1,hl2];exact List.length_append.symm
       · rcases hxs hy with ⟨h1,h2⟩ | ⟨h1,h2⟩
         · rw[List.getElem?_append_left (by omega)] at hc
           obtain⟨m1,m2⟩:=hc1 k y c h2 hc
           refine⟨m1,?_⟩
           have m2':c=[κ [k]]:=m2
           show c=[kap2 v' (ls xs).length κ κ' [k]]
           rw[m2'];simp only[kap2,if_pos h1]
         · rw[List.getElem?_append_right (by omega),hl1] at hc
           obtain⟨m1,m2⟩:=hc2 _ y c h2 hc
           refine⟨m1,?_⟩
           have m2':c=[κ' [k - (ls xs).length]]:=m2
           show c=[kap2 v' (ls xs).length κ κ' [k]]
           rw[m2'];simp only[kap2,if_neg h1]
       · have hl:(ls (e:=e) (u := .sl e2 u) (List.append (ls xs) (ls ys))).length=(ls xs).length+(ls ys).length:=List.length_append
         rw[hl,List.flatten_append]
         exact hown
       · rcases hxs hy with ⟨h1,h2⟩ | ⟨h1,h2⟩
         · have e1:at_ (kap2 v' (ls xs).length κ κ') k=at_ κ k:=by funext q;simp only[at_,kap2,if_pos h1]
           rw[e1]
           refine Ot.nd_keep (fun b hb=>⟨(hro b hb).1,Kb.of_eq (hro b hb).2⟩) (fun p b hp hb => ?_) (tr.nd.2 k y h2)
           have hp':(Ot.sl e (.sl e2 u)).vp xs (k::p):=⟨y,h2,hp⟩
           exact Cb.of_eq (hkeep b (hlt1 _ b hp' hb) (hb1 hp' hb))
         · have e1:at_ (kap2 v' (ls xs).length κ κ') k=at_ κ' (k - (ls xs).length):=by funext q;simp only[at_,kap2,if_neg h1]
           rw[e1]
           refine Ot.nd_keep (fun b hb=>⟨(hro b hb).1,Kb.of_eq (hro b hb).2⟩) (fun p b hp hb => ?_) (tr'.nd.2 _ y h2)
           have hp':(Ot.sl e (.sl e2 u)).vp ys ((k - (ls xs).length)::p):=⟨y,h2,hp⟩
           exact Cb.of_eq (hkeep b (hlt2 _ b hp' hb) (hb2 hp' hb))
     · rw[Asg.push_κ]
       -- where the head lies
       have hhead:∀ {b:Nat},v'.ownBlock=some b→(κ []).ownBlock=some b∨w.heap.size≤b:=by
         intro b hb
         rcases hat with h | h
         · exact .inl (h▸hb)
         · rw[hb] at h;injection h with h;exact .inr (by omega)
       intro p p' b hp hp' hb hb'
       rcases hvp p hp with rfl | ⟨k,q,rfl,h1,h2⟩ | ⟨k,q,rfl,h1,h2⟩<;>rcases hvp p' hp' with rfl | ⟨k',q',rfl,h1',h2'⟩ | ⟨k',q',rfl,h1',h2'⟩
       · rfl
       · simp only[kap2,if_pos h1'] at hb hb'
         rcases hhead hb with h | h
         · exact absurd h (hb1 h2' hb')
         · have:=hlt1 _ b h2' hb';omega
       · simp only[kap2,if_neg h1'] at hb hb'
         rcases hhead hb with h | h
         · exact absurd h (hb2 h2' hb')
         · have:=hlt2 _ b h2' hb';omega
       · simp only[kap2,if_pos h1] at hb hb'
         rcases hhead hb' with h | h
         · exact absurd h (hb1 h2 hb)
         · have:=hlt1 _ b h2 hb;omega
       · simp only[kap2,if_pos h1,if_pos h1'] at hb hb'
         exact tr.inj _ _ b h2 h2' hb hb'
       · simp only[kap2,if_pos h1,if_neg h1'] at hb hb'
         exact (hd b (tr.F _ b h2 hb) (tr'.F _ b h2' hb')).elim
       · simp only[kap2,if_neg h1] at hb hb'
         rcases hhead hb' with h | h
         · exact absurd h (hb2 h2 hb)
         · have:=hlt2 _ b h2 hb;omega
       · simp only[kap2,if_neg h1,if_pos h1'] at hb hb'
         exact (hd b (tr.F _ b h2' hb') (tr'.F _ b h2 hb)).elim
       · simp only[kap2,if_neg h1,if_neg h1'] at hb hb'
         have:=tr'.inj _ _ b h2 h2' hb hb'
         injection this with e1 e2
         rw[e2,show k=k' by omega]
     · rw[Asg.push_κ]
       intro p b hp hb
       refine (Asg.push_F ..).2 ?_
       rcases hvp p hp with rfl | ⟨k,q,rfl,h1,h2⟩ | ⟨k,q,rfl,h1,h2⟩
       · exact .inl hb
       · simp only[kap2,if_pos h1] at hb;exact .inr (.inl (tr.F _ b h2 hb))
       · simp only[kap2,if_neg h1] at hb;exact .inr (.inr (tr'.F _ b h2 hb)))
 refine⟨_,v',w',I1.put (d:=dst) (s := .os st.ob.length) (v:=v') ⟨by simp[Asg.pushT,hn],?_⟩,hr⟩
 rw[← hn,Asg.push_η];rfl
theorem apdT_ok[Dn]{P:Program}{E:Env}(hE:EnvOk P E){w0:World}{M:Ms}{R0:Nat→Prop}{A:Asg}{st:St}{a:Act}{w:World}(I:Inv w0 M R0 A st a w){T ty:TypeId}{s:SV}{j:Nat}{v vx:Value}
   (hs:SvOk w (Ro R0 w0.heap.size A st.ob w) A s v) (hx:SvOk w (Ro R0 w0.heap.size A st.ob w) A (.os j) vx) {dst:Option Nat} {k:St→Prop} (h:apdT E st T s j dst k) :
   ∃ A' st' v' w',k st'∧Inv w0 M R0 A' st' (a.put dst v') w'∧(Builtin.append_ #[T,T] ty #[v,vx]).run P w = .ok v' w':=by
 unfold apdT at h
 split at h
 · rename_i t e e1 e2 u ys ht he hobj
   split at h
   · rename_i hh
     obtain⟨rfl,rfl⟩:=hh
     obtain⟨_,rfl⟩:=hx
     obtain⟨q1,q2,q3,q4⟩:=I.ob j _ hobj
     have tr':TreeOk w (Ro R0 w0.heap.size A st.ob w) (A.κ j) (A.F j) ys:=⟨q2,q3,q4⟩
     split at h
     · obtain⟨hl,hk⟩:=h
       have hs':v = .slice none 0 0:=hs
       subst hs'
       have tr:TreeOk w (Ro R0 w0.heap.size A st.ob w) (fun _ => .slice none 0 0) (fun _=>False) (e:=e1) (u := .sl e2 u) ([]:List (Ot.sl e2 u).D) :=
         ⟨⟨⟨[],rfl,fun k y c hy=>by simp[ls] at hy,World.ownsRow_nil w 0 e1 _⟩,fun k y hy=>by simp[ls] at hy⟩,fun p p' b _ _ hb=>by simp[Value.ownBlock] at hb,fun p b _ hb=>by simp[Value.ownBlock] at hb⟩
       obtain⟨A',v',w',hI,hr⟩:=apdT_core hE I (ty:=ty) (D:=[j]) ht he tr tr' (fun b hb=>hb.elim) (fun b hb=>⟨j,_,List.mem_cons_self ..,hobj,rfl,hb⟩) (fun b hb _=>hb) (by simpa using hl) dst
       rw[q1] at hr
       exact⟨A',_,v',w',hk,hI,hr⟩
     · rename_i i
       split at h
       · rename_i e3 U xs hobi
         split at h
         · rename_i hU;subst hU
           split at h
           · rename_i hij
             obtain⟨rfl,hij⟩:=hij
             obtain⟨hl,hk⟩:=h
             obtain⟨_,rfl⟩:=hs
             obtain⟨r1,r2,r3,r4⟩:=I.ob i _ hobi
             have tr:TreeOk w (Ro R0 w0.heap.size A st.ob w) (A.κ i) (A.F i) xs:=⟨r2,r3,r4⟩
             obtain⟨A',v',w',hI,hr⟩:=apdT_core hE I (ty:=ty) (D:=[i,j]) ht he tr tr' (fun b hb=>⟨i,_,List.mem_cons_self ..,hobi,rfl,hb⟩) (fun b hb=>⟨j,_,List.mem_cons_of_mem _ (List.mem_cons_self ..),hobj,rfl,hb⟩)
               (fun b hb hb'=>hij (I.dj i j _ _ b hobi hobj rfl rfl hb hb')) hl dst
             rw[q1,r1] at hr
             exact⟨A',_,v',w',hk,hI,hr⟩
           · exact h.elim
         · exact h.elim
       · exact h.elim
     · exact h.elim
   · exact h.elim
 · exact h.elim
def Ot.wr(t0:Ty)(kk:Nat)(q:List Nat)(y:Dat):(u:Ot)→u.D→List Nat→Option u.D
 | .sl _ (.d t1),xs,[]=>if h:t1=t0 then match upd t0 (h▸(List.getD (ls xs) kk t1.z:t1.D)) q y with
     | some x'=>some (List.set (ls xs) kk (h▸x':t1.D))
     | none=>none
   else none
 | .sl _ u,xs,m::p=>match decide (m<List.length (ls xs)) with
   | true=>match u.wr t0 kk q y (List.getD (ls xs) m u.er.z) p with
     | some x'=>some (List.set (ls xs) m x')
     | none=>none
   | false=>none
 | _,_,_=>none
def taI:SV→Option (Ty×Nat×List Nat×Nat×List Nat)
 | .ta t i p k q=>some (t,i,p,k,q)
 | _=>none
theorem taI_ok{s:SV}{t:Ty}{i:Nat}{p:List Nat}{k:Nat}{q:List Nat}(h:taI s=some (t,i,p,k,q)):s = .ta t i p k q:=by
 unfold taI at h
 split at h
 · injection h with h;injection h with h1 h;injection h with h2 h;injection h with h3 h;injection h with h4 h5
   subst h1;subst h2;subst h3;subst h4;subst h5;rfl
 · cases h
def Ot.wrK(t0:Ty)(kk:Nat)(q:List Nat)(y:Dat):(u:Ot)→u.D→List Nat→(u.D→Prop)→Prop
 | .sl _ (.d t1),xs,[],K=>if h:t1=t0 then match upd t0 (h▸(List.getD (ls xs) kk t1.z:t1.D)) q y with
     | some x'=>K (List.set (ls xs) kk (h▸x':t1.D))
     | none=>False
   else False
 | .sl _ u,xs,m::p,K=>m<List.length (ls xs)∧u.wrK t0 kk q y (List.getD (ls xs) m u.er.z) p fun x'=>K (List.set (ls xs) m x')
 | _,_,_,_=>False
theorem wrK_ok{t0:Ty}{kk:Nat}{q:List Nat}{y:Dat}:∀ {U:Ot} {xs:U.D} {p:List Nat} {K:U.D→Prop},U.wrK t0 kk q y xs p K→∃ xs',U.wr t0 kk q y xs p=some xs'∧K xs':=by
 intro U
 induction U with
 | d t=>intro xs p K h;cases p<;>exact h.elim
 | sl e u ih =>
   intro xs p K h
   cases p with
   | nil =>
     cases u with
     | sl e2 u2=>exact h.elim
     | d t1 =>
       unfold Ot.wrK at h
       split at h
       · rename_i ht;subst ht
         split at h
         · rename_i x' hu
           exact⟨_,by unfold Ot.wr;rw[dif_pos rfl];simp only;rw[hu],h⟩
         · exact h.elim
       · exact h.elim
   | cons m p =>
     have hdef:(Ot.sl e u).wr t0 kk q y xs (m::p)=(match decide (m<List.length (ls xs)) with
       | true=>match u.wr t0 kk q y (List.getD (ls xs) m u.er.z) p with
         | some x'=>some (List.set (ls xs) m x')
         | none=>none
       | false=>none):=by cases u<;>rfl
     have hk:m<List.length (ls xs)∧u.wrK t0 kk q y (List.getD (ls xs) m u.er.z) p fun x'=>K (List.set (ls xs) m x'):=by cases u<;>exact h
     obtain⟨x',h1,h2⟩:=ih hk.2
     exact⟨_,by rw[hdef,decide_eq_true hk.1];simp only;rw[h1],h2⟩
def stT(st:St)(t:Ty)(x:SV)(t0:Ty)(i:Nat)(p:List Nat)(kk:Nat)(q:List Nat)(k:St→Prop):Prop :=
 match st.ob[i]? with
 | some (.trow e u xs)=>match asT t x with
   | some y=>(Ot.sl e u).wrK t0 kk q ⟨t,y⟩ xs p fun xs'=>k (st.setOb i (.trow e u xs'))
   | none=>False
 | _=>False
theorem wr_ok[Dn]{w:World}{ro:Nat→Prop}{t0:Ty}{kk:Nat}{q:List Nat}{y:Dat}{v:Value}(hy:y.t.okV w ro y.x v):∀ {U:Ot} {κ:List Nat→Value} {xs xs':U.D} {p:List Nat},
   U.nd w ro κ xs→(∀ p p' b,U.vp xs p→U.vp xs p'→(κ p).ownBlock=some b→(κ p').ownBlock=some b→p=p')→U.wr t0 kk q y xs p=some xs' →
   ∀ {g n c o:Nat} {t':Ty},κ p = .slice (some ⟨g,0,none⟩) n c→kk<n→off t0 q=some (o,t')→vq t0 q →
   ∃ (cur:Array Value) (e1:TypeId),w.heap[g]?=some (.cells cur e1 (0,0))∧kk*t0.size+o+t'.size≤cur.size∧U.vp xs p∧t'=y.t ∧
     (∀ (w':World) (ro':Nat→Prop),(∀ b,ro b→ro' b∧Kb w w' b)→(∀ b,b≠g→b<w.heap.size→w'.heap[b]?=w.heap[b]?)→w'.heap[g]?=some (.cells (spl cur.toList (kk*t0.size+o) v.cells.toList).toArray e1 (0,0))→U.nd w' ro' κ xs') ∧
     ∀ p',U.vp xs' p'↔U.vp xs p':=by
 intro U
 induction U with
 | d t=>intro κ xs xs' p _ _ h;cases p<;>simp[Ot.wr] at h
 | sl e u ih =>
   intro κ xs xs' p hnd hinj h g n c o t' hκ hkn ho hv
   cases p with
   | nil =>
     cases u with
     | sl e2 u2=>simp[Ot.wr] at h
     | d t1 =>
       unfold Ot.wr at h
       split at h
       · rename_i ht;subst ht
         split at h
         · rename_i x' hu
           injection h with h;subst h
           obtain⟨⟨css,hl,hc,hown⟩,_⟩:=hnd
           rw[hκ] at hown
           have hoks:Oks (fun x u=>u.length=t1.size∧t1.ok w ro x u) (ls xs) css:=⟨hl,fun k y c hy hcc=>hc k y c hy hcc⟩
           obtain⟨hlen,hown⟩:=hown
           rcases hown with ⟨he,_⟩ | ⟨g',cap,cur,he,hb0,hh,hnc,hcm,hcur,htake⟩
           · cases he
           injection he with he1 he2 he3
           injection he1 with he1;injection he1 with he1;subst he1;subst he2;subst he3
           obtain⟨o',ho'⟩:=off_of_upd hu
           rw[ho] at ho';injection ho' with ho';injection ho' with e1 e2;subst e1;subst e2
           have hsz:(Ot.d t1).size=t1.size:=rfl
           rw[hsz] at hlen hcur htake
           obtain⟨us,hus,hul,huo⟩:=hoks.at_ hkn t1.z
           obtain⟨_,_,hl2,_⟩:=sub_ok huo hv ho
           have hb:(kk+1)*t1.size≤(ls xs).length*t1.size:=Nat.mul_le_mul_right _ hkn
           rw[Nat.add_mul] at hb
           have hcb:(ls xs).length*t1.size≤c*t1.size:=Nat.mul_le_mul_right _ hnc
           have hvl:=ok_len (okV_cells hy)
           have hnew:=upd_ok huo hv ho hu (okV_cells hy)
           have hnl:=ok_len hnew
           refine⟨cur,e,hh,by omega,trivial,rfl,fun w' ro' hr hbk hg => ?_,fun p' => ?_⟩
           · have hkc:kk<css.length:=by rw[hl];exact hkn
             have hfs:=flat_set hoks.all hkc hnl
             have hfa:=flat_at hoks.all hus
             have hfl:css.flatten.length=(ls xs).length*t1.size:=hlen
             rw[← hfa,spl_spl _ _ _ _ _ (by omega) (by omega)] at hfs
             have hoks2:=hoks.set_ kk (y:=x') (v:=spl us o v.cells.toList) ⟨hnl,hnew⟩
             refine⟨⟨css.set kk (spl us o v.cells.toList),?_,fun k y c hy2 hc2 => ?_,?_⟩,fun _ _ _=>trivial⟩
             · rw[List.length_set,hl];exact (List.length_set ..).symm
             · obtain⟨m1,m2⟩:=hoks2.2 k y c hy2 hc2
               exact⟨m1,ok_grow (fun b hb=>(hr b hb).1) (fun a u hb=>(hr _ hb).2 a u rfl) m2⟩
             · rw[hκ]
               have hls:(ls (e:=e) (u := .d t1) (List.set (ls xs) kk x')).length=(ls xs).length:=List.length_set ..
               rw[hls]
               refine⟨by rw[← hfa,hfs,spl_len _ _ _ (by omega),hfl,hsz],.inr ⟨g,c,_,rfl,hb0,hg,hnc,hcm,?_,?_⟩⟩
               · have:=spl_len cur.toList (kk*t1.size+o) v.cells.toList (by simp only[Array.length_toList] at hvl ⊢;omega)
                 rw[hsz]
                 simpa [hcur] using this
               · rw[hsz,← hfa,hfs,← htake]
                 simp only
                 rw[spl_take _ _ _ _ (by omega) (by simp only[Array.length_toList] at hvl ⊢;omega)]
           · cases p' with
             | nil=>exact Iff.rfl
             | cons m p' =>
               constructor
               · intro h
                 have h2:m::p'=[]:=vp_d h
                 cases h2
               · intro h
                 have h2:m::p'=[]:=vp_d h
                 cases h2
         · cases h
       · cases h
   | cons m p =>
     have hdef:(Ot.sl e u).wr t0 kk q y xs (m::p)=(match decide (m<List.length (ls xs)) with
       | true=>match u.wr t0 kk q y (List.getD (ls xs) m u.er.z) p with
         | some x'=>some (List.set (ls xs) m x')
         | none=>none
       | false=>none):=by cases u<;>rfl
     rw[hdef] at h
     split at h
     · rename_i hm
       have hm:=of_decide_eq_true hm
       split at h
       · rename_i x' hx'
         injection h with h;subst h
         have hget:=getD_some (z:=u.er.z) hm
         have hndm:=hnd.2 m _ hget
         obtain⟨cur,e1,k1,k2,k3,k4,k5,k6⟩:=ih hndm (fun p1 p2 b h1 h2 hb1 hb2=>by
           have:=hinj (m::p1) (m::p2) b ⟨_,hget,h1⟩ ⟨_,hget,h2⟩ hb1 hb2
           injection this) hx' hκ hkn ho hv
         have hgb:(κ (m::p)).ownBlock=some g:=by rw[hκ];rfl
         have hvm:(Ot.sl e u).vp xs (m::p):=⟨_,hget,k3⟩
         have hlx:(ls (e:=e) (u:=u) (List.set (ls xs) m x')).length=(ls xs).length:=List.length_set ..
         -- what hangs is itself an own slice
         obtain⟨e3,u3,rfl⟩:∃ e3 u3,u=Ot.sl e3 u3:=by
           cases u with
           | d t=>cases p<;>simp[Ot.wr] at hx'
           | sl e3 u3=>exact⟨e3,u3,rfl⟩
         refine⟨cur,e1,k1,k2,hvm,k4,fun w' ro' hr hbk hg => ?_,fun p' => ?_⟩
         · obtain⟨⟨css,hl,hc,hown⟩,hsub⟩:=hnd
           refine⟨⟨css,by rw[hl];exact hlx.symm,fun k y c hy2 hc2 => ?_,?_⟩,fun k y hy2 => ?_⟩
           · have hkl:k<(ls xs).length:=by rw[← hl];exact (List.getElem?_eq_some_iff.1 hc2).1
             obtain⟨m1,m2⟩:=hc k _ c (List.getElem?_eq_getElem hkl) hc2
             exact⟨m1,m2⟩
           · rw[hlx]
             refine ownsRow_keep (fun b hb=>Cb.of_eq (hbk b ?_ (hown.lt b hb).2)) hown
             rintro rfl
             have:=hinj [] (m::p) b trivial hvm hb hgb
             cases this
           · by_cases hkm:m=k
             · subst hkm
               have hy2':(List.set (ls xs) m x')[m]?=some y:=hy2
               rw[List.getElem?_set_self hm] at hy2'
               injection hy2' with hy2';subst hy2'
               exact k5 w' ro' hr hbk hg
             · have hy2':(List.set (ls xs) m x')[k]?=some y:=hy2
               rw[List.getElem?_set_ne hkm] at hy2'
               refine Ot.nd_keep hr (fun p1 b hp1 hb1 => ?_) (hsub k y hy2')
               refine Cb.of_eq (hbk b ?_ (nd_lt (hsub k y hy2') p1 b hp1 hb1))
               rintro rfl
               have:=hinj (k::p1) (m::p) b ⟨_,hy2',hp1⟩ hvm hb1 hgb
               injection this with e4 e5
               exact hkm e4.symm
         · cases p' with
           | nil=>exact Iff.rfl
           | cons k p1 =>
             constructor
             · rintro⟨y2,hy2,hp2⟩
               have hy2':(List.set (ls xs) m x')[k]?=some y2:=hy2
               by_cases hkm:m=k
               · subst hkm
                 rw[List.getElem?_set_self hm] at hy2'
                 injection hy2' with hy2';subst hy2'
                 exact⟨_,hget,(k6 p1).1 hp2⟩
               · rw[List.getElem?_set_ne hkm] at hy2'
                 exact⟨y2,hy2',hp2⟩
             · rintro⟨y2,hy2,hp2⟩
               by_cases hkm:m=k
               · subst hkm
                 have:y2=List.getD (ls xs) m (Ot.sl e3 u3).er.z:=by rw[hget] at hy2;injection hy2 with hy2;exact hy2.symm
                 subst this
                 exact⟨x',List.getElem?_set_self hm,(k6 p1).2 hp2⟩
               · exact⟨y2,by show (List.set (ls xs) m x')[k]?=_;rw[List.getElem?_set_ne hkm];exact hy2,hp2⟩
       · cases h
     · cases h
theorem stT_ok[Dn]{P:Program}{T:TypeId}{w0:World}{M:Ms}{R0:Nat→Prop}{A:Asg}{st:St}{a:Act}{w:World}(I:Inv w0 M R0 A st a w){t:Ty}(hf:Fit P t (.inl T)){t0:Ty}{i:Nat}{p:List Nat}{kk:Nat}{q:List Nat}
   {x:SV} {v u:Value} (hs:SvOk w (Ro R0 w0.heap.size A st.ob w) A (.ta t0 i p kk q) v) (hx:SvOk w (Ro R0 w0.heap.size A st.ob w) A x u) {k:St→Prop} (h:stT st t x t0 i p kk q k) :
   ∃ st' w',k st'∧Inv w0 M R0 A st' a w'∧(Instr.storeAt T v u).run P w = .ok () w':=by
 unfold stT at h
 split at h
 · rename_i e U xs hob
   split at h
   · rename_i y hy
     · obtain⟨xs',hw,hk⟩:=wrK_ok h
       have hyv:=asT_ok hy hx
       obtain⟨_,g,n,c,o,t',hκ,hkn,ho,hv,rfl⟩:=hs
       obtain⟨r1,r2,r3,r4⟩:=I.ob i _ hob
       obtain⟨cur,e1,k1,k2,k3,k4,k5,k6⟩:=wr_ok (y:=⟨t,y⟩) hyv r2 r3 hw hκ hkn ho hv
       subst k4
       have hFg:A.F i g:=r4 p g k3 (by rw[hκ];rfl)
       have hr:=run_storeVar hf hyv k1 (o:=kk*t0.size+o) k2
       refine⟨_,w.setRow g (spl cur.toList (kk*t0.size+o) u.cells.toList).toArray,hk,I.mod (.trow e U xs') hob rfl (Same.setRow w g _) (fun b hb hF=>setRow_other w g b _ (fun hbg=>hF (hbg▸hFg))) (fun hro => ?_),by simp[Instr.storeAt,Instr.sureAddr,hr]⟩
       refine⟨r1,k5 _ _ (fun b hb=>⟨(hro b hb).1,Kb.of_eq (hro b hb).2⟩) (fun b hb _=>setRow_other w g b _ hb) (setRow_heap w g cur _ e1 _ k1),fun p1 p2 b h1 h2 hb1 hb2=>r3 p1 p2 b ((k6 p1).1 h1) ((k6 p2).1 h2) hb1 hb2,fun p1 b h1 hb1=>r4 p1 b ((k6 p1).1 h1) hb1⟩
   · exact h.elim
 · exact h.elim
def ownP(st:St):List (Nat×SV)→Option Nat
 | [(0,.os j)]=>match st.ob[j]? with
   | some (.row _ _ _)=>some j
   | some (.trow _ _ _)=>some j
   | _=>none
 | _=>none
theorem ownP_ok{st:St}{l:List (Nat×SV)}{j:Nat}(h:ownP st l=some j):l=[(0,.os j)]:=by
 unfold ownP at h
 split at h
 · split at h
   · injection h with h;subst h;rfl
   · injection h with h;subst h;rfl
   · cases h
 · cases h
def ownX(st:St):SV→Option Nat
 | .os j=>match st.ob[j]? with
   | some (.trow _ _ _)=>some j
   | _=>none
 | _=>none
theorem ownX_ok{st:St}{s:SV}{j:Nat}(h:ownX st s=some j):s = .os j:=by
 unfold ownX at h
 split at h
 · split at h
   · injection h with h;subst h;rfl
   · cases h
 · cases h
end Go.Vc
