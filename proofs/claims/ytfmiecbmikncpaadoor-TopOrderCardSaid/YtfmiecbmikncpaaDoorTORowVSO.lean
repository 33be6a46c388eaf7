import Derived.Test.YtfmiecbmikncpaaDoorTORowVQ
import Derived.Test.YtfmiecbmikncpaaDoorTORowVNB
import Derived.Shelf.SlSortCmp.NoneTotal
namespace Go.Vc
open Go.RowKit Go.Proofs Go.Shelf Go.Sort
def uncD:(t:Ty)→t.D→List Dat
 | .pr a b,x=>⟨a,x.1⟩::uncD b x.2
 | _,_=>[]
theorem uncD_ok{w:World}{ro:Nat→Prop}:∀ {t:Ty} {x:t.D} {cs:List Value},capT t=true→t.ok w ro x cs→DOk w ro (uncD t x) cs:=by
 intro t
 induction t with
 | pr a b _ ih =>
   intro x cs hc h
   obtain⟨c1,c2,rfl,h1,h2⟩:=h
   simp only[capT,Bool.and_eq_true,Bool.not_eq_true'] at hc
   have hl:=ok_len h1
   rw[size_one hc.1] at hl
   match c1,hl with
   | [v],_ =>
     obtain⟨k1,k2⟩:=ih hc.2 h2
     refine⟨by simp[uncD,k1],fun j d u h3 h4 => ?_⟩
     cases j with
     | zero =>
       simp[uncD] at h3 h4;subst h3;subst h4
       show a.okV w ro x.1 v
       unfold Ty.okV
       rw[if_neg (by simp[hc.1])];exact h1
     | succ j=>exact k2 j d u (by simpa [uncD] using h3) (by simpa using h4)
 | un=>intro x cs _ h;have h':cs=[]:=h;subst h';exact⟨rfl,fun j d u h=>by simp[uncD] at h⟩
 | _=>intro x cs hc;simp[capT] at hc
theorem DOk.cons{w:World}{ro:Nat→Prop}{d:Dat}{v:Value}{ds:List Dat}{vs:List Value}(h:d.t.okV w ro d.x v)(hs:DOk w ro ds vs):DOk w ro (d::ds) (v::vs) :=
 ⟨by simp[hs.1],fun j d' u h1 h2=>by
   cases j with
   | zero=>simp at h1 h2;subst h1;subst h2;exact h
   | succ j=>exact hs.2 j d' u (by simpa using h1) (by simpa using h2)⟩
theorem fr_grow{dn:Dn}(hd:dn.b=true){w w':World}(h:Fr (fun _=>False) w w'):∃ q os',w'=grow (w.drewN q) os':=by
 refine⟨w'.drawn - w.drawn,w'.heap.extract w.heap.size w'.heap.size,?_⟩
 have h1:=h.os;have h2:=h.tape;have h3:=h.output;have h4:=h.size;have h6:=h.drawn hd
 have h5:w'.heap=w.heap++w'.heap.extract w.heap.size w'.heap.size:=by
   apply Array.ext_getElem?
   intro b
   rw[Array.getElem?_append]
   split
   · rename_i hb;exact h.block b hb (fun h=>h)
   · rename_i hb
     rw[Array.getElem?_extract]
     by_cases hb':b<w'.heap.size
     · rw[if_pos (by omega)];congr 1;omega
     · rw[if_neg (by omega),Array.getElem?_eq_none (by omega)]
 obtain⟨hp,tp,dr,os,out⟩:=w'
 simp only at h1 h2 h3 h4 h5 h6
 subst h1;subst h2;subst h3
 simp only[grow,World.drewN,World.mk.injEq,true_and,and_true]
 exact⟨h5,by omega⟩
theorem zip_ex{β:Type}{R:β→List Value→Prop}:∀ {xs:List β} {css:List (List Value)},Oks R xs css→∃ l:List {p:β×List Value // R p.1 p.2},l.map (fun p=>p.1.1)=xs∧l.map (fun p=>p.1.2)=css:=by
 intro xs
 induction xs with
 | nil =>
   intro css h
   have:css=[]:=List.eq_nil_of_length_eq_zero (by rw[h.1];rfl)
   subst this;exact⟨[],rfl,rfl⟩
 | cons x r ih =>
   intro css h
   cases css with
   | nil=>have:=h.1;simp at this
   | cons c cs =>
     obtain⟨l,h1,h2⟩:=ih (css:=cs) ⟨by have:=h.1;simpa using this,fun i y u hy hu=>h.2 (i+1) y u (by simpa using hy) (by simpa using hu)⟩
     exact⟨⟨(x,c),h.2 0 x c rfl rfl⟩::l,by simp[h1],by simp[h2]⟩
theorem putCells_take(F cur:Array Value)(h:F.size≤cur.size):(putCells id 0 F cur).toList.take F.size=F.toList:=by
 apply List.ext_getElem?
 intro k
 by_cases hk:k<F.size
 · rw[List.getElem?_take_of_lt hk]
   simp only[putCells,id,Nat.sub_zero,Nat.zero_le,true_and,Nat.zero_add,Array.getElem?_toList,Array.getElem?_mapIdx]
   rw[Array.getElem?_eq_getElem (by omega),Array.getElem?_eq_getElem hk]
   simp[hk]
 · rw[List.getElem?_eq_none (by simp;omega),List.getElem?_eq_none (by simp;omega)]
theorem sort_inv[Dn]{w:World}{M:Ms}{R0:Nat→Prop}{A:Asg}{e:TypeId}{t:Ty}{xs ys:List t.D}{sv:SV}{vals:Array Value}{blk cap:Nat}{css css':List (List Value)}
   (I:Inv w M R0 A ⟨[.os 0,sv],[.row e t xs],[]⟩ ⟨vals,[]⟩ w) (hη:A.η 0 = .slice (some ⟨blk,0,none⟩) xs.length cap) (hown:w.ownsRow 0 e t.size (A.η 0) xs.length css.flatten)
   (hl:ys.length=xs.length) (hok:Oks (fun x u=>u.length=t.size∧t.ok w (Ro R0 w.heap.size A [.row e t xs] w) x u) ys css') (n:Nat) (os:Array Obj) {w':World} (hw:w'=grow (putRow id (Sort.ahead w n) blk 0 css'.flatten.toArray) os) :
   Inv w M R0 A ⟨[.tp []],[.row e t ys],[]⟩ ⟨#[.tuple #[]],[]⟩ w':=by
 obtain⟨css0,hok0,hown0,hF⟩:=I.ob 0 _ rfl
 have hFb:A.F 0 blk:=hF blk (by rw[hη];rfl)
 have hfl:css'.flatten.length=xs.length*t.size:=by rw[hok.flen,hl]
 obtain⟨k1,k2⟩:=hown
 rcases k2 with ⟨k2,_⟩ | ⟨g,cap',cur,k2,k3,k4,k5,k6,k7,k8⟩
 · rw[hη] at k2;cases k2
 · rw[hη] at k2;injection k2 with k2 _ k2';injection k2 with k2;injection k2 with k2;subst k2;subst k2'
   have hlt:blk<w.heap.size:=(Array.getElem?_eq_some_iff.1 k4).1
   have hsz:css'.flatten.toArray.size≤cur.size:=by
     simp only[List.size_toArray];rw[hfl,k7];exact Nat.mul_le_mul_right _ k5
   have hheap:w'.heap=w.heap.modify blk (onCells (putCells id 0 css'.flatten.toArray))++os:=by rw[hw];rfl
   have hb:w'.heap[blk]?=some (.cells (putCells id 0 css'.flatten.toArray cur) e (0,0)):=by
     rw[hheap,Array.getElem?_append_left (by simpa using hlt),Array.getElem?_modify,if_pos rfl,k4];rfl
   have ho:∀ b,b<w.heap.size→b≠blk→w'.heap[b]?=w.heap[b]?:=by
     intro b hb hne
     rw[hheap,Array.getElem?_append_left (by simpa using hb),Array.getElem?_modify,if_neg (Ne.symm hne)]
   have hsame:Same w w':=⟨by rw[hw];rfl,by rw[hw];rfl,by rw[hw];rfl,by rw[hheap];simp,fun _=>by rw[hw];exact Nat.le_add_right _ _⟩
   have I':=I.mod (i:=0) (o0 := .row e t xs) (.row e t ys) rfl rfl hsame (fun b hb hf=>ho b hb (fun h=>hf (by rw[h];exact hFb))) (fun hro=>by
     refine⟨css',hok.mono fun x u hu=>⟨hu.1,ok_mono (fun b hb=>(hro b hb).1) (fun b hb=>(hro b hb).2) hu.2⟩,?_,hF⟩
     refine⟨by rw[hfl,hl],.inr ⟨blk,cap,_,by rw[hη,hl],Nat.zero_le _,hb,by rw[hl];exact k5,k6,by simpa [putCells] using k7,?_⟩⟩
     have:=putCells_take css'.flatten.toArray cur hsz
     simp only[List.size_toArray] at this
     rw[hl,← hfl];simpa using this)
   exact { I' with
     len:=rfl
     defers:=⟨List.nodup_nil,fun d h=>by cases h⟩
     tm:=fun j s hj=>by
       cases j with
       | zero=>simp at hj;subst hj;exact⟨#[],rfl,rfl,fun j s v h=>by simp at h⟩
       | succ j=>simp at hj
     gh:=fun k sv h=>by cases h }
def SWOn{β:Type}(va:β→Prop)(cmp:β→β→Int):Prop :=
 (∀ x,va x→¬ cmp x x<0)∧(∀ x y z,va x→va y→va z→cmp x y<0→cmp y z<0→cmp x z<0)∧∀ x y z,va x→va y→va z→¬ cmp x y<0→¬ cmp y z<0→¬ cmp x z<0
theorem cmp_call{P:Program}{gl:List (Nat×Dat)}{g:FuncId}{c:Ctr}(hg : @PlainOk ⟨true⟩ P gl g c){t tc:Ty}(hcap:capT tc=true){v:tc.D}{x y:t.D}{n:Int}
   (hsem:∀ k,k [⟨.int .i64,n⟩]→c.sem (⟨t,x⟩::⟨t,y⟩::uncD tc v) k) {w W:World} {ro:Nat→Prop} (hlt:∀ b,ro b→b<w.heap.size) (hgl:GlOk gl w ro) (hs:w.heap.size≤W.heap.size) (hro:∀ b,ro b→W.heap[b]?=w.heap[b]?)
   {caps:Array Value} (hcs:tc.ok w ro v caps.toList) {u1 u2:Value} (h1:t.okV w ro x u1) (h2:t.okV w ro y u2) :
   Calls P g (#[u1,u2]++caps) W fun e w'=>e = .returned (.int .i64 n)∧∃ q os',w'=grow (W.drewN q) os':=by
 have hk:∀ b,ro b→ro b:=fun b h=>h
 have hD:DOk W ro (⟨t,x⟩::⟨t,y⟩::uncD tc v) (u1::u2::caps.toList):=DOk.cons (okV_mono hk hro h1) (DOk.cons (okV_mono hk hro h2) (uncD_ok hcap (ok_mono hk hro hcs)))
 have:=hg (⟨t,x⟩::⟨t,y⟩::uncD tc v) (fun rs=>rs=[⟨.int .i64,n⟩]) (hsem _ rfl) W ro (u1::u2::caps.toList) (fun b h=>Nat.lt_of_lt_of_le (hlt b h) hs) (hgl.mono hk hro) hD
 have he:(u1::u2::caps.toList).toArray=#[u1,u2]++caps:=by apply Array.toList_inj.1;simp
 rw[he] at this
 refine this.mono ?_
 rintro e w' ⟨hf,rs,r,rfl,rfl,hr⟩
 have hr':r = .int .i64 n:=by
   have h:Ty.okV w' _ (.int .i64) n r:=hr
   have h':[r]=[Value.int .i64 n]∧_:=h
   simpa using h'.1
 exact⟨by rw[hr'],fr_grow (dn:=⟨true⟩) rfl hf⟩
theorem swo_of{β:Type}{α:Type}{va:β→Prop}{cmp:β→β→Int}(h:SWOn va cmp)(f:α→β)(hf:∀ a,va (f a)):SWO (ltOf fun a b=>cmp (f a) (f b)) where
 irrefl x:=by simp only[ltOf,decide_eq_false_iff_not];exact h.1 _ (hf x)
 trans x y z h1 h2:=by simp only[ltOf,decide_eq_true_eq] at *;exact h.2.1 _ _ _ (hf x) (hf y) (hf z) h1 h2
 ntrans x y z h1 h2:=by simp only[ltOf,decide_eq_false_iff_not] at *;exact h.2.2 _ _ _ (hf x) (hf y) (hf z) h1 h2
theorem perm_of{α:Type}[Inhabited α]{d d':Array α}(h:PermIn 0 d.size d d'):d'.toList.Perm d.toList:=by
 obtain⟨h1,_,h2⟩:=h
 have e1:d'.extract 0 d.size=d':=by rw[← h1];exact Array.extract_size
 rw[e1,Array.extract_size] at h2
 exact h2
theorem pair_of{α β:Type}[Inhabited α]{d d':Array α}(h1:d'.size=d.size){cf:α→α→Int}(h:SortedIn (ltOf cf) 0 d.size d'){f:α→β}{cmp:β→β→Int}(hf:∀ a b,cf a b=cmp (f a) (f b)) :
   (d'.toList.map f).Pairwise fun a b=>0≤cmp b a:=by
 rw[List.pairwise_map,List.pairwise_iff_getElem]
 intro i j hi hj hij
 have hi':i<d'.size:=by simpa using hi
 have hj':j<d'.size:=by simpa using hj
 have:=h i j (Nat.zero_le _) hij (by omega)
 simp only[ltOf,decide_eq_false_iff_not,hf,getElem!_pos d' i hi',getElem!_pos d' j hj'] at this
 simpa using this
theorem own_sort1[Dn]{P:Program}{ρ:Ren}(L:SlLaysF.n6 P ρ){gl:List (Nat×Dat)}{e:TypeId}{t:Ty}(hag:t.agg=false){g:FuncId}(hent:EntOk P g){tc:Ty}(hcap:capT tc=true){c:Ctr}(hg : @PlainOk ⟨true⟩ P gl g c)
   {va:tc.D→t.D→Prop} {cmp:tc.D→t.D→t.D→Int} (hcmp:∀ v x y,va v x→va v y→∀ k,k [⟨.int .i64,cmp v x y⟩]→c.sem (⟨t,x⟩::⟨t,y⟩::uncD tc v) k) {oc:OCtr}
   (hc:∀ args ob k,oc args ob k→∃ (v:tc.D) (xs:List t.D),args=[.os 0,.d (.fn g tc) (some v)]∧ob=[.row e t xs]∧(∀ x∈xs,va v x)∧SWOn (va v) (cmp v)∧xs.length≤1000000000 ∧
     ∀ ys:List t.D,ys.Perm xs→ys.Pairwise (fun a b=>0≤cmp v b a)→k (.tp []) [.row e t ys]):OwnOk P gl (ρ.f 6) oc:=by
 intro args ob k h w M R0 A vals hB hrd I
 obtain⟨v,xs,rfl,rfl,hva,hO,hlen,hk⟩:=hc _ _ _ h
 obtain⟨fn,hf,hb,hnm⟩:=hent
 have hb':¬ fn.body=none:=by intro h;rw[h] at hb;cases hb
 have hn':¬ fn.name = "runtime.NumGoroutine" := by simpa using hnm
 have eg:∀ args w,(callFunc g args).run P w = .ok (.enter g args) w:=fun args w=>by simp[callFunc,hf,hb',hn']
 have hv0:=I.tm 0 _ rfl
 have hv1:=I.tm 1 _ rfl
 obtain⟨caps,hv1,hcs⟩:=hv1
 have hv0':vals.getD 0 undef=A.η 0:=hv0.2
 have hv1':vals.getD 1 undef = .func (.func g) #[] caps:=by simpa using hv1
 have hsz:vals.size=2:=I.len
 have hvals:vals=#[A.η 0,.func (.func g) #[] caps]:=by
   apply Array.ext (by rw[hsz];rfl)
   intro i hi _
   have hi2:i<2:=by rw[hsz] at hi;exact hi
   match i,hi2 with
   | 0,_=>simpa [Array.getD,hsz] using hv0'
   | 1,_=>simpa [Array.getD,hsz] using hv1'
 subst hvals
 obtain⟨css,hok,hown,hF⟩:=I.ob 0 _ rfl
 have hts:t.size=1:=size_one hag
 have hη:∃ p cap,A.η 0 = .slice p xs.length cap:=by
   rcases hown.2 with ⟨h1,h2⟩ | ⟨g',cap,cur,h1,_⟩
   · exact⟨none,0,by rw[h1,h2]⟩
   · exact⟨_,cap,h1⟩
 by_cases hne:xs=[]
 · subst hne
   obtain⟨p,cap,hη⟩:=hη
   have hN:=AnyF.slices_SortFunc_none (P:=P) (ρ:=ρ) { L with } p cap (.func (.func g) #[] caps) w
   rw[hη]
   refine hN.mono ?_
   rintro e' w' ⟨rfl,rfl⟩
   refine⟨_,.tp [],[.row e t []],A,rfl,hk [] (List.Perm.refl _) List.Pairwise.nil,?_,fun i _=>rfl⟩
   exact { I with
     len:=rfl
     defers:=⟨List.nodup_nil,fun d h=>by cases h⟩
     tm:=fun j s hj=>by
       cases j with
       | zero=>simp at hj;subst hj;exact⟨#[],rfl,rfl,fun j s v h=>by simp at h⟩
       | succ j=>simp at hj
     gh:=fun k sv h=>by cases h }
 · rcases hown.2 with ⟨h1,h2⟩ | ⟨blk,cap,cur,h1,_,h4,h5,h6,h7,h8⟩
   · exact absurd (List.eq_nil_of_length_eq_zero h2) hne
   have hlt:blk<w.heap.size:=(Array.getElem?_eq_some_iff.1 h4).1
   obtain⟨l,hl1,hl2⟩:=zip_ex (R:=fun x u=>(u.length=t.size∧t.ok w (Ro R0 w.heap.size A [.row e t xs] w) x u)∧va v x) (xs:=xs) (css:=css) ⟨hok.1,fun i x u hx hu=>⟨hok.2 i x u hx hu,hva x (List.mem_of_getElem? hx)⟩⟩
   have hln:l≠[]:=by intro h;rw[h] at hl1;exact hne hl1.symm
   obtain⟨a0,l',hll⟩:=List.exists_cons_of_ne_nil hln
   letI:Inhabited {p:t.D×List Value // (p.2.length=t.size∧t.ok w (Ro R0 w.heap.size A [.row e t xs] w) p.1 p.2)∧va v p.1}:=⟨a0⟩
   let enc:{p:t.D×List Value // (p.2.length=t.size∧t.ok w (Ro R0 w.heap.size A [.row e t xs] w) p.1 p.2)∧va v p.1}→Value:=fun p=>p.1.2.headD undef
   have henc:∀ p,p.1.2=[enc p]:=by
     intro p
     have h:p.1.2.length=1:=p.2.1.1.trans hts
     show p.1.2=[p.1.2.headD undef]
     match hp:p.1.2,h with
     | [c],_=>rfl
   have hfl:∀ r:List {p:t.D×List Value // (p.2.length=t.size∧t.ok w (Ro R0 w.heap.size A [.row e t xs] w) p.1 p.2)∧va v p.1},(r.map (fun p=>p.1.2)).flatten=r.map enc:=by
     intro r
     induction r with
     | nil=>rfl
     | cons p r ih=>rw[List.map_cons,List.flatten_cons,ih,henc p];rfl
   have hllen:l.length=xs.length:=by have:=congrArg List.length hl1;rwa [List.length_map] at this
   have h1c:OneCell enc:=fun p=>by
     have h:=ok_one p.2.1.2 (enc p) (by rw[henc p];exact List.mem_singleton.2 rfl)
     first | exact h | exact⟨h⟩
   have hH:Holds enc w blk 0 l.toArray:=by
     intro j hj
     have hj':j<xs.length:=by simpa [hllen] using hj
     have hjl:j<l.length:=by omega
     have hcell:cur[j]?=some (enc l[j]):=by
       have h9:cur.toList.take (xs.length*t.size)=l.map enc:=by rw[h8,← hl2,hfl]
       have h10:(cur.toList.take (xs.length*t.size))[j]?=some (enc l[j]):=by rw[h9];simp[hjl]
       rw[List.getElem?_take_of_lt (by rw[hts];omega)] at h10
       simpa using h10
     refine⟨?_,?_⟩
     · rw[getElem!_pos l.toArray j (by simpa using hjl)]
       simp only[World.cell?,h4,Nat.zero_add]
       simpa using hcell
     · simp[World.frozen?,h4]
   have hcr:CmpLays1 P g caps enc (fun a b=>cmp v a.1.1 b.1.1) blk 0 l.toArray.size w:=by
     intro m os dk _ x y
     have hro:∀ b,Ro R0 w.heap.size A [.row e t xs] w b→(sortWorld enc w blk 0 m dk os).heap[b]?=w.heap[b]?:=by
       intro b hb
       have hbb:b≠blk:=fun h=>hb.2.2 0 _ rfl rfl (by rw[h];exact hF blk (by rw[h1];rfl))
       show ((w.heap.modify blk _)++os)[b]?=_
       rw[Array.getElem?_append_left (by simpa using hb.1),Array.getElem?_modify,if_neg (Ne.symm hbb)]
     have hok1:∀ p:{p:t.D×List Value // (p.2.length=t.size∧t.ok w (Ro R0 w.heap.size A [.row e t xs] w) p.1 p.2)∧va v p.1},t.okV w (Ro R0 w.heap.size A [.row e t xs] w) p.1.1 (enc p):=by
       intro p
       unfold Ty.okV
       rw[if_neg (by simp[hag]),← henc p];exact p.2.1.2
     exact cmp_call hg hcap (hcmp v x.1.1 y.1.1 x.2.2 y.2.2) (fun b hb=>hb.1) (hB.now I) (by show _≤((w.heap.modify blk _)++os).size;simp) hro hcs (hok1 x) (hok1 y)
   have hS:=Any.slices_SortFunc L enc h1c (fun a b=>cmp v a.1.1 b.1.1) (swo_of hO (fun (a:{p:t.D×List Value // (p.2.length=t.size∧t.ok w (Ro R0 w.heap.size A [.row e t xs] w) p.1 p.2)∧va v p.1})=>a.1.1) fun a=>a.2.2) g caps blk 0 cap l.toArray w eg hcr hH hlt (by simp only[List.size_toArray];omega)
   rw[h1]
   have hsz2:l.toArray.size=xs.length:=by simp[hllen]
   rw[hsz2] at hS
   refine hS.mono ?_
   rintro e' w' ⟨rfl,d',n,os,hp,hs,rfl⟩
   rw[← hsz2] at hp hs
   have hpl:=perm_of hp
   have hpw:=pair_of (f:=fun a=>a.1.1) (cmp:=cmp v) hp.1 hs fun _ _=>rfl
   have hdl:d'.toList.length=xs.length:=by rw[hpl.length_eq];simp[hllen]
   refine⟨_,.tp [],_,A,rfl,hk (d'.toList.map fun a=>a.1.1) ?_ hpw,sort_inv (css':=d'.toList.map fun a=>a.1.2) I h1 hown (by rw[List.length_map,hdl]) ⟨by simp,fun i x u hx hu => ?_⟩ n os ?_,fun i _=>rfl⟩
   · have:=hpl.map fun a=>a.1.1
     rw[show l.toArray.toList=l from rfl,hl1] at this;exact this
   · rw[List.getElem?_map] at hx hu
     obtain⟨a,ha,rfl⟩:=Option.map_eq_some_iff.1 hx
     obtain⟨a',ha',rfl⟩:=Option.map_eq_some_iff.1 hu
     rw[ha] at ha';injection ha' with ha';subst ha'
     exact a.2.1
   · unfold sortWorld
     congr 1
     unfold putRow
     congr 1
     funext cur
     rw[hfl]
     simp only[putCells,Nat.zero_le,true_and,Nat.zero_add,Nat.sub_zero,id,List.size_toArray,List.length_map,Array.length_toList]
     congr 1
     funext k x
     split
     · rename_i hk
       rw[getElem!_pos d' k hk,getElem!_pos _ k (by simpa using hk)]
       simp
     · rfl
end Go.Vc
