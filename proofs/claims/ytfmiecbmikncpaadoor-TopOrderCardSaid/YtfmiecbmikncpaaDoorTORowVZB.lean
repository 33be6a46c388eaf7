import Derived.Test.YtfmiecbmikncpaaDoorTORowVZA
namespace Go.Vc
open Go.RowKit
def μOf(a:Act)(D:Nat):Prop:=({ target := .collected D,args:=#[] }:Deferred)∈a.defers
theorem SvOk.mu[Dn]{w:World}{ro:Nat→Prop}{A:Asg}{μ:Nat→Prop}{s:SV}{v:Value}(h:SvOk w ro A s v):SvOk w ro { A with μ:=μ } s v:=by
 have e0:∀ {s:SV} {v:Value},SvOk0 w ro A s v→SvOk0 w ro { A with μ:=μ } s v:=by intro s v h;cases s<;>exact h
 have e1:∀ {s:SV} {v:Value},SvOk1 w ro A s v→SvOk1 w ro { A with μ:=μ } s v:=by
   intro s v h
   cases s with
   | ag l =>
     obtain⟨vs,k1,css,k2,k3,k4⟩:=h
     exact⟨vs,k1,css,k2,k3,fun j s u h1 h2=>⟨(k4 j s u h1 h2).1,(k4 j s u h1 h2).2.1,by obtain⟨v,m1,m2,m3⟩:=(k4 j s u h1 h2).2.2;exact⟨v,m1,e0 m2,m3⟩⟩⟩
   | _=>exact h
 cases s with
 | tp l=>obtain⟨vs,k1,k2⟩:=h;exact⟨vs,k1,k2.mono fun s v h=>e1 h⟩
 | ag l=>exact e1 (s := .ag l) h
 | _=>exact h
theorem ObOk.mu{w:World}{ro:Nat→Prop}{A:Asg}{μ:Nat→Prop}{i:Nat}{o:Ob}(h:ObOk w ro A i o):ObOk w ro { A with μ:=μ } i o:=by
 cases o with
 | st e l =>
   obtain⟨g,cs,e1,hf,hh,css,k1,k2,k3⟩:=h
   exact⟨g,cs,e1,hf,hh,css,k1,k2,fun j s u h1 h2=>⟨(k3 j s u h1 h2).1,(k3 j s u h1 h2).2.1,by
     obtain⟨v,m1,m2,m3⟩:=(k3 j s u h1 h2).2.2
     refine⟨v,m1,?_,m3⟩
     cases s<;>exact m2⟩⟩
 | _=>exact h
theorem Inv.mu[Dn]{w0:World}{M:Ms}{R0:Nat→Prop}{A:Asg}{st:St}{a:Act}{w:World}(I:Inv w0 M R0 A st a w):Inv w0 M R0 { A with μ:=μOf a } st a w:=by
 refine⟨I.fr,⟨I.defers.1,fun d hd => ?_⟩,fun D hD => ?_,I.num,I.len,fun k sv hk=>(I.gh k sv hk).mu,fun j sv hj=>(I.tm j sv hj).mu,fun i o ho=>(I.ob i o ho).mu,I.dj,I.fp⟩
 · obtain⟨h1,D,h2,h3⟩:=I.defers.2 d hd
   exact⟨h1,D,by rw[h3] at hd;exact hd,h3⟩
 · obtain⟨h1,D',h2,h3⟩:=I.defers.2 _ hD
   injection h3 with h3;injection h3 with h3;subst h3
   exact I.mks D h2
theorem Inv.act[Dn]{w0:World}{M:Ms}{R0:Nat→Prop}{A:Asg}{st:St}{a a':Act}{w:World}(I:Inv w0 M R0 A st a w)(ht:a'.tmps=a.tmps)(hd:a'.defers=[]):Inv w0 M R0 A st a' w :=
 ⟨I.fr,⟨by rw[hd];exact List.nodup_nil,fun d h=>(by rw[hd] at h;cases h)⟩,I.mks,I.num,by rw[ht];exact I.len,I.gh,fun j sv hj=>by rw[ht];exact I.tm j sv hj,I.ob,I.dj,I.fp⟩
theorem Inv.mark[Dn]{w0:World}{M:Ms}{R0:Nat→Prop}{A:Asg}{st:St}{a:Act}{w:World}(I:Inv w0 M R0 A st a w){B l:Nat}{mark:List Deferred}(hm:Mk B l mark w)(hB:w0.heap.size≤B)(hrd:mark≠[]→M.rd=false)(hnd:mark.Nodup)(hdis:∀ d∈mark,d∉a.defers) :
   ∃ A',Inv w0 M R0 A' st { a with defers:=mark++a.defers } w:=by
 have I1:=I.mu.tight
 refine⟨{ { A with μ:=μOf a }.tight w with μ:=fun D=>({ target := .collected D,args:=#[] }:Deferred)∈mark++a.defers },I1.fr,⟨List.nodup_append.2 ⟨hnd,I.defers.1,fun x hx y hy e=>hdis x hx (by rw[e];exact hy)⟩,fun d hd => ?_⟩,fun D hD => ?_,I1.num,I1.len,fun k sv hk=>(I1.gh k sv hk).mu,fun j sv hj=>(I1.tm j sv hj).mu,fun i o ho=>(I1.ob i o ho).mu,I1.dj,I1.fp⟩
 · rcases List.mem_append.1 hd with h | h
   · obtain⟨D,e,_⟩:=hm d h
     exact⟨hrd (by rintro rfl;cases h),D,by rw[e] at hd;exact hd,e⟩
   · obtain⟨h1,D,h2,h3⟩:=I.defers.2 d h
     exact⟨h1,D,by rw[h3] at hd;exact hd,h3⟩
 · rcases List.mem_append.1 hD with h | h
   · obtain⟨D',e,h1,_,h3⟩:=hm _ h
     injection e with e;injection e with e;subst e
     refine⟨Nat.le_trans hB h1,h3,fun i o ho hl hf => ?_⟩
     rcases tight_kind I1 (by assumption) (by assumption) hf with ⟨cs,e,q,hc⟩ | ⟨_,es,c,hc⟩<;>(rw[h3] at hc;cases hc)
   · obtain⟨_,D',h2,h3⟩:=I.defers.2 _ h
     injection h3 with h3;injection h3 with h3;subst h3
     obtain⟨k1,k2,k3⟩:=I.mks D h2
     exact⟨k1,k2,fun i o ho hl hf=>k3 i o ho hl hf.1⟩
theorem BaseOk.mono{gl:List (Nat×Dat)}{w0:World}{M M':Ms}{R0:Nat→Prop}(h:BaseOk gl w0 M R0)(hM:M'.M=M.M:=by rfl):BaseOk gl w0 M' R0:=⟨by rw[hM];exact h.gl,h.lt,by rw[hM];exact h.me⟩
theorem Fr.keepsFrom[Dn]{M:Nat→Prop}{W W':World}(h:Fr M W W')(hM:∀ b,M b→CellsAt W b)(B:Nat):KeepsFrom B W W' :=
 ⟨h.size,fun k o _ hk hc=>(h.block k (Array.getElem?_eq_some_iff.1 hk).1 (fun hm=>by
   obtain⟨cs,e,q,h⟩:=hM k hm
   rw[h] at hk;injection hk with hk;subst hk;cases hc)).trans hk⟩
def lookI:List (FuncId×ItC)→FuncId→Option ItC
 | [],_=>none
 | x::r,f=>if x.1=f then some x.2 else lookI r f
theorem lookI_mem:∀ {l:List (FuncId×ItC)} {f:FuncId} {c:ItC},lookI l f=some c→(f,c)∈l
 | [],_,_,h=>by cases h
 | x::r,f,c,h=>by
   simp only[lookI] at h
   split at h
   · rename_i hx;injection h with h;subst h;subst hx;exact List.mem_cons_self ..
   · exact List.mem_cons_of_mem _ (lookI_mem h)
def seqS(X:Cx)(ty:Ty):SV→Option (List ty.D)
 | .d (.fn f t) (some y)=>match lookI X.it f with
   | some c=>if h:c.t=t then if h2:c.e=ty then match c.f (h▸y) with
     | some xs=>some (h2▸xs)
     | none=>none else none else none
   | none=>none
 | _=>none
def St.rnd(st:St)(p:Nat)(s:SV)(k:St→Prop):Prop :=
 match freshB st.gs.length st.gs&&st.noMp with
 | true=>k (st.hold.put (some p) s)
 | false=>False
def St.nmK(st:St)(k:St→Prop):Prop :=
 match st.noMp with
 | true=>k st
 | false=>False
theorem nmK_ok{st:St}{k:St→Prop}(h:st.nmK k):st.noMp=true∧k st:=by
 unfold St.nmK at h
 split at h
 · rename_i e;exact⟨e,h⟩
 · exact h.elim
def xc(X:Cx)(an:Ann):Code→St→Kn→Prop
 | .skip,st,K=>K.n st
 | .region id ops draw,st,K=>match an.joins with
   | true=>regJ X ops.toList draw (an.frz id st) K.n
   | false=>reg X ops.toList draw (an.frz id st) K.n
 | .seq a b,st,K=>match an.meet b with
   | none=>xc X an a st ⟨fun st'=>xc X an b st' K,K.r,K.x⟩
   | some L=>xc X an a st ⟨fun st'=>∃ x,L.ok st x∧(rowNil st' L.nr).le (L.st st x),K.r,K.x⟩∧∀ x,L.ok st x→xc X an b (L.st st x) K
 | .cond c a b,st,K=>match st.ev X.E c with
   | .bt true=>xc X an a st K
   | .bt false=>xc X an b st K
   | .d .bool v=>(v=true→xc X an a st K)∧(v=false→xc X an b st K)
   | _=>False
 | .block id b,st,K=>xc X an b st ⟨K.n,K.r,fun i st'=>if i=id then K.n st' else K.x i st'⟩
 | .loop b,st,K=>match an.look (firstReg b) with
   | some L=>(∃ x,L.ok (rowNil st L.nr) x∧(rowNil st L.nr).le (L.st (rowNil st L.nr) x)) ∧
       ∀ x,L.ok (rowNil st L.nr) x→xc X an b (L.st (rowNil st L.nr) x) ⟨fun st'=>∃ x',L.ok (rowNil st L.nr) x'∧L.mu x'<L.mu x∧st'.le (L.st (rowNil st L.nr) x'),K.r,K.x⟩
   | none=>False
 | .rangeFunc g ps asg b,st,K=>match ps.toList,an.rng b with
   | [p],some L=>match seqS X L.ty (st.ev X.E g) with
     | some xs=>(∃ x,L.ok st x∧L.pre x=[]∧st.le (L.st st x))∧(∀ x,L.ok st x→(L.st st x).nmK fun s=>leS (s.ev X.E g) (st.ev X.E g)) ∧
         (∀ x y rest,L.ok st x→xs=L.pre x++y::rest→(L.st st x).rnd p (.d L.ty y) fun s0 =>
           xc X an asg s0 ⟨fun s1=>s1.nmK fun s1=>xc X an b s1 ⟨
               fun s2=>s2.pop (L.st st x).gs.length (L.st st x).tm.length fun s3=>∃ x',L.ok st x'∧L.pre x'=L.pre x++[y]∧s3.le (L.st st x'),
               fun s2=>s2.pop (L.st st x).gs.length (L.st st x).tm.length K.r,
               fun i s2=>s2.pop (L.st st x).gs.length (L.st st x).tm.length (K.x i)⟩,fun _=>False,fun _ _=>False⟩) ∧
         ∀ x,L.ok st x→L.pre x=xs→K.n (L.st st x)
     | none=>False
   | _,_=>False
 | .exit id,st,K=>K.x id st
 | .ret,st,K=>K.r st
 | .scope b,st,K=>xc X an b st K
 | .label _,st,K=>K.n st
 | _,_,_=>False
def codeOk[Dn](X:Cx):Code→Bool
 | .skip=>true
 | .region _ ops draw=>regOk X ops draw&&ops.toList.all noDefer
 | .seq a b=>codeOk X a&&codeOk X b
 | .cond _ a b=>codeOk X a&&codeOk X b
 | .block _ b=>codeOk X b
 | .loop b=>codeOk X b
 | .rangeFunc _ _ a b => !Dn.b&&(codeOk X a&&codeOk X b)
 | .exit _=>true
 | .ret=>true
 | .scope b=>codeOk X b
 | .label _=>true
 | _=>false
def noGo(Q:Exit→Act→World→Prop):Exit→Act→World→Prop
 | .goto _,_,_=>False
 | e,a,w=>Q e a w
theorem wpIn_scope{F:Fence}{n:Nat}{P:Program}{Q:Exit→Act→World→Prop}{a:Act}{w:World}{c:Code}(h:c.wpIn F n P (noGo Q) a w):(Code.scope c).wpIn F n P Q a w:=by
 intro b k cs hro hb hr
 have h0:(lone (b.atR a (.code (.scope c)::k)) cs w).fenced P F:=fenced_calm hb hr rfl
 have s1:step P (lone (b.atR a (.code (.scope c)::k)) cs w) = .next (lone (b.atR a (.code c :: .inScope c::k)) cs w):=step_lone_go (by simp[stepG,stepG.exec,Frame.atR])
 obtain⟨e,a₁,w₁,hq,harr⟩:=h b (.inScope c::k) cs hro hb hr
 cases e with
 | normal =>
   have s2:step P (lone (b.atR a₁ (.inScope c::k)) cs w₁) = .next (lone (b.atR a₁ k) cs w₁):=step_lone_go (by simp[stepG,stepG.exec,Frame.atR])
   exact⟨.normal,a₁,w₁,hq,.head h0 s1 (StepsIn.trans harr (.one (fenced_calm hb hr rfl) s2))⟩
 | exit id =>
   have hx:exitTo id (.inScope c::k)=exitTo id k:=by simp[exitTo]
   exact⟨.exit id,a₁,w₁,hq,fun k' hk => .head h0 s1 (harr.1 k' (by rw[hx];exact hk)),
     fun hr' hk=>let ⟨k₁,h1,h2⟩:=harr.2 hr' (by rw[hx];exact hk);⟨k₁,h1,.head h0 s1 h2⟩⟩
 | goto l=>exact hq.elim
 | ret=>exact⟨_,a₁,w₁,hq,.of_steps (.one h0 s1) harr⟩
 | panic ch=>exact⟨_,a₁,w₁,hq,.of_steps (.one h0 s1) harr⟩
 | outgrown=>exact⟨_,a₁,w₁,hq,.of_steps (.one h0 s1) harr⟩
theorem xc_ok[Dn]{P:Program}{X:Cx}(hX:CxOk P X){an:Ann}:∀ {c:Code},codeOk X c=true→∀ {w0:World} {M:Ms} {R0:Nat→Prop} {A:Asg} {st:St} {a:Act} {w:World} {K:Kn} {Q:Exit→Act→World→Prop} {r:Option Nat} {n:Nat},
   BaseOk X.gl w0 M R0→(r=none→M.rd=false)→(∀ l,r=some l→(∃ r0,w0.heap[l]?=some (.loop r0))∧¬ M.M l)→Inv w0 M R0 A st a w→xc X an c st K→(∀ a w,¬ Q .outgrown a w) →
   (∀ A' st' a' w',K.n st'→Inv w0 M R0 A' st' a' w'→Q .normal a' w')→(∀ A' st' a' w',K.r st'→Inv w0 M R0 A' st' a' w'→Q .ret a' w') →
   (∀ i A' st' a' w',K.x i st'→Inv w0 M R0 A' st' a' w'→Q (.exit i) a' w')→c.wpIn (FW r) n P Q a w:=by
 intro c
 induction c with
 | skip=>intro _ w0 M R0 A st a w K Q r n _ _ _ I h _ hn _ _;exact wpIn_skip (hn _ _ _ _ h I)
 | region id ops draw =>
   intro hC w0 M R0 A st a w K Q r n hB _ _ I h hQ hn _ _
   simp only[codeOk,Bool.and_eq_true] at hC
   unfold xc at h
   have I':Inv w0 M R0 A (an.frz id st) a w:=by
     unfold Ann.frz
     split
     · exact I.frz _ hB.me
     · exact I
   split at h
   · exact (regJ_ok hX hB I' hC.1 h hn).wpIn hC.2 hQ
   · exact (reg_ok hX hB I' hC.1 h hn).wpIn hC.2 hQ
 | seq x y ihx ihy =>
   intro hC w0 M R0 A st a w K Q r n hB hrd hrl I h hQ hn hr hx
   simp only[codeOk,Bool.and_eq_true] at hC
   unfold xc at h
   split at h
   · exact wpIn_seq (ihx hC.1 hB hrd hrl I h (fun a w=>hQ a w) (fun A' st' a' w' hk I'=>ihy hC.2 hB hrd hrl I' hk hQ hn hr hx) (fun A' st' a' w' hk I'=>hr _ _ _ _ hk I') (fun i A' st' a' w' hk I'=>hx i _ _ _ _ hk I'))
   · obtain⟨h1,h2⟩:=h
     refine wpIn_seq (ihx hC.1 hB hrd hrl I h1 (fun a w=>hQ a w) (fun A' st' a' w' hk I' => ?_) (fun A' st' a' w' hk I'=>hr _ _ _ _ hk I') (fun i A' st' a' w' hk I'=>hx i _ _ _ _ hk I'))
     obtain⟨y,hy,hle⟩:=hk
     obtain⟨A1,I1⟩:=rowNil_ok I'
     obtain⟨A2,I2⟩:=I1.le hle
     exact ihy hC.2 hB hrd hrl I2 (h2 y hy) hQ hn hr hx
 | cond c x y ihx ihy =>
   intro hC w0 M R0 A st a w K Q r n hB hrd hrl I h hQ hn hr hx
   simp only[codeOk,Bool.and_eq_true] at hC
   unfold xc at h
   have hc:=I.ev (E:=X.E) c
   split at h
   · rename_i hb;rw[hb] at hc
     exact wpIn_cond_true hc (ihx hC.1 hB hrd hrl I h hQ hn hr hx)
   · rename_i hb;rw[hb] at hc
     exact wpIn_cond_false hc (ihy hC.2 hB hrd hrl I h hQ hn hr hx)
   · rename_i b hb;rw[hb] at hc
     have hc0:[a.eval c]=[Value.bool b]:=hc
     injection hc0 with hc'
     exact wpIn_cond_split hc' (fun ht=>ihx hC.1 hB hrd hrl I (h.1 ht) hQ hn hr hx) (fun hf=>ihy hC.2 hB hrd hrl I (h.2 hf) hQ hn hr hx)
   · exact h.elim
 | block id b ih =>
   intro hC w0 M R0 A st a w K Q r n hB hrd hrl I h hQ hn hr hx
   refine wpIn_block (ih hC hB hrd hrl I h (fun a w=>hQ a w) (fun A' st' a' w' hk I'=>hn _ _ _ _ hk I') (fun A' st' a' w' hk I'=>hr _ _ _ _ hk I') (fun i A' st' a' w' hk I' => ?_))
   simp only at hk
   show (if i=id then Q .normal a' w' else Q (.exit i) a' w')
   split
   · rename_i hi;rw[if_pos hi] at hk;exact hn _ _ _ _ hk I'
   · rename_i hi;rw[if_neg hi] at hk;exact hx i _ _ _ _ hk I'
 | loop b ih =>
   intro hC w0 M R0 A st a w K Q r n hB hrd hrl I h hQ hn hr hx
   unfold xc at h
   split at h
   · rename_i L hL
     obtain⟨⟨x0,hx0,hle⟩,hround⟩:=h
     obtain⟨A1,I1⟩:=rowNil_ok (l:=L.nr) I
     obtain⟨A1',I2⟩:=I1.le hle
     clear hle I1
     generalize hs:rowNil st L.nr=s at *
     -- the least measure at which the invariant holds
     let J:Act→World→Nat→Prop:=fun a w n=>∃ x A',L.ok s x∧L.mu x=n∧Inv w0 M R0 A' (L.st s x) a w
     let μ:Act→World→Nat:=fun a w=>least (J a w)
     have hμ:∀ a w,(∃ n,J a w n)→J a w (μ a w):=fun a w h=>(least_spec h).1
     have hμle:∀ a w n,J a w n→μ a w≤n:=fun a w n h=>(least_spec ⟨n,h⟩).2 n h
     refine wpIn_loop (fun a w=>∃ n,J a w n) μ ⟨_,x0,A1',hx0,rfl,I2⟩ fun a w hJ => ?_
     obtain⟨x,A',hok,hm,I'⟩:=hμ a w hJ
     refine ih hC hB hrd hrl I' (hround x hok) (fun a w=>hQ a w) (fun A2 st' a' w' hk I2 => ?_) (fun A' st' a' w' hk I'=>hr _ _ _ _ hk I') (fun i A' st' a' w' hk I'=>hx i _ _ _ _ hk I')
     obtain⟨x',hok',hlt,hle⟩:=hk
     obtain⟨A3,I3⟩:=I2.le hle
     have hJ':J a' w' (L.mu x'):=⟨x',A3,hok',rfl,I3⟩
     exact⟨⟨_,hJ'⟩,Nat.lt_of_le_of_lt (hμle _ _ _ hJ') (hm▸hlt)⟩
   · exact h.elim
 | rangeFunc g ps asg b iha ihb =>
   intro hC w0 M R0 A st a w K Q r n hB hrd hrl I h hQ hn hret hx
   simp only[codeOk,Bool.and_eq_true,Bool.not_eq_true'] at hC
   obtain⟨hDn,hC⟩:=hC
   unfold xc at h
   split at h
   · rename_i p L hps hL
     split at h
     · rename_i xs hxs
       obtain⟨⟨x0,hx0,hpre0,hle0⟩,hgs,hround,hdone⟩:=h
       obtain⟨A0,I0⟩:=I.le hle0
       -- the iterator
       obtain⟨f,t,y,hsv,c,hlk,ht,he,ys,hys,hxs'⟩:∃ f t y,st.ev X.E g = .d (.fn f t) (some y)∧∃ c:ItC,lookI X.it f=some c∧∃ (ht:c.t=t) (he:c.e=L.ty) (ys:List c.e.D),c.f (ht▸y)=some ys∧xs=he▸ys:=by
         generalize st.ev X.E g=s at hxs
         unfold seqS at hxs
         split at hxs
         · rename_i f t y
           split at hxs
           · rename_i c hc
             split at hxs
             · rename_i h1
               split at hxs
               · rename_i h2
                 split at hxs
                 · rename_i ys hys
                   injection hxs with hxs
                   exact⟨f,t,y,rfl,c,hc,h1,h2,ys,hys,hxs.symm⟩
                 · cases hxs
               · cases hxs
             · cases hxs
           · cases hxs
         · cases hxs
       subst ht
       obtain⟨⟨fn,hf,hbs,hnm⟩,hit⟩:=hX.it f c (lookI_mem hlk)
       obtain⟨hels,hseq0⟩:=hit y ys hys
       have hgval:∀ {A':Asg} {x:L.α} {W:World},L.ok st x→Inv w0 M R0 A' (L.st st x) a W→∃ caps:Array Value,a.eval g = .func (.func f) #[] caps∧c.t.ok W (Ro R0 w0.heap.size A' (L.st st x).ob W) y caps.toList:=by
         intro A' x W hok I'
         have h1:=leS_ok (nmK_ok (hgs x hok)).2 (I'.ev (E:=X.E) g)
         rw[hsv] at h1
         obtain⟨caps,h2,h3⟩:=h1
         injection h2 with h2
         exact⟨caps,h2,h3⟩
       obtain⟨caps,hge,_⟩:=hgval hx0 I0
       have hbn:¬ fn.body=none:=by intro h;rw[h] at hbs;cases hbs
       have hnn:¬ fn.name = "runtime.NumGoroutine" := by simpa using hnm
       have heg:∀ args w,(callFunc f args).run P w = .ok (.enter f args) w:=by intro args w;simp[callFunc,hf,hbn,hnn]
       have hp1:ps=#[p]:=by apply Array.toList_inj.1;rw[hps]
       subst hp1
       -- the values that come
       have hgen:∀ {e:Ty} (h2:c.e=e),ys.map (fun x=>c.e.mk (c.e.cv x))=(h2▸ys:List e.D).map (fun x=>e.mk (e.cv x))∧∀ x∈(h2▸ys:List e.D),∀ w ro,e.okV w ro x (e.mk (e.cv x)):=by
         intro e h2;subst h2;exact⟨rfl,hels⟩
       obtain⟨hmap,hels'⟩:=hgen he
       have hseq:=hseq0 caps
       rw[hmap] at hseq
       subst hxs'
       generalize hxs2:(he▸ys:List L.ty.D)=xs at *
       have hlen:(xs.map fun x=>L.ty.mk (L.ty.cv x)).length=xs.length:=List.length_map _
       have hge':∀ {k:Nat} {v:Value},(xs.map fun x=>L.ty.mk (L.ty.cv x))[k]?=some v→∃ y rest,xs=xs.take k++y::rest∧v=L.ty.mk (L.ty.cv y)∧xs[k]?=some y:=by
         intro k v hv
         rw[List.getElem?_map] at hv
         obtain⟨y,hy,rfl⟩:=Option.map_eq_some_iff.1 hv
         obtain⟨hlt,hyy⟩:=List.getElem?_eq_some_iff.1 hy
         exact⟨y,xs.drop (k+1),by rw[← hyy,List.getElem_cons_drop,List.take_append_drop],rfl,hy⟩
       have hdB:∀ {A':Asg} {s:St} {W:World},Inv w0 M R0 A' s a W→∀ D,μOf a D→D<W.heap.size:=by
         intro A' s W I' D hD
         exact (Array.getElem?_eq_some_iff.1 (I'.mu.mks D hD).2.1).1
       have hdB0:=hdB I
       have hsz:w0.heap.size≤w.heap.size:=I.fr.size
       have hdj:∀ {l:Nat} {mark:List Deferred} {W:World},Mk w.heap.size l mark W→∀ d∈mark,d∉a.defers:=by
         intro l mark W hm d hd hd2
         obtain⟨D,e,h1,_⟩:=hm d hd
         have:=hdB0 D (by rw[e] at hd2;exact hd2)
         omega
       have hturn:∀ {M':Ms} {A':Asg} {s:St} {a':Act} {W W':World} {row:Option Nat},Inv w0 M' R0 A' s a' W→A'.μ=μOf a→W.grownBy W' row→(∀ r,row=some r→w.heap.size≤r∧∃ o:Obj,W.heap[r]?=some o∧o.isCells=false)→s.noMp=true→Inv w0 M' R0 A' s a' W':=by
         intro M' A' s a' W W' row I' hμ hg hr hnm
         exact I'.turn hg (fun e=>by rw[hDn] at e;cases e) (fun r e=>⟨Nat.le_trans hsz (hr r e).1,fun hm=>by rw[hμ] at hm;have:=hdB0 r hm;have:=(hr r e).1;omega,(hr r e).2⟩) (fun i o b ho hm _=>by rw[noMp_at hnm ho] at hm;cases hm)
       have hcov:∀ {A':Asg},A'.μ=μOf a→a.defers.Nodup∧∀ x∈a.defers,M.rd=false∧∃ D,A'.μ D∧x={ target := .collected D,args:=#[] }:=by
         intro A' hμ
         refine⟨I.defers.1,fun x hx => ?_⟩
         obtain⟨h1,D,h2,h3⟩:=I.mu.defers.2 x hx
         exact⟨h1,D,by rw[hμ];exact h2,h3⟩
       -- the three facts that go through the rounds
       let Kb : L.α → L.ty.D → Kn := fun x y => ⟨fun s2 => s2.pop (L.st st x).gs.length (L.st st x).tm.length fun s3 => ∃ x', L.ok st x' ∧ L.pre x' = L.pre x ++ [y] ∧ s3.le (L.st st x'),
               fun s2=>s2.pop (L.st st x).gs.length (L.st st x).tm.length K.r,
               fun i s2=>s2.pop (L.st st x).gs.length (L.st st x).tm.length (K.x i)⟩
       let J:Nat→World→Prop:=fun k W=>∃ x A',L.ok st x∧L.pre x=xs.take k∧Inv w0 M R0 A' (L.st st x) a W
       let Jx:Code→World→Prop:=fun c W=>∃ st' A',st'.noMp=true∧Inv w0 M R0 A' st' a W∧((c = .ret∧K.r st')∨∃ i,c = .exit i∧K.x i st')
       let Ax:Nat→Act→World→Prop:=fun k a' W=>∃ x y A' st',st'.noMp=true∧L.ok st x∧L.pre x=xs.take k∧xs[k]?=some y∧xc X an b st' (Kb x y)∧a.tmps.size=(L.st st x).tm.length∧A'.μ=μOf a ∧
         Inv w0 ⟨M.M,γSet M.γ (L.st st x).gs.length a.tmps,M.rd⟩ R0 A' st' a' W∧a'.defers=[]
       refine wpIn_range (gl:=X.gl) (fun l0 h0 => ?_) hge heg rfl hseq J Jx ?_ ?_ ?_ ⟨x0,A0,hx0,by rw[hpre0];rfl,I0⟩ Ax ?_ ?_ ?_ ?_ ?_
       · obtain⟨⟨r0,h1⟩,h2⟩:=hrl l0 h0
         exact⟨r0,(I.fr.block l0 (Array.getElem?_eq_some_iff.1 h1).1 h2).trans h1⟩
       · rintro k W W' row ⟨x,A',h1,h2,I'⟩ hg hr
         exact⟨x,_,h1,h2,hturn I'.mu rfl hg hr (nmK_ok (hgs x h1)).1⟩
       · rintro k W W' row ⟨st',A',h0,I',h1⟩ hg hr
         exact⟨st',_,h0,hturn I'.mu rfl hg hr h0,h1⟩
       · rintro k W ⟨x,A',h1,h2,I'⟩
         obtain⟨caps',e1,e2⟩:=hgval h1 I'
         rw[hge] at e1;injection e1 with _ _ e1;subst e1
         exact⟨(hB.now I').mono (fun b h=>h.1) (fun _ _=>rfl),ok_mono (fun b h=>h.1) (fun _ _=>rfl) e2⟩
       · rintro k a' u W W' row ⟨x,y,A',st',h0,h1,h2,h3,h4,h5,h6,h7,h8⟩ hg hr
         exact⟨x,y,A',st',h0,h1,h2,h3,h4,h5,h6,hturn h7 h6 hg hr h0,h8⟩
       ·
         rintro m l k v W K' hv hl ⟨r0,hr0⟩ ⟨x,A',hok,hpre,I'⟩ hK'
         obtain⟨y,rest,hsp,rfl,hky⟩:=hge' hv
         rw[← hpre] at hsp
         have hrn:=hround x y rest hok hsp
         unfold St.rnd at hrn
         split at hrn
         · rename_i hfr
           have I2:=(I'.mu.hold (by simp only[Bool.and_eq_true] at hfr;exact hfr.1)).put (d:=some p) (s := .d L.ty y) (v:=L.ty.mk (L.ty.cv y)) (hels' y (List.mem_of_getElem? hky) _ _)
           have I3:=I2.act (a':={ tmps:=(#[p].zip #[L.ty.mk (L.ty.cv y)]).foldl (fun t (p,v)=>t.setIfInBounds p v) a.tmps,defers:=[] }) (by simp[Act.put]) rfl
           have hmO:∀ b,(mOf { A' with μ:=μOf a } ((L.st st x).hold.put (some p) (.d L.ty y)) W (γSet M.γ (L.st st x).gs.length a.tmps)).M b→CellsAt W b:=fun b h=>h.2
           have hnl:∀ l' r1,W.heap[l']?=some (.loop r1)→¬ CellsAt W l':=by
             rintro l' r1 h1 ⟨cs,e,q,h2⟩
             rw[h1] at h2;cases h2
           simp only[Bool.and_eq_true] at hfr
           have I5:=I3.tight.rebase rfl hfr.2
           refine iha hC.1 ((BaseOk.mono hB).rebase I3.tight _) (fun h=>by cases h) (fun l' hl' => ?_) I5 hrn (fun a w h=>h) (fun A2 st' a' W' hk I6 => ?_) (fun _ _ _ _ hk _=>hk.elim) (fun _ _ _ _ _ hk _=>hk.elim)
           · injection hl' with hl';subst hl'
             exact⟨⟨r0,hr0⟩,fun h=>hnl l r0 hr0 (hmO l h)⟩
           · have I7:=I3.tight.back hB.me I6
             have hkn:=nmK_ok (st:=st') (k:=fun s1=>xc X an b s1 (Kb x y)) hk
             obtain⟨hk0,hk⟩:=hkn
             refine hK' a' W' (I6.fr.keepsFrom hmO _) ⟨x,y,_,st',hk0,hok,hpre,hky,hk,I'.len,rfl,I7,?_⟩
             cases hd:a'.defers with
             | nil=>rfl
             | cons d ds=>have:=(I6.defers.2 d (by rw[hd];exact List.mem_cons_self ..)).1;cases this
         · exact hrn.elim
       ·
         rintro m l k v a' W hv hl ⟨r0,hr0⟩ ⟨x,y,A',st',hnm',hok,hpre,hky,hk,hts,hμ,I',hda⟩
         have hmO:∀ b,(mOf A' st' W (γSet M.γ (L.st st x).gs.length a.tmps)).M b→CellsAt W b:=fun b h=>h.2
         have hnl:∀ l' r1,W.heap[l']?=some (.loop r1)→¬ CellsAt W l':=by
           rintro l' r1 h1 ⟨cs,e,q,h2⟩
           rw[h1] at h2;cases h2
         have I5:=I'.tight.rebase hda hnm'
         have hback:∀ {A2:Asg} {st2:St} {a2:Act} {W':World} {k:St→Prop},Inv W (mOf A' st' W (γSet M.γ (L.st st x).gs.length a.tmps)) (rOf w0 R0 A' st' W) A2 st2 a2 W'→st2.pop (L.st st x).gs.length (L.st st x).tm.length k →
             ∃ st3 A3,st3.noMp=true∧k st3∧Inv w0 M R0 A3 st3 a W':=by
           intro A2 st2 a2 W' k I6 hpop
           have I7:=I'.tight.back (M:=⟨M.M,γSet M.γ (L.st st x).gs.length a.tmps,M.rd⟩) hB.me I6
           obtain⟨st3,h0,h1,h2⟩:=Inv.pop (M:=M) I7 hts (hcov hμ) hpop
           exact⟨st3,_,h0,h1,h2⟩
         refine ihb hC.2 ((BaseOk.mono hB).rebase I'.tight _) (fun h=>by cases h) (fun l' hl' => ?_) I5 hk (fun a w h=>h) (fun A2 st2 a2 W' hk2 I6 => ?_) (fun A2 st2 a2 W' hk2 I6 => ?_) (fun i A2 st2 a2 W' hk2 I6 => ?_)
         · injection hl' with hl';subst hl'
           exact⟨⟨r0,hr0⟩,fun h=>hnl l r0 hr0 (hmO l h)⟩
         · obtain⟨st3,A3,_,⟨x',k1,k2,k3⟩,I8⟩:=hback (k:=fun s3=>∃ x',L.ok st x'∧L.pre x'=L.pre x++[y]∧s3.le (L.st st x')) I6 hk2
           obtain⟨A4,I9⟩:=I8.le k3
           refine⟨I6.fr.keepsFrom hmO _,x',A4,k1,?_,I9⟩
           rw[k2,hpre,List.take_add_one,hky];rfl
         · obtain⟨st3,A3,k0,k1,I8⟩:=hback I6 hk2
           exact⟨I6.fr.keepsFrom hmO _,st3,A3,k0,I8,.inl ⟨rfl,k1⟩⟩
         · obtain⟨st3,A3,k0,k1,I8⟩:=hback I6 hk2
           exact⟨I6.fr.keepsFrom hmO _,st3,A3,k0,I8,.inr ⟨i,rfl,k1⟩⟩
       · rintro l mark W hm hmr ⟨x,A',hok,hpre,I'⟩
         obtain⟨A2,I2⟩:=I'.mark hm.1 hsz (fun hne=>hrd (Classical.byContradiction fun h=>hne (hmr h))) hm.2 (hdj hm.1)
         exact hn _ _ _ _ (hdone x hok (by rw[hpre,hlen];exact List.take_length)) I2
       · rintro l mark c W hm hmr ⟨st',A',_,I',hk⟩
         obtain⟨A2,I2⟩:=I'.mark hm.1 hsz (fun hne=>hrd (Classical.byContradiction fun h=>hne (hmr h))) hm.2 (hdj hm.1)
         rcases hk with ⟨rfl,hk⟩ | ⟨i,rfl,hk⟩
         · exact wpIn_ret (hret _ _ _ _ hk I2)
         · exact wpIn_exit (hx i _ _ _ _ hk I2)
     · exact h.elim
   · exact h.elim
 | exit id=>intro _ w0 M R0 A st a w K Q r n _ _ _ I h _ _ _ hx;exact wpIn_exit (hx id _ _ _ _ h I)
 | ret=>intro _ w0 M R0 A st a w K Q r n _ _ _ I h _ _ hr _;exact wpIn_ret (hr _ _ _ _ h I)
 | scope b ih =>
   intro hC w0 M R0 A st a w K Q r n hB hrd hrl I h hQ hn hr hx
   exact wpIn_scope (ih hC hB hrd hrl I h hQ hn hr hx)
 | label l=>intro _ w0 M R0 A st a w K Q r n _ _ _ I h _ hn _ _;exact wpIn_label (hn _ _ _ _ h I)
 | _=>intro hC;simp[codeOk] at hC
end Go.Vc
