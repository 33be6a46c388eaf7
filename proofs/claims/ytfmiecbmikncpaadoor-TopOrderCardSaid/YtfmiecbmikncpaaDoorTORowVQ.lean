import Derived.Test.YtfmiecbmikncpaaDoorTORowVP
namespace Go.Vc
open Go.RowKit
def Fn(R:Type):List Ty→Type
 | []=>R
 | t::r=>t.D→Fn R r
def apF{R:Type}:(ps:List Ty)→Fn R ps→R→List Dat→R
 | [],f,_,[]=>f
 | t::r,f,d,⟨t',x⟩::ds=>if h:t'=t then apF r (f (h▸x)) d ds else d
 | [],_,d,_::_=>d
 | _::_,_,d,[]=>d
def cdet(ps:List Ty)(pre:Fn Prop ps)(f:Fn (List Dat) ps):Ctr := .det ps (apF ps pre False) (apF ps f [])
def cgen(ps:List Ty)(sem:Fn ((List Dat→Prop)→Prop) ps):Ctr := .gen ps (apF ps sem fun _=>False)
theorem ap0{R:Type}{f d:R}{ds:List Dat}:(apF [] f d ds=d)∨(ds=[]∧apF [] f d ds=f):=by
 cases ds with
 | nil=>exact .inr ⟨rfl,rfl⟩
 | cons a r=>exact .inl rfl
theorem apS{R:Type}{t:Ty}{r:List Ty}{f:t.D→Fn R r}{d:R}{ds:List Dat}:(apF (t::r) f d ds=d)∨(∃ x ds',ds=⟨t,x⟩::ds'∧apF (t::r) f d ds=apF r (f x) d ds'):=by
 cases ds with
 | nil=>exact .inl rfl
 | cons a q =>
   obtain⟨t',x⟩:=a
   by_cases h:t'=t
   · subst h
     exact .inr ⟨x,q,rfl,by simp[apF]⟩
   · exact .inl (by simp[apF,h])
theorem dest0[Dn]{p:Prop}{ds:List Dat}(h:apF [] p False ds):ds=[]∧p:=by
 rcases ap0 (f:=p) (d:=False) (ds:=ds) with e | ⟨rfl,e⟩
 · rw[e] at h;exact h.elim
 · exact⟨rfl,e▸h⟩
theorem destS[Dn]{t:Ty}{r:List Ty}{p:t.D→Fn Prop r}{ds:List Dat}(h:apF (t::r) p False ds):∃ x ds',ds=⟨t,x⟩::ds'∧apF r (p x) False ds':=by
 rcases apS (f:=p) (d:=False) (ds:=ds) with e | ⟨x,ds',rfl,e⟩
 · rw[e] at h;exact h.elim
 · exact⟨x,ds',rfl,e▸h⟩
theorem gdest0[Dn]{p:(List Dat→Prop)→Prop}{k:List Dat→Prop}{ds:List Dat}(h:apF [] p (fun _=>False) ds k):ds=[]∧p k:=by
 rcases ap0 (f:=p) (d:=fun _=>False) (ds:=ds) with e | ⟨rfl,e⟩
 · rw[e] at h;exact h.elim
 · exact⟨rfl,e▸h⟩
theorem gdestS[Dn]{t:Ty}{r:List Ty}{p:t.D→Fn ((List Dat→Prop)→Prop) r}{k:List Dat→Prop}{ds:List Dat}(h:apF (t::r) p (fun _=>False) ds k):∃ x ds',ds=⟨t,x⟩::ds'∧apF r (p x) (fun _=>False) ds' k:=by
 rcases apS (f:=p) (d:=fun _=>False) (ds:=ds) with e | ⟨x,ds',rfl,e⟩
 · rw[e] at h;exact h.elim
 · exact⟨x,ds',rfl,e▸h⟩
theorem dest1[Dn]{a:Ty}{p:a.D→Prop}{ds:List Dat}(h:apF [a] p False ds):∃ x,ds=[⟨a,x⟩]∧p x:=by
 obtain⟨x,ds',rfl,h'⟩:=destS h
 obtain⟨rfl,h''⟩:=dest0 h'
 exact⟨x,rfl,h''⟩
theorem dest2[Dn]{a b:Ty}{p:a.D→b.D→Prop}{ds:List Dat}(h:apF [a,b] p False ds):∃ x y,ds=[⟨a,x⟩,⟨b,y⟩]∧p x y:=by
 obtain⟨x,ds',rfl,h'⟩:=destS h
 obtain⟨y,rfl,h''⟩:=dest1 h'
 exact⟨x,y,rfl,h''⟩
theorem dest3[Dn]{a b c:Ty}{p:a.D→b.D→c.D→Prop}{ds:List Dat}(h:apF [a,b,c] p False ds):∃ x y z,ds=[⟨a,x⟩,⟨b,y⟩,⟨c,z⟩]∧p x y z:=by
 obtain⟨x,ds',rfl,h'⟩:=destS h
 obtain⟨y,z,rfl,h''⟩:=dest2 h'
 exact⟨x,y,z,rfl,h''⟩
theorem gdest1[Dn]{a:Ty}{p:a.D→(List Dat→Prop)→Prop}{k:List Dat→Prop}{ds:List Dat}(h:apF [a] p (fun _=>False) ds k):∃ x,ds=[⟨a,x⟩]∧p x k:=by
 obtain⟨x,ds',rfl,h'⟩:=gdestS h
 obtain⟨rfl,h''⟩:=gdest0 h'
 exact⟨x,rfl,h''⟩
theorem gdest2[Dn]{a b:Ty}{p:a.D→b.D→(List Dat→Prop)→Prop}{k:List Dat→Prop}{ds:List Dat}(h:apF [a,b] p (fun _=>False) ds k):∃ x y,ds=[⟨a,x⟩,⟨b,y⟩]∧p x y k:=by
 obtain⟨x,ds',rfl,h'⟩:=gdestS h
 obtain⟨y,rfl,h''⟩:=gdest1 h'
 exact⟨x,y,rfl,h''⟩
theorem gdest3[Dn]{a b c:Ty}{p:a.D→b.D→c.D→(List Dat→Prop)→Prop}{k:List Dat→Prop}{ds:List Dat}(h:apF [a,b,c] p (fun _=>False) ds k):∃ x y z,ds=[⟨a,x⟩,⟨b,y⟩,⟨c,z⟩]∧p x y z k:=by
 obtain⟨x,ds',rfl,h'⟩:=gdestS h
 obtain⟨y,z,rfl,h''⟩:=gdest2 h'
 exact⟨x,y,z,rfl,h''⟩
theorem gdest4[Dn]{a b c d:Ty}{p:a.D→b.D→c.D→d.D→(List Dat→Prop)→Prop}{k:List Dat→Prop}{ds:List Dat}(h:apF [a,b,c,d] p (fun _=>False) ds k):∃ x y z u,ds=[⟨a,x⟩,⟨b,y⟩,⟨c,z⟩,⟨d,u⟩]∧p x y z u k:=by
 obtain⟨x,ds',rfl,h'⟩:=gdestS h
 obtain⟨y,z,u,rfl,h''⟩:=gdest3 h'
 exact⟨x,y,z,u,rfl,h''⟩
theorem wf1{a:Ty}{x:a.D}(h:∀ d∈[(⟨a,x⟩:Dat)],d.t.wf d.x):a.wf x:=h ⟨a,x⟩ (.head _)
theorem wf2{a b:Ty}{x:a.D}{y:b.D}(h:∀ d∈[(⟨a,x⟩:Dat),⟨b,y⟩],d.t.wf d.x):a.wf x∧b.wf y:=⟨h ⟨a,x⟩ (.head _),h ⟨b,y⟩ (.tail _ (.head _))⟩
section
variable {P:Program}
theorem GOk.nil[Dn]{gl:List (Nat×Dat)}:GOk P gl []:=trivial
theorem GOk.cons[Dn]{gl:List (Nat×Dat)}{f:FuncId}{fn:Func}{c:Ctr}{Γ:List (FuncId×Ctr)}(h:PlainOk P gl f c)(hf:P.funcs[f]?=some fn)(hb:fn.body.isSome=true)(hn:(fn.name == "runtime.NumGoroutine")=false)(hΓ:GOk P gl Γ):GOk P gl ((f,c)::Γ) :=
 ⟨⟨⟨fn,hf,hb,hn⟩,h⟩,hΓ⟩
theorem GoOk.nil[Dn]{gl:List (Nat×Dat)}:GoOk P gl []:=trivial
theorem GoOk.cons[Dn]{gl:List (Nat×Dat)}{f:FuncId}{fn:Func}{c:OCtr}{Γ:List (FuncId×OCtr)}(h:OwnOk P gl f c)(hf:P.funcs[f]?=some fn)(hb:fn.body.isSome=true)(hn:(fn.name == "runtime.NumGoroutine")=false)(hΓ:GoOk P gl Γ):GoOk P gl ((f,c)::Γ) :=
 ⟨⟨⟨fn,hf,hb,hn⟩,h⟩,hΓ⟩
theorem CxOk.mk'[Dn]{E:Env}(hE:EnvOk P E)(hq:(E.eqs.all fun T=>eqB P T)=true)(hm:P.follows .mixedOrders=true){gl:List (Nat×Dat)}{Γ:List (FuncId×Ctr)}(hΓ:GOk P gl Γ){Γo:List (FuncId×OCtr)}(hΓo:GoOk P gl Γo){it:List (FuncId×ItC)}(hit:∀ g c,(g,c)∈it→ItOk P gl g c):CxOk P ⟨E,Γ,gl,it,Γo⟩:=by
 refine⟨hE,fun T hT => ?_,hΓ,hm,hit,hΓo⟩
 have:=List.all_eq_true.1 hq T
 apply this
 simpa [Env.eqT] using hT
theorem noIt{gl:List (Nat×Dat)}:∀ g c,(g,c)∈([]:List (FuncId×ItC))→ItOk P gl g c:=fun g c h=>by cases h
end
theorem types2{a b:Ty}{xs:List Dat}(h:xs.map (·.t)=[a,b]):∃ x y,xs=[⟨a,x⟩,⟨b,y⟩]:=by
 match xs,h with
 | [⟨t,x⟩,⟨u,y⟩],h=>simp at h;obtain⟨h1,h2⟩:=h;subst h1;subst h2;exact⟨x,y,rfl⟩
end Go.Vc
