import Derived.Test.YtfmiecbmikncpaaDoorTORowVO
import Derived.WideKeyArgs
import Derived.ChangeSame
namespace Go.Vc
open Go.RowKit Go.ChangeShapes Go.WideShapes Go.Deep
def DRels{H:Type}:List Dat→List (DataW H)→Prop
 | [],[]=>True
 | x::r,d::s=>DRel x.t x.x (.inl d)∧DRels r s
 | _,_=>False
section
variable {H:Type} {enc:TypeId×Value→H} {P:Program}
theorem open_all[Dn]{w:World}{base:Nat}{spare:Nat→Bool}{held:Bool}{r:Reach}{b0:Nat}:∀ {tys:List (Ty×TypeId)} {vs:List Value} {ds:List (DataW H)} {ps:List MemPlace},
   (∀ a∈tys,a.1.opn=true∧Fit P a.1 (.inl a.2))→(∀ (j:Nat) (t:TypeId) (v:Value),(tys.map (·.2))[j]?=some t→vs[j]?=some v→Value.okWide P w r b0 t v) →
   DataW.TrodAll enc P w base spare held (tys.map (·.2)) vs ds ps→∃ xs:List Dat,xs.map (·.t)=tys.map (·.1)∧DOk w (fun b=>b<w.heap.size) xs vs∧DRels xs ds:=by
 intro tys
 induction tys with
 | nil =>
   intro vs ds ps _ _ h
   obtain⟨rfl,rfl,rfl⟩:=trodAll_nil h
   exact⟨[],rfl,⟨rfl,fun j d v h=>by simp at h⟩,trivial⟩
 | cons a tys ih =>
   intro vs ds ps ha hv h
   obtain⟨v,vs',d,ds',p,q,rfl,rfl,rfl,hd,hr⟩:=trodAll_cons h
   obtain⟨xs,h1,h2,h3⟩:=ih (fun b hb=>ha b (.tail _ hb)) (fun j t v hj hv'=>hv (j+1) t v (by simpa using hj) (by simpa using hv')) hr
   obtain⟨ho,hf⟩:=ha a (.head _)
   obtain⟨y,hy,hyr⟩:=open_ty ho hf (hv 0 a.2 v rfl rfl) hd
   refine⟨⟨a.1,y⟩::xs,by simp[h1],⟨by simp[h2.1],fun j d v h h' => ?_⟩,hyr,h3⟩
   cases j with
   | zero=>simp at h h';subst h;subst h';exact hy
   | succ j=>exact h2.2 j d v (by simpa using h) (by simpa using h')
theorem stays_all(hl:laidOutB P=true){W W':World}(hb:Below W.heap.size W W'){sp:Nat→Bool}:∀ {ts:List TypeId} {vs:List Value} {ds:List (DataW H)} {ps:List MemPlace},
   (∀ t∈ts,P.readableRec t=true∧t<P.types.size)→DataW.TrodAll enc P W 0 (fun _=>true) true ts vs ds ps→(∀ x∈ps,x.block<W.heap.size)→(∀ x∈ps,sp x.block=true) →
   DataW.TrodAll enc P W' 0 sp true ts vs ds ps:=by
 intro ts
 induction ts with
 | nil =>
   intro vs ds ps _ h _ _
   obtain⟨rfl,rfl,rfl⟩:=trodAll_nil h
   exact trodAll_mk0
 | cons t ts ih =>
   intro vs ds ps ht h hlt hsp
   obtain⟨v,vs',d,ds',p,q,rfl,rfl,rfl,hd,hr⟩:=trodAll_cons h
   obtain⟨h1,h2⟩:=ht t (.head _)
   exact trodAll_cons_mk (WideElems.Trod_stays hl h1 h2 hd (fun x hx=>hb.same (hlt x (List.mem_append_left _ hx))) (fun x hx=>hsp x (List.mem_append_left _ hx)))
     (ih (fun b hb=>ht b (.tail _ hb)) hr (fun x hx=>hlt x (List.mem_append_right _ hx)) (fun x hx=>hsp x (List.mem_append_right _ hx)))
theorem law_post[Dn]{f:Func}{s:ChangeSpec}{apart fresh handsOn again:Bool}{W W':World}{args:Array Value}{v:Value}{ds gs:List (DataW H)}{before:List MemPlace}
   (hl:laidOutB P=true) (ht:∀ t∈f.params.toList,P.readableRec t=true∧t<P.types.size)
   (hW:DataW.Whole enc P f.params.toList s.vars apart W args.toList ds gs before) (hvs:s.vars=[]) (hfn:s.fn H (ds++gs)={ results:=(s.fn H (ds++gs)).results,args:=ds })
   (hres:∀ (b:Nat) (sp:Nat→Bool) (hd:Bool),DataW.TrodAll enc P W' b sp hd f.resultTypes.toList (v.resultList f.resultTypes.size) (s.fn H (ds++gs)).results [])
   (hb:Below W.heap.size W W')
   (hok:∀ (j:Nat) (t:TypeId) (r:Value),f.resultTypes[j]?=some t→(v.resultList f.resultTypes.size)[j]?=some r→Value.okWide P W' .any 0 t r) :
   s.post enc P f apart fresh handsOn again W args v W':=by
 have hlt:∀ p∈before,p.block<W.heap.size:=fun p hp=>hW.lt p hp
 have hWW:=hW
 obtain⟨p,q,hA,hV,hpq,hz,hn⟩:=hW
 rw[hvs] at hV
 obtain⟨rfl,rfl⟩:=trodVars_none hV
 rw[List.append_nil] at hpq
 subst hpq
 have hargs:∀ sp:Nat→Bool,(∀ p∈before,sp p.block=true)→DataW.TrodAll enc P W' 0 sp true f.params.toList args.toList (s.fn H (ds++[])).args before:=by
   intro sp hsp
   rw[hfn]
   exact stays_all hl hb ht hA hlt hsp
 have hvars:∀ sp:Nat→Bool,DataW.TrodVars enc P W' sp s.vars (s.fn H (ds++[])).vars []:=by
   intro sp
   rw[hfn,hvs]
   exact rfl
 refine⟨ds,[],before,[],before,[],hWW,hres _ _ _,hargs _ (fun p hp=>by simpa using hlt p hp),hvars _,World.keptBut_mono (fun p hp=>⟨hp,.inr (.inl hp)⟩) (hb.frame (· ∈ before)),fun _ => ?_⟩
 refine⟨hok,_,_,([]++before)++[],⟨[]++before,[],trodAll_append (hargs _ (fun _ _=>rfl)) (hres _ _ _),hvars _,rfl,?_,?_⟩,?_⟩
 · intro b off hp
   have hin:MemPlace.cell b off∈before:=by simpa using hp
   rw[hb.frozen (hlt _ hin)]
   exact hz b off hin
 · intro ha
   simpa using hn ha
 · intro p hp _
   simpa using hp
theorem law_okG[Dn]{E:Env}(hE:EnvOk P E)(hl:laidOutB P=true){F:FuncId}{f:Func}{c:Ctr}{tys:List (Ty×TypeId)}{s:ChangeSpec}{tb:TypeId}{apart fresh handsOn again:Bool}
   {gl:List (Nat×Dat)} (hc:PlainOk P gl F c) (hp:f.params.toList=tys.map (·.2)) (has:(tys.all fun a=>a.1.opn&&decide (E.ty a.2=some a.1))=true) (ha2:(tys.all fun a=>P.readableRec a.2&&decide (a.2<P.types.size))=true)
   (hr:f.resultTypes=#[tb]) (htb:P.underlying tb=some .bool) (hvs:s.vars=[])
   (W:World) (base:Nat) (args:Array Value) (ds gs:List (DataW H)) (before:List MemPlace)
   (hval:∀ (j:Nat) t v,f.params[j]?=some t→args[j]?=some v→Value.okWide P W .any base t v)
   (hW:DataW.Whole enc P f.params.toList s.vars apart W args.toList ds gs before)
   (hgl:GlOk gl W fun b=>b<W.heap.size) (hfn:s.fn H (ds++gs)={ results:=[.lit (.bool true)],args:=ds })
   (hsem:∀ xs:List Dat,xs.map (·.t)=tys.map (·.1)→DRels xs ds→c.sem xs (fun rs=>rs=[⟨.bool,true⟩])) :
   Calls P F args W fun e W'=>∃ v,e = .returned v∧s.post enc P f apart fresh handsOn again W args v W':=by
 have hWW:=hW
 obtain⟨p,q,hA,hV,hpq,hz,hn⟩:=hW
 rw[hp] at hA
 have has':=List.all_eq_true.1 has
 have ha2':=List.all_eq_true.1 ha2
 obtain⟨xs,h1,h2,h3⟩:=open_all (tys:=tys) (fun a ha=>by
     have:=has' a ha
     simp only[Bool.and_eq_true,decide_eq_true_eq] at this
     exact⟨this.1,hE.ty _ _ this.2⟩) (fun j t v hj hv=>hval j t v (by rw[← Array.getElem?_toList,hp];exact hj) (by rw[← Array.getElem?_toList];exact hv)) hA
 have hcall:=hc xs _ (hsem xs h1 h3) W (fun b=>b<W.heap.size) args.toList (fun b hb=>hb) hgl h2
 refine (show Calls P F args W _ from hcall).mono fun e W' ⟨hfr,rs,v,he,hrs,hv⟩ => ?_
 subst hrs
 have hv':v = .bool true:=by
   have:Ty.okV W' _ .bool true v:=hv
   simpa [Ty.okV,Ty.agg,Ty.ok] using this
 subst hv'
 refine⟨_,he,law_post hl ?_ hWW hvs (by rw[hfn]) (fun _ _ _ => ?_) hfr.below (Go.RowKit.ok_one hr rfl (okWide_bool_mk htb _))⟩
 · intro t ht
   rw[hp] at ht
   obtain⟨a,ha,rfl⟩:=List.mem_map.1 ht
   have:=ha2' a ha
   simpa [Bool.and_eq_true,decide_eq_true_eq] using this
 · rw[hfn,hr]
   exact trodAll_cons_mk (shut_bool htb _) trodAll_mk0
end
end Go.Vc
