import Derived.Test.YtfmiecbmikncpaaDoorTORowVZ
namespace Go.Vc
open Go.RowKit
def Mk(B l:Nat)(mark:List Deferred)(W:World):Prop:=∀ d∈mark,∃ D,d={ target := .collected D,args:=#[] }∧B≤D∧D≠l∧W.heap[D]?=some (.deferred (some []))
theorem Mk.keep{B l:Nat}{mark:List Deferred}{W W':World}(h:Mk B l mark W)(hk:∀ k o,B≤k→k≠l→W.heap[k]?=some o→o.isCells=false→o.isWalk=false→W'.heap[k]?=some o):Mk B l mark W':=fun d hd=>by
 obtain⟨D,e,hB,hne,hD⟩:=h d hd
 exact⟨D,e,hB,hne,hk D _ hB hne hD rfl rfl⟩
theorem enter_any{P:Program}{r:Option Nat}{w:World}(hr:∀ l0,r=some l0→∃ r0,w.heap[l0]?=some (.loop r0))(fn:FuncId)(tmps:Array Value)(ps:Array Tmp)(assign body:Code) :
   ∃ (l:Nat) (mark:List Deferred) (W1:World) (df:Nat),(Instr.enterLoop fn tmps ps assign body r).run P w = .ok (l,mark) W1 ∧
     W1.heap[l]?=some (.loop { state := .ready,pending:=none,fn,tmps,params:=ps,assign,body,defers:=df })∧w.heap.size≤l∧w.heap.size≤W1.heap.size ∧
     (∀ {β:Type} (I:β→World→Prop) (s:β),OwnFrom w.heap.size I→I s w→I s W1)∧Mk w.heap.size l mark W1∧mark.Nodup∧(r≠none→mark=[]):=by
 cases r with
 | none =>
   refine⟨w.heap.size+1,[{ target := .collected w.heap.size,args:=#[] }],_,w.heap.size,run_enterLoop_outer _ _ _ _ _,?_,by omega,by simp;omega,fun I s hI h=>hI.alloc _ (hI.alloc _ h),?_,by simp,fun h=>absurd rfl h⟩
   · have:=World.alloc_heap_new (w.alloc (.deferred (some []))) (.loop { state := .ready,pending:=none,fn,tmps,params:=ps,assign,body,defers:=w.heap.size })
     rwa [World.size_alloc] at this
   · intro d hd
     rw[List.mem_singleton] at hd
     exact⟨w.heap.size,hd,Nat.le_refl _,by omega,(Below.heap_alloc _ _ _ (by simp)).trans (World.alloc_heap_new w _)⟩
 | some l0 =>
   obtain⟨r0,h0⟩:=hr l0 rfl
   exact⟨w.heap.size,[],_,r0.defers,run_enterLoop_inner h0 _ _ _ _ _,World.alloc_heap_new w _,Nat.le_refl _,by simp,fun I s hI h=>hI.alloc _ h,fun d hd=>(by cases hd),List.nodup_nil,fun _=>rfl⟩
def roundP(B:Nat)(I:World→Prop)(Ix:Code→World→Prop)(W:World):Exit→Act→World→Prop
 | .normal,_,W'=>KeepsFrom B W W'∧I W'
 | .ret,_,W'=>KeepsFrom B W W'∧Ix .ret W'
 | .exit id,_,W'=>KeepsFrom B W W'∧Ix (.exit id) W'
 | _,_,_=>False
theorem wpIn_range[Dn]{P:Program}{gl:List (Nat×Dat)}{r:Option Nat}{n:Nat}{g:Operand}{ps:Array Tmp}{assign body:Code}{Q:Exit→Act→World→Prop}{a:Act}{w:World}{gf:Nat}{lb:Array Value}
   (hr:∀ l0,r=some l0→∃ r0,w.heap[l0]?=some (.loop r0)) (hg:a.eval g = .func (.func gf) #[] lb) (eg:∀ args w,(callFunc gf args).run P w = .ok (.enter gf args) w)
   {xs:List Value} (hps:ps.size=1) {R:World→Prop} (hseq:SeqGo P gl gf lb R xs) (I:Nat→World→Prop) (Ix:Code→World→Prop) (hI:OwnFrom w.heap.size I) (hIx:OwnFrom w.heap.size Ix)
   (hG:∀ k W,I k W→GlOk gl W (fun b=>b<W.heap.size)∧R W) (h0:I 0 w) (Ax:Nat→Act→World→Prop) (hAx:∀ k a',OwnFrom w.heap.size fun (_:Unit) W=>Ax k a' W)
   (hassign:∀ (m l k:Nat) (x:Value) (W:World) (K:Act→World→Prop),xs[k]?=some x→w.heap.size≤l→(∃ r0,W.heap[l]?=some (.loop r0))→I k W→(∀ a' W',KeepsFrom w.heap.size W W'→Ax k a' W'→K a' W') →
     assign.wpIn (FW (some l)) m P (Exit.then K fun _ _ _=>False) { tmps:=(ps.zip #[x]).foldl (fun t (p,v)=>t.setIfInBounds p v) a.tmps,defers:=[] } W)
   (hbody:∀ (m l k:Nat) (x:Value) (a':Act) (W:World),xs[k]?=some x→w.heap.size≤l→(∃ r0,W.heap[l]?=some (.loop r0))→Ax k a' W→body.wpIn (FW (some l)) m P (roundP w.heap.size (I (k+1)) Ix W) a' W)
   (hdone:∀ (l:Nat) (mark:List Deferred) (W:World),Mk w.heap.size l mark W∧mark.Nodup→(r≠none→mark=[])→I xs.length W→Q .normal { a with defers:=mark++a.defers } W)
   (hstop:∀ (l:Nat) (mark:List Deferred) (c:Code) (W:World),Mk w.heap.size l mark W∧mark.Nodup→(r≠none→mark=[])→Ix c W→c.wpIn (FW r) n P Q { a with defers:=mark++a.defers } W) :
   (Code.rangeFunc g ps assign body).wpIn (FW r) n P Q a w:=by
 refine wpIn_rangeFunc fun fn hfn => ?_
 obtain⟨l,mark,W1,df,hrun,hL1,hl,hs1,hgo,hmk,hnd,hmr⟩:=enter_any (P:=P) hr fn a.tmps ps assign body
 obtain⟨rec,hrec⟩:∃ rec:LoopState→Option Code→Loop,rec=fun st pe=>{ state:=st,pending:=pe,fn,tmps:=a.tmps,params:=ps,assign,body,defers:=df }:=⟨_,rfl⟩
 have hL1':W1.heap[l]?=some (.loop (rec .ready none)):=by rw[hrec];exact hL1
 refine⟨l,mark,W1,{ target := .fn (.func gf) lb,args:=#[.func (.yield l) #[] #[]] },W1,gf,#[.func (.yield l) #[] #[]]++lb,W1,hrun,?_,?_,?_,?_,?_⟩
 · simp only[resolve,hg]
   simp[go_sem]
 · intro f' _;exact trivial
 · simp[invoke,go_sem,eg]
 · intro h;simp[FW,Fence.wide] at h
 ·
   have hstep:∀ {X Y:World} {row:Option Nat} {o:Obj},X.grownBy Y row→(∀ b,row=some b→W1.heap.size≤b∧∃ o:Obj,X.heap[b]?=some o∧o.isWalk=true)→o.isWalk=false→∀ {k:Nat},X.heap[k]?=some o→Y.heap[k]?=some o:=by
     intro X Y row o hg' hrow ho k hk
     exact (grownBy_keeps hg' (fun b e=>(hrow b e).2) hk ho).trans hk
   have hnw:∀ {X:World} {row:Option Nat},(∀ b,row=some b→W1.heap.size≤b∧∃ o:Obj,X.heap[b]?=some o∧o.isWalk=true)→(∀ b,row=some b→w.heap.size≤b∧∃ o:Obj,X.heap[b]?=some o∧o.isCells=false):=by
     intro X row h b e
     obtain⟨hB,o,ho,hw⟩:=h b e
     exact⟨by omega,o,ho,Obj.not_cells_of_walk hw⟩
   have hc:CallsIn (FW none) (n - 1) P gf (#[.func (.yield l) #[] #[]]++lb) W1 fun e W'=>(∃ v,e = .returned v)∧((I xs.length W'∧W'.heap[l]?=some (.loop (rec .ready none))∧Mk w.heap.size l mark W') ∨
       ∃ k:Nat,∃ c,Ix c W'∧W'.heap[l]?=some (.loop (rec .done (some c)))∧Mk w.heap.size l mark W'):=by
     refine hseq (n - 1) l (fun k W=>I k W∧W.heap[l]?=some (.loop (rec .ready none))∧Mk w.heap.size l mark W)
       (fun _ W=>∃ c,Ix c W∧W.heap[l]?=some (.loop (rec .done (some c)))∧Mk w.heap.size l mark W) W1 ?_ ?_ (fun k W' h=>hG k W' h.1) ?_ ⟨hgo I 0 hI h0,hL1',hmk⟩
     · rintro s X Y row ⟨h1,h2,h3⟩ hg' hrow
       exact⟨hI s X Y row h1 hg' (hnw hrow),hstep hg' hrow rfl h2,h3.keep fun k o _ _ hk _ hw=>hstep hg' hrow hw hk⟩
     · rintro s X Y row ⟨c,h1,h2,h3⟩ hg' hrow
       exact⟨c,hIx c X Y row h1 hg' (hnw hrow),hstep hg' hrow rfl h2,h3.keep fun k o _ _ hk _ hw=>hstep hg' hrow hw hk⟩
     ·
       rintro m k x W hx ⟨hi,hrl,hm⟩
       have hy:=run_yield (P:=P) (args:=#[x]) hrl (by rw[hrec];exact hps.symm)
       rw[hrec] at hy
       refine⟨fn,_,assign,body,hy,roundIn_of_wpIn (F:=FW none) hfn (hassign m l k x W _ hx hl ⟨_,hrl⟩ hi ?_)⟩
       intro a' Wa hka hax
       have hla:=hka.same _ _ hl hrl rfl
       have hma:Mk w.heap.size l mark Wa:=hm.keep fun k o hB _ hk hc _=>hka.same k o hB hk hc
       have hlt:l<Wa.heap.size:=(Array.getElem?_eq_some_iff.1 hla).1
       refine⟨_,run_beginRound hla (by rw[hrec]),?_⟩
       obtain⟨busy,hbusy⟩:∃ busy:Loop,busy={ rec .ready none with state := .busy }:=⟨_,rfl⟩
       rw[← hbusy]
       have hl2:(Wa.putObj l (.loop busy)).heap[l]?=some (.loop busy):=World.putObj_heap_same hlt
       have hm2:Mk w.heap.size l mark (Wa.putObj l (.loop busy)):=hma.keep fun k o _ hne hk _ _=>(World.putObj_heap_other hne).trans hk
       refine wpIn_mono (hbody m l k x a' _ hx hl ⟨_,hl2⟩ ((hAx k a').putObj (s:=()) _ hax hl hla rfl)) ?_
       have fin:∀ (jump:Option Code) (W3:World),KeepsFrom w.heap.size (Wa.putObj l (.loop busy)) W3 →
           (Instr.endRound l jump).run P W3 = .ok (.bool jump.isNone) (W3.putObj l (.loop (rec (if jump.isNone then .ready else .done) jump)))∧W3.heap[l]?=some (.loop busy) ∧
           (W3.putObj l (.loop (rec (if jump.isNone then .ready else .done) jump))).heap[l]?=some (.loop (rec (if jump.isNone then .ready else .done) jump)) ∧
           Mk w.heap.size l mark (W3.putObj l (.loop (rec (if jump.isNone then .ready else .done) jump))):=by
         intro jump W3 hk3
         have hl3:=hk3.same _ _ hl hl2 rfl
         have:=run_endRound (P:=P) jump hl3
         refine⟨?_,hl3,World.putObj_heap_same (Array.getElem?_eq_some_iff.1 hl3).1,(hm2.keep fun k o hB _ hk hc _=>hk3.same k o hB hk hc).keep fun k o _ hne hk _ _=>(World.putObj_heap_other hne).trans hk⟩
         rw[hbusy,hrec] at this
         rw[hrec];exact this
       rintro e a3 W3 hp
       cases e with
       | normal =>
         obtain⟨hk3,hi3⟩:=hp
         obtain⟨h1,h2,h3,h4⟩:=fin none W3 hk3
         exact⟨_,_,h1,.inl ⟨rfl,hI.putObj _ hi3 hl h2 rfl,h3,h4⟩⟩
       | ret =>
         obtain⟨hk3,hi3⟩:=hp
         obtain⟨h1,h2,h3,h4⟩:=fin (some .ret) W3 hk3
         exact⟨_,_,h1,.inr ⟨rfl,.ret,hIx.putObj _ hi3 hl h2 rfl,h3,h4⟩⟩
       | exit id =>
         obtain⟨hk3,hi3⟩:=hp
         obtain⟨h1,h2,h3,h4⟩:=fin (some (.exit id)) W3 hk3
         exact⟨_,_,h1,.inr ⟨rfl,.exit id,hIx.putObj _ hi3 hl h2 rfl,h3,h4⟩⟩
       | goto t=>exact hp.elim
       | panic ch=>exact hp.elim
       | outgrown=>exact hp.elim
   have hc':CallsIn (FW r) (n - 1) P gf (#[.func (.yield l) #[] #[]]++lb) W1 _:=hc
   refine hc'.mono ?_
   rintro e W2 ⟨⟨v,rfl⟩,(⟨hi,hrl,hm⟩ | ⟨k,c,hi,hrl,hm⟩)⟩
   · refine⟨none,_,by have:=run_endLoop (P:=P) hrl (by rw[hrec];simp);rw[hrec] at this;exact this,?_⟩
     exact hdone l mark _ ⟨hm.keep fun k o _ hne hk _ _=>(World.putObj_heap_other hne).trans hk,hnd⟩ hmr (hI.putObj _ hi hl hrl rfl)
   · refine⟨some c,_,by have:=run_endLoop (P:=P) hrl (by rw[hrec];simp);rw[hrec] at this;exact this,?_⟩
     exact hstop l mark c _ ⟨hm.keep fun k o _ hne hk _ _=>(World.putObj_heap_other hne).trans hk,hnd⟩ hmr (hIx.putObj _ hi hl hrl rfl)
end Go.Vc
