import Derived.Test.YtfmiecbmikncpaaDoorTORowVB
import Derived.Laws.BitsAllLaws
import Derived.Laws.BitsLemmas
namespace Go.Vc
open Go.RowKit
def InfoOk(P:Program)(T:TypeId)(t:Ty):Prop:=∃ i,P.info? T=some i∧i.size=t.size∧i.zero=some (t.mk t.zc)∧i.bytes≤32*t.size
def dAgg:TypeDesc→Bool
 | .struct _ | .array _ _=>true
 | _=>false
def Fit(P:Program):Ty→TypeId ⊕ (Array Field×Nat×Nat)→Prop
 | .int k,.inl T=>InfoOk P T (.int k)∧P.underlying T=some (.int k)
 | .bool,.inl T=>InfoOk P T .bool∧P.underlying T=some .bool
 | .str,.inl T=>InfoOk P T .str∧P.underlying T=some .string
 | .err E,.inl T=>InfoOk P T (.err E)∧(∃ ms,P.underlying T=some (.interface ms))∧P.underlying E=some (.int .i64)
 | .sl t,.inl T=>InfoOk P T (.sl t)∧∃ e,P.underlying T=some (.slice e)∧Fit P t (.inl e)
 | .ar n t,.inl T=>InfoOk P T (.ar n t)∧∃ e,P.underlying T=some (.array n e)∧Fit P t (.inl e)
 | .un,.inl T=>InfoOk P T .un∧P.underlying T=some (.struct #[])
 | .pr a b,.inl T=>InfoOk P T (.pr a b)∧∃ fs fld,P.underlying T=some (.struct fs)∧fs[0]?=some fld∧fld.offset=0∧a.size≠0∧Fit P a (.inl fld.type)∧Fit P b (.inr (fs,1,a.size))
 | .fn g t,.inl T=>InfoOk P T (.fn g t)∧∃ d,P.underlying T=some d∧dAgg d=false
 | .ptr t,.inl T=>InfoOk P T (.ptr t)∧∃ d,P.underlying T=some d∧dAgg d=false
 | .raw,.inl T=>InfoOk P T .raw∧∃ d,P.underlying T=some d∧dAgg d=false
 | .nm,.inl T=>InfoOk P T .nm∧∃ a b,P.underlying T=some (.map a b)
 | .un,.inr (fs,f,_)=>fs.size=f
 | .pr a b,.inr (fs,f,o)=>∃ fld,fs[f]?=some fld∧fld.offset=o∧a.size≠0∧Fit P a (.inl fld.type)∧Fit P b (.inr (fs,f+1,o+a.size))
 | _,.inr _=>False
def eatZ:Ty→List Value→Option (List Value)
 | .int k,.int k' n::r=>if k=k'∧n=0 then some r else none
 | .bool,.bool false::r=>some r
 | .str,.string s::r=>if s.data.toList=[] then some r else none
 | .err _,.nilIface::r=>some r
 | .sl _,.slice none 0 0::r=>some r
 | .pr a b,l=>match eatZ a l with
   | some r=>eatZ b r
   | none=>none
 | .un,l=>some l
 | .fn _ _,.nilFunc::r=>some r
 | .ptr _,.pointer none::r=>some r
 | .raw,.nilIface::r=>some r
 | .nm,.map none::r=>some r
 | .ar n t,l=>Nat.rec (motive:=fun _=>Option (List Value)) (some l) (fun _ ih=>match ih with
     | some r=>eatZ t r
     | none=>none) n
 | _,_=>none
theorem eatZ_ok:∀ {t:Ty} {l r:List Value},eatZ t l=some r→l=t.zc++r:=by
 intro t
 induction t with
 | int k =>
   intro l r h
   match l with
   | .int k' n::l =>
     simp only[eatZ] at h
     split at h
     · rename_i hk;obtain⟨rfl,rfl⟩:=hk
       injection h with h;subst h;rfl
     · cases h
   | []=>simp[eatZ] at h
   | .bool _::_ | .float _ _::_ | .complex _ _ _::_ | .string _::_ | .pointer _::_ | .slice _ _ _::_ | .map _::_ | .chan _::_ | .func _ _ _::_ | .nilFunc::_ | .iface _ _::_ | .nilIface::_ | .agg _::_ | .tuple _::_=>simp[eatZ] at h
 | bool =>
   intro l r h
   unfold eatZ at h
   split at h<;>first | (rename_i h1 h2;cases h1;done) | (injection h with h;subst h;rfl) | (cases h;done) | simp_all
 | str =>
   intro l r h
   match l with
   | .string s::l =>
     simp only[eatZ] at h
     split at h
     · rename_i hs
       injection h with h;subst h
       have:s=⟨#[]⟩:=by cases s;rename_i d;simp at hs;subst hs;rfl
       subst this;rfl
     · cases h
   | []=>simp[eatZ] at h
   | .bool _::_ | .float _ _::_ | .complex _ _ _::_ | .int _ _::_ | .pointer _::_ | .slice _ _ _::_ | .map _::_ | .chan _::_ | .func _ _ _::_ | .nilFunc::_ | .iface _ _::_ | .nilIface::_ | .agg _::_ | .tuple _::_=>simp[eatZ] at h
 | err T =>
   intro l r h
   match l with
   | .nilIface::l=>simp only[eatZ] at h;injection h with h;subst h;rfl
   | []=>simp[eatZ] at h
   | .bool _::_ | .float _ _::_ | .complex _ _ _::_ | .int _ _::_ | .pointer _::_ | .slice _ _ _::_ | .map _::_ | .chan _::_ | .func _ _ _::_ | .nilFunc::_ | .iface _ _::_ | .string _::_ | .agg _::_ | .tuple _::_=>simp[eatZ] at h
 | sl t _ =>
   intro l r h
   match l with
   | .slice none 0 0::l=>simp only[eatZ] at h;injection h with h;subst h;rfl
   | .slice (some _) _ _::_ | .slice none (_+1) _::_ | .slice none 0 (_+1)::_=>simp[eatZ] at h
   | []=>simp[eatZ] at h
   | .bool _::_ | .float _ _::_ | .complex _ _ _::_ | .int _ _::_ | .pointer _::_ | .nilIface::_ | .map _::_ | .chan _::_ | .func _ _ _::_ | .nilFunc::_ | .iface _ _::_ | .string _::_ | .agg _::_ | .tuple _::_=>simp[eatZ] at h
 | pr a b iha ihb =>
   intro l r h
   simp only[eatZ] at h
   split at h
   · rename_i r' hr
     rw[iha hr,ihb h];simp[Ty.zc]
   · cases h
 | un=>intro l r h;simp only[eatZ] at h;injection h
 | fn g t _ =>
   intro l r h
   match l with
   | .nilFunc::l=>simp only[eatZ] at h;injection h with h;subst h;rfl
   | []=>simp[eatZ] at h
   | .bool _::_ | .float _ _::_ | .complex _ _ _::_ | .int _ _::_ | .pointer _::_ | .slice _ _ _::_ | .map _::_ | .chan _::_ | .func _ _ _::_ | .nilIface::_ | .iface _ _::_ | .string _::_ | .agg _::_ | .tuple _::_=>simp[eatZ] at h
 | ptr t _ =>
   intro l r h
   match l with
   | .pointer none::l=>simp only[eatZ] at h;injection h with h;subst h;rfl
   | .pointer (some _)::_=>simp[eatZ] at h
   | []=>simp[eatZ] at h
   | .bool _::_ | .float _ _::_ | .complex _ _ _::_ | .int _ _::_ | .nilFunc::_ | .slice _ _ _::_ | .map _::_ | .chan _::_ | .func _ _ _::_ | .nilIface::_ | .iface _ _::_ | .string _::_ | .agg _::_ | .tuple _::_=>simp[eatZ] at h
 | raw =>
   intro l r h
   match l with
   | .nilIface::l=>simp only[eatZ] at h;injection h with h;subst h;rfl
   | []=>simp[eatZ] at h
   | .bool _::_ | .float _ _::_ | .complex _ _ _::_ | .int _ _::_ | .pointer _::_ | .slice _ _ _::_ | .map _::_ | .chan _::_ | .func _ _ _::_ | .nilFunc::_ | .iface _ _::_ | .string _::_ | .agg _::_ | .tuple _::_=>simp[eatZ] at h
 | nm =>
   intro l r h
   match l with
   | .map none::l=>simp only[eatZ] at h;injection h with h;subst h;rfl
   | .map (some _)::_=>simp[eatZ] at h
   | []=>simp[eatZ] at h
   | .bool _::_ | .float _ _::_ | .complex _ _ _::_ | .int _ _::_ | .pointer _::_ | .slice _ _ _::_ | .chan _::_ | .func _ _ _::_ | .nilFunc::_ | .nilIface::_ | .iface _ _::_ | .string _::_ | .agg _::_ | .tuple _::_=>simp[eatZ] at h
 | ar n t ih =>
   intro l r h
   have key:∀ (m:Nat) (r:List Value),(Nat.rec (motive:=fun _=>Option (List Value)) (some l) (fun _ ih=>match ih with
     | some r=>eatZ t r
     | none=>none) m)=some r→l=(List.replicate m t.zc).flatten++r:=by
     intro m
     induction m with
     | zero=>intro r h;injection h with h
     | succ m ihm =>
       intro r h
       simp only at h
       split at h
       · rename_i r' hr
         have h1:=ihm _ hr
         have h2:=ih h
         rw[h1,h2,List.replicate_succ',List.flatten_append];simp
       · cases h
   exact key n r h
def infoB(P:Program)(T:TypeId)(t:Ty):Bool :=
 match P.info? T with
 | some i=>i.size==t.size&&decide (i.bytes≤32*t.size)&&(match i.zero with
   | some z=>(if t.agg then (match z with | .agg cs=>(match eatZ t cs.toList with | some []=>true | _=>false) | _=>false)
       else (match eatZ t [z] with | some []=>true | _=>false))
   | none=>false)
 | none=>false
theorem infoB_ok[Dn]{P:Program}{T:TypeId}{t:Ty}(h:infoB P T t=true):InfoOk P T t:=by
 unfold infoB at h
 split at h
 · rename_i i hi
   simp only[Bool.and_eq_true,beq_iff_eq,decide_eq_true_eq] at h
   obtain⟨⟨h1,h2⟩,h3⟩:=h
   refine⟨i,hi,h1,?_,h2⟩
   split at h3
   · rename_i z hz
     rw[hz]
     unfold Ty.mk
     split at h3
     · rename_i ha
       rw[if_pos ha]
       split at h3
       · rename_i cs
         split at h3
         · rename_i he
           have:=eatZ_ok he
           simp only[List.append_nil] at this
           rw[← this]
         · cases h3
       · cases h3
     · rename_i ha
       rw[if_neg ha]
       split at h3
       · rename_i he
         have:=eatZ_ok he
         simp only[List.append_nil] at this
         rw[← this];rfl
       · cases h3
   · cases h3
 · cases h
def fitB(P:Program):Ty→TypeId ⊕ (Array Field×Nat×Nat)→Bool
 | .int k,.inl T=>infoB P T (.int k)&&(match P.underlying T with | some (.int k')=>decide (k=k') | _=>false)
 | .bool,.inl T=>infoB P T .bool&&(match P.underlying T with | some .bool=>true | _=>false)
 | .str,.inl T=>infoB P T .str&&(match P.underlying T with | some .string=>true | _=>false)
 | .err E,.inl T=>infoB P T (.err E)&&(match P.underlying T with | some (.interface _)=>true | _=>false)&&(match P.underlying E with | some (.int .i64)=>true | _=>false)
 | .sl t,.inl T=>infoB P T (.sl t)&&(match P.underlying T with | some (.slice e)=>fitB P t (.inl e) | _=>false)
 | .ar n t,.inl T=>infoB P T (.ar n t)&&(match P.underlying T with | some (.array m e)=>decide (n=m)&&fitB P t (.inl e) | _=>false)
 | .un,.inl T=>infoB P T .un&&(match P.underlying T with | some (.struct fs)=>fs.toList.isEmpty | _=>false)
 | .pr a b,.inl T=>infoB P T (.pr a b)&&(match P.underlying T with
   | some (.struct fs)=>(match fs[0]? with
     | some fld=>decide (fld.offset=0)&&decide (a.size≠0)&&fitB P a (.inl fld.type)&&fitB P b (.inr (fs,1,a.size))
     | none=>false)
   | _=>false)
 | .fn g t,.inl T=>infoB P T (.fn g t)&&(match P.underlying T with | some d => !dAgg d | _=>false)
 | .ptr t,.inl T=>infoB P T (.ptr t)&&(match P.underlying T with | some d => !dAgg d | _=>false)
 | .raw,.inl T=>infoB P T .raw&&(match P.underlying T with | some d => !dAgg d | _=>false)
 | .nm,.inl T=>infoB P T .nm&&(match P.underlying T with | some (.map _ _)=>true | _=>false)
 | .un,.inr (fs,f,_)=>decide (fs.size=f)
 | .pr a b,.inr (fs,f,o)=>(match fs[f]? with
     | some fld=>decide (fld.offset=o)&&decide (a.size≠0)&&fitB P a (.inl fld.type)&&fitB P b (.inr (fs,f+1,o+a.size))
     | none=>false)
 | _,.inr _=>false
theorem fitB_ok[Dn]{P:Program}:∀ {t:Ty} {x},fitB P t x=true→Fit P t x:=by
 intro t
 induction t with
 | int k =>
   intro x h
   cases x with
   | inr x=>simp[fitB] at h
   | inl T =>
     simp only[fitB,Bool.and_eq_true] at h
     refine⟨infoB_ok h.1,?_⟩
     have h2:=h.2
     split at h2
     · rename_i k' hk;rw[hk];simp at h2;rw[h2]
     · cases h2
 | bool =>
   intro x h
   cases x with
   | inr x=>simp[fitB] at h
   | inl T =>
     simp only[fitB,Bool.and_eq_true] at h
     refine⟨infoB_ok h.1,?_⟩
     have h2:=h.2
     split at h2
     · assumption
     · cases h2
 | str =>
   intro x h
   cases x with
   | inr x=>simp[fitB] at h
   | inl T =>
     simp only[fitB,Bool.and_eq_true] at h
     refine⟨infoB_ok h.1,?_⟩
     have h2:=h.2
     split at h2
     · assumption
     · cases h2
 | err E =>
   intro x h
   cases x with
   | inr x=>simp[fitB] at h
   | inl T =>
     simp only[fitB,Bool.and_eq_true] at h
     refine⟨infoB_ok h.1.1,?_,?_⟩
     · have h2:=h.1.2
       split at h2
       · exact⟨_,by assumption⟩
       · cases h2
     · have h2:=h.2
       split at h2
       · assumption
       · cases h2
 | sl t ih =>
   intro x h
   cases x with
   | inr x=>simp[fitB] at h
   | inl T =>
     simp only[fitB,Bool.and_eq_true] at h
     refine⟨infoB_ok h.1,?_⟩
     have h2:=h.2
     split at h2
     · exact⟨_,by assumption,ih h2⟩
     · cases h2
 | ar n t ih =>
   intro x h
   cases x with
   | inr x=>simp[fitB] at h
   | inl T =>
     simp only[fitB,Bool.and_eq_true] at h
     refine⟨infoB_ok h.1,?_⟩
     have h2:=h.2
     split at h2
     · simp only[Bool.and_eq_true,decide_eq_true_eq] at h2
       obtain⟨rfl,h2⟩:=h2
       exact⟨_,by assumption,ih h2⟩
     · cases h2
 | fn g t _ =>
   intro x h
   cases x with
   | inr x=>simp[fitB] at h
   | inl T =>
     simp only[fitB,Bool.and_eq_true] at h
     refine⟨infoB_ok h.1,?_⟩
     have h2:=h.2
     split at h2
     · rename_i d hd
       exact⟨d,hd,by simpa using h2⟩
     · cases h2
 | ptr t _ =>
   intro x h
   cases x with
   | inr x=>simp[fitB] at h
   | inl T =>
     simp only[fitB,Bool.and_eq_true] at h
     refine⟨infoB_ok h.1,?_⟩
     have h2:=h.2
     split at h2
     · rename_i d hd
       exact⟨d,hd,by simpa using h2⟩
     · cases h2
 | raw =>
   intro x h
   cases x with
   | inr x=>simp[fitB] at h
   | inl T =>
     simp only[fitB,Bool.and_eq_true] at h
     refine⟨infoB_ok h.1,?_⟩
     have h2:=h.2
     split at h2
     · rename_i d hd
       exact⟨d,hd,by simpa using h2⟩
     · cases h2
 | nm =>
   intro x h
   cases x with
   | inr x=>simp[fitB] at h
   | inl T =>
     simp only[fitB,Bool.and_eq_true] at h
     refine⟨infoB_ok h.1,?_⟩
     have h2:=h.2
     split at h2
     · rename_i d e hd
       exact⟨d,e,hd⟩
     · cases h2
 | un =>
   intro x h
   cases x with
   | inr x =>
     obtain⟨fs,f,o⟩:=x
     have h':fs.size=f:=by simpa [fitB] using h
     exact h'
   | inl T =>
     simp only[fitB,Bool.and_eq_true] at h
     refine⟨infoB_ok h.1,?_⟩
     have h2:=h.2
     split at h2
     · rename_i fs hfs
       rw[hfs];simp at h2;rw[h2]
     · cases h2
 | pr a b iha ihb =>
   intro x h
   cases x with
   | inr x =>
     obtain⟨fs,f,o⟩:=x
     simp only[fitB] at h
     split at h
     · rename_i fld hf
       simp only[Bool.and_eq_true,decide_eq_true_eq] at h
       exact⟨fld,hf,h.1.1.1,h.1.1.2,iha h.1.2,ihb h.2⟩
     · cases h
   | inl T =>
     simp only[fitB,Bool.and_eq_true] at h
     refine⟨infoB_ok h.1,?_⟩
     have h2:=h.2
     split at h2
     · rename_i fs hfs
       split at h2
       · rename_i fld hf
         simp only[Bool.and_eq_true,decide_eq_true_eq] at h2
         exact⟨fs,fld,hfs,hf,h2.1.1.1,h2.1.1.2,iha h2.1.2,ihb h2.2⟩
       · cases h2
     · cases h2
theorem Fit.info{P:Program}{t:Ty}{T:TypeId}(h:Fit P t (.inl T)):InfoOk P T t:=by
 cases t<;>exact h.1
theorem Fit.size[Dn]{P:Program}{t:Ty}{T:TypeId}(h:Fit P t (.inl T))(w:World):(sizeOf T).run P w = .ok t.size w:=by
 obtain⟨i,hi,hs,_⟩:=h.info
 simp[sizeOf,typeInfo,hi,hs]
theorem Fit.isAgg{P:Program}{t:Ty}{T:TypeId}(h:Fit P t (.inl T))(w:World):(isAgg T).run P w = .ok t.agg w:=by
 have key:∃ d,P.underlying T=some d∧(match d with | .struct _ | .array _ _=>true | _=>false)=t.agg:=by
   cases t with
   | int k=>exact⟨_,h.2,rfl⟩
   | bool=>exact⟨_,h.2,rfl⟩
   | str=>exact⟨_,h.2,rfl⟩
   | err E=>obtain⟨ms,hm⟩:=h.2.1;exact⟨_,hm,rfl⟩
   | sl t=>obtain⟨e,he,_⟩:=h.2;exact⟨_,he,rfl⟩
   | ar n t=>obtain⟨e,he,_⟩:=h.2;exact⟨_,he,rfl⟩
   | un=>exact⟨_,h.2,rfl⟩
   | pr a b=>obtain⟨fs,_,he,_⟩:=h.2;exact⟨_,he,rfl⟩
   | fn g t=>obtain⟨d,hd,ha⟩:=h.2;exact⟨d,hd,ha⟩
   | ptr t=>obtain⟨d,hd,ha⟩:=h.2;exact⟨d,hd,ha⟩
   | raw=>obtain⟨d,hd,ha⟩:=h.2;exact⟨d,hd,ha⟩
   | nm=>obtain⟨d,e,hd⟩:=h.2;exact⟨_,hd,rfl⟩
 obtain⟨d,hd,ht⟩:=key
 unfold Go.isAgg
 rw[Sem.run_bind,run_underlying hd w]
 cases d<;>simp_all
theorem Fit.load[Dn]{P:Program}{t:Ty}{T:TypeId}(h:Fit P t (.inl T)){w:World}{ad:Addr}{us:List Value}(hl:us.length=t.size)
   (hc:∀ j u,us[j]?=some u→w.cell? (ad.add j)=some u):(loadVar T ad).run P w = .ok (t.mk us) w:=by
 unfold loadVar Ty.mk
 rw[Sem.run_bind,h.isAgg w,Result.andThen_ok]
 cases ha:t.agg with
 | true =>
   have hcs:=run_loadCells_list (P:=P) w ad us hc
   rw[hl] at hcs
   simp[h.size w,hcs]
 | false =>
   rw[size_one ha] at hl
   match us,hl with
   | [c],_ =>
     have:=hc 0 c rfl
     rw[Addr.add_zero'] at this
     simp[run_load,this]
structure Env where
 tys:List (TypeId×Ty)
 errT:TypeId
 eqs:List TypeId
 els:List (TypeId×TypeId)
 sa:List Nat:=[]
 pz:List Nat:=[]
 pb:List TypeId:=[]
 mps:List (TypeId×(TypeId×TypeId)):=[]
def look:List (TypeId×Ty)→TypeId→Option Ty
 | [],_=>none
 | x::r,T=>if x.1=T then some x.2 else look r T
def Env.ty(E:Env)(T:TypeId):Option Ty:=look E.tys T
def Env.eqT(E:Env)(T:TypeId):Bool:=E.eqs.contains T
def lookT:List (TypeId×TypeId)→TypeId→Option TypeId
 | [],_=>none
 | x::r,T=>if x.1=T then some x.2 else lookT r T
def Env.el(E:Env)(T:TypeId):Option TypeId:=lookT E.els T
def lookM:List (TypeId×(TypeId×TypeId))→TypeId→Option (TypeId×TypeId)
 | [],_=>none
 | x::r,T=>if x.1=T then some x.2 else lookM r T
def Env.mp(E:Env)(T:TypeId):Option (TypeId×TypeId):=lookM E.mps T
structure EnvOk(P:Program)(E:Env):Prop where
 ty:∀ T t,E.ty T=some t→Fit P t (.inl T)
 err:P.underlying E.errT=some (.int .i64)
 el:∀ T e,E.el T=some e→P.underlying T=some (.slice e)
 mp:∀ T k e,E.mp T=some (k,e)→P.underlying T=some (.map k e)
theorem look_find(l:List (TypeId×Ty))(T:TypeId):look l T=(l.find? fun x=>x.1==T).map (·.2):=by
 induction l with
 | nil=>rfl
 | cons x r ih =>
   simp only[look,List.find?_cons]
   by_cases h:x.1=T
   · simp[h]
   · have:(x.1==T)=false:=by simpa using h
     rw[if_neg h,this];exact ih
theorem lookT_mem{l:List (TypeId×TypeId)}{T e:TypeId}(h:lookT l T=some e):(T,e)∈l:=by
 induction l with
 | nil=>cases h
 | cons x r ih =>
   simp only[lookT] at h
   split at h
   · rename_i hx
     injection h with h
     subst h;subst hx
     exact List.mem_cons_self ..
   · exact List.mem_cons_of_mem _ (ih h)
theorem lookM_mem{l:List (TypeId×(TypeId×TypeId))}{T:TypeId}{e:TypeId×TypeId}(h:lookM l T=some e):(T,e)∈l:=by
 induction l with
 | nil=>cases h
 | cons x r ih =>
   simp only[lookM] at h
   split at h
   · rename_i hx;injection h with h;subst hx;subst h;exact List.mem_cons_self ..
   · exact List.mem_cons_of_mem _ (ih h)
theorem EnvOk.of_list[Dn]{P:Program}{E:Env}(h:(E.tys.all fun x=>fitB P x.2 (.inl x.1))=true)(he:P.underlying E.errT=some (.int .i64))
   (hl:(E.els.all fun x=>match P.underlying x.1 with | some (.slice e)=>e==x.2 | _=>false)=true)
   (hm:(E.mps.all fun x=>match P.underlying x.1 with | some (.map k e)=>k==x.2.1&&e==x.2.2 | _=>false)=true:=by kernel_rfl):EnvOk P E:=by
 refine⟨fun T t ht => ?_,he,fun T e hT => ?_,fun T k e hT => ?_⟩
 rotate_left
 · have:=List.all_eq_true.1 hl _ (lookT_mem hT)
   simp only at this
   split at this
   · rename_i e' he'
     simp only[beq_iff_eq] at this
     rw[he',this]
   · cases this
 · have:=List.all_eq_true.1 hm _ (lookM_mem hT)
   simp only at this
   split at this
   · rename_i k' e' he'
     simp only[Bool.and_eq_true,beq_iff_eq] at this
     rw[he',this.1,this.2]
   · cases this
 rw[Env.ty,look_find] at ht
 obtain⟨x,hx,rfl⟩:=Option.map_eq_some_iff.1 ht
 have h1:=List.find?_some hx
 have h2:=List.mem_of_find?_eq_some hx
 have:=List.all_eq_true.1 h x h2
 simp only[beq_iff_eq] at h1
 subst h1
 exact fitB_ok this
def ofV(E:Env):Value→SV
 | .bool b => .bt b
 | .int k n=>if k.wrap n=n then .d (.int k) n else .any
 | .string s=>if s.data.toList.length≤65536 then .d .str s.data.toList else .any
 | .nilIface => .d (.err E.errT) (0:Int)
 | .iface T (.int .i64 n)=>if n=0 then .any else .d (.err T) n
 | .slice none 0 0 => .nils
 | .pointer none => .nilp
 | .map none => .d .nm ()
 | _ => .any
theorem ofV_ok(E:Env)(w:World)(ro:Nat→Prop)(A:Asg)(v:Value):SvOk w ro A (ofV E v) v:=by
 unfold ofV
 split
 · rfl
 · split
   · rename_i h;exact⟨rfl,h⟩
   · trivial
 · split
   · rename_i s h;exact⟨by simp,by simp only[maxLen];omega⟩
   · trivial
 · exact .inl ⟨rfl,rfl⟩
 · split
   · trivial
   · rename_i h;exact .inr ⟨h,rfl⟩
 · rfl
 · rfl
 · rfl
 · trivial
def lookK:List (GK×SV)→GK→SV
 | [],_ => .any
 | x::r,k=>if x.1=k then x.2 else lookK r k
theorem lookK_mem:∀ {l:List (GK×SV)} {k:GK},lookK l k = .any∨(k,lookK l k)∈l
 | [],_ => .inl rfl
 | x::r,k=>by
   unfold lookK
   split
   · rename_i h;subst h;exact .inr (List.mem_cons_self ..)
   · rcases lookK_mem (l:=r) (k:=k) with h | h
     · exact .inl h
     · exact .inr (List.mem_cons_of_mem _ h)
def St.ev(E:Env)(st:St):Operand→SV
 | .tmp t=>st.tm.getD t .any
 | .const v=>ofV E v
 | .global g=>lookK st.gs (.glob g)
 | .func f => .d (.fn f .un) (some ())
theorem Inv.ev[Dn]{E:Env}{w0:World}{M:Ms}{R0:Nat→Prop}{A:Asg}{st:St}{a:Act}{w:World}(I:Inv w0 M R0 A st a w)(x:Operand) :
   SvOk w (Ro R0 w0.heap.size A st.ob w) A (st.ev E x) (a.eval x):=by
 cases x with
 | tmp t =>
   show SvOk w _ A (st.tm.getD t .any) (a.tmps.getD t undef)
   rcases Nat.lt_or_ge t st.tm.length with h | h
   · have:=I.tm t st.tm[t] (List.getElem?_eq_getElem h)
     rwa [List.getD_eq_getElem?_getD,List.getElem?_eq_getElem h]
   · rw[List.getD_eq_getElem?_getD,List.getElem?_eq_none h];trivial
 | const v=>exact ofV_ok E w _ A v
 | global g =>
   show SvOk w _ A (lookK st.gs (.glob g)) (.pointer (some ⟨g,0,none⟩))
   rcases lookK_mem (l:=st.gs) (k := .glob g) with h | h
   · rw[h];trivial
   · exact I.gh _ _ h
 | func f=>exact⟨#[],rfl,rfl⟩
def Ext(w w'':World):Prop:=∀ b,b<w.heap.size→w''.heap[b]?=w.heap[b]?
theorem Ext.refl(w:World):Ext w w:=fun _ _=>rfl
theorem Ext.cell{w w'':World}(h:Ext w w''){a:Addr}{u:Value}(hc:w.cell? a=some u):w''.cell? a=some u :=
 (World.cell?_of_block (h a.block (World.block_lt_of_cell? w a hc))).trans hc
theorem addr_add(g o n:Nat):(⟨g,o,none⟩:Addr).add n=⟨g,o+n,none⟩:=Addr.add_lit g o n
theorem addr_add_add[Dn](ad:Addr)(h:ad.spot=none)(i j:Nat):(ad.add i).add j=ad.add (i+j):=by
 cases ad;simp only at h;subst h;simp only[addr_add,Nat.add_assoc]
def ldD(o:Option Dat)(t:Ty)(k:SV→Prop):Prop :=
 match o with
 | some ⟨t',y⟩=>if t'=t then k (.d t' y) else False
 | none=>False
theorem vq_nil:∀ (t:Ty),vq t []:=fun t=>by cases t<;>trivial
theorem off_nil(t:Ty):off t []=some (0,t):=by cases t<;>rfl
def chk:List SV→Nat→Option SV
 | [],_=>none
 | s::r,o=>match o with
   | 0=>some s
   | o+1=>if s.len≤o+1 then chk r (o+1 - s.len) else none
def chs:List SV→Nat→SV→List SV
 | [],_,_=>[]
 | s::r,o,s'=>match o with
   | 0=>s'::r
   | o+1=>s::chs r (o+1 - s.len) s'
theorem spl_app(c f:List Value)(o:Nat)(us:List Value)(h:c.length≤o):spl (c++f) o us=c++spl f (o - c.length) us:=by
 have e:o=c.length+(o - c.length):=by omega
 simp only[spl]
 rw[e,take_app,show c.length+(o - c.length)+us.length=c.length+((o - c.length)+us.length) by omega,drop_app]
 simp
theorem chk_spec[Dn]:∀ {l:List SV} {css:List (List Value)} {o:Nat} {s:SV},css.length=l.length→(∀ (j:Nat) s u,l[j]?=some s→css[j]?=some u→u.length=s.len)→chk l o=some s →
   ∃ (j:Nat) (u:List Value),l[j]?=some s∧css[j]?=some u∧o+s.len≤css.flatten.length∧(css.flatten.drop o).take s.len=u ∧
     ∀ s':SV,chs l o s'=l.set j s'∧∀ u':List Value,u'.length=u.length→(css.set j u').flatten=spl css.flatten o u'
 | [],_,_,_,_,_,h=>by cases h
 | s0::r,[],_,_,hl,_,_=>by cases hl
 | s0::r,c::cs,o,s,hl,hlen,h=>by
   have hc:=hlen 0 s0 c rfl rfl
   have hl':cs.length=r.length:=by simpa using hl
   have hlen':∀ (j:Nat) s u,r[j]?=some s→cs[j]?=some u→u.length=s.len:=fun j s u h1 h2=>hlen (j+1) s u (by simpa using h1) (by simpa using h2)
   cases o with
   | zero =>
     simp only[chk,Option.some.injEq] at h
     subst h
     refine⟨0,c,rfl,rfl,by simp[← hc],by simp[← hc],fun s'=>⟨rfl,fun u' hu => ?_⟩⟩
     simp only[List.set_cons_zero,List.flatten_cons,spl,List.take_zero,List.nil_append,Nat.zero_add,hu]
     rw[List.drop_left]
   | succ o =>
     simp only[chk] at h
     split at h
     · rename_i hle
       obtain⟨j,u,h1,h2,h3,h4,h5⟩:=chk_spec hl' hlen' h
       refine⟨j+1,u,by simpa using h1,by simpa using h2,by simp only[List.flatten_cons,List.length_append];omega,?_,fun s'=>⟨?_,fun u' hu => ?_⟩⟩
       · rw[List.flatten_cons,show o+1=c.length+(o+1 - s0.len) by omega,drop_app];exact h4
       · simp only[chs,List.set_cons_succ];rw[(h5 s').1]
       · rw[List.set_cons_succ,List.flatten_cons,List.flatten_cons,(h5 s').2 u' hu,spl_app _ _ _ _ (by omega),hc]
     · cases h
def Ot.get:(u:Ot)→u.D→List Nat→((u':Ot)→u'.D→Prop)→Prop
 | u,x,[],K=>K u x
 | .sl _ u,xs,k::p,K=>k<List.length (ls xs)∧u.get (List.getD (ls xs) k u.er.z) p K
 | .d _,_,_::_,_=>False
def atp(κ:List Nat→Value)(p:List Nat):List Nat→Value:=fun q=>κ (p++q)
theorem getD_some{α:Type}{l:List α}{k:Nat}{z:α}(h:k<l.length):l[k]?=some (l.getD k z):=by
 rw[List.getD_eq_getElem?_getD,List.getElem?_eq_getElem h];rfl
theorem Ot.get_spec[Dn]{w:World}{ro:Nat→Prop}:∀ {u:Ot} {κ:List Nat→Value} {x:u.D} {p:List Nat} {K:(u':Ot)→u'.D→Prop},u.nd w ro κ x→u.get x p K →
   ∃ u' y,K u' y∧u'.nd w ro (atp κ p) y∧∀ p',u'.vp y p'→u.vp x (p++p')
 | u,κ,x,[],K,hn,h=>by
   have h':K u x:=by cases u<;>exact h
   exact⟨u,x,h',hn,fun p' hp=>hp⟩
 | .sl e u,κ,xs,k::p,K,hn,h=>by
   obtain⟨hk,h⟩:=h
   have hs:=getD_some (z:=u.er.z) hk
   obtain⟨u',y,h1,h2,h3⟩:=Ot.get_spec (hn.2 k _ hs) h
   exact⟨u',y,h1,h2,fun p' hp=>⟨_,hs,h3 p' hp⟩⟩
 | .d _,_,_,_::_,_,_,h=>h.elim
theorem nd_cell[Dn]{w:World}{ro:Nat→Prop}{e:TypeId}{u:Ot}{κ:List Nat→Value}{xs:(Ot.sl e u).D}(hn:(Ot.sl e u).nd w ro κ xs){g n c:Nat}(hκ:κ [] = .slice (some ⟨g,0,none⟩) n c){k:Nat}(hk:k<(ls xs).length)(z:u.D) :
   ∃ (cur:Array Value) (css:List (List Value)) (cc:List Value),w.heap[g]?=some (.cells cur e (0,0))∧n=(ls xs).length∧css.length=(ls xs).length∧(∀ (k:Nat) y c,(ls xs)[k]?=some y→css[k]?=some c→c.length=u.size∧u.cl w ro (at_ κ k) y c) ∧
     n≤c∧c≤maxLen∧cur.size=c*u.size∧cur.toList.take (n*u.size)=css.flatten∧css[k]?=some cc∧cc.length=u.size∧(cur.toList.drop (k*u.size)).take u.size=cc∧u.cl w ro (at_ κ k) ((ls xs).getD k z) cc∧k*u.size+u.size≤cur.size:=by
 obtain⟨⟨css,h1,h2,h3⟩,_⟩:=hn
 rw[hκ] at h3
 obtain⟨_,h3⟩:=h3
 rcases h3 with ⟨he,_⟩ | ⟨g',cap,cur,he,_,hh,hnc,hm,hcur,htake⟩
 · cases he
 injection he with e1 e2 e3
 injection e1 with e1;injection e1 with e1;subst e1;subst e2;subst e3
 have hkc:k<css.length:=by omega
 have hcc:=List.getElem?_eq_getElem hkc
 obtain⟨k1,k2⟩:=h2 k _ _ (getD_some (z:=z) hk) hcc
 have hall:∀ v∈css,v.length=u.size:=by
   intro v hv
   obtain⟨j,hj⟩:=List.getElem?_of_mem hv
   have hjl:j<(ls xs).length:=by rw[← h1];exact (List.getElem?_eq_some_iff.1 hj).1
   exact (h2 j _ v (List.getElem?_eq_getElem hjl) hj).1
 have hfa:=flat_at hall hcc
 have hb:(k+1)*u.size≤(ls xs).length*u.size:=Nat.mul_le_mul_right _ hk
 rw[Nat.add_mul,Nat.one_mul] at hb
 have hcb:(ls xs).length*u.size≤c*u.size:=Nat.mul_le_mul_right _ hnc
 refine⟨cur,css,css[k],hh,rfl,h1,h2,hnc,hm,hcur,htake,hcc,k1,?_,k2,by omega⟩
 rw[← hfa,← htake,List.drop_take,List.take_take]
 congr 1;omega
def ldC(s:SV)(t0 t:Ty)(q:List Nat)(k:SV→Prop):Prop :=
 match s with
 | .d t1 x=>if t1=t0 then ldD (sub t1 x q) t k else False
 | s=>match q with
   | []=>if t.agg then False else k s
   | _::_=>False
def ldT(t0 t:Ty)(i:Nat)(p:List Nat)(kk:Nat)(q:List Nat)(k:SV→Prop):(u:Ot)→u.D→Prop
 | .sl _ (.d t1),ys=>kk<List.length ys∧(if t1=t0 then ldD (sub t1 (List.getD ys kk t1.z) q) t k else False)
 | .sl _ (.sl _ u),ys=>kk<List.length ys∧(if t0 = .sl u.er then (match q with
   | []=>if t.agg then False else k (.tv i (p++[kk]))
   | _::_=>False) else False)
 | .d _,_=>False
def ldP(t:Ty)(k:SV→Prop):(u:Ty)→u.D→Prop
 | .ptr t1,x=>match x with
   | some y=>if t1=t then k (.d t1 y) else False
   | none=>False
 | _,_=>False
def pkO(a:Ty):SV→Option a.D
 | .d a' x=>if h:a'=a then some (h▸x) else none
 | .nils=>match a with
   | .sl _=>some []
   | _=>none
 | _=>none
def packD:(t:Ty)→List SV→Option t.D
 | .pr a b,s::r=>match pkO a s with
   | some x=>match packD b r with
     | some y=>some (x,y)
     | none=>none
   | none=>none
 | .un,[]=>some ()
 | _,_=>none
def lenS:List SV→Nat
 | []=>0
 | s::r=>s.len+lenS r
def ldS(t:Ty)(l:List SV)(k:SV→Prop):Prop :=
 if t.agg=true then match packD t l with
   | some x=>k (.d t x)
   | none=>if lenS l=t.size then k (.ag l) else False
 else False
def ld(st:St)(t:Ty)(k:SV→Prop):SV→Prop
 | .ps i=>match st.ob[i]? with
   | some (.st _ l)=>ldS t l k
   | _=>False
 | .pv t0 i q=>match st.ob[i]? with
   | some (.var _ t1 x)=>if t1=t0 then ldD (sub t1 x q) t k else False
   | some (.st _ l)=>match chk l 0 with
     | some s=>ldC s t0 t q k
     | none=>False
   | _=>False
 | .ea t0 i kk q=>match st.ob[i]? with
   | some (.row _ t1 xs)=>if t1=t0 then ldD (sub t1 (xs.getD kk t1.z) q) t k else False
   | _=>False
 | .ra t1 x=>if t1=t then k (.d t1 x) else False
 | .pf t0 i o q=>match st.ob[i]? with
   | some (.st _ l)=>match chk l o with
     | some s=>ldC s t0 t q k
     | none=>False
   | _=>False
 | .ta t0 i p kk q=>match st.ob[i]? with
   | some (.trow e u xs)=>(Ot.sl e u).get xs p (ldT t0 t i p kk q k)
   | _=>False
 | .d u x=>ldP t k u x
 | _=>False
theorem ldD_ok{w:World}{ro:Nat→Prop}{t1 t:Ty}{x:t1.D}{cs:List Value}{q:List Nat}{o:Nat}{t':Ty}{k:SV→Prop}(hok:t1.ok w ro x cs)(hv:vq t1 q)(ho:off t1 q=some (o,t'))
   (h:ldD (sub t1 x q) t k):∃ x':t.D,k (.d t x')∧o+t.size≤t1.size∧t.ok w ro x' ((cs.drop o).take t.size):=by
 obtain⟨x',e,hl,hx⟩:=sub_ok hok hv ho
 rw[e] at h
 simp only[ldD] at h
 split at h
 · rename_i ht;subst ht;exact⟨x',h,hl,hx⟩
 · exact h.elim
theorem sv_one{w:World}{ro:Nat→Prop}{A:Asg}{s:SV}{v:Value}(h:SvOk0 w ro A s v):SvOk w ro A s v:=by
 cases s<;>first | exact h | exact h.elim
theorem run_load_at[Dn]{P:Program}{w:World}{t:Ty}{T:TypeId}(hf:Fit P t (.inl T)){g:Nat}{cs:Array Value}{e:TypeId}(hg:w.heap[g]?=some (.cells cs e (0,0)))
   {o:Nat} {ro:Nat→Prop} {w1:World} {x:t.D} (hok:t.ok w1 ro x ((cs.toList.drop o).take t.size)) :
   (loadVar T ⟨g,o,none⟩).run P w = .ok (t.mk ((cs.toList.drop o).take t.size)) w:=by
 refine hf.load (ok_len hok) fun j u hj => ?_
 rw[addr_add,cell_of_row w g _ cs e (0,0) hg]
 rw[List.getElem?_take] at hj
 split at hj
 · rw[List.getElem?_drop] at hj;simpa using hj
 · cases hj
theorem ld_pf[Dn]{P:Program}{T:TypeId}{w0:World}{M:Ms}{R0:Nat→Prop}{A:Asg}{st:St}{a:Act}{w:World}(I:Inv w0 M R0 A st a w){t:Ty}(hf:Fit P t (.inl T))
   {t0:Ty} {i o:Nat} {q:List Nat} {v:Value} (hs:SvOk0 w (Ro R0 w0.heap.size A st.ob w) A (.pf t0 i o q) v) {e:TypeId} {l:List SV} (hob:st.ob[i]?=some (.st e l)) {sv:SV} (hck:chk l o=some sv) {k:SV→Prop} (h:ldC sv t0 t q k) :
   ∃ s' v',k s'∧SvOk w (Ro R0 w0.heap.size A st.ob w) A s' v'∧∀ w'',Ext w w''→(Instr.loadAt T v).run P w'' = .ok v' w'':=by
 obtain⟨_,g,o',t',hη,ho,hv,rfl⟩:=hs
 obtain⟨g',cs,hη',_,hh,css,hcs,hl,hch⟩:=I.ob i _ hob
 rw[hη] at hη';injection hη' with hη';injection hη' with hη';injection hη' with hη';subst hη'
 obtain⟨j,u,hj,hu,hle,hdt,_⟩:=chk_spec hl (fun j s u h1 h2=>(hch j s u h1 h2).2.1) hck
 obtain⟨h1,hul,vv,huv,hsv,hcell1⟩:=hch j sv u hj hu
 unfold ldC at h
 split at h
 · rename_i t1 x
   split at h
   · rename_i ht;subst ht
     have hok:t1.ok w (Ro R0 w0.heap.size A st.ob w) x u:=by rw[huv];exact okV_cells hsv
     obtain⟨x',hk,hlt,hx⟩:=ldD_ok hok hv ho h
     have e2:(u.drop o').take t.size=(cs.toList.drop (o+o')).take t.size:=by
       rw[← hdt,hcs,List.drop_take,List.take_take,List.drop_drop]
       simp only[SV.len] at *
       congr 1;omega
     rw[e2] at hx
     refine⟨_,_,hk,okV_mk hx,fun w'' hw => ?_⟩
     have hg:w''.heap[g]?=some (.cells cs e (0,0)):=(hw g (Array.getElem?_eq_some_iff.1 hh).1).trans hh
     simp[Instr.loadAt,Instr.sureAddr,run_load_at hf hg hx]
   · exact h.elim
 · rename_i hnd
   split at h
   · split at h
     · exact h.elim
     · rename_i ha
       rw[off_nil] at ho
       injection ho with ho;injection ho with ho1 ho2;subst ho1;subst ho2
       have hlen1:sv.len=1:=by
         cases sv with
         | d t x=>exact absurd rfl (hnd t x)
         | _=>rfl
       have hcell:cs.toList[o]?=some vv:=by
         have hv1:vv.cells.toList=[vv]:=by
           have hone:vv.oneCell'=true:=hcell1 (by
             cases sv with
             | d t x=>exact absurd rfl (hnd t x)
             | _=>rfl)
           cases vv<;>first | rfl | simp[Value.oneCell'] at hone
         rw[hcs]
         have:=hdt
         rw[hlen1,huv,hv1] at this
         have h0:(css.flatten.drop o)[0]?=some vv:=by
           have e3:=congrArg (fun l:List Value=>l[0]?) this
           simpa using e3
         simpa using h0
       refine⟨sv,vv,h,sv_one hsv,fun w'' hw => ?_⟩
       have hg:w''.heap[g]?=some (.cells cs e (0,0)):=(hw g (Array.getElem?_eq_some_iff.1 hh).1).trans hh
       have hc2:w''.cell? ⟨g,o,none⟩=some vv:=by
         rw[cell_of_row w'' g o cs e (0,0) hg]
         simpa using hcell
       simp[Instr.loadAt,Instr.sureAddr,loadVar,hf.isAgg w'',ha,run_load,hc2]
   · exact h.elim
theorem pcs_cons{w:World}{ro:Nat→Prop}{A:Asg}{s:SV}{l:List SV}{cs:List Value}(h:Pcs w ro A (s::l) cs):∃ u cs',cs=u++cs'∧s.one=true∧u.length=s.len∧ChOk w ro A s u∧Pcs w ro A l cs':=by
 obtain⟨css,rfl,hl,hch⟩:=h
 match css,hl with
 | u::css,hl =>
   obtain⟨h1,h2,h3⟩:=hch 0 s u rfl rfl
   exact⟨u,css.flatten,by simp,h1,h2,h3,css,rfl,by simpa using hl,fun j s u h1 h2=>hch (j+1) s u (by simpa using h1) (by simpa using h2)⟩
theorem pcs_nil{w:World}{ro:Nat→Prop}{A:Asg}{cs:List Value}(h:Pcs w ro A [] cs):cs=[]:=by
 obtain⟨css,rfl,hl,_⟩:=h
 have:css=[]:=List.eq_nil_of_length_eq_zero (by simpa using hl)
 subst this;rfl
theorem pkO_ok{w:World}{ro:Nat→Prop}{A:Asg}{a:Ty}{s:SV}{x:a.D}{v:Value}(h:pkO a s=some x)(hs:SvOk0 w ro A s v):a.okV w ro x v:=by
 unfold pkO at h
 split at h
 · split at h
   · rename_i ha;subst ha
     injection h with h;subst h;exact hs
   · cases h
 · split at h
   · injection h with h;subst h
     have hs':v = .slice none 0 0:=hs
     subst hs'
     exact⟨none,0,rfl,Nat.zero_le _,Nat.zero_le _,fun h=>absurd rfl h⟩
   · cases h
 · cases h
theorem packD_ok[Dn]{w:World}{ro:Nat→Prop}{A:Asg}:∀ {t:Ty} {l:List SV} {cs:List Value} {x:t.D},packD t l=some x→Pcs w ro A l cs→t.ok w ro x cs:=by
 intro t
 induction t with
 | pr a b _ ihb =>
   intro l cs x h hp
   cases l with
   | nil=>simp[packD] at h
   | cons s r =>
     obtain⟨u,cs',rfl,_,_,⟨v,hv,hsv,_⟩,hp'⟩:=pcs_cons hp
     simp only[packD] at h
     split at h
     · rename_i x' hx
       split at h
       · rename_i y hy
         injection h with h
         subst h
         exact⟨u,cs',rfl,by rw[hv];exact okV_cells (pkO_ok hx hsv),ihb hy hp'⟩
       · cases h
     · cases h
 | un =>
   intro l cs x h hp
   cases l with
   | nil=>rw[pcs_nil hp];rfl
   | cons s r=>simp[packD] at h
 | _=>intro l cs x h _;cases l<;>simp[packD] at h
theorem pcs_len[Dn]{w:World}{ro:Nat→Prop}{A:Asg}:∀ {l:List SV} {cs:List Value},Pcs w ro A l cs→cs.length=lenS l:=by
 intro l
 induction l with
 | nil=>intro cs h;rw[pcs_nil h];rfl
 | cons s r ih =>
   intro cs h
   obtain⟨u,cs',rfl,_,hu,_,hp'⟩:=pcs_cons h
   rw[List.length_append,hu,ih hp'];rfl
theorem pcs_one[Dn]{w:World}{ro:Nat→Prop}{A:Asg}:∀ {l:List SV} {cs:List Value},Pcs w ro A l cs→∀ u∈cs,u.oneCell'=true:=by
 intro l
 induction l with
 | nil=>intro cs h;rw[pcs_nil h];intro u hu;cases hu
 | cons s r ih =>
   intro cs h
   obtain⟨u,cs',rfl,_,_,⟨v,hv,hsv,hnd⟩,hp'⟩:=pcs_cons h
   intro x hx
   rcases List.mem_append.1 hx with hx | hx
   · subst hv
     cases hs:s.nd with
     | true =>
       have h1:=hnd hs
       have:v.cells.toList=[v]:=by cases v<;>first | rfl | simp[Value.oneCell'] at h1
       rw[this] at hx
       rw[List.mem_singleton.1 hx];exact h1
     | false =>
       cases s with
       | d t y=>exact ok_one (okV_cells (show t.okV w ro y v from hsv)) x hx
       | _=>simp[SV.nd] at hs
   · exact ih hp' x hx
theorem ld_ok[Dn]{P:Program}{T:TypeId}{w0:World}{M:Ms}{R0:Nat→Prop}{A:Asg}{st:St}{a:Act}{w:World}(I:Inv w0 M R0 A st a w){t:Ty}(hf:Fit P t (.inl T))
   {s:SV} {v:Value} (hs:SvOk w (Ro R0 w0.heap.size A st.ob w) A s v) {k:SV→Prop} (h:ld st t k s) :
   ∃ s' v',k s'∧SvOk w (Ro R0 w0.heap.size A st.ob w) A s' v'∧∀ w'',Ext w w''→(Instr.loadAt T v).run P w'' = .ok v' w'':=by
 unfold ld at h
 split at h
 · rename_i i
   split at h
   · rename_i e l hob
     obtain⟨_,rfl,_⟩:=hs
     obtain⟨g,cs,hη,_,hh,hp⟩:=I.ob i _ hob
     have hrun:∀ w'',Ext w w''→cs.toList.length=t.size→(Instr.loadAt T (A.η i)).run P w'' = .ok (t.mk cs.toList) w'':=fun w'' hw hlen=>by
       have hg:w''.heap[g]?=some (.cells cs e (0,0)):=(hw g (Array.getElem?_eq_some_iff.1 hh).1).trans hh
       have:=hf.load (w:=w'') (ad:=⟨g,0,none⟩) hlen fun j u hj=>by
         rw[addr_add,cell_of_row w'' g _ cs e (0,0) hg]
         simpa using hj
       rw[hη]
       simp[Instr.loadAt,Instr.sureAddr,this]
     unfold ldS at h
     split at h
     · rename_i ha
       split at h
       · rename_i x hx
         have hok:=packD_ok hx hp
         exact⟨_,_,h,okV_mk hok,fun w'' hw=>hrun w'' hw (ok_len hok)⟩
       · split at h
         · rename_i hln
           refine⟨_,_,h,?_,fun w'' hw=>hrun w'' hw (by rw[pcs_len hp,hln])⟩
           unfold Ty.mk
           rw[if_pos ha]
           exact⟨cs.toList.toArray,rfl,by simpa using hp⟩
         · exact h.elim
     · exact h.elim
   · exact h.elim
 · rename_i t0 i q
   split at h
   · rename_i e t1 x hob
     split at h
     · rename_i ht;subst ht
       obtain⟨_,g,o,t',hη,ho,hv,rfl⟩:=hs
       obtain⟨g',cs,hη',_,hh,hok⟩:=I.ob i _ hob
       rw[hη] at hη';injection hη' with hη';injection hη' with hη';injection hη' with hη';subst hη'
       obtain⟨x',hk,_,hx⟩:=ldD_ok hok hv ho h
       refine⟨_,_,hk,okV_mk hx,fun w'' hw => ?_⟩
       have hg:w''.heap[g]?=some (.cells cs e (0,0)):=(hw g (Array.getElem?_eq_some_iff.1 hh).1).trans hh
       simp[Instr.loadAt,Instr.sureAddr,run_load_at hf hg hx]
     · exact h.elim
   · rename_i e l hob
     split at h
     · rename_i sv hck
       obtain⟨hi,g,o,t',hη,ho,hv,rfl⟩:=hs
       exact ld_pf (o:=0) I hf ⟨hi,g,o,t',hη,ho,hv,by rw[Nat.zero_add]⟩ hob hck h
     · exact h.elim
   · exact h.elim
 · rename_i t0 i kk q
   split at h
   · rename_i e t1 xs hob
     split at h
     · rename_i ht;subst ht
       obtain⟨_,g,n,c,o,t',hη,hkn,ho,hv,rfl⟩:=hs
       obtain⟨css,hoks,hown,_⟩:=I.ob i _ hob
       rw[hη] at hown
       obtain⟨_,hown⟩:=hown
       rcases hown with ⟨he,_⟩ | ⟨g',cap,cur,he,_,hh,hnc,_,hcur,htake⟩
       · cases he
       injection he with he1 he2 he3
       injection he1 with he1;injection he1 with he1;subst he1;subst he2
       obtain⟨u,hu,hul,hou⟩:=hoks.at_ hkn t1.z
       obtain⟨x',hk,hl,hx⟩:=ldD_ok hou hv ho h
       have hfa:=flat_at hoks.all hu
       have hdr:(u.drop o).take t.size=(cur.toList.drop (kk*t1.size+o)).take t.size:=by
         have hb:(kk+1)*t1.size≤xs.length*t1.size:=Nat.mul_le_mul_right _ hkn
         rw[Nat.add_mul] at hb
         rw[← hfa,← htake,List.drop_take,List.take_take,List.drop_take,List.drop_take,List.take_take,List.drop_drop]
         congr 1;omega
       rw[hdr] at hx
       refine⟨_,_,hk,okV_mk hx,fun w'' hw => ?_⟩
       have hg:w''.heap[g]?=some (.cells cur e (0,0)):=(hw g (Array.getElem?_eq_some_iff.1 hh).1).trans hh
       simp[Instr.loadAt,Instr.sureAddr,run_load_at hf hg hx]
     · exact h.elim
   · exact h.elim
 · rename_i t1 x
   split at h
   · rename_i ht;subst ht
     obtain⟨ad,us,rfl,hsp,hro,hc,hok⟩:=hs
     refine⟨_,_,h,okV_mk hok,fun w'' hw => ?_⟩
     simp[Instr.loadAt,Instr.sureAddr,hf.load (ok_len hok) fun j u hj=>hw.cell (hc j u hj)]
   · exact h.elim
 · rename_i t0 i o q
   split at h
   · rename_i e l hob
     split at h
     · rename_i sv hck
       exact ld_pf I hf hs hob hck h
     · exact h.elim
   · exact h.elim
 · rename_i t0 i p kk q
   split at h
   · rename_i e u xs hob
     obtain⟨hi,g,n,c,o,t',hκ,hkn,ho,hv,rfl⟩:=hs
     obtain⟨_,hnd,_,_⟩:=I.ob i _ hob
     obtain⟨u',ys,hK,hn',hvp⟩:=Ot.get_spec hnd h
     have hκ':atp (A.κ i) p [] = .slice (some ⟨g,0,none⟩) n c:=by unfold atp;rw[List.append_nil];exact hκ
     unfold ldT at hK
     split at hK
     · rename_i e1 t1 ys'
       obtain⟨hkl,hK⟩:=hK
       split at hK
       · rename_i ht;subst ht
         obtain⟨cur,css,cc,hh,_,_,_,hnc,hm,hcur,htk,hcc,hccl,hcd,hcl,hlt⟩:=nd_cell hn' hκ' hkl t1.z
         have hok:t1.ok w (Ro R0 w0.heap.size A st.ob w) _ cc:=hcl
         obtain⟨x',hk,hl,hx⟩:=ldD_ok hok hv ho hK
         have e2:(cc.drop o).take t.size=(cur.toList.drop (kk*t1.size+o)).take t.size:=by
           rw[← hcd,List.drop_take,List.take_take,List.drop_drop]
           show List.take (min t.size (t1.size - o)) _=_
           congr 1;omega
         rw[e2] at hx
         refine⟨_,_,hk,okV_mk hx,fun w'' hw => ?_⟩
         have hg:w''.heap[g]?=some (.cells cur e1 (0,0)):=(hw g (Array.getElem?_eq_some_iff.1 hh).1).trans hh
         simp[Instr.loadAt,Instr.sureAddr,run_load_at hf hg hx]
       · exact hK.elim
     · rename_i e1 e2 u2 ys'
       obtain⟨hkl,hK⟩:=hK
       split at hK
       rotate_left
       · exact hK.elim
       rename_i ht0
       split at hK
       · split at hK
         · exact hK.elim
         · rename_i ha
           rw[off_nil] at ho
           injection ho with ho;injection ho with ho1 ho2;subst ho1;subst ho2;subst ht0
           obtain⟨cur,css,cc,hh,_,_,_,hnc,hm,hcur,htk,hcc,hccl,hcd,hcl,hlt⟩:=nd_cell hn' hκ' hkl (Ty.z (Ot.sl e2 u2).er)
           have hcl':cc=[at_ (atp (A.κ i) p) kk []]:=hcl
           have hs1:(Ot.sl e2 u2).size=1:=rfl
           have hone:(at_ (atp (A.κ i) p) kk []).oneCell'=true:=by
             obtain⟨⟨_,_,_,hown⟩,_⟩:=hn'.2 kk _ (getD_some (z:=Ty.z (Ot.sl e2 u2).er) hkl)
             rcases hown.2 with ⟨e0,_⟩ | ⟨_,_,_,e0,_⟩<;>rw[e0]<;>rfl
           refine⟨_,at_ (atp (A.κ i) p) kk [],hK,⟨hi,by simp[at_,atp],hone⟩,fun w'' hw => ?_⟩
           have hg:w''.heap[g]?=some (.cells cur e1 (0,0)):=(hw g (Array.getElem?_eq_some_iff.1 hh).1).trans hh
           have hc2:w''.cell? ⟨g,kk*(Ot.sl e2 u2).er.size+0,none⟩=some (at_ (atp (A.κ i) p) kk []):=by
             rw[cell_of_row w'' g _ cur e1 (0,0) hg]
             rw[hcl',hs1] at hcd
             have h0:((cur.toList.drop (kk*1)).take 1)[0]?=some (at_ (atp (A.κ i) p) kk []):=by rw[hcd];rfl
             simpa [Ot.er,Ty.size] using h0
           have hc3:w''.cell? ⟨g,kk*(Ty.sl u2.er).size,none⟩=some (at_ (atp (A.κ i) p) kk []):=hc2
           simp[Instr.loadAt,Instr.sureAddr,loadVar,hf.isAgg w'',ha,run_load,hc3]
       · exact hK.elim
     · exact hK.elim
   · exact h.elim
 · rename_i u x
   unfold ldP at h
   split at h
   · rename_i t1 x
     split at h
     · rename_i y
       split at h
       · rename_i ht;subst ht
         have hs':Ty.ok w (Ro R0 w0.heap.size A st.ob w) (.ptr t1) (some y) [v]:=hs
         obtain⟨ad,us,he,hsp,hro,hc,hok⟩:=hs'
         injection he with he _
         subst he
         refine⟨_,_,h,okV_mk hok,fun w'' hw => ?_⟩
         simp[Instr.loadAt,Instr.sureAddr,hf.load (ok_len hok) fun j u hj=>hw.cell (hc j u hj)]
       · exact h.elim
     · exact h.elim
   · exact h.elim
 · exact h.elim
end Go.Vc
