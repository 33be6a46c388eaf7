import Derived.Test.YtfmiecbmikncpaaDoorTORowVNA
import Derived.ProofKit
import Derived.Carry
import Derived.OpenShut
import Derived.Deep.Slices
namespace Go.Vc
open Go.RowKit Go.ChangeShapes Go.WideShapes Go.Deep
def Ty.opn:Ty→Bool
 | .err _ | .fn _ _ | .ptr _ | .raw | .nm=>false
 | .sl t=>decide (0<t.size)&&t.opn
 | .pr a b=>a.opn&&b.opn
 | .ar _ t=>t.opn
 | _=>true
def DRel{H:Type}:(t:Ty)→t.D→DataW H ⊕ List (DataW H)→Prop
 | .int k,n,.inl d=>d = .lit (.int k n)
 | .bool,b,.inl d=>d = .lit (.bool b)
 | .str,s,.inl d=>d = .lit (.string s)
 | .sl t,xs,.inl d=>(xs=[]∧d = .nil)∨∃ es sp,d = .slice es sp∧es.length=xs.length∧∀ (i:Nat) (x:t.D) (e:DataW H),xs[i]?=some x→es[i]?=some e→DRel t x (.inl e)
 | .pr a b,x,.inl d=>∃ d0 r,d = .agg (d0::r)∧DRel a x.1 (.inl d0)∧DRel b x.2 (.inr r)
 | .un,_,.inl d=>d = .agg []
 | .ar _ t,xs,.inl d=>∃ es,d = .agg es∧es.length=xs.length∧∀ (i:Nat) (x:t.D) (e:DataW H),xs[i]?=some x→es[i]?=some e→DRel t x (.inl e)
 | .pr a b,x,.inr ds=>∃ d0 r,ds=d0::r∧DRel a x.1 (.inl d0)∧DRel b x.2 (.inr r)
 | .un,_,.inr ds=>ds=[]
 | _,_,_=>False
theorem wf_inK{k:IntKind}{n:Int}(h:(Lit.int k n).wf=true):inK k n:=by
 simp only[Lit.wf,Bool.and_eq_true,decide_eq_true_eq] at h
 obtain⟨h1,h2⟩:=h
 unfold inK IntKind.wrap
 have hp:(2:Int) ^ k.bits=2 ^ (k.bits - 1)*2:=by
   rw[← Int.pow_succ];cases k<;>rfl
 have hpos:(0:Int)<2 ^ (k.bits - 1):=Int.pow_pos (by omega)
 unfold IntKind.min at h1
 unfold IntKind.max at h2
 cases hs:k.signed with
 | true =>
   simp only[hs,if_true] at h1 h2
   simp only[Bool.true_and,decide_eq_true_eq]
   rw[hp]
   generalize (2:Int) ^ (k.bits - 1)=q at *
   by_cases hn:0≤n
   · rw[Int.emod_eq_of_lt hn (by omega),if_neg (by omega)]
   · have e:n%(q*2)=n+q*2:=by
       rw[← Int.add_emod_right,Int.emod_eq_of_lt (by omega) (by omega)]
     rw[e,if_pos (by omega)];omega
 | false =>
   simp only[hs,Bool.false_eq_true,if_false] at h1 h2
   simp only[Bool.false_and,Bool.false_eq_true,if_false]
   exact Int.emod_eq_of_lt h1 (by omega)
section
variable {H:Type} {enc:TypeId×Value→H} {P:Program} {w:World} {base:Nat} {spare:Nat→Bool} {held:Bool}
theorem Fit.cellsOf[Dn]{t:Ty}{T:TypeId}(h:Fit P t (.inl T)):P.cellsOf T=t.size:=by
 obtain⟨i,hi,hs,_⟩:=h.info
 simp[Program.cellsOf,hi,hs]
theorem trod_ok[Dn]:∀ {t:Ty},t.opn=true →
   (∀ {T:TypeId} {fuel:Nat} {cs:List Value} {x:DataW H×List MemPlace},Fit P t (.inl T)→DataW.trod enc P w base spare held fuel T cs=some x →
     ∃ y:t.D,t.ok w (fun b=>b<w.heap.size) y cs∧DRel t y (.inl x.1)) ∧
   (∀ {fs:Array Field} {f o n:Nat} {cs:List Value} {xs:List (DataW H×List MemPlace)},Fit P t (.inr (fs,f,o))→xs.length=fs.size→cs.length=o+t.size →
     (∀ (i:Nat) (fl:Field),fs[i]?=some fl→DataW.trod enc P w base spare held n fl.type ((cs.drop fl.offset).take (P.cellsOf fl.type))=xs[i]?) →
     ∃ y:t.D,t.ok w (fun b=>b<w.heap.size) y (cs.drop o)∧DRel t y (.inr ((xs.drop f).map (·.1)))):=by
 intro t
 induction t with
 | int k =>
   intro _
   refine⟨fun hf h => ?_,fun hf=>hf.elim⟩
   obtain⟨n,rfl,rfl,hw⟩:=DataW.trod_int hf.2 h
   refine⟨n,⟨rfl,?_⟩,rfl⟩
   exact wf_inK hw
 | bool =>
   intro _
   refine⟨fun hf h => ?_,fun hf=>hf.elim⟩
   obtain⟨b,rfl,rfl⟩:=DataW.trod_bool hf.2 h
   exact⟨b,rfl,rfl⟩
 | str =>
   intro _
   refine⟨fun hf h => ?_,fun hf=>hf.elim⟩
   obtain⟨s,rfl,rfl,hl⟩:=DataW.trod_string hf.2 h
   refine⟨s.data.toList,⟨by simp,?_⟩,rfl⟩
   have:s.data.toList.length=s.size:=by rw[Array.length_toList];rfl
   rw[this];exact hl
 | err E=>intro h;simp[Ty.opn] at h
 | fn g t _=>intro h;simp[Ty.opn] at h
 | ptr t _=>intro h;simp[Ty.opn] at h
 | raw=>intro h;simp[Ty.opn] at h
 | nm=>intro h;simp[Ty.opn] at h
 | sl t ih =>
   intro ho
   simp only[Ty.opn,Bool.and_eq_true,decide_eq_true_eq] at ho
   refine⟨fun hf h => ?_,fun hf=>hf.elim⟩
   obtain⟨_,e,hu,he⟩:=hf
   rcases open_slice hu h with ⟨rfl,rfl⟩ | ⟨a,len,cap,m,n,D,Pl,rfl,hb,hl,hm,hmm,rfl,hi⟩
   · exact⟨[],⟨none,0,rfl,Nat.zero_le _,Nat.zero_le _,fun h=>absurd rfl h⟩,.inl ⟨rfl,rfl⟩⟩
   · have hlm:len≤m:=by rw[hmm];split<;>omega
     have hce:=he.cellsOf
     have hex:∀ i,i<len→∃ yc:t.D×List Value,yc.2.length=t.size∧t.ok w (fun b=>b<w.heap.size) yc.1 yc.2∧DRel t yc.1 (.inl (D i))∧∀ j,j<t.size→w.cell? ((a.add (i*t.size)).add j)=yc.2[j]?:=by
       intro i hil
       obtain⟨cs',hc,ht⟩:=hi i (by omega)
       rw[hce] at hc
       obtain⟨_,hcl,hat⟩:=World.cells?_some hc
       obtain⟨y,hy,hr⟩:=(ih ho.2).1 he ht
       exact⟨(y,cs'),hcl,hy,hr,hat⟩
     haveI:Inhabited (t.D×List Value):=⟨(t.z,[])⟩
     obtain⟨f,hf⟩:=choose_lt hex
     have hsp:0<len→a.spot=none∧a.block<w.heap.size:=by
       intro hp
       have hc0:=(hf 0 hp).2.2.2 0 ho.1
       rw[Nat.zero_mul,Addr.add_zero',Addr.add_zero'] at hc0
       have hl0:0<(f 0).2.length:=by rw[(hf 0 hp).1];exact ho.1
       rw[List.getElem?_eq_getElem hl0] at hc0
       refine⟨?_,World.block_lt_of_cell? w a hc0⟩
       cases hs:a.spot with
       | none=>rfl
       | some s =>
         unfold World.cell? at hc0
         split at hc0
         · simp[hs] at hc0
         · cases hc0
     refine⟨(List.range len).map fun i=>(f i).1,⟨some a,cap,by simp,by simpa using hl,hm,fun hne => ?_⟩,.inr ⟨_,_,rfl,by simp,fun i x e hx he => ?_⟩⟩
     · have hp:0<len:=by
         rcases Nat.eq_zero_or_pos len with h | h
         · subst h;simp at hne
         · exact h
       obtain⟨h1,h2⟩:=hsp hp
       have hoks:Oks (fun x u=>u.length=t.size∧t.ok w (fun b=>b<w.heap.size) x u) ((List.range len).map fun i=>(f i).1) ((List.range len).map fun i=>(f i).2):=by
         refine⟨by simp,fun i x u hx hu => ?_⟩
         rw[List.getElem?_map] at hx hu
         by_cases hil:i<len
         · rw[List.getElem?_range hil] at hx hu
           simp only[Option.map_some,Option.some.injEq] at hx hu
           subst hx;subst hu
           exact⟨(hf i hil).1,(hf i hil).2.1⟩
         · rw[List.getElem?_eq_none (by simpa using hil)] at hx;cases hx
       refine⟨a,(List.range len).map fun i=>(f i).2,rfl,h1,h2,hoks,fun j u hj => ?_⟩
       have hfl:=hoks.flen
       have hjl:j<len*t.size:=by
         have:=(List.getElem?_eq_some_iff.1 hj).1
         rw[hfl] at this;simpa using this
       have hk:j/t.size<len:=by rw[Nat.div_lt_iff_lt_mul ho.1];exact hjl
       have hmod:j%t.size<t.size:=Nat.mod_lt _ ho.1
       have hdm:j/t.size*t.size+j%t.size=j:=by rw[Nat.mul_comm];exact Nat.div_add_mod ..
       have hfa:=flat_at hoks.all (k:=j/t.size) (u:=(f (j/t.size)).2) (by rw[List.getElem?_map,List.getElem?_range hk];rfl)
       have hcell:=(hf _ hk).2.2.2 _ hmod
       rw[addr_add_add a h1,hdm] at hcell
       rw[hcell,← hfa,List.getElem?_take,if_pos hmod,List.getElem?_drop,hdm]
       exact hj
     · rw[List.getElem?_map] at hx he
       by_cases hil:i<len
       · rw[List.getElem?_range hil] at hx he
         simp only[Option.map_some,Option.some.injEq] at hx he
         subst hx;subst he
         exact (hf i hil).2.2.1
       · rw[List.getElem?_eq_none (by simpa using hil)] at hx;cases hx
 | un =>
   intro _
   refine⟨fun hf h => ?_,fun {fs f o n cs xs} hf hxl hcl hall => ?_⟩
   · obtain⟨xs,n,_,hx,hlen,hxl,_⟩:=DataW.trod_struct hf.2 h
     have h0:xs=[]:=List.eq_nil_of_length_eq_zero (by simpa using hxl)
     subst h0
     have hc:=hf.cellsOf
     rw[hc] at hlen
     refine⟨(),List.eq_nil_of_length_eq_zero hlen,?_⟩
     rw[hx];rfl
   · have hff:fs.size=f:=hf
     refine⟨(),?_,?_⟩
     · show cs.drop o=[]
       rw[List.drop_of_length_le (by rw[hcl];simp[Ty.size])]
     · show (xs.drop f).map (·.1)=[]
       rw[List.drop_of_length_le (by omega)];rfl
 | pr a b iha ihb =>
   intro ho
   simp only[Ty.opn,Bool.and_eq_true] at ho
   have hfields:∀ {fs:Array Field} {f o n:Nat} {cs:List Value} {xs:List (DataW H×List MemPlace)},Fit P (.pr a b) (.inr (fs,f,o))→xs.length=fs.size→cs.length=o+(Ty.pr a b).size →
     (∀ (i:Nat) (fl:Field),fs[i]?=some fl→DataW.trod enc P w base spare held n fl.type ((cs.drop fl.offset).take (P.cellsOf fl.type))=xs[i]?) →
     ∃ (y:(Ty.pr a b).D) (d0:DataW H) (r:List (DataW H)),(Ty.pr a b).ok w (fun b=>b<w.heap.size) y (cs.drop o)∧(xs.drop f).map (·.1)=d0::r∧DRel a y.1 (.inl d0)∧DRel b y.2 (.inr r):=by
     intro fs f o n cs xs hf hxl hcl hall
     obtain⟨fld,hfl,hof,hsz,hfa,hfb⟩:=hf
     have hfs:f<fs.size:=(Array.getElem?_eq_some_iff.1 hfl).1
     have hx0:xs[f]?=some xs[f]:=List.getElem?_eq_getElem (by omega)
     have h0:=hall f fld hfl
     rw[hx0,hof,hfa.cellsOf] at h0
     obtain⟨ya,hya,hra⟩:=(iha ho.1).1 hfa h0
     obtain⟨yb,hyb,hrb⟩:=(ihb ho.2).2 hfb hxl (by rw[hcl];simp[Ty.size];omega) hall
     refine⟨(ya,yb),xs[f].1,(xs.drop (f+1)).map (·.1),⟨(cs.drop o).take a.size,cs.drop (o+a.size),?_,hya,hyb⟩,?_,hra,hrb⟩
     · rw[← List.drop_drop,List.take_append_drop]
     · rw[List.drop_eq_getElem_cons (by omega)];rfl
   refine⟨fun {T fuel cs x} hf h => ?_,fun hf hxl hcl hall => ?_⟩
   · have hc:=hf.cellsOf
     obtain⟨_,fs,fld,hu,h0,h1,h2,h3,h4⟩:=hf
     obtain⟨xs,n,_,hx,hlen,hxl,hall⟩:=DataW.trod_struct hu h
     obtain⟨y,d0,r,hy,hd,hr1,hr2⟩:=hfields (fs:=fs) (f:=0) (o:=0) (n:=n) (cs:=cs) (xs:=xs) ⟨fld,h0,h1,h2,h3,by simpa using h4⟩ hxl (by rw[hlen,hc];simp) hall
     refine⟨y,by simpa using hy,d0,r,?_,hr1,hr2⟩
     rw[hx]
     simp only[List.drop_zero] at hd
     simp[hd]
   · obtain⟨y,d0,r,hy,hd,hr1,hr2⟩:=hfields hf hxl hcl hall
     exact⟨y,hy,d0,r,hd,hr1,hr2⟩
 | ar m t ih =>
   intro ho
   simp only[Ty.opn] at ho
   refine⟨fun {T fuel cs x} hf h => ?_,fun hf=>hf.elim⟩
   have hc:=hf.cellsOf
   obtain⟨_,e,hu,he⟩:=hf
   obtain⟨xs,n,_,hx,hlen,hxl,hall⟩:=DataW.trod_array hu h
   have hce:=he.cellsOf
   rw[hc] at hlen
   have hcl:cs.length=m*t.size:=hlen
   have hex:∀ i,i<m→∃ yc:t.D×DataW H,t.ok w (fun b=>b<w.heap.size) yc.1 ((cs.drop (i*t.size)).take t.size)∧DRel t yc.1 (.inl yc.2)∧xs[i]?.map (·.1)=some yc.2:=by
     intro i hil
     have h0:=hall i hil
     have hx0:xs[i]?=some xs[i]:=List.getElem?_eq_getElem (by omega)
     rw[hx0,hce] at h0
     obtain⟨y,hy,hr⟩:=(ih ho).1 he h0
     exact⟨(y,xs[i].1),hy,hr,by rw[hx0];rfl⟩
   haveI:Inhabited (t.D×DataW H):=⟨(t.z,.nil)⟩
   obtain⟨f,hf⟩:=choose_lt hex
   refine⟨(List.range m).map fun i=>(f i).1,⟨by simp,(List.range m).map fun i=>(cs.drop (i*t.size)).take t.size,?_,⟨by simp,fun i x u hx hu => ?_⟩⟩,?_⟩
   ·
     have key:∀ (m:Nat) (cs:List Value),cs.length=m*t.size→cs=((List.range m).map fun i=>(cs.drop (i*t.size)).take t.size).flatten:=by
       intro m
       induction m with
       | zero=>intro cs h;simp at h;simp[h]
       | succ m ihm =>
         intro cs h
         rw[List.range_succ_eq_map,List.map_cons,List.flatten_cons,List.map_map]
         have h2:=ihm (cs.drop t.size) (by rw[List.length_drop,h,Nat.add_mul];omega)
         have e1:((List.range m).map ((fun i=>(cs.drop (i*t.size)).take t.size)∘Nat.succ))=(List.range m).map fun i=>((cs.drop t.size).drop (i*t.size)).take t.size:=by
           apply List.map_congr_left
           intro i _
           simp only[Function.comp,List.drop_drop,Nat.succ_eq_add_one,Nat.add_mul,Nat.one_mul,Nat.add_comm]
         rw[e1,← h2]
         simp
     exact key m cs hcl
   · rw[List.getElem?_map] at hx hu
     by_cases hil:i<m
     · rw[List.getElem?_range hil] at hx hu
       simp only[Option.map_some,Option.some.injEq] at hx hu
       subst hx;subst hu
       refine⟨?_,(hf i hil).1⟩
       have:=Nat.mul_le_mul_right t.size (show i+1≤m from hil)
       rw[Nat.add_mul] at this
       simp;omega
     · rw[List.getElem?_eq_none (by simpa using hil)] at hx;cases hx
   · refine⟨xs.map (·.1),by rw[hx],by simp[hxl],fun i x e hx he => ?_⟩
     rw[List.getElem?_map] at hx he
     by_cases hil:i<m
     · rw[List.getElem?_range hil] at hx
       simp only[Option.map_some,Option.some.injEq] at hx
       subst hx
       have h2:=(hf i hil).2.2
       rw[h2] at he
       injection he with he;subst he
       exact (hf i hil).2.1
     · rw[List.getElem?_eq_none (by simpa using hil)] at hx;cases hx
theorem open_ty[Dn]{t:Ty}{T:TypeId}(ho:t.opn=true)(hf:Fit P t (.inl T)){r:Reach}{b0:Nat}{v:Value}{d:DataW H}{p:List MemPlace}(hv:Value.okWide P w r b0 T v)(h:DataW.Trod enc P w base spare held T v d p) :
   ∃ y:t.D,t.okV w (fun b=>b<w.heap.size) y v∧DRel t y (.inl d):=by
 obtain⟨fuel,hfu⟩:=h
 obtain⟨y,hy,hr⟩:=(trod_ok ho).1 hf hfu
 refine⟨y,?_,hr⟩
 have hm:=okV_mk hy
 have hag:=hf.isAgg w
 unfold Ty.okV
 split
 · rename_i ha
   have hvv:∃ cs,v = .agg cs:=by
     cases t with
     | ar n t => 
       obtain⟨_,e,hu,_⟩:=hf
       unfold Value.okWide at hv
       rw[hu] at hv
       obtain⟨cs,e,_⟩:=hv;exact⟨cs,e⟩
     | pr a b =>
       obtain⟨_,fs,_,hu,_⟩:=hf
       unfold Value.okWide at hv
       rw[hu] at hv
       obtain⟨cs,e,_⟩:=hv;exact⟨cs,e⟩
     | un =>
       unfold Value.okWide at hv
       rw[hf.2] at hv
       obtain⟨cs,e,_⟩:=hv;exact⟨cs,e⟩
     | _=>simp[Ty.agg] at ha
   obtain⟨cs,rfl⟩:=hvv
   exact⟨cs,rfl,hy⟩
 · rename_i ha
   have hl:=ok_len hy
   rw[size_one (by simpa using ha)] at hl
   have hcell:v.cells.toList=[v]:=by
     cases v with
     | agg cs =>
       exfalso
       cases t with
       | int k=>obtain⟨_,h⟩:=okWide_int hf.2 hv;cases h
       | bool=>obtain⟨_,h⟩:=okWide_bool hf.2 hv;cases h
       | str=>obtain⟨_,h⟩:=okWide_string hf.2 hv;cases h
       | sl t=>obtain⟨_,e,he,_⟩:=hf;obtain⟨_,_,_,h⟩:=okWide_slice he hv;cases h
       | err E=>simp[Ty.opn] at ho
       | fn g t=>simp[Ty.opn] at ho
       | ptr t=>simp[Ty.opn] at ho
       | raw=>simp[Ty.opn] at ho
       | nm=>simp[Ty.opn] at ho
       | _=>simp[Ty.agg] at ha
     | _=>rfl
   rw[hcell] at hy;exact hy
end
end Go.Vc
