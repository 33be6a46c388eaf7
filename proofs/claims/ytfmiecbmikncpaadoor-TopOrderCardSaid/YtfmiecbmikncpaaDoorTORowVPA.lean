import Derived.Test.YtfmiecbmikncpaaDoorTORowVP
import Derived.LaidMore
import Derived.MakeChecks
import Derived.LaidSub
namespace Go.Vc
open Go.RowKit Go.ChangeShapes Go.WideShapes Go.Deep
theorem rd_arr{H:Type}{n:Nat}{k:IntKind}{ys xs:List Int} (h:DRel (H:=H) (.ar n (.int k)) ys (.inl (.agg (xs.map fun x => .lit (.int k x))))):ys=xs:=by
 obtain⟨es,he,hl,hx⟩:=h
 injection he with he
 subst he
 rw[List.length_map] at hl
 refine List.ext_getElem hl.symm fun i h1 h2 => ?_
 have:=hx i ys[i] (.lit (.int k xs[i])) (List.getElem?_eq_getElem h1) (by rw[List.getElem?_map,List.getElem?_eq_getElem h2];rfl)
 have h':(DataW.lit (.int k xs[i]):DataW H) = .lit (.int k ys[i]):=this
 injection h' with h'
 injection h' with _ h'
 exact h'.symm
theorem laid_at{P:Program}{w:World}{n:String}{d:DataW Unit}:∀ {l:List (String×DataW Unit)} {ps:List MemPlace},DataW.LaidVars P w l ps→(n,d)∈l →
   ∃ g t cs fuel p,P.globalNamed n=some g∧(P.globals[g]?).map (·.type)=some t∧w.var? P n=some cs∧DataW.trod (fun _=>()) P w 0 (fun _=>true) false fuel t cs.toList=some (d,p):=by
 intro l
 induction l with
 | nil=>intro ps _ h;cases h
 | cons a r ih =>
   intro ps h hm
   obtain⟨n',d'⟩:=a
   obtain⟨g,t,cs,fuel,p,q,h1,h2,h3,h4,h5,_⟩:=h
   rcases List.mem_cons.1 hm with he | hm
   · injection he with e1 e2
     subst e1;subst e2
     exact⟨g,t,cs,fuel,p,h1,h2,h3,h4⟩
   · exact ih h5 hm
theorem gl_of_laid[Dn]{P:Program}{E:Env}(hE:EnvOk P E){w:World}{laid:List (String×DataW Unit)}(hp:(laid.all fun x=>x.2.handleName?.isNone)=true)(h:laidMetH P laid w){n:String}{g T m:Nat}{k:IntKind}{xs:List Int}
   (hm:(n,DataW.agg (xs.map fun x => .lit (.int k x)))∈laid) (hg:P.globalNamed n=some g) (ht:(P.globals[g]?).map (·.type)=some T) (hty:E.ty T=some (.ar m (.int k))) (hne:0<xs.length) :
   GlOk [(g,⟨.ar m (.int k),xs⟩)] w fun b=>b<w.heap.size:=by
 rw[MakeChecks.laidMetH_plain _ _ _ hp] at h
 obtain⟨ps,hl,_,_⟩:=h
 obtain⟨g',t',cs,fuel,p,h1,h2,h3,h4⟩:=laid_at hl hm
 obtain rfl:=Option.some.inj (hg.symm.trans h1)
 obtain rfl:=Option.some.inj (ht.symm.trans h2)
 obtain⟨y,hy,hr⟩:=(trod_ok (t := .ar m (.int k)) rfl).1 (hE.ty _ _ hty) h4
 have:=rd_arr hr
 subst this
 have hcell:=World.var?_cell hg h3
 intro g2 d2 hm2
 obtain⟨e1,e2⟩:=Prod.mk.inj (List.mem_singleton.1 hm2)
 subst e1;subst e2
 have hcs:0<cs.toList.length:=by
   obtain⟨_,css,hcss,hoks⟩:=hy
   rw[hcss,hoks.flen]
   simpa [Ty.size] using hne
 refine⟨?_,cs.toList,fun j u hj => ?_,hy⟩
 · have:=hcell 0
   refine World.block_lt_of_cell? w ⟨g2,0,none⟩ (u:=cs.toList[0]) ?_
   rw[this,← Array.getElem?_toList,List.getElem?_eq_getElem hcs]
 · have:=hcell j
   rw[this,← hj,Array.getElem?_toList]
theorem gl_of_laidM[Dn]{P:Program}{E:Env}(hE:EnvOk P E){w:World}{laid:List (String×DataW Unit)}(h:laidMetH P laid w){n:String}{g T m:Nat}{k:IntKind}{xs:List Int}
   (hm:(n,DataW.agg (xs.map fun x => .lit (.int k x)))∈laid) (hnone:(DataW.agg (H:=Unit) (xs.map fun x => .lit (.int k x))).handleName?.isNone=true) (hg:P.globalNamed n=some g) (ht:(P.globals[g]?).map (·.type)=some T) (hty:E.ty T=some (.ar m (.int k))) (hne:0<xs.length) :
   GlOk [(g,⟨.ar m (.int k),xs⟩)] w fun b=>b<w.heap.size:=by
 have h1:=(laidMetH_iff.1 h).1
 have hall:((laid.filter fun x=>x.2.handleName?.isNone).all fun x=>x.2.handleName?.isNone)=true:=List.all_eq_true.2 fun x hx=>(List.mem_filter.1 hx).2
 exact gl_of_laid hE hall ((MakeChecks.laidMetH_plain _ _ _ hall).mpr h1) (List.mem_filter.2 ⟨hm,hnone⟩) hg ht hty hne
theorem GlOk.append{l1 l2:List (Nat×Dat)}{w:World}{ro:Nat→Prop}(h1:GlOk l1 w ro)(h2:GlOk l2 w ro):GlOk (l1++l2) w ro:=fun g d hm =>
 (List.mem_append.1 hm).elim (fun h=>h1 g d h) fun h=>h2 g d h
end Go.Vc
