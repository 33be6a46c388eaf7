import Derived.Test.YtfmiecbmikncpaaDoorTORowVTA
namespace Go.Vc
open Go.RowKit
def slotB(o:Oper):Bool :=
 match o.op with
 | .move _ | .extract _ _=>true
 | _=>false
theorem slot_run{P:Program}{o:Oper}(h:slotB o=true)(ρ:Operand→Value):(∃ v,∀ w,(execOp ρ o).run P w = .ok (.value v) w)∨∀ w,∃ s,(execOp ρ o).run P w = .halt (.stuck s) w:=by
 obtain⟨dst,op,type,pos,after,guard⟩:=o
 cases op with
 | move x=>exact .inl ⟨ρ x,fun w=>rfl⟩
 | extract t ix =>
   rw[show execOp ρ ⟨dst,.extract t ix,type,pos,after,guard⟩=(do pure (.value (← Instr.extract (ρ t) ix))) from rfl]
   unfold Instr.extract
   cases ρ t with
   | tuple vs =>
     simp only
     cases vs[ix]? with
     | none=>exact .inr fun w=>⟨_,rfl⟩
     | some v=>exact .inl ⟨v,fun w=>rfl⟩
   | _=>exact .inr fun w=>⟨_,rfl⟩
 | _=>simp[slotB] at h
theorem slot_yields[Dn]{P:Program}{ops:Array Oper}{Q:Exit→Act→World→Prop}(hQ:∀ e a w,e≠Exit.normal→¬ Q e a w){i:Nat}{o:Oper}(ho:ops[i]?=some o)(hs:slotB o=true){K:Act→World→Prop}{a:Act}{w:World}(h:wpOp P ops Q i K a w) :
   ∃ v,Yields P ops o v a∧K (a.put o.dst v) w:=by
 unfold wpOp at h
 simp only[ho] at h
 split at h
 · rename_i hw
   rcases h with h | ⟨_,a',w',hq⟩
   · unfold Oper.wp at h
     rcases slot_run (P:=P) hs a.eval with ⟨v,hv⟩ | hv
     · rw[hv w] at h
       exact⟨v,.inl ⟨hw,hv⟩,h⟩
     · obtain⟨s,hv⟩:=hv w
       rw[hv] at h
       exact h.elim
   · exact absurd hq (hQ _ _ _ (by simp))
 · rename_i hw
   exact⟨undef,.inr ⟨by simpa using hw,rfl⟩,h⟩
theorem getD_any{l:Array Bool}{i:Nat}(h:i<l.size)(b:Bool):l.getD i b=l.getD i false:=by simp[h]
def edB(p:Nat)(op:Oper)(j:Nat)(o:Oper):Bool :=
 decide (p<j) && !(o.after.toList.any fun e=>Region.binds .any e&&e.on==p)&&op.after.toList.all fun e => !Region.binds .any e||o.after.toList.any fun e'=>Region.binds .any e'&&e'.on==e.on
def edO(p:Nat)(op:Oper)(j:Nat)(o:Oper):Oper :=
 match edB p op j o with
 | true=>{ o with after:=(⟨p,.data⟩::o.after.toList).toArray }
 | false=>o
def edL(p:Nat)(ops:List Oper):List Oper :=
 match ops[p]? with
 | some op=>ops.mapIdx fun j o=>edO p op j o
 | none=>ops
def freeB(p:Nat)(op:Oper)(ops:List Oper):Bool :=
 (List.range ops.length).all fun j=>j==p||(op.after.toList.any fun e=>Region.binds .any e&&e.on==j)||match ops[j]? with
   | some oj=>(oj.after.toList.any fun e=>Region.binds .any e&&e.on==p)||op.apart ops.toArray oj
   | none=>true
theorem freeB_spec{p:Nat}{op:Oper}{ops:List Oper}(h:freeB p op ops=true){j:Nat}{oj:Oper}(hj:ops[j]?=some oj)(hne:j≠p)(h1:∀ e∈op.after,Region.binds .any e=true→e.on≠j)(h2:∀ e∈oj.after,Region.binds .any e=true→e.on≠p):op.apart ops.toArray oj=true:=by
 have hl:=(List.getElem?_eq_some_iff.1 hj).1
 have:=List.all_eq_true.1 h j (List.mem_range.2 hl)
 rw[hj] at this
 simp only[Bool.or_eq_true,beq_iff_eq] at this
 rcases this with (h | h) | h | h
 · exact absurd h hne
 · obtain⟨e,he,hb⟩:=List.any_eq_true.1 h
   simp only[Bool.and_eq_true,beq_iff_eq] at hb
   exact absurd hb.2 (h1 e (by simpa using he) hb.1)
 · obtain⟨e,he,hb⟩:=List.any_eq_true.1 h
   simp only[Bool.and_eq_true,beq_iff_eq] at hb
   exact absurd hb.2 (h2 e (by simpa using he) hb.1)
 · exact h
def eagB(p:Nat)(ops:List Oper):Bool :=
 match ops[p]? with
 | some op=>slotB op&&Region.noSelect ops.toArray&&freeB p op ops
 | none=>false
theorem edL_get{p:Nat}{ops:List Oper}{op:Oper}(hp:ops[p]?=some op)(j:Nat):(edL p ops)[j]?=ops[j]?.map (edO p op j):=by
 unfold edL
 rw[hp]
 simp only[List.getElem?_mapIdx]
theorem edL_len(p:Nat)(ops:List Oper):(edL p ops).length=ops.length:=by
 unfold edL
 split<;>simp
theorem edO_dst(p:Nat)(op:Oper)(j:Nat)(o:Oper):(edO p op j o).dst=o.dst∧(edO p op j o).guard=o.guard∧(edO p op j o).op=o.op:=by
 unfold edO;split<;>exact⟨rfl,rfl,rfl⟩
theorem edO_run(p:Nat)(op:Oper)(j:Nat)(o:Oper)(ρ:Operand→Value):execOp ρ (edO p op j o)=execOp ρ o:=by
 unfold edO;split<;>rfl
theorem edO_self(p:Nat)(op o:Oper):edO p op p o=o:=by
 unfold edO edB;simp
theorem oper_wp_of{P:Program}{o o':Oper}(hd:o'.dst=o.dst)(he:∀ ρ,execOp ρ o'=execOp ρ o){a:Act}{w:World}{K:Act→World→Prop}{Q:Exit→Act→World→Prop}(h:o'.wp P a w K Q):o.wp P a w K Q:=by
 unfold Oper.wp at *
 rw[he] at h
 generalize (execOp a.eval o).run P w=r at *
 cases r with
 | ok n w' =>
   cases n<;>simp only[Oper.upon,hd] at h ⊢ <;> first | exact h | exact h.elim
 | halt x w'=>cases x<;>simp only[Oper.upon] at h ⊢ <;> exact h
theorem wpOp_of[Dn]{P:Program}{ops ops':Array Oper}{Q:Exit→Act→World→Prop}(hQ:∀ e a w,e≠Exit.normal→¬ Q e a w){i i':Nat}{o o':Oper}(ho:ops[i]?=some o)(ho':ops'[i']?=some o')(hd:o'.dst=o.dst)(he:∀ ρ,execOp ρ o'=execOp ρ o)
   (hw:∀ tmps,Region.wanted o' (yielded ops' tmps)=Region.wanted o (yielded ops tmps)) {K K':Act→World→Prop} {a:Act} {w:World} (hK:∀ a w,K a w→K' a w) (h:wpOp P ops' Q i' K a w):wpOp P ops Q i K' a w:=by
 refine wpOp_mono hK ?_
 unfold wpOp at *
 simp only[ho,ho',hw] at *
 split
 · rename_i hw
   rw[if_pos hw] at h
   rcases h with h | ⟨_,a',w',hq⟩
   · exact .inl (oper_wp_of hd he h)
   · exact absurd hq (hQ _ _ _ (by simp))
 · rename_i hw
   rw[if_neg hw,hd] at h;exact h
theorem ed_yielded[Dn]{p:Nat}{ops:List Oper}{op:Oper}(hp:ops[p]?=some op)(tmps:Array Value)(j:Nat):yielded (edL p ops).toArray tmps j=yielded ops.toArray tmps j:=by
 unfold yielded
 simp only[List.getElem?_toArray,edL_get hp]
 cases ops[j]? with
 | none=>rfl
 | some o=>simp[(edO_dst p op j o).1]
theorem ed_wpOp[Dn]{P:Program}{p:Nat}{ops:List Oper}{op:Oper}(hp:ops[p]?=some op){Q:Exit→Act→World→Prop}(hQ:∀ e a w,e≠Exit.normal→¬ Q e a w){K K':Act→World→Prop}(hK:∀ a w,K a w→K' a w){i:Nat}{a:Act}{w:World}(h:wpOp P (edL p ops).toArray Q i K a w):wpOp P ops.toArray Q i K' a w:=by
 cases ho:ops[i]? with
 | none =>
   unfold wpOp at *
   simp only[List.getElem?_toArray,edL_get hp,ho,Option.map_none] at *
   exact hK _ _ h
 | some o =>
   refine wpOp_of hQ (o:=o) (o':=edO p op i o) (by simpa using ho) (by simp[edL_get hp,ho]) (edO_dst p op i o).1 (edO_run p op i o) (fun tmps => ?_) hK h
   unfold Region.wanted
   rw[(edO_dst p op i o).2.1]
   split
   · rfl
   · rw[ed_yielded hp]
theorem ed_back[Dn]{p:Nat}{ops:List Oper}{op:Oper}(hp:ops[p]?=some op){listed:Array Bool}{i:Nat}(h:i∈Region.ready .any (edL p ops).toArray listed):i∈Region.ready .any ops.toArray listed:=by
 obtain⟨hu,o',ho',hall⟩:=mem_ready.1 h
 rw[List.getElem?_toArray,edL_get hp] at ho'
 obtain⟨o,ho,rfl⟩:=Option.map_eq_some_iff.1 ho'
 rw[mem_ready]
 refine⟨hu,o,by simpa using ho,fun e he hb=>hall e ?_ hb⟩
 unfold edO
 split
 · simp only[List.mem_toArray,List.mem_cons]
   exact .inr (by simpa using he)
 · exact he
theorem ed_ready[Dn]{p:Nat}{ops:List Oper}{op:Oper}(hp:ops[p]?=some op){listed:Array Bool}(hsz:listed.size=ops.length){i:Nat}(h:i∈Region.ready .any ops.toArray listed) :
   i∈Region.ready .any (edL p ops).toArray listed∨(p∈Region.ready .any (edL p ops).toArray listed∧p∈Region.ready .any ops.toArray listed):=by
 obtain⟨hu,o,ho,hall⟩:=mem_ready.1 h
 have ho':ops[i]?=some o:=by simpa using ho
 cases hb:edB p op i o with
 | false =>
   left
   rw[mem_ready]
   refine⟨hu,o,by simp[edL_get hp,ho',edO,hb],hall⟩
 | true =>
   cases hl:listed.getD p false with
   | true =>
     left
     rw[mem_ready]
     refine⟨hu,_,by simp[edL_get hp,ho'];rfl,fun e he hbi => ?_⟩
     unfold edO at he
     rw[hb] at he
     simp only[List.mem_toArray,List.mem_cons] at he
     rcases he with rfl | he
     · exact hl
     · exact hall e (by simpa using he) hbi
   | false =>
     right
     have hpe:∀ e∈op.after,Region.binds .any e=true→listed.getD e.on false=true:=by
       intro e he hbi
       unfold edB at hb
       simp only[Bool.and_eq_true] at hb
       have h1:=List.all_eq_true.1 hb.2 e (by simpa using he)
       rw[hbi,Bool.not_true,Bool.false_or] at h1
       obtain⟨e',he',h2⟩:=List.any_eq_true.1 h1
       simp only[Bool.and_eq_true,beq_iff_eq] at h2
       rw[← h2.2]
       exact hall e' (by simpa using he') h2.1
     have hpl:p<listed.size:=by rw[hsz];exact (List.getElem?_eq_some_iff.1 hp).1
     have hpu:listed.getD p true=false:=by
       simp only[Array.getD,hpl,dif_pos] at hl ⊢
       exact hl
     refine⟨?_,?_⟩
     · rw[mem_ready]
       exact⟨hpu,op,by simp[edL_get hp,hp,edO_self],hpe⟩
     · rw[mem_ready]
       exact⟨hpu,op,by simpa using hp,hpe⟩
theorem ed_any[Dn]{P:Program}{p:Nat}{ops:List Oper}(he:eagB p ops=true){Q:Exit→Act→World→Prop}(hQ:∀ e a w,e≠Exit.normal→¬ Q e a w) :
   ∀ (fuel:Nat) (listed:Array Bool) (a:Act) (w:World),listed.size=ops.length→wpAny P .any (edL p ops).toArray Q fuel listed a w→wpAny P .any ops.toArray Q fuel listed a w:=by
 unfold eagB at he
 split at he
 rotate_left
 · cases he
 rename_i op hp
 simp only[Bool.and_eq_true] at he
 obtain⟨⟨hs,hns⟩,hfree⟩:=he
 have hp':ops.toArray[p]?=some op:=by simpa using hp
 intro fuel
 induction fuel with
 | zero =>
   intro listed a w hsz h
   refine⟨?_,h.2⟩
   cases hr:Region.ready .any ops.toArray listed with
   | nil=>rfl
   | cons i r =>
     have hi:i∈Region.ready .any ops.toArray listed:=by rw[hr];exact List.mem_cons_self ..
     rcases ed_ready hp hsz hi with h1 | ⟨h1,_⟩
     · rw[h.1] at h1;cases h1
     · rw[h.1] at h1;cases h1
 | succ fuel ih =>
   intro listed a w hsz h
   by_cases hc:∃ i,i∈Region.ready .any ops.toArray listed∧i∉Region.ready .any (edL p ops).toArray listed
   · obtain⟨i,hi,hni⟩:=hc
     rcases ed_ready hp hsz hi with h1 | ⟨h1,h2⟩
     · exact absurd h1 hni
     · have h3:=ed_wpOp hp hQ (fun _ _ h=>h) (h.2 p h1)
       obtain⟨v,hy,h4⟩:=slot_yields hQ hp' hs h3
       have h5:=ih _ _ _ (by simpa using hsz) h4
       refine wpAny_first hp' (Region.noSelect_spec hns) (fun c a w h=>absurd h (hQ _ _ _ (by simp))) fuel listed a w (fun j oj hj hne hun hno => ?_) h2 hy h5
       refine freeB_spec hfree (by simpa using hj) hne (fun e he hb hej => ?_) hno
       obtain⟨_,op',hop',hall⟩:=mem_ready.1 h2
       rw[hp'] at hop'
       injection hop' with hop'
       subst hop'
       have:=hall e he hb
       rw[hej] at this
       have hjl:=(Array.getElem?_eq_some_iff.1 hj).1
       rw[getD_any (by rw[hsz];simpa using hjl)] at hun
       rw[hun] at this;cases this
   · refine⟨fun h0=>h.1 ?_,fun i hi => ?_⟩
     · cases hr:Region.ready .any (edL p ops).toArray listed with
       | nil=>rfl
       | cons i r =>
         have hi:i∈Region.ready .any (edL p ops).toArray listed:=by rw[hr];exact List.mem_cons_self ..
         have:=ed_back hp hi
         rw[h0] at this;cases this
     · have hi':i∈Region.ready .any (edL p ops).toArray listed:=Classical.byContradiction fun hn=>hc ⟨i,hi,hn⟩
       exact ed_wpOp hp hQ (fun a w h=>ih _ a w (by simpa using hsz) h) (h.2 i hi')
def edAll:List Nat→List Oper→List Oper
 | [],ops=>ops
 | p::r,ops=>match eagB p ops with
   | true=>edAll r (edL p ops)
   | false=>edAll r ops
theorem edAll_len[Dn]:∀ (l:List Nat) (ops:List Oper),(edAll l ops).length=ops.length
 | [],_=>rfl
 | p::r,ops=>by
   unfold edAll
   split
   · rw[edAll_len r,edL_len]
   · exact edAll_len r ops
theorem edAll_any[Dn]{P:Program}{Q:Exit→Act→World→Prop}(hQ:∀ e a w,e≠Exit.normal→¬ Q e a w){fuel:Nat}{listed:Array Bool}{a:Act}{w:World}:∀ (l:List Nat) (ops:List Oper),listed.size=ops.length→wpAny P .any (edAll l ops).toArray Q fuel listed a w→wpAny P .any ops.toArray Q fuel listed a w
 | [],_,_,h=>h
 | p::r,ops,hsz,h=>by
   unfold edAll at h
   split at h
   · rename_i he
     exact ed_any he hQ fuel listed a w hsz (edAll_any hQ r _ (by rw[edL_len];exact hsz) h)
   · exact edAll_any hQ r ops hsz h
def pmO(π:List Nat)(o:Oper):Oper :=
 { o with after:=(o.after.toList.map fun e=>{ e with on:=π.idxOf e.on }).toArray,guard:=match o.guard with
   | some g=>some (π.idxOf g.1,g.2)
   | none=>none }
def pmL(π:List Nat)(ops:List Oper):List Oper :=
 π.map fun i=>match ops[i]? with
   | some o=>pmO π o
   | none=>default
def inPB(n:Nat)(o:Oper):Bool :=
 (o.after.toList.all fun e=>decide (e.on<n))&&match o.guard with
   | some g=>decide (g.1<n)
   | none=>true
def ndB:List Nat→Bool
 | []=>true
 | x::r => !r.contains x&&ndB r
def pmB(π:List Nat)(ops:List Oper):Bool :=
 decide (π.length=ops.length)&&((List.range ops.length).all fun i=>π.contains i)&&ndB π&&(π.all fun i=>decide (i<ops.length))&&ops.all (inPB ops.length)
theorem pmO_run(π:List Nat)(o:Oper)(ρ:Operand→Value):execOp ρ (pmO π o)=execOp ρ o:=rfl
structure Pm(π:List Nat)(ops:List Oper):Prop where
 len:π.length=ops.length
 mem:∀ i,i<ops.length→i∈π
 lt:∀ i∈π,i<ops.length
 nd:π.Nodup
 inP:∀ (i:Nat) o,ops[i]?=some o→inPB ops.length o=true
theorem ndB_spec:∀ {l:List Nat},ndB l=true→l.Nodup
 | [],_=>List.nodup_nil
 | x::r,h=>by
   unfold ndB at h
   simp only[Bool.and_eq_true,Bool.not_eq_true'] at h
   rw[List.nodup_cons]
   refine⟨fun hm => ?_,ndB_spec h.2⟩
   have:r.contains x=true:=by simpa using hm
   rw[h.1] at this;cases this
theorem pmB_spec[Dn]{π:List Nat}{ops:List Oper}(h:pmB π ops=true):Pm π ops:=by
 unfold pmB at h
 simp only[Bool.and_eq_true,decide_eq_true_eq] at h
 obtain⟨⟨⟨⟨h1,h2⟩,h4⟩,h5⟩,h3⟩:=h
 refine⟨h1,fun i hi => ?_,fun i hi => ?_,ndB_spec h4,fun i o ho=>List.all_eq_true.1 h3 o (List.mem_of_getElem? ho)⟩
 · have:=List.all_eq_true.1 h2 i (List.mem_range.2 hi)
   simpa using this
 · have:=List.all_eq_true.1 h5 i hi
   simpa using this
theorem Pm.idx{π:List Nat}{ops:List Oper}(h:Pm π ops){i:Nat}(hi:i<ops.length):π.idxOf i<ops.length∧π[π.idxOf i]?=some i:=by
 have hm:=h.mem i hi
 have hlt:π.idxOf i<π.length:=List.idxOf_lt_length_of_mem hm
 refine⟨by rw[← h.len];exact hlt,?_⟩
 rw[List.getElem?_eq_getElem hlt,List.getElem_idxOf]
theorem Pm.get[Dn]{π:List Nat}{ops:List Oper}(h:Pm π ops){i:Nat}{o:Oper}(ho:ops[i]?=some o):(pmL π ops)[π.idxOf i]?=some (pmO π o):=by
 have hi:=(List.getElem?_eq_some_iff.1 ho).1
 unfold pmL
 rw[List.getElem?_map,(h.idx hi).2]
 simp[ho]
theorem Pm.inj[Dn]{π:List Nat}{ops:List Oper}(h:Pm π ops){i j:Nat}(hi:i<ops.length)(hj:j<ops.length)(e:π.idxOf i=π.idxOf j):i=j:=by
 have h1:=(h.idx hi).2
 have h2:=(h.idx hj).2
 rw[e,h2] at h1
 exact (Option.some.inj h1).symm
theorem Pm.yielded[Dn]{π:List Nat}{ops:List Oper}(h:Pm π ops)(tmps:Array Value){j:Nat}(hj:j<ops.length):yielded (pmL π ops).toArray tmps (π.idxOf j)=yielded ops.toArray tmps j:=by
 unfold Go.yielded
 rw[List.getElem?_toArray,List.getElem?_toArray,h.get (List.getElem?_eq_getElem hj),List.getElem?_eq_getElem hj]
 rfl
theorem Pm.wpOp[Dn]{P:Program}{π:List Nat}{ops:List Oper}(h:Pm π ops){Q:Exit→Act→World→Prop}(hQ:∀ e a w,e≠Exit.normal→¬ Q e a w){K K':Act→World→Prop}(hK:∀ a w,K a w→K' a w){i:Nat}(hi:i<ops.length){a:Act}{w:World}(hh:wpOp P (pmL π ops).toArray Q (π.idxOf i) K a w):wpOp P ops.toArray Q i K' a w:=by
 have ho:=List.getElem?_eq_getElem hi
 refine wpOp_of hQ (o:=ops[i]) (o':=pmO π ops[i]) (by rw[List.getElem?_toArray];exact ho) (by rw[List.getElem?_toArray];exact h.get ho) rfl (pmO_run π ops[i]) (fun tmps => ?_) hK hh
 have hin:=h.inP i _ ho
 unfold inPB at hin
 simp only[Bool.and_eq_true] at hin
 unfold Region.wanted pmO
 simp only
 cases hg:ops[i].guard with
 | none=>rfl
 | some g =>
   rw[hg] at hin
   simp only
   rw[h.yielded tmps (by simpa using hin.2)]
structure PmL(π:List Nat)(ops:List Oper)(listed listed':Array Bool):Prop where
 sz:listed.size=ops.length
 sz':listed'.size=ops.length
 eq:∀ i,i<ops.length→listed'.getD (π.idxOf i) false=listed.getD i false
theorem Pm.ready[Dn]{π:List Nat}{ops:List Oper}(h:Pm π ops){listed listed':Array Bool}(hl:PmL π ops listed listed'){i:Nat}(hi:i<ops.length):π.idxOf i∈Region.ready .any (pmL π ops).toArray listed'↔i∈Region.ready .any ops.toArray listed:=by
 have ho:=List.getElem?_eq_getElem hi
 have hin:=h.inP i _ ho
 unfold inPB at hin
 simp only[Bool.and_eq_true] at hin
 have hlt:∀ e∈ops[i].after,e.on<ops.length:=fun e he=>by
   have:=List.all_eq_true.1 hin.1 e (by simpa using he)
   simpa using this
 rw[mem_ready,mem_ready,List.getElem?_toArray,List.getElem?_toArray,h.get ho,ho,getD_any (l:=listed') (by rw[hl.sz'];exact (h.idx hi).1),getD_any (l:=listed) (by rw[hl.sz];exact hi),hl.eq i hi]
 constructor
 · rintro⟨h1,o,ho',hall⟩
   injection ho' with ho'
   subst ho'
   refine⟨h1,_,rfl,fun e he hb => ?_⟩
   have:=hall { e with on:=π.idxOf e.on } (by
     unfold pmO
     simp only[List.mem_toArray,List.mem_map]
     exact⟨e,by simpa using he,rfl⟩) hb
   rwa [hl.eq _ (hlt e he)] at this
 · rintro⟨h1,o,ho',hall⟩
   injection ho' with ho'
   subst ho'
   refine⟨h1,_,rfl,fun e he hb => ?_⟩
   unfold pmO at he
   simp only[List.mem_toArray,List.mem_map] at he
   obtain⟨e0,he0,rfl⟩:=he
   have he0:e0∈ops[i].after:=by simpa using he0
   show listed'.getD (π.idxOf e0.on) false=true
   rw[hl.eq _ (hlt e0 he0)]
   exact hall e0 he0 hb
theorem ready_lt{ops:List Oper}{listed:Array Bool}{i:Nat}(h:i∈Region.ready .any ops.toArray listed):i<ops.length:=by
 obtain⟨_,o,ho,_⟩:=mem_ready.1 h
 have:=(Array.getElem?_eq_some_iff.1 ho).1
 simpa using this
theorem PmL.set[Dn]{π:List Nat}{ops:List Oper}(h:Pm π ops){listed listed':Array Bool}(hl:PmL π ops listed listed'){i:Nat}(hi:i<ops.length):PmL π ops (listed.setIfInBounds i true) (listed'.setIfInBounds (π.idxOf i) true):=by
 refine⟨by simpa using hl.sz,by simpa using hl.sz',fun j hj => ?_⟩
 by_cases hij:i=j
 · subst hij
   have h1:i<listed.size:=by rw[hl.sz];exact hi
   have h2:π.idxOf i<listed'.size:=by rw[hl.sz'];exact (h.idx hi).1
   simp[Array.getD,h1,h2]
 · rw[getD_set_ne false hij,getD_set_ne false (fun e=>hij (h.inj hi hj e))]
   exact hl.eq j hj
theorem pm_any[Dn]{P:Program}{π:List Nat}{ops:List Oper}(h:Pm π ops){Q:Exit→Act→World→Prop}(hQ:∀ e a w,e≠Exit.normal→¬ Q e a w) :
   ∀ (fuel:Nat) (listed listed':Array Bool) (a:Act) (w:World),PmL π ops listed listed'→wpAny P .any (pmL π ops).toArray Q fuel listed' a w→wpAny P .any ops.toArray Q fuel listed a w:=by
 have hnil:∀ {listed listed':Array Bool},PmL π ops listed listed'→(Region.ready .any (pmL π ops).toArray listed'=[]↔Region.ready .any ops.toArray listed=[]):=by
   intro listed listed' hl
   constructor
   · intro h0
     cases hr:Region.ready .any ops.toArray listed with
     | nil=>rfl
     | cons i r =>
       have hi:i∈Region.ready .any ops.toArray listed:=by rw[hr];exact List.mem_cons_self ..
       have:=(h.ready hl (ready_lt hi)).2 hi
       rw[h0] at this;cases this
   · intro h0
     cases hr:Region.ready .any (pmL π ops).toArray listed' with
     | nil=>rfl
     | cons j r =>
       have hj:j∈Region.ready .any (pmL π ops).toArray listed':=by rw[hr];exact List.mem_cons_self ..
       have hjl:=ready_lt hj
       have hjl':j<π.length:=by simpa [pmL] using hjl
       have hi:=h.lt _ (List.getElem_mem hjl')
       have he:π.idxOf π[j]=j:=h.nd.idxOf_getElem j hjl'
       have:=(h.ready hl hi).1 (by rw[he];exact hj)
       rw[h0] at this;cases this
 intro fuel
 induction fuel with
 | zero =>
   intro listed listed' a w hl hh
   exact⟨(hnil hl).1 hh.1,hh.2⟩
 | succ fuel ih =>
   intro listed listed' a w hl hh
   refine⟨fun h0=>hh.1 ((hnil hl).2 h0),fun i hi => ?_⟩
   have hil:=ready_lt hi
   exact h.wpOp hQ (fun a w h1=>ih _ _ a w (hl.set h hil) h1) hil (hh.2 _ ((h.ready hl hil).2 hi))
theorem upon_mono{P:Program}{o:Oper}{a:Act}{K K':Act→World→Prop}{Q Q':Exit→Act→World→Prop}(hK:∀ a w,K a w→K' a w)(hQ:∀ e a w,Q e a w→Q' e a w){r:Result Next}(h:o.upon P a K Q r):o.upon P a K' Q' r:=by
 cases r with
 | ok n w' =>
   cases n<;>simp only[Oper.upon] at h ⊢
   all_goals first
     | exact hK _ _ h
     | exact h.elim
     | exact h
     | exact Rows.mono h fun _ _ h=>hK _ _ h
     | (refine Calls.mono h fun e w'' he => ?_
        cases e with
        | returned u=>exact hK _ _ he
        | panicked c=>exact hQ _ _ _ he
        | outgrown =>
          obtain⟨a,w,hq⟩:=he
          exact⟨a,w,hQ _ _ _ hq⟩)
 | halt x w' =>
   cases x<;>simp only[Oper.upon] at h ⊢ <;> first | exact hQ _ _ _ h | exact h
theorem wpOp_monoQ[Dn]{P:Program}{ops:Array Oper}{K K':Act→World→Prop}{Q Q':Exit→Act→World→Prop}(hK:∀ a w,K a w→K' a w)(hQ:∀ e a w,Q e a w→Q' e a w){i:Nat}{a:Act}{w:World}(h:wpOp P ops Q i K a w):wpOp P ops Q' i K' a w:=by
 unfold wpOp at *
 split
 · rename_i ho
   simp only[ho] at h
   exact hK _ _ h
 · rename_i o ho
   simp only[ho] at h
   split
   · rename_i hw
     rw[if_pos hw] at h
     rcases h with h | ⟨h1,a',w',h2⟩
     · exact .inl (upon_mono hK hQ h)
     · exact .inr ⟨h1,a',w',hQ _ _ _ h2⟩
   · rename_i hw
     rw[if_neg hw] at h
     exact hK _ _ h
theorem wpAny_monoQ[Dn]{P:Program}{md:Region.Mode}{ops:Array Oper}{Q Q':Exit→Act→World→Prop}(hQ:∀ e a w,Q e a w→Q' e a w):∀ {fuel:Nat} {listed:Array Bool} {a:Act} {w:World},wpAny P md ops Q fuel listed a w→wpAny P md ops Q' fuel listed a w
 | 0,_,_,_,h=>⟨h.1,hQ _ _ _ h.2⟩
 | _+1,_,_,_,h=>⟨fun h0=>hQ _ _ _ (h.1 h0),fun i hi=>wpOp_monoQ (fun _ _ h=>wpAny_monoQ hQ h) hQ (h.2 i hi)⟩
def hoistP(o:Oper):List Nat→Nat
 | []=>0
 | i::r=>match o.after.toList.any (fun e=>Region.binds .any e&&e.on==i)||(hoistP o r != 0) with
   | true=>hoistP o r+1
   | false=>0
def insAt(i:Nat):Nat→List Nat→List Nat
 | 0,l=>i::l
 | n+1,x::r=>x::insAt i n r
 | _+1,[]=>[i]
def orderL(ops:List Oper):Nat→List Oper→List Nat→List Nat
 | _,[],out=>out
 | i,o::r,out=>orderL ops (i+1) r (match slotB o with
   | true=>insAt i (hoistP o out) out
   | false=>out++[i])
def nrmL(ops:List Oper):List Oper :=
 match pmB (orderL ops 0 ops []) ops with
 | true=>edAll (List.range ops.length) (pmL (orderL ops 0 ops []) ops)
 | false=>ops
theorem pmL_len(π:List Nat)(ops:List Oper):(pmL π ops).length=π.length:=by unfold pmL;simp
theorem nrmL_len[Dn](ops:List Oper):(nrmL ops).length=ops.length:=by
 unfold nrmL
 split
 · rename_i h
   rw[edAll_len,pmL_len,(pmB_spec h).len]
 · rfl
theorem nrmL_ok[Dn]{P:Program}{ops:List Oper}{Q:Exit→Act→World→Prop}(hQ:∀ e a w,e≠Exit.normal→¬ Q e a w){a:Act}{w:World}(h:AnyW P (nrmL ops).toArray Q a w):AnyW P ops.toArray Q a w:=by
 unfold AnyW at h ⊢
 have hsz:(nrmL ops).toArray.size=ops.toArray.size:=by simp[nrmL_len]
 rw[hsz] at h
 unfold nrmL at h
 split at h
 · rename_i hp
   have pm:=pmB_spec hp
   have h1:=edAll_any hQ _ _ (by simp[pmL_len,pm.len]) h
   refine pm_any pm hQ _ _ _ _ _ ⟨by simp,by simp,fun i hi => ?_⟩ h1
   rw[getD_replicate_false,getD_replicate_false]
 · exact h
end Go.Vc
