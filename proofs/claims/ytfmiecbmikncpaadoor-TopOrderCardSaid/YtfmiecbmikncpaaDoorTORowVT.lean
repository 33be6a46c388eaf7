import Derived.Test.YtfmiecbmikncpaaDoorTORowVS
import Derived.Test.YtfmiecbmikncpaaDoorTORowVY
namespace Go.Vc
open Go.RowKit
def settled(all:List Oper)(n:Nat)(listed:Array Bool)(s:Nat):Bool :=
 (List.range n).all fun k=>match all[k]? with
   | some o=>match o.dst with
     | some d=>if d=s then listed.getD k false else true
     | none=>true
   | none=>true
theorem settled_spec{all:List Oper}{n s:Nat}{listed:Array Bool}:settled all n listed s=true↔∀ (k:Nat) o,k<n→all[k]?=some o→o.dst=some s→listed.getD k false=true:=by
 unfold settled
 rw[List.all_eq_true]
 constructor
 · intro h k o hk ho hd
   have:=h k (List.mem_range.2 hk)
   simpa [ho,hd] using this
 · intro h k hk
   have hk:=List.mem_range.1 hk
   split
   · rename_i o ho
     split
     · rename_i d hd
       split
       · rename_i e;subst e;exact h k o hk ho hd
       · rfl
     · rfl
   · rfl
theorem waits_spec{all:List Oper}{i k:Nat}(h:waits all i k=true):∃ o,all[i]?=some o∧∃ e∈o.after,Region.binds .any e=true∧e.on=k:=by
 unfold waits at h
 split at h
 · rename_i o ho
   obtain⟨e,he,hb⟩:=List.any_eq_true.1 h
   simp only[Bool.and_eq_true,beq_iff_eq] at hb
   exact⟨o,ho,e,by simpa using he,hb.1,hb.2⟩
 · cases h
def backB(all:List Oper)(n:Nat):Bool :=
 (List.range n).all fun i=>match all[i]? with
   | some o=>o.after.toList.all fun e => !Region.binds .any e||decide (e.on<i)
   | none=>true
def oneB(all:List Oper)(n:Nat):Bool :=
 (List.range n).all fun i=>(List.range n).all fun j=>match all[i]?,all[j]? with
   | some oi,some oj=>match oi.dst,oj.dst with
     | some d,some e=>if d=e then decide (i=j) else true
     | _,_=>true
   | _,_=>true
def listedN(n m:Nat):Array Bool:=(List.replicate n true++List.replicate (m - n) false).toArray
def mixB(all:List Oper)(n:Nat):Bool :=
 decide (n≤all.length)&&backB all n&&oneB all n&&(decide (n=all.length)||(decide (n<all.length)&&Region.sinkB .any all.toArray n&&Region.chainB .any all.toArray n)) &&
   Region.seqB .any all.toArray (all.length - n) n (listedN n all.length)
theorem oneB_spec{all:List Oper}{n:Nat}(h:oneB all n=true):DstOne all n:=by
 intro i j oi oj d hi hj hoi hoj hdi hdj
 have h1:=List.all_eq_true.1 (List.all_eq_true.1 h i (List.mem_range.2 hi)) j (List.mem_range.2 hj)
 simpa [hoi,hoj,hdi,hdj] using h1
theorem backB_spec{all:List Oper}{n i:Nat}{o:Oper}(h:backB all n=true)(hi:i<n)(ho:all[i]?=some o):∀ e∈o.after,Region.binds .any e=true→e.on<i:=by
 intro e he hb
 have h1:=List.all_eq_true.1 h i (List.mem_range.2 hi)
 simp only[ho] at h1
 have h2:=List.all_eq_true.1 h1 e (by simpa using he)
 simpa [hb] using h2
def left(n:Nat)(listed:Array Bool):List Nat:=(List.range n).filter fun i => !listed.getD i false
theorem left_set{n i:Nat}{listed:Array Bool}(hi:i<n)(hs:i<listed.size)(hun:listed.getD i false=false):(left n (listed.setIfInBounds i true)).length+1=(left n listed).length:=by
 have hf:left n (listed.setIfInBounds i true)=(left n listed).erase i:=by
   have hnd:(left n listed).Nodup:=List.Pairwise.filter _ List.nodup_range
   rw[hnd.erase_eq_filter]
   unfold left
   rw[List.filter_filter]
   apply List.filter_congr
   intro j _
   by_cases hji:i=j
   · subst hji
     simp[hs]
   · rw[getD_set_ne false hji]
     have:(j != i)=true:=by simpa using fun h=>hji h.symm
     simp[this]
 have hm:i∈left n listed:=by
   unfold left
   rw[List.mem_filter]
   exact⟨List.mem_range.2 hi,by simp[hun]⟩
 rw[hf,List.length_erase_of_mem hm]
 have:=List.length_pos_of_mem hm
 omega
theorem any_ok[Dn]{P:Program}{gl:List (Nat×Dat)}{all:List Oper}{n:Nat}{F:St}(hop:∀ (i:Nat) o,i<n→all[i]?=some o→OpOk P gl all n i o F)(hB:mixB all n=true){w0:World}{M:Ms}{R0:Nat→Prop}(hBs:BaseOk gl w0 M R0){A:Asg}{Q:Exit→Act→World→Prop}
   (hend:∀ a w,Inv w0 M R0 A F a w→wpList P all.toArray Q (all.drop n) a w) :
   ∀ (f:Nat) (listed:Array Bool) (a:Act) (w:World),HeadInv .any all.toArray n listed→(left n listed).length=f→Inv w0 M R0 A (F.mask (settled all n listed)) a w→wpAny P .any all.toArray Q (f+(all.length - n)) listed a w:=by
 simp only[mixB,Bool.and_eq_true,decide_eq_true_eq,Bool.or_eq_true] at hB
 obtain⟨⟨⟨⟨hn,hback⟩,hone⟩,htail⟩,hseq⟩:=hB
 intro f
 induction f with
 | zero =>
   intro listed a w inv hf I
   have hall:∀ i,i<n→listed.getD i false=true:=by
     intro i hi
     cases h:listed.getD i false with
     | true=>rfl
     | false =>
       have:i∈left n listed:=by unfold left;rw[List.mem_filter];exact⟨List.mem_range.2 hi,by simp[h]⟩
       rw[List.eq_nil_of_length_eq_zero hf] at this
       cases this
   have hsz:listed.size=all.length:=by simpa using inv.size
   have hl:listed=listedN n all.length:=by
     apply Array.ext
     · rw[hsz];simp[listedN];omega
     · intro i h1 h2
       by_cases hi:i<n
       · have:=hall i hi
         simp only[Array.getD,h1,dif_pos] at this
         simp only[listedN,List.getElem_toArray]
         rw[List.getElem_append_left (by simpa using hi)]
         simpa using this
       · have:=inv.tail i (by omega) (by simpa using (hsz▸h1))
         simp only[Array.getD,h1,dif_pos] at this
         simp only[listedN,List.getElem_toArray]
         rw[List.getElem_append_right (by simpa using hi)]
         simpa using this
   have IF:Inv w0 M R0 A F a w:=by
     refine I.weaken rfl rfl mask_len.symm fun j s hs => .inr ⟨s,mask_mk ?_ hs,SvEq.refl s⟩
     rw[settled_spec]
     intro k o hk _ _
     exact hall k hk
   rw[Nat.zero_add,hl]
   have:=wpAny_of_seq (P:=P) (md := .any) (ops:=all.toArray) (Q':=Q) (all.drop n) n (listedN n all.length) a w (fun j=>by simp[List.getElem?_drop]) (by simpa using hseq) (hend a w IF)
   simpa using this
 | succ f ih =>
   intro listed a w inv hf I
   have hsz:listed.size=all.length:=by simpa using inv.size
   -- somebody is ready
   have hex:∃ i,i<n∧listed.getD i false=false:=by
     cases hq:left n listed with
     | nil=>rw[hq] at hf;simp at hf
     | cons i r =>
       have:i∈left n listed:=by rw[hq];exact List.mem_cons_self ..
       unfold left at this
       rw[List.mem_filter] at this
       exact⟨i,List.mem_range.1 this.1,by simpa using this.2⟩
   have hleast:∃ i,i<n∧listed.getD i false=false∧∀ j,j<i→listed.getD j false=true:=by
     obtain⟨i,hi,hu⟩:=hex
     induction i using Nat.strongRecOn with
     | _ i ihi =>
       by_cases hc:∃ j,j<i∧listed.getD j false=false
       · obtain⟨j,hj,hju⟩:=hc
         exact ihi j hj (by omega) hju
       · refine⟨i,hi,hu,fun j hj => ?_⟩
         cases hq:listed.getD j false with
         | true=>rfl
         | false=>exact absurd ⟨j,hj,hq⟩ hc
   obtain⟨i0,hi0,hu0,hb0⟩:=hleast
   have hi0l:i0<all.length:=by omega
   have hr0:i0∈Region.ready .any all.toArray listed:=by
     rw[mem_ready]
     refine⟨getD_in (by omega) hu0,all[i0],by simp[hi0l],fun e he hb=>hb0 _ (backB_spec hback hi0 (List.getElem?_eq_getElem hi0l) e he hb)⟩
   have hlt:∀ i,i∈Region.ready .any all.toArray listed→i<n:=by
     intro i hi
     rcases Nat.lt_or_ge i n with h | h
     · exact h
     · rcases htail with ht | ⟨⟨ht,hs⟩,hc⟩
       · obtain⟨_,o,ho,_⟩:=mem_ready.1 hi
         have:=(Array.getElem?_eq_some_iff.1 ho).1
         simp at this;omega
       · exact absurd hi (tail_waits hs hc (by simpa using ht) inv _ i0 rfl hi0 (getD_in (by omega) hu0) i h)
   rw[show f+1+(all.length - n)=(f+(all.length - n))+1 by omega]
   refine And.intro (fun h0=>absurd (h0▸hr0) (by simp)) (fun i hi => ?_)
   have hin:=hlt i hi
   obtain⟨hun,oi,hoi,hedge⟩:=mem_ready.1 hi
   have hoi':all[i]?=some oi:=by simpa using hoi
   have hil:i<listed.size:=by omega
   have hunf:listed.getD i false=false:=by
     simp only[Array.getD,hil,dif_pos] at hun ⊢
     exact hun
   refine hop i oi hin hoi' w0 M R0 A a w hBs ?_ _ _ fun v w' hsm hex' hsv => ?_
   · refine I.weaken rfl rfl (by rw[mask_len,mask_len]) fun j s hs => ?_
     rcases mask_get hs with rfl | ⟨hkn,hs'⟩
     · exact .inl rfl
     · refine .inr ⟨s,mask_mk ?_ hs',SvEq.refl s⟩
       rw[settled_spec]
       intro k o hk ho hd
       obtain⟨_,hw⟩:=known_spec hkn hk ho hd
       obtain⟨o',ho',e,he,hb,hon⟩:=waits_spec hw
       rw[hoi'] at ho';injection ho' with ho';subst ho'
       rw[← hon];exact hedge e he hb
   · refine ih _ _ _ (inv.set hi hin) (by have:=left_set hin hil hunf;omega) ?_
     have I1:=I.ext hsm hex'
     -- the new value,if the slot is one of the state's
     have hset:∀ j,settled all n (listed.setIfInBounds i true) j=true→oi.dst≠some j→settled all n listed j=true:=by
       intro j hj hne
       rw[settled_spec] at hj ⊢
       intro k o hk ho hd
       have:=hj k o hk ho hd
       by_cases hik:i=k
       · subst hik
         rw[hoi'] at ho;injection ho with ho;subst ho
         exact absurd hd hne
       · rw[getD_set_ne false hik] at this;exact this
     cases hd:oi.dst with
     | none =>
       have hp:a.put none v=a:=rfl
       rw[hp]
       refine I1.weaken rfl rfl (by rw[mask_len,mask_len]) fun j s hs => ?_
       rcases mask_get hs with rfl | ⟨hkn,hs'⟩
       · exact .inl rfl
       · exact .inr ⟨s,mask_mk (hset j hkn (by rw[hd];simp)) hs',SvEq.refl s⟩
     | some x =>
       by_cases hx:x<F.tm.length
       · have I2:=I1.put (d:=some x) (s:=F.tm[x]) (v:=v) (hsv x _ hd (List.getElem?_eq_getElem hx))
         refine I2.weaken (by rw[St.put_ob];rfl) (by rw[St.put_gs];rfl) (by rw[St.put_len,mask_len,mask_len]) fun j s hs => ?_
         rcases mask_get hs with rfl | ⟨hkn,hs'⟩
         · exact .inl rfl
         · by_cases hxj:x=j
           · subst hxj
             rw[List.getElem?_eq_getElem hx] at hs';injection hs' with hs'
             refine .inr ⟨s,?_,SvEq.refl s⟩
             simp only[St.put]
             rw[List.getElem?_set_self (by rw[mask_len];exact hx),hs']
           · refine .inr ⟨s,?_,SvEq.refl s⟩
             simp only[St.put]
             rw[List.getElem?_set_ne hxj]
             exact mask_mk (hset j hkn (by rw[hd];simpa using hxj)) hs'
       · have I2:=I1.put (d:=some x) (s := .any) (v:=v) trivial
         refine I2.weaken (by rw[St.put_ob];rfl) (by rw[St.put_gs];rfl) (by rw[St.put_len,mask_len,mask_len]) fun j s hs => ?_
         rcases mask_get hs with rfl | ⟨hkn,hs'⟩
         · exact .inl rfl
         · have hjl:=(List.getElem?_eq_some_iff.1 hs').1
           have hxj:x≠j:=fun e=>hx (e▸hjl)
           refine .inr ⟨s,?_,SvEq.refl s⟩
           simp only[St.put]
           rw[List.getElem?_set_ne hxj]
           exact mask_mk (hset j hkn (by rw[hd];simpa using hxj)) hs'
theorem mix_ok[Dn]{P:Program}{X:Cx}(hX:CxOk P X){all:List Oper}{n:Nat}(hB:mixB all n=true){w0:World}{M:Ms}{R0:Nat→Prop}(hBs:BaseOk X.gl w0 M R0){A:Asg}{st:St}{a:Act}{w:World}(I:Inv w0 M R0 A st a w){k:St→Prop}
   (h:xqm X all n 0 (all.take n) st k) {Q:Exit→Act→World→Prop} (hend:∀ st' a' w',k st'→Inv w0 M R0 A st' a' w'→wpList P all.toArray Q (all.drop n) a' w'):AnyW P all.toArray Q a w:=by
 have hB':=hB
 simp only[mixB,Bool.and_eq_true,decide_eq_true_eq,Bool.or_eq_true] at hB'
 obtain⟨⟨⟨⟨hn,hback⟩,hone⟩,htail⟩,hseq⟩:=hB'
 have htl:(all.take n).length=n:=by simp;omega
 obtain⟨F,hk,hob,hgs,hlen,hun,hops,_⟩:=xqm_trace (P:=P) hX (oneB_spec hone) (l:=all.take n) (i:=0) (fun j hj=>by
   rw[htl] at hj;simp[hj]) (by omega) h
 refine AnyW.mk ?_
 have I':=I.ext (Cls.drawn w).1 (Cls.drawn w).2
 have inv0:HeadInv .any all.toArray n (Array.replicate all.length false) :=
   ⟨by simp,fun j oj _ hl=>(by rw[getD_replicate_false] at hl;cases hl),fun t _ ht=>getD_in (by simpa using ht) (getD_replicate_false _ _)⟩
 have hleft:(left n (Array.replicate all.length false)).length=n:=by
   unfold left
   rw[List.filter_eq_self.2 (fun i _=>by rw[getD_replicate_false];rfl)]
   simp
 have:=any_ok (P:=P) (F:=F) (Q:=Q) (fun i o hi ho=>by
   have:=hops i o (by rw[List.getElem?_take,if_pos hi];exact ho)
   rwa [Nat.zero_add] at this) hB hBs (w0:=w0) (M:=M) (R0:=R0) (A:=A) (fun a' w' hI=>hend F a' w' hk hI) n (Array.replicate all.length false) a { w with drawn:=w.drawn+1 } inv0 hleft ?_
 · rw[show n+(all.length - n)=all.length by omega] at this
   simpa using this
 · refine I'.weaken (by show F.ob=st.ob;exact hob) (by show F.gs=st.gs;exact hgs) (by rw[mask_len,hlen]) fun j s hs => ?_
   rcases mask_get hs with rfl | ⟨hkn,hs'⟩
   · exact .inl rfl
   · rw[settled_spec] at hkn
     have hno:∀ (i:Nat) o,(all.take n)[i]?=some o→o.dst≠some j:=by
       intro i o ho hd
       rw[List.getElem?_take] at ho
       split at ho
       · rename_i hi
         have:=hkn i o hi ho hd
         rw[getD_replicate_false] at this
         cases this
       · cases ho
     have hjl:j<st.tm.length:=by rw[← hlen];exact (List.getElem?_eq_some_iff.1 hs').1
     obtain⟨s2,hs2,e2⟩:=hun j _ hno (List.getElem?_eq_getElem hjl)
     rw[hs'] at hs2;injection hs2 with hs2;subst hs2
     exact .inr ⟨_,List.getElem?_eq_getElem hjl,e2⟩
def stoV(E:Env)(st:St)(o:Oper)(k:St→Prop):Prop :=
 match o.op with
 | .store T p x=>match E.ty T with
   | some t=>sto st t (st.ev E x) k (st.ev E p)
   | none=>False
 | _=>False
theorem sto_wo{st1:St}{t:Ty}{x:SV}{k:St→Prop}{p:SV}(h:sto st1 t x k p):∃ ob',k (st1.wo ob')∧∀ (st2:St) (k':St→Prop),st2.ob=st1.ob→k' (st2.wo ob')→sto st2 t x k' p:=by
 obtain⟨tm1,ob,gs1⟩:=st1
 unfold sto at h
 have hsC:∀ (tm2:List SV) (gs2:List (GK×SV)) (s:SV) (t0:Ty) (q:List Nat),stC ⟨tm2,ob,gs2⟩ s t0 t q x=stC ⟨tm1,ob,gs1⟩ s t0 t q x:=fun _ _ s t0 q=>by cases s<;>rfl
 split at h
 · rename_i t0 i q
   split at h
   · rename_i e t1 x1 hob
     split at h
     · rename_i ht
       split at h
       · rename_i y hy
         split at h
         · rename_i x' hx'
           exact⟨_,h,fun⟨tm2,ob2,gs2⟩ k' he hk'=>by simp only at he;subst he;simp only[sto];simp only at hob;rw[hob];simp only;rw[if_pos ht,hy];simp only;rw[hx'];exact hk'⟩
         · exact h.elim
       · rename_i hy
         split at h
         · rename_i s' hs'
           exact⟨_,h,fun⟨tm2,ob2,gs2⟩ k' he hk'=>by simp only at he;subst he;simp only[sto];simp only at hob;rw[hob];simp only;rw[if_pos ht,hy];simp only;rw[hsC,hs'];exact hk'⟩
         · exact h.elim
     · exact h.elim
   · rename_i e l hob
     split at h
     · rename_i s hs
       split at h
       · rename_i s' hs'
         exact⟨_,h,fun⟨tm2,ob2,gs2⟩ k' he hk'=>by simp only at he;subst he;simp only[sto];simp only at hob;rw[hob];simp only;rw[hs];simp only;rw[hsC,hs'];exact hk'⟩
       · exact h.elim
     · exact h.elim
   · exact h.elim
 · rename_i t0 i kk q
   split at h
   · rename_i e t1 xs hob
     split at h
     · rename_i ht
       split at h
       · rename_i y hy
         split at h
         · rename_i x' hx'
           exact⟨_,h,fun⟨tm2,ob2,gs2⟩ k' he hk'=>by simp only at he;subst he;simp only[sto];simp only at hob;rw[hob];simp only;rw[if_pos ht,hy];simp only;rw[hx'];exact hk'⟩
         · exact h.elim
       · exact h.elim
     · exact h.elim
   · exact h.elim
 · rename_i t0 i o q
   split at h
   · rename_i e l hob
     split at h
     · rename_i s hs
       split at h
       · rename_i s' hs'
         exact⟨_,h,fun⟨tm2,ob2,gs2⟩ k' he hk'=>by simp only at he;subst he;simp only[sto];simp only at hob;rw[hob];simp only;rw[hs];simp only;rw[hsC,hs'];exact hk'⟩
       · exact h.elim
     · exact h.elim
   · exact h.elim
 · exact h.elim
theorem sto_any{st:St}{t:Ty}{x:SV}{k:St→Prop}:¬ sto st t x k .any:=by simp[sto]
def storeB(o:Oper):Bool :=
 match o.op with
 | .store _ _ _=>o.dst.isNone&&o.guard.isNone
 | _=>false
def loadB(o:Oper):Bool :=
 match o.op with
 | .load _ _=>o.guard.isNone
 | _=>false
def floC(X:Cx)(all:List Oper)(n:Nat)(G:St):Nat→List Oper→Prop
 | _,[]=>True
 | i,o::r=>match loadB o && !waits all n i with
   | true=>(xq1 X (G.mask (known all n i)) o fun s=>s=(match o.dst with
       | some d=>G.tm.getD d .any
       | none => .any))∧floC X all n G (i+1) r
   | false=>floC X all n G (i+1) r
theorem floC_get{X:Cx}{all:List Oper}{n:Nat}{G:St}:∀ {l:List Oper} {i j:Nat} {o:Oper},floC X all n G i l→l[j]?=some o→loadB o=true→waits all n (i+j)=false →
   xq1 X (G.mask (known all n (i+j))) o fun s=>s=(match o.dst with
     | some d=>G.tm.getD d .any
     | none => .any):=by
 intro l
 induction l with
 | nil=>intro i j o _ ho;simp at ho
 | cons o' r ih =>
   intro i j o h ho hl hw
   cases j with
   | zero =>
     simp only[List.getElem?_cons_zero,Option.some.injEq] at ho
     subst ho
     rw[Nat.add_zero] at hw ⊢
     unfold floC at h
     rw[hl,hw] at h
     exact h.1
   | succ j =>
     have h':floC X all n G (i+1) r:=by
       unfold floC at h
       split at h
       · exact h.2
       · exact h
     have:=ih (j:=j) h' (by simpa using ho) hl (by rw[show i+1+j=i+(j+1) by omega];exact hw)
     rwa [show i+1+j=i+(j+1) by omega] at this
theorem floC_op[Dn]{P:Program}{X:Cx}(hX:CxOk P X){all:List Oper}{n i:Nat}{G:St}{o:Oper}(hi:all[i]?=some o)(hl:loadB o=true)
   (h:xq1 X (G.mask (known all n i)) o fun s=>s=(match o.dst with
     | some d=>G.tm.getD d .any
     | none => .any)):OpOk P X.gl all n i o G:=by
 intro w0 M R0 A a w hB I K Q hK
 unfold wpOp
 rw[List.getElem?_toArray,hi]
 simp only
 have hg:o.guard=none:=by
   unfold loadB at hl
   split at hl
   · simpa using hl
   · cases hl
 rw[if_pos (by unfold Region.wanted;rw[hg])]
 refine .inl (xq1_run hX hB I h fun s' v w' hs' hsm hex hsv=>hK v w' hsm hex fun x sF hd hF => ?_)
 rw[hd] at hs'
 simp only at hs'
 have:sF=G.tm.getD x .any:=by rw[List.getD_eq_getElem?_getD,hF];rfl
 rw[this,← hs']
 exact hsv
def mix2B(all:List Oper)(n:Nat):Bool :=
 decide (n<all.length)&&(match all[n]? with | some o=>storeB o | none=>false)&&backB all (n+1)&&oneB all n &&
   ((List.range n).all fun i=>waits all n i||(match all[i]? with | some o=>pureB o||loadB o | none=>false)) &&
   (decide (n+1=all.length)||(decide (n+1<all.length)&&Region.sinkB .any all.toArray (n+1)&&Region.chainB .any all.toArray (n+1)))&&Region.seqB .any all.toArray (all.length - (n+1)) (n+1) (listedN (n+1) all.length)
theorem any2_ok[Dn]{P:Program}{gl:List (Nat×Dat)}{all:List Oper}{n:Nat}{F0:St}{ob1:List Ob}(hop0:∀ (i:Nat) o,i<n→all[i]?=some o→OpOk P gl all n i o F0)(hop1:∀ (i:Nat) o,i<n→all[i]?=some o→waits all n i=false→(pureB o||loadB o)=true→OpOk P gl all n i o (F0.wo ob1))
   (hB:mix2B all n=true) {w0:World} {M:Ms} {R0:Nat→Prop} (hBs:BaseOk gl w0 M R0) {Q:Exit→Act→World→Prop}
   (hst:∀ (A:Asg) (a:Act) (w:World) (S:Nat→Bool),(∀ s,known all n n s=true→S s=true)→Inv w0 M R0 A (F0.mask S) a w→∀ (K:Act→World→Prop) (Q:Exit→Act→World→Prop),(∀ A' w',Inv w0 M R0 A' ((F0.wo ob1).mask S) a w'→K a w')→wpOp P all.toArray Q n K a w)
   (hend:∀ A a w,Inv w0 M R0 A (F0.wo ob1) a w→wpList P all.toArray Q (all.drop (n+1)) a w) :
   ∀ (f:Nat) (listed:Array Bool) (A:Asg) (a:Act) (w:World),HeadInv .any all.toArray (n+1) listed→(left (n+1) listed).length=f →
     Inv w0 M R0 A ((match listed.getD n false with | true=>F0.wo ob1 | false=>F0).mask (settled all n listed)) a w→wpAny P .any all.toArray Q (f+(all.length - (n+1))) listed a w:=by
 simp only[mix2B,Bool.and_eq_true,decide_eq_true_eq,Bool.or_eq_true] at hB
 obtain⟨⟨⟨⟨⟨⟨hn,hsto⟩,hback⟩,hone⟩,hpure⟩,htail⟩,hseq⟩:=hB
 intro f
 induction f with
 | zero =>
   intro listed A a w inv hf I
   have hall:∀ i,i<n+1→listed.getD i false=true:=by
     intro i hi
     cases h:listed.getD i false with
     | true=>rfl
     | false =>
       have:i∈left (n+1) listed:=by unfold left;rw[List.mem_filter];exact⟨List.mem_range.2 hi,by simp[h]⟩
       rw[List.eq_nil_of_length_eq_zero hf] at this
       cases this
   have hsz:listed.size=all.length:=by simpa using inv.size
   have hl:listed=listedN (n+1) all.length:=by
     apply Array.ext
     · rw[hsz];simp[listedN];omega
     · intro i h1 h2
       by_cases hi:i<n+1
       · have:=hall i hi
         simp only[Array.getD,h1,dif_pos] at this
         simp only[listedN,List.getElem_toArray]
         rw[List.getElem_append_left (by simpa using hi)]
         simpa using this
       · have:=inv.tail i (by omega) (by simpa using (hsz▸h1))
         simp only[Array.getD,h1,dif_pos] at this
         simp only[listedN,List.getElem_toArray]
         rw[List.getElem_append_right (by simpa using hi)]
         simpa using this
   rw[hall n (by omega)] at I
   have IF:Inv w0 M R0 A (F0.wo ob1) a w:=by
     refine I.weaken rfl rfl mask_len.symm fun j s hs => .inr ⟨s,mask_mk (st:=F0.wo ob1) ?_ hs,SvEq.refl s⟩
     rw[settled_spec]
     intro k o hk _ _
     exact hall k (by omega)
   rw[Nat.zero_add,hl]
   have:=wpAny_of_seq (P:=P) (md := .any) (ops:=all.toArray) (Q':=Q) (all.drop (n+1)) (n+1) (listedN (n+1) all.length) a w (fun j=>by simp[List.getElem?_drop]) (by simpa using hseq) (hend A a w IF)
   simpa using this
 | succ f ih =>
   intro listed A a w inv hf I
   have hsz:listed.size=all.length:=by simpa using inv.size
   have hex:∃ i,i<n+1∧listed.getD i false=false:=by
     cases hq:left (n+1) listed with
     | nil=>rw[hq] at hf;simp at hf
     | cons i r =>
       have:i∈left (n+1) listed:=by rw[hq];exact List.mem_cons_self ..
       unfold left at this
       rw[List.mem_filter] at this
       exact⟨i,List.mem_range.1 this.1,by simpa using this.2⟩
   have hleast:∃ i,i<n+1∧listed.getD i false=false∧∀ j,j<i→listed.getD j false=true:=by
     obtain⟨i,hi,hu⟩:=hex
     induction i using Nat.strongRecOn with
     | _ i ihi =>
       by_cases hc:∃ j,j<i∧listed.getD j false=false
       · obtain⟨j,hj,hju⟩:=hc
         exact ihi j hj (by omega) hju
       · refine⟨i,hi,hu,fun j hj => ?_⟩
         cases hq:listed.getD j false with
         | true=>rfl
         | false=>exact absurd ⟨j,hj,hq⟩ hc
   obtain⟨i0,hi0,hu0,hb0⟩:=hleast
   have hi0l:i0<all.length:=by omega
   have hr0:i0∈Region.ready .any all.toArray listed:=by
     rw[mem_ready]
     refine⟨getD_in (by omega) hu0,all[i0],by simp[hi0l],fun e he hb=>hb0 _ (backB_spec hback hi0 (List.getElem?_eq_getElem hi0l) e he hb)⟩
   have hlt:∀ i,i∈Region.ready .any all.toArray listed→i<n+1:=by
     intro i hi
     rcases Nat.lt_or_ge i (n+1) with h | h
     · exact h
     · rcases htail with ht | ⟨⟨ht,hs⟩,hc⟩
       · obtain⟨_,o,ho,_⟩:=mem_ready.1 hi
         have:=(Array.getElem?_eq_some_iff.1 ho).1
         simp at this;omega
       · exact absurd hi (tail_waits hs hc (by simpa using ht) inv _ i0 rfl hi0 (getD_in (by omega) hu0) i h)
   rw[show f+1+(all.length - (n+1))=(f+(all.length - (n+1)))+1 by omega]
   refine And.intro (fun h0=>absurd (h0▸hr0) (by simp)) (fun i hi => ?_)
   have hin1:=hlt i hi
   obtain⟨hun,oi,hoi,hedge⟩:=mem_ready.1 hi
   have hoi':all[i]?=some oi:=by simpa using hoi
   have hil:i<listed.size:=by omega
   have hunf:listed.getD i false=false:=by
     simp only[Array.getD,hil,dif_pos] at hun ⊢
     exact hun
   have hknownS:∀ s,known all n i s=true→settled all n listed s=true:=by
     intro s hkn
     rw[settled_spec]
     intro k o hk ho hd
     obtain⟨_,hw⟩:=known_spec hkn hk ho hd
     obtain⟨o',ho',e,he,hb,hon⟩:=waits_spec hw
     rw[hoi'] at ho';injection ho' with ho';subst ho'
     rw[← hon];exact hedge e he hb
   by_cases hie:i=n
   · subst hie
     rw[hunf] at I
     refine hst A a w _ hknownS I _ _ fun A' w' I' => ?_
     refine ih _ A' _ _ (inv.set hi hin1) (by have:=left_set hin1 hil hunf;omega) ?_
     have hs1:(listed.setIfInBounds i true).getD i false=true:=by
       simp[Array.getD,hil]
     rw[hs1]
     have hset:settled all i (listed.setIfInBounds i true)=settled all i listed:=by
       funext s
       rw[Bool.eq_iff_iff,settled_spec,settled_spec]
       constructor
       · intro h k o hk ho hd
         have:=h k o hk ho hd
         rwa [getD_set_ne false (by omega)] at this
       · intro h k o hk ho hd
         rw[getD_set_ne false (by omega)]
         exact h k o hk ho hd
     rw[hset];exact I'
   · have hin:i<n:=by omega
     have hGn:(listed.setIfInBounds i true).getD n false=listed.getD n false:=getD_set_ne false hie
     obtain⟨G,hG⟩:∃ G,(match listed.getD n false with | true=>F0.wo ob1 | false=>F0)=G:=⟨_,rfl⟩
     have hopG:OpOk P gl all n i oi G:=by
       cases hq:listed.getD n false with
       | false=>rw[hq] at hG;subst hG;exact hop0 i oi hin hoi'
       | true =>
         rw[hq] at hG;subst hG
         have hnw:waits all n i=false:=by
           cases hw:waits all n i with
           | false=>rfl
           | true =>
             obtain⟨on,hon,e,he,hb,hei⟩:=waits_spec hw
             have:=inv.closed n on (by simpa using hon) hq e he hb
             rw[hei,hunf] at this;cases this
         have hp:=List.all_eq_true.1 hpure i (List.mem_range.2 hin)
         rw[hoi',hnw] at hp
         exact hop1 i oi hin hoi' hnw (by simpa using hp)
     rw[hG] at I
     refine hopG w0 M R0 A a w hBs ?_ _ _ fun v w' hsm hex' hsv => ?_
     · refine I.weaken rfl rfl (by rw[mask_len,mask_len]) fun j s hs => ?_
       rcases mask_get hs with rfl | ⟨hkn,hs'⟩
       · exact .inl rfl
       · exact .inr ⟨s,mask_mk (hknownS j hkn) hs',SvEq.refl s⟩
     · refine ih _ A _ _ (inv.set hi hin1) (by have:=left_set hin1 hil hunf;omega) ?_
       rw[hGn,hG]
       have I1:=I.ext hsm hex'
       have hset:∀ j,settled all n (listed.setIfInBounds i true) j=true→oi.dst≠some j→settled all n listed j=true:=by
         intro j hj hne
         rw[settled_spec] at hj ⊢
         intro k o hk ho hd
         have:=hj k o hk ho hd
         by_cases hik:i=k
         · subst hik
           rw[hoi'] at ho;injection ho with ho;subst ho
           exact absurd hd hne
         · rw[getD_set_ne false hik] at this;exact this
       cases hd:oi.dst with
       | none =>
         have hp:a.put none v=a:=rfl
         rw[hp]
         refine I1.weaken rfl rfl (by rw[mask_len,mask_len]) fun j s hs => ?_
         rcases mask_get hs with rfl | ⟨hkn,hs'⟩
         · exact .inl rfl
         · exact .inr ⟨s,mask_mk (hset j hkn (by rw[hd];simp)) hs',SvEq.refl s⟩
       | some x =>
         by_cases hx:x<G.tm.length
         · have I2:=I1.put (d:=some x) (s:=G.tm[x]) (v:=v) (hsv x _ hd (List.getElem?_eq_getElem hx))
           refine I2.weaken (by rw[St.put_ob];rfl) (by rw[St.put_gs];rfl) (by rw[St.put_len,mask_len,mask_len]) fun j s hs => ?_
           rcases mask_get hs with rfl | ⟨hkn,hs'⟩
           · exact .inl rfl
           · by_cases hxj:x=j
             · subst hxj
               rw[List.getElem?_eq_getElem hx] at hs';injection hs' with hs'
               refine .inr ⟨s,?_,SvEq.refl s⟩
               simp only[St.put]
               rw[List.getElem?_set_self (by rw[mask_len];exact hx),hs']
             · refine .inr ⟨s,?_,SvEq.refl s⟩
               simp only[St.put]
               rw[List.getElem?_set_ne hxj]
               exact mask_mk (hset j hkn (by rw[hd];simpa using hxj)) hs'
         · have I2:=I1.put (d:=some x) (s := .any) (v:=v) trivial
           refine I2.weaken (by rw[St.put_ob];rfl) (by rw[St.put_gs];rfl) (by rw[St.put_len,mask_len,mask_len]) fun j s hs => ?_
           rcases mask_get hs with rfl | ⟨hkn,hs'⟩
           · exact .inl rfl
           · have hjl:=(List.getElem?_eq_some_iff.1 hs').1
             have hxj:x≠j:=fun e=>hx (e▸hjl)
             refine .inr ⟨s,?_,SvEq.refl s⟩
             simp only[St.put]
             rw[List.getElem?_set_ne hxj]
             exact mask_mk (hset j hkn (by rw[hd];simpa using hxj)) hs'
theorem ev_mask[Dn]{E:Env}{st:St}{S S':Nat→Bool}(hS:∀ s,S s=true→S' s=true)(x:Operand):(st.mask S).ev E x = .any∨(st.mask S).ev E x=(st.mask S').ev E x:=by
 cases x with
 | tmp t =>
   simp only[St.ev,St.mask,List.getD_eq_getElem?_getD,maskL_get]
   cases hq:st.tm[t]? with
   | none=>exact .inl rfl
   | some s =>
     simp only[Option.map_some,Option.getD_some,Nat.zero_add]
     cases hs:S t with
     | false=>exact .inl rfl
     | true=>rw[hS t hs];exact .inr rfl
 | _=>exact .inr rfl
theorem asT_any(t:Ty):asT t .any=none:=by simp[asT]
theorem sto_anyx[Dn]{st:St}{t:Ty}{k:St→Prop}{p:SV}:¬ sto st t .any k p:=by
 have h1:∀ (n:Nat) (q:List Nat),stH st n t q .any=none:=by intro n q;cases q<;>simp[stH,pcV]
 have h2:∀ (s:SV) (t0:Ty) (q:List Nat),stC st s t0 t q .any=none:=by
   intro s t0 q
   cases s<;>simp only[stC,asT_any,h1]<;>(try split)<;>rfl
 unfold sto
 simp only[asT_any,h2]
 intro h
 split at h
 · split at h
   · split at h
     · exact h
     · exact h
   · split at h
     · exact h
     · exact h
   · exact h
 · split at h
   · split at h
     · exact h
     · exact h
   · exact h
 · split at h
   · split at h
     · exact h
     · exact h
   · exact h
 · exact h
theorem mix2_ok[Dn]{P:Program}{X:Cx}(hX:CxOk P X){all:List Oper}{n:Nat}(hB:mix2B all n=true){w0:World}{M:Ms}{R0:Nat→Prop}(hBs:BaseOk X.gl w0 M R0){A:Asg}{st:St}{a:Act}{w:World}(I:Inv w0 M R0 A st a w){o:Oper}(hon:all[n]?=some o){k:St→Prop}
   (h:xqm X all n 0 (all.take n) st fun F=>stoV X.E (F.mask (known all n n)) o fun s1=>floC X all n (F.wo s1.ob) 0 (all.take n)∧k (F.wo s1.ob)) {Q:Exit→Act→World→Prop} (hend:∀ A' st' a' w',k st'→Inv w0 M R0 A' st' a' w'→wpList P all.toArray Q (all.drop (n+1)) a' w'):AnyW P all.toArray Q a w:=by
 have hB':=hB
 simp only[mix2B,Bool.and_eq_true,decide_eq_true_eq,Bool.or_eq_true] at hB'
 obtain⟨⟨⟨⟨⟨⟨hn,hsto⟩,hback⟩,hone⟩,hpure⟩,htail⟩,hseq⟩:=hB'
 have htl:(all.take n).length=n:=by simp;omega
 obtain⟨F,hk,hob,hgs,hlen,hun,hops,hpur⟩:=xqm_trace (P:=P) hX (oneB_spec hone) (l:=all.take n) (i:=0) (fun j hj=>by
   rw[htl] at hj;simp[hj]) (by omega) h
 -- the store
 rw[hon] at hsto
 simp only at hsto
 obtain⟨dst,op,type,pos,after,guard⟩:=o
 unfold storeB at hsto
 simp only at hsto
 split at hsto
 · rename_i T p x
   simp only[Bool.and_eq_true,Option.isNone_iff_eq_none] at hsto
   obtain⟨rfl,rfl⟩:=hsto
   unfold stoV at hk
   simp only at hk
   split at hk
   · rename_i t ht
     obtain⟨ob1,hk1,hre⟩:=sto_wo hk
     obtain⟨hflo,hk1⟩:=hk1
     have hflo:floC X all n (F.wo ob1) 0 (all.take n):=hflo
     have hk1:k (F.wo ob1):=hk1
     refine AnyW.mk ?_
     have I':=I.ext (Cls.drawn w).1 (Cls.drawn w).2
     have inv0:HeadInv .any all.toArray (n+1) (Array.replicate all.length false) :=
       ⟨by simp,fun j oj _ hl=>(by rw[getD_replicate_false] at hl;cases hl),fun t _ ht=>getD_in (by simpa using ht) (getD_replicate_false _ _)⟩
     have hleft:(left (n+1) (Array.replicate all.length false)).length=n+1:=by
       unfold left
       rw[List.filter_eq_self.2 (fun i _=>by rw[getD_replicate_false];rfl)]
       simp
     have:=any2_ok (P:=P) (F0:=F) (ob1:=ob1) (Q:=Q) (fun i o hi ho=>by
       have:=hops i o (by rw[List.getElem?_take,if_pos hi];exact ho)
       rwa [Nat.zero_add] at this) (fun i o hi ho hwt hp=>by
       rw[Bool.or_eq_true] at hp
       rcases hp with hp | hp
       · have:=hpur ob1 i o (by rw[List.getElem?_take,if_pos hi];exact ho) hp
         rwa [Nat.zero_add] at this
       · have:=floC_get hflo (j:=i) (by rw[List.getElem?_take,if_pos hi];exact ho) hp (by rw[Nat.zero_add];exact hwt)
         rw[Nat.zero_add] at this
         exact floC_op hX ho hp this) hB hBs (w0:=w0) (M:=M) (R0:=R0) (fun A a w S hS I K Q hK => ?_) (fun A' a' w' hI=>hend A' (F.wo ob1) a' w' hk1 hI) (n+1) (Array.replicate all.length false) A a { w with drawn:=w.drawn+1 } inv0 hleft ?_
     · rw[show n+1+(all.length - (n+1))=all.length by omega] at this
       simpa using this
     ·
       have hx:(F.mask (known all n n)).ev X.E x=(F.mask S).ev X.E x:=by
         rcases ev_mask (E:=X.E) (st:=F) hS x with h | h
         · rw[h] at hk;exact (sto_anyx hk).elim
         · exact h
       have hp:(F.mask (known all n n)).ev X.E p=(F.mask S).ev X.E p:=by
         rcases ev_mask (E:=X.E) (st:=F) hS p with h | h
         · rw[h] at hk;exact (sto_any hk).elim
         · exact h
       rw[hx,hp] at hre
       obtain⟨st',w',rfl,I2,hr⟩:=sto_ok I (hX.E.ty _ _ ht) (I.ev p) (I.ev x) (hre (F.mask S) (fun s=>s=(F.wo ob1).mask S) rfl rfl)
       unfold wpOp
       rw[List.getElem?_toArray,hon]
       simp only
       rw[if_pos (by rfl)]
       refine .inl ?_
       unfold Oper.wp
       rw[show (execOp a.eval ⟨none,Op.store T p x,type,pos,after,none⟩).run P w = .ok .skip w' by simp[execOp,hr]]
       exact hK A w' I2
     · rw[getD_replicate_false]
       refine I'.weaken (by show F.ob=st.ob;exact hob) (by show F.gs=st.gs;exact hgs) (by rw[mask_len,hlen]) fun j s hs => ?_
       rcases mask_get hs with rfl | ⟨hkn,hs'⟩
       · exact .inl rfl
       · rw[settled_spec] at hkn
         have hno:∀ (i:Nat) o,(all.take n)[i]?=some o→o.dst≠some j:=by
           intro i o ho hd
           rw[List.getElem?_take] at ho
           split at ho
           · rename_i hi
             have:=hkn i o hi ho hd
             rw[getD_replicate_false] at this
             cases this
           · cases ho
         have hjl:j<st.tm.length:=by rw[← hlen];exact (List.getElem?_eq_some_iff.1 hs').1
         obtain⟨s2,hs2,e2⟩:=hun j _ hno (List.getElem?_eq_getElem hjl)
         rw[hs'] at hs2;injection hs2 with hs2;subst hs2
         exact .inr ⟨_,List.getElem?_eq_getElem hjl,e2⟩
   · exact hk.elim
 · cases hsto
end Go.Vc
