import Derived.Test.YtfmiecbmikncpaaDoorTORowVXA
namespace Go.Vc
open Go.RowKit
def eqS(a b:SV):Prop :=
 match a,b with
 | .d t x,.d t' x'=>if h:t=t' then h▸x=x' else False
 | a,b=>a=b
def eqTm:List SV→List SV→Prop
 | [],[]=>True
 | .any::r,.any::s=>eqTm r s
 | a::r,b::s=>eqS a b∧eqTm r s
 | _,_=>False
theorem eqS_eq{a b:SV}(h:eqS a b):a=b:=by
 unfold eqS at h
 split at h
 · split at h
   · rename_i e;subst e;simp only at h;rw[h]
   · exact h.elim
 · exact h
theorem eqTm_eq[Dn]:∀ {l m:List SV},eqTm l m→l=m:=by
 intro l
 induction l with
 | nil =>
   intro m h
   cases m with
   | nil=>rfl
   | cons b s=>unfold eqTm at h;exact h.elim
 | cons a r ih =>
   intro m h
   cases m with
   | nil=>cases a<;>(unfold eqTm at h;exact h.elim)
   | cons b s =>
     unfold eqTm at h
     split at h
     · rename_i h1 h2;cases h1
     · rename_i h1 h2;injection h1 with e1 e2;injection h2 with e3 e4;subst e1;subst e2;subst e3;subst e4;rw[ih h]
     · rename_i h1 h2;injection h1 with e1 e2;injection h2 with e3 e4;subst e1;subst e2;subst e3;subst e4;rw[eqS_eq h.1,ih h.2]
     · exact h.elim
def allocO(o:Oper):Option (TypeId×Nat) :=
 match o.op,o.dst,o.guard with
 | .alloc T,some d,none=>some (T,d)
 | _,_,_=>none
def mix3B(all:List Oper)(n:Nat):Bool :=
 decide (n<all.length)&&(match all[n]? with | some o=>(allocO o).isSome | none=>false)&&backB all (n+1)&&oneB all (n+1) &&
   (decide (n+1=all.length)||(decide (n+1<all.length)&&Region.sinkB .any all.toArray (n+1)&&Region.chainB .any all.toArray (n+1)))&&Region.seqB .any all.toArray (all.length - (n+1)) (n+1) (listedN (n+1) all.length)
theorem Inv.weaken2[Dn]{w0:World}{M:Ms}{R0:Nat→Prop}{A:Asg}{st st':St}{a:Act}{w:World}(I:Inv w0 M R0 A st a w)(hob:st'.ob=st.ob)(hgs:st'.gs=st.gs)(hl:st'.tm.length=st.tm.length)
   (h:∀ (j:Nat) (s':SV),st'.tm[j]?=some s'→SvEq .any s'∨∃ s:SV,st.tm[j]?=some s∧SvEq s s'):Inv w0 M R0 A st' a w where
 fr:=I.fr
 defers:=I.defers
 mks:=by rw[hob];exact I.mks
 gh:=by rw[hob,hgs];exact I.gh
 num:=by rw[hob];exact I.num
 len:=by rw[hl];exact I.len
 tm:=by
   rw[hob]
   intro j s' hj
   rcases h j s' hj with he | ⟨s,hs,he⟩
   · exact (he _ _ _ _).1 trivial
   · exact (he _ _ _ _).1 (I.tm j s hs)
 ob:=by rw[hob];exact I.ob
 fp:=by rw[hob];exact I.fp
 dj:=by rw[hob];exact I.dj
theorem wp_val0{P:Program}{o:Oper}{a:Act}{K:Act→World→Prop}{Q:Exit→Act→World→Prop}{w w':World}{v:Value}(h:(execOp a.eval o).run P w = .ok (.value v) w')(hk:K (a.put o.dst v) w'):o.wp P a w K Q:=by
 unfold Oper.wp;rw[h];exact hk
theorem any3_ok[Dn]{P:Program}{gl:List (Nat×Dat)}{all:List Oper}{n d:Nat}{F0 F1:St}{pv:SV}(hop0:∀ (i:Nat) o,i<n→all[i]?=some o→OpOk P gl all n i o F0)(hop1:∀ (i:Nat) o,i<n→all[i]?=some o→OpOk P gl all n i o F1)
   (hd:∀ (i:Nat) o,i<n→all[i]?=some o→o.dst≠some d) (hany:∀ s,F1.tm[d]?=some s→SvEq .any s)
   (hB:mix3B all n=true) {w0:World} {M:Ms} {R0:Nat→Prop} (hBs:BaseOk gl w0 M R0) {Q:Exit→Act→World→Prop}
   (hst:∀ (A:Asg) (a:Act) (w:World) (S:Nat→Bool),S d=true→Inv w0 M R0 A (F0.mask S) a w→∀ (K:Act→World→Prop) (Q:Exit→Act→World→Prop),(∀ A' v w',Inv w0 M R0 A' ((F1.put (some d) pv).mask S) (a.put (some d) v) w'→K (a.put (some d) v) w')→wpOp P all.toArray Q n K a w)
   (hend:∀ A a w,Inv w0 M R0 A (F1.put (some d) pv) a w→wpList P all.toArray Q (all.drop (n+1)) a w) :
   ∀ (f:Nat) (listed:Array Bool) (A:Asg) (a:Act) (w:World),HeadInv .any all.toArray (n+1) listed→(left (n+1) listed).length=f →
     Inv w0 M R0 A ((match listed.getD n false with | true=>F1.put (some d) pv | false=>F0).mask (settled all n listed)) a w→wpAny P .any all.toArray Q (f+(all.length - (n+1))) listed a w:=by
 simp only[mix3B,Bool.and_eq_true,decide_eq_true_eq,Bool.or_eq_true] at hB
 obtain⟨⟨⟨⟨⟨hn,hsto⟩,hback⟩,hone⟩,htail⟩,hseq⟩:=hB
 intro f
 induction f with
 | zero =>
   intro listed A a w inv hf I
   have hall:∀ i,i<n+1→listed.getD i false=true:=by
     intro i hi
     cases h:listed.getD i false with
     | true=>rfl
     | false =>
       have:i∈left (n+1) listed:=by unfold left;rw[List.mem_filter];exact⟨List.mem_range.2 hi,by simp[h]⟩
       rw[List.eq_nil_of_length_eq_zero hf] at this
       cases this
   have hsz:listed.size=all.length:=by simpa using inv.size
   have hl:listed=listedN (n+1) all.length:=by
     apply Array.ext
     · rw[hsz];simp[listedN];omega
     · intro i h1 h2
       by_cases hi:i<n+1
       · have:=hall i hi
         simp only[Array.getD,h1,dif_pos] at this
         simp only[listedN,List.getElem_toArray]
         rw[List.getElem_append_left (by simpa using hi)]
         simpa using this
       · have:=inv.tail i (by omega) (by simpa using (hsz▸h1))
         simp only[Array.getD,h1,dif_pos] at this
         simp only[listedN,List.getElem_toArray]
         rw[List.getElem_append_right (by simpa using hi)]
         simpa using this
   rw[hall n (by omega)] at I
   have IF:Inv w0 M R0 A (F1.put (some d) pv) a w:=by
     refine I.weaken rfl rfl mask_len.symm fun j s hs => .inr ⟨s,mask_mk (st:=F1.put (some d) pv) ?_ hs,SvEq.refl s⟩
     rw[settled_spec]
     intro k o hk _ _
     exact hall k (by omega)
   rw[Nat.zero_add,hl]
   have:=wpAny_of_seq (P:=P) (md := .any) (ops:=all.toArray) (Q':=Q) (all.drop (n+1)) (n+1) (listedN (n+1) all.length) a w (fun j=>by simp[List.getElem?_drop]) (by simpa using hseq) (hend A a w IF)
   simpa using this
 | succ f ih =>
   intro listed A a w inv hf I
   have hsz:listed.size=all.length:=by simpa using inv.size
   have hex:∃ i,i<n+1∧listed.getD i false=false:=by
     cases hq:left (n+1) listed with
     | nil=>rw[hq] at hf;simp at hf
     | cons i r =>
       have:i∈left (n+1) listed:=by rw[hq];exact List.mem_cons_self ..
       unfold left at this
       rw[List.mem_filter] at this
       exact⟨i,List.mem_range.1 this.1,by simpa using this.2⟩
   have hleast:∃ i,i<n+1∧listed.getD i false=false∧∀ j,j<i→listed.getD j false=true:=by
     obtain⟨i,hi,hu⟩:=hex
     induction i using Nat.strongRecOn with
     | _ i ihi =>
       by_cases hc:∃ j,j<i∧listed.getD j false=false
       · obtain⟨j,hj,hju⟩:=hc
         exact ihi j hj (by omega) hju
       · refine⟨i,hi,hu,fun j hj => ?_⟩
         cases hq:listed.getD j false with
         | true=>rfl
         | false=>exact absurd ⟨j,hj,hq⟩ hc
   obtain⟨i0,hi0,hu0,hb0⟩:=hleast
   have hi0l:i0<all.length:=by omega
   have hr0:i0∈Region.ready .any all.toArray listed:=by
     rw[mem_ready]
     refine⟨getD_in (by omega) hu0,all[i0],by simp[hi0l],fun e he hb=>hb0 _ (backB_spec hback hi0 (List.getElem?_eq_getElem hi0l) e he hb)⟩
   have hlt:∀ i,i∈Region.ready .any all.toArray listed→i<n+1:=by
     intro i hi
     rcases Nat.lt_or_ge i (n+1) with h | h
     · exact h
     · rcases htail with ht | ⟨⟨ht,hs⟩,hc⟩
       · obtain⟨_,o,ho,_⟩:=mem_ready.1 hi
         have:=(Array.getElem?_eq_some_iff.1 ho).1
         simp at this;omega
       · exact absurd hi (tail_waits hs hc (by simpa using ht) inv _ i0 rfl hi0 (getD_in (by omega) hu0) i h)
   rw[show f+1+(all.length - (n+1))=(f+(all.length - (n+1)))+1 by omega]
   refine And.intro (fun h0=>absurd (h0▸hr0) (by simp)) (fun i hi => ?_)
   have hin1:=hlt i hi
   obtain⟨hun,oi,hoi,hedge⟩:=mem_ready.1 hi
   have hoi':all[i]?=some oi:=by simpa using hoi
   have hil:i<listed.size:=by omega
   have hunf:listed.getD i false=false:=by
     simp only[Array.getD,hil,dif_pos] at hun ⊢
     exact hun
   have hknownS:∀ s,known all n i s=true→settled all n listed s=true:=by
     intro s hkn
     rw[settled_spec]
     intro k o hk ho hd
     obtain⟨_,hw⟩:=known_spec hkn hk ho hd
     obtain⟨o',ho',e,he,hb,hon⟩:=waits_spec hw
     rw[hoi'] at ho';injection ho' with ho';subst ho'
     rw[← hon];exact hedge e he hb
   by_cases hie:i=n
   · subst hie
     rw[hunf] at I
     have hSd:settled all i listed d=true:=by
       rw[settled_spec]
       intro k o hk ho hdd
       exact absurd hdd (hd k o hk ho)
     refine hst A a w _ hSd I _ _ fun A' v w' I' => ?_
     refine ih _ A' _ _ (inv.set hi hin1) (by have:=left_set hin1 hil hunf;omega) ?_
     have hs1:(listed.setIfInBounds i true).getD i false=true:=by
       simp[Array.getD,hil]
     rw[hs1]
     have hset:settled all i (listed.setIfInBounds i true)=settled all i listed:=by
       funext s
       rw[Bool.eq_iff_iff,settled_spec,settled_spec]
       constructor
       · intro h k o hk ho hd
         have:=h k o hk ho hd
         rwa [getD_set_ne false (by omega)] at this
       · intro h k o hk ho hd
         rw[getD_set_ne false (by omega)]
         exact h k o hk ho hd
     rw[hset];exact I'
   · have hin:i<n:=by omega
     have hGn:(listed.setIfInBounds i true).getD n false=listed.getD n false:=getD_set_ne false hie
     obtain⟨G,hG⟩:∃ G,(match listed.getD n false with | true=>F1.put (some d) pv | false=>F0)=G:=⟨_,rfl⟩
     obtain⟨F,hF⟩:∃ F,(match listed.getD n false with | true=>F1 | false=>F0)=F:=⟨_,rfl⟩
     have hopF:OpOk P gl all n i oi F:=by
       cases hq:listed.getD n false with
       | false=>rw[hq] at hF;subst hF;exact hop0 i oi hin hoi'
       | true=>rw[hq] at hF;subst hF;exact hop1 i oi hin hoi'
     have hob:F.ob=G.ob∧F.gs=G.gs∧F.tm.length=G.tm.length∧(∀ (j:Nat) (s:SV),F.tm[j]?=some s→SvEq .any s∨G.tm[j]?=some s)∧∀ j:Nat,j≠d→F.tm[j]?=G.tm[j]?:=by
       cases hq:listed.getD n false with
       | false =>
         rw[hq] at hF hG;subst hF;subst hG
         exact⟨rfl,rfl,rfl,fun j s h => .inr h,fun _ _=>rfl⟩
       | true =>
         rw[hq] at hF hG;subst hF;subst hG
         refine⟨(St.put_ob ..).symm,(St.put_gs ..).symm,(St.put_len ..).symm,fun j s h => ?_,fun j h => ?_⟩
         · by_cases hjd:j=d
           · subst hjd;exact .inl (hany s h)
           · right
             simp only[St.put]
             rw[List.getElem?_set_ne (fun e=>hjd e.symm)];exact h
         · simp only[St.put]
           rw[List.getElem?_set_ne (fun e=>h e.symm)]
     obtain⟨hFob,hFgs,hFlen,hFtm,hFne⟩:=hob
     rw[hG] at I
     refine hopF w0 M R0 A a w hBs ?_ _ _ fun v w' hsm hex' hsv => ?_
     · refine I.weaken2 (by show F.ob=G.ob;exact hFob) (by show F.gs=G.gs;exact hFgs) (by rw[mask_len,mask_len,hFlen]) fun j s hs => ?_
       rcases mask_get hs with rfl | ⟨hkn,hs'⟩
       · exact .inl (SvEq.refl _)
       · rcases hFtm j s hs' with he | hs2
         · exact .inl he
         · exact .inr ⟨s,mask_mk (hknownS j hkn) hs2,SvEq.refl s⟩
     · refine ih _ A _ _ (inv.set hi hin1) (by have:=left_set hin1 hil hunf;omega) ?_
       rw[hGn,hG]
       have I1:=I.ext hsm hex'
       have hset:∀ j,settled all n (listed.setIfInBounds i true) j=true→oi.dst≠some j→settled all n listed j=true:=by
         intro j hj hne
         rw[settled_spec] at hj ⊢
         intro k o hk ho hd
         have:=hj k o hk ho hd
         by_cases hik:i=k
         · subst hik
           rw[hoi'] at ho;injection ho with ho;subst ho
           exact absurd hd hne
         · rw[getD_set_ne false hik] at this;exact this
       cases hdd:oi.dst with
       | none =>
         have hp:a.put none v=a:=rfl
         rw[hp]
         refine I1.weaken rfl rfl (by rw[mask_len,mask_len]) fun j s hs => ?_
         rcases mask_get hs with rfl | ⟨hkn,hs'⟩
         · exact .inl rfl
         · exact .inr ⟨s,mask_mk (hset j hkn (by rw[hdd];simp)) hs',SvEq.refl s⟩
       | some x =>
         by_cases hx:x<G.tm.length
         · have hxd:x≠d:=fun e=>hd i oi hin hoi' (by rw[hdd,e])
           have hsv':=hsv x G.tm[x] hdd (by rw[hFne x hxd];exact List.getElem?_eq_getElem hx)
           rw[hFob] at hsv'
           have I2:=I1.put (d:=some x) (s:=G.tm[x]) (v:=v) hsv'
           refine I2.weaken (by rw[St.put_ob];rfl) (by rw[St.put_gs];rfl) (by rw[St.put_len,mask_len,mask_len]) fun j s hs => ?_
           rcases mask_get hs with rfl | ⟨hkn,hs'⟩
           · exact .inl rfl
           · by_cases hxj:x=j
             · subst hxj
               rw[List.getElem?_eq_getElem hx] at hs';injection hs' with hs'
               refine .inr ⟨s,?_,SvEq.refl s⟩
               simp only[St.put]
               rw[List.getElem?_set_self (by rw[mask_len];exact hx),hs']
             · refine .inr ⟨s,?_,SvEq.refl s⟩
               simp only[St.put]
               rw[List.getElem?_set_ne hxj]
               exact mask_mk (hset j hkn (by rw[hdd];simpa using hxj)) hs'
         · have I2:=I1.put (d:=some x) (s := .any) (v:=v) trivial
           refine I2.weaken (by rw[St.put_ob];rfl) (by rw[St.put_gs];rfl) (by rw[St.put_len,mask_len,mask_len]) fun j s hs => ?_
           rcases mask_get hs with rfl | ⟨hkn,hs'⟩
           · exact .inl rfl
           · have hjl:=(List.getElem?_eq_some_iff.1 hs').1
             have hxj:x≠j:=fun e=>hx (e▸hjl)
             refine .inr ⟨s,?_,SvEq.refl s⟩
             simp only[St.put]
             rw[List.getElem?_set_ne hxj]
             exact mask_mk (hset j hkn (by rw[hdd];simpa using hxj)) hs'
theorem mix3_ok[Dn]{P:Program}{X:Cx}(hX:CxOk P X){all:List Oper}{n:Nat}(hB:mix3B all n=true){w0:World}{M:Ms}{R0:Nat→Prop}(hBs:BaseOk X.gl w0 M R0){A:Asg}{st:St}{a:Act}{w:World}(I:Inv w0 M R0 A st a w){o:Oper}(hon:all[n]?=some o){T:TypeId}{d:Nat}(ho:allocO o=some (T,d)){t:Ty}(ht:X.E.ty T=some t){k:St→Prop}
   (h:xqm X all n 0 (all.take n) (st.put (some d) .any) fun F0=>xqm X all n 0 (all.take n) ((st.push (.var T t t.z)).put (some d) .any) fun F1=>eqTm F0.tm F1.tm∧k (F1.put (some d) (.pv t st.ob.length [])))
   {Q:Exit→Act→World→Prop} (hend:∀ A' st' a' w',k st'→Inv w0 M R0 A' st' a' w'→wpList P all.toArray Q (all.drop (n+1)) a' w'):AnyW P all.toArray Q a w:=by
 have hB':=hB
 simp only[mix3B,Bool.and_eq_true,decide_eq_true_eq,Bool.or_eq_true] at hB'
 obtain⟨⟨⟨⟨⟨hn,hsto⟩,hback⟩,hone⟩,htail⟩,hseq⟩:=hB'
 have htl:(all.take n).length=n:=by simp;omega
 have hone':DstOne all (n+1):=oneB_spec hone
 have hone0:DstOne all n:=fun i j oi oj e hi hj=>hone' i j oi oj e (by omega) (by omega)
 obtain⟨dst,op,type,pos,after,guard⟩:=o
 unfold allocO at ho
 split at ho
 rotate_left
 · cases ho
 rename_i T' d' hop hdst hg
 simp only at hop hdst hg
 subst hop;subst hdst;subst hg
 injection ho with ho;injection ho with ho1 ho2;subst ho1;subst ho2
 have hd:∀ (i:Nat) o,i<n→all[i]?=some o→o.dst≠some d':=by
   intro i o hi hoi hdd
   have:=hone' i n o _ d' (by omega) (by omega) hoi hon hdd rfl
   omega
 obtain⟨F0,h1,hob0,hgs0,hlen0,hun0,hops0,-⟩:=xqm_trace (P:=P) hX hone0 (l:=all.take n) (i:=0) (fun j hj=>by
   rw[htl] at hj;simp[hj]) (by omega) h
 obtain⟨F1,⟨heq,hk⟩,hob1,hgs1,hlen1,hun1,hops1,-⟩:=xqm_trace (P:=P) hX hone0 (l:=all.take n) (i:=0) (fun j hj=>by
   rw[htl] at hj;simp[hj]) (by omega) h1
 have htm:F0.tm=F1.tm:=eqTm_eq heq
 rw[St.put_ob] at hob0 hob1
 rw[St.put_gs] at hgs0 hgs1
 rw[St.put_len] at hlen0 hlen1
 have hnod:∀ (j:Nat) o,(all.take n)[j]?=some o→o.dst≠some d':=by
   intro j o hj
   rw[List.getElem?_take] at hj
   split at hj
   · rename_i hjn;exact hd j o hjn hj
   · cases hj
 have hany:∀ s,F1.tm[d']?=some s→SvEq .any s:=by
   intro s hs
   have hdl:d'<st.tm.length:=by
     have:=(List.getElem?_eq_some_iff.1 hs).1
     rw[hlen1] at this;exact this
   obtain⟨s2,hs2,e2⟩:=hun1 d' .any hnod (by simp only[St.put];rw[List.getElem?_set_self (by exact hdl)])
   rw[hs] at hs2;injection hs2 with hs2;subst hs2
   exact e2
 refine AnyW.mk ?_
 have I':=I.ext (Cls.drawn w).1 (Cls.drawn w).2
 have inv0:HeadInv .any all.toArray (n+1) (Array.replicate all.length false) :=
   ⟨by simp,fun j oj _ hl=>(by rw[getD_replicate_false] at hl;cases hl),fun t _ ht=>getD_in (by simpa using ht) (getD_replicate_false _ _)⟩
 have hleft:(left (n+1) (Array.replicate all.length false)).length=n+1:=by
   unfold left
   rw[List.filter_eq_self.2 (fun i _=>by rw[getD_replicate_false];rfl)]
   simp
 have:=any3_ok (P:=P) (F0:=F0) (F1:=F1) (pv := .pv t st.ob.length []) (Q:=Q) (fun i o hi ho=>by
   have:=hops0 i o (by rw[List.getElem?_take,if_pos hi];exact ho)
   rwa [Nat.zero_add] at this) (fun i o hi ho=>by
   have:=hops1 i o (by rw[List.getElem?_take,if_pos hi];exact ho)
   rwa [Nat.zero_add] at this) hd hany hB hBs (w0:=w0) (M:=M) (R0:=R0) (fun A a w S hS I K Q hK => ?_) (fun A' a' w' hI=>hend A' _ a' w' hk hI) (n+1) (Array.replicate all.length false) A a { w with drawn:=w.drawn+1 } inv0 hleft ?_
 · rw[show n+1+(all.length - (n+1))=all.length by omega] at this
   simpa using this
 ·
   obtain⟨i,hi,his,hiz,hib⟩:=(hX.E.ty _ _ ht).info
   have hzl:t.zc.length=t.size:=ok_len (w:=w) (ro:=fun _=>True) (ok_zero t)
   have hzc:(t.mk t.zc).cells.toList=t.zc:=mk_cells (t:=t) (cs:=t.zc) hzl (ok_one (w:=w) (ro:=fun _=>True) (ok_zero t))
   obtain⟨A',I2,hn',hη⟩:=I.newVar T' (t:=t) (x:=t.z) (cs:=(t.mk t.zc).cells) (by rw[hzc];exact ok_zero t)
   unfold wpOp
   rw[List.getElem?_toArray,hon]
   simp only
   rw[if_pos (by rfl)]
   refine .inl ?_
   refine wp_val0 (v := .pointer (some ⟨w.heap.size,0,none⟩)) (w':=w.alloc (.cells (t.mk t.zc).cells T')) (by simp[execOp,Instr.alloc,zeroValue,typeInfo,hi,hiz,newVar,newRow]) (hK A' _ _ ?_)
   have hfob:(F0.mask S).ob=st.ob:=hob0
   have I3:=I2.put (d:=some d') (s := .pv t st.ob.length []) (v := .pointer (some ⟨w.heap.size,0,none⟩)) (by
     rw[hfob] at hη hn'
     exact⟨by omega,w.heap.size,0,t,hη,off_nil t,vq_nil t,rfl⟩)
   refine I3.weaken ?_ ?_ ?_ fun j s hs => ?_
   · show (F1.put _ _).ob=_
     rw[St.put_ob,St.put_ob,hob1]
     show st.ob++[.var T' t t.z]=(F0.mask S).ob++_
     rw[hfob]
   · show (F1.put _ _).gs=_
     rw[St.put_gs,St.put_gs,hgs1]
     show st.gs=F0.gs
     rw[hgs0]
   · rw[mask_len,St.put_len,St.put_len]
     show F1.tm.length=(F0.mask S).tm.length
     rw[mask_len,htm]
   · rcases mask_get hs with rfl | ⟨hkn,hs'⟩
     · exact .inl rfl
     · refine .inr ⟨s,?_,SvEq.refl s⟩
       simp only[St.put] at hs' ⊢
       by_cases hjd:d'=j
       · subst hjd
         have hl:=(List.getElem?_eq_some_iff.1 hs').1
         rw[List.length_set] at hl
         rw[List.getElem?_set_self hl] at hs'
         rw[List.getElem?_set_self (by show d'<(F0.mask S).tm.length;rw[mask_len,htm];exact hl)]
         exact hs'
       · rw[List.getElem?_set_ne hjd] at hs' ⊢
         show (F0.mask S).tm[j]?=some s
         exact mask_mk hkn (by rw[htm];exact hs')
 · rw[getD_replicate_false]
   have I0:Inv w0 M R0 A (st.put (some d') .any) a { w with drawn:=w.drawn+1 }:=by
     refine I'.weaken (St.put_ob ..) (St.put_gs ..) (St.put_len ..) fun j s hs => ?_
     simp only[St.put] at hs
     by_cases hjd:d'=j
     · subst hjd
       have hl:=(List.getElem?_eq_some_iff.1 hs).1
       rw[List.length_set] at hl
       rw[List.getElem?_set_self hl] at hs
       injection hs with hs
       exact .inl hs.symm
     · rw[List.getElem?_set_ne hjd] at hs
       exact .inr ⟨s,hs,SvEq.refl s⟩
   refine I0.weaken (by show F0.ob=_;rw[St.put_ob];exact hob0) (by show F0.gs=_;rw[St.put_gs];exact hgs0) (by rw[mask_len,hlen0,St.put_len]) fun j s hs => ?_
   rcases mask_get hs with rfl | ⟨hkn,hs'⟩
   · exact .inl rfl
   · rw[settled_spec] at hkn
     have hno:∀ (i:Nat) o,(all.take n)[i]?=some o→o.dst≠some j:=by
       intro i o ho hd
       rw[List.getElem?_take] at ho
       split at ho
       · rename_i hi
         have:=hkn i o hi ho hd
         rw[getD_replicate_false] at this
         cases this
       · cases ho
     have hjl:j<(st.put (some d') .any).tm.length:=by rw[St.put_len,← hlen0];exact (List.getElem?_eq_some_iff.1 hs').1
     obtain⟨s2,hs2,e2⟩:=hun0 j _ hno (List.getElem?_eq_getElem hjl)
     rw[hs'] at hs2;injection hs2 with hs2;subst hs2
     exact .inr ⟨_,List.getElem?_eq_getElem hjl,e2⟩
end Go.Vc
