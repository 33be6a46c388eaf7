import Derived.Test.YtfmiecbmikncpaaDoorTORowVTC
namespace Go.Vc
open Go.RowKit
theorem Inv.newSt[Dn]{w0:World}{M:Ms}{R0:Nat→Prop}{A:Asg}{st:St}{a:Act}{w:World}(I:Inv w0 M R0 A st a w)(e:TypeId){l:List SV}{cs:Array Value}
   (hx:Pcs w (Ro R0 w0.heap.size A st.ob w) A l cs.toList) :
   ∃ A',Inv w0 M R0 A' { st with ob:=st.ob++[.st e l] } a (w.alloc (.cells cs e))∧A'.n=st.ob.length+1∧A'.η st.ob.length = .pointer (some ⟨w.heap.size,0,none⟩):=by
 have hn:A.n=st.ob.length:=I.num
 refine⟨A.push (.pointer (some ⟨w.heap.size,0,none⟩)) (fun b=>b=w.heap.size),I.add none (fun _ => .pointer (some ⟨w.heap.size,0,none⟩)) _ _ (Same.alloc w _) (fun b hb _=>Ext.alloc w _ b hb) (fun b hb => .inl ⟨by omega,by simp;omega⟩) (fun hro => ?_),by simp[Asg.pushT,hn],by rw[← hn];exact Asg.push_η ..⟩
 exact⟨w.heap.size,cs,Asg.push_η ..,(Asg.push_F ..).2 rfl,heap_alloc_new w _,hx.keep (fun b hb=>⟨(hro b hb).1,Kb.of_eq (hro b hb).2⟩) (Asg.push_le ..)⟩
def pzG(E:Env)(t:Ty)(d:Nat):Bool:=E.pz.contains d&&isPr t
def hrdG(X:Cx)(stm st:St)(o:Oper)(k:St→Prop):Prop :=
 match o.op with
 | .alloc T=>match X.E.ty T,o.dst with
   | some t,some d=>match pzG X.E t d with
     | true=>k ((st.push (.st T (zP t))).put (some d) (.ps st.ob.length))
     | false=>hrd X stm st o k
   | _,_=>False
 | .makeSlice T l c=>match asI (stm.ev X.E l),asI (stm.ev X.E c) with
   | some n,some m=>mkS X.E stm T n m o.dst (fun s1=>k ((st.wo s1.ob).put o.dst (.os st.ob.length)))
   | _,_=>False
 | _=>hrd X stm st o k
theorem mkS_wo[Dn]{E:Env}{st1:St}{T:TypeId}{n m:Int}{dst:Option Nat}{k:St→Prop}(h:mkS E st1 T n m dst k) :
   ∃ ob',k ((st1.wo ob').put dst (.os st1.ob.length))∧∀ (st2:St) (k':St→Prop),st2.ob=st1.ob→k' ((st2.wo ob').put dst (.os st2.ob.length))→mkS E st2 T n m dst k':=by
 obtain⟨tm1,ob,gs1⟩:=st1
 unfold mkS at h
 split at h
 · rename_i t e h1 h2
   split at h
   · rename_i hsz
     obtain⟨a,b,c,hk⟩:=h
     refine⟨_,hk,fun⟨tm2,ob2,gs2⟩ k' e2 hk' => ?_⟩
     simp only at e2;subst e2
     simp only[mkS,h1,h2,if_pos hsz]
     exact⟨a,b,c,hk'⟩
   · exact h.elim
 · exact h.elim
theorem Inv.put_mask[Dn]{w0:World}{M:Ms}{R0:Nat→Prop}{A:Asg}{st:St}{S S':Nat→Bool}{a:Act}{w:World}{dst:Option Nat}{s:SV}{v:Value}(hS':∀ s,S' s=true→S s=true∨dst=some s)
   (I:Inv w0 M R0 A ((st.mask S).put dst s) (a.put dst v) w):Inv w0 M R0 A ((st.put dst s).mask S') (a.put dst v) w:=by
 refine I.weaken ?_ ?_ ?_ fun j s hs => ?_
 · show (St.put _ _ _).ob=(St.put _ _ _).ob
   rw[St.put_ob,St.put_ob];rfl
 · show (St.put _ _ _).gs=(St.put _ _ _).gs
   rw[St.put_gs,St.put_gs];rfl
 · rw[mask_len,St.put_len,St.put_len,mask_len]
 · rcases mask_get hs with rfl | ⟨hkn,hs'⟩
   · exact .inl rfl
   · refine .inr ⟨s,?_,SvEq.refl s⟩
     cases dst with
     | none =>
       simp only[St.put] at hs' ⊢
       rcases hS' j hkn with h | h
       · exact mask_mk h hs'
       · cases h
     | some d =>
       simp only[St.put] at hs' ⊢
       by_cases hjd:d=j
       · subst hjd
         have hl:=(List.getElem?_eq_some_iff.1 hs').1
         rw[List.length_set] at hl
         rw[List.getElem?_set_self hl] at hs'
         rw[List.getElem?_set_self (by rw[mask_len];exact hl)]
         exact hs'
       · rw[List.getElem?_set_ne hjd] at hs' ⊢
         rcases hS' j hkn with h | h
         · exact mask_mk h hs'
         · injection h with h;exact absurd h hjd
theorem hrdG_run[Dn]{P:Program}{X:Cx}(hX:CxOk P X){w0:World}{M:Ms}{R0:Nat→Prop}(hB:BaseOk X.gl w0 M R0){A:Asg}{st:St}{S0 S S':Nat→Bool}{a:Act}{w:World}{o:Oper}(hS:∀ s,S0 s=true→S s=true)(hS':∀ s,S' s=true→S s=true∨o.dst=some s)
   (I:Inv w0 M R0 A (st.mask S) a w) {k:St→Prop} (h:hrdG X (st.mask S0) st o k) {K:Act→World→Prop} {Q:Exit→Act→World→Prop} (hK:∀ A' F v w',k F→Inv w0 M R0 A' (F.mask S') (a.put o.dst v) w'→K (a.put o.dst v) w'):o.wp P a w K Q:=by
 have I0:Inv w0 M R0 A (st.mask S0) a w:=by
   refine I.weaken rfl rfl (by rw[mask_len,mask_len]) fun j s hs => ?_
   rcases mask_get hs with rfl | ⟨hkn,hs'⟩
   · exact .inl rfl
   · exact .inr ⟨s,mask_mk (hS j hkn) hs',SvEq.refl s⟩
 have h0:=h
 unfold hrdG at h
 split at h
 · rename_i T hop
   split at h
   · rename_i t d ht hd
     split at h
     · rename_i hpz
       obtain⟨dst,op,type,pos,after,guard⟩:=o
       simp only at hop hd;subst hop;subst hd
       obtain⟨i,hi,his,hiz,hib⟩:=(hX.E.ty _ _ ht).info
       have hzl:t.zc.length=t.size:=ok_len (w:=w) (ro:=fun _=>True) (ok_zero t)
       have hzc:(t.mk t.zc).cells.toList=t.zc:=mk_cells (t:=t) (cs:=t.zc) hzl (ok_one (w:=w) (ro:=fun _=>True) (ok_zero t))
       have hpr:isPr t=true:=by
         unfold pzG at hpz
         simp only[Bool.and_eq_true] at hpz;exact hpz.2
       have hp:Pcs w (Ro R0 w0.heap.size A (st.mask S).ob w) A (zP t) t.zc:=by
         cases t with
         | pr a b =>
           obtain⟨_,fs,fld,hu,h0,h1,h2,h3,h4⟩:=hX.E.ty _ _ ht
           obtain⟨css,hzc,hpl⟩:=zP_ok (w:=w) (ro:=Ro R0 w0.heap.size A (st.mask S).ob w) (A:=A) (t := .pr a b) (f:=0) (o:=0) ⟨fld,h0,h1,h2,h3,by simpa using h4⟩
           exact⟨css,hzc,hpl.1,hpl.2.1⟩
         | _=>simp[isPr] at hpr
       obtain⟨A',I',hn,hη⟩:=I.newSt T (cs:=(t.mk t.zc).cells) (by rw[hzc];exact hp)
       have hn:A'.n=st.ob.length+1:=hn
       have hη:A'.η st.ob.length = .pointer (some ⟨w.heap.size,0,none⟩):=hη
       refine wp_val1 (v := .pointer (some ⟨w.heap.size,0,none⟩)) (w':=w.alloc (.cells (t.mk t.zc).cells T)) (by simp[execOp,Instr.alloc,zeroValue,typeInfo,hi,hiz,newVar,newRow]) (hK A' _ _ _ h ?_)
       exact Inv.put_mask (st:=st.push _) (S:=S) hS' (I'.put (d:=some d) (s := .ps st.ob.length) ⟨by omega,hη.symm,w.heap.size,hη⟩)
     · exact hrd_run hX hB hS hS' I h hK
   · exact h.elim
 · rename_i T l c hop
   obtain⟨dst,op,type,pos,after,guard⟩:=o
   simp only at hop;subst hop
   simp only at h
   split at h
   · rename_i n m hn hm
     obtain⟨kl,e1,_⟩:=asI_ok hn (I0.ev l)
     obtain⟨kc,e2,_⟩:=asI_ok hm (I0.ev c)
     obtain⟨ob1,hk1,hre⟩:=mkS_wo h
     rw[St.put_ob] at hk1
     have hk1:k ((st.wo ob1).put dst (.os st.ob.length)):=hk1
     obtain⟨A',st',v,w',rfl,I2,hr⟩:=mkS_ok (P:=P) (kl:=kl) (kc:=kc) hX.E I (hre (st.mask S) (fun s=>s=((st.mask S).wo ob1).put dst (.os (st.mask S).ob.length)) rfl rfl)
     refine wp_val1 (v:=v) (w':=w') (by simp[execOp,e1,e2,hr]) (hK A' _ v w' hk1 ?_)
     exact Inv.put_mask (st:=st.wo ob1) (S:=S) hS' I2
   · exact h.elim
 · exact hrd_run hX hB hS hS' I h hK
def xqi(X:Cx)(all:List Oper)(n:Nat):List Nat→St→(St→Prop)→Prop
 | [],st,k=>k st
 | i::l,st,k=>match all[i]? with
   | some o=>withM all (st.mask (known all n i)) st o
       (fun st=>xq1 X (st.mask (known all n i)) o fun s=>xqi X all n l (st.put o.dst s) k)
       (fun st=>xqi X all n l (st.put o.dst .und) k)
   | none=>False
theorem xqi_trace[Dn]{P:Program}{X:Cx}(hX:CxOk P X){all:List Oper}{n:Nat}(hone:DstOne all n){k:St→Prop}:∀ {l:List Nat} {st:St},l.Pairwise (· < ·)→(∀ i∈l,i<n)→xqi X all n l st k →
   ∃ F,k F∧F.ob=st.ob∧F.gs=st.gs∧F.tm.length=st.tm.length ∧
     (∀ slot s,(∀ (i:Nat) o,i∈l→all[i]?=some o→o.dst≠some slot)→st.tm[slot]?=some s→∃ s',F.tm[slot]?=some s'∧SvEq s s') ∧
     ∀ (i:Nat) o,i∈l→all[i]?=some o→OpOk P X.gl all n i o F:=by
 intro l
 induction l with
 | nil =>
   intro st _ _ h
   exact⟨st,h,rfl,rfl,rfl,fun slot s _ hs=>⟨s,hs,SvEq.refl s⟩,fun i o hi=>by cases hi⟩
 | cons i r ih =>
   intro st hpw hn h
   have hin:i<n:=hn i (List.mem_cons_self ..)
   have hlt:∀ j∈r,i<j:=(List.pairwise_cons.1 hpw).1
   unfold xqi at h
   split at h
   rotate_left
   · exact h.elim
   rename_i o h0
   obtain⟨d,st1,heq,hyes,hno,hdec⟩:=withM_dec h
   have hs:∃ s,xqi X all n r (st1.put o.dst s) k∧((d=true∧xq1 X (st1.mask (known all n i)) o (fun s'=>s'=s))∨(d=false∧s = .und)):=by
     cases d
     · exact⟨.und,hno rfl,.inr ⟨rfl,rfl⟩⟩
     · obtain⟨s,hs1,hs2⟩:=xq1_pk _ (hyes rfl)
       exact⟨s,hs1,.inl ⟨rfl,hs2 _ rfl⟩⟩
   obtain⟨s,hrest,hop⟩:=hs
   obtain⟨F,hk,hob,hgs,hlen,hun,hops⟩:=ih (List.pairwise_cons.1 hpw).2 (fun j hj=>hn j (List.mem_cons_of_mem _ hj)) hrest
   have hob1:F.ob=st.ob:=by rw[hob,St.put_ob,heq.1]
   have hgs1:F.gs=st.gs:=by rw[hgs,St.put_gs,heq.2.1]
   have hlen1:F.tm.length=st.tm.length:=by rw[hlen,St.put_len,heq.2.2.1]
   have keep:∀ slot s1,(∀ (j:Nat) o',j∈i::r→all[j]?=some o'→o'.dst≠some slot)→st1.tm[slot]?=some s1→∃ s',F.tm[slot]?=some s'∧SvEq s1 s':=by
     intro slot s1 hno hs1
     refine hun slot s1 (fun j o' hj ho'=>hno j o' (List.mem_cons_of_mem _ hj) ho') ?_
     have hne:=hno i o (List.mem_cons_self ..) h0
     cases hd:o.dst with
     | none=>simpa [St.put,hd] using hs1
     | some x =>
       simp only[St.put]
       rw[List.getElem?_set_ne (by intro e;subst e;exact hne hd)]
       exact hs1
   have hknown:∀ slot,known all n i slot=true→∀ (j:Nat) o',j∈i::r→all[j]?=some o'→o'.dst≠some slot:=by
     intro slot hkn j o' hj ho' hd'
     have:=(known_spec hkn (k:=j) (hn j hj) ho' hd').1
     rcases List.mem_cons.1 hj with rfl | hj
     · omega
     · have:=hlt j hj;omega
   refine⟨F,hk,hob1,hgs1,hlen1,fun slot s0 hno hs0 => ?_,fun j o' hj ho' => ?_⟩
   · obtain⟨s1,hs1,e1⟩:=heq.2.2.2 slot s0 hs0
     obtain⟨s2,hs2,e2⟩:=keep slot s1 hno hs1
     exact⟨s2,hs2,e1.trans e2⟩
   · rcases List.mem_cons.1 hj with rfl | hj
     · rw[h0] at ho';injection ho' with ho';subst ho'
       intro w0 M R0 A a w hB I K Q hK
       have I1:Inv w0 M R0 A (st1.mask (known all n j)) a w:=by
         refine I.weaken (by show st1.ob=F.ob;rw[hob1,heq.1]) (by show st1.gs=F.gs;rw[hgs1,heq.2.1]) (by rw[mask_len,mask_len,hlen1,heq.2.2.1]) fun slot s' hs' => ?_
         rcases mask_get hs' with rfl | ⟨hkn,hs1⟩
         · exact .inl rfl
         · obtain⟨s2,hs2,e2⟩:=keep slot s' (hknown slot hkn) hs1
           exact .inr ⟨s2,mask_mk hkn hs2,e2.symm⟩
       have I0:Inv w0 M R0 A (st.mask (known all n j)) a w:=by
         refine I1.weaken (by show st.ob=st1.ob;rw[heq.1]) (by show st.gs=st1.gs;rw[heq.2.1]) (by rw[mask_len,mask_len,heq.2.2.1]) fun slot s' hs' => ?_
         rcases mask_get hs' with rfl | ⟨hkn,hs1⟩
         · exact .inl rfl
         · obtain⟨s2,hs2,e2⟩:=heq.2.2.2 slot s' hs1
           exact .inr ⟨s2,mask_mk hkn hs2,e2.symm⟩
       have hwant:=hdec rfl I0
       have hFd:∀ x sF,o.dst=some x→F.tm[x]?=some sF→SvEq s sF:=by
         intro x sF hd hF
         have hxl:x<st1.tm.length:=by
           have:=(List.getElem?_eq_some_iff.1 hF).1
           rw[hlen1,← heq.2.2.1] at this;exact this
         obtain⟨s2,hs2,e2⟩:=hun x s (fun q o' hq ho' hd'=>by
           have:=hone j q o o' x hin (hn q (List.mem_cons_of_mem _ hq)) h0 ho' hd hd'
           have:=hlt q hq
           omega) (by simp only[hd,St.put];simp[hxl])
         rw[hF] at hs2;injection hs2 with hs2;subst hs2
         exact e2
       unfold wpOp
       rw[List.getElem?_toArray,h0]
       simp only
       rcases hop with ⟨hd1,hx⟩ | ⟨hd0,hsu⟩
       · rw[if_pos (by rw[hwant,hd1])]
         refine .inl (xq1_run hX hB I1 hx fun s' v w' hs' hsm hex hsv=>hK v w' hsm hex fun x sF hd hF => ?_)
         subst hs'
         have:st1.ob=F.ob:=by rw[hob1,heq.1]
         rw[← this]
         exact (hFd x sF hd hF _ _ _ _).1 hsv
       · rw[if_neg (by rw[hwant,hd0];decide)]
         refine hK undef w (Same.refl w) (Ext.refl w) fun x sF hd hF => ?_
         exact (hFd x sF hd hF _ _ _ _).1 (by rw[hsu];rfl)
     · exact hops j o' hj ho'
def floG(X:Cx)(all:List Oper)(n:Nat)(G:St):List Nat→Prop
 | []=>True
 | i::l=>match all[i]? with
   | some o=>withM all (G.mask (known all n i)) G o
       (fun G1=>xq1 X (G1.mask (known all n i)) o fun s=>match o.dst with
         | some d=>eqS s (G.tm.getD d .any)
         | none=>True)
       (fun _=>match o.dst with
         | some d=>eqS .und (G.tm.getD d .any)
         | none=>True)∧floG X all n G l
   | none=>False
def newL(n:Nat)(an:List (List Nat))(rs ps:List Nat):List Nat :=
 (List.range n).filter fun i => !rs.contains i && !ps.contains i && !(rs.any fun q=>needsB an i q)&&(match ps with
   | []=>true
   | h::_=>needsB an i h)
def oldL(n:Nat)(an:List (List Nat))(rs ps:List Nat):List Nat :=
 (List.range n).filter fun i => !rs.contains i && !ps.contains i && !(rs.any fun q=>needsB an i q) && !(ps.any fun q=>needsB an q i)&&(match ps with
   | []=>false
   | h::_ => !needsB an i h)
def allR(g:Nat→Prop):List Nat→Prop
 | []=>True
 | r::l=>g r∧allR g l
theorem allR_get{g:Nat→Prop}:∀ {l:List Nat},allR g l→∀ r∈l,g r
 | [],_,r,h=>by cases h
 | x::l,h,r,hr=>by
   rcases List.mem_cons.1 hr with rfl | hr
   · exact h.1
   · exact allR_get h.2 r hr
def xqg(X:Cx)(all:List Oper)(n:Nat)(an:List (List Nat)):Nat→List Nat→List Nat→St→(St→Prop)→Prop
 | 0,_,_,_,_=>False
 | f+1,rs,ps,st,k=>xqi X all n (newL n an rs ps) st fun F=>floG X all n F (oldL n an rs ps)∧match rs with
   | []=>k F
   | _=>allR (fun r=>match rs.any (fun q=>needsB an r q) with
     | true=>True
     | false=>match all[r]? with
       | some o=>withM all (F.mask (known all n r)) F o
           (fun F1=>hrdG X (F1.mask (known all n r)) F1 o fun F2=>xqg X all n an f (rs.filter fun q=>q != r) (r::ps) F2 k)
           (fun F1=>xqg X all n an f (rs.filter fun q=>q != r) (r::ps) (F1.put o.dst .und) k)
       | none=>False) rs
def mixGB(all:List Oper)(n:Nat)(hs:List Nat):Bool :=
 decide (n≤all.length)&&backB all n&&oneB all n&&(decide (n=all.length)||(decide (n<all.length)&&Region.sinkB .any all.toArray n&&Region.chainB .any all.toArray n)) &&
   Region.seqB .any all.toArray (all.length - n) n (listedN n all.length)&&hs.all fun h=>decide (h<n)
theorem floG_op[Dn]{P:Program}{X:Cx}(hX:CxOk P X){all:List Oper}{n:Nat}{G:St}:∀ {l:List Nat},floG X all n G l→∀ (i:Nat) o,i∈l→all[i]?=some o→OpOk P X.gl all n i o G
 | [],_,i,o,h,_=>by cases h
 | x::l,h,i,o,hi,ho=>by
   unfold floG at h
   split at h
   · rename_i o' ho'
     rcases List.mem_cons.1 hi with rfl | hi
     · rw[ho] at ho';injection ho' with ho';subst ho'
       exact floH_op hX ho h.1
     · exact floG_op hX h.2 i o hi ho
   · exact h.elim
def HardG[Dn](P:Program)(gl:List (Nat×Dat))(all:List Oper)(n h:Nat)(F:St)(Kst:St→Prop):Prop :=
 ∃ o,all[h]?=some o∧∀ (w0:World) (M:Ms) (R0:Nat→Prop) (A:Asg) (a:Act) (w:World),BaseOk gl w0 M R0→∀ (listed:Array Bool),h<listed.size→(∀ s,known all n h s=true→settled all n listed s=true)→listed.getD h false=false→(∀ i,Anc all i h→listed.getD i false=false) →
   Inv w0 M R0 A (F.mask (settled all n listed)) a w→∀ (K:Act→World→Prop) (Q:Exit→Act→World→Prop),
   (∀ A' F' v w',Kst F'→Inv w0 M R0 A' (F'.mask (settled all n (listed.setIfInBounds h true))) (a.put o.dst v) w'→K (a.put o.dst v) w')→wpOp P all.toArray Q h K a w
def StgG[Dn](P:Program)(gl:List (Nat×Dat))(all:List Oper)(n:Nat)(k:St→Prop):Nat→List Nat→List Nat→St→Prop
 | 0,_,_,_=>False
 | f+1,rs,ps,F=>(∀ (i:Nat) o,i<n→all[i]?=some o→i∈ps∨i∈rs∨(∃ q∈ps,Anc all q i)∨(∃ q∈rs,Anc all i q)∨OpOk P gl all n i o F)∧(rs=[]→k F) ∧
     ∀ r∈rs,(∃ q∈rs,Anc all r q)∨HardG P gl all n r F (StgG P gl all n k f (rs.filter fun q=>q != r) (r::ps))
theorem anyG_ok[Dn]{P:Program}{gl:List (Nat×Dat)}{all:List Oper}{n:Nat}{k:St→Prop}(hn:n≤all.length)(hback:backB all n=true)(htail:n=all.length∨((n<all.length∧Region.sinkB .any all.toArray n=true)∧Region.chainB .any all.toArray n=true))
   (hseq:Region.seqB .any all.toArray (all.length - n) n (listedN n all.length)=true) {w0:World} {M:Ms} {R0:Nat→Prop} (hBs:BaseOk gl w0 M R0) {Q:Exit→Act→World→Prop}
   (hend:∀ F A a w,k F→Inv w0 M R0 A F a w→wpList P all.toArray Q (all.drop n) a w) :
   ∀ (f g:Nat) (rs ps:List Nat) (F:St) (listed:Array Bool) (A:Asg) (a:Act) (w:World),(∀ r∈rs,r<n)→StgG P gl all n k g rs ps F→(∀ q∈ps,listed.getD q false=true)→(∀ q∈rs,listed.getD q false=false) →
     HeadInv .any all.toArray n listed→(left n listed).length=f→Inv w0 M R0 A (F.mask (settled all n listed)) a w→wpAny P .any all.toArray Q (f+(all.length - n)) listed a w:=by
 intro f
 induction f with
 | zero =>
   intro g rs ps F listed A a w hrs hst hps hus inv hf I
   have hall:∀ i,i<n→listed.getD i false=true:=by
     intro i hi
     cases h:listed.getD i false with
     | true=>rfl
     | false =>
       have:i∈left n listed:=by unfold left;rw[List.mem_filter];exact⟨List.mem_range.2 hi,by simp[h]⟩
       rw[List.eq_nil_of_length_eq_zero hf] at this
       cases this
   have hsz:listed.size=all.length:=by simpa using inv.size
   have hl:listed=listedN n all.length:=by
     apply Array.ext
     · rw[hsz];simp[listedN];omega
     · intro i h1 h2
       by_cases hi:i<n
       · have:=hall i hi
         simp only[Array.getD,h1,dif_pos] at this
         simp only[listedN,List.getElem_toArray]
         rw[List.getElem_append_left (by simpa using hi)]
         simpa using this
       · have:=inv.tail i (by omega) (by simpa using (hsz▸h1))
         simp only[Array.getD,h1,dif_pos] at this
         simp only[listedN,List.getElem_toArray]
         rw[List.getElem_append_right (by simpa using hi)]
         simpa using this
   have IF:Inv w0 M R0 A F a w:=by
     refine I.weaken rfl rfl mask_len.symm fun j s hs => .inr ⟨s,mask_mk ?_ hs,SvEq.refl s⟩
     rw[settled_spec]
     intro k o hk _ _
     exact hall k hk
   have hk:k F:=by
     cases g with
     | zero=>exact hst.elim
     | succ g =>
       refine hst.2.1 ?_
       cases rs with
       | nil=>rfl
       | cons h r =>
         have h1:=hus h (List.mem_cons_self ..)
         rw[hall h (hrs h (List.mem_cons_self ..))] at h1
         cases h1
   rw[Nat.zero_add,hl]
   have:=wpAny_of_seq (P:=P) (md := .any) (ops:=all.toArray) (Q':=Q) (all.drop n) n (listedN n all.length) a w (fun j=>by simp[List.getElem?_drop]) (by simpa using hseq) (hend F A a w hk IF)
   simpa using this
 | succ f ih =>
   intro g rs ps F listed A a w hrs hst hps hus inv hf I
   have hsz:listed.size=all.length:=by simpa using inv.size
   have hex:∃ i,i<n∧listed.getD i false=false:=by
     cases hq:left n listed with
     | nil=>rw[hq] at hf;simp at hf
     | cons i r =>
       have:i∈left n listed:=by rw[hq];exact List.mem_cons_self ..
       unfold left at this
       rw[List.mem_filter] at this
       exact⟨i,List.mem_range.1 this.1,by simpa using this.2⟩
   have hleast:∃ i,i<n∧listed.getD i false=false∧∀ j,j<i→listed.getD j false=true:=by
     obtain⟨i,hi,hu⟩:=hex
     induction i using Nat.strongRecOn with
     | _ i ihi =>
       by_cases hc:∃ j,j<i∧listed.getD j false=false
       · obtain⟨j,hj,hju⟩:=hc
         exact ihi j hj (by omega) hju
       · refine⟨i,hi,hu,fun j hj => ?_⟩
         cases hq:listed.getD j false with
         | true=>rfl
         | false=>exact absurd ⟨j,hj,hq⟩ hc
   obtain⟨i0,hi0,hu0,hb0⟩:=hleast
   have hi0l:i0<all.length:=by omega
   have hr0:i0∈Region.ready .any all.toArray listed:=by
     rw[mem_ready]
     refine⟨getD_in (by omega) hu0,all[i0],by simp[hi0l],fun e he hb=>hb0 _ (backB_spec hback hi0 (List.getElem?_eq_getElem hi0l) e he hb)⟩
   have hlt:∀ i,i∈Region.ready .any all.toArray listed→i<n:=by
     intro i hi
     rcases Nat.lt_or_ge i n with h | h
     · exact h
     · rcases htail with ht | ⟨⟨ht,hs⟩,hc⟩
       · obtain⟨_,o,ho,_⟩:=mem_ready.1 hi
         have:=(Array.getElem?_eq_some_iff.1 ho).1
         simp at this;omega
       · exact absurd hi (tail_waits hs hc (by simpa using ht) inv _ i0 rfl hi0 (getD_in (by omega) hu0) i h)
   rw[show f+1+(all.length - n)=(f+(all.length - n))+1 by omega]
   refine And.intro (fun h0=>absurd (h0▸hr0) (by simp)) (fun i hi => ?_)
   have hin:=hlt i hi
   obtain⟨hun,oi,hoi,hedge⟩:=mem_ready.1 hi
   have hoi':all[i]?=some oi:=by simpa using hoi
   have hil:i<listed.size:=by omega
   have hunf:listed.getD i false=false:=by
     simp only[Array.getD,hil,dif_pos] at hun ⊢
     exact hun
   have hknownS:∀ s,known all n i s=true→settled all n listed s=true:=by
     intro s hkn
     rw[settled_spec]
     intro k o hk ho hd
     obtain⟨_,hw⟩:=known_spec hkn hk ho hd
     exact ready_waits hi hw
   have hset1:∀ q,listed.getD q false=true→(listed.setIfInBounds i true).getD q false=true:=by
     intro q hq
     by_cases hiq:i=q
     · subst hiq;rw[hunf] at hq;cases hq
     · rw[getD_set_ne false hiq];exact hq
   have hset0:∀ q,q≠i→listed.getD q false=false→(listed.setIfInBounds i true).getD q false=false:=by
     intro q hq h
     rw[getD_set_ne false (fun e=>hq e.symm)];exact h
   have hnoAnc:∀ q,q∈rs→Anc all i q→False:=fun q hq ha=>by
     have:=ha.listed inv fun k hk=>ready_waits hi hk
     rw[hus q hq] at this;cases this
   cases g with
   | zero=>exact hst.elim
   | succ g =>
     by_cases hir:i∈rs
     · rcases hst.2.2 i hir with ⟨q,hq,ha⟩ | ⟨o,ho,hrun⟩
       · exact (hnoAnc q hq ha).elim
       · have:o=oi:=by rw[hoi'] at ho;injection ho with ho;exact ho.symm
         subst this
         have hafter:∀ j,Anc all j i→listed.getD j false=false:=by
           intro j hj
           cases hq:listed.getD j false with
           | false=>rfl
           | true =>
             have:=hj.listed inv fun k hk=>listed_waits inv hq hk
             rw[hunf] at this;cases this
         refine hrun w0 M R0 A a w hBs listed hil hknownS hunf hafter I _ _ fun A' F' v w' hF' I' => ?_
         refine ih g (rs.filter fun q=>q != i) (i::ps) F' _ A' _ _ (fun r hr=>hrs r (List.mem_filter.1 hr).1) hF' (fun q hq => ?_) (fun q hq => ?_) (inv.set hi hin) (by have:=left_set hin hil hunf;omega) I'
         · rcases List.mem_cons.1 hq with rfl | hq
           · simp[Array.getD,hil]
           · exact hset1 q (hps q hq)
         · obtain⟨h1,h2⟩:=List.mem_filter.1 hq
           exact hset0 q (by simpa using h2) (hus q h1)
     · have hop:OpOk P gl all n i oi F:=by
         rcases hst.1 i oi hin hoi' with h | h | ⟨q,h1,h2⟩ | ⟨q,h1,h2⟩ | h
         · have:=hps i h;rw[hunf] at this;cases this
         · exact absurd h hir
         · have:=h2.listed inv fun k hk=>listed_waits inv (hps q h1) hk
           rw[hunf] at this;cases this
         · exact (hnoAnc q h1 h2).elim
         · exact h
       refine soft_step hoi' hop hBs hknownS I fun v w' I' => ?_
       exact ih (g+1) rs ps F _ A _ _ hrs hst (fun q hq=>hset1 q (hps q hq)) (fun q hq=>hset0 q (fun e=>hir (e▸hq)) (hus q hq)) (inv.set hi hin) (by have:=left_set hin hil hunf;omega) I'
theorem newL_pw{n:Nat}{an:List (List Nat)}{rs ps:List Nat}:(newL n an rs ps).Pairwise (· < ·):=List.Pairwise.filter _ List.pairwise_lt_range
theorem newL_lt{n:Nat}{an:List (List Nat)}{rs ps:List Nat}:∀ i∈newL n an rs ps,i<n:=fun i hi=>List.mem_range.1 (List.mem_filter.1 hi).1
theorem xqg_stg[Dn]{P:Program}{X:Cx}(hX:CxOk P X){all:List Oper}{n:Nat}(hone:DstOne all n){k:St→Prop}:∀ {f:Nat} {rs ps:List Nat} {st:St},(∀ r∈rs,r<n)→xqg X all n (ancs all []) f rs ps st k →
   ∃ F,StgG P X.gl all n k f rs ps F∧F.ob=st.ob∧F.gs=st.gs∧F.tm.length=st.tm.length ∧
     ∀ slot s,(∀ (i:Nat) o,i∈newL n (ancs all []) rs ps→all[i]?=some o→o.dst≠some slot)→st.tm[slot]?=some s→∃ s',F.tm[slot]?=some s'∧SvEq s s':=by
 intro f
 induction f with
 | zero=>intro rs ps st _ h;exact h.elim
 | succ f ih =>
   intro rs ps st hrs hx
   unfold xqg at hx
   obtain⟨F,⟨hflo,hk⟩,hob,hgs,hlen,hun,hops⟩:=xqi_trace (P:=P) hX hone newL_pw newL_lt hx
   refine⟨F,⟨fun i o hi ho => ?_,fun he => ?_,fun r hr => ?_⟩,hob,hgs,hlen,hun⟩
   · by_cases h1:i∈ps
     · exact .inl h1
     by_cases h2:i∈rs
     · exact .inr (.inl h2)
     by_cases h3:(rs.any fun q=>needsB (ancs all []) i q)=true
     · obtain⟨q,hq,hqn⟩:=List.any_eq_true.1 h3
       exact .inr (.inr (.inr (.inl ⟨q,hq,needsB_ok hqn⟩)))
     by_cases h4:i∈newL n (ancs all []) rs ps
     · exact .inr (.inr (.inr (.inr (hops i o h4 ho))))
     by_cases h5:(ps.any fun q=>needsB (ancs all []) q i)=true
     · obtain⟨q,hq,hqn⟩:=List.any_eq_true.1 h5
       exact .inr (.inr (.inl ⟨q,hq,needsB_ok hqn⟩))
     refine .inr (.inr (.inr (.inr (floG_op hX hflo i o ?_ ho))))
     unfold newL at h4
     unfold oldL
     rw[List.mem_filter] at h4 ⊢
     have c1:rs.contains i=false:=by simpa using h2
     have c2:ps.contains i=false:=by simpa using h1
     have c3:(rs.any fun q=>needsB (ancs all []) i q)=false:=by simpa using h3
     have c5:(ps.any fun q=>needsB (ancs all []) q i)=false:=by simpa using h5
     simp only[c1,c2,c3,c5,Bool.not_false,Bool.true_and] at h4 ⊢
     refine⟨List.mem_range.2 hi,?_⟩
     cases ps with
     | nil=>exact absurd ⟨List.mem_range.2 hi,rfl⟩ h4
     | cons h r =>
       simp only
       cases hq:needsB (ancs all []) i h with
       | false=>rfl
       | true=>exact absurd ⟨List.mem_range.2 hi,by simp only[hq]⟩ h4
   · subst he;exact hk
   · have hk : allR (fun r => match rs.any (fun q => needsB (ancs all []) r q) with
         | true=>True
         | false=>match all[r]? with
           | some o=>withM all (F.mask (known all n r)) F o
               (fun F1=>hrdG X (F1.mask (known all n r)) F1 o fun F2=>xqg X all n (ancs all []) f (rs.filter fun q=>q != r) (r::ps) F2 k)
               (fun F1=>xqg X all n (ancs all []) f (rs.filter fun q=>q != r) (r::ps) (F1.put o.dst .und) k)
           | none=>False) rs:=by
       cases rs with
       | nil=>cases hr
       | cons x l=>exact hk
     have hk:=allR_get hk r hr
     split at hk
     · rename_i hany
       obtain⟨q,hq,hqn⟩:=List.any_eq_true.1 hany
       exact .inl ⟨q,hq,needsB_ok hqn⟩
     right
     split at hk
     rotate_left
     · exact hk.elim
     rename_i o ho
     refine⟨o,ho,fun w0 M R0 A a w hBs listed hil hknownS hunf hafter I K Q hK => ?_⟩
     obtain⟨d,F1,heq,hyes,hno,hdec⟩:=withM_dec hk
     have I0:Inv w0 M R0 A (F.mask (known all n r)) a w:=by
       refine I.weaken rfl rfl (by rw[mask_len,mask_len]) fun j s hs => ?_
       rcases mask_get hs with rfl | ⟨hkn,hs'⟩
       · exact .inl rfl
       · exact .inr ⟨s,mask_mk (hknownS j hkn) hs',SvEq.refl s⟩
     have hwant:=hdec rfl I0
     have I1:Inv w0 M R0 A (F1.mask (settled all n listed)) a w:=by
       refine I.weaken (by show F1.ob=F.ob;rw[heq.1]) (by show F1.gs=F.gs;rw[heq.2.1]) (by rw[mask_len,mask_len,heq.2.2.1]) fun slot s' hs' => ?_
       rcases mask_get hs' with rfl | ⟨hkn,hs1⟩
       · exact .inl rfl
       · have hl:slot<F.tm.length:=by rw[← heq.2.2.1];exact (List.getElem?_eq_some_iff.1 hs1).1
         obtain⟨s2,hs2,e2⟩:=heq.2.2.2 slot F.tm[slot] (List.getElem?_eq_getElem hl)
         rw[hs1] at hs2;injection hs2 with hs2;subst hs2
         exact .inr ⟨_,mask_mk hkn (List.getElem?_eq_getElem hl),e2⟩
     have hS':∀ s,settled all n (listed.setIfInBounds r true) s=true→settled all n listed s=true∨o.dst=some s:=by
       intro s hs
       by_cases hd:o.dst=some s
       · exact .inr hd
       · left
         rw[settled_spec] at hs ⊢
         intro k o' hk' ho' hd'
         have:=hs k o' hk' ho' hd'
         by_cases hhk:r=k
         · subst hhk
           rw[ho] at ho';injection ho' with ho';subst ho'
           exact absurd hd' hd
         · rw[getD_set_ne false hhk] at this;exact this
     have hnext:∀ {A':Asg} {G:St} {v:Value} {w':World},xqg X all n (ancs all []) f (rs.filter fun q=>q != r) (r::ps) G k→Inv w0 M R0 A' (G.mask (settled all n (listed.setIfInBounds r true))) (a.put o.dst v) w'→K (a.put o.dst v) w':=by
       intro A' G v w' hG IG
       obtain⟨F',hstg,hob',hgs',hlen',hun'⟩:=ih (fun q hq=>hrs q (List.mem_filter.1 hq).1) hG
       refine hK A' F' v w' hstg (IG.weaken hob' hgs' (by rw[mask_len,mask_len,hlen']) fun j s' hs' => ?_)
       rcases mask_get hs' with rfl | ⟨hkn,hs1⟩
       · exact .inl rfl
       · have hl:j<G.tm.length:=by rw[← hlen'];exact (List.getElem?_eq_some_iff.1 hs1).1
         obtain⟨s2,hs2,e2⟩:=hun' j G.tm[j] (fun q o' hq ho' hd'=>by
           have hqn:=newL_lt q hq
           unfold newL at hq
           rw[List.mem_filter] at hq
           have hq2:=hq.2
           simp only[Bool.and_eq_true,Bool.not_eq_true'] at hq2
           obtain⟨⟨⟨_,hqp⟩,_⟩,hqr⟩:=hq2
           have hne:r≠q:=by
             rintro rfl
             simp at hqp
           rw[settled_spec] at hkn
           have:=hkn q o' hqn ho' hd'
           rw[getD_set_ne false hne,hafter q (needsB_ok hqr)] at this
           cases this) (List.getElem?_eq_getElem hl)
         rw[hs1] at hs2;injection hs2 with hs2;subst hs2
         exact .inr ⟨_,mask_mk hkn (List.getElem?_eq_getElem hl),e2⟩
     unfold wpOp
     rw[List.getElem?_toArray,ho]
     simp only
     cases d with
     | true =>
       rw[if_pos hwant]
       exact .inl (hrdG_run hX hBs hknownS hS' I1 (hyes rfl) fun A' G v w' hG IG=>hnext hG IG)
     | false =>
       rw[if_neg (by rw[hwant];decide)]
       refine hnext (A':=A) (hno rfl) ?_
       exact Inv.put_mask hS' (I1.put (d:=o.dst) (s := .und) (v:=undef) rfl)
theorem mixG_ok[Dn]{P:Program}{X:Cx}(hX:CxOk P X){all:List Oper}{n:Nat}{rs0:List Nat}(hB:mixGB all n rs0=true){w0:World}{M:Ms}{R0:Nat→Prop}(hBs:BaseOk X.gl w0 M R0){A:Asg}{st:St}{a:Act}{w:World}(I:Inv w0 M R0 A st a w){k:St→Prop}
   (h:xqg X all n (ancs all []) (rs0.length+1) rs0 [] st k) {Q:Exit→Act→World→Prop} (hend:∀ A' st' a' w',k st'→Inv w0 M R0 A' st' a' w'→wpList P all.toArray Q (all.drop n) a' w'):AnyW P all.toArray Q a w:=by
 simp only[mixGB,Bool.and_eq_true,decide_eq_true_eq,Bool.or_eq_true] at hB
 obtain⟨⟨⟨⟨⟨hn,hback⟩,hone⟩,htail⟩,hseq⟩,hsb⟩:=hB
 have hsb:∀ r∈rs0,r<n:=fun r hr=>by simpa using List.all_eq_true.1 hsb r hr
 obtain⟨F,hstg,hob,hgs,hlen,hun⟩:=xqg_stg (P:=P) hX (oneB_spec hone) hsb h
 refine AnyW.mk ?_
 have I':=I.ext (Cls.drawn w).1 (Cls.drawn w).2
 have inv0:HeadInv .any all.toArray n (Array.replicate all.length false) :=
   ⟨by simp,fun j oj _ hl=>(by rw[getD_replicate_false] at hl;cases hl),fun t _ ht=>getD_in (by simpa using ht) (getD_replicate_false _ _)⟩
 have hleft:(left n (Array.replicate all.length false)).length=n:=by
   unfold left
   rw[List.filter_eq_self.2 (fun i _=>by rw[getD_replicate_false];rfl)]
   simp
 have:=anyG_ok (P:=P) (Q:=Q) hn hback htail hseq hBs (fun F A' a' w' hk hI=>hend A' F a' w' hk hI) n _ rs0 [] F (Array.replicate all.length false) A a { w with drawn:=w.drawn+1 } hsb hstg (fun q hq=>by cases hq) (fun q _=>getD_replicate_false _ _) inv0 hleft ?_
 · rw[show n+(all.length - n)=all.length by omega] at this
   simpa using this
 · refine I'.weaken hob hgs (by rw[mask_len,hlen]) fun j s hs => ?_
   rcases mask_get hs with rfl | ⟨hkn,hs'⟩
   · exact .inl rfl
   · rw[settled_spec] at hkn
     have hno:∀ (i:Nat) o,i∈newL n (ancs all []) rs0 []→all[i]?=some o→o.dst≠some j:=by
       intro i o hi ho hd
       have:=hkn i o (newL_lt i hi) ho hd
       rw[getD_replicate_false] at this
       cases this
     have hjl:j<st.tm.length:=by rw[← hlen];exact (List.getElem?_eq_some_iff.1 hs').1
     obtain⟨s2,hs2,e2⟩:=hun j _ hno (List.getElem?_eq_getElem hjl)
     rw[hs'] at hs2;injection hs2 with hs2;subst hs2
     exact .inr ⟨_,List.getElem?_eq_getElem hjl,e2⟩
end Go.Vc
