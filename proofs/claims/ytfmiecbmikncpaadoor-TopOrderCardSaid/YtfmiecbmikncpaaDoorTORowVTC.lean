import Derived.Test.YtfmiecbmikncpaaDoorTORowVTB
namespace Go.Vc
open Go.RowKit
inductive Anc(all:List Oper):Nat→Nat→Prop
 | edge {i j:Nat} (h:waits all i j=true):Anc all i j
 | step {i k j:Nat} (h:waits all i k=true) (g:Anc all k j):Anc all i j
def edgesOf(o:Oper):List Nat:=(o.after.toList.filter fun e=>Region.binds .any e).map fun e=>e.on
def ancS(acc:List (List Nat)):List Nat→List Nat→List Nat
 | [],s=>s
 | k::r,s=>ancS acc r (addN s (k::acc.getD k []))
def ancs:List Oper→List (List Nat)→List (List Nat)
 | [],acc=>acc
 | o::r,acc=>ancs r (acc++[ancS acc (edgesOf o) []])
theorem mem_addN:∀ {m l:List Nat} {x:Nat},x∈addN l m→x∈l∨x∈m:=by
 intro m
 induction m with
 | nil=>intro l x h;exact .inl h
 | cons y r ih =>
   intro l x h
   unfold addN at h
   split at h
   · rcases ih h with h | h
     · exact .inl h
     · exact .inr (List.mem_cons_of_mem _ h)
   · rcases ih h with h | h
     · rcases List.mem_append.1 h with h | h
       · exact .inl h
       · have:x=y:=by simpa using h
         exact .inr (by rw[this];exact List.mem_cons_self ..)
     · exact .inr (List.mem_cons_of_mem _ h)
theorem mem_ancS[Dn]{acc:List (List Nat)}:∀ {l s:List Nat} {x:Nat},x∈ancS acc l s→x∈s∨∃ k∈l,x=k∨x∈acc.getD k []:=by
 intro l
 induction l with
 | nil=>intro s x h;exact .inl h
 | cons k r ih =>
   intro s x h
   unfold ancS at h
   rcases ih h with h | ⟨k',h1,h2⟩
   · rcases mem_addN h with h | h
     · exact .inl h
     · rcases List.mem_cons.1 h with h | h
       · exact .inr ⟨k,List.mem_cons_self ..,.inl h⟩
       · exact .inr ⟨k,List.mem_cons_self ..,.inr h⟩
   · exact .inr ⟨k',List.mem_cons_of_mem _ h1,h2⟩
theorem waits_edges{all:List Oper}{i k:Nat}{o:Oper}(ho:all[i]?=some o)(h:k∈edgesOf o):waits all i k=true:=by
 unfold edgesOf at h
 obtain⟨e,he,rfl⟩:=List.mem_map.1 h
 rw[List.mem_filter] at he
 unfold waits
 simp only[ho]
 exact List.any_eq_true.2 ⟨e,he.1,by simp[he.2]⟩
theorem ancs_ok[Dn]{all:List Oper}:∀ {l:List Oper} {acc:List (List Nat)},(∀ j,l[j]?=all[acc.length+j]?)→(∀ i j,j∈acc.getD i []→Anc all i j)→∀ i j,j∈(ancs l acc).getD i []→Anc all i j:=by
 intro l
 induction l with
 | nil=>intro acc _ h;exact h
 | cons o r ih =>
   intro acc hl hacc
   unfold ancs
   have ho:all[acc.length]?=some o:=by have:=hl 0;simpa using this.symm
   refine ih (fun j => ?_) fun i j hj => ?_
   · have:=hl (j+1)
     simp only[List.getElem?_cons_succ] at this
     rw[this]
     congr 1
     simp only[List.length_append,List.length_cons,List.length_nil]
     omega
   · rw[List.getD_eq_getElem?_getD] at hj
     rcases Nat.lt_trichotomy i acc.length with hi | rfl | hi
     · rw[List.getElem?_append_left hi] at hj
       exact hacc i j (by rw[List.getD_eq_getElem?_getD];exact hj)
     · rw[List.getElem?_append_right (Nat.le_refl _)] at hj
       simp only[Nat.sub_self,List.getElem?_cons_zero,Option.getD_some] at hj
       rcases mem_ancS hj with h | ⟨k,h1,h2⟩
       · cases h
       · have hw:=waits_edges ho h1
         rcases h2 with rfl | h2
         · exact .edge hw
         · exact .step hw (hacc k j h2)
     · rw[List.getElem?_eq_none (by simp;omega)] at hj
       cases hj
def needsB(an:List (List Nat))(i j:Nat):Bool:=(an.getD i []).contains j
theorem needsB_ok[Dn]{all:List Oper}{i j:Nat}(h:needsB (ancs all []) i j=true):Anc all i j:=by
 unfold needsB at h
 exact ancs_ok (l:=all) (acc:=[]) (fun j=>by simp) (fun i j h=>by simp at h) i j (by simpa using h)
theorem Anc.listed[Dn]{all:List Oper}{n:Nat}{listed:Array Bool}(inv:HeadInv .any all.toArray n listed){i j:Nat}(h:Anc all i j):(∀ k,waits all i k=true→listed.getD k false=true)→listed.getD j false=true:=by
 induction h with
 | edge hw=>intro hi;exact hi _ hw
 | step hw _ ih =>
   intro hi
   refine ih fun k hk => ?_
   obtain⟨o,ho,e,he,hb,hon⟩:=waits_spec hk
   have:=inv.closed _ o (by simpa using ho) (hi _ hw) e he hb
   rw[hon] at this;exact this
theorem ready_waits[Dn]{all:List Oper}{listed:Array Bool}{i:Nat}(h:i∈Region.ready .any all.toArray listed){k:Nat}(hk:waits all i k=true):listed.getD k false=true:=by
 obtain⟨_,o,ho,hedge⟩:=mem_ready.1 h
 obtain⟨o',ho',e,he,hb,hon⟩:=waits_spec hk
 have:o'=o:=by
   have h1:all[i]?=some o:=by simpa using ho
   rw[ho'] at h1;injection h1
 subst this
 rw[← hon];exact hedge e he hb
theorem listed_waits[Dn]{all:List Oper}{n:Nat}{listed:Array Bool}(inv:HeadInv .any all.toArray n listed){i:Nat}(h:listed.getD i false=true){k:Nat}(hk:waits all i k=true):listed.getD k false=true:=by
 obtain⟨o,ho,e,he,hb,hon⟩:=waits_spec hk
 have:=inv.closed _ o (by simpa using ho) h e he hb
 rw[hon] at this;exact this
theorem soft_step[Dn]{P:Program}{gl:List (Nat×Dat)}{all:List Oper}{n i:Nat}{F:St}{oi:Oper}(hoi:all[i]?=some oi)(hop:OpOk P gl all n i oi F){w0:World}{M:Ms}{R0:Nat→Prop}(hBs:BaseOk gl w0 M R0){A:Asg}{listed:Array Bool}{a:Act}{w:World}
   (hknownS:∀ s,known all n i s=true→settled all n listed s=true) (I:Inv w0 M R0 A (F.mask (settled all n listed)) a w) {K:Act→World→Prop} {Q:Exit→Act→World→Prop}
   (hK:∀ v w',Inv w0 M R0 A (F.mask (settled all n (listed.setIfInBounds i true))) (a.put oi.dst v) w'→K (a.put oi.dst v) w'):wpOp P all.toArray Q i K a w:=by
 refine hop w0 M R0 A a w hBs ?_ _ _ fun v w' hsm hex' hsv => ?_
 · refine I.weaken rfl rfl (by rw[mask_len,mask_len]) fun j s hs => ?_
   rcases mask_get hs with rfl | ⟨hkn,hs'⟩
   · exact .inl rfl
   · exact .inr ⟨s,mask_mk (hknownS j hkn) hs',SvEq.refl s⟩
 · refine hK v w' ?_
   have I1:=I.ext hsm hex'
   have hset:∀ j,settled all n (listed.setIfInBounds i true) j=true→oi.dst≠some j→settled all n listed j=true:=by
     intro j hj hne
     rw[settled_spec] at hj ⊢
     intro k o hk ho hd
     have:=hj k o hk ho hd
     by_cases hik:i=k
     · subst hik
       rw[hoi] at ho;injection ho with ho;subst ho
       exact absurd hd hne
     · rw[getD_set_ne false hik] at this;exact this
   cases hd:oi.dst with
   | none =>
     have hp:a.put none v=a:=rfl
     rw[hp]
     refine I1.weaken rfl rfl (by rw[mask_len,mask_len]) fun j s hs => ?_
     rcases mask_get hs with rfl | ⟨hkn,hs'⟩
     · exact .inl rfl
     · exact .inr ⟨s,mask_mk (hset j hkn (by rw[hd];simp)) hs',SvEq.refl s⟩
   | some x =>
     by_cases hx:x<F.tm.length
     · have I2:=I1.put (d:=some x) (s:=F.tm[x]) (v:=v) (hsv x _ hd (List.getElem?_eq_getElem hx))
       refine I2.weaken (by rw[St.put_ob];rfl) (by rw[St.put_gs];rfl) (by rw[St.put_len,mask_len,mask_len]) fun j s hs => ?_
       rcases mask_get hs with rfl | ⟨hkn,hs'⟩
       · exact .inl rfl
       · by_cases hxj:x=j
         · subst hxj
           rw[List.getElem?_eq_getElem hx] at hs';injection hs' with hs'
           refine .inr ⟨s,?_,SvEq.refl s⟩
           simp only[St.put]
           rw[List.getElem?_set_self (by rw[mask_len];exact hx),hs']
         · refine .inr ⟨s,?_,SvEq.refl s⟩
           simp only[St.put]
           rw[List.getElem?_set_ne hxj]
           exact mask_mk (hset j hkn (by rw[hd];simpa using hxj)) hs'
     · have I2:=I1.put (d:=some x) (s := .any) (v:=v) trivial
       refine I2.weaken (by rw[St.put_ob];rfl) (by rw[St.put_gs];rfl) (by rw[St.put_len,mask_len,mask_len]) fun j s hs => ?_
       rcases mask_get hs with rfl | ⟨hkn,hs'⟩
       · exact .inl rfl
       · have hjl:=(List.getElem?_eq_some_iff.1 hs').1
         have hxj:x≠j:=fun e=>hx (e▸hjl)
         refine .inr ⟨s,?_,SvEq.refl s⟩
         simp only[St.put]
         rw[List.getElem?_set_ne hxj]
         exact mask_mk (hset j hkn (by rw[hd];simpa using hxj)) hs'
theorem wrK_one[Dn]{t0:Ty}{kk:Nat}{q:List Nat}{y:Dat}:∀ {U:Ot} {xs:U.D} {p:List Nat} {K:U.D→Prop},U.wrK t0 kk q y xs p K→∃ xs',U.wr t0 kk q y xs p=some xs'∧K xs'∧∀ K':U.D→Prop,K' xs'→U.wrK t0 kk q y xs p K':=by
 intro U
 induction U with
 | d t=>intro xs p K h;cases p<;>exact h.elim
 | sl e u ih =>
   intro xs p K h
   cases p with
   | nil =>
     cases u with
     | sl e2 u2=>exact h.elim
     | d t1 =>
       obtain⟨xs',h1,h2⟩:=wrK_ok h
       refine⟨xs',h1,h2,fun K' hK' => ?_⟩
       unfold Ot.wr at h1
       unfold Ot.wrK
       split at h1
       · rename_i ht
         rw[dif_pos ht]
         split at h1
         · injection h1 with h1;subst h1
           exact hK'
         · cases h1
       · cases h1
   | cons m p =>
     have hk:m<List.length (ls xs)∧u.wrK t0 kk q y (List.getD (ls xs) m u.er.z) p fun x'=>K (List.set (ls xs) m x'):=by cases u<;>exact h
     obtain⟨xs',h1,_⟩:=wrK_ok h
     obtain⟨x',g1,g2,g3⟩:=ih hk.2
     have hdef:(Ot.sl e u).wr t0 kk q y xs (m::p)=(match decide (m<List.length (ls xs)) with
       | true=>match u.wr t0 kk q y (List.getD (ls xs) m u.er.z) p with
         | some x'=>some (List.set (ls xs) m x')
         | none=>none
       | false=>none):=by cases u<;>rfl
     rw[decide_eq_true hk.1] at hdef
     simp only[g1] at hdef
     refine⟨_,hdef,g2,fun K' hK' => ?_⟩
     have:m<List.length (ls xs)∧u.wrK t0 kk q y (List.getD (ls xs) m u.er.z) p fun x'=>K' (List.set (ls xs) m x'):=⟨hk.1,g3 _ hK'⟩
     cases u<;>exact this
theorem stT_wo[Dn]{st1:St}{t:Ty}{x:SV}{t0:Ty}{i:Nat}{p:List Nat}{kk:Nat}{q:List Nat}{k:St→Prop}(h:stT st1 t x t0 i p kk q k):∃ ob',k (st1.wo ob')∧∀ (st2:St) (k':St→Prop),st2.ob=st1.ob→k' (st2.wo ob')→stT st2 t x t0 i p kk q k':=by
 obtain⟨tm1,ob,gs1⟩:=st1
 unfold stT at h
 split at h
 · rename_i e u xs hob
   split at h
   · rename_i y hy
     obtain⟨xs',hw,h,hre⟩:=wrK_one h
     refine⟨_,h,fun⟨tm2,ob2,gs2⟩ k' he hk' => ?_⟩
     simp only at he;subst he
     simp only[stT];simp only at hob;rw[hob];simp only;rw[hy];simp only
     exact hre _ hk'
   · exact h.elim
 · exact h.elim
def psI:SV→Option Nat
 | .ps i=>some i
 | _=>none
theorem psI_ok{s:SV}{i:Nat}(h:psI s=some i):s = .ps i:=by
 unfold psI at h
 split at h
 · injection h with h;subst h;rfl
 · cases h
theorem stP_wo{st1:St}{t:Ty}{i:Nat}{x:SV}{k:St→Prop}(h:stP st1 t i x k):∃ ob',k (st1.wo ob')∧∀ (st2:St) (k':St→Prop),st2.ob=st1.ob→k' (st2.wo ob')→stP st2 t i x k':=by
 obtain⟨tm1,ob,gs1⟩:=st1
 unfold stP at h
 split at h
 · rename_i e l0 hob
   split at h
   · rename_i hsz
     split at h
     · rename_i l hl
       refine⟨_,h,fun⟨tm2,ob2,gs2⟩ k' he hk' => ?_⟩
       simp only at he;subst he
       simp only at hob
       simp only[stP,hob,if_pos hsz,hl]
       exact hk'
     · exact h.elim
   · exact h.elim
 · exact h.elim
def hrd(X:Cx)(stm st:St)(o:Oper)(k:St→Prop):Prop :=
 match o.op with
 | .store T p x=>match o.dst with
   | none=>match X.E.ty T with
     | some t=>match psI (stm.ev X.E p) with
       | some i=>stP stm t i (stm.ev X.E x) (fun s1=>k (st.wo s1.ob))
       | none=>match taI (stm.ev X.E p) with
         | some (t0,i,pp,kk,q)=>stT stm t (stm.ev X.E x) t0 i pp kk q (fun s1=>k (st.wo s1.ob))
         | none=>sto stm t (stm.ev X.E x) (fun s1=>k (st.wo s1.ob)) (stm.ev X.E p)
     | none=>False
   | some _=>False
 | .alloc T=>match X.E.ty T,o.dst with
   | some t,some d=>match X.E.pz.contains d with
     | true=>False
     | false=>k ((st.push (.var T t t.z)).put (some d) (.pv t st.ob.length []))
   | _,_=>False
 | .call c=>match c.callee,c.args.toList,c.argTypes.toList with
   | .builtin .append,[s,x],[T,T']=>if T=T' then apd X.E stm T (stm.ev X.E s) (stm.ev X.E x) o.dst (fun s1=>k ((st.wo s1.ob).put o.dst (.os st.ob.length))) else False
   | callee,args,_=>match cee X.E stm callee with
     | some (f,ex)=>calO X.Γo st f (args.map (stm.ev X.E)++ex) o.dst k
     | none=>False
 | _=>False
theorem apd_wo{E:Env}{st1:St}{T:TypeId}{s x:SV}{dst:Option Nat}{k:St→Prop}(h:apd E st1 T s x dst k) :
   ∃ ob',k ((st1.wo ob').put dst (.os st1.ob.length))∧∀ (st2:St) (k':St→Prop),st2.ob=st1.ob→k' ((st2.wo ob').put dst (.os st2.ob.length))→apd E st2 T s x dst k':=by
 obtain⟨tm1,ob,gs1⟩:=st1
 have he:∀ (tm2:List SV) (gs2:List (GK×SV)) (t:Ty),elems ⟨tm2,ob,gs2⟩ t x=elems ⟨tm1,ob,gs1⟩ t x:=fun _ _ t=>by cases x<;>rfl
 unfold apd at h
 split at h
 · rename_i t e h1 h2
   split at h
   · rename_i hsz
     split at h
     · rename_i ys hys
       split at h
       · refine⟨_,h.2,fun⟨tm2,ob2,gs2⟩ k' e2 hk' => ?_⟩
         simp only at e2;subst e2
         simp only[apd,h1,h2,he,hys,if_pos hsz]
         exact⟨h.1,hk'⟩
       · rename_i t' xs
         split at h
         · rename_i htt;subst htt
           refine⟨_,h.2,fun⟨tm2,ob2,gs2⟩ k' e2 hk' => ?_⟩
           simp only at e2;subst e2
           simp only[apd,h1,h2,he,hys,if_pos hsz,dite_true]
           exact⟨h.1,hk'⟩
         · exact h.elim
       · rename_i i
         split at h
         · rename_i e' t' xs hob
           split at h
           · rename_i htt;subst htt
             split at h
             · rename_i hee
               refine⟨_,h.2,fun⟨tm2,ob2,gs2⟩ k' e2 hk' => ?_⟩
               simp only at e2;subst e2
               simp only at hob
               simp only[apd,h1,h2,he,hys,if_pos hsz,hob,dite_true,if_pos hee]
               exact⟨h.1,hk'⟩
             · exact h.elim
           · exact h.elim
         · exact h.elim
       · exact h.elim
     · exact h.elim
   · exact h.elim
 · exact h.elim
def HardOk[Dn](P:Program)(gl:List (Nat×Dat))(all:List Oper)(n h:Nat)(F:St)(Kst:St→Prop):Prop :=
 ∃ o,all[h]?=some o∧∀ (w0:World) (M:Ms) (R0:Nat→Prop) (A:Asg) (a:Act) (w:World),BaseOk gl w0 M R0→∀ (listed:Array Bool),h<listed.size→(∀ s,known all n h s=true→settled all n listed s=true)→listed.getD h false=false→(∀ i,h<i→i<n→listed.getD i false=false) →
   Inv w0 M R0 A (F.mask (settled all n listed)) a w→∀ (K:Act→World→Prop) (Q:Exit→Act→World→Prop),
   (∀ A' F' v w',Kst F'→Inv w0 M R0 A' (F'.mask (settled all n (listed.setIfInBounds h true))) (a.put o.dst v) w'→K (a.put o.dst v) w')→wpOp P all.toArray Q h K a w
theorem wp_val1{P:Program}{o:Oper}{a:Act}{K:Act→World→Prop}{Q:Exit→Act→World→Prop}{w w':World}{v:Value}(h:(execOp a.eval o).run P w = .ok (.value v) w')(hk:K (a.put o.dst v) w'):o.wp P a w K Q:=by
 unfold Oper.wp;rw[h];exact hk
theorem wp_skp1{P:Program}{o:Oper}{a:Act}{K:Act→World→Prop}{Q:Exit→Act→World→Prop}{w w':World}(h:(execOp a.eval o).run P w = .ok .skip w')(hk:K (a.put o.dst undef) w'):o.wp P a w K Q:=by
 unfold Oper.wp;rw[h];exact hk
theorem hrd_run[Dn]{P:Program}{X:Cx}(hX:CxOk P X){w0:World}{M:Ms}{R0:Nat→Prop}(hB:BaseOk X.gl w0 M R0){A:Asg}{st:St}{S0 S S':Nat→Bool}{a:Act}{w:World}{o:Oper}(hS:∀ s,S0 s=true→S s=true)(hS':∀ s,S' s=true→S s=true∨o.dst=some s)
   (I:Inv w0 M R0 A (st.mask S) a w) {k:St→Prop} (h:hrd X (st.mask S0) st o k) {K:Act→World→Prop} {Q:Exit→Act→World→Prop} (hK:∀ A' F v w',k F→Inv w0 M R0 A' (F.mask S') (a.put o.dst v) w'→K (a.put o.dst v) w'):o.wp P a w K Q:=by
 have I0:Inv w0 M R0 A (st.mask S0) a w:=by
   refine I.weaken rfl rfl (by rw[mask_len,mask_len]) fun j s hs => ?_
   rcases mask_get hs with rfl | ⟨hkn,hs'⟩
   · exact .inl rfl
   · exact .inr ⟨s,mask_mk (hS j hkn) hs',SvEq.refl s⟩
 obtain⟨dst,op,type,pos,after,guard⟩:=o
 unfold hrd at h
 simp only at h
 split at h
 · rename_i T p x
   split at h
   rotate_left
   · exact h.elim
   split at h
   · rename_i t ht
     split at h
     · rename_i i hps
       have hpv:=I0.ev (E:=X.E) p
       rw[psI_ok hps] at hpv
       obtain⟨ob1,hk1,hre⟩:=stP_wo h
       have hk1:k (st.wo ob1):=hk1
       obtain⟨st',w',rfl,I2,hr⟩:=stP_ok I (hX.E.ty _ _ ht) hpv (I0.ev x) (hre (st.mask S) (fun s=>s=(st.wo ob1).mask S) rfl rfl)
       refine wp_skp1 (w':=w') (by simp[execOp,hr]) (hK A _ _ w' hk1 ?_)
       refine I2.weaken rfl rfl (by rw[mask_len,mask_len]) fun j s hs => ?_
       rcases mask_get hs with rfl | ⟨hkn,hs'⟩
       · exact .inl rfl
       · rcases hS' j hkn with h | h
         · exact .inr ⟨s,mask_mk (st:=st.wo ob1) h hs',SvEq.refl s⟩
         · cases h
     split at h
     · rename_i t0 i pp kk q hta
       obtain⟨ob1,hk1,hre⟩:=stT_wo h
       have hk1:k (st.wo ob1):=hk1
       have hpv:=I0.ev (E:=X.E) p
       rw[taI_ok hta] at hpv
       obtain⟨st',w',rfl,I2,hr⟩:=stT_ok I (hX.E.ty _ _ ht) hpv (I0.ev x) (hre (st.mask S) (fun s=>s=(st.wo ob1).mask S) rfl rfl)
       refine wp_skp1 (w':=w') (by simp[execOp,hr]) (hK A _ _ w' hk1 ?_)
       refine I2.weaken rfl rfl (by rw[mask_len,mask_len]) fun j s hs => ?_
       rcases mask_get hs with rfl | ⟨hkn,hs'⟩
       · exact .inl rfl
       · rcases hS' j hkn with h | h
         · exact .inr ⟨s,mask_mk (st:=st.wo ob1) h hs',SvEq.refl s⟩
         · cases h
     obtain⟨ob1,hk1,hre⟩:=sto_wo h
     have hk1:k (st.wo ob1):=hk1
     obtain⟨st',w',rfl,I2,hr⟩:=sto_ok I (hX.E.ty _ _ ht) (I0.ev p) (I0.ev x) (hre (st.mask S) (fun s=>s=(st.wo ob1).mask S) rfl rfl)
     refine wp_skp1 (w':=w') (by simp[execOp,hr]) (hK A _ _ w' hk1 ?_)
     refine I2.weaken rfl rfl (by rw[mask_len,mask_len]) fun j s hs => ?_
     rcases mask_get hs with rfl | ⟨hkn,hs'⟩
     · exact .inl rfl
     · rcases hS' j hkn with h | h
       · exact .inr ⟨s,mask_mk (st:=st.wo ob1) h hs',SvEq.refl s⟩
       · cases h
   · exact h.elim
 · rename_i T
   split at h
   · rename_i t d ht
     split at h
     · exact h.elim
     obtain⟨i,hi,his,hiz,hib⟩:=(hX.E.ty _ _ ht).info
     have hzl:t.zc.length=t.size:=ok_len (w:=w) (ro:=fun _=>True) (ok_zero t)
     have hzc:(t.mk t.zc).cells.toList=t.zc:=mk_cells (t:=t) (cs:=t.zc) hzl (ok_one (w:=w) (ro:=fun _=>True) (ok_zero t))
     obtain⟨A',I2,hn',hη⟩:=I.newVar T (t:=t) (x:=t.z) (cs:=(t.mk t.zc).cells) (by rw[hzc];exact ok_zero t)
     refine wp_val1 (v := .pointer (some ⟨w.heap.size,0,none⟩)) (w':=w.alloc (.cells (t.mk t.zc).cells T)) (by simp[execOp,Instr.alloc,zeroValue,typeInfo,hi,hiz,newVar,newRow]) (hK A' _ _ _ h ?_)
     have I3:=I2.put (d:=some d) (s := .pv t st.ob.length []) (v := .pointer (some ⟨w.heap.size,0,none⟩)) (by
       have hη':A'.η st.ob.length = .pointer (some ⟨w.heap.size,0,none⟩):=hη
       have hn2:A'.n=st.ob.length+1:=hn'
       exact⟨by omega,w.heap.size,0,t,hη',off_nil t,vq_nil t,rfl⟩)
     refine I3.weaken ?_ ?_ ?_ fun j s hs => ?_
     · show (St.put _ _ _).ob=(St.put _ _ _).ob
       rw[St.put_ob,St.put_ob];rfl
     · show (St.put _ _ _).gs=(St.put _ _ _).gs
       rw[St.put_gs,St.put_gs];rfl
     · rw[mask_len,St.put_len,St.put_len]
       show st.tm.length=(st.mask S).tm.length
       rw[mask_len]
     · rcases mask_get hs with rfl | ⟨hkn,hs'⟩
       · exact .inl rfl
       · refine .inr ⟨s,?_,SvEq.refl s⟩
         simp only[St.put] at hs' ⊢
         by_cases hjd:d=j
         · subst hjd
           have hl:=(List.getElem?_eq_some_iff.1 hs').1
           rw[List.length_set] at hl
           rw[List.getElem?_set_self hl] at hs'
           rw[List.getElem?_set_self (by show d<(st.mask S).tm.length;rw[mask_len];exact hl)]
           exact hs'
         · rw[List.getElem?_set_ne hjd] at hs' ⊢
           rcases hS' j hkn with h | h
           · exact mask_mk h hs'
           · injection h with h;exact absurd h hjd
   · exact h.elim
 · rename_i c
   obtain⟨callee,args,at_⟩:=c
   simp only at h
   split at h
   · rename_i s x T T' ha hT
     split at h
     rotate_left
     · exact h.elim
     rename_i hTT;subst hTT
     have ha':args=#[s,x]:=by apply Array.toList_inj.1;simpa using ha
     have hT':at_=#[T,T]:=by apply Array.toList_inj.1;simpa using hT
     subst ha';subst hT'
     obtain⟨ob1,hk1,hre⟩:=apd_wo h
     rw[St.put_ob] at hk1
     have hk1:k ((st.wo ob1).put dst (.os st.ob.length)):=hk1
     obtain⟨A',st',v',w',rfl,I2,hr⟩:=apd_ok (ty:=type) hX.E I (I0.ev s) (I0.ev x) (hre (st.mask S) (fun s=>s=((st.mask S).wo ob1).put dst (.os (st.mask S).ob.length)) rfl rfl)
     refine wp_val1 (v:=v') (w':=w') (by simp[execOp,resolve,invoke,builtin,hr]) (hK A' _ v' w' hk1 ?_)
     refine I2.weaken ?_ ?_ ?_ fun j s hs => ?_
     · rw[St.put_ob];show (St.put _ _ _).ob=_;rw[St.put_ob];rfl
     · rw[St.put_gs];show (St.put _ _ _).gs=_;rw[St.put_gs];rfl
     · rw[mask_len,St.put_len,St.put_len]
       show st.tm.length=(st.mask S).tm.length
       rw[mask_len]
     · rcases mask_get hs with rfl | ⟨hkn,hs'⟩
       · exact .inl rfl
       · refine .inr ⟨s,?_,SvEq.refl s⟩
         cases dst with
         | none =>
           simp only[St.put] at hs' ⊢
           rcases hS' j hkn with h | h
           · exact mask_mk h hs'
           · cases h
         | some d =>
           simp only[St.put] at hs' ⊢
           by_cases hjd:d=j
           · subst hjd
             have hl:=(List.getElem?_eq_some_iff.1 hs').1
             rw[List.length_set] at hl
             rw[List.getElem?_set_self hl] at hs'
             rw[List.getElem?_set_self (by show d<(st.mask S).tm.length;rw[mask_len];exact hl)]
             exact hs'
           · rw[List.getElem?_set_ne hjd] at hs' ⊢
             rcases hS' j hkn with h | h
             · exact mask_mk h hs'
             · injection h with h;exact absurd h hjd
   split at h
   · rename_i f ex hc
     obtain⟨vs,hall,hrun⟩:=run_cee (P:=P) I0 hc (by
       unfold calO at h
       split at h
       · rename_i c' hc'
         exact (hX.Γo.look hc').1
       · exact h.elim) (args:=args)
     unfold calO at h
     split at h
     · rename_i c' hc'
       simp only at h
       generalize hσe:reachA (args.toList.map ((st.mask S0).ev X.E)++ex) st.ob=σ at h
       split at h
       · rename_i hchk
         simp only[Bool.and_eq_true,decide_eq_true_eq] at hchk
         obtain⟨⟨h1,h2⟩,h3⟩:=hchk
         have hnd:=nodupB_ok h1
         obtain⟨hent,hown⟩:=hX.Γo.look hc'
         have Is:=I.sub (σ:=σ) hnd hall
         unfold Oper.wp
         rw[hrun]
         refine (hown _ _ _ h w _ _ _ vs.toArray (hB.sub I σ) rfl Is).mono fun e w' hw => ?_
         obtain⟨v,s,ob',A',rfl,hk,I2,hkeep⟩:=hw
         obtain⟨A'',I3,hs⟩:=I.merge hnd (fun i hi=>by
           have:=List.all_eq_true.1 h2 i hi
           show i<st.ob.length
           simpa using this) h3 hB.me I2 (fun i hi=>(hkeep i hi).trans rfl)
         refine hK A'' _ v w' hk ?_
         have I4:=I3.put (d:=dst) hs
         refine I4.weaken ?_ ?_ ?_ fun j s' hs' => ?_
         · show (St.put _ _ _).ob=(St.put _ _ _).ob
           rw[St.put_ob,St.put_ob];rfl
         · show (St.put _ _ _).gs=(St.put _ _ _).gs
           rw[St.put_gs,St.put_gs];rfl
         · rw[mask_len,St.put_len,St.put_len]
           show (st.tm.map _).length=((st.mask S).tm.map _).length
           rw[List.length_map,List.length_map,mask_len]
         · rcases mask_get hs' with rfl | ⟨hkn,hs2⟩
           · exact .inl rfl
           · have hold : ∀ {j s'}, (st.tm.map (mvT (drF σ (keptN (subSt σ (args.toList.map ((st.mask S0).ev X.E) ++ ex) st.ob).tm)) (drG σ)))[j]? = some s' → S j = true →
                 ((st.mask S).tm.map (mvT (drF σ (keptN (subSt σ (args.toList.map ((st.mask S0).ev X.E)++ex) st.ob).tm)) (drG σ)))[j]?=some s':=by
               intro j s' hj hSj
               rw[List.getElem?_map] at hj ⊢
               obtain⟨s0,e1,e2⟩:=Option.map_eq_some_iff.1 hj
               rw[mask_mk hSj e1]
               exact congrArg some e2
             refine .inr ⟨s',?_,SvEq.refl s'⟩
             cases dst with
             | none =>
               simp only[St.put] at hs2 ⊢
               rcases hS' j hkn with h | h
               · exact hold hs2 h
               · cases h
             | some d =>
               simp only[St.put] at hs2 ⊢
               by_cases hjd:d=j
               · subst hjd
                 have hl:=(List.getElem?_eq_some_iff.1 hs2).1
                 rw[List.length_set] at hl
                 rw[List.getElem?_set_self hl] at hs2
                 rw[List.getElem?_set_self (by
                   simp only[mrg,List.length_map] at hl ⊢
                   rw[mask_len];exact hl)]
                 exact hs2
               · rw[List.getElem?_set_ne hjd] at hs2 ⊢
                 rcases hS' j hkn with h | h
                 · exact hold hs2 h
                 · injection h with h;exact absurd h hjd
       · exact h.elim
     · exact h.elim
   · exact h.elim
 · exact h.elim
def floH(X:Cx)(all:List Oper)(n:Nat)(an:List (List Nat))(ps:List Nat)(G:St):Nat→List Oper→Prop
 | _,[]=>True
 | i,o::r=>match ps.contains i||ps.any (fun q=>needsB an q i) with
   | true=>floH X all n an ps G (i+1) r
   | false=>withM all (G.mask (known all n i)) G o
       (fun G1=>xq1 X (G1.mask (known all n i)) o fun s=>match o.dst with
         | some d=>eqS s (G.tm.getD d .any)
         | none=>True)
       (fun _=>match o.dst with
         | some d=>eqS .und (G.tm.getD d .any)
         | none=>True)∧floH X all n an ps G (i+1) r
def xqh(X:Cx)(all:List Oper)(n:Nat)(an:List (List Nat)):List Nat→List Nat→Nat→St→(St→Prop)→Prop
 | [],ps,b,st,k=>xqm X all n b ((all.take n).drop b) st fun F=>floH X all n an ps F 0 (all.take b)∧k F
 | h::hs,ps,b,st,k=>xqm X all n b ((all.take h).drop b) st fun F=>floH X all n an ps F 0 (all.take b)∧match all[h]? with
   | some o=>withM all (F.mask (known all n h)) F o
       (fun F1=>hrd X (F1.mask (known all n h)) F1 o fun F2=>xqh X all n an hs (h::ps) (h+1) F2 k)
       (fun F1=>xqh X all n an hs (h::ps) (h+1) (F1.put o.dst .und) k)
   | none=>False
def hsB(all:List Oper)(n:Nat)(an:List (List Nat)):Nat→List Nat→Bool
 | b,[]=>decide (b≤n)
 | b,h::hs=>decide (b≤h)&&decide (h<n)&&((List.range n).all fun i => !decide (h<i)||needsB an i h)&&hsB all n an (h+1) hs
def mixHB(all:List Oper)(n:Nat)(hs:List Nat):Bool :=
 decide (n≤all.length)&&backB all n&&oneB all n&&(decide (n=all.length)||(decide (n<all.length)&&Region.sinkB .any all.toArray n&&Region.chainB .any all.toArray n)) &&
   Region.seqB .any all.toArray (all.length - n) n (listedN n all.length)&&hsB all n (ancs all []) 0 hs
theorem floH_get{X:Cx}{all:List Oper}{n:Nat}{an:List (List Nat)}{ps:List Nat}{G:St}:∀ {l:List Oper} {i j:Nat} {o:Oper},floH X all n an ps G i l→l[j]?=some o→i+j∈ps∨(∃ q∈ps,needsB an q (i+j)=true) ∨
   withM all (G.mask (known all n (i+j))) G o
       (fun G1=>xq1 X (G1.mask (known all n (i+j))) o fun s=>match o.dst with
         | some d=>eqS s (G.tm.getD d .any)
         | none=>True)
       (fun _=>match o.dst with
         | some d=>eqS .und (G.tm.getD d .any)
         | none=>True):=by
 intro l
 induction l with
 | nil=>intro i j o _ ho;simp at ho
 | cons o' r ih =>
   intro i j o h ho
   have h':floH X all n an ps G (i+1) r:=by
     unfold floH at h
     split at h
     · exact h
     · exact h.2
   cases j with
   | zero =>
     simp only[List.getElem?_cons_zero,Option.some.injEq] at ho
     subst ho
     rw[Nat.add_zero]
     unfold floH at h
     split at h
     · rename_i hc
       simp only[Bool.or_eq_true,List.any_eq_true] at hc
       rcases hc with hc | ⟨q,h1,h2⟩
       · exact .inl (by simpa using hc)
       · exact .inr (.inl ⟨q,h1,h2⟩)
     · exact .inr (.inr h.1)
   | succ j =>
     have:=ih (j:=j) h' (by simpa using ho)
     rwa [show i+1+j=i+(j+1) by omega] at this
theorem floH_op[Dn]{P:Program}{X:Cx}(hX:CxOk P X){all:List Oper}{n i:Nat}{G:St}{o:Oper}(hi:all[i]?=some o)
   (h:withM all (G.mask (known all n i)) G o
       (fun G1=>xq1 X (G1.mask (known all n i)) o fun s=>match o.dst with
         | some d=>eqS s (G.tm.getD d .any)
         | none=>True)
       (fun _=>match o.dst with
         | some d=>eqS .und (G.tm.getD d .any)
         | none=>True)):OpOk P X.gl all n i o G:=by
 obtain⟨d,st1,heq,hyes,hno,hdec⟩:=withM_dec h
 intro w0 M R0 A a w hB I K Q hK
 have hwant:=hdec rfl I
 unfold wpOp
 rw[List.getElem?_toArray,hi]
 simp only
 have hval:∀ {s:SV} {x:Nat} {sF:SV},eqS s (G.tm.getD x .any)→G.tm[x]?=some sF→s=sF:=by
   intro s x sF he hF
   rw[List.getD_eq_getElem?_getD,hF] at he
   exact eqS_eq he
 cases d with
 | true =>
   rw[if_pos hwant]
   have I1:Inv w0 M R0 A (st1.mask (known all n i)) a w:=by
     refine I.weaken (by show st1.ob=G.ob;rw[heq.1]) (by show st1.gs=G.gs;rw[heq.2.1]) (by rw[mask_len,mask_len,heq.2.2.1]) fun slot s' hs' => ?_
     rcases mask_get hs' with rfl | ⟨hkn,hs1⟩
     · exact .inl rfl
     · have hl:slot<G.tm.length:=by rw[← heq.2.2.1];exact (List.getElem?_eq_some_iff.1 hs1).1
       obtain⟨s2,hs2,e2⟩:=heq.2.2.2 slot G.tm[slot] (List.getElem?_eq_getElem hl)
       rw[hs1] at hs2;injection hs2 with hs2;subst hs2
       exact .inr ⟨_,mask_mk hkn (List.getElem?_eq_getElem hl),e2⟩
   refine .inl (xq1_run hX hB I1 (hyes rfl) fun s' v w' hs' hsm hex hsv=>hK v w' hsm hex fun x sF hd hF => ?_)
   rw[hd] at hs'
   rw[← hval hs' hF]
   have:st1.ob=G.ob:=heq.1
   rw[← this]
   exact hsv
 | false =>
   rw[if_neg (by rw[hwant];decide)]
   refine hK undef w (Same.refl w) (Ext.refl w) fun x sF hd hF => ?_
   have h2:=hno rfl
   rw[hd] at h2
   rw[← hval h2 hF]
   rfl
def Stg[Dn](P:Program)(gl:List (Nat×Dat))(all:List Oper)(n:Nat)(k:St→Prop):List Nat→List Nat→St→Prop
 | [],ps,F=>(∀ (i:Nat) o,i<n→all[i]?=some o→i∈ps∨(∃ q∈ps,Anc all q i)∨OpOk P gl all n i o F)∧k F
 | h::hs,ps,F=>(∀ (i:Nat) o,i<h→all[i]?=some o→i∈ps∨(∃ q∈ps,Anc all q i)∨OpOk P gl all n i o F)∧HardOk P gl all n h F (Stg P gl all n k hs (h::ps))
theorem hsB_spec[Dn]{all:List Oper}{n:Nat}:∀ {hs:List Nat} {b:Nat},hsB all n (ancs all []) b hs=true→∀ h∈hs,b≤h∧h<n∧∀ i,h<i→i<n→Anc all i h:=by
 intro hs
 induction hs with
 | nil=>intro b _ h hm;cases hm
 | cons x r ih =>
   intro b hB h hm
   unfold hsB at hB
   simp only[Bool.and_eq_true,decide_eq_true_eq] at hB
   obtain⟨⟨⟨h1,h2⟩,h3⟩,h4⟩:=hB
   rcases List.mem_cons.1 hm with rfl | hm
   · refine⟨h1,h2,fun i hi hin=>needsB_ok ?_⟩
     have:=List.all_eq_true.1 h3 i (List.mem_range.2 hin)
     simpa [hi] using this
   · obtain⟨k1,k2,k3⟩:=ih h4 h hm
     exact⟨by omega,k2,k3⟩
theorem anyH_ok[Dn]{P:Program}{gl:List (Nat×Dat)}{all:List Oper}{n:Nat}{k:St→Prop}(hn:n≤all.length)(hback:backB all n=true)(htail:n=all.length∨((n<all.length∧Region.sinkB .any all.toArray n=true)∧Region.chainB .any all.toArray n=true))
   (hseq:Region.seqB .any all.toArray (all.length - n) n (listedN n all.length)=true) {w0:World} {M:Ms} {R0:Nat→Prop} (hBs:BaseOk gl w0 M R0) {Q:Exit→Act→World→Prop}
   (hend:∀ F A a w,k F→Inv w0 M R0 A F a w→wpList P all.toArray Q (all.drop n) a w) :
   ∀ (f:Nat) (hs ps:List Nat) (b:Nat) (F:St) (listed:Array Bool) (A:Asg) (a:Act) (w:World),hsB all n (ancs all []) b hs=true→Stg P gl all n k hs ps F→(∀ q∈ps,listed.getD q false=true)→(∀ q∈hs,listed.getD q false=false) →
     HeadInv .any all.toArray n listed→(left n listed).length=f→Inv w0 M R0 A (F.mask (settled all n listed)) a w→wpAny P .any all.toArray Q (f+(all.length - n)) listed a w:=by
 intro f
 induction f with
 | zero =>
   intro hs ps b F listed A a w hsb hst hps hhs inv hf I
   have hall:∀ i,i<n→listed.getD i false=true:=by
     intro i hi
     cases h:listed.getD i false with
     | true=>rfl
     | false =>
       have:i∈left n listed:=by unfold left;rw[List.mem_filter];exact⟨List.mem_range.2 hi,by simp[h]⟩
       rw[List.eq_nil_of_length_eq_zero hf] at this
       cases this
   have hsz:listed.size=all.length:=by simpa using inv.size
   have hl:listed=listedN n all.length:=by
     apply Array.ext
     · rw[hsz];simp[listedN];omega
     · intro i h1 h2
       by_cases hi:i<n
       · have:=hall i hi
         simp only[Array.getD,h1,dif_pos] at this
         simp only[listedN,List.getElem_toArray]
         rw[List.getElem_append_left (by simpa using hi)]
         simpa using this
       · have:=inv.tail i (by omega) (by simpa using (hsz▸h1))
         simp only[Array.getD,h1,dif_pos] at this
         simp only[listedN,List.getElem_toArray]
         rw[List.getElem_append_right (by simpa using hi)]
         simpa using this
   have IF:Inv w0 M R0 A F a w:=by
     refine I.weaken rfl rfl mask_len.symm fun j s hs => .inr ⟨s,mask_mk ?_ hs,SvEq.refl s⟩
     rw[settled_spec]
     intro k o hk _ _
     exact hall k hk
   have hk:k F:=by
     cases hs with
     | nil=>exact hst.2
     | cons h r =>
       have h1:=hhs h (List.mem_cons_self ..)
       rw[hall h (hsB_spec hsb h (List.mem_cons_self ..)).2.1] at h1
       cases h1
   rw[Nat.zero_add,hl]
   have:=wpAny_of_seq (P:=P) (md := .any) (ops:=all.toArray) (Q':=Q) (all.drop n) n (listedN n all.length) a w (fun j=>by simp[List.getElem?_drop]) (by simpa using hseq) (hend F A a w hk IF)
   simpa using this
 | succ f ih =>
   intro hs ps b F listed A a w hsb hst hps hhs inv hf I
   have hsz:listed.size=all.length:=by simpa using inv.size
   have hex:∃ i,i<n∧listed.getD i false=false:=by
     cases hq:left n listed with
     | nil=>rw[hq] at hf;simp at hf
     | cons i r =>
       have:i∈left n listed:=by rw[hq];exact List.mem_cons_self ..
       unfold left at this
       rw[List.mem_filter] at this
       exact⟨i,List.mem_range.1 this.1,by simpa using this.2⟩
   have hleast:∃ i,i<n∧listed.getD i false=false∧∀ j,j<i→listed.getD j false=true:=by
     obtain⟨i,hi,hu⟩:=hex
     induction i using Nat.strongRecOn with
     | _ i ihi =>
       by_cases hc:∃ j,j<i∧listed.getD j false=false
       · obtain⟨j,hj,hju⟩:=hc
         exact ihi j hj (by omega) hju
       · refine⟨i,hi,hu,fun j hj => ?_⟩
         cases hq:listed.getD j false with
         | true=>rfl
         | false=>exact absurd ⟨j,hj,hq⟩ hc
   obtain⟨i0,hi0,hu0,hb0⟩:=hleast
   have hi0l:i0<all.length:=by omega
   have hr0:i0∈Region.ready .any all.toArray listed:=by
     rw[mem_ready]
     refine⟨getD_in (by omega) hu0,all[i0],by simp[hi0l],fun e he hb=>hb0 _ (backB_spec hback hi0 (List.getElem?_eq_getElem hi0l) e he hb)⟩
   have hlt:∀ i,i∈Region.ready .any all.toArray listed→i<n:=by
     intro i hi
     rcases Nat.lt_or_ge i n with h | h
     · exact h
     · rcases htail with ht | ⟨⟨ht,hs⟩,hc⟩
       · obtain⟨_,o,ho,_⟩:=mem_ready.1 hi
         have:=(Array.getElem?_eq_some_iff.1 ho).1
         simp at this;omega
       · exact absurd hi (tail_waits hs hc (by simpa using ht) inv _ i0 rfl hi0 (getD_in (by omega) hu0) i h)
   rw[show f+1+(all.length - n)=(f+(all.length - n))+1 by omega]
   refine And.intro (fun h0=>absurd (h0▸hr0) (by simp)) (fun i hi => ?_)
   have hin:=hlt i hi
   obtain⟨hun,oi,hoi,hedge⟩:=mem_ready.1 hi
   have hoi':all[i]?=some oi:=by simpa using hoi
   have hil:i<listed.size:=by omega
   have hunf:listed.getD i false=false:=by
     simp only[Array.getD,hil,dif_pos] at hun ⊢
     exact hun
   have hknownS:∀ s,known all n i s=true→settled all n listed s=true:=by
     intro s hkn
     rw[settled_spec]
     intro k o hk ho hd
     obtain⟨_,hw⟩:=known_spec hkn hk ho hd
     exact ready_waits hi hw
   have hset1:∀ q,listed.getD q false=true→(listed.setIfInBounds i true).getD q false=true:=by
     intro q hq
     by_cases hiq:i=q
     · subst hiq;rw[hunf] at hq;cases hq
     · rw[getD_set_ne false hiq];exact hq
   have hset0:∀ q,q≠i→listed.getD q false=false→(listed.setIfInBounds i true).getD q false=false:=by
     intro q hq h
     rw[getD_set_ne false (fun e=>hq e.symm)];exact h
   have hnot:i∈ps∨(∃ q∈ps,Anc all q i)→False:=by
     rintro (h | ⟨q,h1,h2⟩)
     · have:=hps i h;rw[hunf] at this;cases this
     · have:=h2.listed inv fun k hk=>listed_waits inv (hps q h1) hk
       rw[hunf] at this;cases this
   have hsoft:OpOk P gl all n i oi F→(∀ q∈hs,q≠i)→wpOp P all.toArray Q i (wpAny P .any all.toArray Q (f+(all.length - n)) (listed.setIfInBounds i true)) a w:=by
     intro hop hne
     refine soft_step hoi' hop hBs hknownS I fun v w' I' => ?_
     exact ih hs ps b F _ A _ _ hsb hst (fun q hq=>hset1 q (hps q hq)) (fun q hq=>hset0 q (hne q hq) (hhs q hq)) (inv.set hi hin) (by have:=left_set hin hil hunf;omega) I'
   cases hs with
   | nil =>
     rcases hst.1 i oi hin hoi' with h | h | h
     · exact (hnot (.inl h)).elim
     · exact (hnot (.inr h)).elim
     · exact hsoft h (fun q hq=>by cases hq)
   | cons h r =>
     obtain⟨hbh,hhn,hanc⟩:=hsB_spec hsb h (List.mem_cons_self ..)
     have hhun:=hhs h (List.mem_cons_self ..)
     have hafter:∀ j,h<j→j<n→listed.getD j false=false:=by
       intro j hj hjn
       cases hq:listed.getD j false with
       | false=>rfl
       | true =>
         have:=(hanc j hj hjn).listed inv fun k hk=>listed_waits inv hq hk
         rw[hhun] at this;cases this
     rcases Nat.lt_trichotomy i h with hlt' | rfl | hgt
     · have hsb':=hsb
       unfold hsB at hsb'
       simp only[Bool.and_eq_true,decide_eq_true_eq] at hsb'
       have hne:∀ q∈h::r,q≠i:=by
         intro q hq
         rcases List.mem_cons.1 hq with rfl | hq
         · omega
         · have:=(hsB_spec hsb'.2 q hq).1;omega
       rcases hst.1 i oi hlt' hoi' with h' | h' | h'
       · exact (hnot (.inl h')).elim
       · exact (hnot (.inr h')).elim
       · exact hsoft h' hne
     · obtain⟨o,ho,hrun⟩:=hst.2
       have:o=oi:=by rw[hoi'] at ho;injection ho with ho;exact ho.symm
       subst this
       have hsb':=hsb
       unfold hsB at hsb'
       simp only[Bool.and_eq_true,decide_eq_true_eq] at hsb'
       refine hrun w0 M R0 A a w hBs listed hil hknownS hunf hafter I _ _ fun A' F' v w' hF' I' => ?_
       refine ih r (i::ps) (i+1) F' _ A' _ _ hsb'.2 hF' (fun q hq => ?_) (fun q hq=>hset0 q (by have:=(hsB_spec hsb'.2 q hq).1;omega) (hhs q (List.mem_cons_of_mem _ hq))) (inv.set hi hin) (by have:=left_set hin hil hunf;omega) I'
       rcases List.mem_cons.1 hq with rfl | hq
       · simp[Array.getD,hil]
       · exact hset1 q (hps q hq)
     · have:=(hanc i hgt hin).listed inv fun k hk=>ready_waits hi hk
       rw[hhun] at this;cases this
theorem xqh_stg[Dn]{P:Program}{X:Cx}(hX:CxOk P X){all:List Oper}{n:Nat}(hn:n≤all.length)(hone:DstOne all n){k:St→Prop}:∀ {hs ps:List Nat} {b:Nat} {st:St},hsB all n (ancs all []) b hs=true→xqh X all n (ancs all []) hs ps b st k →
   ∃ F,Stg P X.gl all n k hs ps F∧F.ob=st.ob∧F.gs=st.gs∧F.tm.length=st.tm.length ∧
     ∀ slot s,(∀ (j:Nat) o,b≤j→j<n→all[j]?=some o→o.dst≠some slot)→st.tm[slot]?=some s→∃ s',F.tm[slot]?=some s'∧SvEq s s':=by
 intro hs
 induction hs with
 | nil =>
   intro ps b st hsb h
   unfold xqh at h
   have hb:b≤n:=by simpa [hsB] using hsb
   have htl:((all.take n).drop b).length=n - b:=by simp;omega
   have hget:∀ j,j<n - b→((all.take n).drop b)[j]?=all[b+j]?:=fun j hj=>by
     rw[List.getElem?_drop,List.getElem?_take,if_pos (by omega)]
   obtain⟨F,⟨hflo,hk⟩,hob,hgs,hlen,hun,hops,-⟩:=xqm_trace (P:=P) hX hone (l:=(all.take n).drop b) (i:=b) (fun j hj=>hget j (by omega)) (by omega) h
   refine⟨F,⟨fun i o hi ho => ?_,hk⟩,hob,hgs,hlen,fun slot s hno hs=>hun slot s (fun j o ho => ?_) hs⟩
   · rcases Nat.lt_or_ge i b with hib | hib
     · rcases floH_get hflo (j:=i) (by rw[List.getElem?_take,if_pos hib];exact ho) with h | ⟨q,h1,h2⟩ | h
       · exact .inl (by simpa using h)
       · exact .inr (.inl ⟨q,h1,needsB_ok (by simpa using h2)⟩)
       · rw[Nat.zero_add] at h
         exact .inr (.inr (floH_op hX ho h))
     · have:=hops (i - b) o (by rw[hget _ (by omega),show b+(i - b)=i by omega];exact ho)
       rw[show b+(i - b)=i by omega] at this
       exact .inr (.inr this)
   · have hj:j<n - b:=by rw[← htl];exact (List.getElem?_eq_some_iff.1 ho).1
     exact hno (b+j) o (by omega) (by omega) (by rw[← hget j hj];exact ho)
 | cons h r ih =>
   intro ps b st hsb hx
   unfold xqh at hx
   have hsb':=hsb
   unfold hsB at hsb'
   simp only[Bool.and_eq_true,decide_eq_true_eq] at hsb'
   obtain⟨⟨⟨hb,hhn⟩,-⟩,hsr⟩:=hsb'
   have htl:((all.take h).drop b).length=h - b:=by simp;omega
   have hget:∀ j,j<h - b→((all.take h).drop b)[j]?=all[b+j]?:=fun j hj=>by
     rw[List.getElem?_drop,List.getElem?_take,if_pos (by omega)]
   obtain⟨F,⟨hflo,hk⟩,hob,hgs,hlen,hun,hops,-⟩:=xqm_trace (P:=P) hX hone (l:=(all.take h).drop b) (i:=b) (fun j hj=>hget j (by omega)) (by omega) hx
   refine⟨F,⟨fun i o hi ho => ?_,?_⟩,hob,hgs,hlen,fun slot s hno hs=>hun slot s (fun j o ho => ?_) hs⟩
   · rcases Nat.lt_or_ge i b with hib | hib
     · rcases floH_get hflo (j:=i) (by rw[List.getElem?_take,if_pos hib];exact ho) with h | ⟨q,h1,h2⟩ | h
       · exact .inl (by simpa using h)
       · exact .inr (.inl ⟨q,h1,needsB_ok (by simpa using h2)⟩)
       · rw[Nat.zero_add] at h
         exact .inr (.inr (floH_op hX ho h))
     · have:=hops (i - b) o (by rw[hget _ (by omega),show b+(i - b)=i by omega];exact ho)
       rw[show b+(i - b)=i by omega] at this
       exact .inr (.inr this)
   · split at hk
     rotate_left
     · exact hk.elim
     rename_i o ho
     refine⟨o,ho,fun w0 M R0 A a w hBs listed hil hknownS hunf hafter I K Q hK => ?_⟩
     obtain⟨d,F1,heq,hyes,hno,hdec⟩:=withM_dec hk
     have I0:Inv w0 M R0 A (F.mask (known all n h)) a w:=by
       refine I.weaken rfl rfl (by rw[mask_len,mask_len]) fun j s hs => ?_
       rcases mask_get hs with rfl | ⟨hkn,hs'⟩
       · exact .inl rfl
       · exact .inr ⟨s,mask_mk (hknownS j hkn) hs',SvEq.refl s⟩
     have hwant:=hdec rfl I0
     have I1:Inv w0 M R0 A (F1.mask (settled all n listed)) a w:=by
       refine I.weaken (by show F1.ob=F.ob;rw[heq.1]) (by show F1.gs=F.gs;rw[heq.2.1]) (by rw[mask_len,mask_len,heq.2.2.1]) fun slot s' hs' => ?_
       rcases mask_get hs' with rfl | ⟨hkn,hs1⟩
       · exact .inl rfl
       · have hl:slot<F.tm.length:=by rw[← heq.2.2.1];exact (List.getElem?_eq_some_iff.1 hs1).1
         obtain⟨s2,hs2,e2⟩:=heq.2.2.2 slot F.tm[slot] (List.getElem?_eq_getElem hl)
         rw[hs1] at hs2;injection hs2 with hs2;subst hs2
         exact .inr ⟨_,mask_mk hkn (List.getElem?_eq_getElem hl),e2⟩
     have hS':∀ s,settled all n (listed.setIfInBounds h true) s=true→settled all n listed s=true∨o.dst=some s:=by
       intro s hs
       by_cases hd:o.dst=some s
       · exact .inr hd
       · left
         rw[settled_spec] at hs ⊢
         intro k o' hk' ho' hd'
         have:=hs k o' hk' ho' hd'
         by_cases hhk:h=k
         · subst hhk
           rw[ho] at ho';injection ho' with ho';subst ho'
           exact absurd hd' hd
         · rw[getD_set_ne false hhk] at this;exact this
     -- the state behind the operation,and behind what is walked next
     have hnext:∀ {A':Asg} {G:St} {v:Value} {w':World},xqh X all n (ancs all []) r (h::ps) (h+1) G k→Inv w0 M R0 A' (G.mask (settled all n (listed.setIfInBounds h true))) (a.put o.dst v) w'→K (a.put o.dst v) w':=by
       intro A' G v w' hG IG
       obtain⟨F',hstg,hob',hgs',hlen',hun'⟩:=ih hsr hG
       refine hK A' F' v w' hstg (IG.weaken hob' hgs' (by rw[mask_len,mask_len,hlen']) fun j s' hs' => ?_)
       rcases mask_get hs' with rfl | ⟨hkn,hs1⟩
       · exact .inl rfl
       · have hl:j<G.tm.length:=by rw[← hlen'];exact (List.getElem?_eq_some_iff.1 hs1).1
         obtain⟨s2,hs2,e2⟩:=hun' j G.tm[j] (fun q o' hq1 hq2 ho' hd'=>by
           rw[settled_spec] at hkn
           have:=hkn q o' hq2 ho' hd'
           rw[getD_set_ne false (by omega),hafter q (by omega) hq2] at this
           cases this) (List.getElem?_eq_getElem hl)
         rw[hs1] at hs2;injection hs2 with hs2;subst hs2
         exact .inr ⟨_,mask_mk hkn (List.getElem?_eq_getElem hl),e2⟩
     unfold wpOp
     rw[List.getElem?_toArray,ho]
     simp only
     cases d with
     | true =>
       rw[if_pos hwant]
       exact .inl (hrd_run hX hBs hknownS hS' I1 (hyes rfl) fun A' G v w' hG IG=>hnext hG IG)
     | false =>
       rw[if_neg (by rw[hwant];decide)]
       refine hnext (A':=A) (hno rfl) ?_
       have I2:=I1.put (d:=o.dst) (s := .und) (v:=undef) rfl
       refine I2.weaken (by show (St.put _ _ _).ob=_;rw[St.put_ob,St.put_ob];rfl) (by show (St.put _ _ _).gs=_;rw[St.put_gs,St.put_gs];rfl) (by rw[mask_len,St.put_len,St.put_len,mask_len]) fun j s' hs' => ?_
       rcases mask_get hs' with rfl | ⟨hkn,hs1⟩
       · exact .inl rfl
       · refine .inr ⟨s',?_,SvEq.refl s'⟩
         cases hd:o.dst with
         | none =>
           rw[hd] at hs1
           rcases hS' j hkn with hj | hj
           · exact mask_mk hj hs1
           · rw[hd] at hj;cases hj
         | some x =>
           rw[hd] at hs1
           simp only[St.put] at hs1 ⊢
           by_cases hxj:x=j
           · subst hxj
             have hl:=(List.getElem?_eq_some_iff.1 hs1).1
             rw[List.length_set] at hl
             rw[List.getElem?_set_self hl] at hs1
             rw[List.getElem?_set_self (by rw[mask_len];exact hl)]
             exact hs1
           · rw[List.getElem?_set_ne hxj] at hs1 ⊢
             rcases hS' j hkn with hj | hj
             · exact mask_mk hj hs1
             · rw[hd] at hj;injection hj with hj;exact absurd hj hxj
   · have hj:j<h - b:=by rw[← htl];exact (List.getElem?_eq_some_iff.1 ho).1
     exact hno (b+j) o (by omega) (by omega) (by rw[← hget j hj];exact ho)
theorem mixH_ok[Dn]{P:Program}{X:Cx}(hX:CxOk P X){all:List Oper}{n:Nat}{hs:List Nat}(hB:mixHB all n hs=true){w0:World}{M:Ms}{R0:Nat→Prop}(hBs:BaseOk X.gl w0 M R0){A:Asg}{st:St}{a:Act}{w:World}(I:Inv w0 M R0 A st a w){k:St→Prop}
   (h:xqh X all n (ancs all []) hs [] 0 st k) {Q:Exit→Act→World→Prop} (hend:∀ A' st' a' w',k st'→Inv w0 M R0 A' st' a' w'→wpList P all.toArray Q (all.drop n) a' w'):AnyW P all.toArray Q a w:=by
 simp only[mixHB,Bool.and_eq_true,decide_eq_true_eq,Bool.or_eq_true] at hB
 obtain⟨⟨⟨⟨⟨hn,hback⟩,hone⟩,htail⟩,hseq⟩,hsb⟩:=hB
 obtain⟨F,hstg,hob,hgs,hlen,hun⟩:=xqh_stg (P:=P) hX hn (oneB_spec hone) hsb h
 refine AnyW.mk ?_
 have I':=I.ext (Cls.drawn w).1 (Cls.drawn w).2
 have inv0:HeadInv .any all.toArray n (Array.replicate all.length false) :=
   ⟨by simp,fun j oj _ hl=>(by rw[getD_replicate_false] at hl;cases hl),fun t _ ht=>getD_in (by simpa using ht) (getD_replicate_false _ _)⟩
 have hleft:(left n (Array.replicate all.length false)).length=n:=by
   unfold left
   rw[List.filter_eq_self.2 (fun i _=>by rw[getD_replicate_false];rfl)]
   simp
 have:=anyH_ok (P:=P) (Q:=Q) hn hback htail hseq hBs (fun F A' a' w' hk hI=>hend A' F a' w' hk hI) n hs [] 0 F (Array.replicate all.length false) A a { w with drawn:=w.drawn+1 } hsb hstg (fun q hq=>by cases hq) (fun q _=>getD_replicate_false _ _) inv0 hleft ?_
 · rw[show n+(all.length - n)=all.length by omega] at this
   simpa using this
 · refine I'.weaken hob hgs (by rw[mask_len,hlen]) fun j s hs => ?_
   rcases mask_get hs with rfl | ⟨hkn,hs'⟩
   · exact .inl rfl
   · rw[settled_spec] at hkn
     have hno:∀ (i:Nat) o,0≤i→i<n→all[i]?=some o→o.dst≠some j:=by
       intro i o _ hi ho hd
       have:=hkn i o hi ho hd
       rw[getD_replicate_false] at this
       cases this
     have hjl:j<st.tm.length:=by rw[← hlen];exact (List.getElem?_eq_some_iff.1 hs').1
     obtain⟨s2,hs2,e2⟩:=hun j _ hno (List.getElem?_eq_getElem hjl)
     rw[hs'] at hs2;injection hs2 with hs2;subst hs2
     exact .inr ⟨_,List.getElem?_eq_getElem hjl,e2⟩
end Go.Vc
