import Derived.Test.YtfmiecbmikncpaaDoorTORowVU
namespace Go.Vc
open Go.RowKit
def joinSV(b:Bool):SV→SV→SV
 | .d t x,.d t' y=>if h:t'=t then .d t (bif b then x else h▸y) else .any
 | .bt p,.bt q=>match p,q with
   | true,true => .bt true
   | false,false => .bt false
   | true,false => .d .bool b
   | false,true => .d .bool (!b)
 | .bt p,.d .bool y=>match p with
   | true => .d .bool (b||y)
   | false => .d .bool (!b&&y)
 | .d .bool x,.bt q=>match q with
   | true => .d .bool (!b||x)
   | false => .d .bool (b&&x)
 | .und,.und => .und
 | .nils,.nils => .nils
 | .nilp,.nilp => .nilp
 | .os i,.os j=>if i=j then .os i else .any
 | .ps i,.ps j=>if i=j then .ps i else .any
 | _,_ => .any
def SvLe(s s':SV):Prop:=∀ w ro A v,SvOk w ro A s v→SvOk w ro A s' v
theorem SvLe.refl(s:SV):SvLe s s:=fun _ _ _ _ h=>h
theorem SvLe.trans{a b c:SV}(h:SvLe a b)(k:SvLe b c):SvLe a c:=fun w ro A v x=>k w ro A v (h w ro A v x)
theorem SvEq.le{a b:SV}(h:SvEq a b):SvLe a b:=fun w ro A v x=>(h w ro A v).1 x
theorem SvLe.any(s:SV):SvLe s .any:=fun _ _ _ _ _=>trivial
theorem SvLe.bt[Dn](b:Bool):SvLe (.bt b) (.d .bool b):=(SvEq.bool b).symm.le
theorem SvLe.bd[Dn](b:Bool):SvLe (.d .bool b) (.bt b):=(SvEq.bool b).le
theorem joinSV_l[Dn]{s1 s2:SV}:SvLe s1 (joinSV true s1 s2):=by
 unfold joinSV
 split
 · split
   · exact SvLe.refl _
   · exact SvLe.any _
 · rename_i p q
   cases p<;>cases q
   · exact SvLe.refl _
   · exact SvLe.bt _
   · exact SvLe.bt _
   · exact SvLe.refl _
 · rename_i p y
   cases p
   · exact SvLe.bt _
   · exact SvLe.bt _
 · rename_i x q
   cases q
   · simpa using SvLe.refl (.d .bool x)
   · simpa using SvLe.refl (.d .bool x)
 · exact SvLe.refl _
 · exact SvLe.refl _
 · exact SvLe.refl _
 · split
   · exact SvLe.refl _
   · exact SvLe.any _
 · split
   · exact SvLe.refl _
   · exact SvLe.any _
 · exact SvLe.any _
theorem joinSV_r[Dn]{s1 s2:SV}:SvLe s2 (joinSV false s1 s2):=by
 unfold joinSV
 split
 · split
   · rename_i h;subst h;exact SvLe.refl _
   · exact SvLe.any _
 · rename_i p q
   cases p<;>cases q
   · exact SvLe.refl _
   · exact SvLe.bt _
   · exact SvLe.bt _
   · exact SvLe.refl _
 · rename_i p y
   cases p
   · simpa using SvLe.refl (.d .bool y)
   · simpa using SvLe.refl (.d .bool y)
 · rename_i x q
   cases q
   · exact SvLe.bt _
   · exact SvLe.bt _
 · exact SvLe.refl _
 · exact SvLe.refl _
 · exact SvLe.refl _
 · split
   · rename_i h;subst h;exact SvLe.refl _
   · exact SvLe.any _
 · split
   · rename_i h;subst h;exact SvLe.refl _
   · exact SvLe.any _
 · exact SvLe.any _
def joinL(b:Bool)(ds:List Nat):Nat→List SV→List SV→List SV→List SV
 | j,s::l,x::xs,y::ys=>(if ds.contains j=true then joinSV b x y else s)::joinL b ds (j+1) l xs ys
 | _,l,_,_=>l
def joinSt(b:Bool)(ds:List Nat)(st J1 J2:St):St:=⟨joinL b ds 0 st.tm J1.tm J2.tm,st.ob,st.gs⟩
theorem joinL_get{b:Bool}{ds:List Nat}:∀ {l xs ys:List SV} {j i:Nat} {s':SV},xs.length=l.length→ys.length=l.length→(joinL b ds j l xs ys)[i]?=some s' →
   (ds.contains (j+i)=true∧∃ x y,xs[i]?=some x∧ys[i]?=some y∧s'=joinSV b x y)∨(ds.contains (j+i)=false∧l[i]?=some s'):=by
 intro l
 induction l with
 | nil=>intro xs ys j i s' _ _ h;simp[joinL] at h
 | cons s l ih =>
   intro xs ys j i s' hx hy h
   match xs,ys,hx,hy with
   | x::xs,y::ys,hx,hy =>
     simp only[joinL] at h
     cases i with
     | zero =>
       simp only[List.getElem?_cons_zero,Option.some.injEq] at h
       split at h
       · rename_i hd;exact .inl ⟨hd,x,y,rfl,rfl,h.symm⟩
       · rename_i hd;exact .inr ⟨by simpa using hd,by simp[h]⟩
     | succ i =>
       have:=ih (by simpa using hx) (by simpa using hy) (show (joinL b ds (j+1) l xs ys)[i]?=some s' by simpa using h)
       rw[show j+1+i=j+(i+1) by omega] at this
       simpa using this
theorem joinL_len{b:Bool}{ds:List Nat}:∀ {l xs ys:List SV} {j:Nat},(joinL b ds j l xs ys).length=l.length:=by
 intro l
 induction l with
 | nil=>intro xs ys j;simp[joinL]
 | cons s l ih =>
   intro xs ys j
   match xs,ys with
   | x::xs,y::ys=>simp[joinL,ih]
   | [],_=>simp[joinL]
   | _::_,[]=>simp[joinL]
structure LeSt(F J:St):Prop where
 ob:F.ob=J.ob
 gs:F.gs=J.gs
 len:F.tm.length=J.tm.length
 tm:∀ (j:Nat) s',J.tm[j]?=some s'→∃ s,F.tm[j]?=some s∧SvLe s s'
theorem LeSt.refl[Dn](F:St):LeSt F F:=⟨rfl,rfl,rfl,fun _ s h=>⟨s,h,SvLe.refl s⟩⟩
structure Unt(ds:List Nat)(F st:St):Prop where
 ob:F.ob=st.ob
 gs:F.gs=st.gs
 len:F.tm.length=st.tm.length
 tm:∀ (j:Nat) s,ds.contains j=false→st.tm[j]?=some s→∃ s',F.tm[j]?=some s'∧SvLe s' s
theorem LeSt.join[Dn]{b:Bool}{ds:List Nat}{F st J1 J2:St}(hu:Unt ds F st)(h1:b=true→LeSt F J1)(h2:b=false→LeSt F J2)(l1:J1.tm.length=st.tm.length)(l2:J2.tm.length=st.tm.length):LeSt F (joinSt b ds st J1 J2):=by
 refine⟨hu.ob,hu.gs,by rw[hu.len];exact joinL_len.symm,fun j s' hj => ?_⟩
 rcases joinL_get l1 l2 hj with ⟨hd,x,y,hx,hy,rfl⟩ | ⟨hd,hs⟩
 · cases b
   · obtain⟨s,k1,k2⟩:=(h2 rfl).tm j y hy
     exact⟨s,k1,k2.trans joinSV_r⟩
   · obtain⟨s,k1,k2⟩:=(h1 rfl).tm j x hx
     exact⟨s,k1,k2.trans joinSV_l⟩
 · rw[Nat.zero_add] at hd
   exact hu.tm j s' hd hs
def addD(d:Option Nat)(ds:List Nat):List Nat :=
 match d with
 | some d=>d::ds
 | none=>ds
def dstsL:List Oper→List Nat
 | []=>[]
 | o::r=>addD o.dst (dstsL r)
def withJ(all:List Oper)(ds:List Nat)(mst st:St)(o:Oper)(yes no:St→St):St :=
 match o.guard with
 | none=>yes st
 | some (j,pol)=>match gslot all j with
   | some s=>match mst.tm.getD s .any with
     | .bt true=>match pol with
       | true=>yes st
       | false=>no st
     | .bt false=>match pol with
       | true=>no st
       | false=>yes st
     | .d .bool b=>joinSt b ds st (match pol with
         | true=>yes (st.put (some s) (.bt true))
         | false=>no (st.put (some s) (.bt true))) (match pol with
         | true=>no (st.put (some s) (.bt false))
         | false=>yes (st.put (some s) (.bt false)))
     | .und=>no st
     | _=>st
   | none=>st
def xqmJ(X:Cx)(all:List Oper)(n:Nat):Nat→List Oper→St→St
 | _,[],st=>st
 | i,o::r,st=>withJ all (dstsL (o::r)) (st.mask (known all n i)) st o
     (fun st=>match pickS X.E (st.mask (known all n i)) o.op with
       | some (b,sa,sb)=>joinSt b (dstsL (o::r)) st (xqmJ X all n (i+1) r (st.put o.dst sa)) (xqmJ X all n (i+1) r (st.put o.dst sb))
       | none=>xqmJ X all n (i+1) r (st.put o.dst (xv X (st.mask (known all n i)) o)))
     (fun st=>xqmJ X all n (i+1) r (st.put o.dst .und))
theorem withJ_len[Dn]{all:List Oper}{ds:List Nat}{mst st:St}{o:Oper}{yes no:St→St}(hy:∀ st,(yes st).tm.length=st.tm.length)(hn:∀ st,(no st).tm.length=st.tm.length):(withJ all ds mst st o yes no).tm.length=st.tm.length:=by
 unfold withJ
 split
 · exact hy st
 · split
   · split
     · split
       · exact hy st
       · exact hn st
     · split
       · exact hn st
       · exact hy st
     · exact joinL_len
     · exact hn st
     · rfl
   · rfl
theorem xqmJ_len[Dn]{X:Cx}{all:List Oper}{n:Nat}:∀ {l:List Oper} {i:Nat} {st:St},(xqmJ X all n i l st).tm.length=st.tm.length:=by
 intro l
 induction l with
 | nil=>intro i st;rfl
 | cons o r ih =>
   intro i st
   unfold xqmJ
   refine withJ_len (fun st => ?_) (fun st => ?_)
   · split
     · exact joinL_len
     · rw[ih,St.put_len]
   · rw[ih,St.put_len]
theorem Unt.put[Dn]{ds:List Nat}{F st:St}{d:Option Nat}{s:SV}(h:Unt ds F (st.put d s)):Unt (addD d ds) F st:=by
 refine⟨h.ob.trans (St.put_ob ..),h.gs.trans (St.put_gs ..),h.len.trans (St.put_len ..),fun j x hj hx => ?_⟩
 cases d with
 | none=>exact h.tm j x hj hx
 | some d =>
   have hj':(d::ds).contains j=false:=hj
   rw[List.contains_cons,Bool.or_eq_false_iff] at hj'
   have hne:d≠j:=by
     intro e;subst e;simp at hj'
   exact h.tm j x hj'.2 (by simp only[St.put];rw[List.getElem?_set_ne hne];exact hx)
theorem Unt.eq[Dn]{ds:List Nat}{F st st1:St}(he:StEq st st1)(h:Unt ds F st1):Unt ds F st:=by
 refine⟨h.ob.trans he.1,h.gs.trans he.2.1,h.len.trans he.2.2.1,fun j s hj hs => ?_⟩
 obtain⟨s1,k1,k2⟩:=he.2.2.2 j s hs
 obtain⟨s2,m1,m2⟩:=h.tm j s1 hj k1
 exact⟨s2,m1,m2.trans k2.symm.le⟩
theorem xqm_mono[Dn]{X:Cx}{all:List Oper}{n:Nat}{k k':St→Prop}(hk:∀ F,k F→k' F):∀ {l:List Oper} {i:Nat} {st:St},xqm X all n i l st k→xqm X all n i l st k':=by
 intro l
 induction l with
 | nil=>intro i st h;exact hk _ h
 | cons o r ih =>
   intro i st h
   unfold xqm at h ⊢
   have hy:∀ st:St,xq1 X (st.mask (known all n i)) o (fun s=>xqm X all n (i+1) r (st.put o.dst s) k)→xq1 X (st.mask (known all n i)) o (fun s=>xqm X all n (i+1) r (st.put o.dst s) k'):=by
     intro st h
     obtain⟨s,h1,h2⟩:=xq1_pk _ h
     exact h2 _ (ih h1)
   unfold withM at h ⊢
   split at h
   · rename_i e;try simp only[]
     exact hy _ h
   · rename_i j pol e;try simp only[]
     split at h
     · rename_i s es;try simp only[es]
       split at h
       · rename_i e1;(try simp only[e1])
         cases pol
         · exact ih h
         · exact hy _ h
       · rename_i e1;(try simp only[e1])
         cases pol
         · exact hy _ h
         · exact ih h
       · rename_i b e1;(try simp only[e1])
         cases pol
         · exact⟨fun hb=>ih (h.1 hb),fun hb=>hy _ (h.2 hb)⟩
         · exact⟨fun hb=>hy _ (h.1 hb),fun hb=>ih (h.2 hb)⟩
       · rename_i e1;(try simp only[e1]);exact ih h
       · exact h.elim
     · exact h.elim
theorem mask_real[Dn]{st:St}{S:Nat→Bool}{s:Nat}{sv:SV}(h:(st.mask S).tm.getD s .any=sv)(hne:sv ≠ .any):st.tm[s]?=some sv:=by
 rw[List.getD_eq_getElem?_getD] at h
 cases hq:(st.mask S).tm[s]? with
 | none=>rw[hq] at h;exact absurd h.symm hne
 | some x =>
   rw[hq] at h
   have hx:x=sv:=h
   subst hx
   rcases mask_get hq with h1 | h1
   · exact absurd h1 hne
   · exact h1.2
theorem xqmJ_ok[Dn]{X:Cx}{all:List Oper}{n:Nat}:∀ {l:List Oper} {i:Nat} {st:St},xqm X all n i l st (fun _=>True)→xqm X all n i l st (fun F=>LeSt F (xqmJ X all n i l st)∧Unt (dstsL l) F st):=by
 intro l
 induction l with
 | nil=>intro i st _;exact⟨LeSt.refl st,rfl,rfl,rfl,fun j s _ hs=>⟨s,hs,SvLe.refl s⟩⟩
 | cons o r ih =>
   intro i st h
   have hds:∀ {F st:St} {s:SV},Unt (dstsL r) F (st.put o.dst s)→Unt (dstsL (o::r)) F st:=by
     intro F st s hu
     exact hu.put
   have hyes:∀ st:St,xq1 X (st.mask (known all n i)) o (fun s=>xqm X all n (i+1) r (st.put o.dst s) fun _=>True) →
       xq1 X (st.mask (known all n i)) o (fun s=>xqm X all n (i+1) r (st.put o.dst s) fun F=>LeSt F (match pickS X.E (st.mask (known all n i)) o.op with
       | some (b,sa,sb)=>joinSt b (dstsL (o::r)) st (xqmJ X all n (i+1) r (st.put o.dst sa)) (xqmJ X all n (i+1) r (st.put o.dst sb))
       | none=>xqmJ X all n (i+1) r (st.put o.dst (xv X (st.mask (known all n i)) o)))∧Unt (dstsL (o::r)) F st):=by
     intro st h
     split
     · rename_i b sa sb e
       -- a choice by what is not known
       unfold pickS at e
       split at e
       · rename_i c x y eo
         split at e
         · rename_i b' ec
           injection e with e;injection e with e1 e2;injection e2 with e2 e3;subst e1;subst e2;subst e3
           unfold xq1 at h ⊢
           simp only[eo,isQ,if_true] at h ⊢
           unfold qop at h ⊢
           simp only[mlk] at h ⊢
           unfold qop0 at h ⊢
           simp only[ec] at h ⊢
           refine⟨fun hb=>xqm_mono (fun F hF=>⟨LeSt.join (hds hF.2) (fun _=>hF.1) (fun hb'=>by rw[hb] at hb';cases hb') (by rw[xqmJ_len,St.put_len]) (by rw[xqmJ_len,St.put_len]),hds hF.2⟩) (ih (h.1 hb)),
             fun hb=>xqm_mono (fun F hF=>⟨LeSt.join (hds hF.2) (fun hb'=>by rw[hb] at hb';cases hb') (fun _=>hF.1) (by rw[xqmJ_len,St.put_len]) (by rw[xqmJ_len,St.put_len]),hds hF.2⟩) (ih (h.2 hb))⟩
         · cases e
       · cases e
     · rename_i e
       obtain⟨s,h1,h2⟩:=xq1_pk _ h
       have hs:xv X (st.mask (known all n i)) o=s:=xv_ok e (h2 (fun x=>x=s) rfl)
       refine h2 _ ?_
       rw[hs]
       exact xqm_mono (fun F hF=>⟨hF.1,hds hF.2⟩) (ih h1)
   have hno:∀ st:St,xqm X all n (i+1) r (st.put o.dst .und) (fun _=>True)→xqm X all n (i+1) r (st.put o.dst .und) (fun F=>LeSt F (xqmJ X all n (i+1) r (st.put o.dst .und))∧Unt (dstsL (o::r)) F st) :=
     fun st h=>xqm_mono (fun F hF=>⟨hF.1,hds hF.2⟩) (ih h)
   have hyl:∀ st:St,(match pickS X.E (st.mask (known all n i)) o.op with
       | some (b,sa,sb)=>joinSt b (dstsL (o::r)) st (xqmJ X all n (i+1) r (st.put o.dst sa)) (xqmJ X all n (i+1) r (st.put o.dst sb))
       | none=>xqmJ X all n (i+1) r (st.put o.dst (xv X (st.mask (known all n i)) o))).tm.length=st.tm.length:=by
     intro st
     split
     · exact joinL_len
     · rw[xqmJ_len,St.put_len]
   have hnl:∀ st:St,(xqmJ X all n (i+1) r (st.put o.dst .und)).tm.length=st.tm.length:=fun st=>by rw[xqmJ_len,St.put_len]
   unfold xqm at h ⊢
   unfold xqmJ
   have mono1:∀ {m:St} {k k':SV→Prop},(∀ s,k s→k' s)→xq1 X m o k→xq1 X m o k':=by
     intro m k k' hk h
     obtain⟨s,h1,h2⟩:=xq1_pk _ h
     exact h2 _ (hk _ h1)
   unfold withM at h ⊢
   unfold withJ
   split at h
   · rename_i e;try simp only[e]
     exact hyes _ h
   · rename_i j pol e;try simp only[e]
     split at h
     · rename_i s es;try simp only[es]
       split at h
       · rename_i e1;(try simp only[e1])
         cases pol
         · exact hno _ h
         · exact hyes _ h
       · rename_i e1;(try simp only[e1])
         cases pol
         · exact hyes _ h
         · exact hno _ h
       · rename_i b e1;(try simp only[e1])
         have he:∀ b',b=b'→StEq st (st.put (some s) (.bt b')):=by
           rintro b' rfl
           exact put_eq (mask_real e1 (by simp))
         have hpl:∀ b':Bool,(st.put (some s) (.bt b')).tm.length=st.tm.length:=fun b'=>St.put_len ..
         cases pol
         · refine⟨fun hb=>xqm_mono (fun F hF => ?_) (hno _ (h.1 hb)),fun hb=>mono1 (fun sv hsv=>xqm_mono (fun F hF => ?_) hsv) (hyes _ (h.2 hb))⟩
           · have hu:=hF.2.eq (he true hb)
             exact⟨LeSt.join hu (fun _=>hF.1) (fun hb'=>by rw[hb] at hb';cases hb') (by rw[hnl];exact hpl _) (by rw[hyl];exact hpl _),hu⟩
           · have hu:=hF.2.eq (he false hb)
             exact⟨LeSt.join hu (fun hb'=>by rw[hb] at hb';cases hb') (fun _=>hF.1) (by rw[hnl];exact hpl _) (by rw[hyl];exact hpl _),hu⟩
         · refine⟨fun hb=>mono1 (fun sv hsv=>xqm_mono (fun F hF => ?_) hsv) (hyes _ (h.1 hb)),fun hb=>xqm_mono (fun F hF => ?_) (hno _ (h.2 hb))⟩
           · have hu:=hF.2.eq (he true hb)
             exact⟨LeSt.join hu (fun _=>hF.1) (fun hb'=>by rw[hb] at hb';cases hb') (by rw[hyl];exact hpl _) (by rw[hnl];exact hpl _),hu⟩
           · have hu:=hF.2.eq (he false hb)
             exact⟨LeSt.join hu (fun hb'=>by rw[hb] at hb';cases hb') (fun _=>hF.1) (by rw[hyl];exact hpl _) (by rw[hnl];exact hpl _),hu⟩
       · rename_i e1;(try simp only[e1]);exact hno _ h
       · exact h.elim
     · exact h.elim
theorem Inv.leSt[Dn]{w0:World}{M:Ms}{R0:Nat→Prop}{A:Asg}{F J:St}{a:Act}{w:World}(I:Inv w0 M R0 A F a w)(h:LeSt F J):Inv w0 M R0 A J a w where
 fr:=I.fr
 defers:=I.defers
 mks:=by rw[← h.ob];exact I.mks
 gh:=by rw[← h.ob,← h.gs];exact I.gh
 num:=by rw[← h.ob];exact I.num
 len:=by rw[← h.len];exact I.len
 tm:=by
   intro j sv hj
   obtain⟨s,h1,h2⟩:=h.tm j sv hj
   rw[← h.ob]
   exact h2 _ _ _ _ (I.tm j s h1)
 ob:=by rw[← h.ob];exact I.ob
 dj:=by rw[← h.ob];exact I.dj
 fp:=by rw[← h.ob];exact I.fp
theorem mixJ_ok[Dn]{P:Program}{X:Cx}(hX:CxOk P X){all:List Oper}{n:Nat}(hB:mixB all n=true){w0:World}{M:Ms}{R0:Nat→Prop}(hBs:BaseOk X.gl w0 M R0){A:Asg}{st:St}{a:Act}{w:World}(I:Inv w0 M R0 A st a w){k:St→Prop}
   (h:xqm X all n 0 (all.take n) st (fun _=>True)) (hk:k (xqmJ X all n 0 (all.take n) st)) {Q:Exit→Act→World→Prop} (hend:∀ st' a' w',k st'→Inv w0 M R0 A st' a' w'→wpList P all.toArray Q (all.drop n) a' w'):AnyW P all.toArray Q a w :=
 mix_ok hX hB hBs I (xqmJ_ok h) fun _ a' w' hF I'=>hend _ a' w' hk (I'.leSt hF.1)
end Go.Vc
