import Derived.Test.YtfmiecbmikncpaaDoorTORowVV
namespace Go.Vc
open Go.RowKit
def frS(ob:List Ob)(L:List Nat):SV→SV
 | .os i=>if L.contains i=true then match ob[i]? with
   | some (.row _ t xs) => .d (.sl t) xs
   | _ => .any else .os i
 | .pv t i q=>if L.contains i=true then match q,ob[i]? with
   | [],some (.var _ t1 x)=>if t1=t then .ra t1 x else .any
   | _,_ => .any else .pv t i q
 | .ea t i n q=>if L.contains i=true then .any else .ea t i n q
 | .oc t i a=>if L.contains i=true then .any else .oc t i a
 | .ps i=>if L.contains i=true then .any else .ps i
 | .pf t i o q=>if L.contains i=true then .any else .pf t i o q
 | .tv i p=>if L.contains i=true then .any else .tv i p
 | .ta t i p k q=>if L.contains i=true then .any else .ta t i p k q
 | .ag _ => .any
 | .tp _ => .any
 | s=>s
def pcN:SV→SV
 | .ra t x => .d (.ptr t) (some x)
 | s=>s
theorem pcN_ok{w:World}{ro:Nat→Prop}{A:Asg}{s:SV}{v:Value}(h:SvOk0 w ro A s v):SvOk0 w ro A (pcN s) v:=by
 unfold pcN
 split
 · obtain⟨ad,us,rfl,h1,h2,h3,h4⟩:=h;exact⟨ad,us,rfl,h1,h2,h3,h4⟩
 · exact h
def frO(ob:List Ob)(L:List Nat):Ob→Ob
 | .st e l=>if (l.map fun s=>pcN (frS ob L s)).all SV.one=true then .st e (l.map fun s=>pcN (frS ob L s)) else .dead
 | o=>o
def frL(ob:List Ob)(L:List Nat):Nat→List Ob→List Ob
 | _,[]=>[]
 | i,o::r=>(if L.contains i=true then .dead else frO ob L o)::frL ob L (i+1) r
def St.frz(st:St)(L:List Nat):St:=⟨st.tm.map (frS st.ob L),frL st.ob L 0 st.ob,st.gs.map fun x=>(x.1,frS st.ob L x.2)⟩
theorem frO_live{ob:List Ob}{L:List Nat}{o:Ob}(h:(frO ob L o).live=true):o.live=true:=by
 cases o with
 | st e l=>rfl
 | _=>exact h
theorem frL_get{ob:List Ob}{L:List Nat}:∀ {l:List Ob} {i k:Nat} {o:Ob},(frL ob L i l)[k]?=some o→(L.contains (i+k)=true∧o = .dead)∨(L.contains (i+k)=false∧∃ o0,l[k]?=some o0∧o=frO ob L o0):=by
 intro l
 induction l with
 | nil=>intro i k o h;simp[frL] at h
 | cons x r ih =>
   intro i k o h
   cases k with
   | zero =>
     simp only[frL,List.getElem?_cons_zero,Option.some.injEq] at h
     split at h
     · rename_i hc;exact .inl ⟨by simpa using hc,h.symm⟩
     · rename_i hc;exact .inr ⟨by simpa using hc,x,rfl,h.symm⟩
   | succ k =>
     have:=ih (show (frL ob L (i+1) r)[k]?=some o by simpa [frL] using h)
     rw[show i+1+k=i+(k+1) by omega] at this
     simpa using this
theorem frL_len{ob:List Ob}{L:List Nat}:∀ {l:List Ob} {i:Nat},(frL ob L i l).length=l.length
 | [],_=>rfl
 | _::r,_=>by simp[frL,frL_len (l:=r)]
theorem frS_len{ob:List Ob}{L:List Nat}{s:SV}(h:s.one=true)(h2:(pcN (frS ob L s)).one=true):(pcN (frS ob L s)).len=s.len∧((pcN (frS ob L s)).nd=true→s.nd=true):=by
 cases s with
 | d t x=>exact⟨rfl,fun h=>h⟩
 | os i =>
   simp only[frS] at h2 ⊢
   split
   · split
     · exact⟨rfl,fun _=>rfl⟩
     · exact⟨rfl,fun _=>rfl⟩
   · exact⟨rfl,fun _=>rfl⟩
 | pv t i q =>
   simp only[frS] at h2 ⊢
   split
   · split
     · split
       · exact⟨rfl,fun _=>rfl⟩
       · exact⟨rfl,fun _=>rfl⟩
     · exact⟨rfl,fun _=>rfl⟩
   · exact⟨rfl,fun _=>rfl⟩
 | ps i =>
   simp only[frS] at h2 ⊢
   split
   · exact⟨rfl,fun _=>rfl⟩
   · exact⟨rfl,fun _=>rfl⟩
 | pf t i o q =>
   simp only[frS] at h2 ⊢
   split
   · exact⟨rfl,fun _=>rfl⟩
   · exact⟨rfl,fun _=>rfl⟩
 | bt b=>exact⟨rfl,fun _=>rfl⟩
 | nils=>exact⟨rfl,fun _=>rfl⟩
 | nilp=>exact⟨rfl,fun _=>rfl⟩
 | _=>simp[SV.one] at h
theorem Inv.frz[Dn]{w0:World}{M:Ms}{R0:Nat→Prop}{A:Asg}{st:St}{a:Act}{w:World}(I:Inv w0 M R0 A st a w)(L:List Nat)(hM:∀ b,M.M b→b<w0.heap.size→R0 b):Inv w0 M R0 A (st.frz L) a w:=by
 have hob:∀ (k:Nat) o,(st.frz L).ob[k]?=some o→o.live=true→L.contains k=false∧∃ o0,st.ob[k]?=some o0∧o=frO st.ob L o0:=by
   intro k o ho hl
   rcases frL_get ho with ⟨_,rfl⟩ | ⟨h1,h2⟩
   · cases hl
   · rw[Nat.zero_add] at h1;exact⟨h1,h2⟩
 have hr:∀ b,Ro R0 w0.heap.size A st.ob w b→Ro R0 w0.heap.size A (st.frz L).ob w b:=by
   intro b ⟨h1,h2,h3⟩
   refine⟨h1,h2,fun k o ho hl hf => ?_⟩
   obtain⟨_,o0,k1,rfl⟩:=hob k o ho hl
   exact h3 k o0 k1 (frO_live hl) hf
 have hr':∀ b,Ro R0 w0.heap.size A st.ob w b→Ro R0 w0.heap.size A (st.frz L).ob w b∧Kb w w b:=fun b hb=>⟨hr b hb,Kb.of_eq rfl⟩
 -- a block that is given up is read-only
 have hfree:∀ {i:Nat} {o1:Ob} {b:Nat},L.contains i=true→st.ob[i]?=some o1→o1.live=true→A.F i b→Ro R0 w0.heap.size A (st.frz L).ob w b:=by
   intro i o1 b hc h1 hl1 hf
   refine⟨(I.fp i _ b h1 hl1 hf).1,?_,fun k o ho hl hfk => ?_⟩
   · rcases (I.fp i _ b h1 hl1 hf).2 with h | h
     · exact .inr h
     · rcases Nat.lt_or_ge b w0.heap.size with hlt | hge
       · exact .inl (hM b h hlt)
       · exact .inr hge
   · obtain⟨hk,o0,k1,rfl⟩:=hob k o ho hl
     have:=I.dj i k _ o0 _ h1 k1 hl1 (frO_live hl) hf hfk
     subst this
     rw[hc] at hk;cases hk
 -- one value
 have hsv:∀ {s:SV} {v:Value},SvOk0 w (Ro R0 w0.heap.size A st.ob w) A s v→SvOk0 w (Ro R0 w0.heap.size A (st.frz L).ob w) A (frS st.ob L s) v:=by
   intro s v h
   cases s with
   | os i =>
     simp only[frS]
     split
     · rename_i hc
       split
       · rename_i e t xs hrow
         obtain⟨Ad,c,css,rfl,hc1,hc2,hoks,hcell⟩:=elems_ok (s := .os i) (t:=t) (xs:=xs) I (by simp[elems,hrow]) h
         refine⟨Ad,c,rfl,hc1,hc2,fun hne => ?_⟩
         obtain⟨ad,e1,hsp,hlt,hc'⟩:=hcell hne
         refine⟨ad,css,e1,hsp,?_,hoks.mono fun x u hu=>⟨hu.1,ok_mono hr (fun _ _=>rfl) hu.2⟩,hc'⟩
         obtain⟨_,hv⟩:=h
         obtain⟨css',_,_,hF⟩:=I.ob i _ hrow
         exact hfree hc hrow rfl (hF ad.block (by rw[← hv,e1];rfl))
       · trivial
     · exact SvOk0.keep (s := .os i) hr' (Asg.le.refl A) h
   | pv t i q =>
     simp only[frS]
     split
     · rename_i hc
       split
       · rename_i e t1 x hvar
         split
         · rename_i ht
           obtain⟨_,g,o,t',e1,ho,_,rfl⟩:=h
           rw[off_nil] at ho
           injection ho with ho;injection ho with ho1 ho2;subst ho1;subst ho2
           obtain⟨g',cs,e2,hf,hh,hok⟩:=I.ob i _ hvar
           rw[e1] at e2;injection e2 with e2;injection e2 with e2;injection e2 with e2;subst e2
           refine⟨⟨g,0,none⟩,cs.toList,rfl,rfl,hfree hc hvar rfl hf,fun j u hj => ?_,ok_mono hr (fun _ _=>rfl) hok⟩
           rw[addr_add,cell_of_row w g _ cs e (0,0) hh];simpa using hj
         · trivial
       · trivial
     · exact SvOk0.keep (s := .pv t i q) hr' (Asg.le.refl A) h
   | ea t i n q =>
     simp only[frS]
     split
     · trivial
     · exact SvOk0.keep (s := .ea t i n q) hr' (Asg.le.refl A) h
   | oc t i a =>
     simp only[frS]
     split
     · trivial
     · exact SvOk0.keep (s := .oc t i a) hr' (Asg.le.refl A) h
   | ps i =>
     simp only[frS]
     split
     · trivial
     · exact SvOk0.keep (s := .ps i) hr' (Asg.le.refl A) h
   | pf t i o q =>
     simp only[frS]
     split
     · trivial
     · exact SvOk0.keep (s := .pf t i o q) hr' (Asg.le.refl A) h
   | tv i p =>
     simp only[frS]
     split
     · trivial
     · exact SvOk0.keep (s := .tv i p) hr' (Asg.le.refl A) h
   | ta t i p k q =>
     simp only[frS]
     split
     · trivial
     · exact SvOk0.keep (s := .ta t i p k q) hr' (Asg.le.refl A) h
   | d t x=>exact SvOk0.keep (s := .d t x) hr' (Asg.le.refl A) h
   | ra t x=>exact SvOk0.keep (s := .ra t x) hr' (Asg.le.refl A) h
   | fs t x=>exact SvOk0.keep (s := .fs t x) hr' (Asg.le.refl A) h
   | bt b=>exact h
   | nils=>exact h
   | nilp=>exact h
   | und=>exact h
   | any=>trivial
   | ag l=>trivial
   | tp l=>trivial
 have nag:∀ s:SV,(∀ l,frS st.ob L s ≠ .ag l)∧(∀ l,frS st.ob L s ≠ .tp l):=by
   intro s
   cases s<;>simp only[frS]<;>(try split)<;>(try split)<;>(try split)<;>simp
 have up:∀ {s:SV} {v:Value},(∀ l,s ≠ .ag l)→(∀ l,s ≠ .tp l)→SvOk0 w (Ro R0 w0.heap.size A (st.frz L).ob w) A s v→SvOk w (Ro R0 w0.heap.size A (st.frz L).ob w) A s v:=by
   intro s v h1 h2 h
   cases s with
   | ag l=>exact absurd rfl (h1 l)
   | tp l=>exact absurd rfl (h2 l)
   | _=>exact h
 have hsv2:∀ {s:SV} {v:Value},SvOk w (Ro R0 w0.heap.size A st.ob w) A s v→SvOk w (Ro R0 w0.heap.size A (st.frz L).ob w) A (frS st.ob L s) v:=by
   intro s v h
   cases s with
   | ag l=>trivial
   | tp l=>trivial
   | d t x=>exact up (nag _).1 (nag _).2 (hsv (s := .d t x) h)
   | bt b=>exact h
   | os i=>exact up (nag _).1 (nag _).2 (hsv (s := .os i) h)
   | pv t i q=>exact up (nag _).1 (nag _).2 (hsv (s := .pv t i q) h)
   | ea t i k q=>exact up (nag _).1 (nag _).2 (hsv (s := .ea t i k q) h)
   | oc t i a=>exact up (nag _).1 (nag _).2 (hsv (s := .oc t i a) h)
   | ra t x=>exact up (nag _).1 (nag _).2 (hsv (s := .ra t x) h)
   | fs t x=>exact up (nag _).1 (nag _).2 (hsv (s := .fs t x) h)
   | ps i=>exact up (nag _).1 (nag _).2 (hsv (s := .ps i) h)
   | pf t i o q=>exact up (nag _).1 (nag _).2 (hsv (s := .pf t i o q) h)
   | tv i p=>exact up (nag _).1 (nag _).2 (hsv (s := .tv i p) h)
   | ta t i p k q=>exact up (nag _).1 (nag _).2 (hsv (s := .ta t i p k q) h)
   | nils=>exact h
   | nilp=>exact h
   | und=>exact h
   | any=>trivial
 refine⟨I.fr,I.defers,fun D hD => ?_,by rw[I.num];exact frL_len.symm,by rw[I.len];simp[St.frz],fun k sv hk => ?_,fun j sv hj => ?_,fun k o ho => ?_,fun k1 k2 o o' b hi hj hl hl' hb hb' => ?_,fun k o b hi hl hb => ?_⟩
 · obtain⟨h1,h2,h3⟩:=I.mks D hD
   refine⟨h1,h2,fun k o ho hl hf => ?_⟩
   obtain⟨_,o0,k1,rfl⟩:=hob k o ho hl
   exact h3 k o0 k1 (frO_live hl) hf
 · simp only[St.frz,List.mem_map] at hk
   obtain⟨x,hx,he⟩:=hk
   injection he with he1 he2;subst he1;subst he2
   exact hsv2 (I.gh _ _ hx)
 · simp only[St.frz,List.getElem?_map] at hj
   obtain⟨s,h1,rfl⟩:=Option.map_eq_some_iff.1 hj
   exact hsv2 (I.tm j s h1)
 · rcases frL_get ho with ⟨_,rfl⟩ | ⟨_,o0,k1,rfl⟩
   · trivial
   · have h:=I.ob k o0 k1
     have hk:k<A.n:=by rw[I.num];exact (List.getElem?_eq_some_iff.1 k1).1
     cases o0 with
     | st e l =>
       obtain⟨g,cs,e1,hf,hh,hok⟩:=h
       simp only[frO]
       split
       · rename_i hone
         exact⟨g,cs,e1,hf,hh,hok.map hone fun s v h1 h2 h3=>⟨pcN_ok (hsv h3),frS_len h1 h2⟩⟩
       · trivial
     | var e t x=>exact h.keep hr' (Asg.le.refl A) hk (fun _=>Iff.rfl) (fun _ _=>Cb.of_eq rfl) (fun _ _ _=>rfl)
     | row e t x=>exact h.keep hr' (Asg.le.refl A) hk (fun _=>Iff.rfl) (fun _ _=>Cb.of_eq rfl) (fun _ _ _=>rfl)
     | trow e t x=>exact h.keep hr' (Asg.le.refl A) hk (fun _=>Iff.rfl) (fun _ _=>Cb.of_eq rfl) (fun _ _ _=>rfl)
     | mp n v es=>exact h.keep hr' (Asg.le.refl A) hk (fun _=>Iff.rfl) (fun _ _=>Cb.of_eq rfl) (fun _ _ _=>rfl)
     | dead=>trivial
 · obtain⟨_,o0,a1,rfl⟩:=hob k1 o hi hl
   obtain⟨_,o1,b1,rfl⟩:=hob k2 o' hj hl'
   exact I.dj k1 k2 o0 o1 b a1 b1 (frO_live hl) (frO_live hl') hb hb'
 · obtain⟨_,o0,a1,rfl⟩:=hob k o hi hl
   exact I.fp k o0 b a1 (frO_live hl) hb
def osL:List SV→List Nat
 | []=>[]
 | .os i::r=>i::osL r
 | _::r=>osL r
def St.idsP(st:St):List Nat→List Nat
 | []=>[]
 | j::r=>match st.tm.getD j .any with
   | .os i=>i::st.idsP r
   | .pv _ i _=>i::st.idsP r
   | .ps i=>match st.ob.getD i .dead with
     | .st _ l=>osL l++st.idsP r
     | _=>st.idsP r
   | _=>st.idsP r
def St.ids(st:St):List Nat→List Nat
 | []=>[]
 | j::r=>match st.tm.getD j .any with
   | .os i=>i::st.ids r
   | .pv _ i _=>i::st.ids r
   | _=>st.ids r
end Go.Vc
