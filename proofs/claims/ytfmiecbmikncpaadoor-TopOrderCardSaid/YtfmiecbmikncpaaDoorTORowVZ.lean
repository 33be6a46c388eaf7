import Derived.Test.YtfmiecbmikncpaaDoorTORowVM
import Derived.RangeFuncNested
import Derived.RangeFuncLeaves
namespace Go.Vc
open Go.RowKit
theorem Inv.turn[Dn]{w0:World}{M:Ms}{R0:Nat→Prop}{A:Asg}{st:St}{a:Act}{W W':World}(I:Inv w0 M R0 A st a W){row:Option Nat}(hg:W.grownBy W' row)(hdr:Dn.b=true→W.drawn≤W'.drawn)
   (hr:∀ r,row=some r→w0.heap.size≤r∧¬ A.μ r∧∃ o:Obj,W.heap[r]?=some o∧o.isCells=false) (hmp:∀ i o b,st.ob[i]?=some o→o.isMp=true→A.F i b→some b≠row):Inv w0 M R0 A st a W':=by
 have hr2:∀ r,row=some r→∃ o:Obj,W.heap[r]?=some o∧o.isCells=false:=fun r e=>(hr r e).2.2
 have hKb:∀ b,Kb W W' b:=fun b a u _ hc=>cell_kept hc hg hr2
 have hCb:∀ b,Cb W W' b:=fun b cs e q hb=>(grownBy_keeps_cells hg hr2 hb rfl).trans hb
 have hro:∀ b,Ro R0 w0.heap.size A st.ob W b→Ro R0 w0.heap.size A st.ob W' b∧Kb W W' b:=fun b hb=>⟨⟨Nat.lt_of_lt_of_le hb.1 hg.size,hb.2⟩,hKb b⟩
 refine⟨⟨hg.os.trans I.fr.os,hg.tape.trans I.fr.tape,hg.output.trans I.fr.output,Nat.le_trans I.fr.size hg.size,fun b hb hm => ?_,fun e=>Nat.le_trans (I.fr.drawn e) (hdr e)⟩,I.defers,fun D hD => ?_,I.num,I.len,fun k sv hk=>(I.gh k sv hk).keep hro (Asg.le.refl A),fun j sv hj=>(I.tm j sv hj).keep hro (Asg.le.refl A),fun i o ho => ?_,I.dj,fun i o b ho hl hf => ?_⟩
 · exact (hg.block b (Nat.lt_of_lt_of_le hb I.fr.size) (fun e=>by have:=(hr b e.symm).1;omega)).trans (I.fr.block b hb hm)
 · obtain⟨h1,h2,h3⟩:=I.mks D hD
   exact⟨h1,(hg.block D (Array.getElem?_eq_some_iff.1 h2).1 (fun e=>(hr D e.symm).2.1 hD)).trans h2,h3⟩
 · exact (I.ob i o ho).keep hro (Asg.le.refl A) (by rw[I.num];exact (List.getElem?_eq_some_iff.1 ho).1) (fun _=>Iff.rfl) (fun b _=>hCb b) (fun hm b hf=>hg.block b (I.fp i o b ho (by cases o<;>first | rfl | cases hm) hf).1 (hmp i o b ho hm hf))
 · exact⟨Nat.lt_of_lt_of_le (I.fp i o b ho hl hf).1 hg.size,(I.fp i o b ho hl hf).2⟩
def St.noMp(st:St):Bool:=st.ob.all fun o => !o.isMp
theorem noMp_at{st:St}(h:st.noMp=true){i:Nat}{o:Ob}(ho:st.ob[i]?=some o):o.isMp=false:=by
 have:=List.all_eq_true.1 h o (List.mem_of_getElem? ho)
 simpa using this
def CellsAt(w:World)(b:Nat):Prop:=∃ cs e q,w.heap[b]?=some (.cells cs e q)
def Asg.tight(A:Asg)(w:World):Asg:={ A with F:=fun i b=>A.F i b∧(CellsAt w b∨A.η i = .map (some b)) }
theorem Inv.tight[Dn]{w0:World}{M:Ms}{R0:Nat→Prop}{A:Asg}{st:St}{a:Act}{w:World}(I:Inv w0 M R0 A st a w):Inv w0 M R0 (A.tight w) st a w:=by
 have hro:∀ b,Ro R0 w0.heap.size A st.ob w b→Ro R0 w0.heap.size (A.tight w) st.ob w b∧Kb w w b:=fun b hb=>⟨⟨hb.1,hb.2.1,fun i o ho hl hf=>hb.2.2 i o ho hl hf.1⟩,Kb.of_eq rfl⟩
 have hsv0:∀ {s:SV} {v:Value},SvOk0 w (Ro R0 w0.heap.size A st.ob w) A s v→SvOk0 w (Ro R0 w0.heap.size (A.tight w) st.ob w) (A.tight w) s v:=fun h=>h.keep hro ⟨Nat.le_refl _,fun _ _=>rfl,fun _ _=>rfl,rfl⟩
 refine⟨I.fr,I.defers,fun D hD => ?_,I.num,I.len,fun k sv hk=>(I.gh k sv hk).keep hro ⟨Nat.le_refl _,fun _ _=>rfl,fun _ _=>rfl,rfl⟩,fun j sv hj=>(I.tm j sv hj).keep hro ⟨Nat.le_refl _,fun _ _=>rfl,fun _ _=>rfl,rfl⟩,fun i o ho => ?_,fun i j o o' b hi hj hl hl' hb hb'=>I.dj i j o o' b hi hj hl hl' hb.1 hb'.1,fun i o b ho hl hf=>I.fp i o b ho hl hf.1⟩
 · obtain⟨h1,h2,h3⟩:=I.mks D hD
   exact⟨h1,h2,fun i o ho hl hf=>h3 i o ho hl hf.1⟩
 · have h:=I.ob i o ho
   have hr:∀ b,Ro R0 w0.heap.size A st.ob w b→Ro R0 w0.heap.size (A.tight w) st.ob w b:=fun b hb=>(hro b hb).1
   have hown:∀ {e:TypeId} {size n:Nat} {v:Value} {xs:List Value} {b:Nat},w.ownsRow 0 e size v n xs→v.ownBlock=some b→CellsAt w b:=by
     intro e size n v xs b hw hb
     rcases hw.2 with ⟨h1,_⟩ | ⟨g,cap,cur,h1,_,hh,_⟩
     · rw[h1] at hb;simp[Value.ownBlock] at hb
     · rw[h1] at hb;simp[Value.ownBlock] at hb;subst hb;exact⟨_,_,_,hh⟩
   cases o with
   | var e t x =>
     obtain⟨g,cs,e1,hf,hh,hok⟩:=h
     exact⟨g,cs,e1,⟨hf,.inl ⟨_,_,_,hh⟩⟩,hh,ok_mono hr (fun _ _=>rfl) hok⟩
   | row e t xs =>
     obtain⟨css,hok,hw,hf⟩:=h
     exact⟨css,hok.mono fun x u hu=>⟨hu.1,ok_mono hr (fun _ _=>rfl) hu.2⟩,hw,fun g hg=>⟨hf g hg,.inl (hown hw hg)⟩⟩
   | st e l =>
     obtain⟨g,cs,e1,hf,hh,hok⟩:=h
     exact⟨g,cs,e1,⟨hf,.inl ⟨_,_,_,hh⟩⟩,hh,hok.keep hro ⟨Nat.le_refl _,fun _ _=>rfl,fun _ _=>rfl,rfl⟩⟩
   | trow e u xs =>
     obtain⟨h1,h2,h3,h4⟩:=h
     have key:∀ {u:Ot} {κ:List Nat→Value} {x:u.D},u.nd w (Ro R0 w0.heap.size A st.ob w) κ x→∀ p b,u.vp x p→(κ p).ownBlock=some b→CellsAt w b:=by
       intro u
       induction u with
       | d t=>intro κ x _ p b hp;exact hp.elim
       | sl e u ih =>
         intro κ xs hn p b hp hb
         obtain⟨⟨css,_,_,hw⟩,hrest⟩:=hn
         cases p with
         | nil=>exact hown hw hb
         | cons k p =>
           obtain⟨y,hy,hp'⟩:=hp
           exact ih (hrest k y hy) p b hp' hb
     exact⟨h1,Ot.nd_keep hro (fun _ _ _ _=>Cb.of_eq rfl) h2,h3,fun p b hp hb=>⟨h4 p b hp hb,.inl (key h2 p b hp hb)⟩⟩
   | mp n v es =>
     obtain⟨g,es',clock,e1,hf,hh,hl,hok⟩:=h
     exact⟨g,es',clock,e1,⟨hf,.inr e1⟩,hh,hl,fun j x e h1 h2=>⟨(hok j x e h1 h2).1,(hok j x e h1 h2).2.1,okV_mono hr (fun _ _=>rfl) (hok j x e h1 h2).2.2⟩⟩
   | dead=>trivial
theorem tight_kind[Dn]{w0:World}{M:Ms}{R0:Nat→Prop}{A:Asg}{st:St}{a:Act}{w:World}(I:Inv w0 M R0 (A.tight w) st a w){i:Nat}{o:Ob}{b:Nat}(ho:st.ob[i]?=some o)(hl:o.live=true)(hf:(A.tight w).F i b) :
   CellsAt w b∨o.isMp=true∧∃ es c,w.heap[b]?=some (.map es c):=by
 rcases hf.2 with h | h
 · exact .inl h
 · have hob:=I.ob i o ho
   have hη:(A.tight w).η i = .map (some b):=h
   cases o with
   | var e t x=>obtain⟨g,cs,e1,_⟩:=hob;rw[hη] at e1;cases e1
   | row e t xs =>
     obtain⟨css,_,hown,_⟩:=hob
     rcases hown.2 with ⟨e1,_⟩ | ⟨g,cap,cur,e1,_⟩<;>rw[hη] at e1<;>cases e1
   | st e l=>obtain⟨g,cs,e1,_⟩:=hob;rw[hη] at e1;cases e1
   | trow e u xs =>
     obtain⟨hκ,⟨⟨css,_,_,hown⟩,_⟩,_⟩:=hob
     rw[hκ] at hown
     rcases hown.2 with ⟨e1,_⟩ | ⟨g,cap,cur,e1,_⟩<;>rw[hη] at e1<;>cases e1
   | mp n v es =>
     obtain⟨g,es',clock,e1,_,hh,_⟩:=hob
     rw[hη] at e1
     injection e1 with e1;injection e1 with e1;subst e1
     exact .inr ⟨rfl,_,_,hh⟩
   | dead=>cases hl
def mOf(A:Asg)(st:St)(w:World)(γ:Nat→Nat→Value):Ms:=⟨fun b=>(∃ i o,st.ob[i]?=some o∧o.live=true∧A.F i b)∧CellsAt w b,γ,true⟩
def rOf(w0:World)(R0:Nat→Prop)(A:Asg)(st:St)(w:World)(b:Nat):Prop:=Ro R0 w0.heap.size (A.tight w) st.ob w b∨(mOf A st w fun _ _=>undef).M b
theorem Inv.rebase[Dn]{w0:World}{M:Ms}{R0:Nat→Prop}{A:Asg}{st:St}{a:Act}{w:World}(I:Inv w0 M R0 (A.tight w) st a w)(hd:a.defers=[])(hnm:st.noMp=true) :
   Inv w (mOf A st w M.γ) (rOf w0 R0 A st w) { A.tight w with μ:=fun _=>False } st a w:=by
 have hro:∀ b,Ro R0 w0.heap.size (A.tight w) st.ob w b→Ro (rOf w0 R0 A st w) w.heap.size { A.tight w with μ:=fun _=>False } st.ob w b∧Kb w w b:=fun b hb=>⟨⟨hb.1,.inl (.inl hb),hb.2.2⟩,Kb.of_eq rfl⟩
 have hg:∀ k,gval (mOf A st w M.γ) k=gval M k:=fun k=>by cases k<;>rfl
 have hsv:∀ {s:SV} {v:Value},SvOk w (Ro R0 w0.heap.size (A.tight w) st.ob w) (A.tight w) s v→SvOk w (Ro (rOf w0 R0 A st w) w.heap.size { A.tight w with μ:=fun _=>False } st.ob w) { A.tight w with μ:=fun _=>False } s v:=by
   intro s v h
   have h1:=h.keep hro (Asg.le.refl (A.tight w))
   -- the marks play no part in what a value says
   have e0:∀ {s:SV} {v:Value} {ro:Nat→Prop},SvOk0 w ro (A.tight w) s v→SvOk0 w ro { A.tight w with μ:=fun _=>False } s v:=by
     intro s v ro h;cases s<;>exact h
   have ep:∀ {l:List SV} {cs:List Value} {ro:Nat→Prop},Pcs w ro (A.tight w) l cs→Pcs w ro { A.tight w with μ:=fun _=>False } l cs:=by
     intro l cs ro h
     obtain⟨css,k1,k2,k3⟩:=h
     exact⟨css,k1,k2,fun j s u h1 h2=>⟨(k3 j s u h1 h2).1,(k3 j s u h1 h2).2.1,by obtain⟨v,m1,m2,m3⟩:=(k3 j s u h1 h2).2.2;exact⟨v,m1,e0 m2,m3⟩⟩⟩
   have e1:∀ {s:SV} {v:Value} {ro:Nat→Prop},SvOk1 w ro (A.tight w) s v→SvOk1 w ro { A.tight w with μ:=fun _=>False } s v:=by
     intro s v ro h
     cases s with
     | ag l=>obtain⟨vs,k1,k2⟩:=h;exact⟨vs,k1,ep k2⟩
     | _=>exact h
   cases s with
   | tp l=>obtain⟨vs,k1,k2⟩:=h1;exact⟨vs,k1,k2.mono fun s v h=>e1 h⟩
   | ag l=>exact e1 (s := .ag l) h1
   | _=>exact h1
 refine⟨Fr.refl _ _,⟨by rw[hd];exact List.nodup_nil,fun d hd'=>by rw[hd] at hd';(cases hd')⟩,fun D hD=>hD.elim,I.num,I.len,fun k sv hk=>by rw[hg];exact hsv (I.gh k sv hk),fun j sv hj=>hsv (I.tm j sv hj),fun i o ho => ?_,I.dj,fun i o b ho hl hf=>⟨(I.fp i o b ho hl hf).1,.inr ⟨⟨i,o,ho,hl,hf.1⟩,by
   rcases tight_kind I ho hl hf with h | ⟨h,_⟩
   · exact h
   · rw[noMp_at hnm ho] at h;cases h⟩⟩⟩
 have h:=(I.ob i o ho).keep hro (Asg.le.refl (A.tight w)) (by rw[I.num];exact (List.getElem?_eq_some_iff.1 ho).1) (fun _=>Iff.rfl) (fun _ _=>Cb.of_eq rfl) (fun _ _ _=>rfl)
 cases o with
 | st e l =>
   obtain⟨g,cs,e1,hf,hh,css,k1,k2,k3⟩:=h
   exact⟨g,cs,e1,hf,hh,css,k1,k2,fun j s u h1 h2=>⟨(k3 j s u h1 h2).1,(k3 j s u h1 h2).2.1,by
     obtain⟨v,m1,m2,m3⟩:=(k3 j s u h1 h2).2.2
     refine⟨v,m1,?_,m3⟩
     cases s<;>exact m2⟩⟩
 | _=>exact h
theorem Inv.back[Dn]{w0:World}{M:Ms}{R0:Nat→Prop}{A:Asg}{st:St}{a:Act}{w:World}(I:Inv w0 M R0 (A.tight w) st a w){γ:Nat→Nat→Value}{A2:Asg}{st2:St}{a2:Act}{w2:World}
   (hme:∀ b,M.M b→b<w0.heap.size→R0 b) (I2:Inv w (mOf A st w γ) (rOf w0 R0 A st w) A2 st2 a2 w2):Inv w0 ⟨M.M,γ,M.rd⟩ R0 { A2 with μ:=A.μ } st2 a2 w2:=by
 have hro:∀ b,Ro (rOf w0 R0 A st w) w.heap.size A2 st2.ob w2 b→Ro R0 w0.heap.size { A2 with μ:=A.μ } st2.ob w2 b∧Kb w2 w2 b:=fun b hb=>⟨⟨hb.1,by
   rcases hb.2.1 with (h | ⟨⟨i,o,ho,hl,hf⟩,hc⟩) | h
   · exact h.2.1
   · rcases (I.fp i o b ho hl ⟨hf,.inl hc⟩).2 with h | h
     · exact .inr h
     · rcases Nat.lt_or_ge b w0.heap.size with hlt | hge
       · exact .inl (hme b h hlt)
       · exact .inr hge
   · exact .inr (Nat.le_trans I.fr.size h),hb.2.2⟩,Kb.of_eq rfl⟩
 have hsv:∀ {s:SV} {v:Value},SvOk w2 (Ro (rOf w0 R0 A st w) w.heap.size A2 st2.ob w2) A2 s v→SvOk w2 (Ro R0 w0.heap.size { A2 with μ:=A.μ } st2.ob w2) { A2 with μ:=A.μ } s v:=by
   intro s v h
   have h1:=h.keep hro (Asg.le.refl A2)
   have e0:∀ {s:SV} {v:Value} {ro:Nat→Prop},SvOk0 w2 ro A2 s v→SvOk0 w2 ro { A2 with μ:=A.μ } s v:=by
     intro s v ro h;cases s<;>exact h
   have ep:∀ {l:List SV} {cs:List Value} {ro:Nat→Prop},Pcs w2 ro A2 l cs→Pcs w2 ro { A2 with μ:=A.μ } l cs:=by
     intro l cs ro h
     obtain⟨css,k1,k2,k3⟩:=h
     exact⟨css,k1,k2,fun j s u h1 h2=>⟨(k3 j s u h1 h2).1,(k3 j s u h1 h2).2.1,by obtain⟨v,m1,m2,m3⟩:=(k3 j s u h1 h2).2.2;exact⟨v,m1,e0 m2,m3⟩⟩⟩
   have e1:∀ {s:SV} {v:Value} {ro:Nat→Prop},SvOk1 w2 ro A2 s v→SvOk1 w2 ro { A2 with μ:=A.μ } s v:=by
     intro s v ro h
     cases s with
     | ag l=>obtain⟨vs,k1,k2⟩:=h;exact⟨vs,k1,ep k2⟩
     | _=>exact h
   cases s with
   | tp l=>obtain⟨vs,k1,k2⟩:=h1;exact⟨vs,k1,k2.mono fun s v h=>e1 h⟩
   | ag l=>exact e1 (s := .ag l) h1
   | _=>exact h1
 have hg:∀ k,gval ⟨M.M,γ,M.rd⟩ k=gval (mOf A st w γ) k:=fun k=>by cases k<;>rfl
 have hM:∀ b,(mOf A st w γ).M b→w0.heap.size≤b∨M.M b:=by
   rintro b ⟨⟨i,o,ho,hl,hf⟩,hc⟩
   exact (I.fp i o b ho hl ⟨hf,.inl hc⟩).2
 refine⟨⟨I2.fr.os.trans I.fr.os,I2.fr.tape.trans I.fr.tape,I2.fr.output.trans I.fr.output,Nat.le_trans I.fr.size I2.fr.size,fun b hb hm => ?_,fun e=>Nat.le_trans (I.fr.drawn e) (I2.fr.drawn e)⟩,⟨I2.defers.1,fun d hd=>(by have:=(I2.defers.2 d hd).1;cases this)⟩,fun D hD => ?_,I2.num,I2.len,fun k sv hk=>by rw[hg];exact hsv (I2.gh k sv hk),fun j sv hj=>hsv (I2.tm j sv hj),fun i o ho => ?_,I2.dj,fun i o b ho hl hf=>⟨(I2.fp i o b ho hl hf).1,?_⟩⟩
 · rw[I2.fr.block b (Nat.lt_of_lt_of_le hb I.fr.size) (fun h => ?_),I.fr.block b hb hm]
   rcases hM b h with h | h
   · omega
   · exact hm h
 · obtain⟨h1,h2,h3⟩:=I.mks D hD
   have hlt:=(Array.getElem?_eq_some_iff.1 h2).1
   have hnm:¬ (mOf A st w γ).M D:=by
     rintro⟨_,cs,e,q,hc⟩
     rw[h2] at hc;cases hc
   refine⟨h1,(I2.fr.block D hlt hnm).trans h2,fun i o ho hl hf => ?_⟩
   rcases (I2.fp i o D ho hl hf).2 with h | h
   · omega
   · exact hnm h
 · have h:=(I2.ob i o ho).keep hro (Asg.le.refl A2) (by rw[I2.num];exact (List.getElem?_eq_some_iff.1 ho).1) (fun _=>Iff.rfl) (fun _ _=>Cb.of_eq rfl) (fun _ _ _=>rfl)
   cases o with
   | st e l =>
     obtain⟨g,cs,e1,hf,hh,css,k1,k2,k3⟩:=h
     exact⟨g,cs,e1,hf,hh,css,k1,k2,fun j s u h1 h2=>⟨(k3 j s u h1 h2).1,(k3 j s u h1 h2).2.1,by
       obtain⟨v,m1,m2,m3⟩:=(k3 j s u h1 h2).2.2
       refine⟨v,m1,?_,m3⟩
       cases s<;>exact m2⟩⟩
   | _=>exact h
 · rcases (I2.fp i o b ho hl hf).2 with h | h
   · exact .inl (Nat.le_trans I.fr.size h)
   · exact hM b h
theorem BaseOk.rebase[Dn]{gl:List (Nat×Dat)}{w0:World}{M:Ms}{R0:Nat→Prop}(hB:BaseOk gl w0 M R0){A:Asg}{st:St}{a:Act}{w:World}(I:Inv w0 M R0 (A.tight w) st a w)(γ:Nat→Nat→Value) :
   BaseOk gl w (mOf A st w γ) (rOf w0 R0 A st w) :=
 ⟨(hB.now I).mono (fun b hb=>⟨.inl hb,fun hm=>by
   obtain⟨⟨i,o,ho,hl,hf⟩,hc⟩:=hm
   exact hb.2.2 i o ho hl ⟨hf,.inl hc⟩⟩) (fun _ _=>rfl),fun b hb=>by
   rcases hb with hb | ⟨_,cs,e,q,hc⟩
   · exact hb.1
   · exact (Array.getElem?_eq_some_iff.1 hc).1,fun b hb _ => .inr hb⟩
def frame(d:Nat):Nat→List SV→List (GK×SV)
 | _,[]=>[]
 | j,s::r=>(.slot d j,s)::frame d (j+1) r
def freshB(d:Nat):List (GK×SV)→Bool
 | []=>true
 | x::r=>match x.1 with
   | .slot e _=>if e=d then false else freshB d r
   | .glob _=>freshB d r
theorem frame_mem{d:Nat}:∀ {l:List SV} {j:Nat} {k:GK} {s:SV},(k,s)∈frame d j l→∃ i,l[i]?=some s∧k = .slot d (j+i)
 | [],_,_,_,h=>by cases h
 | x::r,j,k,s,h=>by
   rcases List.mem_cons.1 h with h | h
   · injection h with h1 h2;subst h1;subst h2;exact⟨0,rfl,rfl⟩
   · obtain⟨i,h1,h2⟩:=frame_mem h
     exact⟨i+1,by simpa using h1,by rw[h2];congr 1;omega⟩
theorem freshB_ok{d:Nat}:∀ {l:List (GK×SV)},freshB d l=true→∀ k s j,(k,s)∈l→k ≠ .slot d j
 | [],_,_,_,_,h=>by cases h
 | x::r,hb,k,s,j,h=>by
   unfold freshB at hb
   split at hb
   · rename_i e j' hx
     split at hb
     · cases hb
     · rename_i hne
       rcases List.mem_cons.1 h with h | h
       · have:k=x.1:=by rw[← h]
         rw[this,hx];intro he;injection he with he;exact hne he
       · exact freshB_ok hb k s j h
   · rename_i g hx
     rcases List.mem_cons.1 h with h | h
     · have:k=x.1:=by rw[← h]
       rw[this,hx];intro he;cases he
     · exact freshB_ok hb k s j h
def St.hold(st:St):St:=⟨st.tm,st.ob,frame st.gs.length 0 st.tm++st.gs⟩
def γSet(γ:Nat→Nat→Value)(d:Nat)(tmps:Array Value):Nat→Nat→Value:=fun e j=>if e=d then tmps.getD j undef else γ e j
theorem Inv.hold[Dn]{w0:World}{M:Ms}{R0:Nat→Prop}{A:Asg}{st:St}{a:Act}{w:World}(I:Inv w0 M R0 A st a w)(hf:freshB st.gs.length st.gs=true):Inv w0 ⟨M.M,γSet M.γ st.gs.length a.tmps,M.rd⟩ R0 A st.hold a w:=by
 refine⟨I.fr,I.defers,I.mks,I.num,I.len,fun k sv hk => ?_,I.tm,I.ob,I.dj,I.fp⟩
 rcases List.mem_append.1 hk with hk | hk
 · obtain⟨i,h1,rfl⟩:=frame_mem hk
   show SvOk w _ A sv (γSet M.γ st.gs.length a.tmps st.gs.length (0+i))
   unfold γSet
   rw[if_pos rfl,Nat.zero_add]
   exact I.tm i sv h1
 · have hne:=freshB_ok hf k sv
   have:gval ⟨M.M,γSet M.γ st.gs.length a.tmps,M.rd⟩ k=gval M k:=by
     cases k with
     | glob g=>rfl
     | slot d j =>
       show γSet M.γ st.gs.length a.tmps d j=M.γ d j
       unfold γSet
       rw[if_neg]
       intro e;subst e;exact hne j hk rfl
   rw[this]
   exact I.gh k sv hk
def keysB(d:Nat):Nat→Nat→List (GK×SV)→Bool
 | 0,_,l=>freshB d l
 | n+1,j,x::r=>match x.1 with
   | .slot e i=>if e=d∧i=j then keysB d n (j+1) r else false
   | .glob _=>false
 | _+1,_,[]=>false
def St.pop(d n:Nat)(st:St)(k:St→Prop):Prop :=
 match keysB d n 0 st.gs&&st.noMp with
 | true=>k ⟨(st.gs.take n).map (·.2),st.ob,st.gs.drop n⟩
 | false=>False
theorem keysB_ok{d:Nat}:∀ {n j:Nat} {l:List (GK×SV)},keysB d n j l=true→n≤l.length∧(∀ i s,((l.take n).map (·.2))[i]?=some s→(GK.slot d (j+i),s)∈l)∧freshB d (l.drop n)=true
 | 0,j,l,h=>⟨Nat.zero_le _,fun i s hs=>by simp at hs,by simpa [keysB] using h⟩
 | n+1,j,x::r,h=>by
   unfold keysB at h
   split at h
   · rename_i e i hx
     split at h
     · rename_i he
       obtain⟨rfl,rfl⟩:=he
       obtain⟨h1,h2,h3⟩:=keysB_ok h
       refine⟨by simp;omega,fun m s hs => ?_,by simpa using h3⟩
       cases m with
       | zero =>
         simp at hs;subst hs
         have:x=(GK.slot e (i+0),x.2):=by rw[Nat.add_zero,← hx]
         rw[← this];exact List.mem_cons_self ..
       | succ m =>
         have:=h2 m s (by simpa using hs)
         rw[show i+1+m=i+(m+1) by omega] at this
         exact List.mem_cons_of_mem _ this
     · cases h
   · cases h
 | _+1,_,[],h=>by cases h
theorem Inv.pop[Dn]{w0:World}{M:Ms}{R0:Nat→Prop}{A:Asg}{st:St}{a':Act}{w:World}{d n:Nat}{a:Act}(I:Inv w0 ⟨M.M,γSet M.γ d a.tmps,M.rd⟩ R0 A st a' w)(hn:a.tmps.size=n)(hdf:a.defers.Nodup∧∀ x∈a.defers,M.rd=false∧∃ D,A.μ D∧x={ target := .collected D,args:=#[] }){k:St→Prop}(h:st.pop d n k) :
   ∃ st',st'.noMp=true∧k st'∧Inv w0 M R0 A st' a w:=by
 unfold St.pop at h
 split at h
 · rename_i hkb
   simp only[Bool.and_eq_true] at hkb
   obtain⟨h1,h2,h3⟩:=keysB_ok hkb.1
   refine⟨⟨(st.gs.take n).map (·.2),st.ob,st.gs.drop n⟩,hkb.2,h,I.fr,hdf,I.mks,I.num,by simp[hn];omega,fun k sv hk => ?_,fun j sv hj => ?_,I.ob,I.dj,I.fp⟩
   · have hne:=freshB_ok h3 k sv
     have hm:(k,sv)∈st.gs:=List.mem_of_mem_drop hk
     have:=I.gh k sv hm
     have e:gval ⟨M.M,γSet M.γ d a.tmps,M.rd⟩ k=gval M k:=by
       cases k with
       | glob g=>rfl
       | slot e j =>
         show γSet M.γ d a.tmps e j=M.γ e j
         unfold γSet
         rw[if_neg]
         intro he;subst he;exact hne j hk rfl
     rw[e] at this;exact this
   · have:=I.gh _ sv (h2 j sv hj)
     have e:gval ⟨M.M,γSet M.γ d a.tmps,M.rd⟩ (.slot d (0+j))=a.tmps.getD j undef:=by
       show γSet M.γ d a.tmps d (0+j)=_
       unfold γSet
       rw[if_pos rfl,Nat.zero_add]
     rw[e] at this;exact this
 · exact h.elim
structure LoopAnn where
 α:Type
 nr:List (Nat×TypeId×Ot)
 st:St→α→St
 ok:St→α→Prop
 mu:α→Nat
 ty:Ty := .un
 pre:α→List ty.D:=fun _=>[]
def nilOb(e:TypeId):Ot→Ob
 | .d t => .row e t []
 | .sl e2 u => .trow e (.sl e2 u) []
theorem nilOb_ok{w:World}{ro:Nat→Prop}{A:Asg}{i:Nat}(e:TypeId)(u:Ot)(hη:A.η i = .slice none 0 0)(hκ:A.κ i=fun _ => .slice none 0 0):ObOk w ro A i (nilOb e u):=by
 cases u with
 | d t=>exact⟨[],⟨rfl,fun i x u hx=>by simp at hx⟩,by rw[hη];exact World.ownsRow_nil w 0 e t.size,fun g hg=>by rw[hη] at hg;simp[Value.ownBlock] at hg⟩
 | sl e2 u =>
   refine⟨by rw[hκ,hη],?_,fun p p' b _ _ hb => ?_,fun p b _ hb => ?_⟩
   · rw[hκ]
     exact⟨⟨[],rfl,fun k y c hy=>by simp[ls] at hy,World.ownsRow_nil w 0 e _⟩,fun k y hy=>by simp[ls] at hy⟩
   · rw[hκ] at hb;simp[Value.ownBlock] at hb
   · rw[hκ] at hb;simp[Value.ownBlock] at hb
def pieceNil(st:St)(s p:Nat)(e:TypeId)(t:Ot):St :=
 match st.tm.getD s .any with
 | .ps i=>match st.ob[i]? with
   | some (.st e0 l)=>match l[p]? with
     | some .nils=>{ st with ob:=(st.ob++[nilOb e t]).set i (Ob.st e0 (l.set p (.os st.ob.length))) }
     | _=>st
   | _=>st
 | _=>st
theorem pieceNil_ok[Dn]{w0:World}{M:Ms}{R0:Nat→Prop}{A:Asg}{st:St}{a:Act}{w:World}(I:Inv w0 M R0 A st a w)(s p:Nat)(e:TypeId)(t:Ot):∃ A',Inv w0 M R0 A' (pieceNil st s p e t) a w:=by
 unfold pieceNil
 split
 · rename_i i _
   split
   · rename_i e0 l hob
     split
     · rename_i hpc
       have hn:A.n=st.ob.length:=I.num
       have hi:=(List.getElem?_eq_some_iff.1 hob).1
       have I2:=I.add none (fun _ => .slice none 0 0) (fun b=>(Value.slice none 0 0).ownBlock=some b) (nilOb e t) (Same.refl w) (fun _ _ _=>rfl) (fun b hb=>by simp[Value.ownBlock] at hb) (fun hro =>
         nilOb_ok e t (Asg.push_η ..) (Asg.push_κ ..))
       refine⟨_,I2.mod (i:=i) (o0 := .st e0 l) (.st e0 (l.set p (.os st.ob.length))) (by
         show (st.ob++_)[i]?=_
         rw[List.getElem?_append_left hi];exact hob) rfl (Same.refl w) (fun _ _ _=>rfl) (fun hro => ?_)⟩
       obtain⟨g,cs,hη,hF,hh,css,hcs,hl,hch⟩:=I2.ob i (.st e0 l) (by
         show (st.ob++_)[i]?=_
         rw[List.getElem?_append_left hi];exact hob)
       refine⟨g,cs,hη,hF,hh,css,hcs,by simp[hl],fun j s u hj hu => ?_⟩
       by_cases hjp:p=j
       · subst hjp
         obtain⟨h1,h2,v,hv,hsv,_⟩:=hch p .nils u hpc hu
         have hpl:=(List.getElem?_eq_some_iff.1 hpc).1
         rw[List.getElem?_set_self hpl] at hj
         injection hj with hj;subst hj
         have hv':v = .slice none 0 0:=hsv
         subst hv'
         exact⟨rfl,h2,.slice none 0 0,hv,⟨by simp[Asg.pushT,hn],by rw[← hn,Asg.push_η]⟩,fun _=>rfl⟩
       · rw[List.getElem?_set_ne hjp] at hj
         obtain⟨h1,h2,h3⟩:=hch j s u hj hu
         exact⟨h1,h2,h3.keep (fun b hb=>⟨(hro b hb).1,Kb.of_eq (hro b hb).2⟩) (Asg.le.refl _)⟩
     · exact⟨A,I⟩
   · exact⟨A,I⟩
 · exact⟨A,I⟩
def rowNil(st:St):List (Nat×TypeId×Ot)→St
 | []=>st
 | (j,e,t)::r=>match decide (1000≤j) with
   | true=>rowNil (pieceNil st (j%1000) (j/1000 - 1) e t) r
   | false=>match st.tm.getD j .any with
     | .nils=>rowNil ((st.push (nilOb e t)).put (some j) (.os st.ob.length)) r
     | _=>rowNil st r
theorem rowNil_ok[Dn]{w0:World}{M:Ms}{R0:Nat→Prop}:∀ {l:List (Nat×TypeId×Ot)} {A:Asg} {st:St} {a:Act} {w:World},Inv w0 M R0 A st a w→∃ A',Inv w0 M R0 A' (rowNil st l) a w:=by
 intro l
 induction l with
 | nil=>intro A st a w I;exact⟨A,I⟩
 | cons x r ih =>
   intro A st a w I
   obtain⟨j,e,t⟩:=x
   unfold rowNil
   split
   · obtain⟨A',I'⟩:=pieceNil_ok I (j%1000) (j/1000 - 1) e t
     exact ih I'
   split
   · rename_i hj
     have hlt:j<st.tm.length:=by
       rcases Nat.lt_or_ge j st.tm.length with h | h
       · exact h
       · rw[List.getD_eq_getElem?_getD,List.getElem?_eq_none h] at hj;cases hj
     have hv:a.tmps.getD j undef = .slice none 0 0:=by
       rw[List.getD_eq_getElem?_getD,List.getElem?_eq_getElem hlt] at hj
       have hj':st.tm[j] = .nils:=hj
       have:=I.tm j st.tm[j] (List.getElem?_eq_getElem hlt)
       rw[hj'] at this
       exact this
     have hnum:A.n=st.ob.length:=I.num
     have hI:=(I.add none (fun _ => .slice none 0 0) (fun b=>(Value.slice none 0 0).ownBlock=some b) (nilOb e t) (Same.refl w) (fun _ _ _=>rfl) (fun b hb=>by simp[Value.ownBlock] at hb) (fun hro =>
         nilOb_ok e t (Asg.push_η ..) (Asg.push_κ ..))).put (d:=some j) (s := .os st.ob.length) (v := .slice none 0 0) ⟨by simp[Asg.pushT,hnum],by rw[← hnum,Asg.push_η]⟩
     have hput:a.put (some j) (.slice none 0 0)=a:=by
       have hlt':j<a.tmps.size:=by rw[I.len];exact hlt
       have hv':a.tmps[j] = .slice none 0 0:=by simpa [hlt'] using hv
       simp only[Act.put]
       congr 1
       apply Array.ext_getElem?
       intro i
       rw[Array.getElem?_setIfInBounds]
       split
       · rename_i hi;subst hi;simp[hlt',hv']
       · rfl
     rw[hput] at hI
     exact ih hI
   · exact ih I
def firstReg:Code→Option Nat
 | .region id _ _=>some id
 | .seq a b=>match firstReg a with
   | some i=>some i
   | none=>firstReg b
 | .cond _ a b=>match firstReg a with
   | some i=>some i
   | none=>firstReg b
 | .block _ b=>firstReg b
 | .loop b=>firstReg b
 | .rangeFunc _ _ _ b=>firstReg b
 | _=>none
abbrev Ann:=List (Nat×LoopAnn)
def St.at(st:St)(l:List (Nat×SV)):St:=l.foldl (fun s x=>s.put (some x.1) x.2) st
def St.only(st:St)(l:List Nat):St:=st.mask fun j=>l.contains j
def loopAt(r:Nat)(α:Type)(nr:List (Nat×TypeId×Ot))(st:St→α→St)(ok:St→α→Prop)(mu:α→Nat):Nat×LoopAnn:=(r,{ α,nr,st,ok,mu })
def Ann.look:Ann→Option Nat→Option LoopAnn
 | [],_=>none
 | x::r,i=>match i with
   | some j=>if x.1=j then some x.2 else Ann.look r i
   | none=>none
def Ann.joins(an:Ann):Bool :=
 match an.look (some 3000000) with
 | some _=>true
 | none=>false
def St.i(st:St)(j:Nat):Int :=
 match st.tm.getD j .any with
 | .d (.int _) n=>n
 | _=>0
def St.b(st:St)(j:Nat):Bool :=
 match st.tm.getD j .any with
 | .d .bool b=>b
 | .bt b=>b
 | _=>false
def joinAll:Nat×LoopAnn:=(3000000,{ α:=Unit,nr:=[],st:=fun st _=>st,ok:=fun _ _=>True,mu:=fun _=>0 })
def freezeAt(r:Nat)(l:List Nat):Nat×LoopAnn:=(4000000+r,{ α:=Unit,nr:=l.map fun j=>(j,0,.d .un),st:=fun st _=>st,ok:=fun _ _=>True,mu:=fun _=>0 })
def rangeAt(r:Nat)(ty:Ty)(α:Type)(pre:α→List ty.D)(st:St→α→St)(ok:St→α→Prop):Nat×LoopAnn:=(5000000+r,{ α,nr:=[],st,ok,mu:=fun _=>0,ty,pre })
def Ann.rng(an:Ann)(b:Code):Option LoopAnn :=
 match firstReg b with
 | some r=>an.look (some (5000000+r))
 | none=>none
def Ann.frz(an:Ann)(id:Nat)(st:St):St :=
 match an.look (some (4000000+id)) with
 | some L=>st.frz (st.idsP (L.nr.map fun x=>x.1))
 | none=>st
def Ann.meet(an:Ann)(b:Code):Option LoopAnn :=
 match firstReg b with
 | some r=>an.look (some (1000000+r))
 | none=>none
structure Kn where
 n:St→Prop
 r:St→Prop
 x:Nat→St→Prop
theorem exists_least{p:Nat→Prop}(h:∃ n,p n):∃ n,p n∧∀ m,p m→n≤m:=by
 obtain⟨n,hn⟩:=h
 induction n using Nat.strongRecOn with
 | _ n ih =>
   by_cases hc:∃ m,m<n∧p m
   · obtain⟨m,hm,hp⟩:=hc
     exact ih m hm hp
   · refine⟨n,hn,fun m hm => ?_⟩
     rcases Nat.lt_or_ge m n with h | h
     · exact absurd ⟨m,h,hm⟩ hc
     · exact h
noncomputable def least(p:Nat→Prop):Nat := @dite _ (∃ n,p n) (Classical.propDecidable _) (fun h=>Classical.choose (exists_least h)) (fun _=>0)
theorem least_spec[Dn]{p:Nat→Prop}(h:∃ n,p n):p (least p)∧∀ m,p m→least p≤m:=by
 unfold least
 rw[dif_pos h]
 exact Classical.choose_spec (exists_least h)
end Go.Vc
