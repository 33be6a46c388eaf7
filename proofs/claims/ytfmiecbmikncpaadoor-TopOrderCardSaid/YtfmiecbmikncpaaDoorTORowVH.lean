import Derived.Test.YtfmiecbmikncpaaDoorTORowVG
namespace Go.Vc
open Go.RowKit
def Asg.pushT(A:Asg)(κ:List Nat→Value)(F:Nat→Prop):Asg :=
 { A with n:=A.n+1,η:=fun i=>if i=A.n then κ [] else A.η i,F:=fun i b=>if i=A.n then F b else A.F i b,κ:=fun i=>if i=A.n then κ else A.κ i }
abbrev Asg.push(A:Asg)(v:Value)(F:Nat→Prop):Asg:=A.pushT (fun _=>v) F
theorem Asg.push_le(A:Asg)(κ:List Nat→Value)(F:Nat→Prop):A.le (A.pushT κ F) :=
 ⟨Nat.le_succ _,fun i hi=>by simp only[Asg.pushT];rw[if_neg (by omega)],fun i hi=>by simp only[Asg.pushT];rw[if_neg (by omega)],rfl⟩
theorem Asg.push_η(A:Asg)(κ:List Nat→Value)(F:Nat→Prop):(A.pushT κ F).η A.n=κ []:=by simp[Asg.pushT]
theorem Asg.push_κ(A:Asg)(κ:List Nat→Value)(F:Nat→Prop):(A.pushT κ F).κ A.n=κ:=by simp[Asg.pushT]
theorem Asg.push_F(A:Asg)(κ:List Nat→Value)(F:Nat→Prop)(b:Nat):(A.pushT κ F).F A.n b↔F b:=by simp[Asg.pushT]
theorem Asg.push_Fo(A:Asg)(κ:List Nat→Value)(F:Nat→Prop){i:Nat}(hi:i≠A.n)(b:Nat):(A.pushT κ F).F i b↔A.F i b:=by simp[Asg.pushT,hi]
structure Same[Dn](w w':World):Prop where
 os:w'.os=w.os
 tape:w'.tape=w.tape
 output:w'.output=w.output
 size:w.heap.size≤w'.heap.size
 drawn:Dn.b=true→w.drawn≤w'.drawn
def dropOb(d:Option Nat)(ob:List Ob):List Ob :=
 match d with
 | some i=>ob.set i .dead
 | none=>ob
theorem Inv.add[Dn]{w0:World}{M:Ms}{R0:Nat→Prop}{A:Asg}{st:St}{a:Act}{w w':World}(I:Inv w0 M R0 A st a w)(d:Option Nat)(κ:List Nat→Value)(F:Nat→Prop)(o:Ob)
   (hsame:Same w w') (hblk:∀ b,b<w.heap.size→(∀ i o',d=some i→st.ob[i]?=some o'→o'.live=true→¬ A.F i b)→w'.heap[b]?=w.heap[b]?)
   (hF:∀ b,F b→(w.heap.size≤b∧b<w'.heap.size)∨∃ i o',d=some i∧st.ob[i]?=some o'∧o'.live=true∧A.F i b)
   (hnew:(∀ b,Ro R0 w0.heap.size A st.ob w b→Ro R0 w0.heap.size (A.pushT κ F) (dropOb d st.ob++[o]) w' b∧w'.heap[b]?=w.heap[b]?) →
     ObOk w' (Ro R0 w0.heap.size (A.pushT κ F) (dropOb d st.ob++[o]) w') (A.pushT κ F) A.n o) :
   Inv w0 M R0 (A.pushT κ F) { st with ob:=dropOb d st.ob++[o] } a w':=by
 have hn:A.n=st.ob.length:=I.num
 have hlen:(dropOb d st.ob).length=st.ob.length:=by cases d<;>simp[dropOb]
 have hget:∀ i,some i≠d→(dropOb d st.ob)[i]?=st.ob[i]?:=by
   intro i hi
   cases d with
   | none=>rfl
   | some j=>exact List.getElem?_set_ne (fun h=>hi (by rw[h]))
 have hd:∀ i,d=some i→i<st.ob.length→(dropOb d st.ob)[i]?=some .dead:=by
   rintro i rfl hi
   simp[dropOb,hi]
 have hlast:(dropOb d st.ob++[o])[st.ob.length]?=some o:=by rw[← hlen];simp
 have hpre:∀ i,i<st.ob.length→(dropOb d st.ob++[o])[i]?=(dropOb d st.ob)[i]?:=fun i hi=>List.getElem?_append_left (by omega)
 have hpast:∀ i x,(dropOb d st.ob++[o])[i]?=some x→i≤st.ob.length:=by
   intro i x hx
   have:=(List.getElem?_eq_some_iff.1 hx).1
   simp at this;omega
 have hro:∀ b,Ro R0 w0.heap.size A st.ob w b→Ro R0 w0.heap.size (A.pushT κ F) (dropOb d st.ob++[o]) w' b∧w'.heap[b]?=w.heap[b]?:=by
   intro b ⟨hb,hr,hno⟩
   refine⟨⟨Nat.lt_of_lt_of_le hb hsame.size,hr,fun i x hx hl hf => ?_⟩,hblk b hb fun i o' _ ho hl hf=>hno i o' ho hl hf⟩
   rcases Nat.lt_or_eq_of_le (hpast i x hx) with hi | hi
   · rw[Asg.push_Fo A κ F (by omega)] at hf
     rw[hpre i hi] at hx
     by_cases hdi:d=some i
     · rw[hd i hdi hi] at hx;injection hx with hx;subst hx;simp[Ob.live] at hl
     · rw[hget i (Ne.symm hdi)] at hx
       exact hno i x hx hl hf
   · subst hi
     rw[← hn,Asg.push_F] at hf
     rcases hF b hf with h | ⟨j,o',_,h2,h3,h4⟩
     · omega
     · exact hno j o' h2 h3 h4
 have hcase:∀ i x,(dropOb d st.ob++[o])[i]?=some x→x.live=true→(d=some i∨st.ob.length≤i)→i=st.ob.length∧x=o:=by
   intro i x hx hl h
   rcases Nat.lt_or_eq_of_le (hpast i x hx) with hi | hi
   · rcases h with h | h
     · rw[hpre i hi,hd i h hi] at hx;injection hx with hx;subst hx;simp[Ob.live] at hl
     · omega
   · subst hi;rw[hlast] at hx;injection hx with hx;exact⟨rfl,hx.symm⟩
 refine I.go_ (fun i=>d=some i) hsame.os hsame.tape hsame.output hsame.size hsame.drawn (fun b hb h=>hblk b hb fun i o' hi ho hl=>h i o' ho hl hi) (A.push_le κ F) (by simp[Asg.pushT,hn,hlen])
   (fun i hi hT=>⟨(hpre i hi).trans (hget i (Ne.symm hT)),fun b=>Asg.push_Fo A κ F (by omega) b⟩) (fun i x b hx hl h hf => ?_) (fun i j x y b hx hy hl hl' h h' _ _ => ?_) (fun i x hx h => ?_)
 · obtain⟨rfl,rfl⟩:=hcase i x hx hl h
   rw[← hn,Asg.push_F] at hf
   rcases hF b hf with h | ⟨j,o',h1,h2,h3,h4⟩
   · exact .inl h
   · exact .inr ⟨j,o',h2,h3,h1,h4⟩
 · rw[(hcase i x hx hl h).1,(hcase j y hy hl' h').1]
 · cases hl:x.live with
   | false=>cases x<;>first | trivial | simp[Ob.live] at hl
   | true =>
     obtain⟨rfl,rfl⟩:=hcase i x hx hl h
     rw[← hn]
     exact hnew hro
theorem Inv.mod[Dn]{w0:World}{M:Ms}{R0:Nat→Prop}{A:Asg}{st:St}{a:Act}{w w':World}(I:Inv w0 M R0 A st a w){i:Nat}{o0:Ob}(o:Ob)(h0:st.ob[i]?=some o0)(hl0:o0.live=true)
   (hsame:Same w w') (hblk:∀ b,b<w.heap.size→¬ A.F i b→w'.heap[b]?=w.heap[b]?)
   (hnew:(∀ b,Ro R0 w0.heap.size A st.ob w b→Ro R0 w0.heap.size A (st.ob.set i o) w' b∧w'.heap[b]?=w.heap[b]?)→ObOk w' (Ro R0 w0.heap.size A (st.ob.set i o) w') A i o) :
   Inv w0 M R0 A { st with ob:=st.ob.set i o } a w':=by
 have hi:i<st.ob.length:=(List.getElem?_eq_some_iff.1 h0).1
 have hself:(st.ob.set i o)[i]?=some o:=by simp[hi]
 have hother:∀ j,j≠i→(st.ob.set i o)[j]?=st.ob[j]?:=fun j hj=>List.getElem?_set_ne (Ne.symm hj)
 have hpast:∀ j x,(st.ob.set i o)[j]?=some x→j<st.ob.length:=by
   intro j x hx
   have:=(List.getElem?_eq_some_iff.1 hx).1
   simpa using this
 have hro:∀ b,Ro R0 w0.heap.size A st.ob w b→Ro R0 w0.heap.size A (st.ob.set i o) w' b∧w'.heap[b]?=w.heap[b]?:=by
   intro b ⟨hb,hr,hno⟩
   refine⟨⟨Nat.lt_of_lt_of_le hb hsame.size,hr,fun j x hx hl hf => ?_⟩,hblk b hb (hno i o0 h0 hl0)⟩
   by_cases hj:j=i
   · subst hj;exact hno j o0 h0 hl0 hf
   · rw[hother j hj] at hx;exact hno j x hx hl hf
 refine I.go_ (fun j=>j=i) hsame.os hsame.tape hsame.output hsame.size hsame.drawn (fun b hb h=>hblk b hb (h i o0 h0 hl0 rfl)) (Asg.le.refl A) (by simp[I.num])
   (fun j hj hT=>⟨hother j hT,fun b=>Iff.rfl⟩) (fun j x b hx hl h hf => ?_) (fun j k x y b hx hy hl hl' h h' _ _ => ?_) (fun j x hx h => ?_)
 · have hj:=hpast j x hx
   have:j=i:=by rcases h with h | h<;>omega
   subst this
   exact .inr ⟨j,o0,h0,hl0,rfl,hf⟩
 · have hj:=hpast j x hx;have hk:=hpast k y hy
   rcases h with h | h<;>rcases h' with h' | h'<;>omega
 · have hj:=hpast j x hx
   have:j=i:=by rcases h with h | h<;>omega
   subst this
   rw[hself] at hx;injection hx with hx;subst hx
   exact hnew hro
theorem Inv.ext[Dn]{w0:World}{M:Ms}{R0:Nat→Prop}{A:Asg}{st:St}{a:Act}{w w':World}(I:Inv w0 M R0 A st a w)(hsame:Same w w')(hblk:Ext w w'):Inv w0 M R0 A st a w':=by
 have:=I.go_ (A':=A) (ob':=st.ob) (fun _=>False) hsame.os hsame.tape hsame.output hsame.size hsame.drawn (fun b hb _=>hblk b hb) (Asg.le.refl A) I.num (fun i hi _=>⟨rfl,fun b=>Iff.rfl⟩)
   (fun i o b ho hl h=>by
     rcases h with h | h
     · exact h.elim
     · have:=(List.getElem?_eq_some_iff.1 ho).1;omega)
   (fun i j o o' b ho ho' hl hl' h=>by
     rcases h with h | h
     · exact h.elim
     · have:=(List.getElem?_eq_some_iff.1 ho).1;omega)
   (fun i o ho h=>by
     rcases h with h | h
     · exact h.elim
     · have:=(List.getElem?_eq_some_iff.1 ho).1;omega)
 exact this
theorem ro_ext[Dn]{w0:World}{M:Ms}{R0:Nat→Prop}{A:Asg}{st:St}{a:Act}{w w':World}(I:Inv w0 M R0 A st a w)(hsz:w.heap.size≤w'.heap.size)(b:Nat)
   (h:Ro R0 w0.heap.size A st.ob w b∨(w.heap.size≤b∧b<w'.heap.size)):Ro R0 w0.heap.size A st.ob w' b:=by
 rcases h with ⟨h1,h2,h3⟩ | ⟨h1,h2⟩
 · exact⟨by omega,h2,h3⟩
 · refine⟨h2,.inr (by have:=I.fr.size;omega),fun i o ho hl hf => ?_⟩
   have:=(I.fp i o b ho hl hf).1
   omega
theorem Same.refl[Dn](w:World):Same w w:=⟨rfl,rfl,rfl,Nat.le_refl _,fun _=>Nat.le_refl _⟩
theorem Same.alloc[Dn](w:World)(o:Obj):Same w (w.alloc o):=⟨rfl,rfl,rfl,by simp,fun _=>Nat.le_refl _⟩
theorem Same.setRow[Dn](w:World)(g:Nat)(cs:Array Value):Same w (w.setRow g cs):=⟨rfl,rfl,rfl,by simp,fun _=>Nat.le_refl _⟩
theorem Ext.alloc(w:World)(o:Obj):Ext w (w.alloc o):=fun b hb=>Below.heap_alloc w o b hb
theorem Inv.newVar[Dn]{w0:World}{M:Ms}{R0:Nat→Prop}{A:Asg}{st:St}{a:Act}{w:World}(I:Inv w0 M R0 A st a w)(e:TypeId){t:Ty}{x:t.D}{cs:Array Value}
   (hx:t.ok w (Ro R0 w0.heap.size A st.ob w) x cs.toList) :
   ∃ A',Inv w0 M R0 A' { st with ob:=st.ob++[.var e t x] } a (w.alloc (.cells cs e))∧A'.n=st.ob.length+1∧A'.η st.ob.length = .pointer (some ⟨w.heap.size,0,none⟩):=by
 have hn:A.n=st.ob.length:=I.num
 refine⟨A.push (.pointer (some ⟨w.heap.size,0,none⟩)) (fun b=>b=w.heap.size),I.add none _ _ _ (Same.alloc w _) (fun b hb _=>Ext.alloc w _ b hb) (fun b hb => .inl ⟨by omega,by simp;omega⟩) (fun hro => ?_),by simp[Asg.pushT,hn],by rw[← hn];exact Asg.push_η ..⟩
 exact⟨w.heap.size,cs,Asg.push_η ..,(Asg.push_F ..).2 rfl,heap_alloc_new w _,ok_mono (fun b hb=>(hro b hb).1) (fun b hb=>(hro b hb).2) hx⟩
end Go.Vc
