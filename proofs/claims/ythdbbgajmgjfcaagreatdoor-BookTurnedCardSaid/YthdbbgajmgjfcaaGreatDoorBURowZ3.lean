/- Own texts, merged and cut: BkTv, BkTw, KV13, BkTx, BkSh, BkGz, BkGy. -/
import Derived.Test.YthdbbgajmgjfcaaGreatDoorBURowZ2
import Derived.Stop.LaidErr
import Derived.HandedShaped
import Derived.RowKit
import Derived.Handed
import Derived.Test.YthdbbgajmgjfcaaGreatDoorRows
import Derived.Lay
import Derived.LaidMore
namespace Go.Proofs.YthdbbgajmgjfcaaGreatDoor
open Go.Vc Go.Proofs Go.RowKit
def flatL (ws : List (List UInt8)) : List UInt8:=(ws.map (· ++ [10])).flatten
theorem flat_cons (w : List UInt8) (ws : List (List UInt8)) : flatL (w::ws)=w++10::flatL ws:=by unfold flatL; simp
theorem textL_flat (L : List (List Int)) : textL L=flatL (L.map bodyL):=by unfold textL flatL; rw [List.map_map]; rfl
theorem whole_flat : ∀ ws : List (List UInt8),(∀ w∈ws,(10 : UInt8)∉w)→wholeL (flatL ws)=ws:=by
 intro ws h
 have key : ∀ ws : List (List UInt8),(∀ w∈ws,(10 : UInt8)∉w)→splL 10 (flatL ws)=ws++[[]]:=by
   intro ws
   induction ws with
   | nil=>intro _; rfl
   | cons w ws ih =>
     intro h
     rw [flat_cons,splL_sep,splL_one 10 _ (h w (List.mem_cons_self ..)),ih fun x hx=>h x (List.mem_cons_of_mem _ hx)]; rfl
 unfold wholeL; rw [key ws h]; simp
theorem flat_turn : ∀ (ws : List (List UInt8)),(∀ w∈ws,(10 : UInt8)∉w)→∀ i,i < (flatL ws).length→(flatL ws).getD i 0≠10 →
   ∃ j k,j < ws.length∧k < (ws.getD j []).length∧((flatL ws).take i).count 10=j∧(ws.getD j []).getD k 0=(flatL ws).getD i 0∧∀ c,(flatL ws).set i c=flatL (ws.set j ((ws.getD j []).set k c))
 | [],_,i,hi,_=>by simp [flatL] at hi
 | w::ws,h,i,hi,hn=>by
   rw [flat_cons] at hi hn ⊢
   have h10:=h w (List.mem_cons_self ..)
   by_cases h1 : i < w.length
   · refine ⟨0,i,by simp,h1,?_,?_,fun c => ?_⟩
     · rw [List.take_append_of_le_length (by omega)]
       exact List.count_eq_zero.2 fun hm=>h10 (List.mem_of_mem_take hm)
     · show w.getD i 0=_
       rw [List.getD_eq_getElem?_getD,List.getD_eq_getElem?_getD,List.getElem?_append_left h1]
     · rw [List.set_append_left _ _ h1]
       show _=flatL (w.set i c::ws)
       rw [flat_cons]
   · by_cases h2 : i=w.length
     · exfalso; apply hn
       rw [List.getD_eq_getElem?_getD,List.getElem?_append_right (by omega),h2,Nat.sub_self]; rfl
     · obtain ⟨d,rfl⟩ : ∃ d,i=w.length+(d+1):=⟨i - w.length - 1,by omega⟩
       have e : (w++10::flatL ws).getD (w.length+(d+1)) 0=(flatL ws).getD d 0:=by
         rw [List.getD_eq_getElem?_getD,List.getElem?_append_right (by omega),Nat.add_sub_cancel_left,List.getElem?_cons_succ,← List.getD_eq_getElem?_getD]
       rw [e] at hn ⊢
       rw [List.length_append,List.length_cons] at hi
       obtain ⟨j,k,a1,a2,a3,a4,a5⟩:=flat_turn ws (fun x hx=>h x (List.mem_cons_of_mem _ hx)) d (by omega) hn
       refine ⟨j+1,k,by simpa using a1,a2,?_,a4,fun c => ?_⟩
       · rw [List.take_append,List.take_of_length_le (by omega),Nat.add_sub_cancel_left,List.take_succ_cons,List.count_append,List.count_cons_self,a3,List.count_eq_zero.2 h10]; omega
       · rw [List.set_append_right _ _ (by omega),Nat.add_sub_cancel_left,List.set_cons_succ,a5]
         show _=flatL (w::ws.set j ((ws.getD j []).set k c))
         rw [flat_cons]
theorem itoa_dl {x : Int} (h0 : 0≤x) {k : Nat} (hx : x < 10 ^ (k+1)) : (Lib.itoa x).length≤k+1:=by
 obtain ⟨m,rfl⟩ : ∃ m : Nat,x=(m : Int):=⟨x.toNat,by omega⟩
 rw [Lib.itoa_nonneg,Lib.decDigits_length]
 exact nDig_le k m (by
   have : ((10 ^ (k+1) : Nat) : Int)=(10 : Int) ^ (k+1):=by simp
   omega)
theorem itoa_57 {x : Int} (h0 : 0≤x) {b : UInt8} (h : b∈Lib.itoa x) : b.toNat≤57:=by
 obtain ⟨m,rfl⟩ : ∃ m : Nat,x=(m : Int):=⟨x.toNat,by omega⟩
 rw [Lib.itoa_nonneg] at h
 exact (dec_mem h).2
theorem BInv.nodes {n : Nat} {b : BS} (h : BInv n b) : b.1.1.length=n:=by
 obtain ⟨H,x,I,R⟩:=h
 exact I.len
theorem okS_bd {n : Nat} {b : BS} (I : BInv n b) (hn : n≤5) {l : List Int} (h : okS b l=true) : (∃ p k v : Int,l=[p,k,v]∧(0≤p∧p < 10)∧(0≤k∧k < 10)∧0≤v∧v < 10000000)∨∃ p q : Int,l=[p,q]∧(0≤p∧p < 10)∧0≤q∧q < 10:=by
 obtain ⟨hl,he⟩:=okS_len h
 have hnl:=I.nodes
 unfold pE at he
 by_cases h3 : l.length=3
 · rw [if_pos h3] at he
   have:=bk0 he
   match l,h3 with
   | [p,k,v],_ =>
     have this : writeE b.1 p k v=0:=this
     unfold writeE at this
     split at this
     · rename_i hc
       simp only [Bool.and_eq_true] at hc
       have h1:=inNet_iff.1 hc.1
       have h2:=inB_lo hc.2
       exact .inl ⟨p,k,v,rfl,by omega,by omega,by omega⟩
     · cases this
 · rw [if_neg h3] at he
   have:=bk0 he
   have h2 : l.length=2:=by omega
   match l,h2 with
   | [p,k],_ =>
     have this : syncE b.1 p k=0:=this
     unfold syncE at this
     split at this
     · rename_i hc
       simp only [Bool.and_eq_true] at hc
       have h1:=inNet_iff.1 hc.1
       have h2:=inNet_iff.1 hc.2
       exact .inr ⟨p,k,rfl,by omega,by omega⟩
     · cases this
theorem body_turn {n : Nat} {b : BS} (I : BInv n b) (hn : n≤5) {l : List Int} (h : okS b l=true) {i : Nat} {c : UInt8} (hi : i < (bodyL l).length) (hc : c≠(bodyL l).getD i 0) : badL ((bodyL l).set i c)=2∨badL ((bodyL l).set i c)=6:=by
 have one : ∀ {x : Int},0≤x→x < 10→(Lib.itoa x).length≤1:=fun h0 hx=>itoa_dl h0 (k:=0) hx
 have key : ∀ (w : UInt8) (R : List UInt8),(∀ b∈R,b.toNat≤57)→∀ i,1≤i→((w::R).getD i 0).toNat≤57:=by
   intro w R hR i hi
   obtain ⟨d,rfl⟩ : ∃ d,i=d+1:=⟨i - 1,by omega⟩
   rw [List.getD_eq_getElem?_getD,List.getElem?_cons_succ]
   cases hq : R[d]? with
   | none=>decide
   | some b=>exact hR b (List.mem_of_getElem? hq)
 rcases okS_bd I hn h with ⟨p,k,v,rfl,hp,hk,hv⟩ | ⟨p,q,rfl,hp,hq⟩
 · have e : putS [119] [p,k,v]=119::(32::Lib.itoa p++(32::Lib.itoa k++32::Lib.itoa v)):=by
     show ((([119]++([32]++Lib.itoa p))++([32]++Lib.itoa k))++([32]++Lib.itoa v))=_
     simp
   have hb : bodyL [p,k,v]=putS [119] [p,k,v]++32::Lib.itoa (sumF (putS [119] [p,k,v])):=rfl
   rw [hb] at hi hc ⊢
   refine turned (P0:=119::(32::Lib.itoa p++32::Lib.itoa k)) (x:=v) (by rw [e]; simp) ?_ (by rw [e]; show 100≤(119 : UInt8).toNat∧(119 : UInt8).toNat≤119; decide) ?_ hi hc
   · rw [e]
     have h1:=one hp.1 hp.2
     have h2:=one hk.1 hk.2
     have h3:=itoa_dl hv.1 (k:=6) hv.2
     simp only [List.length_cons,List.length_append]; omega
   · rw [e]
     refine key _ _ fun b hb => ?_
     simp only [List.mem_append,List.mem_cons] at hb
     rcases hb with (hb | hb) | (hb | hb) | hb | hb
     · rw [hb]; decide
     · exact itoa_57 hp.1 hb
     · rw [hb]; decide
     · exact itoa_57 hk.1 hb
     · rw [hb]; decide
     · exact itoa_57 hv.1 hb
 · have e : putS [115] [p,q]=115::(32::Lib.itoa p++32::Lib.itoa q):=by
     show (([115]++([32]++Lib.itoa p))++([32]++Lib.itoa q))=_
     simp
   have hb : bodyL [p,q]=putS [115] [p,q]++32::Lib.itoa (sumF (putS [115] [p,q])):=rfl
   rw [hb] at hi hc ⊢
   refine turned (P0:=115::32::Lib.itoa p) (x:=q) (by rw [e]; simp) ?_ (by rw [e]; show 100≤(115 : UInt8).toNat∧(115 : UInt8).toNat≤119; decide) ?_ hi hc
   · rw [e]
     have h1:=one hp.1 hp.2
     have h2:=one hq.1 hq.2
     simp only [List.length_cons,List.length_append]; omega
   · rw [e]
     refine key _ _ fun b hb => ?_
     simp only [List.mem_append,List.mem_cons] at hb
     rcases hb with (hb | hb) | hb | hb
     · rw [hb]; decide
     · exact itoa_57 hp.1 hb
     · rw [hb]; decide
     · exact itoa_57 hq.1 hb
theorem open_turn {n : Int} (hb : inB n 1 5=true) {s : List (List Int)} (hs : ∀ l∈s,∀ v∈l,inK .i64 v) (m : Nat) {i : Nat} {c : UInt8} (hi : i < (playB n.toNat s m).2.1.length) (h10 : (playB n.toNat s m).2.1.getD i 0≠10) (hc10 : c≠10) (hc : c≠(playB n.toNat s m).2.1.getD i 0) :
   (poR n ((playB n.toNat s m).2.1.set i c)).2.1=(((((playB n.toNat s m).2.1.take i).count 10 : Nat) : Int)+1)∧((poR n ((playB n.toNat s m).2.1.set i c)).2.2=2∨(poR n ((playB n.toNat s m).2.1.set i c)).2.2=6):=by
 obtain ⟨L,hL⟩ : ∃ L,sucL n.toNat s m=L:=⟨_,rfl⟩
 have ht:=(suc_text n.toNat s m).1
 have hok : ∀ j,j < L.length→okS (playB n.toNat L j) (L.getD j [])=true:=fun j hj=>by rw [← hL] at hj ⊢; exact suc_ok _ _ _ _ hj
 have hkk : ∀ j,∀ v∈L.getD j [],inK .i64 v:=fun j=>by rw [← hL]; exact suc_k hs m j
 have hLk : ∀ l∈L,∀ v∈l,inK .i64 v:=by
   intro l hl v hv
   rw [← hL] at hl
   obtain ⟨q,e⟩:=suc_mem n.toNat s m l hl
   rw [e] at hv
   exact getD_inK hs q v hv
 rw [hL,textL_flat] at ht
 rw [ht] at hi h10 hc ⊢
 have hno : ∀ w∈L.map bodyL,(10 : UInt8)∉w:=by
   intro w hw
   obtain ⟨l,_,rfl⟩:=List.mem_map.1 hw
   exact bodyL_no10
 obtain ⟨j,k,hj,hk,hcnt,hg,hset⟩:=flat_turn _ hno i hi h10
 have hgj : (L.map bodyL).getD j []=bodyL (L.getD j []):=by
   have hj' : j < L.length:=by simpa using hj
   rw [List.getD_eq_getElem?_getD,List.getElem?_map,List.getD_eq_getElem?_getD,List.getElem?_eq_getElem hj']; rfl
 have hjL : j < L.length:=by simpa using hj
 rw [hgj] at hk hg hset
 obtain ⟨B,hB⟩ : ∃ B,(bodyL (L.getD j [])).set k c=B:=⟨_,rfl⟩
 have hbad : badL B=2∨badL B=6:=by
   rw [← hB]
   exact body_turn (BInv.play hb hLk j) (by have:=inB_iff.1 hb; omega) (hok j hjL) hk (by rw [hg]; exact hc)
 have hB10 : (10 : UInt8)∉B:=by
   rw [← hB]
   intro hm
   rcases List.mem_or_eq_of_mem_set hm with h | h
   · exact bodyL_no10 h
   · exact hc10 h.symm
 rw [hset c,hB,hcnt]
 have hw : wholeL (flatL ((L.map bodyL).set j B))=(L.map bodyL).set j B:=whole_flat _ (by
   intro w hw
   rcases List.mem_or_eq_of_mem_set hw with h | h
   · exact hno w h
   · rw [h]; exact hB10)
 obtain ⟨e1,e2⟩:=poB_play (n:=n) (L:=L) (w:=(L.map bodyL).set j B) (m:=j) (fun x hx=>by
   rw [List.getD_eq_getElem?_getD,List.getElem?_set_ne (by omega),List.getElem?_map,List.getElem?_eq_getElem (by omega),List.getD_eq_getElem?_getD,List.getElem?_eq_getElem (by omega)]; rfl) (fun x hx=>hok x (by omega)) hkk j (Nat.le_refl _)
 have hall : ∀ x,x≤j→(playB n.toNat L x).2.2=(x : Int):=by
   intro x
   induction x with
   | zero=>intro _; rfl
   | succ x ih =>
     intro hx
     rw [playB_succ,(okS_yes (hok x (by omega))).2,ih (by omega)]; omega
 have hwj : ((L.map bodyL).set j B).getD j []=B:=by
   rw [List.getD_eq_getElem?_getD,List.getElem?_set_self (by simpa using hjL)]; rfl
 have hlen : ((L.map bodyL).set j B).length=j+((L.length - j - 1)+1):=by rw [List.length_set,List.length_map]; omega
 have hr : poR n (flatL ((L.map bodyL).set j B))=(poB n ((L.map bodyL).set j B) j,(poB n ((L.map bodyL).set j B) j).2.2+1,badL B):=by
   unfold poR
   rw [hw,poE_at n _ _ j (by rw [hlen]; omega) e2,hlen,Nat.add_sub_cancel_left]
   have hp : pLE (poB n ((L.map bodyL).set j B) j) B=badL B:=by
     unfold pLE
     rw [if_neg (by rcases hbad with h | h<;>(rw [h]; decide))]
   show (if pLE (poB n ((L.map bodyL).set j B) j) (((L.map bodyL).set j B).getD j [])=0 then _ else _)=_
   rw [hwj,hp,if_neg (by rcases hbad with h | h<;>(rw [h]; decide))]
 rw [hr]
 refine ⟨?_,hbad⟩
 show (poB n _ j).2.2+1=_
 rw [e1,hall j (Nat.le_refl _)]
open Go.Vc Go.Proofs Go.RowKit
def Et : Env:={ Elr with sa:=[79] }
theorem Et_ok : EnvOk Tryz.prog Et:=⟨Elr_ok.ty,Elr_ok.err,Elr_ok.el,Elr_ok.mp⟩
abbrev glU (v : GV) : List (Nat×Dat):=glE++glO v
theorem glU_E {v : GV} : ∀ x∈glE,x∈glU v:=fun x h=>List.mem_append_left _ h
theorem glU_O {v : GV} : ∀ x∈glO v,x∈glU v:=fun x h=>List.mem_append_right _ h
def cLawU : Ctr:=cdet [I,.sl (.sl I),I,.int .u8] (fun _ _ _ _=>True) (fun _ _ _ _=>[⟨.bool,true⟩])
structure TurnCt (n : Int) (s : List (List Int)) (i c : Int) (k : Nat) : Prop where
 b : inB n 1 5=true
 i0 : 0≤i∧i < ((txtT n s).length : Int)
 le : (k : Int)≤i
 t10 : (txtT n s).getD i.toNat 0≠10
 c10 : c≠10
 ne : (((txtT n s).getD i.toNat 0).toNat : Int)≠c
def anTurned (n : Int) (s : List (List Int)) (i c : Int) : Ann:=[joinAll,
 loopAt 12 Nat [] (fun st k=>St.at (St.only st [0,2,3,12]) [(13,.d I (1+((linT n s k : Nat) : Int))),(14,.d I (k : Int))]) (fun _ k=>TurnCt n s i c k) (fun k=>i.toNat - k)]
open Go.Vc
set_option linter.unusedVariables false
theorem vcTurned (v : GV) (n : Int) (s : List (List Int)) (i c : Int) (k : List Dat→Prop) : vcF ⟨Et,[(12,cFact),(19,cError)],glU v,[],[(13,oToldN),(14,oBTxt),(15,oBOpen)]⟩ (anTurned n s i c) (Tryz.f5.body.getD .skip) Tryz.f5.ntmps [(.tmp 8,.bool)] [⟨I,n⟩,⟨.sl (.sl I),s⟩,⟨I,i⟩,⟨.int .u8,c⟩] k=(
 True∧((!true)=true→k [Dat.mk Ty.bool false])∧((!true)=false→StepsOk s∧(inB n (1 : Int) (5 : Int)=false→((!false)=true→(decide (n < (1 : Int))=true→k [Dat.mk Ty.bool true])∧(decide (n < (1 : Int))=false→k [Dat.mk Ty.bool (decide ((5 : Int) < n))]))∧((!false)=false→False))∧(inB n (1 : Int) (5 : Int)=true→((!true)=true→(decide (n < (1 : Int))=true→k [Dat.mk Ty.bool true])∧(decide (n < (1 : Int))=false→k [Dat.mk Ty.bool (decide ((5 : Int) < n))]))∧((!true)=false→(playB n.toNat s (min s.length (70 : Nat))).snd.fst.length≤(1000000000 : Nat)∧(decide (i < (0 : Int))=true→k [Dat.mk Ty.bool true])∧(decide (i < (0 : Int))=false→(decide ((↑(playB n.toNat s (min s.length (70 : Nat))).snd.fst.length : Int)≤i)=true→k [Dat.mk Ty.bool true])∧(decide ((↑(playB n.toNat s (min s.length (70 : Nat))).snd.fst.length : Int)≤i)=false→(0 : Int)≤i∧i < (↑(playB n.toNat s (min s.length (70 : Nat))).snd.fst.length : Int)∧(decide ((↑((playB n.toNat s (min s.length (70 : Nat))).snd.fst.getD i.toNat (0 : UInt8)).toNat : Int)=(10 : Int))=true→k [Dat.mk Ty.bool true])∧(decide ((↑((playB n.toNat s (min s.length (70 : Nat))).snd.fst.getD i.toNat (0 : UInt8)).toNat : Int)=(10 : Int))=false→(decide (c=(10 : Int))=true→k [Dat.mk Ty.bool true])∧(decide (c=(10 : Int))=false→(0 : Int)≤i∧i < (↑(playB n.toNat s (min s.length (70 : Nat))).snd.fst.length : Int)∧(decide ((↑((playB n.toNat s (min s.length (70 : Nat))).snd.fst.getD i.toNat (0 : UInt8)).toNat : Int)=c)=true→k [Dat.mk Ty.bool true])∧(decide ((↑((playB n.toNat s (min s.length (70 : Nat))).snd.fst.getD i.toNat (0 : UInt8)).toNat : Int)=c)=false→(∃ (x : Nat),TurnCt n s i c x∧(n=n∧i=i∧c=c∧(playB n.toNat s (min s.length (70 : Nat))).snd.fst=(playB n.toNat s (min s.length (70 : Nat))).snd.fst∧(1 : Int)=(1 : Int)+(↑(linT n s x) : Int)∧(0 : Int)=(↑x : Int)∧True)∧((True∧True∧True∧(playB n.toNat s (min s.length (70 : Nat))).snd.snd=(playB n.toNat s (min s.length (70 : Nat))).snd.snd∧True)∧(True∧True∧True)∧(playB n.toNat s (min s.length (70 : Nat))).snd.fst=(playB n.toNat s (min s.length (70 : Nat))).snd.fst∧((98 : Nat)=(98 : Nat)∧(playB n.toNat s (min s.length (70 : Nat))).fst.fst=(playB n.toNat s (min s.length (70 : Nat))).fst.fst)∧((3 : Nat)=(3 : Nat)∧(playB n.toNat s (min s.length (70 : Nat))).fst.snd.fst=(playB n.toNat s (min s.length (70 : Nat))).fst.snd.fst)∧True)∧hdE=hdE∧Lib.pow10Tab=Lib.pow10Tab∧Value.int IntKind.i64 v.m=Value.int IntKind.i64 v.m∧Value.iface v.t1 v.p1=Value.iface v.t1 v.p1∧Value.iface v.t2 v.p2=Value.iface v.t2 v.p2∧True)∧∀ (x : Nat),TurnCt n s i c x→(decide ((↑x : Int) < i)=true→(0 : Int)≤(↑x : Int)∧(↑x : Int) < (↑(playB n.toNat s (min s.length (70 : Nat))).snd.fst.length : Int)∧(decide ((↑((playB n.toNat s (min s.length (70 : Nat))).snd.fst.getD (↑x : Int).toNat (0 : UInt8)).toNat : Int)=(10 : Int))=true→inK IntKind.i64 ((1 : Int)+(↑(linT n s x) : Int)+(1 : Int))∧inK IntKind.i64 ((↑x : Int)+(1 : Int))∧∃ (x_1 : Nat),TurnCt n s i c x_1∧i.toNat - x_1 < i.toNat - x∧(n=n∧i=i∧c=c∧(playB n.toNat s (min s.length (70 : Nat))).snd.fst=(playB n.toNat s (min s.length (70 : Nat))).snd.fst∧(1 : Int)+(↑(linT n s x) : Int)+(1 : Int)=(1 : Int)+(↑(linT n s x_1) : Int)∧(↑x : Int)+(1 : Int)=(↑x_1 : Int)∧True)∧((True∧True∧True∧(playB n.toNat s (min s.length (70 : Nat))).snd.snd=(playB n.toNat s (min s.length (70 : Nat))).snd.snd∧True)∧(True∧True∧True)∧(playB n.toNat s (min s.length (70 : Nat))).snd.fst=(playB n.toNat s (min s.length (70 : Nat))).snd.fst∧((98 : Nat)=(98 : Nat)∧(playB n.toNat s (min s.length (70 : Nat))).fst.fst=(playB n.toNat s (min s.length (70 : Nat))).fst.fst)∧((3 : Nat)=(3 : Nat)∧(playB n.toNat s (min s.length (70 : Nat))).fst.snd.fst=(playB n.toNat s (min s.length (70 : Nat))).fst.snd.fst)∧True)∧hdE=hdE∧Lib.pow10Tab=Lib.pow10Tab∧Value.int IntKind.i64 v.m=Value.int IntKind.i64 v.m∧Value.iface v.t1 v.p1=Value.iface v.t1 v.p1∧Value.iface v.t2 v.p2=Value.iface v.t2 v.p2∧True)∧(decide ((↑((playB n.toNat s (min s.length (70 : Nat))).snd.fst.getD (↑x : Int).toNat (0 : UInt8)).toNat : Int)=(10 : Int))=false→inK IntKind.i64 ((↑x : Int)+(1 : Int))∧∃ (x_1 : Nat),TurnCt n s i c x_1∧i.toNat - x_1 < i.toNat - x∧(n=n∧i=i∧c=c∧(playB n.toNat s (min s.length (70 : Nat))).snd.fst=(playB n.toNat s (min s.length (70 : Nat))).snd.fst∧(1 : Int)+(↑(linT n s x) : Int)=(1 : Int)+(↑(linT n s x_1) : Int)∧(↑x : Int)+(1 : Int)=(↑x_1 : Int)∧True)∧((True∧True∧True∧(playB n.toNat s (min s.length (70 : Nat))).snd.snd=(playB n.toNat s (min s.length (70 : Nat))).snd.snd∧True)∧(True∧True∧True)∧(playB n.toNat s (min s.length (70 : Nat))).snd.fst=(playB n.toNat s (min s.length (70 : Nat))).snd.fst∧((98 : Nat)=(98 : Nat)∧(playB n.toNat s (min s.length (70 : Nat))).fst.fst=(playB n.toNat s (min s.length (70 : Nat))).fst.fst)∧((3 : Nat)=(3 : Nat)∧(playB n.toNat s (min s.length (70 : Nat))).fst.snd.fst=(playB n.toNat s (min s.length (70 : Nat))).fst.snd.fst)∧True)∧hdE=hdE∧Lib.pow10Tab=Lib.pow10Tab∧Value.int IntKind.i64 v.m=Value.int IntKind.i64 v.m∧Value.iface v.t1 v.p1=Value.iface v.t1 v.p1∧Value.iface v.t2 v.p2=Value.iface v.t2 v.p2∧True))∧(decide ((↑x : Int) < i)=false→((0 : Int)≤(0 : Int)∧(0 : Int)≤i∧i≤(↑(playB n.toNat s (min s.length (70 : Nat))).snd.fst.length : Int)∧(List.drop (Int.toNat (0 : Int)) (List.take i.toNat (playB n.toNat s (min s.length (70 : Nat))).snd.fst)).length+(bstr ((List.replicate (1 : Nat) (0 : Int)).set (0 : Nat) c)).length≤maxLen∧inK IntKind.i64 (i+(1 : Int))∧(0 : Int)≤i+(1 : Int)∧i+(1 : Int)≤(↑(playB n.toNat s (min s.length (70 : Nat))).snd.fst.length : Int)∧(↑(playB n.toNat s (min s.length (70 : Nat))).snd.fst.length : Int)≤(↑(playB n.toNat s (min s.length (70 : Nat))).snd.fst.length : Int)∧((List.drop (Int.toNat (0 : Int)) (List.take i.toNat (playB n.toNat s (min s.length (70 : Nat))).snd.fst)).append (bstr ((List.replicate (1 : Nat) (0 : Int)).set (0 : Nat) c))).length+(List.drop (i+(1 : Int)).toNat (List.take (↑(playB n.toNat s (min s.length (70 : Nat))).snd.fst.length : Int).toNat (playB n.toNat s (min s.length (70 : Nat))).snd.fst)).length≤maxLen∧True)∧(((List.drop (Int.toNat (0 : Int)) (List.take i.toNat (playB n.toNat s (min s.length (70 : Nat))).snd.fst)).append (bstr ((List.replicate (1 : Nat) (0 : Int)).set (0 : Nat) c))).append (List.drop (i+(1 : Int)).toNat (List.take (↑(playB n.toNat s (min s.length (70 : Nat))).snd.fst.length : Int).toNat (playB n.toNat s (min s.length (70 : Nat))).snd.fst))).length≤(1100000 : Nat)∧(inB n (1 : Int) (5 : Int)=false→(decide ((0 : Int)=(1 : Int)+(↑(linT n s x) : Int))=true→(inK IntKind.i64 (1 : Int)∧True)∧(decide ((1 : Int)=(2 : Int))=true→k [Dat.mk Ty.bool true])∧(decide ((1 : Int)=(2 : Int))=false→(inK IntKind.i64 (1 : Int)∧True)∧k [Dat.mk Ty.bool (decide ((1 : Int)=(6 : Int)))]))∧(decide ((0 : Int)=(1 : Int)+(↑(linT n s x) : Int))=false→k [Dat.mk Ty.bool false]))∧(inB n (1 : Int) (5 : Int)=true→POpenOk n (((List.drop (Int.toNat (0 : Int)) (List.take i.toNat (playB n.toNat s (min s.length (70 : Nat))).snd.fst)).append (bstr ((List.replicate (1 : Nat) (0 : Int)).set (0 : Nat) c))).append (List.drop (i+(1 : Int)).toNat (List.take (↑(playB n.toNat s (min s.length (70 : Nat))).snd.fst.length : Int).toNat (playB n.toNat s (min s.length (70 : Nat))).snd.fst)))∧((poR n (((List.drop (Int.toNat (0 : Int)) (List.take i.toNat (playB n.toNat s (min s.length (70 : Nat))).snd.fst)).append (bstr ((List.replicate (1 : Nat) (0 : Int)).set (0 : Nat) c))).append (List.drop (i+(1 : Int)).toNat (List.take (↑(playB n.toNat s (min s.length (70 : Nat))).snd.fst.length : Int).toNat (playB n.toNat s (min s.length (70 : Nat))).snd.fst)))).snd.snd=(0 : Int)→(decide ((poR n (((List.drop (Int.toNat (0 : Int)) (List.take i.toNat (playB n.toNat s (min s.length (70 : Nat))).snd.fst)).append (bstr ((List.replicate (1 : Nat) (0 : Int)).set (0 : Nat) c))).append (List.drop (i+(1 : Int)).toNat (List.take (↑(playB n.toNat s (min s.length (70 : Nat))).snd.fst.length : Int).toNat (playB n.toNat s (min s.length (70 : Nat))).snd.fst)))).snd.fst=(1 : Int)+(↑(linT n s x) : Int))=true→(inK IntKind.i64 (0 : Int)∧True)∧(decide ((0 : Int)=(2 : Int))=true→k [Dat.mk Ty.bool true])∧(decide ((0 : Int)=(2 : Int))=false→(inK IntKind.i64 (0 : Int)∧True)∧k [Dat.mk Ty.bool (decide ((0 : Int)=(6 : Int)))]))∧(decide ((poR n (((List.drop (Int.toNat (0 : Int)) (List.take i.toNat (playB n.toNat s (min s.length (70 : Nat))).snd.fst)).append (bstr ((List.replicate (1 : Nat) (0 : Int)).set (0 : Nat) c))).append (List.drop (i+(1 : Int)).toNat (List.take (↑(playB n.toNat s (min s.length (70 : Nat))).snd.fst.length : Int).toNat (playB n.toNat s (min s.length (70 : Nat))).snd.fst)))).snd.fst=(1 : Int)+(↑(linT n s x) : Int))=false→k [Dat.mk Ty.bool false]))∧((poR n (((List.drop (Int.toNat (0 : Int)) (List.take i.toNat (playB n.toNat s (min s.length (70 : Nat))).snd.fst)).append (bstr ((List.replicate (1 : Nat) (0 : Int)).set (0 : Nat) c))).append (List.drop (i+(1 : Int)).toNat (List.take (↑(playB n.toNat s (min s.length (70 : Nat))).snd.fst.length : Int).toNat (playB n.toNat s (min s.length (70 : Nat))).snd.fst)))).snd.snd≠(0 : Int)→(decide ((poR n (((List.drop (Int.toNat (0 : Int)) (List.take i.toNat (playB n.toNat s (min s.length (70 : Nat))).snd.fst)).append (bstr ((List.replicate (1 : Nat) (0 : Int)).set (0 : Nat) c))).append (List.drop (i+(1 : Int)).toNat (List.take (↑(playB n.toNat s (min s.length (70 : Nat))).snd.fst.length : Int).toNat (playB n.toNat s (min s.length (70 : Nat))).snd.fst)))).snd.fst=(1 : Int)+(↑(linT n s x) : Int))=true→(inK IntKind.i64 (poR n (((List.drop (Int.toNat (0 : Int)) (List.take i.toNat (playB n.toNat s (min s.length (70 : Nat))).snd.fst)).append (bstr ((List.replicate (1 : Nat) (0 : Int)).set (0 : Nat) c))).append (List.drop (i+(1 : Int)).toNat (List.take (↑(playB n.toNat s (min s.length (70 : Nat))).snd.fst.length : Int).toNat (playB n.toNat s (min s.length (70 : Nat))).snd.fst)))).snd.snd∧True)∧(decide ((poR n (((List.drop (Int.toNat (0 : Int)) (List.take i.toNat (playB n.toNat s (min s.length (70 : Nat))).snd.fst)).append (bstr ((List.replicate (1 : Nat) (0 : Int)).set (0 : Nat) c))).append (List.drop (i+(1 : Int)).toNat (List.take (↑(playB n.toNat s (min s.length (70 : Nat))).snd.fst.length : Int).toNat (playB n.toNat s (min s.length (70 : Nat))).snd.fst)))).snd.snd=(2 : Int))=true→k [Dat.mk Ty.bool true])∧(decide ((poR n (((List.drop (Int.toNat (0 : Int)) (List.take i.toNat (playB n.toNat s (min s.length (70 : Nat))).snd.fst)).append (bstr ((List.replicate (1 : Nat) (0 : Int)).set (0 : Nat) c))).append (List.drop (i+(1 : Int)).toNat (List.take (↑(playB n.toNat s (min s.length (70 : Nat))).snd.fst.length : Int).toNat (playB n.toNat s (min s.length (70 : Nat))).snd.fst)))).snd.snd=(2 : Int))=false→(inK IntKind.i64 (poR n (((List.drop (Int.toNat (0 : Int)) (List.take i.toNat (playB n.toNat s (min s.length (70 : Nat))).snd.fst)).append (bstr ((List.replicate (1 : Nat) (0 : Int)).set (0 : Nat) c))).append (List.drop (i+(1 : Int)).toNat (List.take (↑(playB n.toNat s (min s.length (70 : Nat))).snd.fst.length : Int).toNat (playB n.toNat s (min s.length (70 : Nat))).snd.fst)))).snd.snd∧True)∧k [Dat.mk Ty.bool (decide ((poR n (((List.drop (Int.toNat (0 : Int)) (List.take i.toNat (playB n.toNat s (min s.length (70 : Nat))).snd.fst)).append (bstr ((List.replicate (1 : Nat) (0 : Int)).set (0 : Nat) c))).append (List.drop (i+(1 : Int)).toNat (List.take (↑(playB n.toNat s (min s.length (70 : Nat))).snd.fst.length : Int).toNat (playB n.toNat s (min s.length (70 : Nat))).snd.fst)))).snd.snd=(6 : Int)))]))∧(decide ((poR n (((List.drop (Int.toNat (0 : Int)) (List.take i.toNat (playB n.toNat s (min s.length (70 : Nat))).snd.fst)).append (bstr ((List.replicate (1 : Nat) (0 : Int)).set (0 : Nat) c))).append (List.drop (i+(1 : Int)).toNat (List.take (↑(playB n.toNat s (min s.length (70 : Nat))).snd.fst.length : Int).toNat (playB n.toNat s (min s.length (70 : Nat))).snd.fst)))).snd.fst=(1 : Int)+(↑(linT n s x) : Int))=false→k [Dat.mk Ty.bool false]))))))))))))):=by kernel_rfl
open Go.Vc Go.Proofs Go.RowKit
theorem turn_text (T : List UInt8) {i : Nat} (c : Int) (hi : i < T.length) : ((T.take i).append (bstr ((List.replicate 1 0).set 0 c))).append (List.drop (i+1) T)=T.set i (UInt8.ofNat c.toNat):=by
 show (T.take i++[UInt8.ofNat c.toNat])++List.drop (i+1) T=_
 rw [List.set_eq_take_append_cons_drop,if_pos hi]
 simp
theorem turned_vc (v : GV) (n : Int) (s : List (List Int)) (i c : Int) (hn : inK .i64 n) (hi64 : inK .i64 i) (hc8 : 0≤c∧c≤255) (hs : ∀ l∈s,∀ v∈l,inK .i64 v) (k : List Dat→Prop) (hk : k [⟨.bool,true⟩]) :
   vcF ⟨Et,[(12,cFact),(19,cError)],glU v,[],[(13,oToldN),(14,oBTxt),(15,oBOpen)]⟩ (anTurned n s i c) (Tryz.f5.body.getD .skip) Tryz.f5.ntmps [(.tmp 8,.bool)] [⟨I,n⟩,⟨.sl (.sl I),s⟩,⟨I,i⟩,⟨.int .u8,c⟩] k:=by
 rw [vcTurned]
 have ret : ∀ x : Bool,x=true→k [⟨.bool,x⟩]:=by rintro _ rfl; exact hk
 have i0 : Int.toNat 0=0:=rfl
 have hn':=inK_i64.1 hn
 have hi':=inK_i64.1 hi64
 refine ⟨trivial,fun h=>(by cases h),fun _=>⟨⟨hs⟩,fun hb=>⟨fun _=>⟨fun _=>hk,fun h1=>ret _ ?_⟩,fun h=>(by cases h)⟩,fun hb=>⟨fun h=>(by cases h),fun _ => ?_⟩⟩⟩
 · have hb' : ¬ (1≤n∧n≤5):=fun h=>by rw [inB_iff.2 h] at hb; cases hb
   have h1 : ¬ n < 1:=by simpa using h1
   simp only [decide_eq_true_eq]; omega
 · have hB:=fun i=>BInv.play hb hs i
   have hT : txtT n s=(playB n.toNat s (min s.length 70)).2.1:=rfl
   have htl : (txtT n s).length≤24000:=(hB _).txt
   simp only [← hT,i0,decide_eq_true_eq,decide_eq_false_iff_not,Int.toNat_natCast,inK_i64,true_and,and_true,List.drop_zero,List.take_length]
   refine ⟨by omega,fun _=>hk,fun hi0=>⟨fun _=>hk,fun hil=>⟨by omega,by omega,fun _=>hk,fun h10=>⟨fun _=>hk,fun hc10=>⟨by omega,by omega,fun _=>hk,fun hne=>⟨?A,fun x hx=>⟨fun hlt => ?B,fun hge => ?C⟩⟩⟩⟩⟩⟩⟩
   all_goals have hi1 : i.toNat < (txtT n s).length:=by omega
   all_goals have h10' : (txtT n s).getD i.toNat 0≠10:=fun e=>h10 (by rw [e]; rfl)
   case A=>exact ⟨0,⟨hb,by omega,by omega,h10',hc10,hne⟩,rfl,rfl⟩
   case B =>
     have hxl : x < (txtT n s).length:=by have:=hx.le; omega
     have hls:=lin_succ n s hxl
     have hll:=lin_le n s x
     have h10 : (((txtT n s).getD x 0).toNat : Int)=10↔(txtT n s).getD x 0=10:=by
       constructor
       · intro h
         apply UInt8.toNat_inj.1
         have : (10 : UInt8).toNat=10:=rfl
         omega
       · intro h; rw [h]; rfl
     refine ⟨by omega,by omega,fun h=>⟨by omega,by omega,x+1,⟨hb,hx.i0,by omega,hx.t10,hx.c10,hx.ne⟩,by omega,?_,by omega⟩,fun h=>⟨by omega,x+1,⟨hb,hx.i0,by omega,hx.t10,hx.c10,hx.ne⟩,by omega,?_,by omega⟩⟩
     · rw [hls,if_pos (h10.1 h)]; omega
     · rw [hls,if_neg (fun e=>h (h10.2 e))]; omega
   case C =>
     have hxi : x=i.toNat:=by have:=hx.le; omega
     subst hxi
     have hcb : (UInt8.ofNat c.toNat).toNat=c.toNat:=by rw [UInt8.toNat_ofNat']; omega
     have hcn : UInt8.ofNat c.toNat≠10:=fun e=>by
       have:=congrArg UInt8.toNat e
       rw [hcb] at this
       have t : (10 : UInt8).toNat=10:=rfl
       omega
     have hct : UInt8.ofNat c.toNat≠(txtT n s).getD i.toNat 0:=fun e=>by
       have:=congrArg UInt8.toNat e
       rw [hcb] at this
       omega
     obtain ⟨ho1,ho2⟩:=open_turn hb hs (min s.length 70) (i:=i.toNat) (c:=UInt8.ofNat c.toNat) hi1 h10' hcn hct
     rw [← hT] at ho1 ho2
     have hln : ((txtT n s).take i.toNat).count 10=linT n s i.toNat:=rfl
     rw [hln] at ho1
     have e1 : (i+1).toNat=i.toNat+1:=by omega
     have hlb : (bstr ((List.replicate 1 (0 : Int)).set 0 c)).length=1:=rfl
     have hal : ((List.take i.toNat (txtT n s)).append (bstr ((List.replicate 1 0).set 0 c))).length=i.toNat+1:=by
       show (List.take i.toNat (txtT n s)++[UInt8.ofNat c.toNat]).length=_
       rw [List.length_append,List.length_take,List.length_singleton]; omega
     rw [e1,hal,turn_text _ c hi1]
     have hP : POpenOk n ((txtT n s).set i.toNat (UInt8.ofNat c.toNat)):=⟨by rw [List.length_set]; omega,fun j _ _=>(BInv.lines hb _ j).ok⟩
     refine ⟨⟨by omega,by omega,by omega,?_,by omega,by omega,by omega,by omega,?_⟩,by rw [List.length_set]; omega,fun h=>absurd (hb.symm.trans h) (by decide),fun _=>⟨hP,fun h => ?_,fun _=>⟨fun _ => ?_,fun h => ?_⟩⟩⟩
     · rw [hlb,List.length_take]; have hm : 30000≤maxLen:=by decide
       omega
     · rw [List.length_drop]; have hm : 30000≤maxLen:=by decide
       omega
     · exfalso; rcases ho2 with e | e<;>(rw [e] at h; cases h)
     · refine ⟨by rcases ho2 with e | e<;>omega,fun _=>hk,fun h=>⟨by rcases ho2 with e | e<;>omega,ret _ ?_⟩⟩
       rcases ho2 with e | e
       · exact absurd e h
       · rw [e]; rfl
     · exfalso; apply h; rw [ho1]; omega
theorem okLawU (v : GV) : PlainOk Tryz.prog (glU v) 5 cLawU:=by
 refine plain_of (CxOk.mk' Et_ok (by kernel_rfl) mixed (gl:=glU v) (GOk.cons (PlainOk.sub' glU_O (okFact v)) Tryz.func12 (by kernel_rfl) (by kernel_rfl) (GOk.cons (PlainOk.sub' glU_E okError) Tryz.func19 (by kernel_rfl) (by kernel_rfl) GOk.nil)) (GoOk.cons (OwnOk.sub glU_O (ownToldN v)) Tryz.func13 (by kernel_rfl) (by kernel_rfl) (GoOk.cons ownBTxt.lift Tryz.func14 (by kernel_rfl) (by kernel_rfl) (GoOk.cons (OwnOk.sub glU_O (ownBOpen v)) Tryz.func15 (by kernel_rfl) (by kernel_rfl) GoOk.nil))) noIt) Tryz.func5 (c:=Tryz.f5.body.getD .skip) (rvs:=[(.tmp 8,.bool)]) (by kernel_rfl) (by kernel_rfl) (by kernel_rfl) ?_
 intro ds k ⟨hp,hk⟩ hwf
 obtain ⟨n,s,i,c,rfl,-⟩:=dest4 hp
 have hk : k [⟨.bool,true⟩]:=hk
 have h1 : inK .i64 n:=hwf ⟨I,n⟩ (List.mem_cons_self ..)
 have h2 : (Ty.sl (.sl I)).wf s:=hwf ⟨.sl (.sl I),s⟩ (List.mem_cons_of_mem _ (List.mem_cons_self ..))
 have h3 : inK .i64 i:=hwf ⟨I,i⟩ (List.mem_cons_of_mem _ (List.mem_cons_of_mem _ (List.mem_cons_self ..)))
 have h4 : inK .u8 c:=hwf ⟨.int .u8,c⟩ (List.mem_cons_of_mem _ (List.mem_cons_of_mem _ (List.mem_cons_of_mem _ (List.mem_cons_self ..))))
 exact ⟨anTurned n s i c,turned_vc v n s i c h1 h3 (inK_u8.1 h4) (fun l hl y hy=>(h2.2 l hl).2 y hy) k hk⟩
end Go.Proofs.YthdbbgajmgjfcaaGreatDoor

namespace Go.Vc
open Go.RowKit Go.ChangeShapes Go.WideShapes Go.Deep
theorem returnsInHanded_of_shape {H : Type} {enc : TypeId×Value→H} {a : Assume} {C : Checked} {os : Os} {f : FuncId} {fn : Func} {s : ChangeSpec} {conds : List PathCond} {apart fresh handsOn again : Bool} {X : World→Array Value→Prop}
   (hX : ∀ (w w' : World) (args : Array Value),w.heap=w'.heap→X w args→X w' args)
   (own : ownKnob C.prog.godebug=none) (started : os.Started) (noInit : C.prog.inits.idxOf? f=none) (hfn : C.prog.funcs[f]? = some fn)
   (witness : ∃ (w : World) (tape : Tape) (i : Input),w.os=os∧(w.forCall tape i).Shaped C.prog∧i.vars=[]∧Input.okWide C.prog (w.forCall tape i) .any w.heap.size f i ∧
     ((s.pre enc C.prog fn conds apart (w.forCall tape i).memory i.args∧X (w.forCall tape i).memory i.args)∧sizedMet enc C.prog fn (OpenSpec.ofChange s) apart (w.forCall tape i).memory i.args)∧a.holds C.prog (lone (Frame.enter C.prog f i.args .normal) [] (w.forCall tape i)))
   (contract : ∀ (W : World) (base : Nat) (args : Array Value) (ds gs : List (DataW H)) (before : List MemPlace),
     (∀ (j : Nat) t v,fn.params[j]? = some t→args[j]? = some v→Value.okWide C.prog W .any base t v) →
     DataW.Whole enc C.prog fn.params.toList s.vars apart W args.toList ds gs before→X W args→W.ShapedOpen C.prog →
     Calls C.prog f args W fun e W'=>∃ v,e = .returned v∧s.post enc C.prog fn apart fresh handsOn again W args v W') :
   ReturnsInHanded a C os f .any (fun w args=>(s.pre enc C.prog fn conds apart w args∧X w args)∧sizedMet enc C.prog fn (OpenSpec.ofChange s) apart w args) (s.post enc C.prog fn apart fresh handsOn again):=by
 refine returnsInHanded_of_calls own started noInit witness ?_
 intro w tape i _ hsh _ hok hpre hholds
 obtain ⟨_,_,_,fn',hfn',_,_,_,_,hval⟩:=hok
 have e : fn'=fn:=Option.some.inj (hfn'.symm.trans hfn)
 subst e
 obtain ⟨⟨⟨ds,gs,before,hw,hc⟩,hx⟩,hz⟩:=hpre
 have hw':=DataW.Whole.of_heap (w':=w.forCall tape i) (by rfl) hw
 refine (contract (w.forCall tape i) w.heap.size i.args ds gs before hval hw' (hX _ _ _ (by rfl) hx) hsh).mono fun e W' ⟨v,he,hp⟩ => ?_
 subst he
 exact ChangeSpec.post_blind hp
theorem gl_of_shape {P : Program} {w : World} {g : Nat} {t : TypeId} {zero : Array Value} {k : IntKind} (h : w.ShapedOpen P) (hg : g < P.globals.size)
   (h0 : ((begin P (fun _ _=>0) default).world.heap[g]?).bind Obj.row? = some (zero,t)) (hz : zero.size=1) (hc : ∃ m,w.cell? ⟨g,0,none⟩=some (.int k m)) :
   ∃ m,GlOk [(g,⟨.raw,Value.int k m⟩)] w fun b=>b < w.heap.size:=by
 obtain ⟨m,hm⟩:=hc
 obtain ⟨cs,hh,hs,_⟩:=h.1 g zero t hg h0
 refine ⟨m,fun g2 d2 hm2 => ?_⟩
 obtain ⟨e1,e2⟩:=Prod.mk.inj (List.mem_singleton.1 hm2)
 subst e1; subst e2
 refine ⟨⟨World.block_lt_of_cell? w ⟨g2,0,none⟩ hm,cs,t,_,hh,by rw [hs,hz]; rfl⟩,[.int k m],fun j u hj => ?_,rfl,rfl⟩
 match j with
 | 0=>simp at hj; subst hj; exact hm
 | j+1=>simp at hj
theorem gl_of_raw {P : Program} {w : World} {n : String} {g : Nat} {v : Value} (hg : P.globalNamed n=some g) (h : w.var? P n=some #[v]) (h1 : v.oneCell'=true) : GlOk [(g,⟨.raw,v⟩)] w fun b=>b < w.heap.size:=by
 intro g2 d2 hm2
 obtain ⟨ea,eb⟩:=Prod.mk.inj (List.mem_singleton.1 hm2)
 subst ea; subst eb
 have hcell:=World.var?_cell hg h
 obtain ⟨e0,q0,hblk⟩:=var_block hg h
 refine ⟨⟨?_,#[v],e0,q0,hblk,rfl⟩,[v],fun j u hj => ?_,rfl,h1⟩
 · refine World.block_lt_of_cell? w ⟨g2,0,none⟩ (u:=v) ?_
   rw [hcell 0]; rfl
 · rw [hcell j,← hj]; simp
end Go.Vc
namespace Go.Proofs.YthdbbgajmgjfcaaGreatDoor
open Go.Vc Go.Proofs Go.RowKit
theorem rowEs (u : TypeId) (h : Tryz.prog.typeName? 3 u=some "*errors.errorString") : u=210 :=
 typeName_ptr_named (nm := "errors.errorString") (by rw [show "*" ++ "errors.errorString" = "*errors.errorString" by decide]; kernel_rfl) (by kernel_rfl) (by decide) u (by rw [show "*" ++ "errors.errorString" = "*errors.errorString" by decide]; exact h)
def Eg10 : Env:={ tys:=[(207,.ar 20 (.int .u64))],errT:=73,eqs:=[],els:=[] }
theorem Eg10_ok : EnvOk Tryz.prog Eg10:=EnvOk.of_list (by kernel_rfl) (by kernel_rfl) (by kernel_rfl)
theorem gv_of {W : World} (hsh : W.ShapedOpen Tryz.prog) {r : List (String×DataW Unit)} (h : laidMet Tryz.prog (("strconv.ErrRange",Rows.laid_strconv_ErrRange)::("strconv.ErrSyntax",Rows.laid_strconv_ErrSyntax)::r) W) : ∃ v,GlOk (glM v) W fun b=>b < W.heap.size:=by
 obtain ⟨m,h1⟩:=gl_of_shape (zero:=#[.int .i64 0]) (t:=3) (k := .i64) (g:=1) hsh (of_decide_eq_true (by kernel_rfl)) (by kernel_rfl) rfl (laidSplit.s1_3 W hsh)
 obtain ⟨a2,_,h2,_⟩:=laid_sentinel (g:=3) h (by kernel_rfl) (by kernel_rfl) (ti:=29) Tryz.underlying29 rowEs Tryz.underlying210 Tryz.underlying212 rfl rfl Tryz.underlying9 (by kernel_rfl) (by kernel_rfl)
 obtain ⟨a3,_,h3,_⟩:=laid_sentinel (g:=2) h.tail (by kernel_rfl) (by kernel_rfl) (ti:=29) Tryz.underlying29 rowEs Tryz.underlying210 Tryz.underlying212 rfl rfl Tryz.underlying9 (by kernel_rfl) (by kernel_rfl)
 refine ⟨⟨m,_,_,_,_⟩,GlOk.append h1 (GlOk.append (gl_of_raw (by kernel_rfl) h3 rfl) (gl_of_raw (by kernel_rfl) h2 rfl))⟩
open Go.Vc Go.Proofs Go.RowKit
theorem glO_laid {laid : List (String×DataW Unit)} {W : World} (hsh : W.ShapedOpen Tryz.prog) (hL : laidMetH Tryz.prog laid W) {a b d : String×DataW Unit} {f : List (String×DataW Unit)}
   (he : (laid.filter fun x=>x.2.handleName?.isNone)=a::b::("internal/strconv.uint64pow10",Rows.laid_internal_strconv_uint64pow10)::d::("strconv.ErrRange",Rows.laid_strconv_ErrRange)::("strconv.ErrSyntax",Rows.laid_strconv_ErrSyntax)::f)
   (hm : ("internal/strconv.uint64pow10",Rows.laid_internal_strconv_uint64pow10)∈laid) : ∃ v,GlOk (glO v) W fun b=>b < W.heap.size:=by
 have h1:=(laidMetH_iff.1 hL).1
 rw [he] at h1
 obtain ⟨v,hv⟩:=gv_of hsh h1.tail.tail.tail.tail
 exact ⟨v,GlOk.append (gl_of_laidM Eg10_ok (n := "internal/strconv.uint64pow10") (T:=207) (xs:=Lib.pow10Tab) hL hm (by kernel_rfl) (by kernel_rfl) (by kernel_rfl) (by kernel_rfl) (by decide)) hv⟩
open Go.Vc Go.Proofs Go.RowKit
theorem glTurned {W : World} (hsh : W.ShapedOpen Tryz.prog) (hL : laidMetH Tryz.prog Rows.bookTurnedRow.laid W) : ∃ v,GlOk (glU v) W fun b=>b < W.heap.size:=by
 obtain ⟨v,hv⟩:=glO_laid (a:=("math/bits.deBruijn32tab",Rows.laid_math_bits_deBruijn32tab)) (b:=("math/bits.deBruijn64tab",Rows.laid_math_bits_deBruijn64tab)) (d:=("unicode/utf8.acceptRanges",Rows.laid_unicode_utf8_acceptRanges)) (f:=[("unicode/utf8.first",Rows.laid_unicode_utf8_first)]) hsh hL (by kernel_rfl) (.tail _ (.tail _ (.head _)))
 exact ⟨v,GlOk.append (glE_of (.tail _ (.tail _ (.tail _ (.tail _ (.head _))))) hL) hv⟩
end Go.Proofs.YthdbbgajmgjfcaaGreatDoor
namespace Go.Vc
open Go.RowKit
theorem laidMet_over {P : Program} {w0 : World} {laid : List (String×DataW Unit)} (args : Array Value) (hf : w0.layFits P laid []=true) (hi : w0.layIfaces P laid (w0.layVars P laid)=true) :
   laidMet P laid ((w0.layVars P laid).forCall (fun _ _=>0) ⟨#[],args,[]⟩).memory:=by
 have e1 : (laid.filter fun x=>(laid.map (·.1)).contains x.1)=laid:=List.filter_eq_self.2 fun x hx=>List.contains_iff_mem.2 (List.mem_map.2 ⟨x,hx,rfl⟩)
 have e2 : (laid.filter fun x => !(laid.map (·.1)).contains x.1)=[]:=List.filter_eq_nil_iff.2 fun x hx=>by rw [List.contains_iff_mem.2 (List.mem_map.2 ⟨x,hx,rfl⟩)]; simp
 have h : laidMet P laid (w0.layVars P laid):=laidMet_layVars (w0:=w0) (laid.map (·.1)) [] (by rw [e1]) (by rw [e1]; exact hf) (by rw [e1]; exact hi) (by rw [e2]; exact LaidIn.none)
 exact h.of_heap (by simp [World.memory,World.forCall,Input.heap])
end Go.Vc
