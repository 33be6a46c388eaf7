/- Own texts, merged and cut: BkOq, BkNb, KV8, BkNc, KV9, BkNd, BkLi, BkLj, BkOd, KV10, BkOe, BkYz, BkTd, KV11, BkTe, BkMt, BkMu, BkOx, BkLt, KV12, BkLu, BkTu, BkTv, BkTw, BkOy, KV14, BkOz, BkSh, BkGz, BkGy. -/
import Derived.Test.YthdbbgajmgjfcaaGreatDoorBORowZ2
import Derived.Shelf.Small.Wraps
import Derived.Shelf.Small.Strs
import Derived.RangeFuncNested
import Derived.RangeFuncBound
import Derived.RangeFuncCalls
import Derived.RangeFuncLeaves
import Derived.Shelf.Abstract
import Derived.Shelf.RegionOpen
import Derived.WalkKit
import Derived.OwnWalkIn
import Derived.TacticsInMore
import Derived.LoopNIn
import Derived.LoopIn
import Derived.StillTailTactics
import Derived.Stop.LaidErr
import Derived.HandedShaped
import Derived.RowKit
import Derived.Handed
import Derived.Test.YthdbbgajmgjfcaaGreatDoorRows
import Derived.Lay
import Derived.LaidMore
namespace Go.Proofs.YthdbbgajmgjfcaaGreatDoor
open Go.Vc Go.Proofs Go.RowKit
theorem opE_at (n : Int) (w : List (List UInt8)) (m : Nat) : ∀ x,x≤m→opG n w x=true→opE n w 0 m=opE n w x (m - x)
 | 0,_,_=>rfl
 | x+1,hx,hg=>by
  simp only [opG,Bool.and_eq_true,decide_eq_true_eq] at hg
  rw [opE_at n w m x (by omega) hg.1,show m - x=(m - (x+1))+1 by omega]
  show (if rLE (opB n w x) (w.getD x [])=0 then opE n w (x+1) (m - (x+1)) else _)=_
  rw [if_pos hg.2]
theorem okOpenR : PlainOk Tryz.prog [] 20 cOpenR:=by
 refine plain_of (CxOk.mk' Elr_ok (by kernel_rfl) mixed (gl:=[]) (GOk.cons okRIn5 Tryz.func37 (by kernel_rfl) (by kernel_rfl) (GOk.cons okNewR Tryz.func38 (by kernel_rfl) (by kernel_rfl) (GOk.cons okCutR Tryz.func39 (by kernel_rfl) (by kernel_rfl) (GOk.cons okLineR Tryz.func40 (by kernel_rfl) (by kernel_rfl) GOk.nil)))) GoOk.nil noIt) Tryz.func20 (c:=Tryz.f20.body.getD .skip) (rvs:=[(.cell 4 45,tRB),(.tmp 5,I),(.tmp 6,I)]) (by kernel_rfl) (by kernel_rfl) (by kernel_rfl) ?_
 intro ds k ⟨hp,hk⟩ hwf
 obtain ⟨n,s,rfl,hP⟩:=dest2 hp
 clear hp hwf
 revert hP hk
 revert n s
 intro (n : Int) (s : List UInt8) (hP : OpenOk n s) (hk : k [⟨tRB,(opR n s).1⟩,⟨I,(opR n s).2.1⟩,⟨I,(opR n s).2.2⟩])
 refine ⟨anOpenR n s,?_⟩
 rw [vcOpenR]
 have hle:=hP.le
 have hcl:=cutG_len s 10 (s.length+1)
 have hwl : (cutL s 10).length≤1200000:=Nat.le_trans hcl (by omega)
 have hc1:=cutG_ne s 10
 generalize hw : cutL s 10=w at *
 simp only [Int.toNat_natCast,decide_eq_true_eq,decide_eq_false_iff_not,true_and,and_true,inK_i64,Bool.not_eq_true',Bool.not_eq_false']
 refine ⟨fun hb => ?_,fun hb=>⟨?_,⟨hle⟩,⟨0,⟨⟨by omega,hb⟩,rfl⟩,rfl,rfl⟩,fun x ⟨⟨hx,_⟩,hg⟩=>⟨by omega,fun hlt=>⟨by omega,by omega,?_,by omega,by omega,?_,fun he=>⟨by omega,?_⟩,fun he=>⟨by omega,x+1,⟨⟨by omega,hb⟩,?_⟩,by omega,by omega,rfl⟩⟩,fun hge => ?_⟩⟩⟩
 ·have e : opR n s=(rb0,0,1):=by unfold opR; rw [if_neg (by rw [hb]; decide)]
  rw [e] at hk; exact hk
 ·obtain ⟨_,_,m1,m5⟩:=inB5 hb; omega
 ·have:=hP.ok hb x; rw [hw] at this; exact this (by omega) hg
 ·have:=hP.ok hb x; rw [hw] at this; exact this (by omega) hg
 ·have e : opR n s=(rb0,(x : Int)+1,rLE (opB n w x) (w.getD x [])):=by
   unfold opR; rw [if_pos hb,hw,opE_at n w (w.length - 1) x (by omega) hg,show w.length - 1 - x=(w.length - 2 - x)+1 by omega]
   show (if rLE (opB n w x) (w.getD x [])=0 then _ else _)=_
   rw [if_neg he]
  rw [e] at hk; exact hk
 ·simp only [opG,hg,he,decide_true,Bool.and_self]
 ·have e : opR n s=(opB n w x,(opB n w x).2.2.1,0):=by
   unfold opR; rw [if_pos hb,hw,opE_at n w (w.length - 1) x (by omega) hg,show w.length - 1 - x=0 by omega]; rfl
  rw [e] at hk; exact hk
open Go.Vc Go.Proofs Go.RowKit
abbrev glO (v : GV) : List (Nat×Dat):=glT++glM v
structure NumPOk (s : List UInt8) : Prop where
 le : s.length≤1100000
def cNumP : Ctr:=cdet [.str] (fun s=>NumPOk s) (fun s=>[⟨I,atN s⟩,⟨.bool,numB s⟩])
open Go.Vc
set_option linter.unusedVariables false
theorem vcNumP (v : GV) (s : List UInt8) (k : List Dat→Prop) : vcF ⟨Elr,[(83,cAtoi),(64,cItoa)],glO v,[],[]⟩ [joinAll] (Tryz.f61.body.getD .skip) Tryz.f61.ntmps [(.tmp 2,I),(.tmp 3,.bool)] [⟨.str,s⟩] k=(
 s.length≤(1100000 : Nat)∧(atB s=true→(decide ((0 : Int)≤atN s)=true→True∧k [Dat.mk (I) (atN s),Dat.mk Ty.bool (Lib.itoa (atN s)==s)])∧(decide ((0 : Int)≤atN s)=false→k [Dat.mk (I) (atN s),Dat.mk Ty.bool false]))∧∀ (N : Nat),atB s=false→k [Dat.mk (I) (atN s),Dat.mk Ty.bool false]):=by kernel_rfl
open Go.Vc Go.Proofs Go.RowKit
theorem glO_T {v : GV} : ∀ x∈glT,x∈glO v:=fun x h=>List.mem_append_left _ h
theorem glO_M {v : GV} : ∀ x∈glM v,x∈glO v:=fun x h=>List.mem_append_right _ h
theorem okNumP (v : GV) : PlainOk Tryz.prog (glO v) 61 cNumP:=by
 refine plain_of (CxOk.mk' Elr_ok (by kernel_rfl) mixed (gl:=glO v) (GOk.cons (PlainOk.sub' glO_M (okAtoi v)) Tryz.func83 (by kernel_rfl) (by kernel_rfl) (GOk.cons (PlainOk.sub' glO_T okItoa) Tryz.func64 (by kernel_rfl) (by kernel_rfl) GOk.nil)) GoOk.nil noIt) Tryz.func61 (c:=Tryz.f61.body.getD .skip) (rvs:=[(.tmp 2,I),(.tmp 3,.bool)]) (by kernel_rfl) (by kernel_rfl) (by kernel_rfl) ?_
 intro ds k ⟨hp,hk⟩ hwf
 obtain ⟨s,rfl,hs⟩:=dest1 hp
 have hk : k [⟨I,atN s⟩,⟨.bool,numB s⟩]:=hk
 refine ⟨[joinAll],?_⟩
 rw [vcNumP]
 have e:=num_at s
 refine ⟨hs.le,fun hb=>⟨fun h0=>⟨trivial,?_⟩,fun h0 => ?_⟩,fun N hb => ?_⟩
 ·rw [hb,h0] at e; rw [e] at hk; exact hk
 ·rw [hb,h0] at e; rw [e] at hk; exact hk
 ·rw [hb] at e; rw [e] at hk; exact hk
def pE (b : BS) (l : List Int) : Int:=if l.length=3 then bkE b.2.2 (writeE b.1 (l.getD 0 0) (l.getD 1 0) (l.getD 2 0)) else bkE b.2.2 (syncE b.1 (l.getD 0 0) (l.getD 1 0))
def pT (b : BS) (l : List Int) : BS :=
 if l.length=3 then bkT b.1 b.2.1 b.2.2 (writeE b.1 (l.getD 0 0) (l.getD 1 0) (l.getD 2 0)) (writeT b.1 (l.getD 0 0) (l.getD 1 0) (l.getD 2 0)) (lineF [119] [l.getD 0 0,l.getD 1 0,l.getD 2 0])
 else bkT b.1 b.2.1 b.2.2 (syncE b.1 (l.getD 0 0) (l.getD 1 0)) (syncT b.1 (l.getD 0 0) (l.getD 1 0)) (lineF [115] [l.getD 0 0,l.getD 1 0])
def pLE (b : BS) (s : List UInt8) : Int:=if badL s=0 then pE b (numsL s) else badL s
def pLT (b : BS) (s : List UInt8) : BS:=if badL s=0 then pT b (numsL s) else b
structure BkOk (b : BS) : Prop where
 sh : NetSh b.1
 txt : b.2.1.length≤900000000
 lo : (0 : Int)≤b.2.2
 hi : b.2.2≤(60 : Int)
abbrev obB (b : BS) : List Ob:=obBk b.1 b.2.1 b.2.2
def oBL : OCtr:=fun args ob k=>match args,ob with
 | [.ps 0,.d .str s],[.st 66 [.ps 1,.sf 0 1,.os 2,.d (.int .i64) m],.st 96 [.os 3,.os 4],.buf 5 txt,.row 98 (.ar 4 (.sl (.pr (.sl (.int .i64)) (.pr (.int .i64) .un)))) nodes,.row 3 (.int .i64) wrote] =>
  (BkOk ((nodes,wrote,()),txt,m)∧s.length≤1100000)∧k (.d tErr (pLE ((nodes,wrote,()),txt,m) s)) (obB (pLT ((nodes,wrote,()),txt,m) s))
 | _,_=>False
def anBL (s : List UInt8) : Ann:=[joinAll,
 loopAt 12 Nat [(9,3,.d I)] (fun st i=>{ St.at (St.only st [0,8,42,43]) [(9,.os 5),(44,.d I (i : Int))] with ob:=st.ob.set 5 (.row 3 I ((((wordsL s).drop 1).take i).map atN)) }) (fun _ i=>(i≤((wordsL s).drop 1).length∧0≤lastB s 32)∧((((wordsL s).drop 1).take i).all numB=true∧numB (tailL s)=true∧atN (tailL s)=sumF (headL s))) (fun i=>((wordsL s).drop 1).length - i)]
open Go.Vc
set_option linter.unusedVariables false
theorem vcBL (v : GV) (nd : List (List (List Va))) (wr : List Int) (txt : List UInt8) (m : Int) (s : List UInt8) (k : SV→List Ob→Prop) : vcO ⟨Elr,[(60,cLastI),(61,cNumP),(62,cSum),(63,cSplit)],glO v,[],[(16,oBW),(17,oBS)]⟩ (anBL s) (Tryz.f34.body.getD .skip) Tryz.f34.ntmps [(.tmp 4,tErr)] [.ps 0,.d .str s] (obBk (nd,wr,()) txt m) k=(
 LastOk s∧(decide (lastB s (32 : Int) < (0 : Int))=true→(2 : Int)≠(0 : Int)∧k (SV.d (Ty.err (73 : Nat)) (2 : Int)) [Ob.st (66 : Nat) [SV.ps (1 : Nat),SV.sf (0 : Nat) (1 : Nat),SV.os (2 : Nat),SV.d (I) m],Ob.st (96 : Nat) [SV.os (3 : Nat),SV.os (4 : Nat)],Ob.buf (5 : Nat) txt,Ob.row (98 : Nat) (Ty.ar (4 : Nat) (tV).sl) nd,Ob.row (3 : Nat) (I) wr])∧(decide (lastB s (32 : Int) < (0 : Int))=false→inK IntKind.i64 (lastB s (32 : Int)+(1 : Int))∧(0 : Int)≤lastB s (32 : Int)+(1 : Int)∧lastB s (32 : Int)+(1 : Int)≤(↑s.length : Int)∧(↑s.length : Int)≤(↑s.length : Int)∧NumPOk (List.drop (lastB s (32 : Int)+(1 : Int)).toNat (List.take (↑s.length : Int).toNat s))∧((!numB (List.drop (lastB s (32 : Int)+(1 : Int)).toNat (List.take (↑s.length : Int).toNat s)))=true→(2 : Int)≠(0 : Int)∧k (SV.d (Ty.err (73 : Nat)) (2 : Int)) [Ob.st (66 : Nat) [SV.ps (1 : Nat),SV.sf (0 : Nat) (1 : Nat),SV.os (2 : Nat),SV.d (I) m],Ob.st (96 : Nat) [SV.os (3 : Nat),SV.os (4 : Nat)],Ob.buf (5 : Nat) txt,Ob.row (98 : Nat) (Ty.ar (4 : Nat) (tV).sl) nd,Ob.row (3 : Nat) (I) wr])∧((!numB (List.drop (lastB s (32 : Int)+(1 : Int)).toNat (List.take (↑s.length : Int).toNat s)))=false→(0 : Int)≤(0 : Int)∧(0 : Int)≤lastB s (32 : Int)∧lastB s (32 : Int)≤(↑s.length : Int)∧SumOk (List.drop (Int.toNat (0 : Int)) (List.take (lastB s (32 : Int)).toNat s))∧((!decide (atN (List.drop (lastB s (32 : Int)+(1 : Int)).toNat (List.take (↑s.length : Int).toNat s))=sumF (List.drop (Int.toNat (0 : Int)) (List.take (lastB s (32 : Int)).toNat s))))=true→(6 : Int)≠(0 : Int)∧k (SV.d (Ty.err (73 : Nat)) (6 : Int)) [Ob.st (66 : Nat) [SV.ps (1 : Nat),SV.sf (0 : Nat) (1 : Nat),SV.os (2 : Nat),SV.d (I) m],Ob.st (96 : Nat) [SV.os (3 : Nat),SV.os (4 : Nat)],Ob.buf (5 : Nat) txt,Ob.row (98 : Nat) (Ty.ar (4 : Nat) (tV).sl) nd,Ob.row (3 : Nat) (I) wr])∧((!decide (atN (List.drop (lastB s (32 : Int)+(1 : Int)).toNat (List.take (↑s.length : Int).toNat s))=sumF (List.drop (Int.toNat (0 : Int)) (List.take (lastB s (32 : Int)).toNat s))))=false→(0 : Int)≤(0 : Int)∧(0 : Int)≤lastB s (32 : Int)∧lastB s (32 : Int)≤(↑s.length : Int)∧SplitOk (List.drop (Int.toNat (0 : Int)) (List.take (lastB s (32 : Int)).toNat s)) [(32 : UInt8)]∧(0 : Int)≤(1 : Int)∧(1 : Int)≤(↑(cutL (List.drop (Int.toNat (0 : Int)) (List.take (lastB s (32 : Int)).toNat s)) (32 : Int)).length : Int)∧(↑(cutL (List.drop (Int.toNat (0 : Int)) (List.take (lastB s (32 : Int)).toNat s)) (32 : Int)).length : Int)≤(↑(cutL (List.drop (Int.toNat (0 : Int)) (List.take (lastB s (32 : Int)).toNat s)) (32 : Int)).length : Int)∧(∃ (x : Nat),((x≤(List.drop (1 : Nat) (wordsL s)).length∧(0 : Int)≤lastB s (32 : Int))∧(List.take x (List.drop (1 : Nat) (wordsL s))).all numB=true∧numB (tailL s)=true∧atN (tailL s)=sumF (headL s))∧(True∧cutL (List.drop (Int.toNat (0 : Int)) (List.take (lastB s (32 : Int)).toNat s)) (32 : Int)=cutL (List.drop (Int.toNat (0 : Int)) (List.take (lastB s (32 : Int)).toNat s)) (32 : Int)∧True∧List.drop (Int.toNat (1 : Int)) (List.take (↑(cutL (List.drop (Int.toNat (0 : Int)) (List.take (lastB s (32 : Int)).toNat s)) (32 : Int)).length : Int).toNat (cutL (List.drop (Int.toNat (0 : Int)) (List.take (lastB s (32 : Int)).toNat s)) (32 : Int)))=List.drop (Int.toNat (1 : Int)) (List.take (↑(cutL (List.drop (Int.toNat (0 : Int)) (List.take (lastB s (32 : Int)).toNat s)) (32 : Int)).length : Int).toNat (cutL (List.drop (Int.toNat (0 : Int)) (List.take (lastB s (32 : Int)).toNat s)) (32 : Int)))∧(↑(List.drop (Int.toNat (1 : Int)) (List.take (↑(cutL (List.drop (Int.toNat (0 : Int)) (List.take (lastB s (32 : Int)).toNat s)) (32 : Int)).length : Int).toNat (cutL (List.drop (Int.toNat (0 : Int)) (List.take (lastB s (32 : Int)).toNat s)) (32 : Int)))).length : Int)=(↑(List.drop (Int.toNat (1 : Int)) (List.take (↑(cutL (List.drop (Int.toNat (0 : Int)) (List.take (lastB s (32 : Int)).toNat s)) (32 : Int)).length : Int).toNat (cutL (List.drop (Int.toNat (0 : Int)) (List.take (lastB s (32 : Int)).toNat s)) (32 : Int)))).length : Int)∧(0 : Int)=(↑x : Int)∧True)∧((True∧True∧True∧m=m∧True)∧(True∧True∧True)∧txt=txt∧((98 : Nat)=(98 : Nat)∧nd=nd)∧((3 : Nat)=(3 : Nat)∧wr=wr)∧((3 : Nat)=(3 : Nat)∧[]=List.map atN (List.take x (List.drop (1 : Nat) (wordsL s))))∧True)∧True∧s=s∧Lib.pow10Tab=Lib.pow10Tab∧Value.int IntKind.i64 v.m=Value.int IntKind.i64 v.m∧Value.iface v.t1 v.p1=Value.iface v.t1 v.p1∧Value.iface v.t2 v.p2=Value.iface v.t2 v.p2∧True)∧∀ (x : Nat),(x≤(List.drop (1 : Nat) (wordsL s)).length∧(0 : Int)≤lastB s (32 : Int))∧(List.take x (List.drop (1 : Nat) (wordsL s))).all numB=true∧numB (tailL s)=true∧atN (tailL s)=sumF (headL s)→(decide ((↑x : Int) < (↑(List.drop (Int.toNat (1 : Int)) (List.take (↑(cutL (List.drop (Int.toNat (0 : Int)) (List.take (lastB s (32 : Int)).toNat s)) (32 : Int)).length : Int).toNat (cutL (List.drop (Int.toNat (0 : Int)) (List.take (lastB s (32 : Int)).toNat s)) (32 : Int)))).length : Int))=true→(0 : Int)≤(↑x : Int)∧(↑x : Int) < (↑(List.drop (Int.toNat (1 : Int)) (List.take (↑(cutL (List.drop (Int.toNat (0 : Int)) (List.take (lastB s (32 : Int)).toNat s)) (32 : Int)).length : Int).toNat (cutL (List.drop (Int.toNat (0 : Int)) (List.take (lastB s (32 : Int)).toNat s)) (32 : Int)))).length : Int)∧NumPOk ((List.drop (Int.toNat (1 : Int)) (List.take (↑(cutL (List.drop (Int.toNat (0 : Int)) (List.take (lastB s (32 : Int)).toNat s)) (32 : Int)).length : Int).toNat (cutL (List.drop (Int.toNat (0 : Int)) (List.take (lastB s (32 : Int)).toNat s)) (32 : Int)))).getD (↑x : Int).toNat [])∧((!numB ((List.drop (Int.toNat (1 : Int)) (List.take (↑(cutL (List.drop (Int.toNat (0 : Int)) (List.take (lastB s (32 : Int)).toNat s)) (32 : Int)).length : Int).toNat (cutL (List.drop (Int.toNat (0 : Int)) (List.take (lastB s (32 : Int)).toNat s)) (32 : Int)))).getD (↑x : Int).toNat []))=true→(2 : Int)≠(0 : Int)∧k (SV.d (Ty.err (73 : Nat)) (2 : Int)) [Ob.st (66 : Nat) [SV.ps (1 : Nat),SV.sf (0 : Nat) (1 : Nat),SV.os (2 : Nat),SV.d (I) m],Ob.st (96 : Nat) [SV.os (3 : Nat),SV.os (4 : Nat)],Ob.buf (5 : Nat) txt,Ob.row (98 : Nat) (Ty.ar (4 : Nat) (tV).sl) nd,Ob.row (3 : Nat) (I) wr])∧((!numB ((List.drop (Int.toNat (1 : Int)) (List.take (↑(cutL (List.drop (Int.toNat (0 : Int)) (List.take (lastB s (32 : Int)).toNat s)) (32 : Int)).length : Int).toNat (cutL (List.drop (Int.toNat (0 : Int)) (List.take (lastB s (32 : Int)).toNat s)) (32 : Int)))).getD (↑x : Int).toNat []))=false→(List.map atN (List.take x (List.drop (1 : Nat) (wordsL s)))).length+((List.replicate (1 : Nat) (0 : Int)).set (0 : Nat) (atN ((List.drop (Int.toNat (1 : Int)) (List.take (↑(cutL (List.drop (Int.toNat (0 : Int)) (List.take (lastB s (32 : Int)).toNat s)) (32 : Int)).length : Int).toNat (cutL (List.drop (Int.toNat (0 : Int)) (List.take (lastB s (32 : Int)).toNat s)) (32 : Int)))).getD (↑x : Int).toNat []))).length≤(1000000000 : Nat)∧inK IntKind.i64 ((↑x : Int)+(1 : Int))∧∃ (x_1 : Nat),((x_1≤(List.drop (1 : Nat) (wordsL s)).length∧(0 : Int)≤lastB s (32 : Int))∧(List.take x_1 (List.drop (1 : Nat) (wordsL s))).all numB=true∧numB (tailL s)=true∧atN (tailL s)=sumF (headL s))∧(List.drop (1 : Nat) (wordsL s)).length - x_1 < (List.drop (1 : Nat) (wordsL s)).length - x∧(True∧cutL (List.drop (Int.toNat (0 : Int)) (List.take (lastB s (32 : Int)).toNat s)) (32 : Int)=cutL (List.drop (Int.toNat (0 : Int)) (List.take (lastB s (32 : Int)).toNat s)) (32 : Int)∧True∧List.drop (Int.toNat (1 : Int)) (List.take (↑(cutL (List.drop (Int.toNat (0 : Int)) (List.take (lastB s (32 : Int)).toNat s)) (32 : Int)).length : Int).toNat (cutL (List.drop (Int.toNat (0 : Int)) (List.take (lastB s (32 : Int)).toNat s)) (32 : Int)))=List.drop (Int.toNat (1 : Int)) (List.take (↑(cutL (List.drop (Int.toNat (0 : Int)) (List.take (lastB s (32 : Int)).toNat s)) (32 : Int)).length : Int).toNat (cutL (List.drop (Int.toNat (0 : Int)) (List.take (lastB s (32 : Int)).toNat s)) (32 : Int)))∧(↑(List.drop (Int.toNat (1 : Int)) (List.take (↑(cutL (List.drop (Int.toNat (0 : Int)) (List.take (lastB s (32 : Int)).toNat s)) (32 : Int)).length : Int).toNat (cutL (List.drop (Int.toNat (0 : Int)) (List.take (lastB s (32 : Int)).toNat s)) (32 : Int)))).length : Int)=(↑(List.drop (Int.toNat (1 : Int)) (List.take (↑(cutL (List.drop (Int.toNat (0 : Int)) (List.take (lastB s (32 : Int)).toNat s)) (32 : Int)).length : Int).toNat (cutL (List.drop (Int.toNat (0 : Int)) (List.take (lastB s (32 : Int)).toNat s)) (32 : Int)))).length : Int)∧(↑x : Int)+(1 : Int)=(↑x_1 : Int)∧True)∧((True∧True∧True∧m=m∧True)∧(True∧True∧True)∧txt=txt∧((98 : Nat)=(98 : Nat)∧nd=nd)∧((3 : Nat)=(3 : Nat)∧wr=wr)∧((3 : Nat)=(3 : Nat)∧(List.map atN (List.take x (List.drop (1 : Nat) (wordsL s)))).append ((List.replicate (1 : Nat) (0 : Int)).set (0 : Nat) (atN ((List.drop (Int.toNat (1 : Int)) (List.take (↑(cutL (List.drop (Int.toNat (0 : Int)) (List.take (lastB s (32 : Int)).toNat s)) (32 : Int)).length : Int).toNat (cutL (List.drop (Int.toNat (0 : Int)) (List.take (lastB s (32 : Int)).toNat s)) (32 : Int)))).getD (↑x : Int).toNat [])))=List.map atN (List.take x_1 (List.drop (1 : Nat) (wordsL s))))∧True)∧True∧s=s∧Lib.pow10Tab=Lib.pow10Tab∧Value.int IntKind.i64 v.m=Value.int IntKind.i64 v.m∧Value.iface v.t1 v.p1=Value.iface v.t1 v.p1∧Value.iface v.t2 v.p2=Value.iface v.t2 v.p2∧True))∧(decide ((↑x : Int) < (↑(List.drop (Int.toNat (1 : Int)) (List.take (↑(cutL (List.drop (Int.toNat (0 : Int)) (List.take (lastB s (32 : Int)).toNat s)) (32 : Int)).length : Int).toNat (cutL (List.drop (Int.toNat (0 : Int)) (List.take (lastB s (32 : Int)).toNat s)) (32 : Int)))).length : Int))=false→(0 : Int)≤(0 : Int)∧(0 : Int) < (↑(cutL (List.drop (Int.toNat (0 : Int)) (List.take (lastB s (32 : Int)).toNat s)) (32 : Int)).length : Int)∧(((cutL (List.drop (Int.toNat (0 : Int)) (List.take (lastB s (32 : Int)).toNat s)) (32 : Int)).getD (Int.toNat (0 : Int)) []==[(119 : UInt8)])=true→(decide ((↑(List.map atN (List.take x (List.drop (1 : Nat) (wordsL s)))).length : Int)=(3 : Int))=true→((0 : Int)≤(0 : Int)∧(0 : Int) < (↑(List.map atN (List.take x (List.drop (1 : Nat) (wordsL s)))).length : Int)∧(0 : Int)≤(1 : Int)∧(1 : Int) < (↑(List.map atN (List.take x (List.drop (1 : Nat) (wordsL s)))).length : Int)∧(0 : Int)≤(2 : Int)∧(2 : Int) < (↑(List.map atN (List.take x (List.drop (1 : Nat) (wordsL s)))).length : Int)∧True)∧(NetSh (nd,wr,())∧txt.length≤(900000000 : Nat)∧(0 : Int)≤m∧m≤(60 : Int))∧k (SV.d (Ty.err (73 : Nat)) (bkE m (writeE (nd,wr,()) ((List.map atN (List.take x (List.drop (1 : Nat) (wordsL s)))).getD (0 : Nat) (0 : Int)) ((List.map atN (List.take x (List.drop (1 : Nat) (wordsL s)))).getD (1 : Nat) (0 : Int)) ((List.map atN (List.take x (List.drop (1 : Nat) (wordsL s)))).getD (2 : Nat) (0 : Int))))) [Ob.st (66 : Nat) [SV.ps (1 : Nat),SV.sf (0 : Nat) (1 : Nat),SV.os (2 : Nat),SV.d (I) (bkT (nd,wr,()) txt m (writeE (nd,wr,()) ((List.map atN (List.take x (List.drop (1 : Nat) (wordsL s)))).getD (0 : Nat) (0 : Int)) ((List.map atN (List.take x (List.drop (1 : Nat) (wordsL s)))).getD (1 : Nat) (0 : Int)) ((List.map atN (List.take x (List.drop (1 : Nat) (wordsL s)))).getD (2 : Nat) (0 : Int))) (writeT (nd,wr,()) ((List.map atN (List.take x (List.drop (1 : Nat) (wordsL s)))).getD (0 : Nat) (0 : Int)) ((List.map atN (List.take x (List.drop (1 : Nat) (wordsL s)))).getD (1 : Nat) (0 : Int)) ((List.map atN (List.take x (List.drop (1 : Nat) (wordsL s)))).getD (2 : Nat) (0 : Int))) (lineF [(119 : UInt8)] [(List.map atN (List.take x (List.drop (1 : Nat) (wordsL s)))).getD (0 : Nat) (0 : Int),(List.map atN (List.take x (List.drop (1 : Nat) (wordsL s)))).getD (1 : Nat) (0 : Int),(List.map atN (List.take x (List.drop (1 : Nat) (wordsL s)))).getD (2 : Nat) (0 : Int)])).snd.snd],Ob.st (96 : Nat) [SV.os (3 : Nat),SV.os (4 : Nat)],Ob.buf (5 : Nat) (bkT (nd,wr,()) txt m (writeE (nd,wr,()) ((List.map atN (List.take x (List.drop (1 : Nat) (wordsL s)))).getD (0 : Nat) (0 : Int)) ((List.map atN (List.take x (List.drop (1 : Nat) (wordsL s)))).getD (1 : Nat) (0 : Int)) ((List.map atN (List.take x (List.drop (1 : Nat) (wordsL s)))).getD (2 : Nat) (0 : Int))) (writeT (nd,wr,()) ((List.map atN (List.take x (List.drop (1 : Nat) (wordsL s)))).getD (0 : Nat) (0 : Int)) ((List.map atN (List.take x (List.drop (1 : Nat) (wordsL s)))).getD (1 : Nat) (0 : Int)) ((List.map atN (List.take x (List.drop (1 : Nat) (wordsL s)))).getD (2 : Nat) (0 : Int))) (lineF [(119 : UInt8)] [(List.map atN (List.take x (List.drop (1 : Nat) (wordsL s)))).getD (0 : Nat) (0 : Int),(List.map atN (List.take x (List.drop (1 : Nat) (wordsL s)))).getD (1 : Nat) (0 : Int),(List.map atN (List.take x (List.drop (1 : Nat) (wordsL s)))).getD (2 : Nat) (0 : Int)])).snd.fst,Ob.row (98 : Nat) (Ty.ar (4 : Nat) (tV).sl) (bkT (nd,wr,()) txt m (writeE (nd,wr,()) ((List.map atN (List.take x (List.drop (1 : Nat) (wordsL s)))).getD (0 : Nat) (0 : Int)) ((List.map atN (List.take x (List.drop (1 : Nat) (wordsL s)))).getD (1 : Nat) (0 : Int)) ((List.map atN (List.take x (List.drop (1 : Nat) (wordsL s)))).getD (2 : Nat) (0 : Int))) (writeT (nd,wr,()) ((List.map atN (List.take x (List.drop (1 : Nat) (wordsL s)))).getD (0 : Nat) (0 : Int)) ((List.map atN (List.take x (List.drop (1 : Nat) (wordsL s)))).getD (1 : Nat) (0 : Int)) ((List.map atN (List.take x (List.drop (1 : Nat) (wordsL s)))).getD (2 : Nat) (0 : Int))) (lineF [(119 : UInt8)] [(List.map atN (List.take x (List.drop (1 : Nat) (wordsL s)))).getD (0 : Nat) (0 : Int),(List.map atN (List.take x (List.drop (1 : Nat) (wordsL s)))).getD (1 : Nat) (0 : Int),(List.map atN (List.take x (List.drop (1 : Nat) (wordsL s)))).getD (2 : Nat) (0 : Int)])).fst.fst,Ob.row (3 : Nat) (I) (bkT (nd,wr,()) txt m (writeE (nd,wr,()) ((List.map atN (List.take x (List.drop (1 : Nat) (wordsL s)))).getD (0 : Nat) (0 : Int)) ((List.map atN (List.take x (List.drop (1 : Nat) (wordsL s)))).getD (1 : Nat) (0 : Int)) ((List.map atN (List.take x (List.drop (1 : Nat) (wordsL s)))).getD (2 : Nat) (0 : Int))) (writeT (nd,wr,()) ((List.map atN (List.take x (List.drop (1 : Nat) (wordsL s)))).getD (0 : Nat) (0 : Int)) ((List.map atN (List.take x (List.drop (1 : Nat) (wordsL s)))).getD (1 : Nat) (0 : Int)) ((List.map atN (List.take x (List.drop (1 : Nat) (wordsL s)))).getD (2 : Nat) (0 : Int))) (lineF [(119 : UInt8)] [(List.map atN (List.take x (List.drop (1 : Nat) (wordsL s)))).getD (0 : Nat) (0 : Int),(List.map atN (List.take x (List.drop (1 : Nat) (wordsL s)))).getD (1 : Nat) (0 : Int),(List.map atN (List.take x (List.drop (1 : Nat) (wordsL s)))).getD (2 : Nat) (0 : Int)])).fst.snd.fst])∧(decide ((↑(List.map atN (List.take x (List.drop (1 : Nat) (wordsL s)))).length : Int)=(3 : Int))=false→(0 : Int)≤(0 : Int)∧(0 : Int) < (↑(cutL (List.drop (Int.toNat (0 : Int)) (List.take (lastB s (32 : Int)).toNat s)) (32 : Int)).length : Int)∧(((cutL (List.drop (Int.toNat (0 : Int)) (List.take (lastB s (32 : Int)).toNat s)) (32 : Int)).getD (Int.toNat (0 : Int)) []==[(115 : UInt8)])=true→(decide ((↑(List.map atN (List.take x (List.drop (1 : Nat) (wordsL s)))).length : Int)=(2 : Int))=true→((0 : Int)≤(0 : Int)∧(0 : Int) < (↑(List.map atN (List.take x (List.drop (1 : Nat) (wordsL s)))).length : Int)∧(0 : Int)≤(1 : Int)∧(1 : Int) < (↑(List.map atN (List.take x (List.drop (1 : Nat) (wordsL s)))).length : Int)∧True)∧(NetSh (nd,wr,())∧txt.length≤(900000000 : Nat)∧(0 : Int)≤m∧m≤(60 : Int))∧k (SV.d (Ty.err (73 : Nat)) (bkE m (syncE (nd,wr,()) ((List.map atN (List.take x (List.drop (1 : Nat) (wordsL s)))).getD (0 : Nat) (0 : Int)) ((List.map atN (List.take x (List.drop (1 : Nat) (wordsL s)))).getD (1 : Nat) (0 : Int))))) [Ob.st (66 : Nat) [SV.ps (1 : Nat),SV.sf (0 : Nat) (1 : Nat),SV.os (2 : Nat),SV.d (I) (bkT (nd,wr,()) txt m (syncE (nd,wr,()) ((List.map atN (List.take x (List.drop (1 : Nat) (wordsL s)))).getD (0 : Nat) (0 : Int)) ((List.map atN (List.take x (List.drop (1 : Nat) (wordsL s)))).getD (1 : Nat) (0 : Int))) (syncT (nd,wr,()) ((List.map atN (List.take x (List.drop (1 : Nat) (wordsL s)))).getD (0 : Nat) (0 : Int)) ((List.map atN (List.take x (List.drop (1 : Nat) (wordsL s)))).getD (1 : Nat) (0 : Int))) (lineF [(115 : UInt8)] [(List.map atN (List.take x (List.drop (1 : Nat) (wordsL s)))).getD (0 : Nat) (0 : Int),(List.map atN (List.take x (List.drop (1 : Nat) (wordsL s)))).getD (1 : Nat) (0 : Int)])).snd.snd],Ob.st (96 : Nat) [SV.os (3 : Nat),SV.os (4 : Nat)],Ob.buf (5 : Nat) (bkT (nd,wr,()) txt m (syncE (nd,wr,()) ((List.map atN (List.take x (List.drop (1 : Nat) (wordsL s)))).getD (0 : Nat) (0 : Int)) ((List.map atN (List.take x (List.drop (1 : Nat) (wordsL s)))).getD (1 : Nat) (0 : Int))) (syncT (nd,wr,()) ((List.map atN (List.take x (List.drop (1 : Nat) (wordsL s)))).getD (0 : Nat) (0 : Int)) ((List.map atN (List.take x (List.drop (1 : Nat) (wordsL s)))).getD (1 : Nat) (0 : Int))) (lineF [(115 : UInt8)] [(List.map atN (List.take x (List.drop (1 : Nat) (wordsL s)))).getD (0 : Nat) (0 : Int),(List.map atN (List.take x (List.drop (1 : Nat) (wordsL s)))).getD (1 : Nat) (0 : Int)])).snd.fst,Ob.row (98 : Nat) (Ty.ar (4 : Nat) (tV).sl) (bkT (nd,wr,()) txt m (syncE (nd,wr,()) ((List.map atN (List.take x (List.drop (1 : Nat) (wordsL s)))).getD (0 : Nat) (0 : Int)) ((List.map atN (List.take x (List.drop (1 : Nat) (wordsL s)))).getD (1 : Nat) (0 : Int))) (syncT (nd,wr,()) ((List.map atN (List.take x (List.drop (1 : Nat) (wordsL s)))).getD (0 : Nat) (0 : Int)) ((List.map atN (List.take x (List.drop (1 : Nat) (wordsL s)))).getD (1 : Nat) (0 : Int))) (lineF [(115 : UInt8)] [(List.map atN (List.take x (List.drop (1 : Nat) (wordsL s)))).getD (0 : Nat) (0 : Int),(List.map atN (List.take x (List.drop (1 : Nat) (wordsL s)))).getD (1 : Nat) (0 : Int)])).fst.fst,Ob.row (3 : Nat) (I) (bkT (nd,wr,()) txt m (syncE (nd,wr,()) ((List.map atN (List.take x (List.drop (1 : Nat) (wordsL s)))).getD (0 : Nat) (0 : Int)) ((List.map atN (List.take x (List.drop (1 : Nat) (wordsL s)))).getD (1 : Nat) (0 : Int))) (syncT (nd,wr,()) ((List.map atN (List.take x (List.drop (1 : Nat) (wordsL s)))).getD (0 : Nat) (0 : Int)) ((List.map atN (List.take x (List.drop (1 : Nat) (wordsL s)))).getD (1 : Nat) (0 : Int))) (lineF [(115 : UInt8)] [(List.map atN (List.take x (List.drop (1 : Nat) (wordsL s)))).getD (0 : Nat) (0 : Int),(List.map atN (List.take x (List.drop (1 : Nat) (wordsL s)))).getD (1 : Nat) (0 : Int)])).fst.snd.fst])∧(decide ((↑(List.map atN (List.take x (List.drop (1 : Nat) (wordsL s)))).length : Int)=(2 : Int))=false→(2 : Int)≠(0 : Int)∧k (SV.d (Ty.err (73 : Nat)) (2 : Int)) [Ob.st (66 : Nat) [SV.ps (1 : Nat),SV.sf (0 : Nat) (1 : Nat),SV.os (2 : Nat),SV.d (I) m],Ob.st (96 : Nat) [SV.os (3 : Nat),SV.os (4 : Nat)],Ob.buf (5 : Nat) txt,Ob.row (98 : Nat) (Ty.ar (4 : Nat) (tV).sl) nd,Ob.row (3 : Nat) (I) wr]))∧(((cutL (List.drop (Int.toNat (0 : Int)) (List.take (lastB s (32 : Int)).toNat s)) (32 : Int)).getD (Int.toNat (0 : Int)) []==[(115 : UInt8)])=false→(2 : Int)≠(0 : Int)∧k (SV.d (Ty.err (73 : Nat)) (2 : Int)) [Ob.st (66 : Nat) [SV.ps (1 : Nat),SV.sf (0 : Nat) (1 : Nat),SV.os (2 : Nat),SV.d (I) m],Ob.st (96 : Nat) [SV.os (3 : Nat),SV.os (4 : Nat)],Ob.buf (5 : Nat) txt,Ob.row (98 : Nat) (Ty.ar (4 : Nat) (tV).sl) nd,Ob.row (3 : Nat) (I) wr])))∧(((cutL (List.drop (Int.toNat (0 : Int)) (List.take (lastB s (32 : Int)).toNat s)) (32 : Int)).getD (Int.toNat (0 : Int)) []==[(119 : UInt8)])=false→(0 : Int)≤(0 : Int)∧(0 : Int) < (↑(cutL (List.drop (Int.toNat (0 : Int)) (List.take (lastB s (32 : Int)).toNat s)) (32 : Int)).length : Int)∧(((cutL (List.drop (Int.toNat (0 : Int)) (List.take (lastB s (32 : Int)).toNat s)) (32 : Int)).getD (Int.toNat (0 : Int)) []==[(115 : UInt8)])=true→(decide ((↑(List.map atN (List.take x (List.drop (1 : Nat) (wordsL s)))).length : Int)=(2 : Int))=true→((0 : Int)≤(0 : Int)∧(0 : Int) < (↑(List.map atN (List.take x (List.drop (1 : Nat) (wordsL s)))).length : Int)∧(0 : Int)≤(1 : Int)∧(1 : Int) < (↑(List.map atN (List.take x (List.drop (1 : Nat) (wordsL s)))).length : Int)∧True)∧(NetSh (nd,wr,())∧txt.length≤(900000000 : Nat)∧(0 : Int)≤m∧m≤(60 : Int))∧k (SV.d (Ty.err (73 : Nat)) (bkE m (syncE (nd,wr,()) ((List.map atN (List.take x (List.drop (1 : Nat) (wordsL s)))).getD (0 : Nat) (0 : Int)) ((List.map atN (List.take x (List.drop (1 : Nat) (wordsL s)))).getD (1 : Nat) (0 : Int))))) [Ob.st (66 : Nat) [SV.ps (1 : Nat),SV.sf (0 : Nat) (1 : Nat),SV.os (2 : Nat),SV.d (I) (bkT (nd,wr,()) txt m (syncE (nd,wr,()) ((List.map atN (List.take x (List.drop (1 : Nat) (wordsL s)))).getD (0 : Nat) (0 : Int)) ((List.map atN (List.take x (List.drop (1 : Nat) (wordsL s)))).getD (1 : Nat) (0 : Int))) (syncT (nd,wr,()) ((List.map atN (List.take x (List.drop (1 : Nat) (wordsL s)))).getD (0 : Nat) (0 : Int)) ((List.map atN (List.take x (List.drop (1 : Nat) (wordsL s)))).getD (1 : Nat) (0 : Int))) (lineF [(115 : UInt8)] [(List.map atN (List.take x (List.drop (1 : Nat) (wordsL s)))).getD (0 : Nat) (0 : Int),(List.map atN (List.take x (List.drop (1 : Nat) (wordsL s)))).getD (1 : Nat) (0 : Int)])).snd.snd],Ob.st (96 : Nat) [SV.os (3 : Nat),SV.os (4 : Nat)],Ob.buf (5 : Nat) (bkT (nd,wr,()) txt m (syncE (nd,wr,()) ((List.map atN (List.take x (List.drop (1 : Nat) (wordsL s)))).getD (0 : Nat) (0 : Int)) ((List.map atN (List.take x (List.drop (1 : Nat) (wordsL s)))).getD (1 : Nat) (0 : Int))) (syncT (nd,wr,()) ((List.map atN (List.take x (List.drop (1 : Nat) (wordsL s)))).getD (0 : Nat) (0 : Int)) ((List.map atN (List.take x (List.drop (1 : Nat) (wordsL s)))).getD (1 : Nat) (0 : Int))) (lineF [(115 : UInt8)] [(List.map atN (List.take x (List.drop (1 : Nat) (wordsL s)))).getD (0 : Nat) (0 : Int),(List.map atN (List.take x (List.drop (1 : Nat) (wordsL s)))).getD (1 : Nat) (0 : Int)])).snd.fst,Ob.row (98 : Nat) (Ty.ar (4 : Nat) (tV).sl) (bkT (nd,wr,()) txt m (syncE (nd,wr,()) ((List.map atN (List.take x (List.drop (1 : Nat) (wordsL s)))).getD (0 : Nat) (0 : Int)) ((List.map atN (List.take x (List.drop (1 : Nat) (wordsL s)))).getD (1 : Nat) (0 : Int))) (syncT (nd,wr,()) ((List.map atN (List.take x (List.drop (1 : Nat) (wordsL s)))).getD (0 : Nat) (0 : Int)) ((List.map atN (List.take x (List.drop (1 : Nat) (wordsL s)))).getD (1 : Nat) (0 : Int))) (lineF [(115 : UInt8)] [(List.map atN (List.take x (List.drop (1 : Nat) (wordsL s)))).getD (0 : Nat) (0 : Int),(List.map atN (List.take x (List.drop (1 : Nat) (wordsL s)))).getD (1 : Nat) (0 : Int)])).fst.fst,Ob.row (3 : Nat) (I) (bkT (nd,wr,()) txt m (syncE (nd,wr,()) ((List.map atN (List.take x (List.drop (1 : Nat) (wordsL s)))).getD (0 : Nat) (0 : Int)) ((List.map atN (List.take x (List.drop (1 : Nat) (wordsL s)))).getD (1 : Nat) (0 : Int))) (syncT (nd,wr,()) ((List.map atN (List.take x (List.drop (1 : Nat) (wordsL s)))).getD (0 : Nat) (0 : Int)) ((List.map atN (List.take x (List.drop (1 : Nat) (wordsL s)))).getD (1 : Nat) (0 : Int))) (lineF [(115 : UInt8)] [(List.map atN (List.take x (List.drop (1 : Nat) (wordsL s)))).getD (0 : Nat) (0 : Int),(List.map atN (List.take x (List.drop (1 : Nat) (wordsL s)))).getD (1 : Nat) (0 : Int)])).fst.snd.fst])∧(decide ((↑(List.map atN (List.take x (List.drop (1 : Nat) (wordsL s)))).length : Int)=(2 : Int))=false→(2 : Int)≠(0 : Int)∧k (SV.d (Ty.err (73 : Nat)) (2 : Int)) [Ob.st (66 : Nat) [SV.ps (1 : Nat),SV.sf (0 : Nat) (1 : Nat),SV.os (2 : Nat),SV.d (I) m],Ob.st (96 : Nat) [SV.os (3 : Nat),SV.os (4 : Nat)],Ob.buf (5 : Nat) txt,Ob.row (98 : Nat) (Ty.ar (4 : Nat) (tV).sl) nd,Ob.row (3 : Nat) (I) wr]))∧(((cutL (List.drop (Int.toNat (0 : Int)) (List.take (lastB s (32 : Int)).toNat s)) (32 : Int)).getD (Int.toNat (0 : Int)) []==[(115 : UInt8)])=false→(2 : Int)≠(0 : Int)∧k (SV.d (Ty.err (73 : Nat)) (2 : Int)) [Ob.st (66 : Nat) [SV.ps (1 : Nat),SV.sf (0 : Nat) (1 : Nat),SV.os (2 : Nat),SV.d (I) m],Ob.st (96 : Nat) [SV.os (3 : Nat),SV.os (4 : Nat)],Ob.buf (5 : Nat) txt,Ob.row (98 : Nat) (Ty.ar (4 : Nat) (tV).sl) nd,Ob.row (3 : Nat) (I) wr]))))))):=by kernel_rfl
open Go.Vc Go.Proofs Go.RowKit
theorem atN_map {l : List (List UInt8)} (h : l.all numB=true) : l.map atN=l.map numN:=by
 apply List.map_congr_left
 intro x hx
 exact at_num (List.all_eq_true.1 h x hx)
theorem ownBL (v : GV) : OwnOk Tryz.prog (glO v) 34 oBL:=by
 refine own_of (CxOk.mk' Elr_ok (by kernel_rfl) mixed (gl:=glO v) (GOk.cons okLastI.lift Tryz.func60 (by kernel_rfl) (by kernel_rfl) (GOk.cons (okNumP v) Tryz.func61 (by kernel_rfl) (by kernel_rfl) (GOk.cons okSumB.lift Tryz.func62 (by kernel_rfl) (by kernel_rfl) (GOk.cons (PlainOk.sub' glO_M (okSplit v)) Tryz.func63 (by kernel_rfl) (by kernel_rfl) GOk.nil)))) (GoOk.cons (OwnOk.sub glO_T ownBW) Tryz.func16 (by kernel_rfl) (by kernel_rfl) (GoOk.cons (OwnOk.sub glO_T ownBS) Tryz.func17 (by kernel_rfl) (by kernel_rfl) GoOk.nil)) noIt) Tryz.func34 (c:=Tryz.f34.body.getD .skip) (rvs:=[(.tmp 4,tErr)]) (by kernel_rfl) (by kernel_rfl) (by kernel_rfl) ?_
 intro args ob k h hwa hwo
 unfold oBL at h
 split at h
 ·rename_i s m txt nd wr
  obtain ⟨⟨hB,hle⟩,hk⟩:=h
  refine ⟨anBL s,?_⟩
  show vcO _ _ _ _ _ [.ps 0,.d .str s] (obBk (nd,wr,()) txt m) k
  rw [vcBL]
  have one : (1 : I.D)=(1 : Int):=rfl
  have i0 : Int.toNat 0=0:=rfl
  have i1 : Int.toNat 1=1:=rfl
  obtain ⟨lb1,lb2⟩:=lastB_bound s 32
  have bad : ∀ e : Int,e≠0→badL s=e→k (.d tErr e) (obB ((nd,wr,()),txt,m)):=fun e he h=>by
   have e1 : pLE ((nd,wr,()),txt,m) s=e:=by unfold pLE; rw [if_neg (by rw [h]; exact he),h]
   have e2 : pLT ((nd,wr,()),txt,m) s=((nd,wr,()),txt,m):=by unfold pLT; rw [if_neg (by rw [h]; exact he)]
   rw [e1,e2] at hk; exact hk
  have e1 : ∀ y : Int,(List.replicate 1 (0 : Int)).set 0 y=[y]:=fun _=>rfl
  have ea : ∀ (m n : List Int),List.append m n=m++n:=fun _ _=>rfl
  simp only [one,i0,i1,e1,ea,Int.toNat_natCast,List.take_length,List.drop_zero,decide_eq_true_eq,decide_eq_false_iff_not,true_and,and_true,inK_i64,Bool.not_eq_true',Bool.not_eq_false',Nat.le_eq]
  refine ⟨⟨by omega⟩,fun hneg=>⟨by decide,bad 2 (by decide) ?_⟩,fun hneg => ?_⟩
  ·unfold badL; rw [if_pos hneg]
  ·have eh : List.take (lastB s 32).toNat s=headL s:=rfl
   have et : List.drop (lastB s 32+1).toNat s=tailL s:=rfl
   have ew : cutL (headL s) 32=wordsL s:=rfl
   have hhl : (headL s).length≤1100000:=by unfold headL; rw [List.length_take]; omega
   have htl : (tailL s).length≤1100000:=by unfold tailL; rw [List.length_drop]; omega
   simp only [eh,et,ew]
   have hn0 : ¬ lastB s 32 < 0:=hneg
   have hcl:=cutG_len (headL s) 32 ((headL s).length+1)
   have hwl : (wordsL s).length≤1200000:=Nat.le_trans hcl (by omega)
   have hw1:=cutG_ne (headL s) 32
   rw [ew] at hw1
   have hdl : ((wordsL s).drop 1).length=(wordsL s).length - 1:=List.length_drop ..
   have hwm : ∀ x∈wordsL s,x.length≤1100000:=fun x hx=>by
    have : x∈splL 32 (headL s):=by rw [← cut_spl]; exact hx
    exact Nat.le_trans (splL_le 32 _ x this) hhl
   refine ⟨by omega,by omega,by omega,Int.le_refl _,⟨htl⟩,fun hb=>⟨by decide,bad 2 (by decide) ?_⟩,fun hb=>⟨Int.le_refl _,by omega,by omega,⟨hhl⟩,fun hs=>⟨by decide,bad 6 (by decide) ?_⟩,fun hs=>⟨Int.le_refl _,by omega,by omega,⟨hhl,rfl⟩,by omega,by omega,Int.le_refl _,⟨0,⟨⟨Nat.zero_le _,by omega⟩,rfl,hb,hs⟩,?_⟩,fun y ⟨⟨hy,_⟩,ha,_,_⟩=>⟨fun hlt => ?_,fun hge2 => ?_⟩⟩⟩⟩
   ·unfold badL; rw [if_neg hn0,if_pos hb]
   ·unfold badL; rw [if_neg hn0,if_neg (by rw [hb]; decide),if_pos (by rw [← at_num hb]; exact hs)]
   ·exact ⟨rfl,rfl⟩
   ·have hyl : y < ((wordsL s).drop 1).length:=by omega
    have eg : ((wordsL s).drop 1).getD y []=((wordsL s).drop 1)[y]:=by rw [List.getD_eq_getElem?_getD,List.getElem?_eq_getElem hyl]; rfl
    rw [eg]
    refine ⟨by omega,hlt,⟨hwm _ (List.mem_of_mem_drop (List.getElem_mem hyl))⟩,fun hn=>⟨by decide,bad 2 (by decide) ?_⟩,fun hn=>⟨?_,by omega,y+1,⟨⟨by omega,by omega⟩,?_,hb,hs⟩,by omega,by omega,?_⟩⟩
    ·have : ((wordsL s).drop 1).all numB=false:=List.all_eq_false.2 ⟨_,List.getElem_mem hyl,by rw [hn]; decide⟩
     unfold badL; rw [if_neg hn0,if_neg (by rw [hb]; decide),if_neg (by rw [← at_num hb,hs]; simp),if_pos this]
    ·simp only [List.length_map,List.length_take,List.length_cons,List.length_nil]; omega
    ·rw [List.take_succ_eq_append_getElem hyl,List.all_append,ha,List.all_cons,hn]; rfl
    ·rw [List.take_succ_eq_append_getElem hyl,List.map_append]; rfl
   ·have ey : y=((wordsL s).drop 1).length:=by omega
    subst ey
    rw [List.take_length] at ha
    simp only [List.take_length]
    have hnu : List.map atN ((wordsL s).drop 1)=numsL s:=atN_map ha
    simp only [hnu]
    have hbad : fitL s=false→badL s=2:=fun h=>by
     unfold badL; rw [if_neg hn0,if_neg (by rw [hb]; decide),if_neg (by rw [← at_num hb,hs]; simp),if_neg (by rw [ha]; decide),if_neg (by rw [h]; decide)]
    have hgo : fitL s=true→k (.d tErr (pE ((nd,wr,()),txt,m) (numsL s))) (obB (pT ((nd,wr,()),txt,m) (numsL s))):=fun h=>by
     have e0 : badL s=0:=by unfold badL; rw [if_neg hn0,if_neg (by rw [hb]; decide),if_neg (by rw [← at_num hb,hs]; simp),if_neg (by rw [ha]; decide),if_pos h]
     have e1 : pLE ((nd,wr,()),txt,m) s=pE ((nd,wr,()),txt,m) (numsL s):=by unfold pLE; rw [if_pos e0]
     have e2 : pLT ((nd,wr,()),txt,m) s=pT ((nd,wr,()),txt,m) (numsL s):=by unfold pLT; rw [if_pos e0]
     rw [e1,e2] at hk; exact hk
    have w115 : ((wordsL s).getD 0 []==[119])=true→((wordsL s).getD 0 []==[115])=false:=fun h=>by
     rw [eq_of_beq h]; decide
    have h3 : (numsL s).length=3→pE ((nd,wr,()),txt,m) (numsL s)=bkE m (writeE (nd,wr,()) ((numsL s).getD 0 0) ((numsL s).getD 1 0) ((numsL s).getD 2 0))∧pT ((nd,wr,()),txt,m) (numsL s)=bkT (nd,wr,()) txt m (writeE (nd,wr,()) ((numsL s).getD 0 0) ((numsL s).getD 1 0) ((numsL s).getD 2 0)) (writeT (nd,wr,()) ((numsL s).getD 0 0) ((numsL s).getD 1 0) ((numsL s).getD 2 0)) (lineF [119] [(numsL s).getD 0 0,(numsL s).getD 1 0,(numsL s).getD 2 0]):=fun h=>by
     unfold pE pT; rw [if_pos h,if_pos h]; exact ⟨rfl,rfl⟩
    have h2 : (numsL s).length=2→pE ((nd,wr,()),txt,m) (numsL s)=bkE m (syncE (nd,wr,()) ((numsL s).getD 0 0) ((numsL s).getD 1 0))∧pT ((nd,wr,()),txt,m) (numsL s)=bkT (nd,wr,()) txt m (syncE (nd,wr,()) ((numsL s).getD 0 0) ((numsL s).getD 1 0)) (syncT (nd,wr,()) ((numsL s).getD 0 0) ((numsL s).getD 1 0)) (lineF [115] [(numsL s).getD 0 0,(numsL s).getD 1 0]):=fun h=>by
     unfold pE pT; rw [if_neg (by omega),if_neg (by omega)]; exact ⟨rfl,rfl⟩
    refine ⟨Int.le_refl _,by omega,fun h119=>⟨fun hl=>⟨by omega,⟨hB.sh,hB.txt,hB.lo,hB.hi⟩,?_⟩,fun hl => ?_⟩,fun h119 => ?_⟩
    ·have:=hgo (by unfold fitL; rw [h119,decide_eq_true (by omega : (numsL s).length=3)]; rfl)
     rw [(h3 (by omega)).1,(h3 (by omega)).2] at this
     exact this
    ·refine ⟨Int.le_refl _,by omega,fun h115=>absurd h115 (by rw [w115 h119]; decide),fun h115=>⟨by decide,bad 2 (by decide) (hbad ?_)⟩⟩
     unfold fitL; rw [h119,h115,decide_eq_false (by omega : ¬ (numsL s).length=3)]; rfl
    ·refine ⟨Int.le_refl _,by omega,fun h115=>⟨fun hl=>⟨by omega,⟨hB.sh,hB.txt,hB.lo,hB.hi⟩,?_⟩,fun hl=>⟨by decide,bad 2 (by decide) (hbad ?_)⟩⟩,fun h115=>⟨by decide,bad 2 (by decide) (hbad ?_)⟩⟩
     ·have:=hgo (by unfold fitL; rw [h119,h115,decide_eq_true (by omega : (numsL s).length=2)]; rfl)
      rw [(h2 (by omega)).1,(h2 (by omega)).2] at this
      exact this
     ·unfold fitL; rw [h119,h115,decide_eq_false (by omega : ¬ (numsL s).length=2)]; rfl
     ·unfold fitL; rw [h119,h115]; rfl
 ·exact h.elim
open Go.Vc Go.Proofs Go.RowKit Go.Shelf
attribute [local go_sem] Oper.semAt_some
theorem lines_calls (s : ByteArray) (w : World) : Calls Tryz.prog 32 #[.string s] w fun e w'=>e = .returned (.func (.func 57) #[] #[.pointer (some ⟨w.heap.size,0,none⟩)])∧w'=w.alloc (.cells #[.string s] 9):=by
 go_enter Tryz.func32,Tryz.ntmps32
 go_wp2
 go_ret
 exact ⟨rfl,rfl⟩
def oLines : OCtr:=fun args ob k=>match args,ob with
 | [.d .str s],[]=>k (.cf 57 0) [.var 9 .str s]
 | _,_=>False
theorem ownLines : OwnOk Tryz.prog [] 32 oLines:=by
 intro args ob k h w M R0 A vals hB hrd IV
 unfold oLines at h
 split at h
 ·rename_i s
  obtain ⟨e1,hl⟩:=str_val (IV.tm 0 _ rfl)
  have hv:=vals1 (show vals.size=1 from IV.len)
  rw [e1] at hv
  rw [hv]
  rw [hv] at IV
  refine (lines_calls ⟨s.toArray⟩ w).mono ?_
  rintro e w' ⟨rfl,rfl⟩
  have hnum : A.n=0:=IV.num
  have I2:=IV.add none (fun _ => .pointer (some ⟨w.heap.size,0,none⟩)) (fun b=>b=w.heap.size) (.var 9 .str s) (w':=w.alloc (.cells #[.string ⟨s.toArray⟩] 9)) (Same.alloc w _) (fun b hb _=>Ext.alloc w _ b hb) (fun b hb => .inl ⟨by omega,by simp; omega⟩) (fun hro =>
   ⟨w.heap.size,_,Asg.push_η ..,(Asg.push_F ..).2 rfl,World.alloc_heap_new w _,rfl,hl⟩)
  have h0 : (A.pushT (fun _=>Value.pointer (some ⟨w.heap.size,0,none⟩)) (fun b=>b=w.heap.size)).η 0 = .pointer (some ⟨w.heap.size,0,none⟩):=by rw [← hnum,Asg.push_η]
  refine ⟨_,_,_,_,rfl,h,I2.out (M':=M) rfl (σ:=[0]) (by decide) (s := .cf 57 0) ?_,fun i hi=>absurd hi (by show ¬ i < 0; omega)⟩
  refine ⟨by show 0 < A.n+1; omega,?_⟩
  rw [h0]
 ·exact h.elim
open Go.Vc Go.Proofs Go.RowKit Go.Shelf
attribute [local go_sem] Oper.semAt_some
theorem linesF_cons {s : List UInt8} (hs : s≠[]) : ∃ line rest,linesF s=(line,rest)::linesF rest∧rest.length < s.length∧((Lib.indexByte s 10 = -1∧line=s∧rest=[])∨∃ i : Nat,Lib.indexByte s 10=(i : Int)∧i < s.length∧line=s.take (i+1)∧rest=s.drop (i+1)):=by
 have hp : 0 < s.length:=List.length_pos_iff.2 hs
 rcases idx10 s with ⟨h1,h2⟩ | ⟨i,h1,h2,_,_⟩
 ·refine ⟨s,[],by rw [linesF_last hs h1,linesF_nil],by simpa using hp,.inl ⟨?_,rfl,rfl⟩⟩
  have:=Lib.indexByte_ge s 10; omega
 ·exact ⟨_,_,linesF_line h1,by rw [List.length_drop]; omega,.inr ⟨i,h1,h2,rfl,rfl⟩⟩
theorem lines_drop (s : List UInt8) : ∀ k,k≤(linesF s).length→linesF (restV linesF s k)=(linesF s).drop k
 | 0,_=>rfl
 | k+1,hk=>by
  have ih:=lines_drop s k (by omega)
  have hne : restV linesF s k≠[]:=by
   intro h
   rw [h,linesF_nil] at ih
   have:=congrArg List.length ih
   rw [List.length_drop,List.length_nil] at this; omega
  obtain ⟨line,rest,e1,_,_⟩:=linesF_cons hne
  have e2 : (linesF s).drop k=(linesF s)[k]::(linesF s).drop (k+1):=List.drop_eq_getElem_cons (by omega)
  rw [e1,e2] at ih
  injection ih with h1 h2
  show linesF ((linesF s).getD k ([],[])).2=_
  rw [List.getD_eq_getElem?_getD,List.getElem?_eq_getElem (by omega),← h2,Option.getD_some,← h1]
theorem still_tail {P : Program} {Q : Exit→Act→World→Prop} {a : Act} {w : World} {l : List Oper} (n : Nat) (hm : P.follows .mixedOrders=true) (hB : Region.lexTailB .any l.toArray n=true)
 (h : wpStill P l.toArray { w with drawn:=w.drawn+1 } (fun a'=>wpList P l.toArray Q (l.drop n) a' { w with drawn:=w.drawn+1 }) (l.take n) a) : RegW P l.toArray true Q a w:=by
 simp only [Region.lexTailB,Bool.and_eq_true,decide_eq_true_eq] at hB
 obtain ⟨⟨⟨⟨hsel,hn⟩,hs⟩,hc⟩,hlex⟩:=hB
 have hn' : n < l.length:=by simpa using hn
 have htl : (l.take n).length=n:=by simp; omega
 have hdl : (l.drop n).length=l.toArray.size - n:=by simp
 have inv0 : HeadInv .any l.toArray n (Array.replicate l.toArray.size false) :=
  ⟨by simp,fun j oj _ hl=>(by rw [getD_replicate_false] at hl; cases hl),fun t _ ht=>getD_in (by simpa using ht) (getD_replicate_false _ _)⟩
 have H:=wpAnyL_lex (md := .any) (g:=l.toArray.size - n) hsel hs hc hn (l.take n) 0 _ a (fun j hj=>by
  have hj' : j < n:=by rw [htl] at hj; exact hj
  simp [hj']) (by simpa using htl) inv0 (by rw [htl]; exact hlex) h
 refine RegW.any hm ?_
 have:=wpAny_of_head (Q':=Q) (g:=l.toArray.size - n) (fun listed a' hL=>by
  have:=wpAny_of_seq (md := .any) (Q':=Q) (l.drop n) n listed a' { w with drawn:=w.drawn+1 } (fun j=>by simp [List.getElem?_drop]) (by rw [hdl]; exact hL.1) hL.2
  rwa [hdl] at this) _ _ _ H
 rw [htl,show n+(l.toArray.size - n)=l.toArray.size by omega] at this
 exact this
def Hid (p : Prop) : Prop:=p
def IsFW (F : Fence) : Prop:=F=FW none
def cellLen (b : Nat) (w : World) : Nat :=
 match w.cell? ⟨b,0,none⟩ with
 | some (.string s)=>s.size
 | _=>0
theorem cell_of {w : World} {b : Nat} {v : Value} {T : TypeId} {q : Nat×Nat} (h : w.heap[b]? = some (.cells #[v] T q)) : w.cell? ⟨b,0,none⟩=some v:=by
 unfold World.cell?
 rw [h]; rfl
theorem ext_take (r : List UInt8) (i : Nat) : (⟨r.toArray⟩ : ByteArray).extract 0 i=⟨(r.take i).toArray⟩:=by
 apply ByteArray.ext
 rw [ByteArray.data_extract]
 simp
theorem ext_drop (r : List UInt8) (i j : Nat) (h : r.length≤j) : (⟨r.toArray⟩ : ByteArray).extract i j=⟨(r.drop i).toArray⟩:=by
 apply ByteArray.ext
 rw [ByteArray.data_extract]
 apply Array.toList_inj.1
 simp
 rw [List.take_of_length_le (by rw [List.length_drop]; omega)]
set_option maxRecDepth 100000 in
set_option maxHeartbeats 2000000 in
theorem lines1_in (F : Fence) (hF : IsFW F) (h57 : F.fn 57) (hro : F.round=none) (hib : ∀ (m : Nat) (r : List UInt8) (w : World),CallsIn F m Tryz.prog 58 #[.string ⟨r.toArray⟩,.int .u8 10] w fun e w'=>e = .returned (.int .i64 (Lib.indexByte r 10))∧w'=w) (h58 : F.fn 58) (n l : Nat) (hn : 1≤n) (b : Nat) (s : List UInt8) (hs : s.length≤maxLen) (J J' Jx : Nat→World→Prop) (W : World)
 (hR : ∀ k W',J k W'→W'.heap[b]? = some (.cells #[strV (restV linesF s k)] 9 (0,0)))
 (hdr : Hid (∀ k X d,J' k X→J' k { X with drawn:=d })) (hst : ∀ k W',J k W'→k < (linesF s).length→J' k (W'.setCell ⟨b,0,none⟩ (strV (restV linesF s (k+1)))))
 (hY : ∀ m k x W1,((linesF s).map fun p=>strV p.1)[k]? = some x→J' k W1 →
  YieldAt F m Tryz.prog l #[x] W1 fun e W'=>(e = .returned (.bool true)∧J (k+1) W')∨(e = .returned (.bool false)∧Jx (k+1) W')) (h0 : J 0 W) :
 CallsIn F n Tryz.prog 57 #[.func (.yield l) #[] #[],.pointer (some ⟨b,0,none⟩)] W fun e W'=>(∃ v,e = .returned v)∧(J (linesF s).length W'∨∃ k,Jx k W'):=by
 refine callsIn_of_wp Tryz.func57 rfl h57 ?_ hro
 simp only [Tryz.ntmps57,List.size_toArray,List.length_cons,List.length_nil,Nat.reduceAdd,Nat.reduceSub,Array.replicate_succ,Array.replicate_zero,List.push_toArray,List.append_toArray,List.nil_append,List.cons_append]
 have hc0:=cell_of (hR 0 W h0)
 gi_wp2
 gi_loopw [3] (fun p wr=>∃ k : Nat,k≤(linesF s).length∧J k wr)
  (fun p wr=>cellLen b wr)
 case atStart =>
  exact ⟨0,Nat.zero_le _,h0⟩
 case round =>
  obtain ⟨k,hk,hJ⟩:=hrel
  have hb:=hR k wr hJ
  have hc:=cell_of hb
  have hd:=lines_drop s k hk
  by_cases hr : restV linesF s k=[]
  ·rw [hr,linesF_nil] at hd
   have hkl : k=(linesF s).length:=by
    have:=congrArg List.length hd
    rw [List.length_drop,List.length_nil] at this; omega
   subst hkl
   rw [hr] at hc
   change wr.cell? ⟨b,0,none⟩=some (.string ⟨#[]⟩) at hc
   gi_wp2
   go_end0
   exact ⟨⟨_,rfl⟩,.inl hJ⟩
  ·obtain ⟨line,rest,e1,hlt,hcase⟩:=linesF_cons hr
   rw [e1] at hd
   have hkl : k < (linesF s).length:=by
    rcases Nat.lt_or_ge k (linesF s).length with h | h
    ·exact h
    ·rw [List.drop_of_length_le h] at hd; cases hd
   have hdk:=List.drop_eq_getElem_cons hkl
   rw [← hd] at hdk
   injection hdk with hdk _
   have hxk : ((linesF s).map fun p=>strV p.1)[k]? = some (strV line):=by
    rw [List.getElem?_map,List.getElem?_eq_getElem hkl,← hdk]; rfl
   have hrest : restV linesF s (k+1)=rest:=by
    show ((linesF s).getD k ([],[])).2=rest
    rw [List.getD_eq_getElem?_getD,List.getElem?_eq_getElem hkl,← hdk]; rfl
   have hJ':=hst k wr hJ hkl
   rw [hrest] at hJ'
   have hYk : Hid (∀ W1,J' k W1→YieldAt F (n - 1) Tryz.prog l #[strV line] W1 fun e W'=>(e = .returned (.bool true)∧J (k+1) W')∨(e = .returned (.bool false)∧Jx (k+1) W')):=fun W1 h=>hY (n - 1) k (strV line) W1 hxk h
   have hnext : Hid (∀ W',J (k+1) W'→(∃ k' : Nat,k'≤(linesF s).length∧J k' W')∧cellLen b W' < cellLen b wr):=by
    intro W' h
    refine ⟨⟨k+1,hkl,h⟩,?_⟩
    unfold cellLen
    rw [cell_of (hR _ _ h),hc,hrest]
    show rest.toArray.size < (restV linesF s k).toArray.size
    simpa using hlt
   obtain ⟨r,hrr⟩ : ∃ r,restV linesF s k=r:=⟨_,rfl⟩
   rw [hrr] at hc hr hcase hlt
   change wr.cell? ⟨b,0,none⟩=some (.string ⟨r.toArray⟩) at hc
   have hpos : 0 < r.length:=List.length_pos_iff.2 hr
   have hfz : wr.frozen? ⟨b,0,none⟩=false:=by unfold World.frozen?; rw [hb]; rfl
   rcases hcase with ⟨hm1,rfl,rfl⟩ | ⟨i,hi,hil,rfl,rfl⟩
   ·have hib' : ∀ m w,CallsIn F m Tryz.prog 58 #[.string ⟨line.toArray⟩,.int .u8 10] w fun e w'=>e = .returned (.int .i64 (-1))∧w'=w:=fun m w=>by
     have:=hib m line w; rw [hm1] at this; exact this
    obtain ⟨fn,tmps,assign,body,hy,hRd⟩:=hYk _ hJ'
    change (Instr.yield l #[.string ⟨line.toArray⟩]).run Tryz.prog (wr.setCell ⟨b,0,none⟩ (.string ⟨#[]⟩))=_ at hy
    clear hY hR hst hd hdk e1 hib
    gi_wp2_with (gi_at_call 58; refine (hib' _ _).mono ?_; rintro e w' ⟨rfl,rfl⟩)
    refine hRd.mono ?_
    rintro e W' (⟨rfl,hJ'⟩ | ⟨rfl,hJx'⟩)
    ·gi_wp2
     exact hnext _ hJ'
    ·gi_wp2
     refine bodyPost_ret (results_none rfl _ _ _) rfl ?_
     exact ⟨⟨_,rfl⟩,.inr ⟨_,hJx'⟩⟩
   ·have hib' : ∀ m w,CallsIn F m Tryz.prog 58 #[.string ⟨r.toArray⟩,.int .u8 10] w fun e w'=>e = .returned (.int .i64 (i : Int))∧w'=w:=fun m w=>by
     have:=hib m r w; rw [hi] at this; exact this
    have hw : IntKind.i64.wrap ((i : Int)+1)=(i : Int)+1:=by
     have h1 : (restV linesF s k).length≤maxLen:=by
      cases k with
      | zero=>exact hs
      | succ k =>
       show ((linesF s).getD k ([],[])).2.length≤maxLen
       rw [List.getD_eq_getElem?_getD,List.getElem?_eq_getElem (by omega)]
       exact Nat.le_trans (lines_le _ s (Nat.le_refl _) _ (List.getElem_mem _)).2 hs
     rw [hrr] at h1
     have h2 : maxLen≤9223372036854775807:=by decide
     rw [IntKind.wrap_i64]; omega
    have hsz : ¬ (r.length : Int) < (i : Int)+1:=by omega
    have h01 : 0≤(i : Int)+1:=by omega
    have h02 : (i : Int)+1≤(r.length : Int):=by omega
    clear hY hR hst hd hdk e1 hib hi
    gi_wp2_with (gi_at_call 58; refine (hib' _ _).mono ?_; rintro e w' ⟨rfl,rfl⟩)
    rw [show F=FW none from hF]
    refine RegW.wpIn (by kernel_rfl) ?_ (still_tail 9 (by kernel_rfl) (by kernel_rfl) ?_)
    ·intro a w h
     obtain ⟨⟨v,hv⟩,_⟩ : (∃ v,Ending.outgrown = .returned v)∧(J (linesF s).length w∨∃ k,Jx k w):=h
     cases hv
    simp only [List.take_succ_cons,List.take_zero,List.drop_succ_cons,List.drop_zero]
    generalize hW1 : ({ w' with drawn:=w'.drawn+1 } : World)=W1
    have hc2 : W1.cell? ⟨b,0,none⟩=some (.string ⟨r.toArray⟩):=by rw [← hW1]; exact hc
    have hfz2 : W1.frozen? ⟨b,0,none⟩=false:=by rw [← hW1]; exact hfz
    have hJ2 : J' k (W1.setCell ⟨b,0,none⟩ (strV (r.drop (i+1)))):=by rw [← hW1]; exact hdr k _ _ hJ'
    obtain ⟨fn,tmps,assign,body,hy,hRd⟩:=hYk _ hJ2
    clear hc hfz hJ' hb hJ
    iterate 9 (refine wpStill_step (fun K hK => ?_); go_simp; refine hK _ ?_; clear hK)
    refine wpStill_nil ?_
    simp only [ext_take,ext_drop _ _ _ (Nat.le_refl _)]
    change (Instr.yield l #[.string ⟨(r.take (i+1)).toArray⟩]).run Tryz.prog (W1.setCell ⟨b,0,none⟩ (.string ⟨(r.drop (i+1)).toArray⟩))=_ at hy
    go_wp2
    gi_wp2
    refine hRd.mono ?_
    rintro e W' (⟨rfl,hJ'⟩ | ⟨rfl,hJx'⟩)
    ·gi_wp2
     exact hnext _ hJ'
    ·gi_wp2
     refine bodyPost_ret (results_none rfl _ _ _) rfl ?_
     exact ⟨⟨_,rfl⟩,.inr ⟨_,hJx'⟩⟩
def itcLines : ItC:={ t := .un,e := .str,f:=fun _=>none,v:=some (9,linesF) }
theorem itLines (gl : List (Nat×Dat)) : ItOk Tryz.prog gl 57 itcLines:=by
 refine ⟨⟨_,Tryz.func57,by kernel_rfl,by kernel_rfl⟩,fun y xs hy=>(by cases hy),fun T f hv s hs => ?_⟩
 have hv : some (9,linesF)=some (T,f):=hv
 injection hv with hv
 injection hv with h1 h2
 subst h1; subst h2
 refine ⟨fun p hp => ?_,fun b n l J J' Jx W hJ hJ' hJx hG hst hY h0 => ?_⟩
 ·have:=lines_le _ s (Nat.le_refl _) p hp
  exact ⟨Nat.le_trans this.1 hs,Nat.le_trans this.2 hs⟩
 ·have hib : ∀ (m : Nat) (r : List UInt8) (w : World),CallsIn (FW none) m Tryz.prog 58 #[.string ⟨r.toArray⟩,.int .u8 10] w fun e w'=>e = .returned (.int .i64 (Lib.indexByte r 10))∧w'=w:=fun m r w=>callsIn_wide.2 (Any.strings_IndexByte laidIdxB ⟨r.toArray⟩ 10 w)
  have hlen : ((linesF s).map fun p=>strV p.1).length=(linesF s).length:=List.length_map _
  rw [hlen] at hst ⊢
  have key:=lines1_in (FW none) rfl trivial rfl hib trivial (n+1) l (by omega) b s hs J J' Jx W (fun k W' hk=>(hG k W' hk).2) (fun k X d hk=>hJ' k X _ none hk ⟨rfl,rfl,rfl,Nat.le_refl _,fun k _ _=>rfl⟩ (fun _ h=>by cases h)) hst hY h0
  exact callsIn_FW.2 (callsIn_FW.1 key)
open Go.Vc Go.Proofs Go.RowKit
def poB (n : Int) (w : List (List UInt8)) : Nat→BS
 | 0=>(newF n.toNat,[],0)
 | i+1=>pLT (poB n w i) (w.getD i [])
def poG (n : Int) (w : List (List UInt8)) : Nat→Bool
 | 0=>true
 | i+1=>poG n w i&&decide (pLE (poB n w i) (w.getD i [])=0)
def poE (n : Int) (w : List (List UInt8)) (k : Nat) : Nat→BS×Int×Int
 | 0=>(poB n w k,(poB n w k).2.2,0)
 | f+1=>if pLE (poB n w k) (w.getD k [])=0 then poE n w (k+1) f else (poB n w k,(poB n w k).2.2+1,pLE (poB n w k) (w.getD k []))
def wholeL (s : List UInt8) : List (List UInt8):=(splL 10 s).dropLast
def poR (n : Int) (s : List UInt8) : BS×Int×Int:=poE n (wholeL s) 0 (wholeL s).length
structure POpenOk (n : Int) (s : List UInt8) : Prop where
 le : s.length≤1100000
 ok : ∀ i,i < (wholeL s).length→poG n (wholeL s) i=true→BkOk (poB n (wholeL s) i)
def oBOpen : OCtr:=fun args ob k=>match args,ob with
 | [.d (.int .i64) n,.d .str s],[]=>s.length≤1100000∧(inB n 1 5=false→k (.tp [.nilp,.d I (0 : Int),.d tErr (1 : Int)]) []) ∧
  (inB n 1 5=true→POpenOk n s∧((poR n s).2.2=0→k (.tp [.ps 0,.d I (poR n s).2.1,.d tErr (0 : Int)]) (obB (poR n s).1))∧((poR n s).2.2≠0→k (.tp [.nilp,.d I (poR n s).2.1,.d tErr (poR n s).2.2]) []))
 | _,_=>False
structure OpSt (n : Int) (s : List UInt8) (x : Nat) : Prop where
 b : inB n 1 5=true
 le : x≤(wholeL s).length
 g : poG n (wholeL s) x=true
def obAt (b : BS) : List Ob:=[.st 66 [.ps 4,.sf 3 1,.os 5,.d I b.2.2],.st 96 [.os 6,.os 7],.buf 5 b.2.1,.row 98 tRow b.1.1,.row 3 I b.1.2.1]
def anBOpen (n : Int) (s : List UInt8) : Ann:=[joinAll,
 rangeAt 6 .str Nat (fun x=>((linesF s).map (·.1)).take x) (fun st x=>{ St.only st [4,5,6,7,23] with ob:=st.ob.take 3++obAt (poB n (wholeL s) x)++[.st 24 [.ps 3],.var 9 .str (restV linesF s x)] }) (fun _ x=>OpSt n s x)]
open Go.Vc
set_option linter.unusedVariables false
theorem vcBOpen (v : GV) (n : Int) (s : List UInt8) (k : SV→List Ob→Prop) : vcO ⟨Elr,[(33,cCutS)],glO v,[(57,itcLines)],[(25,oBNew),(32,oLines),(34,oBL)]⟩ (anBOpen n s) (Tryz.f15.body.getD .skip) Tryz.f15.ntmps [(.cell 4 24,.un),(.cell 5 3,I),(.cell 6 29,tErr)] [.d I n,.d .str s] [] k=(
 (inB n (1 : Int) (5 : Int)=false→((!decide ((1 : Int)=(0 : Int)))=true→k (SV.tp [SV.nilp,SV.d (I) (0 : Int),SV.d (Ty.err (73 : Nat)) (1 : Int)]) [])∧((!decide ((1 : Int)=(0 : Int)))=false→(∃ (x : Nat),OpSt n s x∧List.take x (List.map (fun (x : List UInt8×List UInt8)=>x.fst) (linesF s))=[]∧(([] : List Nat)=[]∧([] : List Nat)=[]∧([] : List Nat)=[]∧([] : List Nat)=[]∧True∧True)∧(((24 : Nat)=(24 : Nat)∧(none : Option tBk.D)=none)∧((3 : Nat)=(3 : Nat)∧(0 : Int)=(0 : Int))∧((29 : Nat)=(29 : Nat)∧(0 : Int)=(0 : Int))∧False∧False∧False∧False∧False∧False∧False∧True)∧n=n∧s=s∧Lib.pow10Tab=Lib.pow10Tab∧Value.int IntKind.i64 v.m=Value.int IntKind.i64 v.m∧Value.iface v.t1 v.p1=Value.iface v.t1 v.p1∧Value.iface v.t2 v.p2=Value.iface v.t2 v.p2∧True)∧(∀ (x : Nat),OpSt n s x→True∧False)∧(∀ (x : Nat) (y : List UInt8) (rest : List (List UInt8)),OpSt n s x→List.map (fun (x : List UInt8×List UInt8)=>x.fst) (linesF s)=List.take x (List.map (fun (x : List UInt8×List UInt8)=>x.fst) (linesF s))++y::rest→True∧((!Lib.hasSuffix y [(10 : UInt8)])=true→False)∧((!Lib.hasSuffix y [(10 : UInt8)])=false→False))∧∀ (x : Nat),OpSt n s x→List.take x (List.map (fun (x : List UInt8×List UInt8)=>x.fst) (linesF s))=List.map (fun (x : List UInt8×List UInt8)=>x.fst) (linesF s)→False))∧(inB n (1 : Int) (5 : Int)=true→((!decide ((0 : Int)=(0 : Int)))=true→k (SV.tp [SV.nilp,SV.d (I) (0 : Int),SV.d (Ty.err (73 : Nat)) (0 : Int)]) [])∧((!decide ((0 : Int)=(0 : Int)))=false→(∃ (x : Nat),OpSt n s x∧List.take x (List.map (fun (x : List UInt8×List UInt8)=>x.fst) (linesF s))=[]∧(([] : List Nat)=[]∧([] : List Nat)=[]∧([] : List Nat)=[]∧([] : List Nat)=[]∧True∧True)∧(((24 : Nat)=(24 : Nat)∧(none : Option tBk.D)=none)∧((3 : Nat)=(3 : Nat)∧(0 : Int)=(0 : Int))∧((29 : Nat)=(29 : Nat)∧(0 : Int)=(0 : Int))∧(True∧True∧True∧(0 : Int)=(poB n (wholeL s) x).snd.snd∧True)∧(True∧True∧True)∧[]=(poB n (wholeL s) x).snd.fst∧((98 : Nat)=(98 : Nat)∧List.replicate n.toNat (List.replicate (4 : Nat) [])=(poB n (wholeL s) x).fst.fst)∧((3 : Nat)=(3 : Nat)∧List.replicate n.toNat (0 : Int)=(poB n (wholeL s) x).fst.snd.fst)∧(True∧True)∧((9 : Nat)=(9 : Nat)∧s=restV linesF s x)∧True)∧n=n∧s=s∧Lib.pow10Tab=Lib.pow10Tab∧Value.int IntKind.i64 v.m=Value.int IntKind.i64 v.m∧Value.iface v.t1 v.p1=Value.iface v.t1 v.p1∧Value.iface v.t2 v.p2=Value.iface v.t2 v.p2∧True)∧(∀ (x : Nat),OpSt n s x→True∧(9 : Nat)=(9 : Nat)∧restV linesF s x=restV linesF s (List.take x (List.map (fun (x : List UInt8×List UInt8)=>x.fst) (linesF s))).length)∧(∀ (x : Nat) (y : List UInt8) (rest : List (List UInt8)),OpSt n s x→List.map (fun (x : List UInt8×List UInt8)=>x.fst) (linesF s)=List.take x (List.map (fun (x : List UInt8×List UInt8)=>x.fst) (linesF s))++y::rest→True∧((!Lib.hasSuffix y [(10 : UInt8)])=true→(SV.ps (3 : Nat)=SV.ps (3 : Nat)∧SV.d (I) (poB n (wholeL s) x).snd.snd=SV.d (I) (poB n (wholeL s) x).snd.snd∧True)∧k (SV.tp [SV.ps (0 : Nat),SV.d (I) (poB n (wholeL s) x).snd.snd,SV.d (Ty.err (73 : Nat)) (0 : Int)]) [Ob.st (66 : Nat) [SV.ps (1 : Nat),SV.sf (0 : Nat) (1 : Nat),SV.os (2 : Nat),SV.d (I) (poB n (wholeL s) x).snd.snd],Ob.st (96 : Nat) [SV.os (3 : Nat),SV.os (4 : Nat)],Ob.buf (5 : Nat) (poB n (wholeL s) x).snd.fst,Ob.row (98 : Nat) (Ty.ar (4 : Nat) (tV).sl) (poB n (wholeL s) x).fst.fst,Ob.row (3 : Nat) (I) (poB n (wholeL s) x).fst.snd.fst])∧((!Lib.hasSuffix y [(10 : UInt8)])=false→inK IntKind.i64 ((poB n (wholeL s) x).snd.snd+(1 : Int))∧(BkOk (((poB n (wholeL s) x).fst.fst,(poB n (wholeL s) x).fst.snd.fst,()),(poB n (wholeL s) x).snd.fst,(poB n (wholeL s) x).snd.snd)∧(Lib.trimSuffix y [(10 : UInt8)]).length≤(1100000 : Nat))∧((!decide (pLE (((poB n (wholeL s) x).fst.fst,(poB n (wholeL s) x).fst.snd.fst,()),(poB n (wholeL s) x).snd.fst,(poB n (wholeL s) x).snd.snd) (Lib.trimSuffix y [(10 : UInt8)])=(0 : Int)))=true→k (SV.tp [SV.nilp,SV.d (I) ((poB n (wholeL s) x).snd.snd+(1 : Int)),SV.d (Ty.err (73 : Nat)) (pLE (((poB n (wholeL s) x).fst.fst,(poB n (wholeL s) x).fst.snd.fst,()),(poB n (wholeL s) x).snd.fst,(poB n (wholeL s) x).snd.snd) (Lib.trimSuffix y [(10 : UInt8)]))]) [])∧((!decide (pLE (((poB n (wholeL s) x).fst.fst,(poB n (wholeL s) x).fst.snd.fst,()),(poB n (wholeL s) x).snd.fst,(poB n (wholeL s) x).snd.snd) (Lib.trimSuffix y [(10 : UInt8)])=(0 : Int)))=false→∃ (x_1 : Nat),OpSt n s x_1∧List.take x_1 (List.map (fun (x : List UInt8×List UInt8)=>x.fst) (linesF s))=List.take x (List.map (fun (x : List UInt8×List UInt8)=>x.fst) (linesF s))++[y]∧(([] : List Nat)=[]∧([] : List Nat)=[]∧([] : List Nat)=[]∧([] : List Nat)=[]∧True∧True)∧(((24 : Nat)=(24 : Nat)∧(none : Option tBk.D)=none)∧((3 : Nat)=(3 : Nat)∧(0 : Int)=(0 : Int))∧((29 : Nat)=(29 : Nat)∧(0 : Int)=(0 : Int))∧(True∧True∧True∧(pLT (((poB n (wholeL s) x).fst.fst,(poB n (wholeL s) x).fst.snd.fst,()),(poB n (wholeL s) x).snd.fst,(poB n (wholeL s) x).snd.snd) (Lib.trimSuffix y [(10 : UInt8)])).snd.snd=(poB n (wholeL s) x_1).snd.snd∧True)∧(True∧True∧True)∧(pLT (((poB n (wholeL s) x).fst.fst,(poB n (wholeL s) x).fst.snd.fst,()),(poB n (wholeL s) x).snd.fst,(poB n (wholeL s) x).snd.snd) (Lib.trimSuffix y [(10 : UInt8)])).snd.fst=(poB n (wholeL s) x_1).snd.fst∧((98 : Nat)=(98 : Nat)∧(pLT (((poB n (wholeL s) x).fst.fst,(poB n (wholeL s) x).fst.snd.fst,()),(poB n (wholeL s) x).snd.fst,(poB n (wholeL s) x).snd.snd) (Lib.trimSuffix y [(10 : UInt8)])).fst.fst=(poB n (wholeL s) x_1).fst.fst)∧((3 : Nat)=(3 : Nat)∧(pLT (((poB n (wholeL s) x).fst.fst,(poB n (wholeL s) x).fst.snd.fst,()),(poB n (wholeL s) x).snd.fst,(poB n (wholeL s) x).snd.snd) (Lib.trimSuffix y [(10 : UInt8)])).fst.snd.fst=(poB n (wholeL s) x_1).fst.snd.fst)∧(True∧True)∧((9 : Nat)=(9 : Nat)∧restV linesF s ((List.take x (List.map (fun (x : List UInt8×List UInt8)=>x.fst) (linesF s))).length+(1 : Nat))=restV linesF s x_1)∧True)∧n=n∧s=s∧Lib.pow10Tab=Lib.pow10Tab∧Value.int IntKind.i64 v.m=Value.int IntKind.i64 v.m∧Value.iface v.t1 v.p1=Value.iface v.t1 v.p1∧Value.iface v.t2 v.p2=Value.iface v.t2 v.p2∧True)))∧∀ (x : Nat),OpSt n s x→List.take x (List.map (fun (x : List UInt8×List UInt8)=>x.fst) (linesF s))=List.map (fun (x : List UInt8×List UInt8)=>x.fst) (linesF s)→(SV.ps (3 : Nat)=SV.ps (3 : Nat)∧SV.d (I) (poB n (wholeL s) x).snd.snd=SV.d (I) (poB n (wholeL s) x).snd.snd∧True)∧k (SV.tp [SV.ps (0 : Nat),SV.d (I) (poB n (wholeL s) x).snd.snd,SV.d (Ty.err (73 : Nat)) (0 : Int)]) [Ob.st (66 : Nat) [SV.ps (1 : Nat),SV.sf (0 : Nat) (1 : Nat),SV.os (2 : Nat),SV.d (I) (poB n (wholeL s) x).snd.snd],Ob.st (96 : Nat) [SV.os (3 : Nat),SV.os (4 : Nat)],Ob.buf (5 : Nat) (poB n (wholeL s) x).snd.fst,Ob.row (98 : Nat) (Ty.ar (4 : Nat) (tV).sl) (poB n (wholeL s) x).fst.fst,Ob.row (3 : Nat) (I) (poB n (wholeL s) x).fst.snd.fst]))):=by kernel_rfl
open Go.Vc Go.Proofs Go.RowKit
theorem poE_at (n : Int) (w : List (List UInt8)) (m : Nat) : ∀ x,x≤m→poG n w x=true→poE n w 0 m=poE n w x (m - x)
 | 0,_,_=>rfl
 | x+1,hx,hg=>by
  simp only [poG,Bool.and_eq_true,decide_eq_true_eq] at hg
  rw [poE_at n w m x (by omega) hg.1,show m - x=(m - (x+1))+1 by omega]
  show (if pLE (poB n w x) (w.getD x [])=0 then poE n w (x+1) (m - (x+1)) else _)=_
  rw [if_pos hg.2]
theorem has10 (l : List UInt8) : Lib.hasSuffix (l++[10]) [10]=true∧Lib.trimSuffix (l++[10]) [10]=l:=by
 have h : Lib.hasSuffix (l++[10]) [10]=true:=by
  unfold Lib.hasSuffix
  rw [List.isSuffixOf_iff_suffix]
  exact List.suffix_append _ _
 refine ⟨h,?_⟩
 unfold Lib.trimSuffix
 rw [if_pos h]
 simp
theorem no10 {l : List UInt8} (h : (10 : UInt8)∉l) : Lib.hasSuffix l [10]=false:=by
 rw [Bool.eq_false_iff]
 intro hs
 unfold Lib.hasSuffix at hs
 rw [List.isSuffixOf_iff_suffix] at hs
 exact h (hs.subset (by simp))
theorem lines_whole (s : List UInt8) : ∃ p : List UInt8,(10 : UInt8)∉p∧(linesF s).map (·.1)=(wholeL s).map (· ++ [10])++(if p=[] then [] else [p]):=by
 obtain ⟨x,p,h1,h2⟩:=lines_spl s
 refine ⟨p,splL_no 10 s p (by rw [h1]; simp),?_⟩
 have : wholeL s=x:=by unfold wholeL; rw [h1]; simp
 rw [this]; exact h2
theorem line_at {s : List UInt8} {x : Nat} {y : List UInt8} {rest : List (List UInt8)} (hx : x≤(wholeL s).length) (h : (linesF s).map (·.1)=((linesF s).map (·.1)).take x++y::rest) :
 x < (linesF s).length∧((x < (wholeL s).length∧Lib.hasSuffix y [10]=true∧Lib.trimSuffix y [10]=(wholeL s).getD x [])∨(x=(wholeL s).length∧Lib.hasSuffix y [10]=false))∧((linesF s).map (·.1)).take (x+1)=((linesF s).map (·.1)).take x++[y]:=by
 have hlen:=congrArg List.length h
 rw [List.length_append,List.length_take,List.length_cons,List.length_map] at hlen
 have hxl : x < (linesF s).length:=by
  rcases Nat.lt_or_ge x (linesF s).length with h | h
  ·exact h
  ·rw [Nat.min_eq_right h] at hlen; omega
 have hy : ((linesF s).map (·.1))[x]? = some y:=by
  rw [h,List.getElem?_append_right (by rw [List.length_take]; omega),List.length_take,List.length_map,Nat.min_eq_left (Nat.le_of_lt hxl),Nat.sub_self]; rfl
 refine ⟨hxl,?_,by rw [List.take_add_one,hy]; rfl⟩
 obtain ⟨p,hp,e⟩:=lines_whole s
 rw [e] at hy
 rcases Nat.lt_or_eq_of_le hx with hlt | heq
 ·left
  rw [List.getElem?_append_left (by rw [List.length_map]; exact hlt),List.getElem?_map,List.getElem?_eq_getElem hlt] at hy
  injection hy with hy
  refine ⟨hlt,?_⟩
  rw [← hy,List.getD_eq_getElem?_getD,List.getElem?_eq_getElem hlt]
  exact has10 _
 ·right
  refine ⟨heq,?_⟩
  rw [List.getElem?_append_right (by rw [List.length_map]; omega),List.length_map,heq,Nat.sub_self] at hy
  split at hy
  ·simp at hy
  ·simp at hy; rw [← hy]; exact no10 hp
theorem whole_le (s : List UInt8) : (wholeL s).length≤(linesF s).length:=by
 obtain ⟨p,_,e⟩:=lines_whole s
 have:=congrArg List.length e
 rw [List.length_map,List.length_append,List.length_map] at this
 omega
theorem ownBOpen (v : GV) : OwnOk Tryz.prog (glO v) 15 oBOpen:=by
 refine own_of (CxOk.mk' Elr_ok (by kernel_rfl) mixed (gl:=glO v) (GOk.cons okCutS.lift Tryz.func33 (by kernel_rfl) (by kernel_rfl) GOk.nil) (GoOk.cons ownBNew.lift Tryz.func25 (by kernel_rfl) (by kernel_rfl) (GoOk.cons ownLines.lift Tryz.func32 (by kernel_rfl) (by kernel_rfl) (GoOk.cons (ownBL v) Tryz.func34 (by kernel_rfl) (by kernel_rfl) GoOk.nil))) (it:=[(57,itcLines)]) (fun g c h=>by
  obtain ⟨rfl,rfl⟩:=Prod.mk.inj (List.mem_singleton.1 h)
  exact itLines _)) Tryz.func15 (c:=Tryz.f15.body.getD .skip) (rvs:=[(.cell 4 24,.un),(.cell 5 3,I),(.cell 6 29,tErr)]) (by kernel_rfl) (by kernel_rfl) (by kernel_rfl) ?_
 intro args ob k h hwa hwo
 unfold oBOpen at h
 split at h
 ·rename_i n s
  obtain ⟨hle,hno,hyes⟩:=h
  refine ⟨anBOpen n s,?_⟩
  show vcO _ _ _ _ _ [.d I n,.d .str s] [] k
  rw [vcBOpen]
  refine ⟨fun hb=>⟨fun _=>hno hb,fun h=>absurd h (by decide)⟩,fun hb=>⟨fun h=>absurd h (by decide),fun _ => ?_⟩⟩
  obtain ⟨hP,hok,her⟩:=hyes hb
  have hend : ∀ x,poG n (wholeL s) x=true→x=(wholeL s).length→k (.tp [.ps 0,.d I (poB n (wholeL s) x).2.2,.d tErr (0 : Int)]) (obB (poB n (wholeL s) x)):=by
   intro x hg hx
   have e : poR n s=(poB n (wholeL s) x,(poB n (wholeL s) x).2.2,0):=by
    unfold poR; rw [poE_at n (wholeL s) _ x (by omega) hg,show (wholeL s).length - x=0 by omega]; rfl
   rw [e] at hok; exact hok rfl
  refine ⟨⟨0,⟨hb,Nat.zero_le _,rfl⟩,?_⟩,fun x hx=>⟨trivial,rfl,?_⟩,fun x y rest hx hl=>⟨trivial,fun hs => ?_,fun hs => ?_⟩,fun x hx hl => ?_⟩
  ·refine ⟨rfl,?_⟩
   repeat' apply And.intro
   all_goals first | trivial | rfl
  ·rw [List.length_take,List.length_map,Nat.min_eq_left]
   have:=whole_le s
   have:=hx.le
   omega
  ·obtain ⟨hxl,hc,ht⟩:=line_at hx.le hl
   rcases hc with ⟨_,h1,_⟩ | ⟨h1,_⟩
   ·rw [h1] at hs; cases hs
   ·exact ⟨⟨rfl,rfl,trivial⟩,hend x hx.g h1⟩
  ·obtain ⟨hxl,hc,ht⟩:=line_at hx.le hl
   rcases hc with ⟨hlt,h1,h2⟩ | ⟨_,h1⟩
   ·have hB:=hP.ok x hlt hx.g
    have hm : (wholeL s).getD x []∈splL 10 s:=by
     have : (wholeL s).getD x []=(wholeL s)[x]:=by rw [List.getD_eq_getElem?_getD,List.getElem?_eq_getElem hlt]; rfl
     rw [this]
     exact List.dropLast_subset _ (List.getElem_mem hlt)
    have hwl:=Nat.le_trans (splL_le 10 s _ hm) hle
    rw [h2]
    have hbb : (((poB n (wholeL s) x).1.1,(poB n (wholeL s) x).1.2.1,()),(poB n (wholeL s) x).2.1,(poB n (wholeL s) x).2.2)=poB n (wholeL s) x:=rfl
    rw [hbb]
    have hlo:=hB.lo
    have hhi:=hB.hi
    refine ⟨inK_i64.2 ⟨by omega,by omega⟩,⟨hB,hwl⟩,fun he => ?_,fun he => ?_⟩
    ·have he : ¬ pLE (poB n (wholeL s) x) ((wholeL s).getD x [])=0:=by simpa using he
     have e : poR n s=(poB n (wholeL s) x,(poB n (wholeL s) x).2.2+1,pLE (poB n (wholeL s) x) ((wholeL s).getD x [])):=by
      unfold poR; rw [poE_at n (wholeL s) _ x (by omega) hx.g,show (wholeL s).length - x=((wholeL s).length - x - 1)+1 by omega]
      show (if pLE (poB n (wholeL s) x) ((wholeL s).getD x [])=0 then _ else _)=_
      rw [if_neg he]
     rw [e] at her; exact her he
    ·have he : pLE (poB n (wholeL s) x) ((wholeL s).getD x [])=0:=by simpa using he
     refine ⟨x+1,⟨hb,hlt,?_⟩,ht,?_⟩
     ·simp only [poG,hx.g,he,decide_true,Bool.and_self]
     ·have hmin : (List.take x ((linesF s).map (·.1))).length=x:=by rw [List.length_take,List.length_map]; omega
      rw [hmin]
      repeat' apply And.intro
      all_goals first | trivial | rfl
   ·rw [h1] at hs; cases hs
  ·have hlen:=congrArg List.length hl
   rw [List.length_take,List.length_map] at hlen
   have:=whole_le s
   have:=hx.le
   exact ⟨⟨rfl,rfl,trivial⟩,hend x hx.g (by omega)⟩
 ·exact h.elim
open Go.Vc Go.Proofs Go.RowKit
def stepB (b : BS) (l : List Int) : BS :=
 if l.length=3 then bkT b.1 b.2.1 b.2.2 (writeE b.1 (l.getD 0 0) (l.getD 1 0) (l.getD 2 0)) (writeT b.1 (l.getD 0 0) (l.getD 1 0) (l.getD 2 0)) (lineF [119] [l.getD 0 0,l.getD 1 0,l.getD 2 0])
 else if l.length=2 then bkT b.1 b.2.1 b.2.2 (syncE b.1 (l.getD 0 0) (l.getD 1 0)) (syncT b.1 (l.getD 0 0) (l.getD 1 0)) (lineF [115] [l.getD 0 0,l.getD 1 0])
 else b
def stepRB (x : RB) (l : List Int) : RB:=if l.length=3∨l.length=2 then rPT x l else x
def playB (n : Nat) (s : List (List Int)) : Nat→BS
 | 0=>(newF n,[],0)
 | i+1=>stepB (playB n s i) (s.getD i [])
def playRB (n : Int) (s : List (List Int)) : Nat→RB
 | 0=>((n,List.replicate (n*4).toNat [],List.replicate n.toNat 0,()),[],0,())
 | i+1=>stepRB (playRB n s i) (s.getD i [])
structure BRel (n : Nat) (b : BS) (x : RB) : Prop where
 rel : Rel n b.1 x.1
 txt : b.2.1=x.2.1
 many : b.2.2=x.2.2.1
 lo : 0≤b.2.2
 hi : b.2.2≤60
 len : b.2.1.length≤b.2.2.toNat*400
theorem lineF_len {w : List UInt8} {l : List Int} (hw : w.length=1) (h3 : l.length≤3) (hl : ∀ n∈l,inK .i64 n) : (lineF w l).length≤100:=by
 have h1:=putS_len w l hl
 have h2:=itoa_len (sumF_k (putS w l))
 have h4 : (lineF w l).length=(putS w l).length+1+(Lib.itoa (sumF (putS w l))).length+1:=by
  show (((putS w l++[32])++Lib.itoa (sumF (putS w l)))++[10]).length=_
  simp only [List.length_append,List.length_cons,List.length_nil]
 omega
theorem list3 {l : List Int} (h : l.length=3) : [l.getD 0 0,l.getD 1 0,l.getD 2 0]=l:=by
 match l,h with
 | [a,b,c],_=>rfl
theorem list2 {l : List Int} (h : l.length=2) : [l.getD 0 0,l.getD 1 0]=l:=by
 match l,h with
 | [a,b],_=>rfl
theorem stepB3 {b : BS} {l : List Int} (h : l.length=3) : stepB b l=bkT b.1 b.2.1 b.2.2 (writeE b.1 (l.getD 0 0) (l.getD 1 0) (l.getD 2 0)) (writeT b.1 (l.getD 0 0) (l.getD 1 0) (l.getD 2 0)) (lineF [119] [l.getD 0 0,l.getD 1 0,l.getD 2 0]):=by unfold stepB; rw [if_pos h]
theorem stepB2 {b : BS} {l : List Int} (h : l.length=2) : stepB b l=bkT b.1 b.2.1 b.2.2 (syncE b.1 (l.getD 0 0) (l.getD 1 0)) (syncT b.1 (l.getD 0 0) (l.getD 1 0)) (lineF [115] [l.getD 0 0,l.getD 1 0]):=by unfold stepB; rw [if_neg (by omega),if_pos h]
theorem stepB0 {b : BS} {l : List Int} (h3 : ¬ l.length=3) (h2 : ¬ l.length=2) : stepB b l=b:=by unfold stepB; rw [if_neg h3,if_neg h2]
theorem stepR1 {x : RB} {l : List Int} (h : l.length=3∨l.length=2) : stepRB x l=rPT x l:=by unfold stepRB; rw [if_pos h]
theorem stepR0 {x : RB} {l : List Int} (h3 : ¬ l.length=3) (h2 : ¬ l.length=2) : stepRB x l=x:=by unfold stepRB; rw [if_neg (by omega)]
section
variable {n : Nat} {W : Nat→Int→Prop} {H : Nat→Nat→Va→Prop} {b : BS} {x : RB}
theorem BRel.err3 (I : NInv n W H b.1) (R : BRel n b x) {l : List Int} (h3 : l.length=3) : rPE x l=bkE b.2.2 (writeE b.1 (l.getD 0 0) (l.getD 1 0) (l.getD 2 0)):=by
 have hlo:=R.lo; have hhi:=R.hi
 unfold rPE bkE rNE
 rw [← R.many,if_pos h3,Rel.writeE I R.rel]
 by_cases h : b.2.2=60
 ·rw [if_pos (by omega),if_pos h]
 ·rw [if_neg (by omega),if_neg h]
theorem BRel.err2 (I : NInv n W H b.1) (R : BRel n b x) {l : List Int} (h2 : l.length=2) : rPE x l=bkE b.2.2 (syncE b.1 (l.getD 0 0) (l.getD 1 0)):=by
 have hlo:=R.lo; have hhi:=R.hi
 unfold rPE bkE rNE
 rw [← R.many,if_neg (show ¬ l.length=3 by omega),Rel.syncE I R.rel]
 by_cases h : b.2.2=60
 ·rw [if_pos (by omega),if_pos h]
 ·rw [if_neg (by omega),if_neg h]
theorem BRel.ok (I : NInv n W H b.1) (R : BRel n b x) {l : List Int} (h : l.length=3∨l.length=2) : PutOk x l:=by
 have hlo:=R.lo; have hhi:=R.hi; have hln:=R.len
 refine ⟨R.rel.sh I,h,fun _ h0=>Rel.syOk I R.rel h0,?_,by rw [← R.many]; exact hlo,by rw [← R.many]; exact hhi⟩
 rw [← R.txt]; omega
theorem bkE_ne {m e : Int} (h : bkE m e=0) : m≠60:=by
 intro hm; unfold bkE at h; rw [if_pos hm] at h; cases h
theorem app_len (m n : List UInt8) : (List.append m n).length=m.length+n.length:=List.length_append
theorem BRel.step (I : NInv n (fun _ _=>True) H b.1) (R : BRel n b x) (l : List Int) (hl : ∀ v∈l,inK .i64 v) : ∃ H',NInv n (fun _ _=>True) H' (stepB b l).1∧BRel n (stepB b l) (stepRB x l):=by
 have hlo:=R.lo; have hhi:=R.hi; have hln:=R.len
 by_cases h3 : l.length=3
 ·have ee:=BRel.err3 I R h3
  rw [stepB3 h3,stepR1 (.inl h3)]
  by_cases he : bkE b.2.2 (writeE b.1 (l.getD 0 0) (l.getD 1 0) (l.getD 2 0))=0
  ·have hne:=bkE_ne he
   have e1 : bkT b.1 b.2.1 b.2.2 (writeE b.1 (l.getD 0 0) (l.getD 1 0) (l.getD 2 0)) (writeT b.1 (l.getD 0 0) (l.getD 1 0) (l.getD 2 0)) (lineF [119] [l.getD 0 0,l.getD 1 0,l.getD 2 0])=(writeT b.1 (l.getD 0 0) (l.getD 1 0) (l.getD 2 0),List.append b.2.1 (lineF [119] l),b.2.2+1):=by unfold bkT; rw [if_pos he,list3 h3]
   have e2 : rPT x l=(rWriteT x.1 (l.getD 0 0) (l.getD 1 0) (l.getD 2 0),List.append x.2.1 (lineF [119] l),x.2.2.1+1,()):=by
    unfold rPT; rw [if_pos (by rw [ee]; exact he)]; unfold rNT wordF; rw [if_pos h3,if_pos h3]
   rw [e1,e2]
   obtain ⟨H',I'⟩:=I.write (l.getD 0 0) (l.getD 1 0) (l.getD 2 0) fun _=>trivial
   have hll:=lineF_len (w:=[119]) rfl (by omega) hl
   refine ⟨H',I',⟨Rel.write I R.rel _ _ _,by show List.append b.2.1 _=List.append x.2.1 _; rw [R.txt],by show b.2.2+1=x.2.2.1+1; rw [R.many],by show 0≤b.2.2+1; omega,by show b.2.2+1≤60; omega,?_⟩⟩
   show (List.append b.2.1 (lineF [119] l)).length≤(b.2.2+1).toNat*400
   rw [app_len]; omega
  ·have e1 : ∀ t' line,bkT b.1 b.2.1 b.2.2 (writeE b.1 (l.getD 0 0) (l.getD 1 0) (l.getD 2 0)) t' line=b:=fun t' line=>by unfold bkT; rw [if_neg he]
   have e2 : rPT x l=x:=by unfold rPT; rw [if_neg (by rw [ee]; exact he)]
   rw [e1,e2]; exact ⟨H,I,R⟩
 ·by_cases h2 : l.length=2
  ·have ee:=BRel.err2 I R h2
   rw [stepB2 h2,stepR1 (.inr h2)]
   by_cases he : bkE b.2.2 (syncE b.1 (l.getD 0 0) (l.getD 1 0))=0
   ·have hne:=bkE_ne he
    have e1 : bkT b.1 b.2.1 b.2.2 (syncE b.1 (l.getD 0 0) (l.getD 1 0)) (syncT b.1 (l.getD 0 0) (l.getD 1 0)) (lineF [115] [l.getD 0 0,l.getD 1 0])=(syncT b.1 (l.getD 0 0) (l.getD 1 0),List.append b.2.1 (lineF [115] l),b.2.2+1):=by unfold bkT; rw [if_pos he,list2 h2]
    have e2 : rPT x l=(rSyncT x.1 (l.getD 0 0) (l.getD 1 0),List.append x.2.1 (lineF [115] l),x.2.2.1+1,()):=by
     unfold rPT; rw [if_pos (by rw [ee]; exact he)]; unfold rNT wordF; rw [if_neg h3,if_neg h3]
    rw [e1,e2]
    have hll:=lineF_len (w:=[115]) rfl (by omega) hl
    refine ⟨H,I.sync _ _,⟨Rel.sync I R.rel _ _,by show List.append b.2.1 _=List.append x.2.1 _; rw [R.txt],by show b.2.2+1=x.2.2.1+1; rw [R.many],by show 0≤b.2.2+1; omega,by show b.2.2+1≤60; omega,?_⟩⟩
    show (List.append b.2.1 (lineF [115] l)).length≤(b.2.2+1).toNat*400
    rw [app_len]; omega
   ·have e1 : ∀ t' line,bkT b.1 b.2.1 b.2.2 (syncE b.1 (l.getD 0 0) (l.getD 1 0)) t' line=b:=fun t' line=>by unfold bkT; rw [if_neg he]
    have e2 : rPT x l=x:=by unfold rPT; rw [if_neg (by rw [ee]; exact he)]
    rw [e1,e2]; exact ⟨H,I,R⟩
  ·rw [stepB0 h3 h2,stepR0 h3 h2]; exact ⟨H,I,R⟩
end
theorem getD_inK {s : List (List Int)} (hs : ∀ l∈s,∀ v∈l,inK .i64 v) (i : Nat) : ∀ v∈s.getD i [],inK .i64 v:=by
 intro v hv
 by_cases h : i < s.length
 ·rw [List.getD_eq_getElem?_getD,List.getElem?_eq_getElem h] at hv
  exact hs _ (List.getElem_mem h) v hv
 ·rw [List.getD_eq_getElem?_getD,List.getElem?_eq_none (by omega)] at hv
  simp at hv
theorem playB_rel {n : Int} (hb : inB n 1 5=true) {s : List (List Int)} (hs : ∀ l∈s,∀ v∈l,inK .i64 v) : ∀ i,∃ H,NInv n.toNat (fun _ _=>True) H (playB n.toNat s i).1∧BRel n.toNat (playB n.toNat s i) (playRB n s i)
 | 0=>by
  obtain ⟨n1,n5,m1,m5⟩:=inB5 hb
  have R:=Rel.init n.toNat
  rw [show ((n.toNat : Nat) : Int)=n by omega] at R
  exact ⟨_,NInv.init _ n1 n5,⟨R,rfl,rfl,Int.le_refl _,by show (0 : Int)≤60; decide,Nat.zero_le _⟩⟩
 | i+1=>by
  obtain ⟨H,I,R⟩:=playB_rel hb hs i
  exact BRel.step I R _ (getD_inK hs i)
theorem bkE_k {m e : Int} (h : -9223372036854775808≤e∧e≤9223372036854775807) : -9223372036854775808≤bkE m e∧bkE m e≤9223372036854775807:=by
 unfold bkE; split
 ·omega
 ·exact h
def BInv (n : Nat) (b : BS) : Prop:=∃ H x,NInv n (fun _ _=>True) H b.1∧BRel n b x
theorem BInv.step {n : Nat} {b : BS} (h : BInv n b) (l : List Int) (hl : ∀ v∈l,inK .i64 v) : BInv n (stepB b l):=by
 obtain ⟨H,x,I,R⟩:=h
 obtain ⟨H',I',R'⟩:=BRel.step I R l hl
 exact ⟨H',_,I',R'⟩
theorem BInv.ok {n : Nat} {b : BS} (h : BInv n b) : BkOk b:=by
 obtain ⟨H,x,I,R⟩:=h
 have h1:=R.lo; have h2:=R.hi; have h3:=R.len
 exact ⟨I.sh,by omega,h1,h2⟩
theorem BInv.nlen {n : Nat} {b : BS} (h : BInv n b) : NetLen b.1:=by
 obtain ⟨H,x,I,R⟩:=h
 exact I.nlen
theorem BInv.txt {n : Nat} {b : BS} (h : BInv n b) : b.2.1.length≤24000:=by
 obtain ⟨H,x,I,R⟩:=h
 have h1:=R.lo; have h2:=R.hi; have h3:=R.len
 omega
theorem BInv.init {n : Int} (hb : inB n 1 5=true) : BInv n.toNat (newF n.toNat,[],0):=by
 obtain ⟨H,I,R⟩:=playB_rel hb (s:=[]) (fun l h=>by cases h) 0
 exact ⟨H,_,I,R⟩
theorem BInv.play {n : Int} (hb : inB n 1 5=true) {s : List (List Int)} (hs : ∀ l∈s,∀ v∈l,inK .i64 v) (i : Nat) : BInv n.toNat (playB n.toNat s i):=by
 obtain ⟨H,I,R⟩:=playB_rel hb hs i
 exact ⟨H,_,I,R⟩
theorem pT_step {b : BS} {l : List Int} (h : l.length=3∨l.length=2) : pT b l=stepB b l:=by
 unfold pT stepB
 by_cases h3 : l.length=3
 ·rw [if_pos h3,if_pos h3]
 ·rw [if_neg h3,if_neg h3,if_pos (by omega)]
theorem fit_len {s : List UInt8} (h : badL s=0) : (numsL s).length=3∨(numsL s).length=2:=by
 unfold badL at h
 split at h
 ·cases h
 ·split at h
  ·cases h
  ·split at h
   ·cases h
   ·split at h
    ·cases h
    ·split at h
     ·rename_i hf
      unfold fitL at hf
      simp only [Bool.or_eq_true,Bool.and_eq_true,decide_eq_true_eq] at hf
      rcases hf with hf | hf
      ·exact .inl hf.2
      ·exact .inr hf.2
     ·cases h
theorem numN_k (s : List UInt8) : inK .i64 (numN s):=by
 rw [inK_i64]
 unfold numN
 split
 ·have : ∀ i,-9223372036854775808≤numW s i∧numW s i≤9223372036854775807:=by
   intro i
   cases i with
   | zero=>exact ⟨by show (-9223372036854775808 : Int)≤0; decide,by show (0 : Int)≤9223372036854775807; decide⟩
   | succ i=>simp only [numW,wr64_mod]; omega
  exact this _
 ·exact ⟨by decide,by decide⟩
theorem nums_k (s : List UInt8) : ∀ v∈numsL s,inK .i64 v:=by
 intro v hv
 obtain ⟨x,_,rfl⟩:=List.mem_map.1 hv
 exact numN_k x
theorem BInv.line {n : Nat} {b : BS} (h : BInv n b) (s : List UInt8) : BInv n (pLT b s):=by
 unfold pLT
 split
 ·rename_i h0
  rw [pT_step (fit_len h0)]
  exact h.step _ (nums_k s)
 ·exact h
theorem BInv.lines {n : Int} (hb : inB n 1 5=true) (w : List (List UInt8)) : ∀ i,BInv n.toNat (poB n w i)
 | 0=>BInv.init hb
 | i+1=>(BInv.lines hb w i).line _
open Go.Vc Go.Proofs Go.RowKit
structure StepsOk (s : List (List Int)) : Prop where
 k : ∀ l∈s,∀ v∈l,inK .i64 v
def ob2 (a b : BS) : List Ob:=[.st 66 [.ps 2,.sf 0 1,.os 3,.d I a.2.2],.st 66 [.ps 4,.sf 1 1,.os 5,.d I b.2.2],.st 96 [.os 6,.os 7],.buf 5 a.2.1,.st 96 [.os 8,.os 9],.buf 5 b.2.1,.row 98 tRow a.1.1,.row 3 I a.1.2.1,.row 98 tRow b.1.1,.row 3 I b.1.2.1]
structure AlikeOk (a b : BS) : Prop where
 net : NetLen a.1
 txt : a.2.1.length≤1000000000
 eq : b=a
open Go.Vc
set_option linter.unusedVariables false
open Go.Vc Go.Proofs Go.RowKit
open Go.Vc Go.Proofs Go.RowKit
def bodyF (w : List UInt8) (l : List Int) : List UInt8:=putS w l++32::Lib.itoa (sumF (putS w l))
theorem line_body (w : List UInt8) (l : List Int) : lineF w l=bodyF w l++[10]:=by
 show (((putS w l++[32])++Lib.itoa (sumF (putS w l)))++[10])=_
 unfold bodyF
 simp
open Go.Vc Go.Proofs Go.RowKit
def okS (b : BS) (l : List Int) : Bool:=(decide (l.length=3)||decide (l.length=2))&&decide (pE b l=0)
def sucL (n : Nat) (s : List (List Int)) : Nat→List (List Int)
 | 0=>[]
 | i+1=>if okS (playB n s i) (s.getD i [])=true then sucL n s i++[s.getD i []] else sucL n s i
def bodyL (l : List Int) : List UInt8:=bodyF (wordF l) l
theorem okS_len {b : BS} {l : List Int} (h : okS b l=true) : (l.length=3∨l.length=2)∧pE b l=0:=by
 unfold okS at h
 simpa using h
theorem okS_yes {b : BS} {l : List Int} (h : okS b l=true) : (stepB b l).2.1=b.2.1++(bodyL l++[10])∧(stepB b l).2.2=b.2.2+1:=by
 obtain ⟨hl,he⟩:=okS_len h
 have hw:=line_body (wordF l) l
 unfold bodyL
 rw [← hw,← pT_step hl]
 unfold pE at he
 unfold pT
 by_cases h3 : l.length=3
 ·rw [if_pos h3] at he ⊢
  unfold bkT; rw [if_pos he,list3 h3]
  unfold wordF; rw [if_pos h3]; exact ⟨rfl,rfl⟩
 ·rw [if_neg h3] at he ⊢
  unfold bkT; rw [if_pos he,list2 (by omega)]
  unfold wordF; rw [if_neg h3]; exact ⟨rfl,rfl⟩
section
variable (n : Nat) (s : List (List Int))
end
open Go.Vc Go.Proofs Go.RowKit
def Rl (n : Nat) (b : BS) (x : RB) : Prop:=∃ H,NInv n (fun _ _=>True) H b.1∧BRel n b x
theorem pE_rel {n : Nat} {b : BS} {x : RB} (h : Rl n b x) {l : List Int} (hl : l.length=3∨l.length=2) : rPE x l=pE b l:=by
 obtain ⟨H,I,R⟩:=h
 unfold pE
 by_cases h3 : l.length=3
 ·rw [if_pos h3]; exact BRel.err3 I R h3
 ·rw [if_neg h3]; exact BRel.err2 I R (by omega)
theorem line_rel {n : Nat} {b : BS} {x : RB} (h : Rl n b x) (s : List UInt8) : rLE x s=pLE b s∧Rl n (pLT b s) (rLT x s):=by
 unfold rLE pLE pLT rLT
 by_cases hb : badL s=0
 ·rw [if_pos hb,if_pos hb,if_pos hb,if_pos hb]
  have hl:=fit_len hb
  refine ⟨pE_rel h hl,?_⟩
  obtain ⟨H,I,R⟩:=h
  obtain ⟨H',I',R'⟩:=BRel.step I R (numsL s) (nums_k s)
  rw [stepR1 hl] at R'
  rw [pT_step hl]
  exact ⟨H',I',R'⟩
 ·rw [if_neg hb,if_neg hb,if_neg hb,if_neg hb]
  exact ⟨rfl,h⟩
theorem rl_ok {n : Nat} {b : BS} {x : RB} (h : Rl n b x) {s : List UInt8} (hs : s.length≤1100000) : LineOk x s:=by
 obtain ⟨H,I,R⟩:=h
 have hlo:=R.lo; have hhi:=R.hi; have hln:=R.len
 refine ⟨R.rel.sh I,fun p q h0=>Rel.syOk I R.rel h0,?_,by rw [← R.many]; exact hlo,by rw [← R.many]; exact hhi,hs⟩
 rw [← R.txt]; omega
theorem rl_zero {n : Int} (hb : inB n 1 5=true) : Rl n.toNat (newF n.toNat,[],0) (newRB n):=by
 obtain ⟨H,I,R⟩:=playB_rel hb (s:=[]) (fun l h=>by cases h) 0
 exact ⟨H,I,R⟩
theorem many_line {b : BS} {s : List UInt8} (h : pLE b s=0) : (pLT b s).2.2=b.2.2+1:=by
 unfold pLE at h
 unfold pLT
 by_cases hb : badL s=0
 ·rw [if_pos hb] at h ⊢
  have hl:=fit_len hb
  rw [pT_step hl]
  refine (okS_yes ?_).2
  unfold okS
  rcases hl with e | e<;>(rw [e,h]; rfl)
 ·rw [if_neg hb] at h; exact absurd h hb
theorem po_many {n : Int} {w : List (List UInt8)} : ∀ i,poG n w i=true→(poB n w i).2.2=(i : Int)
 | 0,_=>rfl
 | i+1,h=>by
  simp only [poG,Bool.and_eq_true,decide_eq_true_eq] at h
  show (pLT (poB n w i) (w.getD i [])).2.2=_
  rw [many_line h.2,po_many i h.1]; omega
theorem po_rel {n : Int} (hb : inB n 1 5=true) {w c : List (List UInt8)} {m : Nat} (hw : ∀ j,j < m→c.getD j []=w.getD j []) : ∀ i,i≤m→Rl n.toNat (poB n w i) (opB n c i)∧opG n c i=poG n w i
 | 0,_=>⟨rl_zero hb,rfl⟩
 | i+1,h=>by
  obtain ⟨h1,h2⟩:=po_rel hb hw i (by omega)
  obtain ⟨h3,h4⟩:=line_rel h1 (w.getD i [])
  refine ⟨?_,?_⟩
  ·show Rl n.toNat (pLT (poB n w i) (w.getD i [])) (rLT (opB n c i) (c.getD i []))
   rw [hw i (by omega)]; exact h4
  ·show (opG n c i&&decide (rLE (opB n c i) (c.getD i [])=0))=(poG n w i&&decide (pLE (poB n w i) (w.getD i [])=0))
   rw [h2,hw i (by omega),h3]
theorem poE_rel {n : Int} (hb : inB n 1 5=true) {w c : List (List UInt8)} {m : Nat} (hw : ∀ j,j < m→c.getD j []=w.getD j []) : ∀ f k,k+f=m→poG n w k=true →
 (opE n c k f).2.1=(poE n w k f).2.1∧(opE n c k f).2.2=(poE n w k f).2.2∧((poE n w k f).2.2=0→Rl n.toNat (poE n w k f).1 (opE n c k f).1)
 | 0,k,hk,hg=>by
  obtain ⟨h1,h2⟩:=po_rel hb hw k (by omega)
  obtain ⟨H,I,R⟩:=h1
  exact ⟨R.many.symm,rfl,fun _=>⟨H,I,R⟩⟩
 | f+1,k,hk,hg=>by
  obtain ⟨h1,h2⟩:=po_rel hb hw k (by omega)
  obtain ⟨h3,h4⟩:=line_rel h1 (w.getD k [])
  show (if rLE (opB n c k) (c.getD k [])=0 then opE n c (k+1) f else (rb0,(k : Int)+1,rLE (opB n c k) (c.getD k []))).2.1=(if pLE (poB n w k) (w.getD k [])=0 then poE n w (k+1) f else (poB n w k,(poB n w k).2.2+1,pLE (poB n w k) (w.getD k []))).2.1 ∧
   (if rLE (opB n c k) (c.getD k [])=0 then opE n c (k+1) f else (rb0,(k : Int)+1,rLE (opB n c k) (c.getD k []))).2.2=(if pLE (poB n w k) (w.getD k [])=0 then poE n w (k+1) f else (poB n w k,(poB n w k).2.2+1,pLE (poB n w k) (w.getD k []))).2.2 ∧
   ((if pLE (poB n w k) (w.getD k [])=0 then poE n w (k+1) f else (poB n w k,(poB n w k).2.2+1,pLE (poB n w k) (w.getD k []))).2.2=0→Rl n.toNat (if pLE (poB n w k) (w.getD k [])=0 then poE n w (k+1) f else (poB n w k,(poB n w k).2.2+1,pLE (poB n w k) (w.getD k []))).1 (if rLE (opB n c k) (c.getD k [])=0 then opE n c (k+1) f else (rb0,(k : Int)+1,rLE (opB n c k) (c.getD k []))).1)
  rw [hw k (by omega),h3]
  by_cases he : pLE (poB n w k) (w.getD k [])=0
  ·rw [if_pos he,if_pos he]
   exact poE_rel hb hw f (k+1) (by omega) (by simp only [poG,hg,he,decide_true,Bool.and_self])
  ·rw [if_neg he,if_neg he]
   exact ⟨by rw [po_many k hg],rfl,fun h=>absurd h he⟩
theorem open_same {n : Int} (hb : inB n 1 5=true) (s : List UInt8) : (opR n s).2.1=(poR n s).2.1∧(opR n s).2.2=(poR n s).2.2∧((poR n s).2.2=0→Rl n.toNat (poR n s).1 (opR n s).1):=by
 have hc : cutL s 10=splL 10 s:=by
  have:=cut_spl s 10
  rw [show (((10 : UInt8).toNat : Nat) : Int)=10 from rfl] at this
  exact this
 have hl : (wholeL s).length=(cutL s 10).length - 1:=by unfold wholeL; rw [hc,List.length_dropLast]
 unfold opR poR
 rw [if_pos hb,← hl]
 refine poE_rel hb (m:=(wholeL s).length) (fun j hj => ?_) _ 0 (by omega) rfl
 have : (wholeL s)[j]? = (splL 10 s)[j]? := by
  unfold wholeL at hj ⊢
  rw [List.getElem?_dropLast,if_pos (by rw [List.length_dropLast] at hj; omega)]
 rw [hc,List.getD_eq_getElem?_getD,List.getD_eq_getElem?_getD,this]
theorem open_ok {n : Int} {s : List UInt8} (hs : s.length≤1100000) : OpenOk n s:=by
 refine ⟨hs,fun hb i hi _ => ?_⟩
 obtain ⟨h1,_⟩:=po_rel hb (w:=cutL s 10) (c:=cutL s 10) (m:=i) (fun _ _=>rfl) i (Nat.le_refl _)
 refine rl_ok h1 ?_
 have hc : cutL s 10=splL 10 s:=by
  have:=cut_spl s 10
  rw [show (((10 : UInt8).toNat : Nat) : Int)=10 from rfl] at this
  exact this
 rw [hc] at hi ⊢
 rw [List.getD_eq_getElem?_getD,List.getElem?_eq_getElem (by omega)]
 exact Nat.le_trans (splL_le 10 s _ (List.getElem_mem (by omega))) hs
theorem read_rel {n : Nat} {b : BS} {x : RB} (h : Rl n b x) {p q : Nat} (hp : p < n) (hq : q < 4) : readF b.1 (p : Int) (q : Int)=List.getD x.1.2.1 ((p : Int)*4+(q : Int)).toNat []:=by
 obtain ⟨H,I,R⟩:=h
 have h1 : inNet b.1 (p : Int) (q : Int)=true:=inNet_iff.2 ⟨⟨by omega,by rw [I.len]; omega⟩,by omega,by omega⟩
 have h2:=R.rel.at' p q hp hq
 unfold readF; rw [if_pos h1]
 show vAt b.1 (p : Int).toNat (q : Int).toNat=_
 rw [Int.toNat_natCast,Int.toNat_natCast,← h2]; rfl
open Go.Vc Go.Proofs Go.RowKit
def txtT (n : Int) (s : List (List Int)) : List UInt8:=(playB n.toNat s (min s.length 70)).2.1
def linT (n : Int) (s : List (List Int)) (k : Nat) : Nat:=((txtT n s).take k).count 10
def hadT (n : Int) (s : List (List Int)) (i : Nat) : Int:=((sucL n.toNat s i).length : Int)
structure TornSt (n : Int) (s : List (List Int)) (k : Int) (i : Nat) : Prop where
 b : inB n 1 5=true
 le : i≤s.length∧i≤70
 had : hadT n s i≤(linT n s k.toNat : Int)
 k0 : 0≤k∧k≤((txtT n s).length : Int)
structure TornMid (n : Int) (s : List (List Int)) (k : Int) (i : Nat) : Prop where
 b : inB n 1 5=true
 le : i < s.length∧i < 70
 had : hadT n s i < (linT n s k.toNat : Int)
structure TornCt (n : Int) (s : List (List Int)) (k : Int) (i : Nat) : Prop where
 b : inB n 1 5=true
 k0 : 0≤k∧k≤((txtT n s).length : Int)
 le : (i : Int)≤k
open Go.Vc
set_option linter.unusedVariables false
open Go.Vc Go.Proofs Go.RowKit
open Go.Vc Go.Proofs Go.RowKit
open Go.Vc Go.Proofs Go.RowKit
theorem BInv.nodes {n : Nat} {b : BS} (h : BInv n b) : b.1.1.length=n:=by
 obtain ⟨H,x,I,R⟩:=h
 exact I.len
open Go.Vc Go.Proofs Go.RowKit
abbrev glU (v : GV) : List (Nat×Dat):=glE++glO v
theorem glU_E {v : GV} : ∀ x∈glE,x∈glU v:=fun x h=>List.mem_append_left _ h
theorem glU_O {v : GV} : ∀ x∈glO v,x∈glU v:=fun x h=>List.mem_append_right _ h
structure TurnCt (n : Int) (s : List (List Int)) (i c : Int) (k : Nat) : Prop where
 b : inB n 1 5=true
 i0 : 0≤i∧i < ((txtT n s).length : Int)
 le : (k : Int)≤i
 t10 : (txtT n s).getD i.toNat 0≠10
 c10 : c≠10
 ne : (((txtT n s).getD i.toNat 0).toNat : Int)≠c
open Go.Vc Go.Proofs Go.RowKit
def cLawO : Ctr:=cdet [I,.str] (fun _ (s : List UInt8)=>s.length≤1100000) (fun _ _=>[⟨.bool,true⟩])
def obXB (x : RB) (b : BS) : List Ob:=[.var 45 tRB x,.st 66 [.ps 2,.sf 1 1,.os 3,.d I b.2.2],.st 96 [.os 4,.os 5],.buf 5 b.2.1,.row 98 tRow b.1.1,.row 3 I b.1.2.1]
def anOpens (n : Int) (s : List UInt8) : Ann:=[joinAll,
 loopAt 8 Nat [] (fun st p=>{ St.at (St.only st [0,5,8]) [(11,.d I (p : Int))] with ob:=obXB (opR n s).1 (poR n s).1 }) (fun _ p=>(p≤n.toNat∧inB n 1 5=true)∧(poR n s).2.2=0) (fun p=>n.toNat - p),
 loopAt 11 Nat [] (fun st q=>{ St.at (St.only st [0,5,8,11]) [(12,.d I (q : Int))] with ob:=obXB (opR n s).1 (poR n s).1 }) (fun _ q=>(q≤4∧inB n 1 5=true)∧(poR n s).2.2=0) (fun q=>4 - q)]
open Go.Vc
set_option linter.unusedVariables false
theorem vcOpens (v : GV) (n : Int) (s : List UInt8) (k : List Dat→Prop) : vcF ⟨Elr,[(20,cOpenR),(19,cError),(21,cValues)],glU v,[],[(15,oBOpen),(14,oBTxt),(22,oBRd)]⟩ (anOpens n s) (Tryz.f6.body.getD .skip) Tryz.f6.ntmps [(.tmp 4,.bool)] [⟨I,n⟩,⟨.str,s⟩] k=(
 OpenOk n s∧s.length≤(1100000 : Nat)∧(inB n (1 : Int) (5 : Int)=false→((!decide ((opR n s).snd.snd=(0 : Int)))=true→(inK IntKind.i64 (1 : Int)∧True)∧(decide ((1 : Int)=(opR n s).snd.snd)=true→k [Dat.mk Ty.bool (decide ((0 : Int)=(opR n s).snd.fst))])∧(decide ((1 : Int)=(opR n s).snd.snd)=false→k [Dat.mk Ty.bool false]))∧((!decide ((opR n s).snd.snd=(0 : Int)))=false→((!decide ((1 : Int)=(0 : Int)))=true→(inK IntKind.i64 (1 : Int)∧True)∧(decide ((1 : Int)=(opR n s).snd.snd)=true→k [Dat.mk Ty.bool (decide ((0 : Int)=(opR n s).snd.fst))])∧(decide ((1 : Int)=(opR n s).snd.snd)=false→k [Dat.mk Ty.bool false]))∧((!decide ((1 : Int)=(0 : Int)))=false→((!decide ((0 : Int)=(opR n s).snd.fst))=true→True∧(SV.und=SV.und∧SV.und=SV.und∧True)∧k [Dat.mk Ty.bool false])∧((!decide ((0 : Int)=(opR n s).snd.fst))=false→True∧False))))∧(inB n (1 : Int) (5 : Int)=true→POpenOk n s∧((poR n s).snd.snd=(0 : Int)→((!decide ((opR n s).snd.snd=(0 : Int)))=true→(inK IntKind.i64 (0 : Int)∧True)∧(decide ((0 : Int)=(opR n s).snd.snd)=true→k [Dat.mk Ty.bool (decide ((poR n s).snd.fst=(opR n s).snd.fst))])∧(decide ((0 : Int)=(opR n s).snd.snd)=false→k [Dat.mk Ty.bool false]))∧((!decide ((opR n s).snd.snd=(0 : Int)))=false→((!decide ((0 : Int)=(0 : Int)))=true→(inK IntKind.i64 (0 : Int)∧True)∧(decide ((0 : Int)=(opR n s).snd.snd)=true→k [Dat.mk Ty.bool (decide ((poR n s).snd.fst=(opR n s).snd.fst))])∧(decide ((0 : Int)=(opR n s).snd.snd)=false→k [Dat.mk Ty.bool false]))∧((!decide ((0 : Int)=(0 : Int)))=false→((!decide ((poR n s).snd.fst=(opR n s).snd.fst))=true→True∧(SV.und=SV.und∧SV.und=SV.und∧True)∧k [Dat.mk Ty.bool false])∧((!decide ((poR n s).snd.fst=(opR n s).snd.fst))=false→True∧(poR n s).fst.snd.fst.length≤(1000000000 : Nat)∧(SV.pv (((I).pr ((tV).sl.sl.pr ((I).sl.pr Ty.un))).pr (Ty.str.pr ((I).pr Ty.un))) (0 : Nat) ([]++[(1 : Nat)])=SV.pv (((I).pr ((tV).sl.sl.pr ((I).sl.pr Ty.un))).pr (Ty.str.pr ((I).pr Ty.un))) (0 : Nat) ([]++[(1 : Nat)])∧(opR n s).fst.snd.fst=(opR n s).fst.snd.fst∧True)∧((!(poR n s).fst.snd.fst==(opR n s).fst.snd.fst)=true→k [Dat.mk Ty.bool false])∧((!(poR n s).fst.snd.fst==(opR n s).fst.snd.fst)=false→(∃ (x : Nat),((x≤n.toNat∧inB n (1 : Int) (5 : Int)=true)∧(poR n s).snd.snd=(0 : Int))∧(n=n∧([] : List Nat)=[]∧True∧(0 : Int)=(↑x : Int)∧True)∧(((45 : Nat)=(45 : Nat)∧(opR n s).fst=(opR n s).fst)∧(True∧True∧True∧(poR n s).fst.snd.snd=(poR n s).fst.snd.snd∧True)∧(True∧True∧True)∧(poR n s).fst.snd.fst=(poR n s).fst.snd.fst∧((98 : Nat)=(98 : Nat)∧(poR n s).fst.fst.fst=(poR n s).fst.fst.fst)∧((3 : Nat)=(3 : Nat)∧(poR n s).fst.fst.snd.fst=(poR n s).fst.fst.snd.fst)∧True)∧hdE=hdE∧Lib.pow10Tab=Lib.pow10Tab∧Value.int IntKind.i64 v.m=Value.int IntKind.i64 v.m∧Value.iface v.t1 v.p1=Value.iface v.t1 v.p1∧Value.iface v.t2 v.p2=Value.iface v.t2 v.p2∧True)∧∀ (x : Nat),(x≤n.toNat∧inB n (1 : Int) (5 : Int)=true)∧(poR n s).snd.snd=(0 : Int)→(decide ((↑x : Int) < n)=true→(∃ (x_1 : Nat),((x_1≤(4 : Nat)∧inB n (1 : Int) (5 : Int)=true)∧(poR n s).snd.snd=(0 : Int))∧(n=n∧([] : List Nat)=[]∧True∧(↑x : Int)=(↑x : Int)∧(0 : Int)=(↑x_1 : Int)∧True)∧(((45 : Nat)=(45 : Nat)∧(opR n s).fst=(opR n s).fst)∧(True∧True∧True∧(poR n s).fst.snd.snd=(poR n s).fst.snd.snd∧True)∧(True∧True∧True)∧(poR n s).fst.snd.fst=(poR n s).fst.snd.fst∧((98 : Nat)=(98 : Nat)∧(poR n s).fst.fst.fst=(poR n s).fst.fst.fst)∧((3 : Nat)=(3 : Nat)∧(poR n s).fst.fst.snd.fst=(poR n s).fst.fst.snd.fst)∧True)∧hdE=hdE∧Lib.pow10Tab=Lib.pow10Tab∧Value.int IntKind.i64 v.m=Value.int IntKind.i64 v.m∧Value.iface v.t1 v.p1=Value.iface v.t1 v.p1∧Value.iface v.t2 v.p2=Value.iface v.t2 v.p2∧True)∧∀ (x_1 : Nat),(x_1≤(4 : Nat)∧inB n (1 : Int) (5 : Int)=true)∧(poR n s).snd.snd=(0 : Int)→(decide ((↑x_1 : Int) < (4 : Int))=true→inK IntKind.i64 ((↑x : Int)*(4 : Int))∧inK IntKind.i64 ((↑x : Int)*(4 : Int)+(↑x_1 : Int))∧(0 : Int)≤(↑x : Int)*(4 : Int)+(↑x_1 : Int)∧(↑x : Int)*(4 : Int)+(↑x_1 : Int) < (↑(List.length (opR n s).fst.fst.snd.fst) : Int)∧True∧NetLen ((poR n s).fst.fst.fst,(poR n s).fst.fst.snd.fst,())∧True∧(SV.pv (((I).pr ((tV).sl.sl.pr ((I).sl.pr Ty.un))).pr (Ty.str.pr ((I).pr Ty.un))) (0 : Nat) ([]++[(0 : Nat)])=SV.pv (((I).pr ((tV).sl.sl.pr ((I).sl.pr Ty.un))).pr (Ty.str.pr ((I).pr Ty.un))) (0 : Nat) ([]++[(0 : Nat)])∧SV.pv (((I).pr ((tV).sl.sl.pr ((I).sl.pr Ty.un))).pr (Ty.str.pr ((I).pr Ty.un))) (0 : Nat) ([]++[(0 : Nat)]++[(1 : Nat)])=SV.pv (((I).pr ((tV).sl.sl.pr ((I).sl.pr Ty.un))).pr (Ty.str.pr ((I).pr Ty.un))) (0 : Nat) ([]++[(0 : Nat)]++[(1 : Nat)])∧(opR n s).fst.fst.snd.fst=(opR n s).fst.fst.snd.fst∧(inK IntKind.i64 ((↑x : Int)*(4 : Int))∧(↑x : Int)*(4 : Int)=(↑x : Int)*(4 : Int))∧(inK IntKind.i64 ((↑x : Int)*(4 : Int)+(↑x_1 : Int))∧(↑x : Int)*(4 : Int)+(↑x_1 : Int)=(↑x : Int)*(4 : Int)+(↑x_1 : Int))∧((0 : Int)≤(↑x : Int)*(4 : Int)+(↑x_1 : Int)∧(↑x : Int)*(4 : Int)+(↑x_1 : Int) < (↑(List.length (opR n s).fst.fst.snd.fst) : Int)∧SV.ra (tV).sl (List.getD (opR n s).fst.fst.snd.fst ((↑x : Int)*(4 : Int)+(↑x_1 : Int)).toNat [])=SV.ra (tV).sl (List.getD (opR n s).fst.fst.snd.fst ((↑x : Int)*(4 : Int)+(↑x_1 : Int)).toNat []))∧List.getD (opR n s).fst.fst.snd.fst ((↑x : Int)*(4 : Int)+(↑x_1 : Int)).toNat []=List.getD (opR n s).fst.fst.snd.fst ((↑x : Int)*(4 : Int)+(↑x_1 : Int)).toNat []∧True)∧((!decide (readF ((poR n s).fst.fst.fst,(poR n s).fst.fst.snd.fst,()) (↑x : Int) (↑x_1 : Int)=List.getD (opR n s).fst.fst.snd.fst ((↑x : Int)*(4 : Int)+(↑x_1 : Int)).toNat []))=true→k [Dat.mk Ty.bool false])∧((!decide (readF ((poR n s).fst.fst.fst,(poR n s).fst.fst.snd.fst,()) (↑x : Int) (↑x_1 : Int)=List.getD (opR n s).fst.fst.snd.fst ((↑x : Int)*(4 : Int)+(↑x_1 : Int)).toNat []))=false→inK IntKind.i64 ((↑x_1 : Int)+(1 : Int))∧∃ (x_2 : Nat),((x_2≤(4 : Nat)∧inB n (1 : Int) (5 : Int)=true)∧(poR n s).snd.snd=(0 : Int))∧(4 : Nat) - x_2 < (4 : Nat) - x_1∧(n=n∧([] : List Nat)=[]∧True∧(↑x : Int)=(↑x : Int)∧(↑x_1 : Int)+(1 : Int)=(↑x_2 : Int)∧True)∧(((45 : Nat)=(45 : Nat)∧(opR n s).fst=(opR n s).fst)∧(True∧True∧True∧(poR n s).fst.snd.snd=(poR n s).fst.snd.snd∧True)∧(True∧True∧True)∧(poR n s).fst.snd.fst=(poR n s).fst.snd.fst∧((98 : Nat)=(98 : Nat)∧(poR n s).fst.fst.fst=(poR n s).fst.fst.fst)∧((3 : Nat)=(3 : Nat)∧(poR n s).fst.fst.snd.fst=(poR n s).fst.fst.snd.fst)∧True)∧hdE=hdE∧Lib.pow10Tab=Lib.pow10Tab∧Value.int IntKind.i64 v.m=Value.int IntKind.i64 v.m∧Value.iface v.t1 v.p1=Value.iface v.t1 v.p1∧Value.iface v.t2 v.p2=Value.iface v.t2 v.p2∧True))∧(decide ((↑x_1 : Int) < (4 : Int))=false→inK IntKind.i64 ((↑x : Int)+(1 : Int))∧∃ (x_2 : Nat),((x_2≤n.toNat∧inB n (1 : Int) (5 : Int)=true)∧(poR n s).snd.snd=(0 : Int))∧n.toNat - x_2 < n.toNat - x∧(n=n∧([] : List Nat)=[]∧True∧(↑x : Int)+(1 : Int)=(↑x_2 : Int)∧True)∧(((45 : Nat)=(45 : Nat)∧(opR n s).fst=(opR n s).fst)∧(True∧True∧True∧(poR n s).fst.snd.snd=(poR n s).fst.snd.snd∧True)∧(True∧True∧True)∧(poR n s).fst.snd.fst=(poR n s).fst.snd.fst∧((98 : Nat)=(98 : Nat)∧(poR n s).fst.fst.fst=(poR n s).fst.fst.fst)∧((3 : Nat)=(3 : Nat)∧(poR n s).fst.fst.snd.fst=(poR n s).fst.fst.snd.fst)∧True)∧hdE=hdE∧Lib.pow10Tab=Lib.pow10Tab∧Value.int IntKind.i64 v.m=Value.int IntKind.i64 v.m∧Value.iface v.t1 v.p1=Value.iface v.t1 v.p1∧Value.iface v.t2 v.p2=Value.iface v.t2 v.p2∧True))∧(decide ((↑x : Int) < n)=false→k [Dat.mk Ty.bool true]))))))∧((poR n s).snd.snd≠(0 : Int)→((!decide ((opR n s).snd.snd=(0 : Int)))=true→(inK IntKind.i64 (poR n s).snd.snd∧True)∧(decide ((poR n s).snd.snd=(opR n s).snd.snd)=true→k [Dat.mk Ty.bool (decide ((poR n s).snd.fst=(opR n s).snd.fst))])∧(decide ((poR n s).snd.snd=(opR n s).snd.snd)=false→k [Dat.mk Ty.bool false]))∧((!decide ((opR n s).snd.snd=(0 : Int)))=false→((!decide ((poR n s).snd.snd=(0 : Int)))=true→(inK IntKind.i64 (poR n s).snd.snd∧True)∧(decide ((poR n s).snd.snd=(opR n s).snd.snd)=true→k [Dat.mk Ty.bool (decide ((poR n s).snd.fst=(opR n s).snd.fst))])∧(decide ((poR n s).snd.snd=(opR n s).snd.snd)=false→k [Dat.mk Ty.bool false]))∧((!decide ((poR n s).snd.snd=(0 : Int)))=false→((!decide ((poR n s).snd.fst=(opR n s).snd.fst))=true→True∧(SV.und=SV.und∧SV.und=SV.und∧True)∧k [Dat.mk Ty.bool false])∧((!decide ((poR n s).snd.fst=(opR n s).snd.fst))=false→True∧False)))))):=by kernel_rfl
open Go.Vc Go.Proofs Go.RowKit
theorem badL_k (s : List UInt8) : inK .i64 (badL s):=by
 rw [inK_i64]; unfold badL
 repeat' split
 all_goals decide
theorem pLE_k (b : BS) (s : List UInt8) : inK .i64 (pLE b s):=by
 unfold pLE
 split
 ·unfold pE
  split
  ·exact inK_i64.2 (bkE_k (writeE_k _ _ _ _))
  ·exact inK_i64.2 (bkE_k (syncE_k _ _ _))
 ·exact badL_k s
theorem poE_k (n : Int) (w : List (List UInt8)) : ∀ f k,inK .i64 (poE n w k f).2.2
 | 0,_=>inK_i64.2 (by show (_ : Int)≤0∧(0 : Int)≤_; decide)
 | f+1,k=>by
  show inK .i64 (if pLE (poB n w k) (w.getD k [])=0 then poE n w (k+1) f else (poB n w k,(poB n w k).2.2+1,pLE (poB n w k) (w.getD k []))).2.2
  split
  ·exact poE_k n w f (k+1)
  ·exact pLE_k _ _
theorem opens_vc (v : GV) (n : Int) (s : List UInt8) (hn : inK .i64 n) (hs : s.length≤1100000) (k : List Dat→Prop) (hk : k [⟨.bool,true⟩]) :
 vcF ⟨Elr,[(20,cOpenR),(19,cError),(21,cValues)],glU v,[],[(15,oBOpen),(14,oBTxt),(22,oBRd)]⟩ (anOpens n s) (Tryz.f6.body.getD .skip) Tryz.f6.ntmps [(.tmp 4,.bool)] [⟨I,n⟩,⟨.str,s⟩] k:=by
 rw [vcOpens]
 have ret : ∀ x : Bool,x=true→k [⟨.bool,x⟩]:=by rintro _ rfl; exact hk
 have hn':=inK_i64.1 hn
 refine ⟨open_ok hs,hs,fun hb => ?_,fun hb => ?_⟩
 ·have e : opR n s=(rb0,0,1):=by unfold opR; rw [if_neg (by rw [hb]; decide)]
  rw [e]
  refine ⟨fun _=>⟨⟨inK_i64.2 (by decide),trivial⟩,fun _=>ret _ rfl,fun h=>by cases h⟩,fun h=>by cases h⟩
 ·obtain ⟨h1,h2,h3⟩:=open_same hb s
  have hP : POpenOk n s:=⟨hs,fun i _ _=>(BInv.lines hb _ i).ok⟩
  have hek : inK .i64 (poR n s).2.2:=poE_k n _ _ _
  have hmany : (decide ((poR n s).2.1=(opR n s).2.1))=true:=decide_eq_true h1.symm
  have hsame : (decide ((poR n s).2.2=(opR n s).2.2))=true:=decide_eq_true h2.symm
  refine ⟨hP,fun h0 => ?_,fun h0 => ?_⟩
  ·have hop0 : (opR n s).2.2=0:=by rw [h2,h0]
   have hR:=h3 h0
   have hd0 : decide ((opR n s).2.2=0)=true:=decide_eq_true hop0
   have hR':=hR
   obtain ⟨H,IN,R⟩:=hR'
   have htx:=R.txt
   have hlo:=R.lo; have hhi:=R.hi; have hln:=R.len
   have hnl:=IN.nlen
   have hXl : ((opR n s).1.1.2.1.length : Int)=(n.toNat : Int)*4:=by rw [R.rel.hl]; omega
   have hb5:=inB_iff.1 hb
   have hnt : ((n.toNat : Nat) : Int)=n:=by omega
   have hlen : (poR n s).1.2.1.length≤1000000000:=by omega
   have htt : ((poR n s).1.2.1==(opR n s).1.2.1)=true:=by rw [htx]; simp
   simp only [hd0,hmany,htt,hlen,net_eta,hnl,decide_eq_true_eq,decide_eq_false_iff_not,inK_i64,true_and,and_true,decide_true,Bool.not_true,Bool.not_false,Bool.true_eq_false,Bool.false_eq_true,false_implies,forall_const,Bool.not_eq_true',Bool.not_eq_false']
   refine ⟨⟨0,⟨⟨Nat.zero_le _,hb⟩,h0⟩,rfl⟩,fun x hx=>⟨fun hlt=>⟨⟨0,⟨⟨Nat.zero_le _,hb⟩,h0⟩,rfl⟩,fun y hy=>⟨fun hl4 => ?_,fun hg=>⟨⟨by omega,by omega⟩,x+1,⟨⟨by omega,hb⟩,h0⟩,by omega,by omega⟩⟩⟩,fun _=>hk⟩⟩
   have hr:=read_rel hR (p:=x) (q:=y) (by omega) (by omega)
   exact ⟨⟨by omega,by omega⟩,⟨by omega,by omega⟩,by omega,by omega,⟨⟨by omega,by omega⟩,⟨by omega,by omega⟩,by omega,by omega⟩,fun h=>absurd hr h,fun _=>⟨⟨by omega,by omega⟩,y+1,⟨⟨by omega,hb⟩,h0⟩,by omega,by omega⟩⟩
  ·have hop0 : (opR n s).2.2≠0:=by rw [h2]; exact h0
   have hd0 : decide ((opR n s).2.2=0)=false:=decide_eq_false hop0
   refine ⟨fun _=>⟨⟨hek,trivial⟩,fun _=>ret _ hmany,fun h=>(by rw [hsame] at h; cases h)⟩,fun h=>(by rw [hd0] at h; cases h)⟩
theorem okLawO (v : GV) : PlainOk Tryz.prog (glU v) 6 cLawO:=by
 refine plain_of (CxOk.mk' Elr_ok (by kernel_rfl) mixed (gl:=glU v) (GOk.cons okOpenR.lift Tryz.func20 (by kernel_rfl) (by kernel_rfl) (GOk.cons (PlainOk.sub' glU_E okError) Tryz.func19 (by kernel_rfl) (by kernel_rfl) (GOk.cons okValues.lift Tryz.func21 (by kernel_rfl) (by kernel_rfl) GOk.nil))) (GoOk.cons (OwnOk.sub glU_O (ownBOpen v)) Tryz.func15 (by kernel_rfl) (by kernel_rfl) (GoOk.cons ownBTxt.lift Tryz.func14 (by kernel_rfl) (by kernel_rfl) (GoOk.cons ownBRd.lift Tryz.func22 (by kernel_rfl) (by kernel_rfl) GoOk.nil))) noIt) Tryz.func6 (c:=Tryz.f6.body.getD .skip) (rvs:=[(.tmp 4,.bool)]) (by kernel_rfl) (by kernel_rfl) (by kernel_rfl) ?_
 intro ds k ⟨hp,hk⟩ hwf
 obtain ⟨n,s,rfl,hs⟩:=dest2 hp
 have hk : k [⟨.bool,true⟩]:=hk
 have h1 : inK .i64 n:=hwf ⟨I,n⟩ (List.mem_cons_self ..)
 exact ⟨anOpens n s,opens_vc v n s h1 hs k hk⟩
end Go.Proofs.YthdbbgajmgjfcaaGreatDoor

namespace Go.Vc
open Go.RowKit Go.ChangeShapes Go.WideShapes Go.Deep
theorem gl_of_shape {P : Program} {w : World} {g : Nat} {t : TypeId} {zero : Array Value} {k : IntKind} (h : w.ShapedOpen P) (hg : g < P.globals.size)
 (h0 : ((begin P (fun _ _=>0) default).world.heap[g]?).bind Obj.row? = some (zero,t)) (hz : zero.size=1) (hc : ∃ m,w.cell? ⟨g,0,none⟩=some (.int k m)) :
 ∃ m,GlOk [(g,⟨.raw,Value.int k m⟩)] w fun b=>b < w.heap.size:=by
 obtain ⟨m,hm⟩:=hc
 obtain ⟨cs,hh,hs,_⟩:=h.1 g zero t hg h0
 refine ⟨m,fun g2 d2 hm2 => ?_⟩
 obtain ⟨e1,e2⟩:=Prod.mk.inj (List.mem_singleton.1 hm2)
 subst e1; subst e2
 refine ⟨⟨World.block_lt_of_cell? w ⟨g2,0,none⟩ hm,cs,t,_,hh,by rw [hs,hz]; rfl⟩,[.int k m],fun j u hj => ?_,rfl,rfl⟩
 match j with
 | 0=>simp at hj; subst hj; exact hm
 | j+1=>simp at hj
theorem gl_of_raw {P : Program} {w : World} {n : String} {g : Nat} {v : Value} (hg : P.globalNamed n=some g) (h : w.var? P n=some #[v]) (h1 : v.oneCell'=true) : GlOk [(g,⟨.raw,v⟩)] w fun b=>b < w.heap.size:=by
 intro g2 d2 hm2
 obtain ⟨ea,eb⟩:=Prod.mk.inj (List.mem_singleton.1 hm2)
 subst ea; subst eb
 have hcell:=World.var?_cell hg h
 obtain ⟨e0,q0,hblk⟩:=var_block hg h
 refine ⟨⟨?_,#[v],e0,q0,hblk,rfl⟩,[v],fun j u hj => ?_,rfl,h1⟩
 ·refine World.block_lt_of_cell? w ⟨g2,0,none⟩ (u:=v) ?_
  rw [hcell 0]; rfl
 ·rw [hcell j,← hj]; simp
end Go.Vc
namespace Go.Proofs.YthdbbgajmgjfcaaGreatDoor
open Go.Vc Go.Proofs Go.RowKit
theorem rowEs (u : TypeId) (h : Tryz.prog.typeName? 3 u=some "*errors.errorString") : u=210 :=
 typeName_ptr_named (nm := "errors.errorString") (by rw [show "*" ++ "errors.errorString" = "*errors.errorString" by decide]; kernel_rfl) (by kernel_rfl) (by decide) u (by rw [show "*" ++ "errors.errorString" = "*errors.errorString" by decide]; exact h)
def Eg10 : Env:={ tys:=[(207,.ar 20 (.int .u64))],errT:=73,eqs:=[],els:=[] }
theorem Eg10_ok : EnvOk Tryz.prog Eg10:=EnvOk.of_list (by kernel_rfl) (by kernel_rfl) (by kernel_rfl)
theorem gv_of {W : World} (hsh : W.ShapedOpen Tryz.prog) {r : List (String×DataW Unit)} (h : laidMet Tryz.prog (("strconv.ErrRange",Rows.laid_strconv_ErrRange)::("strconv.ErrSyntax",Rows.laid_strconv_ErrSyntax)::r) W) : ∃ v,GlOk (glM v) W fun b=>b < W.heap.size:=by
 obtain ⟨m,h1⟩:=gl_of_shape (zero:=#[.int .i64 0]) (t:=3) (k := .i64) (g:=1) hsh (of_decide_eq_true (by kernel_rfl)) (by kernel_rfl) rfl (laidSplit.s1_3 W hsh)
 obtain ⟨a2,_,h2,_⟩:=laid_sentinel (g:=3) h (by kernel_rfl) (by kernel_rfl) (ti:=29) Tryz.underlying29 rowEs Tryz.underlying210 Tryz.underlying212 rfl rfl Tryz.underlying9 (by kernel_rfl) (by kernel_rfl)
 obtain ⟨a3,_,h3,_⟩:=laid_sentinel (g:=2) h.tail (by kernel_rfl) (by kernel_rfl) (ti:=29) Tryz.underlying29 rowEs Tryz.underlying210 Tryz.underlying212 rfl rfl Tryz.underlying9 (by kernel_rfl) (by kernel_rfl)
 refine ⟨⟨m,_,_,_,_⟩,GlOk.append h1 (GlOk.append (gl_of_raw (by kernel_rfl) h3 rfl) (gl_of_raw (by kernel_rfl) h2 rfl))⟩
open Go.Vc Go.Proofs Go.RowKit
theorem glO_laid {laid : List (String×DataW Unit)} {W : World} (hsh : W.ShapedOpen Tryz.prog) (hL : laidMetH Tryz.prog laid W) {a b d : String×DataW Unit} {f : List (String×DataW Unit)}
 (he : (laid.filter fun x=>x.2.handleName?.isNone)=a::b::("internal/strconv.uint64pow10",Rows.laid_internal_strconv_uint64pow10)::d::("strconv.ErrRange",Rows.laid_strconv_ErrRange)::("strconv.ErrSyntax",Rows.laid_strconv_ErrSyntax)::f)
 (hm : ("internal/strconv.uint64pow10",Rows.laid_internal_strconv_uint64pow10)∈laid) : ∃ v,GlOk (glO v) W fun b=>b < W.heap.size:=by
 have h1:=(laidMetH_iff.1 hL).1
 rw [he] at h1
 obtain ⟨v,hv⟩:=gv_of hsh h1.tail.tail.tail.tail
 exact ⟨v,GlOk.append (gl_of_laidM Eg10_ok (n := "internal/strconv.uint64pow10") (T:=207) (xs:=Lib.pow10Tab) hL hm (by kernel_rfl) (by kernel_rfl) (by kernel_rfl) (by kernel_rfl) (by decide)) hv⟩
open Go.Vc Go.Proofs Go.RowKit
end Go.Proofs.YthdbbgajmgjfcaaGreatDoor
namespace Go.Vc
open Go.RowKit
theorem laidMet_over {P : Program} {w0 : World} {laid : List (String×DataW Unit)} (args : Array Value) (hf : w0.layFits P laid []=true) (hi : w0.layIfaces P laid (w0.layVars P laid)=true) :
 laidMet P laid ((w0.layVars P laid).forCall (fun _ _=>0) ⟨#[],args,[]⟩).memory:=by
 have e1 : (laid.filter fun x=>(laid.map (·.1)).contains x.1)=laid:=List.filter_eq_self.2 fun x hx=>List.contains_iff_mem.2 (List.mem_map.2 ⟨x,hx,rfl⟩)
 have e2 : (laid.filter fun x => !(laid.map (·.1)).contains x.1)=[]:=List.filter_eq_nil_iff.2 fun x hx=>by rw [List.contains_iff_mem.2 (List.mem_map.2 ⟨x,hx,rfl⟩)]; simp
 have h : laidMet P laid (w0.layVars P laid):=laidMet_layVars (w0:=w0) (laid.map (·.1)) [] (by rw [e1]) (by rw [e1]; exact hf) (by rw [e1]; exact hi) (by rw [e2]; exact LaidIn.none)
 exact h.of_heap (by simp [World.memory,World.forCall,Input.heap])
end Go.Vc
