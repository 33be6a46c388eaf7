/- Own texts, merged and cut: BkV, BkW, BkN, KV4, BkO, BkP, KV5, BkQ, BkL, BkR, KV6, BkM, BkPl, BkNm, BkSp, BkLn, BkOp, KV7, BkOq, BkNb, KV8, BkNc, KV9, BkNd, BkLi, BkLj, BkOd, KV10, BkOe, BkYz, BkTd, KV11, BkTe, BkMt, BkMu, BkRa, BkLt, BkRb, KV12, BkLu, BkTu, BkTv, BkRc, BkRe, BkRf, KV24. -/
import Derived.Test.YthdbbgajmgjfcaaGreatDoorTBRowZ1
import Derived.Shelf.Small.Wraps
import Derived.Shelf.Small.Strs
import Derived.Shelf.Strings.LastIndex
import Derived.Test.YthdbbgajmgjfcaaGreatDoorTBRowVPA
import Derived.Lib.SplitLaws
import Derived.Lib.Split
import Derived.Lib.IndexBytes
import Derived.Lib.AtoiAllCases
import Derived.Shelf.Strings.Split
import Derived.Shelf.Strconv.AtoiAll
import Derived.RangeFuncNested
import Derived.RangeFuncBound
import Derived.RangeFuncCalls
import Derived.RangeFuncLeaves
import Derived.Shelf.Abstract
import Derived.Shelf.RegionOpen
import Derived.WalkKit
import Derived.OwnWalkIn
import Derived.TacticsInMore
import Derived.LoopNIn
import Derived.LoopIn
import Derived.StillTailTactics
namespace Go.Proofs.YthdbbgajmgjfcaaGreatDoor
open Go.Vc Go.Proofs Go.RowKit
theorem ownBNew0:OwnOk Tryz.prog [] 25 oBNew0:=by
 refine own_of (CxOk.mk' Ek_ok (by kernel_rfl) mixed (gl:=[]) GOk.nil (GoOk.cons ownNew Tryz.func26 (by kernel_rfl) (by kernel_rfl) GoOk.nil) noIt) Tryz.func25 (c:=Tryz.f25.body.getD .skip) (rvs:=[(.tmp 2,.un),(.tmp 3,tErr)]) (by kernel_rfl) (by kernel_rfl) (by kernel_rfl) ?_
 intro args ob k h hwa hwo
 unfold oBNew0 at h
 split at h
 ·rename_i n
  refine⟨[joinAll],?_⟩
  rw[vcBNew]
  refine⟨fun hb=>⟨fun _=>h.1 hb,fun h'=>by simp at h'⟩,fun hb=>⟨fun h'=>by simp at h',fun _=>h.2 hb⟩⟩
 ·exact h.elim
theorem ownBW:OwnOk Tryz.prog glT 16 oBW:=by
 refine own_of (CxOk.mk' Ek_ok (by kernel_rfl) mixed (gl:=glT) GOk.nil (GoOk.cons ownWrite.lift Tryz.func27 (by kernel_rfl) (by kernel_rfl) (GoOk.cons ownPut Tryz.func35 (by kernel_rfl) (by kernel_rfl) GoOk.nil)) noIt) Tryz.func16 (c:=Tryz.f16.body.getD .skip) (rvs:=[(.tmp 8,tErr)]) (by kernel_rfl) (by kernel_rfl) (by kernel_rfl) ?_
 intro args ob k h hwa hwo
 unfold oBW at h
 split at h
 ·rename_i p q v m txt nd wr
  obtain⟨⟨hN,hl,hm⟩,hk⟩:=h
  refine⟨[joinAll],?_⟩
  show vcO _ _ _ _ _ [.ps 0,.d I p,.d I q,.d I v] (obBk (nd,wr,()) txt m) k
  rw[vcBW]
  have hwT:writeE (nd,wr,()) p q v≠0→writeT (nd,wr,()) p q v=(nd,wr,()):=fun h=>by unfold writeT;rw[if_neg h]
  generalize writeE (nd,wr,()) p q v=e at *
  generalize writeT (nd,wr,()) p q v=T at *
  simp only[decide_eq_true_eq,decide_eq_false_iff_not,Bool.not_eq_true',Bool.not_eq_false']
  refine⟨fun h=>⟨by decide,?_⟩,fun h=>⟨hN,fun he => ?_,fun he=>⟨⟨hl,⟨hm.1,Int.le_trans hm.2 (by decide)⟩,by decide,by simp⟩,?_⟩⟩⟩
  ·have e1:bkE m e=4:=by unfold bkE;rw[if_pos h]
   have e2:∀ t' line,bkT (nd,wr,()) txt m e t' line=((nd,wr,()),txt,m):=fun t' line=>by unfold bkT;rw[if_neg (by rw[e1];decide)]
   rw[e1] at hk;simp only[e2] at hk;exact hk
  ·have e1:bkE m e=e:=by unfold bkE;rw[if_neg h]
   have e2:∀ t' line,bkT (nd,wr,()) txt m e t' line=((nd,wr,()),txt,m):=fun t' line=>by unfold bkT;rw[if_neg (by rw[e1];exact he)]
   rw[e1] at hk;simp only[e2] at hk;rw[hwT he];exact hk
  ·have e1:bkE m e=e:=by unfold bkE;rw[if_neg h]
   have e2:∀ t' line,bkT (nd,wr,()) txt m e t' line=(t',List.append txt line,m+1):=fun t' line=>by unfold bkT;rw[if_pos (by rw[e1];exact he)]
   rw[e1] at hk;simp only[e2] at hk;rw[he] at hk;exact hk
 ·exact h.elim
theorem ownBS:OwnOk Tryz.prog glT 17 oBS:=by
 refine own_of (CxOk.mk' Ek_ok (by kernel_rfl) mixed (gl:=glT) GOk.nil (GoOk.cons ownSync.lift Tryz.func28 (by kernel_rfl) (by kernel_rfl) (GoOk.cons ownPut Tryz.func35 (by kernel_rfl) (by kernel_rfl) GoOk.nil)) noIt) Tryz.func17 (c:=Tryz.f17.body.getD .skip) (rvs:=[(.tmp 6,tErr)]) (by kernel_rfl) (by kernel_rfl) (by kernel_rfl) ?_
 intro args ob k h hwa hwo
 unfold oBS at h
 split at h
 ·rename_i p q m txt nd wr
  obtain⟨⟨hN,hl,hm⟩,hk⟩:=h
  refine⟨[joinAll],?_⟩
  show vcO _ _ _ _ _ [.ps 0,.d I p,.d I q] (obBk (nd,wr,()) txt m) k
  rw[vcBS]
  have hwT:syncE (nd,wr,()) p q≠0→syncT (nd,wr,()) p q=(nd,wr,()):=fun h=>by unfold syncT;rw[if_neg h]
  generalize syncE (nd,wr,()) p q=e at *
  generalize syncT (nd,wr,()) p q=T at *
  simp only[decide_eq_true_eq,decide_eq_false_iff_not,Bool.not_eq_true',Bool.not_eq_false']
  refine⟨fun h=>⟨by decide,?_⟩,fun h=>⟨hN,fun he => ?_,fun he=>⟨⟨hl,⟨hm.1,Int.le_trans hm.2 (by decide)⟩,by decide,by simp⟩,?_⟩⟩⟩
  ·have e1:bkE m e=4:=by unfold bkE;rw[if_pos h]
   have e2:∀ t' line,bkT (nd,wr,()) txt m e t' line=((nd,wr,()),txt,m):=fun t' line=>by unfold bkT;rw[if_neg (by rw[e1];decide)]
   rw[e1] at hk;simp only[e2] at hk;exact hk
  ·have e1:bkE m e=e:=by unfold bkE;rw[if_neg h]
   have e2:∀ t' line,bkT (nd,wr,()) txt m e t' line=((nd,wr,()),txt,m):=fun t' line=>by unfold bkT;rw[if_neg (by rw[e1];exact he)]
   rw[e1] at hk;simp only[e2] at hk;rw[hwT he];exact hk
  ·have e1:bkE m e=e:=by unfold bkE;rw[if_neg h]
   have e2:∀ t' line,bkT (nd,wr,()) txt m e t' line=(t',List.append txt line,m+1):=fun t' line=>by unfold bkT;rw[if_pos (by rw[e1];exact he)]
   rw[e1] at hk;simp only[e2] at hk;rw[he] at hk;exact hk
 ·exact h.elim
theorem ownBTxt:OwnOk Tryz.prog [] 14 oBTxt:=by
 refine own_of (CxOk.mk' Ek_ok (by kernel_rfl) mixed (gl:=[]) GOk.nil (GoOk.cons ownStr Tryz.func31 (by kernel_rfl) (by kernel_rfl) GoOk.nil) noIt) Tryz.func14 (c:=Tryz.f14.body.getD .skip) (rvs:=[(.tmp 2,.str)]) (by kernel_rfl) (by kernel_rfl) (by kernel_rfl) ?_
 intro args ob k h hwa hwo
 unfold oBTxt at h
 split at h
 ·rename_i m txt nd wr
  refine⟨[joinAll],?_⟩
  show vcO _ _ _ _ _ [.ps 0] (obBk (nd,wr,()) txt m) k
  rw[vcBTxt]
  exact h
 ·exact h.elim
theorem ownBRd:OwnOk Tryz.prog [] 22 oBRd:=by
 refine own_of (CxOk.mk' Ek_ok (by kernel_rfl) mixed (gl:=[]) GOk.nil (GoOk.cons ownRead Tryz.func29 (by kernel_rfl) (by kernel_rfl) GoOk.nil) noIt) Tryz.func22 (c:=Tryz.f22.body.getD .skip) (rvs:=[(.tmp 6,.un)]) (by kernel_rfl) (by kernel_rfl) (by kernel_rfl) ?_
 intro args ob k h hwa hwo
 unfold oBRd at h
 split at h
 ·rename_i p q m txt nd wr
  refine⟨[joinAll],?_⟩
  show vcO _ _ _ _ _ [.ps 0,.d I p,.d I q] (obBk (nd,wr,()) txt m) k
  rw[vcBRd]
  exact h
 ·exact h.elim
theorem ownBNew:OwnOk Tryz.prog [] 25 oBNew:=by
 intro args ob k hc w M R0 A vals hB hrd IV
 unfold oBNew at hc
 split at hc
 ·rename_i n
  obtain⟨h1,h2⟩:=hc
  cases hb:inB n 1 5 with
  | false=>exact ownBNew0 [.d I n] [] k ⟨fun _=>h1 hb,fun h=>by rw[hb] at h;cases h⟩ w M R0 A vals hB hrd IV
  | true =>
   refine (ownBNew0 [.d I n] [] (fun s ob'=>s = .tp [.ps 0,.d tErr (0:Int)]∧ob'=obNew0 (newF (n:Int).toNat)) ⟨fun h=>absurd (hb.symm.trans h) (by decide),fun _=>⟨rfl,rfl⟩⟩ w M R0 A vals hB hrd IV).mono ?_
   rintro x w' ⟨v,s,ob1,A',rfl,⟨rfl,rfl⟩,I2,hkeep⟩
   have hnum:A'.n=4:=I2.num
   have I3:=I2.add none (fun _ => .slice none 0 0) (fun b=>(Value.slice none 0 0).ownBlock=some b) (.buf 5 []) (Same.refl w') (fun _ _ _=>rfl) (fun b hb=>by simp[Value.ownBlock] at hb) (fun hro=>by
    refine⟨?_,fun g hg => ?_⟩
    ·rw[Asg.push_η];exact⟨rfl,.inl ⟨rfl,rfl⟩⟩
    ·rw[Asg.push_η] at hg;simp[Value.ownBlock] at hg)
   have h4:(A'.pushT (fun _=>Value.slice none 0 0) (fun b=>(Value.slice none 0 0).ownBlock=some b)).η 4 = .slice none 0 0:=by rw[← hnum,Asg.push_η]
   have h4n:4<(A'.pushT (fun _=>Value.slice none 0 0) (fun b=>(Value.slice none 0 0).ownBlock=some b)).n:=by simp[Asg.pushT,hnum]
   have I4:=I3.mod (i:=0) (.st 66 [.ps 1,.sf 0 1,.os 4,.d (.int .i64) (0:Int)]) rfl rfl (Same.refl w') (fun _ _ _=>rfl) (fun hro=>by
    obtain⟨b,cs,e1,hf,hh,hp⟩:=I3.ob 0 _ rfl
    obtain⟨p1,p2⟩:=(pcs1 (by decide)).1 hp
    refine⟨b,cs,e1,hf,hh,(pcs1 (by decide)).2 ⟨p1,fun k s v hs hv => ?_⟩⟩
    match k with
    | 0 =>
     obtain⟨q1,q2⟩:=p2 0 _ v rfl hv
     injection hs with hs;subst hs
     exact⟨q1.keep (fun g hg=>⟨(hro g hg).1,Kb.of_eq (hro g hg).2⟩) (Asg.le.refl _),q2⟩
    | 1 =>
     obtain⟨q1,q2⟩:=p2 1 _ v rfl hv
     injection hs with hs;subst hs
     have q1':[v]=[Value.pointer none]:=q1
     injection q1' with q1'
     refine⟨⟨by omega,.inl q1'⟩,q2⟩
    | 2 =>
     obtain⟨q1,q2⟩:=p2 2 _ v rfl hv
     injection hs with hs;subst hs
     have q1':v = .slice none 0 0:=q1
     exact⟨⟨h4n,by rw[q1'];exact h4.symm⟩,q2⟩
    | 3 =>
     obtain⟨q1,q2⟩:=p2 3 _ v rfl hv
     injection hs with hs;subst hs
     exact⟨q1.keep (fun g hg=>⟨(hro g hg).1,Kb.of_eq (hro g hg).2⟩) (Asg.le.refl _),q2⟩
    | k+4=>simp at hs)
   exact⟨_,_,_,_,rfl,h2 hb,I4.out (M':=M) rfl (σ:=[0,1,4,2,3]) (by decide) (I4.tm 0 _ rfl),fun i hi=>absurd hi (by show ¬ i<0;omega)⟩
 ·exact hc.elim
open Go.Vc Go.Proofs Go.RowKit
open Go.Vc Go.Proofs Go.RowKit
def isDg(b:UInt8):Bool:=decide (48≤b.toNat)&&decide (b.toNat≤57)
def numW(s:List UInt8):Nat→Int
 | 0=>0
 | i+1=>wr64 (wr64 (wr64 (numW s i*10)+((s.getD i 0).toNat:Int)) - 48)
def numOk(s:List UInt8):Bool:=decide (1≤s.length)&&decide (s.length≤19)&&s.all isDg
def numN(s:List UInt8):Int:=if numOk s=true then numW s s.length else 0
def numB(s:List UInt8):Bool:=numOk s&&decide (0≤numN s)&&(Lib.decDigits (numN s).toNat==s)
open Go.Vc
set_option linter.unusedVariables false
open Go.Vc Go.Proofs Go.RowKit
open Go.Vc Go.Proofs Go.RowKit
def cutAt(s:List UInt8)(c:Int)(i:Nat):Bool:=decide (i=s.length)||decide (((s.getD i 0).toNat:Int)=c)
def cutFm(s:List UInt8)(c:Int):Nat→Nat
 | 0=>0
 | i+1=>if cutAt s c i=true then i+1 else cutFm s c i
def cutG(s:List UInt8)(c:Int):Nat→List (List UInt8)
 | 0=>[]
 | i+1=>if cutAt s c i=true then cutG s c i++[(s.take i).drop (cutFm s c i)] else cutG s c i
def cutL(s:List UInt8)(c:Int):List (List UInt8):=cutG s c (s.length+1)
open Go.Vc
set_option linter.unusedVariables false
open Go.Vc Go.Proofs Go.RowKit
theorem cutFm_le(s:List UInt8)(c:Int):∀ i,cutFm s c i≤i
 | 0=>Nat.le_refl _
 | i+1=>by
  have ih:=cutFm_le s c i
  unfold cutFm
  split<;>omega
theorem cutG_len(s:List UInt8)(c:Int):∀ i,(cutG s c i).length≤i
 | 0=>Nat.le_refl _
 | i+1=>by
  have ih:=cutG_len s c i
  unfold cutG
  split
  ·rw[List.length_append,List.length_singleton];omega
  ·omega
open Go.Shelf Go.Proofs Go.RowKit
def laidCutS_ren:Go.Shelf.Ren:=⟨fun | 104=>33 | 211=>59 | 207=>81 | n=>n,fun | 9=>9 | 4=>4 | 24=>70 | 3=>3 | n=>n,fun | n=>n⟩
theorem laidCutS:Go.Proofs.Lays.n104 Tryz.prog laidCutS_ren where
 mixed:=by kernel_rfl
 f104:=Tryz.func33.trans (congrArg some (by kernel_rfl))
 f207:=Tryz.func81.trans (congrArg some (by kernel_rfl))
 f211:=Tryz.func59.trans (congrArg some (by kernel_rfl))
 t3:=Tryz.underlying3
 a3:=Tryz.isAgg3
 z3:=Tryz.sizeOf3
 v3:=Tryz.zeroValue3
 t4:=Tryz.underlying4
 a4:=Tryz.isAgg4
 z4:=Tryz.sizeOf4
 v4:=Tryz.zeroValue4
 t9:=Tryz.underlying9
 a9:=Tryz.isAgg9
 z9:=Tryz.sizeOf9
 v9:=Tryz.zeroValue9
 t24:=Tryz.underlying70
 a24:=Tryz.isAgg70
 z24:=Tryz.sizeOf70
 v24:=Tryz.zeroValue70
def laidTrimS_ren:Go.Shelf.Ren:=⟨fun | 102=>45 | 209=>73 | 207=>81 | n=>n,fun | 9=>9 | 4=>4 | 3=>3 | n=>n,fun | n=>n⟩
theorem laidTrimS:Go.Proofs.Lays.n102 Tryz.prog laidTrimS_ren where
 mixed:=by kernel_rfl
 f102:=Tryz.func45.trans (congrArg some (by kernel_rfl))
 f207:=Tryz.func81.trans (congrArg some (by kernel_rfl))
 f209:=Tryz.func73.trans (congrArg some (by kernel_rfl))
 t3:=Tryz.underlying3
 a3:=Tryz.isAgg3
 z3:=Tryz.sizeOf3
 v3:=Tryz.zeroValue3
 t4:=Tryz.underlying4
 a4:=Tryz.isAgg4
 z4:=Tryz.sizeOf4
 v4:=Tryz.zeroValue4
 t9:=Tryz.underlying9
 a9:=Tryz.isAgg9
 z9:=Tryz.sizeOf9
 v9:=Tryz.zeroValue9
def laidLastI_ren:Go.Shelf.Ren:=⟨fun | 149=>60 | 222=>82 | n=>n,fun | 9=>9 | 5=>5 | 3=>3 | 4=>4 | n=>n,fun | n=>n⟩
theorem laidLastI:Go.Proofs.Lays.n149 Tryz.prog laidLastI_ren where
 mixed:=by kernel_rfl
 f149:=Tryz.func60.trans (congrArg some (by kernel_rfl))
 f222:=Tryz.func82.trans (congrArg some (by kernel_rfl))
 t3:=Tryz.underlying3
 a3:=Tryz.isAgg3
 z3:=Tryz.sizeOf3
 v3:=Tryz.zeroValue3
 t4:=Tryz.underlying4
 a4:=Tryz.isAgg4
 z4:=Tryz.sizeOf4
 v4:=Tryz.zeroValue4
 t5:=Tryz.underlying5
 a5:=Tryz.isAgg5
 z5:=Tryz.sizeOf5
 v5:=Tryz.zeroValue5
 t9:=Tryz.underlying9
 a9:=Tryz.isAgg9
 z9:=Tryz.sizeOf9
 v9:=Tryz.zeroValue9
def laidIdxB_ren:Go.Shelf.Ren:=⟨fun | 137=>58 | 217=>80 | 266=>107 | n=>n,fun | 9=>9 | 5=>5 | 3=>3 | n=>n,fun | n=>n⟩
theorem laidIdxB:Go.Proofs.Lays.n137 Tryz.prog laidIdxB_ren where
 mixed:=by kernel_rfl
 f137:=Tryz.func58.trans (congrArg some (by kernel_rfl))
 f217:=Tryz.func80.trans (congrArg some (by kernel_rfl))
 f266:=Tryz.func107.trans (congrArg some (by kernel_rfl))
 t3:=Tryz.underlying3
 a3:=Tryz.isAgg3
 z3:=Tryz.sizeOf3
 v3:=Tryz.zeroValue3
 t5:=Tryz.underlying5
 a5:=Tryz.isAgg5
 z5:=Tryz.sizeOf5
 v5:=Tryz.zeroValue5
 t9:=Tryz.underlying9
 a9:=Tryz.isAgg9
 z9:=Tryz.sizeOf9
 v9:=Tryz.zeroValue9
open Go.Vc Go.Proofs Go.RowKit
def cCutS:Ctr:=cdet [.str,.str] (fun _ _=>True) (fun s p=>[⟨.str,Lib.trimSuffix s p⟩,⟨.bool,Lib.hasSuffix s p⟩])
def cTrimS:Ctr:=cdet [.str,.str] (fun _ _=>True) (fun s p=>[⟨.str,Lib.trimSuffix s p⟩])
structure LastOk(s:List UInt8):Prop where
 le:s.length≤1000000000
def lastB(s:List UInt8)(c:Int):Int:=Lib.lastIndexByte ⟨s.toArray⟩ c
def cLastI:Ctr:=cdet [.str,.int .u8] (fun s _=>LastOk s) (fun s (c:Int)=>[⟨I,lastB s c⟩])
theorem str1{w:World}{ro:Nat→Prop}{x:List UInt8}{v:Value}(h:(Ty.str).okV w ro x v):v = .string ⟨x.toArray⟩∧x.length≤maxLen:=by
 have h':[v]=[Value.string ⟨x.toArray⟩]∧x.length≤maxLen:=h
 exact⟨by simpa using h'.1,h'.2⟩
theorem bsz(x:List UInt8):(⟨x.toArray⟩:ByteArray).size=x.length:=by simp[ByteArray.size]
theorem trim_len(s p:List UInt8):(Lib.trimSuffix s p).length≤s.length:=by
 unfold Lib.trimSuffix
 split
 ·rw[List.length_take];omega
 ·exact Nat.le_refl _
theorem okTrimS[Dn]:PlainOk Tryz.prog [] 45 cTrimS:=by
 intro ds k ⟨hp,hk⟩ w ro vals hlt hgl hD
 obtain⟨s,p,rfl,-⟩:=dest2 hp
 have hk:k [⟨.str,Lib.trimSuffix s p⟩]:=hk
 have hl:vals.length=2:=hD.1
 match vals,hl with
 | [v1,v2],_ =>
  obtain⟨e1,h1⟩:=str1 (w:=w) (ro:=ro) (x:=s) (v:=v1) (hD.2 0 ⟨.str,s⟩ v1 rfl rfl)
  obtain⟨e2,h2⟩:=str1 (w:=w) (ro:=ro) (x:=p) (v:=v2) (hD.2 1 ⟨.str,p⟩ v2 rfl rfl)
  subst e1;subst e2
  refine (Any.strings_TrimSuffix laidTrimS ⟨s.toArray⟩ ⟨p.toArray⟩ w (by rw[bsz];exact h1)).mono ?_
  rintro e w' ⟨rfl,rfl⟩
  exact⟨Fr.refl _ _,_,_,rfl,hk,rfl,Nat.le_trans (trim_len s p) h1⟩
theorem okCutS[Dn]:PlainOk Tryz.prog [] 33 cCutS:=by
 intro ds k ⟨hp,hk⟩ w ro vals hlt hgl hD
 obtain⟨s,p,rfl,-⟩:=dest2 hp
 have hk:k [⟨.str,Lib.trimSuffix s p⟩,⟨.bool,Lib.hasSuffix s p⟩]:=hk
 have hl:vals.length=2:=hD.1
 match vals,hl with
 | [v1,v2],_ =>
  obtain⟨e1,h1⟩:=str1 (w:=w) (ro:=ro) (x:=s) (v:=v1) (hD.2 0 ⟨.str,s⟩ v1 rfl rfl)
  obtain⟨e2,h2⟩:=str1 (w:=w) (ro:=ro) (x:=p) (v:=v2) (hD.2 1 ⟨.str,p⟩ v2 rfl rfl)
  subst e1;subst e2
  refine (Any.strings_CutSuffix laidCutS ⟨s.toArray⟩ ⟨p.toArray⟩ w (by rw[bsz];exact h1)).mono ?_
  rintro e w' ⟨rfl,rfl⟩
  refine⟨Fr.refl _ _,_,_,rfl,hk,_,rfl,rfl,fun j d v hd hv => ?_⟩
  match j with
  | 0=>simp at hd hv;subst hd;subst hv;exact⟨rfl,Nat.le_trans (trim_len s p) h1⟩
  | 1=>simp at hd hv;subst hd;subst hv;exact rfl
  | j+2=>simp at hd
theorem lastIdx_k(s:ByteArray)(c:Int):∀ k:Nat,-1≤Lib.lastIdx s c k∧Lib.lastIdx s c k<(k:Int)
 | 0=>⟨Int.le_refl _,by show (-1:Int)<0;decide⟩
 | k+1=>by
  have ih:=lastIdx_k s c k
  unfold Lib.lastIdx
  split<;>omega
theorem okLastI[Dn]:PlainOk Tryz.prog [] 60 cLastI:=by
 intro ds k ⟨hp,hk⟩ w ro vals hlt hgl hD
 obtain⟨s,c,rfl,hs⟩:=dest2 hp
 have hk:k [⟨I,lastB s c⟩]:=hk
 have hl:vals.length=2:=hD.1
 match vals,hl with
 | [v1,v2],_ =>
  obtain⟨e1,h1⟩:=str1 (w:=w) (ro:=ro) (x:=s) (v:=v1) (hD.2 0 ⟨.str,s⟩ v1 rfl rfl)
  have hv:[v2]=[Value.int .u8 c]∧inK .u8 c:=hD.2 1 ⟨.int .u8,c⟩ v2 rfl rfl
  obtain⟨e2,_⟩:=hv
  injection e2 with e2 _
  subst e1;subst e2
  have hle:=hs.le
  refine (Any.strings_LastIndexByte laidLastI ⟨s.toArray⟩ c (by rw[bsz];exact Nat.lt_of_le_of_lt hle (by decide)) w).mono ?_
  rintro e w' ⟨rfl,rfl⟩
  refine⟨Fr.refl _ _,_,_,rfl,hk,rfl,?_⟩
  have:=lastIdx_k ⟨s.toArray⟩ c s.length
  rw[inK_i64]
  show -9223372036854775808≤lastB s c∧lastB s c≤9223372036854775807
  unfold lastB Lib.lastIndexByte
  rw[bsz]
  omega
open Go.Vc Go.Proofs Go.RowKit
def tailL(s:List UInt8):List UInt8:=s.drop (lastB s 32+1).toNat
def headL(s:List UInt8):List UInt8:=s.take (lastB s 32).toNat
def wordsL(s:List UInt8):List (List UInt8):=cutL (headL s) 32
def numsL(s:List UInt8):List Int:=((wordsL s).drop 1).map numN
def fitL(s:List UInt8):Bool:=((wordsL s).getD 0 []==[119]&&decide ((numsL s).length=3))||((wordsL s).getD 0 []==[115]&&decide ((numsL s).length=2))
def badL(s:List UInt8):Int :=
 if lastB s 32<0 then 2 else if numB (tailL s)=false then 2 else if numN (tailL s)≠sumF (headL s) then 6 else if ((wordsL s).drop 1).all numB=false then 2 else if fitL s=true then 0 else 2
def Elr:Env:={ Ek with tys:=(78,.sl .str)::Ek.tys,els:=(78,9)::Ek.els }
theorem Elr_ok:EnvOk Tryz.prog Elr:=EnvOk.of_list (by kernel_rfl) (by kernel_rfl) (by kernel_rfl)
open Go.Vc
set_option linter.unusedVariables false
open Go.Vc Go.Proofs Go.RowKit
theorem lastIdx_succ(s:List UInt8)(c:Int)(j:Nat):Lib.lastIdx ⟨s.toArray⟩ c (j+1)=if ((s.getD j 0).toNat:Int)=c then (j:Int) else Lib.lastIdx ⟨s.toArray⟩ c j:=by
 have e:(s.toArray)[j]! = s.getD j 0:=by
  rw[List.getD_eq_getElem?_getD]
  simp[getElem!_def]
  cases s[j]?<;>rfl
 show (if (((s.toArray)[j]!).toNat:Int)=c then (j:Int) else Lib.lastIdx ⟨s.toArray⟩ c j)=_
 rw[e]
theorem lastB_bound(s:List UInt8)(c:Int) : -1≤lastB s c∧lastB s c<(s.length:Int):=by
 have:=lastIdx_k ⟨s.toArray⟩ c s.length
 unfold lastB Lib.lastIndexByte
 rw[bsz];exact this
theorem cutG_ne(s:List UInt8)(c:Int):1≤(cutL s c).length:=by
 unfold cutL
 show 1≤(if cutAt s c s.length=true then cutG s c s.length++[(s.take s.length).drop (cutFm s c s.length)] else cutG s c s.length).length
 have:cutAt s c s.length=true:=by unfold cutAt;rw[decide_eq_true rfl];rfl
 rw[if_pos this,List.length_append,List.length_singleton]
 omega
open Go.Vc Go.Proofs Go.RowKit
def hdCons(b:UInt8):List (List UInt8)→List (List UInt8)
 | []=>[[b]]
 | p::q=>(b::p)::q
def splL(c:UInt8):List UInt8→List (List UInt8)
 | []=>[[]]
 | b::r=>if b=c then[]::splL c r else hdCons b (splL c r)
theorem splL_ne(c:UInt8):∀ s,∃ p q,splL c s=p::q
 | []=>⟨[],[],rfl⟩
 | b::r=>by
  obtain⟨p,q,h⟩:=splL_ne c r
  unfold splL
  split
  ·exact⟨_,_,rfl⟩
  ·rw[h];exact⟨_,_,rfl⟩
theorem splL_len(c:UInt8):∀ s,(splL c s).length=s.count c+1
 | []=>rfl
 | b::r=>by
  have ih:=splL_len c r
  obtain⟨p,q,h⟩:=splL_ne c r
  unfold splL
  split
  ·rename_i hb;rw[List.length_cons,ih,hb,List.count_cons_self]
  ·rename_i hb
   rw[h] at ih ⊢
   rw[List.count_cons_of_ne hb]
   exact ih
theorem splL_le(c:UInt8):∀ s,∀ x∈splL c s,x.length≤s.length
 | [],x,h=>by
  have:x=[]:=List.mem_singleton.1 h
  subst this;exact Nat.le_refl _
 | b::r,x,h=>by
  have ih:=splL_le c r
  obtain⟨p,q,e⟩:=splL_ne c r
  unfold splL at h
  split at h
  ·rcases List.mem_cons.1 h with h | h
   ·subst h;exact Nat.zero_le _
   ·exact Nat.le_succ_of_le (ih x h)
  ·rw[e] at h ih
   rcases List.mem_cons.1 h with h | h
   ·subst h;exact Nat.succ_le_succ (ih p (List.mem_cons_self ..))
   ·exact Nat.le_succ_of_le (ih x (List.mem_cons_of_mem _ h))
theorem splL_no(c:UInt8):∀ s,∀ x∈splL c s,c∉x
 | [],x,h=>by
  have:x=[]:=List.mem_singleton.1 h
  subst this;simp
 | b::r,x,h=>by
  have ih:=splL_no c r
  obtain⟨p,q,e⟩:=splL_ne c r
  unfold splL at h
  split at h
  ·rcases List.mem_cons.1 h with h | h
   ·subst h;simp
   ·exact ih x h
  ·rename_i hb
   rw[e] at h ih
   rcases List.mem_cons.1 h with h | h
   ·subst h
    intro hc
    rcases List.mem_cons.1 hc with hc | hc
    ·exact hb hc.symm
    ·exact ih p (List.mem_cons_self ..) hc
   ·exact ih x (List.mem_cons_of_mem _ h)
theorem splL_snoc(c b:UInt8):∀ l,(b=c→splL c (l++[b])=splL c l++[[]])∧(b≠c→∀ x p,splL c l=x++[p]→splL c (l++[b])=x++[p++[b]])
 | []=>by
  refine⟨fun h=>by simp[splL,h],fun h x p e => ?_⟩
  have e:[[]]=x++[p]:=e
  cases x with
  | nil=>injection e with e;subst e;simp[splL,h,hdCons]
  | cons y x=>injection e with _ e;cases x<;>cases e
 | a::l=>by
  obtain⟨ih1,ih2⟩:=splL_snoc c b l
  obtain⟨p0,q0,h0⟩:=splL_ne c l
  refine⟨fun h => ?_,fun h x p e => ?_⟩
  ·rw[List.cons_append]
   unfold splL
   rw[ih1 h]
   split
   ·rfl
   ·rw[h0];rfl
  ·rw[List.cons_append]
   unfold splL at e ⊢
   split
   ·rename_i ha
    rw[if_pos ha] at e
    cases x with
    | nil=>injection e with _ e;rw[h0] at e;cases e
    | cons y x =>
     injection e with e1 e2
     rw[ih2 h x p e2,← e1];rfl
   ·rename_i ha
    rw[if_neg ha] at e
    obtain⟨x',p',hx⟩:∃ x' p',splL c l=x'++[p']:=⟨(splL c l).dropLast,(splL c l).getLast (by rw[h0];simp),(List.dropLast_concat_getLast _).symm⟩
    ·rw[ih2 h x' p' hx]
     rw[hx] at e
     cases x' with
     | nil =>
      have e:[a::p']=x++[p]:=e
      cases x with
      | nil=>injection e with e;subst e;rfl
      | cons y x=>injection e with _ e;cases x<;>cases e
     | cons y x' =>
      have e:(a::y)::(x'++[p'])=x++[p]:=e
      cases x with
      | nil=>injection e with _ e;cases x'<;>cases e
      | cons z x =>
       injection e with e1 e2
       obtain⟨e3,e4⟩:=List.append_inj' e2 rfl
       injection e4 with e4
       subst e1;subst e3;subst e4;rfl
theorem cut_spl(s:List UInt8)(c:UInt8):cutL s (c.toNat:Int)=splL c s:=by
 have h:∀ i,i≤s.length→cutG s (c.toNat:Int) i++[(s.take i).drop (cutFm s (c.toNat:Int) i)]=splL c (s.take i):=by
  intro i
  induction i with
  | zero=>intro _;rfl
  | succ i ih =>
   intro hi
   have ih:=ih (by omega)
   have hfm:=cutFm_le s (c.toNat:Int) i
   have et:s.take (i+1)=s.take i++[s[i]]:=List.take_succ_eq_append_getElem (by omega)
   have eg:s.getD i 0=s[i]:=by rw[List.getD_eq_getElem?_getD,List.getElem?_eq_getElem (by omega)];rfl
   have hlen:(s.take i).length=i:=by rw[List.length_take];omega
   obtain⟨h1,h2⟩:=splL_snoc c s[i] (s.take i)
   by_cases hb:s[i]=c
   ·have hat:cutAt s (c.toNat:Int) i=true:=by unfold cutAt;rw[eg,hb,decide_eq_true rfl,Bool.or_true]
    rw[et,h1 hb,← ih]
    simp only[cutG,cutFm,hat,if_true]
    have ed:List.drop (i+1) (s.take i++[s[i]])=[]:=List.drop_of_length_le (by rw[List.length_append,hlen];simp)
    rw[ed]
   ·have hat:¬ cutAt s (c.toNat:Int) i=true:=by
     unfold cutAt
     rw[eg,decide_eq_false (by omega:¬ i=s.length),Bool.false_or,decide_eq_true_eq]
     intro h;apply hb;apply UInt8.toNat_inj.1;omega
    rw[et,h2 hb _ _ ih.symm]
    simp only[cutG,cutFm,hat]
    rw[if_neg (by decide),if_neg (by decide),List.drop_append_of_le_length (by omega)]
 have:=h s.length (Nat.le_refl _)
 rw[List.take_length] at this
 rw[← this]
 unfold cutL
 show (if cutAt s (c.toNat:Int) s.length=true then cutG s _ s.length++[(s.take s.length).drop (cutFm s _ s.length)] else cutG s _ s.length)=_
 have hat:cutAt s (c.toNat:Int) s.length=true:=by unfold cutAt;rw[decide_eq_true rfl];rfl
 rw[if_pos hat,List.take_length]
theorem idxB(c:UInt8):∀ s:List UInt8,(Lib.indexByte s c = -1∧splL c s=[s]∧s.count c=0)∨∃ i:Nat,Lib.indexByte s c=(i:Int)∧i<s.length∧splL c s=s.take i::splL c (s.drop (i+1))∧s.getD i 0=c∧s.count c=(s.drop (i+1)).count c+1
 | [] => .inl ⟨rfl,rfl,rfl⟩
 | b::r=>by
  by_cases hb:b=c
  ·subst hb
   refine .inr ⟨0,?_,by simp,?_,rfl,?_⟩
   ·simp[Lib.indexByte]
   ·simp[splL]
   ·simp
  ·have hbb:(b==c)=false:=by simpa using hb
   have hcn:(b::r).count c=r.count c:=List.count_cons_of_ne hb
   rcases idxB c r with ⟨h1,h2,h3⟩ | ⟨i,h1,h2,h3,h4,h5⟩
   ·left
    refine⟨by simp[Lib.indexByte,hbb,h1],?_,by rw[hcn,h3]⟩
    rw[show splL c (b::r)=hdCons b (splL c r) from if_neg hb,h2];rfl
   ·right
    refine⟨i+1,?_,by simp;omega,?_,by simpa using h4,by rw[hcn,h5];rfl⟩
    ·have hne:(Lib.indexByte r c == -1)=false:=by rw[h1,beq_eq_false_iff_ne];omega
     show (if (b==c)=true then (0:Int) else if (Lib.indexByte r c == -1)=true then -1 else Lib.indexByte r c+1)=_
     rw[hbb,hne,h1];rfl
    ·rw[show splL c (b::r)=hdCons b (splL c r) from if_neg hb,h3];rfl
theorem splitK_one(c:UInt8):∀ (n:Nat) (s:List UInt8),s.length≤n→Lib.splitK [c] 0 (s.count c) s=splL c s:=by
 intro n
 induction n with
 | zero =>
  intro s h
  have:s=[]:=List.eq_nil_of_length_eq_zero (by omega)
  subst this;rfl
 | succ n ih =>
  intro s h
  rcases idxB c s with ⟨h1,h2,h3⟩ | ⟨i,h1,h2,h3,_,h5⟩
  ·rw[h3,h2];rfl
  ·rw[h5,h3]
   have hm:¬ (Lib.index s [c] == -1)=true:=fun e=>by have:=beq_iff_eq.1 e;rw[Lib.index_one,h1] at this;omega
   show (if (Lib.index s [c] == -1)=true then _ else _)=_
   rw[if_neg hm,Lib.index_one,h1,Int.toNat_natCast]
   congr 1
   exact ih (s.drop (i+1)) (by rw[List.length_drop];omega)
theorem split_spl(c:UInt8)(s:ByteArray):(Lib.splitB ⟨#[c]⟩ 0 (Lib.countB s ⟨#[c]⟩) s).map (·.data.toList)=splL c s.data.toList:=by
 rw[Lib.splitB_data]
 show Lib.splitK [c] 0 (Lib.count s.data.toList [c]) s.data.toList=_
 rw[Lib.count_one]
 exact splitK_one c _ _ (Nat.le_refl _)
def linesK:Nat→List UInt8→List (List UInt8×List UInt8)
 | 0,_=>[]
 | k+1,s=>if s=[] then[] else if Lib.indexByte s 10<0 then[(s,[])] else (s.take ((Lib.indexByte s 10).toNat+1),s.drop ((Lib.indexByte s 10).toNat+1))::linesK k (s.drop ((Lib.indexByte s 10).toNat+1))
def linesF(s:List UInt8):List (List UInt8×List UInt8):=linesK s.length s
theorem linesK_eq:∀ (k j:Nat) (s:List UInt8),s.length≤k→s.length≤j→linesK k s=linesK j s
 | 0,0,s,_,_=>rfl
 | 0,j+1,s,h,_=>by
  have:s=[]:=List.eq_nil_of_length_eq_zero (by omega)
  subst this;rfl
 | k+1,0,s,_,h=>by
  have:s=[]:=List.eq_nil_of_length_eq_zero (by omega)
  subst this;rfl
 | k+1,j+1,s,h1,h2=>by
  unfold linesK
  split
  ·rfl
  ·rename_i hs
   have hp:0<s.length:=List.length_pos_iff.2 hs
   split
   ·rfl
   ·rw[linesK_eq k j _ (by rw[List.length_drop];omega) (by rw[List.length_drop];omega)]
theorem linesF_nil:linesF []=[]:=rfl
theorem linesF_last{s:List UInt8}(hs:s≠[])(h:Lib.indexByte s 10<0):linesF s=[(s,[])]:=by
 cases s with
 | nil=>exact absurd rfl hs
 | cons b r =>
  show linesK (r.length+1) (b::r)=_
  unfold linesK
  rw[if_neg hs,if_pos h]
theorem linesF_line{s:List UInt8}{i:Nat}(h:Lib.indexByte s 10=(i:Int)):linesF s=(s.take (i+1),s.drop (i+1))::linesF (s.drop (i+1)):=by
 cases s with
 | nil=>have h:(-1:Int)=i:=h;omega
 | cons b r =>
  show linesK (r.length+1) (b::r)=_
  unfold linesK
  rw[if_neg (by simp),if_neg (by omega),h,Int.toNat_natCast]
  congr 1
  exact linesK_eq _ _ _ (by rw[List.length_drop,List.length_cons];omega) (Nat.le_refl _)
theorem idx10(s:List UInt8):(Lib.indexByte s 10<0∧splL 10 s=[s])∨∃ i:Nat,Lib.indexByte s 10=(i:Int)∧i<s.length∧splL 10 s=s.take i::splL 10 (s.drop (i+1))∧s.getD i 0=10:=by
 rcases idxB 10 s with ⟨h1,h2,_⟩ | ⟨i,h1,h2,h3,h4,_⟩
 ·exact .inl ⟨by omega,h2⟩
 ·exact .inr ⟨i,h1,h2,h3,h4⟩
theorem lines_spl(s:List UInt8):∃ x p,splL 10 s=x++[p]∧(linesF s).map (·.1)=x.map (· ++ [10])++(if p=[] then[] else[p]):=by
 obtain⟨n,hn⟩:∃ n,s.length≤n:=⟨_,Nat.le_refl _⟩
 induction n generalizing s with
 | zero =>
  have:s=[]:=List.eq_nil_of_length_eq_zero (by omega)
  subst this
  exact⟨[],[],rfl,rfl⟩
 | succ n ih =>
  rcases idx10 s with ⟨h1,h2⟩ | ⟨i,h1,h2,h3,h4⟩
  ·refine⟨[],s,h2,?_⟩
   by_cases hs:s=[]
   ·subst hs;rfl
   ·rw[linesF_last hs h1,if_neg hs];rfl
  ·obtain⟨x,p,e1,e2⟩:=ih (s.drop (i+1)) (by rw[List.length_drop];omega)
   refine⟨s.take i::x,p,by rw[h3,e1];rfl,?_⟩
   rw[linesF_line h1,List.map_cons,e2,List.map_cons,List.cons_append]
   congr 1
   have eg:s.getD i 0=s[i]:=by rw[List.getD_eq_getElem?_getD,List.getElem?_eq_getElem h2];rfl
   rw[List.take_succ_eq_append_getElem h2,← eg,h4]
theorem lines_le:∀ (n:Nat) (s:List UInt8),s.length≤n→∀ p∈linesF s,p.1.length≤s.length∧p.2.length≤s.length
 | 0,s,h,p,hp=>by
  have:s=[]:=List.eq_nil_of_length_eq_zero (by omega)
  subst this;cases hp
 | n+1,s,h,p,hp=>by
  rcases idx10 s with ⟨h1,_⟩ | ⟨i,h1,h2,_,_⟩
  ·by_cases hs:s=[]
   ·subst hs;cases hp
   ·rw[linesF_last hs h1] at hp
    rw[List.mem_singleton] at hp
    subst hp;exact⟨Nat.le_refl _,Nat.zero_le _⟩
  ·rw[linesF_line h1] at hp
   rcases List.mem_cons.1 hp with hp | hp
   ·subst hp
    simp only[List.length_take,List.length_drop]
    omega
   ·have:=lines_le n (s.drop (i+1)) (by rw[List.length_drop];omega) p hp
    simp only[List.length_drop] at this
    omega
open Go.Vc Go.Proofs Go.RowKit
theorem wr64_mod(n:Int):wr64 n=(n+9223372036854775808)%18446744073709551616 - 9223372036854775808:=rfl
theorem dgt{m:Nat}(h:m<10):(UInt8.ofNat (48+m)).toNat=48+m:=by
 rw[UInt8.toNat_ofNat'];omega
theorem numW_append(l r:List UInt8):∀ i,i≤l.length→numW (l++r) i=numW l i
 | 0,_=>rfl
 | i+1,h=>by
  have e:(l++r).getD i 0=l.getD i 0:=by
   rw[List.getD_eq_getElem?_getD,List.getD_eq_getElem?_getD,List.getElem?_append_left (by omega)]
  simp only[numW,numW_append l r i (by omega),e]
theorem dec_rec(m:Nat)(h:¬ m<10):Lib.decDigits m=Lib.decDigits (m/10)++[UInt8.ofNat (48+m%10)]:=by
 rw[Lib.decDigits,dif_neg h]
theorem numW_dec(m:Nat)(hm:m<9223372036854775808):numW (Lib.decDigits m) (Lib.decDigits m).length=(m:Int):=by
 induction m using Nat.strongRecOn with
 | _ m ih =>
  by_cases h:m<10
  ·rw[Lib.decDigits_one h]
   simp only[List.length_singleton,numW,List.getD_cons_zero,dgt h,wr64_mod]
   omega
  ·rw[dec_rec m h,List.length_append,List.length_singleton]
   have ih:=ih (m/10) (by omega) (by omega)
   have e:(Lib.decDigits (m/10)++[UInt8.ofNat (48+m%10)]).getD (Lib.decDigits (m/10)).length 0=UInt8.ofNat (48+m%10):=by
    rw[List.getD_eq_getElem?_getD,List.getElem?_append_right (Nat.le_refl _)];simp
   simp only[numW,numW_append _ _ _ (Nat.le_refl _),ih,e,dgt (Nat.mod_lt m (by decide)),wr64_mod]
   omega
theorem dec_all(m:Nat):(Lib.decDigits m).all isDg=true:=by
 induction m using Nat.strongRecOn with
 | _ m ih =>
  have one:∀ d,d<10→isDg (UInt8.ofNat (48+d))=true:=fun d hd=>by
   unfold isDg;rw[dgt hd,decide_eq_true (by omega),decide_eq_true (by omega)];rfl
  by_cases h:m<10
  ·rw[Lib.decDigits_one h,List.all_cons,one m h];rfl
  ·rw[dec_rec m h,List.all_append,ih (m/10) (by omega),List.all_cons,one _ (Nat.mod_lt m (by decide))];rfl
theorem dec_ne(m:Nat):1≤(Lib.decDigits m).length:=by
 rw[Lib.decDigits_length]
 by_cases h:m<10
 ·rw[Lib.nDigits_small h];exact Nat.le_refl _
 ·rw[Lib.nDigits_big h];omega
theorem numB_dec{m:Nat}(hm:m<9223372036854775808):numB (Lib.decDigits m)=true∧numN (Lib.decDigits m)=(m:Int):=by
 have ho:numOk (Lib.decDigits m)=true:=by
  unfold numOk
  have h1:(Lib.decDigits m).length≤19:=by
   rw[Lib.decDigits_length];exact nDig_le 18 m (by omega)
  rw[decide_eq_true (dec_ne m),decide_eq_true h1,dec_all];rfl
 have hn:numN (Lib.decDigits m)=(m:Int):=by unfold numN;rw[if_pos ho,numW_dec m hm]
 refine⟨?_,hn⟩
 unfold numB
 rw[ho,hn,decide_eq_true (by omega),Int.toNat_natCast];simp
theorem numW_lt(s:List UInt8):∀ i,numW s i<9223372036854775808
 | 0=>by show (0:Int)<_;decide
 | i+1=>by simp only[numW,wr64_mod];omega
theorem numB_iff(s:List UInt8):numB s=true↔∃ m:Nat,m<9223372036854775808∧s=Lib.decDigits m:=by
 refine⟨fun h => ?_,fun⟨m,hm,e⟩=>by rw[e];exact (numB_dec hm).1⟩
 unfold numB at h
 simp only[Bool.and_eq_true,decide_eq_true_eq,beq_iff_eq] at h
 refine⟨(numN s).toNat,?_,h.2.symm⟩
 have h1:numN s<9223372036854775808:=by
  unfold numN
  split
  ·exact numW_lt s _
  ·decide
 omega
theorem pu_append(l r:List UInt8):∀ acc,Lib.parseUint10 acc (l++r)=(match Lib.parseUint10 acc l with | .ok v=>Lib.parseUint10 v r | .syntax => .syntax | .range => .range):=by
 induction l with
 | nil=>intro acc;rfl
 | cons c l ih =>
  intro acc
  rw[List.cons_append]
  simp only[Lib.parseUint10]
  split
  ·split
   ·rfl
   ·split
    ·rfl
    ·exact ih _
  ·rfl
theorem pu_dec(m:Nat)(hm:m<9223372036854775808):Lib.parseUint10 0 (Lib.decDigits m) = .ok m:=by
 induction m using Nat.strongRecOn with
 | _ m ih =>
  by_cases h:m<10
  ·rw[Lib.decDigits_one h]
   simp only[Lib.parseUint10,dgt h]
   rw[if_pos (by omega),if_neg (by omega),if_neg (by omega)]
   congr 1;omega
  ·rw[dec_rec m h,pu_append,ih (m/10) (by omega) (by omega)]
   simp only[Lib.parseUint10,dgt (Nat.mod_lt m (show 0<10 by decide))]
   rw[if_pos (by omega),if_neg (by omega),if_neg (by omega)]
   congr 1;omega
theorem atoi_dec(m:Nat)(hm:m<9223372036854775808):Lib.atoiAll (Lib.decDigits m) = .ok (m:Int):=by
 have hne:=dec_ne m
 have hp:=pu_dec m hm
 have hall:=dec_all m
 generalize Lib.decDigits m=l at *
 cases l with
 | nil=>simp at hne
 | cons c r =>
  rw[List.all_cons,Bool.and_eq_true] at hall
  have hc:=hall.1
  unfold isDg at hc
  simp only[Bool.and_eq_true,decide_eq_true_eq] at hc
  rw[Lib.atoiAll_plain c r (by omega) (by omega)]
  unfold Lib.parseMag
  rw[if_neg (by simp),hp]
  show (if 9223372036854775808≤m then _ else _)=_
  rw[if_neg (by omega)]
def atN(s:List UInt8):Int :=
 match Lib.atoiAll s with
 | .ok v=>v
 | .syntax=>0
 | .range=>Lib.atoiSat s
def atB(s:List UInt8):Bool :=
 match Lib.atoiAll s with
 | .ok _=>true
 | _=>false
theorem num_at(s:List UInt8):numB s=(atB s&&decide (0≤atN s)&&(Lib.itoa (atN s)==s)):=by
 rw[Bool.eq_iff_iff,numB_iff]
 simp only[Bool.and_eq_true,decide_eq_true_eq,beq_iff_eq]
 constructor
 ·rintro⟨m,hm,rfl⟩
  have h:=atoi_dec m hm
  have e:atN (Lib.decDigits m)=(m:Int):=by unfold atN;rw[h]
  refine⟨⟨by unfold atB;rw[h],by rw[e];omega⟩,by rw[e,Lib.itoa_nonneg]⟩
 ·rintro⟨⟨h1,h2⟩,h3⟩
  match h:Lib.atoiAll s with
  | .ok v =>
   have e:atN s=v:=by unfold atN;rw[h]
   rw[e] at h2 h3
   have hb:=Lib.atoiAll_bounds h
   refine⟨v.toNat,by omega,?_⟩
   have:v=((v.toNat:Nat):Int):=by omega
   rw[this,Lib.itoa_nonneg] at h3
   exact h3.symm
  | .syntax=>unfold atB at h1;rw[h] at h1;cases h1
  | .range=>unfold atB at h1;rw[h] at h1;cases h1
theorem at_num{s:List UInt8}(h:numB s=true):atN s=numN s:=by
 obtain⟨m,hm,rfl⟩:=(numB_iff s).1 h
 rw[(numB_dec hm).2]
 unfold atN;rw[atoi_dec m hm]
open Go.Shelf Go.Proofs Go.RowKit
def laidSplit_ren:Go.Shelf.Ren:=⟨fun | 146=>63 | 221=>84 | 268=>110 | 138=>111 | 143=>112 | 195=>129 | 197=>130 | 218=>131 | 219=>132 | 260=>143 | 217=>80 | 225=>144 | 224=>145 | 267=>146 | 266=>107 | 314=>153 | n=>n,fun | 9=>9 | 31=>78 | 3=>3 | 4=>4 | 0=>0 | 105=>192 | 21=>21 | 5=>5 | 46=>128 | 119=>213 | 139=>216 | 138=>215 | 146=>217 | 51=>157 | n=>n,fun | 1=>1 | 3=>5 | 4=>6 | n=>n⟩
theorem laidSplit:Go.Proofs.LaysM.n146 Tryz.prog laidSplit_ren where
 mixed:=by kernel_rfl
 f138:=Tryz.func111.trans (congrArg some (by kernel_rfl))
 f143:=Tryz.func112.trans (congrArg some (by kernel_rfl))
 f146:=Tryz.func63.trans (congrArg some (by kernel_rfl))
 f195:=Tryz.func129.trans (congrArg some (by kernel_rfl))
 f197:=Tryz.func130.trans (congrArg some (by kernel_rfl))
 f217:=Tryz.func80.trans (congrArg some (by kernel_rfl))
 f218:=Tryz.func131.trans (congrArg some (by kernel_rfl))
 f219:=Tryz.func132.trans (congrArg some (by kernel_rfl))
 f221:=Tryz.func84.trans (congrArg some (by kernel_rfl))
 f224:=Tryz.func145.trans (congrArg some (by kernel_rfl))
 f225:=Tryz.func144.trans (congrArg some (by kernel_rfl))
 f260:=Tryz.func143.trans (congrArg some (by kernel_rfl))
 f266:=Tryz.func107.trans (congrArg some (by kernel_rfl))
 f267:=Tryz.func146.trans (congrArg some (by kernel_rfl))
 f268:=Tryz.func110.trans (congrArg some (by kernel_rfl))
 f314:=Tryz.func153.trans (congrArg some (by kernel_rfl))
 t0:=Tryz.underlying0
 a0:=Tryz.isAgg0
 z0:=Tryz.sizeOf0
 v0:=Tryz.zeroValue0
 t3:=Tryz.underlying3
 a3:=Tryz.isAgg3
 z3:=Tryz.sizeOf3
 v3:=Tryz.zeroValue3
 t4:=Tryz.underlying4
 a4:=Tryz.isAgg4
 z4:=Tryz.sizeOf4
 v4:=Tryz.zeroValue4
 t5:=Tryz.underlying5
 a5:=Tryz.isAgg5
 z5:=Tryz.sizeOf5
 v5:=Tryz.zeroValue5
 t9:=Tryz.underlying9
 a9:=Tryz.isAgg9
 z9:=Tryz.sizeOf9
 v9:=Tryz.zeroValue9
 t21:=Tryz.underlying21
 a21:=Tryz.isAgg21
 z21:=Tryz.sizeOf21
 v21:=Tryz.zeroValue21
 t31:=Tryz.underlying78
 a31:=Tryz.isAgg78
 z31:=Tryz.sizeOf78
 v31:=Tryz.zeroValue78
 t46:=Tryz.underlying128
 a46:=Tryz.isAgg128
 z46:=Tryz.sizeOf128
 v46:=Tryz.zeroValue128
 t51:=Tryz.underlying157
 a51:=Tryz.isAgg157
 z51:=Tryz.sizeOf157
 v51:=Tryz.zeroValue157
 t105:=Tryz.underlying192
 a105:=Tryz.isAgg192
 z105:=Tryz.sizeOf192
 v105:=Tryz.zeroValue192
 t119:=Tryz.underlying213
 a119:=Tryz.isAgg213
 z119:=Tryz.sizeOf213
 t138:=Tryz.underlying215
 a138:=Tryz.isAgg215
 z138:=Tryz.sizeOf215
 v138:=Tryz.zeroValue215
 t139:=Tryz.underlying216
 a139:=Tryz.isAgg216
 z139:=Tryz.sizeOf216
 v139:=Tryz.zeroValue216
 t146:=Tryz.underlying217
 a146:=Tryz.isAgg217
 z146:=Tryz.sizeOf217
 v146:=Tryz.zeroValue217
 g1:=by kernel_rfl
 g3:=by kernel_rfl
 g4:=by kernel_rfl
 i0:=by kernel_rfl
 i3:=by kernel_rfl
 i4:=by kernel_rfl
 i5:=by kernel_rfl
 i9:=by kernel_rfl
 i21:=by kernel_rfl
 i31:=by kernel_rfl
 i46:=by kernel_rfl
 i51:=by kernel_rfl
 i105:=by kernel_rfl
 i138:=by kernel_rfl
 i139:=by kernel_rfl
 i146:=by kernel_rfl
 m1:=by kernel_rfl
 s1_3:=fun w h=>Go.Proofs.cell_of_shapedOpen_int (zero:=#[.int .i64 0]) (t:=3) h (of_decide_eq_true (by kernel_rfl)) (by kernel_rfl) rfl (by kernel_rfl) (by kernel_rfl) Tryz.underlying3
 m3:=by kernel_rfl
 m4:=by kernel_rfl
def laidAtoi_ren:Go.Shelf.Ren:=⟨fun | 172=>83 | 244=>108 | 245=>109 | 247=>124 | 279=>125 | 280=>126 | 281=>127 | 282=>128 | 287=>140 | 316=>141 | 171=>64 | 205=>142 | 321=>151 | 322=>152 | 243=>85 | 246=>113 | 283=>133 | 284=>134 | 285=>135 | 286=>136 | 129=>106 | 317=>147 | 318=>148 | 319=>149 | 320=>150 | 337=>154 | 338=>155 | n=>n,fun | 9=>9 | 3=>3 | 75=>29 | 76=>88 | 4=>4 | 5=>5 | 167=>186 | 37=>38 | 0=>0 | 85=>187 | 2=>2 | 168=>189 | 53=>159 | 175=>201 | 46=>128 | 210=>204 | 127=>106 | 145=>212 | 143=>210 | 21=>21 | 171=>194 | 173=>196 | 212=>207 | 51=>157 | 20=>20 | 213=>208 | 232=>219 | 233=>220 | 80=>27 | n=>n,fun | 15=>2 | 16=>3 | 17=>4 | 18=>7 | 19=>8 | n=>n⟩
theorem laidAtoi:Go.Proofs.LaysC.n172 Tryz.prog laidAtoi_ren where
 mixed:=by kernel_rfl
 f129:=Tryz.func106.trans (congrArg some (by kernel_rfl))
 f171:=Tryz.func64.trans (congrArg some (by kernel_rfl))
 f172:=Tryz.func83.trans (congrArg some (by kernel_rfl))
 f205:=Tryz.func142.trans (congrArg some (by kernel_rfl))
 f243:=Tryz.func85.trans (congrArg some (by kernel_rfl))
 f244:=Tryz.func108.trans (congrArg some (by kernel_rfl))
 f245:=Tryz.func109.trans (congrArg some (by kernel_rfl))
 f246:=Tryz.func113.trans (congrArg some (by kernel_rfl))
 f247:=Tryz.func124.trans (congrArg some (by kernel_rfl))
 f279:=Tryz.func125.trans (congrArg some (by kernel_rfl))
 f280:=Tryz.func126.trans (congrArg some (by kernel_rfl))
 f281:=Tryz.func127.trans (congrArg some (by kernel_rfl))
 f282:=Tryz.func128.trans (congrArg some (by kernel_rfl))
 f283:=Tryz.func133.trans (congrArg some (by kernel_rfl))
 f284:=Tryz.func134.trans (congrArg some (by kernel_rfl))
 f285:=Tryz.func135.trans (congrArg some (by kernel_rfl))
 f286:=Tryz.func136.trans (congrArg some (by kernel_rfl))
 f287:=Tryz.func140.trans (congrArg some (by kernel_rfl))
 f316:=Tryz.func141.trans (congrArg some (by kernel_rfl))
 f317:=Tryz.func147.trans (congrArg some (by kernel_rfl))
 f318:=Tryz.func148.trans (congrArg some (by kernel_rfl))
 f319:=Tryz.func149.trans (congrArg some (by kernel_rfl))
 f320:=Tryz.func150.trans (congrArg some (by kernel_rfl))
 f321:=Tryz.func151.trans (congrArg some (by kernel_rfl))
 f322:=Tryz.func152.trans (congrArg some (by kernel_rfl))
 f337:=Tryz.func154.trans (congrArg some (by kernel_rfl))
 f338:=Tryz.func155.trans (congrArg some (by kernel_rfl))
 t0:=Tryz.underlying0
 a0:=Tryz.isAgg0
 z0:=Tryz.sizeOf0
 v0:=Tryz.zeroValue0
 t2:=Tryz.underlying2
 a2:=Tryz.isAgg2
 z2:=Tryz.sizeOf2
 v2:=Tryz.zeroValue2
 t3:=Tryz.underlying3
 a3:=Tryz.isAgg3
 z3:=Tryz.sizeOf3
 v3:=Tryz.zeroValue3
 t4:=Tryz.underlying4
 a4:=Tryz.isAgg4
 z4:=Tryz.sizeOf4
 v4:=Tryz.zeroValue4
 t5:=Tryz.underlying5
 a5:=Tryz.isAgg5
 z5:=Tryz.sizeOf5
 v5:=Tryz.zeroValue5
 t9:=Tryz.underlying9
 a9:=Tryz.isAgg9
 z9:=Tryz.sizeOf9
 v9:=Tryz.zeroValue9
 t20:=Tryz.underlying20
 a20:=Tryz.isAgg20
 z20:=Tryz.sizeOf20
 v20:=Tryz.zeroValue20
 t21:=Tryz.underlying21
 a21:=Tryz.isAgg21
 z21:=Tryz.sizeOf21
 v21:=Tryz.zeroValue21
 t37:=Tryz.underlying38
 a37:=Tryz.isAgg38
 z37:=Tryz.sizeOf38
 v37:=Tryz.zeroValue38
 t46:=Tryz.underlying128
 a46:=Tryz.isAgg128
 z46:=Tryz.sizeOf128
 v46:=Tryz.zeroValue128
 t51:=Tryz.underlying157
 a51:=Tryz.isAgg157
 z51:=Tryz.sizeOf157
 v51:=Tryz.zeroValue157
 t53:=Tryz.underlying159
 a53:=Tryz.isAgg159
 z53:=Tryz.sizeOf159
 v53:=Tryz.zeroValue159
 t75:=Tryz.underlying29
 a75:=Tryz.isAgg29
 z75:=Tryz.sizeOf29
 v75:=Tryz.zeroValue29
 t76:=Tryz.underlying88
 a76:=Tryz.isAgg88
 z76:=Tryz.sizeOf88
 v76:=Tryz.zeroValue88
 t85:=Tryz.underlying187
 a85:=Tryz.isAgg187
 z85:=Tryz.sizeOf187
 v85:=Tryz.zeroValue187
 t127:=Tryz.underlying106
 a127:=Tryz.isAgg106
 z127:=Tryz.sizeOf106
 v127:=Tryz.zeroValue106
 t143:=Tryz.underlying210
 a143:=Tryz.isAgg210
 z143:=Tryz.sizeOf210
 v143:=Tryz.zeroValue210
 t145:=Tryz.underlying212
 a145:=Tryz.isAgg212
 z145:=Tryz.sizeOf212
 v145:=Tryz.zeroValue212
 t167:=Tryz.underlying186
 a167:=Tryz.isAgg186
 z167:=Tryz.sizeOf186
 v167:=Tryz.zeroValue186
 t168:=Tryz.underlying189
 a168:=Tryz.isAgg189
 z168:=Tryz.sizeOf189
 v168:=Tryz.zeroValue189
 t171:=Tryz.underlying194
 a171:=Tryz.isAgg194
 z171:=Tryz.sizeOf194
 v171:=Tryz.zeroValue194
 t173:=Tryz.underlying196
 a173:=Tryz.isAgg196
 z173:=Tryz.sizeOf196
 v173:=Tryz.zeroValue196
 t175:=Tryz.underlying201
 a175:=Tryz.isAgg201
 z175:=Tryz.sizeOf201
 v175:=Tryz.zeroValue201
 t210:=Tryz.underlying204
 a210:=Tryz.isAgg204
 z210:=Tryz.sizeOf204
 v210:=Tryz.zeroValue204
 t212:=Tryz.underlying207
 a212:=Tryz.isAgg207
 z212:=Tryz.sizeOf207
 v212:=Tryz.zeroValue207
 t213:=Tryz.underlying208
 a213:=Tryz.isAgg208
 z213:=Tryz.sizeOf208
 t232:=Tryz.underlying219
 a232:=Tryz.isAgg219
 z232:=Tryz.sizeOf219
 v232:=Tryz.zeroValue219
 t233:=Tryz.underlying220
 a233:=Tryz.isAgg220
 z233:=Tryz.sizeOf220
 v233:=Tryz.zeroValue220
 g15:=by kernel_rfl
 g16:=by kernel_rfl
 g17:=by kernel_rfl
 g18:=by kernel_rfl
 g19:=by kernel_rfl
 t80:=Tryz.underlying27
 a80:=Tryz.isAgg27
 z80:=Tryz.sizeOf27
 v80:=Tryz.zeroValue27
 i0:=by kernel_rfl
 i2:=by kernel_rfl
 i3:=by kernel_rfl
 i4:=by kernel_rfl
 i5:=by kernel_rfl
 i9:=by kernel_rfl
 i20:=by kernel_rfl
 i21:=by kernel_rfl
 i37:=by kernel_rfl
 i46:=by kernel_rfl
 i51:=by kernel_rfl
 i53:=by kernel_rfl
 i75:=by kernel_rfl
 i76:=by kernel_rfl
 i80:=by kernel_rfl
 i85:=by kernel_rfl
 i127:=by kernel_rfl
 i143:=by kernel_rfl
 i145:=by kernel_rfl
 i167:=by kernel_rfl
 i168:=by kernel_rfl
 i171:=by kernel_rfl
 i173:=by kernel_rfl
 i175:=by kernel_rfl
 i210:=by kernel_rfl
 i212:=by kernel_rfl
 i232:=by kernel_rfl
 i233:=by kernel_rfl
 m15:=by kernel_rfl
 m16:=by kernel_rfl
 m17:=by kernel_rfl
 m18:=by kernel_rfl
 m19:=by kernel_rfl
 c0:=by kernel_rfl
 c2:=by kernel_rfl
 c3:=by kernel_rfl
 c4:=by kernel_rfl
 c5:=by kernel_rfl
 c9:=by kernel_rfl
 c20:=by kernel_rfl
 c21:=by kernel_rfl
 c37:=by kernel_rfl
 c46:=by kernel_rfl
 c51:=by kernel_rfl
 c53:=by kernel_rfl
 c75:=by kernel_rfl
 c76:=by kernel_rfl
 c80:=by kernel_rfl
 c85:=by kernel_rfl
 c127:=by kernel_rfl
 c143:=by kernel_rfl
 c145:=by kernel_rfl
 c167:=by kernel_rfl
 c168:=by kernel_rfl
 c171:=by kernel_rfl
 c173:=by kernel_rfl
 c175:=by kernel_rfl
 c210:=by kernel_rfl
 c212:=by kernel_rfl
 c213:=by kernel_rfl
 c232:=by kernel_rfl
 c233:=by kernel_rfl
open Go.Vc Go.Proofs Go.RowKit
structure GV where
 m:Int
 t1:TypeId
 p1:Value
 t2:TypeId
 p2:Value
abbrev glM(v:GV):List (Nat×Dat):=[(1,⟨.raw,Value.int .i64 v.m⟩),(2,⟨.raw,Value.iface v.t1 v.p1⟩),(3,⟨.raw,Value.iface v.t2 v.p2⟩)]
structure SplitOk(s p:List UInt8):Prop where
 le:s.length≤1100000
 sep:p=[32]
def cSplit:Ctr:=cdet [.str,.str] (fun s p=>SplitOk s p) (fun s _=>[⟨.sl .str,cutL s 32⟩])
theorem gl_cell{v:GV}{w:World}{ro:Nat→Prop}(h:GlOk (glM v) w ro){g:Nat}{t:Ty}{x:t.D}{u:Value}(hm:(g,(⟨t,x⟩:Dat))∈glM v)(hu:∀ us,t.ok w ro x us→us=[u]):w.cell? ⟨g,0,none⟩=some u:=by
 obtain⟨_,us,h1,h2⟩:=h g _ hm
 have:=hu us h2
 subst this
 exact h1 0 u rfl
theorem okSplit(v:GV):PlainOk Tryz.prog (glM v) 63 cSplit:=by
 intro ds k ⟨hp,hk⟩ w ro vals hlt hgl hD
 obtain⟨s,p,rfl,hs⟩:=dest2 hp
 have hk:k [⟨.sl .str,cutL s 32⟩]:=hk
 have hl:vals.length=2:=hD.1
 match vals,hl with
 | [v1,v2],_ =>
  obtain⟨e1,h1⟩:=str1 (w:=w) (ro:=ro) (x:=s) (v:=v1) (hD.2 0 ⟨.str,s⟩ v1 rfl rfl)
  obtain⟨e2,h2⟩:=str1 (w:=w) (ro:=ro) (x:=p) (v:=v2) (hD.2 1 ⟨.str,p⟩ v2 rfl rfl)
  subst e1;subst e2
  have hle:=hs.le
  have hsep:=hs.sep
  subst hsep
  have hm:w.cell? ⟨1,0,none⟩=some (.int .i64 v.m):=gl_cell hgl (t := .raw) (x:=Value.int .i64 v.m) (.head _) fun us h=>h.1
  have hsp:=split_spl 32 ⟨s.toArray⟩
  have hcut:cutL s 32=splL 32 s:=cut_spl s 32
  have hlen:=Lib.splitB_all (⟨#[32]⟩:ByteArray) (by decide) 0 _ ⟨s.toArray⟩ rfl
  refine (Any.strings_Split { laidSplit with } laidSplit.i9 ⟨s.toArray⟩ ⟨#[32]⟩ v.m w (by rw[bsz];omega) hm (by decide)).mono ?_
  rintro e w' ⟨rfl,rfl⟩
  refine⟨⟨rfl,rfl,rfl,by simp,fun b hb _=>Ext.alloc w _ b hb,fun e=>Nat.le_refl _⟩,_,_,rfl,hk,?_⟩
  have hcl:(cutL s 32).length=Lib.countB ⟨s.toArray⟩ ⟨#[32]⟩+1:=by rw[hcut,← hsp,List.length_map,hlen]
  have hmx:(cutL s 32).length≤1200000:=Nat.le_trans (cutG_len s 32 (s.length+1)) (by omega)
  refine⟨some ⟨w.heap.size,0,none⟩,Lib.countB ⟨s.toArray⟩ ⟨#[32]⟩+1,by rw[hcl],by rw[hcl];exact Nat.le_refl _,by rw[← hcl];exact Nat.le_trans hmx (by decide),fun _ => ?_⟩
  refine⟨_,(cutL s 32).map fun x=>[strV x],rfl,rfl,.inr ⟨Nat.le_refl _,by simp⟩,⟨List.length_map _,fun i x u hx hu => ?_⟩,fun j u hj => ?_⟩
  ·rw[List.getElem?_map,hx] at hu
   injection hu with hu;subst hu
   refine⟨rfl,rfl,?_⟩
   have hx':x∈splL 32 s:=by rw[← hcut];exact List.mem_of_getElem? hx
   have:=splL_le 32 s x hx'
   exact Nat.le_trans this (Nat.le_trans hle (by decide))
  ·have hf:((cutL s 32).map fun x=>[strV x]).flatten=(Lib.splitB ⟨#[32]⟩ 0 (Lib.countB ⟨s.toArray⟩ ⟨#[32]⟩) ⟨s.toArray⟩).map Value.string:=by
    have h0:∀ l:List (List UInt8),(l.map fun x=>[strV x]).flatten=l.map strV:=by
     intro l
     induction l with
     | nil=>rfl
     | cons a r ih=>rw[List.map_cons,List.flatten_cons,ih];rfl
    rw[h0,hcut,← hsp,List.map_map]
    apply List.map_congr_left
    intro x _
    rfl
   rw[hf] at hj
   have:(Addr.add ⟨w.heap.size,0,none⟩ j)=⟨w.heap.size,j,none⟩:=by rw[addr_add,Nat.zero_add]
   rw[this]
   unfold World.cell?
   rw[World.alloc_heap_new]
   simpa using hj
def cAtoi:Ctr:=cgen [.str] (fun s k=>s.length≤1100000∧(atB s=true→k [⟨I,atN s⟩,⟨.raw,Value.nilIface⟩])∧∀ N:Nat,atB s=false→k [⟨I,atN s⟩,⟨.raw,Value.iface 189 (.pointer (some ⟨N,0,none⟩))⟩])
theorem fr_below{w w':World}(h:Below w.heap.size w w'):Fr (fun _=>False) w w':=⟨h.os,h.tape,h.output,h.size,fun b hb _=>h.block b hb,fun e=>by cases e⟩
theorem okAtoi(v:GV):PlainOk Tryz.prog (glM v) 83 cAtoi:=by
 intro ds k hp w ro vals hlt hgl hD
 obtain⟨s,rfl,hle,hk1,hk2⟩:=gdest1 hp
 have hl:vals.length=1:=hD.1
 match vals,hl with
 | [v1],_ =>
  obtain⟨e1,h1⟩:=str1 (w:=w) (ro:=ro) (x:=s) (v:=v1) (hD.2 0 ⟨.str,s⟩ v1 rfl rfl)
  subst e1
  have hE1:w.cell? ⟨2,0,none⟩=some (.iface v.t1 v.p1):=gl_cell hgl (t := .raw) (x:=Value.iface v.t1 v.p1) (.tail _ (.head _)) fun us h=>h.1
  have hE2:w.cell? ⟨3,0,none⟩=some (.iface v.t2 v.p2):=gl_cell hgl (t := .raw) (x:=Value.iface v.t2 v.p2) (.tail _ (.tail _ (.head _))) fun us h=>h.1
  have ret:∀ (w':World) (ro':Nat→Prop) (n:Int) (u:Value),inK .i64 n→u.oneCell'=true→RetOk w' ro' [⟨I,n⟩,⟨.raw,u⟩] (.tuple #[.int .i64 n,u]):=by
   intro w' ro' n u hn hu
   refine⟨_,rfl,rfl,fun j d v hd hv => ?_⟩
   match j with
   | 0=>simp at hd hv;subst hd;subst hv;exact⟨rfl,hn⟩
   | 1=>simp at hd hv;subst hd;subst hv;exact⟨rfl,hu⟩
   | j+2=>simp at hd
  match h:Lib.atoiAll s with
  | .ok n =>
   have hb:=Lib.atoiAll_bounds h
   have en:atN s=n:=by unfold atN;rw[h]
   have eb:atB s=true:=by unfold atB;rw[h]
   have hk:=hk1 eb
   rw[en] at hk
   refine (Any.strconv_Atoi_ok laidAtoi ⟨s.toArray⟩ (by rw[bsz];omega) n h w).mono ?_
   rintro e w' ⟨rfl,hw⟩
   have hbl:Below w.heap.size w w':=by
    rcases hw with rfl | ⟨t,rfl⟩
    ·exact Below.refl _ _
    ·exact Lib.bytesWorld_below _ _ _
   exact⟨fr_below hbl,_,_,rfl,hk,ret _ _ n _ (inK_i64.2 hb) rfl⟩
  | .syntax =>
   have en:atN s=0:=by unfold atN;rw[h]
   have eb:atB s=false:=by unfold atB;rw[h]
   refine (Any.strconv_Atoi_syntax laidAtoi ⟨s.toArray⟩ (by rw[bsz];omega) h (.iface v.t1 v.p1) w hE1 (.inr ⟨_,_,rfl⟩)).mono ?_
   rintro e w' ⟨N,rfl,_,_,hbl⟩
   have hk:=hk2 N eb
   rw[en] at hk
   exact⟨fr_below hbl,_,_,rfl,hk,ret _ _ 0 _ (inK_i64.2 (by decide)) rfl⟩
  | .range =>
   have en:atN s=Lib.atoiSat s:=by unfold atN;rw[h]
   have eb:atB s=false:=by unfold atB;rw[h]
   refine (Any.strconv_Atoi_range laidAtoi ⟨s.toArray⟩ (by rw[bsz];omega) h (.iface v.t2 v.p2) w hE2 (.inr ⟨_,_,rfl⟩)).mono ?_
   rintro e w' ⟨N,rfl,_,_,hbl⟩
   have hk:=hk2 N eb
   rw[en] at hk
   exact⟨fr_below hbl,_,_,rfl,hk,ret _ _ _ _ (inK_i64.2 (Lib.atoiSat_bounds s)) rfl⟩
open Go.Vc Go.Proofs Go.RowKit
open Go.Vc Go.Proofs Go.RowKit
open Go.Vc
set_option linter.unusedVariables false
open Go.Vc Go.Proofs Go.RowKit
open Go.Vc Go.Proofs Go.RowKit
abbrev glO(v:GV):List (Nat×Dat):=glT++glM v
structure NumPOk(s:List UInt8):Prop where
 le:s.length≤1100000
def cNumP:Ctr:=cdet [.str] (fun s=>NumPOk s) (fun s=>[⟨I,atN s⟩,⟨.bool,numB s⟩])
open Go.Vc
set_option linter.unusedVariables false
theorem vcNumP(v:GV)(s:List UInt8)(k:List Dat→Prop):vcF ⟨Elr,[(83,cAtoi),(64,cItoa)],glO v,[],[]⟩ [joinAll] (Tryz.f61.body.getD .skip) Tryz.f61.ntmps [(.tmp 2,I),(.tmp 3,.bool)] [⟨.str,s⟩] k=(
 s.length≤(1100000:Nat)∧(atB s=true→(decide ((0:Int)≤atN s)=true→True∧k [Dat.mk (I) (atN s),Dat.mk Ty.bool (Lib.itoa (atN s)==s)])∧(decide ((0:Int)≤atN s)=false→k [Dat.mk (I) (atN s),Dat.mk Ty.bool false]))∧∀ (N:Nat),atB s=false→k [Dat.mk (I) (atN s),Dat.mk Ty.bool false]):=by kernel_rfl
open Go.Vc Go.Proofs Go.RowKit
theorem glO_T{v:GV}:∀ x∈glT,x∈glO v:=fun x h=>List.mem_append_left _ h
theorem glO_M{v:GV}:∀ x∈glM v,x∈glO v:=fun x h=>List.mem_append_right _ h
theorem okNumP(v:GV):PlainOk Tryz.prog (glO v) 61 cNumP:=by
 refine plain_of (CxOk.mk' Elr_ok (by kernel_rfl) mixed (gl:=glO v) (GOk.cons (PlainOk.sub' glO_M (okAtoi v)) Tryz.func83 (by kernel_rfl) (by kernel_rfl) (GOk.cons (PlainOk.sub' glO_T okItoa) Tryz.func64 (by kernel_rfl) (by kernel_rfl) GOk.nil)) GoOk.nil noIt) Tryz.func61 (c:=Tryz.f61.body.getD .skip) (rvs:=[(.tmp 2,I),(.tmp 3,.bool)]) (by kernel_rfl) (by kernel_rfl) (by kernel_rfl) ?_
 intro ds k ⟨hp,hk⟩ hwf
 obtain⟨s,rfl,hs⟩:=dest1 hp
 have hk:k [⟨I,atN s⟩,⟨.bool,numB s⟩]:=hk
 refine⟨[joinAll],?_⟩
 rw[vcNumP]
 have e:=num_at s
 refine⟨hs.le,fun hb=>⟨fun h0=>⟨trivial,?_⟩,fun h0 => ?_⟩,fun N hb => ?_⟩
 ·rw[hb,h0] at e;rw[e] at hk;exact hk
 ·rw[hb,h0] at e;rw[e] at hk;exact hk
 ·rw[hb] at e;rw[e] at hk;exact hk
def pE(b:BS)(l:List Int):Int:=if l.length=3 then bkE b.2.2 (writeE b.1 (l.getD 0 0) (l.getD 1 0) (l.getD 2 0)) else bkE b.2.2 (syncE b.1 (l.getD 0 0) (l.getD 1 0))
def pT(b:BS)(l:List Int):BS :=
 if l.length=3 then bkT b.1 b.2.1 b.2.2 (writeE b.1 (l.getD 0 0) (l.getD 1 0) (l.getD 2 0)) (writeT b.1 (l.getD 0 0) (l.getD 1 0) (l.getD 2 0)) (lineF [119] [l.getD 0 0,l.getD 1 0,l.getD 2 0])
 else bkT b.1 b.2.1 b.2.2 (syncE b.1 (l.getD 0 0) (l.getD 1 0)) (syncT b.1 (l.getD 0 0) (l.getD 1 0)) (lineF [115] [l.getD 0 0,l.getD 1 0])
def pLE(b:BS)(s:List UInt8):Int:=if badL s=0 then pE b (numsL s) else badL s
def pLT(b:BS)(s:List UInt8):BS:=if badL s=0 then pT b (numsL s) else b
structure BkOk(b:BS):Prop where
 sh:NetSh b.1
 txt:b.2.1.length≤900000000
 lo:(0:Int)≤b.2.2
 hi:b.2.2≤(60:Int)
abbrev obB(b:BS):List Ob:=obBk b.1 b.2.1 b.2.2
def oBL:OCtr:=fun args ob k=>match args,ob with
 | [.ps 0,.d .str s],[.st 66 [.ps 1,.sf 0 1,.os 2,.d (.int .i64) m],.st 96 [.os 3,.os 4],.buf 5 txt,.row 98 (.ar 4 (.sl (.pr (.sl (.int .i64)) (.pr (.int .i64) .un)))) nodes,.row 3 (.int .i64) wrote] =>
  (BkOk ((nodes,wrote,()),txt,m)∧s.length≤1100000)∧k (.d tErr (pLE ((nodes,wrote,()),txt,m) s)) (obB (pLT ((nodes,wrote,()),txt,m) s))
 | _,_=>False
def anBL(s:List UInt8):Ann:=[joinAll,
 loopAt 12 Nat [(9,3,.d I)] (fun st i=>{ St.at (St.only st [0,8,42,43]) [(9,.os 5),(44,.d I (i:Int))] with ob:=st.ob.set 5 (.row 3 I ((((wordsL s).drop 1).take i).map atN)) }) (fun _ i=>(i≤((wordsL s).drop 1).length∧0≤lastB s 32)∧((((wordsL s).drop 1).take i).all numB=true∧numB (tailL s)=true∧atN (tailL s)=sumF (headL s))) (fun i=>((wordsL s).drop 1).length - i)]
open Go.Vc
set_option linter.unusedVariables false
abbrev vcBLq1(x:Nat)(s:List UInt8):=(List.map atN (List.take x (List.drop 1 (wordsL s))))
abbrev vcBLq2(s:List UInt8):=(cutL (List.drop (Int.toNat 0) (List.take (lastB s 32).toNat s)) 32)
abbrev vcBLq3(nd:List (List (List Va)))(wr:List Int)(txt:List UInt8)(m:Int)(x:Nat)(s:List UInt8):=(bkT (nd,wr,()) txt m (syncE (nd,wr,()) ((vcBLq1 x s).getD 0 0) ((vcBLq1 x s).getD 1 0)) (syncT (nd,wr,()) ((vcBLq1 x s).getD 0 0) ((vcBLq1 x s).getD 1 0)) (lineF [(115:UInt8)] [(vcBLq1 x s).getD 0 0,(vcBLq1 x s).getD 1 0]))
abbrev vcBLq4(s:List UInt8):=(List.drop (Int.toNat 1) (List.take (↑(vcBLq2 s).length:Int).toNat (vcBLq2 s)))
abbrev vcBLq5(nd:List (List (List Va)))(wr:List Int)(txt:List UInt8)(m:Int)(x:Nat)(s:List UInt8):=(bkT (nd,wr,()) txt m (writeE (nd,wr,()) ((vcBLq1 x s).getD 0 0) ((vcBLq1 x s).getD 1 0) ((vcBLq1 x s).getD 2 0)) (writeT (nd,wr,()) ((vcBLq1 x s).getD 0 0) ((vcBLq1 x s).getD 1 0) ((vcBLq1 x s).getD 2 0)) (lineF [(119:UInt8)] [(vcBLq1 x s).getD 0 0,(vcBLq1 x s).getD 1 0,(vcBLq1 x s).getD 2 0]))
abbrev vcBLq6(m:Int)(txt:List UInt8)(nd:List (List (List Va)))(wr:List Int):=[Ob.st 66 [SV.ps 1,SV.sf 0 1,SV.os 2,SV.d (I) m],Ob.st 96 [SV.os 3,SV.os 4],Ob.buf 5 txt,Ob.row 98 tRow nd,Ob.row 3 (I) wr]
abbrev vcBLq7(s:List UInt8):=(List.drop (Int.toNat 0) (List.take (lastB s 32).toNat s))
abbrev vcBLq8(s:List UInt8):=(List.drop (lastB s 32+(1:Int)).toNat (List.take (↑s.length:Int).toNat s))
theorem vcBL(v:GV)(nd:List (List (List Va)))(wr:List Int)(txt:List UInt8)(m:Int)(s:List UInt8)(k:SV→List Ob→Prop):vcO ⟨Elr,[(60,cLastI),(61,cNumP),(62,cSum),(63,cSplit)],glO v,[],[(16,oBW),(17,oBS)]⟩ (anBL s) (Tryz.f34.body.getD .skip) Tryz.f34.ntmps [(.tmp 4,tErr)] [.ps 0,.d .str s] (obBk (nd,wr,()) txt m) k=(
 LastOk s∧(decide (lastB s 32<(0:Int))=true→(2:Int)≠(0:Int)∧k (SV.d (Ty.err 73) 2) (vcBLq6 m txt nd wr))∧(decide (lastB s 32<(0:Int))=false→inK IntKind.i64 (lastB s 32+(1:Int))∧0≤lastB s 32+(1:Int)∧lastB s 32+1≤(↑s.length:Int)∧(↑s.length:Int)≤(↑s.length:Int)∧NumPOk (vcBLq8 s)∧((!numB (vcBLq8 s))=true→(2:Int)≠(0:Int)∧k (SV.d (Ty.err 73) 2) (vcBLq6 m txt nd wr))∧((!numB (vcBLq8 s))=false→0≤(0:Int)∧0≤lastB s 32∧lastB s 32≤(↑s.length:Int)∧SumOk (vcBLq7 s)∧((!decide (atN (vcBLq8 s)=sumF (vcBLq7 s)))=true→(6:Int)≠(0:Int)∧k (SV.d (Ty.err 73) 6) (vcBLq6 m txt nd wr))∧((!decide (atN (vcBLq8 s)=sumF (vcBLq7 s)))=false→0≤(0:Int)∧0≤lastB s 32∧lastB s 32≤(↑s.length:Int)∧SplitOk (vcBLq7 s) [(32:UInt8)]∧0≤(1:Int)∧1≤(↑(vcBLq2 s).length:Int)∧(↑(vcBLq2 s).length:Int)≤(↑(vcBLq2 s).length:Int)∧(∃ (x:Nat),((x≤(List.drop 1 (wordsL s)).length∧0≤lastB s 32)∧(List.take x (List.drop 1 (wordsL s))).all numB=true∧numB (tailL s)=true∧atN (tailL s)=sumF (headL s))∧(True∧cutL (vcBLq7 s) 32=cutL (vcBLq7 s) 32∧True∧List.drop (Int.toNat 1) (List.take (↑(vcBLq2 s).length:Int).toNat (vcBLq2 s))=List.drop (Int.toNat 1) (List.take (↑(vcBLq2 s).length:Int).toNat (vcBLq2 s))∧(↑(vcBLq4 s).length:Int)=(↑(vcBLq4 s).length:Int)∧0=(↑x:Int)∧True)∧((True∧True∧True∧m=m∧True)∧(True∧True∧True)∧txt=txt∧(98=98∧nd=nd)∧(3=3∧wr=wr)∧(3=3∧[]=List.map atN (List.take x (List.drop 1 (wordsL s))))∧True)∧True∧s=s∧Lib.pow10Tab=Lib.pow10Tab∧Value.int IntKind.i64 v.m=Value.int IntKind.i64 v.m∧Value.iface v.t1 v.p1=Value.iface v.t1 v.p1∧Value.iface v.t2 v.p2=Value.iface v.t2 v.p2∧True)∧∀ (x:Nat),(x≤(List.drop 1 (wordsL s)).length∧0≤lastB s 32)∧(List.take x (List.drop 1 (wordsL s))).all numB=true∧numB (tailL s)=true∧atN (tailL s)=sumF (headL s)→(decide ((↑x:Int)<(↑(vcBLq4 s).length:Int))=true→0≤(↑x:Int)∧(↑x:Int)<(↑(vcBLq4 s).length:Int)∧NumPOk ((vcBLq4 s).getD (↑x:Int).toNat [])∧((!numB ((vcBLq4 s).getD (↑x:Int).toNat []))=true→(2:Int)≠(0:Int)∧k (SV.d (Ty.err 73) 2) (vcBLq6 m txt nd wr))∧((!numB ((vcBLq4 s).getD (↑x:Int).toNat []))=false→(vcBLq1 x s).length+((List.replicate 1 0).set 0 (atN ((vcBLq4 s).getD (↑x:Int).toNat []))).length≤1000000000∧inK IntKind.i64 ((↑x:Int)+1)∧∃ (x_1:Nat),((x_1≤(List.drop 1 (wordsL s)).length∧0≤lastB s 32)∧(List.take x_1 (List.drop 1 (wordsL s))).all numB=true∧numB (tailL s)=true∧atN (tailL s)=sumF (headL s))∧(List.drop 1 (wordsL s)).length - x_1<(List.drop 1 (wordsL s)).length - x∧(True∧cutL (vcBLq7 s) 32=cutL (vcBLq7 s) 32∧True∧List.drop (Int.toNat 1) (List.take (↑(vcBLq2 s).length:Int).toNat (vcBLq2 s))=List.drop (Int.toNat 1) (List.take (↑(vcBLq2 s).length:Int).toNat (vcBLq2 s))∧(↑(vcBLq4 s).length:Int)=(↑(vcBLq4 s).length:Int)∧(↑x:Int)+1=(↑x_1:Int)∧True)∧((True∧True∧True∧m=m∧True)∧(True∧True∧True)∧txt=txt∧(98=98∧nd=nd)∧(3=3∧wr=wr)∧(3=3∧(vcBLq1 x s).append ((List.replicate 1 0).set 0 (atN ((vcBLq4 s).getD (↑x:Int).toNat [])))=List.map atN (List.take x_1 (List.drop 1 (wordsL s))))∧True)∧True∧s=s∧Lib.pow10Tab=Lib.pow10Tab∧Value.int IntKind.i64 v.m=Value.int IntKind.i64 v.m∧Value.iface v.t1 v.p1=Value.iface v.t1 v.p1∧Value.iface v.t2 v.p2=Value.iface v.t2 v.p2∧True))∧(decide ((↑x:Int)<(↑(vcBLq4 s).length:Int))=false→0≤(0:Int)∧0<(↑(vcBLq2 s).length:Int)∧(((vcBLq2 s).getD (Int.toNat 0) []==[(119:UInt8)])=true→(decide ((↑(vcBLq1 x s).length:Int)=3)=true→(0≤(0:Int)∧0<(↑(vcBLq1 x s).length:Int)∧0≤(1:Int)∧1<(↑(vcBLq1 x s).length:Int)∧0≤(2:Int)∧2<(↑(vcBLq1 x s).length:Int)∧True)∧(NetSh (nd,wr,())∧txt.length≤900000000∧0≤m∧m≤(60:Int))∧k (SV.d (Ty.err 73) (bkE m (writeE (nd,wr,()) ((vcBLq1 x s).getD 0 0) ((vcBLq1 x s).getD 1 0) ((vcBLq1 x s).getD 2 0)))) [Ob.st 66 [SV.ps 1,SV.sf 0 1,SV.os 2,SV.d (I) (vcBLq5 nd wr txt m x s).snd.snd],Ob.st 96 [SV.os 3,SV.os 4],Ob.buf 5 (vcBLq5 nd wr txt m x s).snd.fst,Ob.row 98 tRow (vcBLq5 nd wr txt m x s).fst.fst,Ob.row 3 (I) (vcBLq5 nd wr txt m x s).fst.snd.fst])∧(decide ((↑(vcBLq1 x s).length:Int)=3)=false→0≤(0:Int)∧0<(↑(vcBLq2 s).length:Int)∧(((vcBLq2 s).getD (Int.toNat 0) []==[(115:UInt8)])=true→(decide ((↑(vcBLq1 x s).length:Int)=2)=true→(0≤(0:Int)∧0<(↑(vcBLq1 x s).length:Int)∧0≤(1:Int)∧1<(↑(vcBLq1 x s).length:Int)∧True)∧(NetSh (nd,wr,())∧txt.length≤900000000∧0≤m∧m≤(60:Int))∧k (SV.d (Ty.err 73) (bkE m (syncE (nd,wr,()) ((vcBLq1 x s).getD 0 0) ((vcBLq1 x s).getD 1 0)))) [Ob.st 66 [SV.ps 1,SV.sf 0 1,SV.os 2,SV.d (I) (vcBLq3 nd wr txt m x s).snd.snd],Ob.st 96 [SV.os 3,SV.os 4],Ob.buf 5 (vcBLq3 nd wr txt m x s).snd.fst,Ob.row 98 tRow (vcBLq3 nd wr txt m x s).fst.fst,Ob.row 3 (I) (vcBLq3 nd wr txt m x s).fst.snd.fst])∧(decide ((↑(vcBLq1 x s).length:Int)=2)=false→(2:Int)≠(0:Int)∧k (SV.d (Ty.err 73) 2) (vcBLq6 m txt nd wr)))∧(((vcBLq2 s).getD (Int.toNat 0) []==[(115:UInt8)])=false→(2:Int)≠(0:Int)∧k (SV.d (Ty.err 73) 2) (vcBLq6 m txt nd wr))))∧(((vcBLq2 s).getD (Int.toNat 0) []==[(119:UInt8)])=false→0≤(0:Int)∧0<(↑(vcBLq2 s).length:Int)∧(((vcBLq2 s).getD (Int.toNat 0) []==[(115:UInt8)])=true→(decide ((↑(vcBLq1 x s).length:Int)=2)=true→(0≤(0:Int)∧0<(↑(vcBLq1 x s).length:Int)∧0≤(1:Int)∧1<(↑(vcBLq1 x s).length:Int)∧True)∧(NetSh (nd,wr,())∧txt.length≤900000000∧0≤m∧m≤(60:Int))∧k (SV.d (Ty.err 73) (bkE m (syncE (nd,wr,()) ((vcBLq1 x s).getD 0 0) ((vcBLq1 x s).getD 1 0)))) [Ob.st 66 [SV.ps 1,SV.sf 0 1,SV.os 2,SV.d (I) (vcBLq3 nd wr txt m x s).snd.snd],Ob.st 96 [SV.os 3,SV.os 4],Ob.buf 5 (vcBLq3 nd wr txt m x s).snd.fst,Ob.row 98 tRow (vcBLq3 nd wr txt m x s).fst.fst,Ob.row 3 (I) (vcBLq3 nd wr txt m x s).fst.snd.fst])∧(decide ((↑(vcBLq1 x s).length:Int)=2)=false→(2:Int)≠(0:Int)∧k (SV.d (Ty.err 73) 2) (vcBLq6 m txt nd wr)))∧(((vcBLq2 s).getD (Int.toNat 0) []==[(115:UInt8)])=false→(2:Int)≠(0:Int)∧k (SV.d (Ty.err 73) 2) (vcBLq6 m txt nd wr)))))))):=by kernel_rfl
open Go.Vc Go.Proofs Go.RowKit
theorem atN_map{l:List (List UInt8)}(h:l.all numB=true):l.map atN=l.map numN:=by
 apply List.map_congr_left
 intro x hx
 exact at_num (List.all_eq_true.1 h x hx)
theorem ownBL(v:GV):OwnOk Tryz.prog (glO v) 34 oBL:=by
 refine own_of (CxOk.mk' Elr_ok (by kernel_rfl) mixed (gl:=glO v) (GOk.cons okLastI.lift Tryz.func60 (by kernel_rfl) (by kernel_rfl) (GOk.cons (okNumP v) Tryz.func61 (by kernel_rfl) (by kernel_rfl) (GOk.cons okSumB.lift Tryz.func62 (by kernel_rfl) (by kernel_rfl) (GOk.cons (PlainOk.sub' glO_M (okSplit v)) Tryz.func63 (by kernel_rfl) (by kernel_rfl) GOk.nil)))) (GoOk.cons (OwnOk.sub glO_T ownBW) Tryz.func16 (by kernel_rfl) (by kernel_rfl) (GoOk.cons (OwnOk.sub glO_T ownBS) Tryz.func17 (by kernel_rfl) (by kernel_rfl) GoOk.nil)) noIt) Tryz.func34 (c:=Tryz.f34.body.getD .skip) (rvs:=[(.tmp 4,tErr)]) (by kernel_rfl) (by kernel_rfl) (by kernel_rfl) ?_
 intro args ob k h hwa hwo
 unfold oBL at h
 split at h
 ·rename_i s m txt nd wr
  obtain⟨⟨hB,hle⟩,hk⟩:=h
  refine⟨anBL s,?_⟩
  show vcO _ _ _ _ _ [.ps 0,.d .str s] (obBk (nd,wr,()) txt m) k
  rw[vcBL]
  unfold vcBLq8 vcBLq7 vcBLq6 vcBLq5 vcBLq4 vcBLq3 vcBLq2 vcBLq1
  have one:(1:I.D)=(1:Int):=rfl
  have i0:Int.toNat 0=0:=rfl
  have i1:Int.toNat 1=1:=rfl
  obtain⟨lb1,lb2⟩:=lastB_bound s 32
  have bad:∀ e:Int,e≠0→badL s=e→k (.d tErr e) (obB ((nd,wr,()),txt,m)):=fun e he h=>by
   have e1:pLE ((nd,wr,()),txt,m) s=e:=by unfold pLE;rw[if_neg (by rw[h];exact he),h]
   have e2:pLT ((nd,wr,()),txt,m) s=((nd,wr,()),txt,m):=by unfold pLT;rw[if_neg (by rw[h];exact he)]
   rw[e1,e2] at hk;exact hk
  have e1:∀ y:Int,(List.replicate 1 (0:Int)).set 0 y=[y]:=fun _=>rfl
  have ea:∀ (m n:List Int),List.append m n=m++n:=fun _ _=>rfl
  simp only[one,i0,i1,e1,ea,Int.toNat_natCast,List.take_length,List.drop_zero,decide_eq_true_eq,decide_eq_false_iff_not,true_and,and_true,inK_i64,Bool.not_eq_true',Bool.not_eq_false',Nat.le_eq]
  refine⟨⟨by omega⟩,fun hneg=>⟨by decide,bad 2 (by decide) ?_⟩,fun hneg => ?_⟩
  ·unfold badL;rw[if_pos hneg]
  ·have eh:List.take (lastB s 32).toNat s=headL s:=rfl
   have et:List.drop (lastB s 32+1).toNat s=tailL s:=rfl
   have ew:cutL (headL s) 32=wordsL s:=rfl
   have hhl:(headL s).length≤1100000:=by unfold headL;rw[List.length_take];omega
   have htl:(tailL s).length≤1100000:=by unfold tailL;rw[List.length_drop];omega
   simp only[eh,et,ew]
   have hn0:¬ lastB s 32<0:=hneg
   have hcl:=cutG_len (headL s) 32 ((headL s).length+1)
   have hwl:(wordsL s).length≤1200000:=Nat.le_trans hcl (by omega)
   have hw1:=cutG_ne (headL s) 32
   rw[ew] at hw1
   have hdl:((wordsL s).drop 1).length=(wordsL s).length - 1:=List.length_drop ..
   have hwm:∀ x∈wordsL s,x.length≤1100000:=fun x hx=>by
    have:x∈splL 32 (headL s):=by rw[← cut_spl];exact hx
    exact Nat.le_trans (splL_le 32 _ x this) hhl
   refine⟨by omega,by omega,by omega,Int.le_refl _,⟨htl⟩,fun hb=>⟨by decide,bad 2 (by decide) ?_⟩,fun hb=>⟨Int.le_refl _,by omega,by omega,⟨hhl⟩,fun hs=>⟨by decide,bad 6 (by decide) ?_⟩,fun hs=>⟨Int.le_refl _,by omega,by omega,⟨hhl,rfl⟩,by omega,by omega,Int.le_refl _,⟨0,⟨⟨Nat.zero_le _,by omega⟩,rfl,hb,hs⟩,?_⟩,fun y ⟨⟨hy,_⟩,ha,_,_⟩=>⟨fun hlt => ?_,fun hge2 => ?_⟩⟩⟩⟩
   ·unfold badL;rw[if_neg hn0,if_pos hb]
   ·unfold badL;rw[if_neg hn0,if_neg (by rw[hb];decide),if_pos (by rw[← at_num hb];exact hs)]
   ·exact⟨rfl,rfl⟩
   ·have hyl:y<((wordsL s).drop 1).length:=by omega
    have eg:((wordsL s).drop 1).getD y []=((wordsL s).drop 1)[y]:=by rw[List.getD_eq_getElem?_getD,List.getElem?_eq_getElem hyl];rfl
    rw[eg]
    refine⟨by omega,hlt,⟨hwm _ (List.mem_of_mem_drop (List.getElem_mem hyl))⟩,fun hn=>⟨by decide,bad 2 (by decide) ?_⟩,fun hn=>⟨?_,by omega,y+1,⟨⟨by omega,by omega⟩,?_,hb,hs⟩,by omega,by omega,?_⟩⟩
    ·have:((wordsL s).drop 1).all numB=false:=List.all_eq_false.2 ⟨_,List.getElem_mem hyl,by rw[hn];decide⟩
     unfold badL;rw[if_neg hn0,if_neg (by rw[hb];decide),if_neg (by rw[← at_num hb,hs];simp),if_pos this]
    ·simp only[List.length_map,List.length_take,List.length_cons,List.length_nil];omega
    ·rw[List.take_succ_eq_append_getElem hyl,List.all_append,ha,List.all_cons,hn];rfl
    ·rw[List.take_succ_eq_append_getElem hyl,List.map_append];rfl
   ·have ey:y=((wordsL s).drop 1).length:=by omega
    subst ey
    rw[List.take_length] at ha
    simp only[List.take_length]
    have hnu:List.map atN ((wordsL s).drop 1)=numsL s:=atN_map ha
    simp only[hnu]
    have hbad:fitL s=false→badL s=2:=fun h=>by
     unfold badL;rw[if_neg hn0,if_neg (by rw[hb];decide),if_neg (by rw[← at_num hb,hs];simp),if_neg (by rw[ha];decide),if_neg (by rw[h];decide)]
    have hgo:fitL s=true→k (.d tErr (pE ((nd,wr,()),txt,m) (numsL s))) (obB (pT ((nd,wr,()),txt,m) (numsL s))):=fun h=>by
     have e0:badL s=0:=by unfold badL;rw[if_neg hn0,if_neg (by rw[hb];decide),if_neg (by rw[← at_num hb,hs];simp),if_neg (by rw[ha];decide),if_pos h]
     have e1:pLE ((nd,wr,()),txt,m) s=pE ((nd,wr,()),txt,m) (numsL s):=by unfold pLE;rw[if_pos e0]
     have e2:pLT ((nd,wr,()),txt,m) s=pT ((nd,wr,()),txt,m) (numsL s):=by unfold pLT;rw[if_pos e0]
     rw[e1,e2] at hk;exact hk
    have w115:((wordsL s).getD 0 []==[119])=true→((wordsL s).getD 0 []==[115])=false:=fun h=>by
     rw[eq_of_beq h];decide
    have h3:(numsL s).length=3→pE ((nd,wr,()),txt,m) (numsL s)=bkE m (writeE (nd,wr,()) ((numsL s).getD 0 0) ((numsL s).getD 1 0) ((numsL s).getD 2 0))∧pT ((nd,wr,()),txt,m) (numsL s)=bkT (nd,wr,()) txt m (writeE (nd,wr,()) ((numsL s).getD 0 0) ((numsL s).getD 1 0) ((numsL s).getD 2 0)) (writeT (nd,wr,()) ((numsL s).getD 0 0) ((numsL s).getD 1 0) ((numsL s).getD 2 0)) (lineF [119] [(numsL s).getD 0 0,(numsL s).getD 1 0,(numsL s).getD 2 0]):=fun h=>by
     unfold pE pT;rw[if_pos h,if_pos h];exact⟨rfl,rfl⟩
    have h2:(numsL s).length=2→pE ((nd,wr,()),txt,m) (numsL s)=bkE m (syncE (nd,wr,()) ((numsL s).getD 0 0) ((numsL s).getD 1 0))∧pT ((nd,wr,()),txt,m) (numsL s)=bkT (nd,wr,()) txt m (syncE (nd,wr,()) ((numsL s).getD 0 0) ((numsL s).getD 1 0)) (syncT (nd,wr,()) ((numsL s).getD 0 0) ((numsL s).getD 1 0)) (lineF [115] [(numsL s).getD 0 0,(numsL s).getD 1 0]):=fun h=>by
     unfold pE pT;rw[if_neg (by omega),if_neg (by omega)];exact⟨rfl,rfl⟩
    refine⟨Int.le_refl _,by omega,fun h119=>⟨fun hl=>⟨by omega,⟨hB.sh,hB.txt,hB.lo,hB.hi⟩,?_⟩,fun hl => ?_⟩,fun h119 => ?_⟩
    ·have:=hgo (by unfold fitL;rw[h119,decide_eq_true (by omega:(numsL s).length=3)];rfl)
     rw[(h3 (by omega)).1,(h3 (by omega)).2] at this
     exact this
    ·refine⟨Int.le_refl _,by omega,fun h115=>absurd h115 (by rw[w115 h119];decide),fun h115=>⟨by decide,bad 2 (by decide) (hbad ?_)⟩⟩
     unfold fitL;rw[h119,h115,decide_eq_false (by omega:¬ (numsL s).length=3)];rfl
    ·refine⟨Int.le_refl _,by omega,fun h115=>⟨fun hl=>⟨by omega,⟨hB.sh,hB.txt,hB.lo,hB.hi⟩,?_⟩,fun hl=>⟨by decide,bad 2 (by decide) (hbad ?_)⟩⟩,fun h115=>⟨by decide,bad 2 (by decide) (hbad ?_)⟩⟩
     ·have:=hgo (by unfold fitL;rw[h119,h115,decide_eq_true (by omega:(numsL s).length=2)];rfl)
      rw[(h2 (by omega)).1,(h2 (by omega)).2] at this
      exact this
     ·unfold fitL;rw[h119,h115,decide_eq_false (by omega:¬ (numsL s).length=2)];rfl
     ·unfold fitL;rw[h119,h115];rfl
 ·exact h.elim
open Go.Vc Go.Proofs Go.RowKit Go.Shelf
attribute [local go_sem] Oper.semAt_some
theorem lines_calls(s:ByteArray)(w:World):Calls Tryz.prog 32 #[.string s] w fun e w'=>e = .returned (.func (.func 57) #[] #[.pointer (some ⟨w.heap.size,0,none⟩)])∧w'=w.alloc (.cells #[.string s] 9):=by
 go_enter Tryz.func32,Tryz.ntmps32
 go_wp2
 go_ret
 exact⟨rfl,rfl⟩
def oLines:OCtr:=fun args ob k=>match args,ob with
 | [.d .str s],[]=>k (.cf 57 0) [.var 9 .str s]
 | _,_=>False
theorem ownLines:OwnOk Tryz.prog [] 32 oLines:=by
 intro args ob k h w M R0 A vals hB hrd IV
 unfold oLines at h
 split at h
 ·rename_i s
  obtain⟨e1,hl⟩:=str_val (IV.tm 0 _ rfl)
  have hv:=vals1 (show vals.size=1 from IV.len)
  rw[e1] at hv
  rw[hv]
  rw[hv] at IV
  refine (lines_calls ⟨s.toArray⟩ w).mono ?_
  rintro e w' ⟨rfl,rfl⟩
  have hnum:A.n=0:=IV.num
  have I2:=IV.add none (fun _ => .pointer (some ⟨w.heap.size,0,none⟩)) (fun b=>b=w.heap.size) (.var 9 .str s) (w':=w.alloc (.cells #[.string ⟨s.toArray⟩] 9)) (Same.alloc w _) (fun b hb _=>Ext.alloc w _ b hb) (fun b hb => .inl ⟨by omega,by simp;omega⟩) (fun hro =>
   ⟨w.heap.size,_,Asg.push_η ..,(Asg.push_F ..).2 rfl,World.alloc_heap_new w _,rfl,hl⟩)
  have h0:(A.pushT (fun _=>Value.pointer (some ⟨w.heap.size,0,none⟩)) (fun b=>b=w.heap.size)).η 0 = .pointer (some ⟨w.heap.size,0,none⟩):=by rw[← hnum,Asg.push_η]
  refine⟨_,_,_,_,rfl,h,I2.out (M':=M) rfl (σ:=[0]) (by decide) (s := .cf 57 0) ?_,fun i hi=>absurd hi (by show ¬ i<0;omega)⟩
  refine⟨by show 0<A.n+1;omega,?_⟩
  rw[h0]
 ·exact h.elim
open Go.Vc Go.Proofs Go.RowKit Go.Shelf
attribute [local go_sem] Oper.semAt_some
theorem linesF_cons{s:List UInt8}(hs:s≠[]):∃ line rest,linesF s=(line,rest)::linesF rest∧rest.length<s.length∧((Lib.indexByte s 10 = -1∧line=s∧rest=[])∨∃ i:Nat,Lib.indexByte s 10=(i:Int)∧i<s.length∧line=s.take (i+1)∧rest=s.drop (i+1)):=by
 have hp:0<s.length:=List.length_pos_iff.2 hs
 rcases idx10 s with ⟨h1,h2⟩ | ⟨i,h1,h2,_,_⟩
 ·refine⟨s,[],by rw[linesF_last hs h1,linesF_nil],by simpa using hp,.inl ⟨?_,rfl,rfl⟩⟩
  have:=Lib.indexByte_ge s 10;omega
 ·exact⟨_,_,linesF_line h1,by rw[List.length_drop];omega,.inr ⟨i,h1,h2,rfl,rfl⟩⟩
theorem lines_drop(s:List UInt8):∀ k,k≤(linesF s).length→linesF (restV linesF s k)=(linesF s).drop k
 | 0,_=>rfl
 | k+1,hk=>by
  have ih:=lines_drop s k (by omega)
  have hne:restV linesF s k≠[]:=by
   intro h
   rw[h,linesF_nil] at ih
   have:=congrArg List.length ih
   rw[List.length_drop,List.length_nil] at this;omega
  obtain⟨line,rest,e1,_,_⟩:=linesF_cons hne
  have e2:(linesF s).drop k=(linesF s)[k]::(linesF s).drop (k+1):=List.drop_eq_getElem_cons (by omega)
  rw[e1,e2] at ih
  injection ih with h1 h2
  show linesF ((linesF s).getD k ([],[])).2=_
  rw[List.getD_eq_getElem?_getD,List.getElem?_eq_getElem (by omega),← h2,Option.getD_some,← h1]
theorem still_tail{P:Program}{Q:Exit→Act→World→Prop}{a:Act}{w:World}{l:List Oper}(n:Nat)(hm:P.follows .mixedOrders=true)(hB:Region.lexTailB .any l.toArray n=true)
 (h:wpStill P l.toArray { w with drawn:=w.drawn+1 } (fun a'=>wpList P l.toArray Q (l.drop n) a' { w with drawn:=w.drawn+1 }) (l.take n) a):RegW P l.toArray true Q a w:=by
 simp only[Region.lexTailB,Bool.and_eq_true,decide_eq_true_eq] at hB
 obtain⟨⟨⟨⟨hsel,hn⟩,hs⟩,hc⟩,hlex⟩:=hB
 have hn':n<l.length:=by simpa using hn
 have htl:(l.take n).length=n:=by simp;omega
 have hdl:(l.drop n).length=l.toArray.size - n:=by simp
 have inv0:HeadInv .any l.toArray n (Array.replicate l.toArray.size false) :=
  ⟨by simp,fun j oj _ hl=>(by rw[getD_replicate_false] at hl;cases hl),fun t _ ht=>getD_in (by simpa using ht) (getD_replicate_false _ _)⟩
 have H:=wpAnyL_lex (md := .any) (g:=l.toArray.size - n) hsel hs hc hn (l.take n) 0 _ a (fun j hj=>by
  have hj':j<n:=by rw[htl] at hj;exact hj
  simp[hj']) (by simpa using htl) inv0 (by rw[htl];exact hlex) h
 refine RegW.any hm ?_
 have:=wpAny_of_head (Q':=Q) (g:=l.toArray.size - n) (fun listed a' hL=>by
  have:=wpAny_of_seq (md := .any) (Q':=Q) (l.drop n) n listed a' { w with drawn:=w.drawn+1 } (fun j=>by simp[List.getElem?_drop]) (by rw[hdl];exact hL.1) hL.2
  rwa [hdl] at this) _ _ _ H
 rw[htl,show n+(l.toArray.size - n)=l.toArray.size by omega] at this
 exact this
def IsFW(F:Fence):Prop:=F=FW none
def cellLen(b:Nat)(w:World):Nat :=
 match w.cell? ⟨b,0,none⟩ with
 | some (.string s)=>s.size
 | _=>0
theorem cell_of{w:World}{b:Nat}{v:Value}{T:TypeId}{q:Nat×Nat}(h:w.heap[b]?=some (.cells #[v] T q)):w.cell? ⟨b,0,none⟩=some v:=by
 unfold World.cell?
 rw[h];rfl
theorem ext_take(r:List UInt8)(i:Nat):(⟨r.toArray⟩:ByteArray).extract 0 i=⟨(r.take i).toArray⟩:=by
 apply ByteArray.ext
 rw[ByteArray.data_extract]
 simp
theorem ext_drop(r:List UInt8)(i j:Nat)(h:r.length≤j):(⟨r.toArray⟩:ByteArray).extract i j=⟨(r.drop i).toArray⟩:=by
 apply ByteArray.ext
 rw[ByteArray.data_extract]
 apply Array.toList_inj.1
 simp
 rw[List.take_of_length_le (by rw[List.length_drop];omega)]
set_option maxRecDepth 100000 in
set_option maxHeartbeats 2000000 in
theorem lines1_in(F:Fence)(hF:IsFW F)(h57:F.fn 57)(hro:F.round=none)(hib:∀ (m:Nat) (r:List UInt8) (w:World),CallsIn F m Tryz.prog 58 #[.string ⟨r.toArray⟩,.int .u8 10] w fun e w'=>e = .returned (.int .i64 (Lib.indexByte r 10))∧w'=w)(h58:F.fn 58)(n l:Nat)(hn:1≤n)(b:Nat)(s:List UInt8)(hs:s.length≤maxLen)(J J' Jx:Nat→World→Prop)(W:World)
 (hR:∀ k W',J k W'→W'.heap[b]?=some (.cells #[strV (restV linesF s k)] 9 (0,0)))
 (hdr:Hid (∀ k X d,J' k X→J' k { X with drawn:=d })) (hst:∀ k W',J k W'→k<(linesF s).length→J' k (W'.setCell ⟨b,0,none⟩ (strV (restV linesF s (k+1)))))
 (hY:∀ m k x W1,((linesF s).map fun p=>strV p.1)[k]?=some x→J' k W1 →
  YieldAt F m Tryz.prog l #[x] W1 fun e W'=>(e = .returned (.bool true)∧J (k+1) W')∨(e = .returned (.bool false)∧Jx (k+1) W')) (h0:J 0 W) :
 CallsIn F n Tryz.prog 57 #[.func (.yield l) #[] #[],.pointer (some ⟨b,0,none⟩)] W fun e W'=>(∃ v,e = .returned v)∧(J (linesF s).length W'∨∃ k,Jx k W'):=by
 refine callsIn_of_wp Tryz.func57 rfl h57 ?_ hro
 simp only[Tryz.ntmps57,List.size_toArray,List.length_cons,List.length_nil,Nat.reduceAdd,Nat.reduceSub,Array.replicate_succ,Array.replicate_zero,List.push_toArray,List.append_toArray,List.nil_append,List.cons_append]
 have hc0:=cell_of (hR 0 W h0)
 gi_wp2
 gi_loopw [3] (fun p wr=>∃ k:Nat,k≤(linesF s).length∧J k wr)
  (fun p wr=>cellLen b wr)
 case atStart =>
  exact⟨0,Nat.zero_le _,h0⟩
 case round =>
  obtain⟨k,hk,hJ⟩:=hrel
  have hb:=hR k wr hJ
  have hc:=cell_of hb
  have hd:=lines_drop s k hk
  by_cases hr:restV linesF s k=[]
  ·rw[hr,linesF_nil] at hd
   have hkl:k=(linesF s).length:=by
    have:=congrArg List.length hd
    rw[List.length_drop,List.length_nil] at this;omega
   subst hkl
   rw[hr] at hc
   change wr.cell? ⟨b,0,none⟩=some (.string ⟨#[]⟩) at hc
   gi_wp2
   go_end0
   exact⟨⟨_,rfl⟩,.inl hJ⟩
  ·obtain⟨line,rest,e1,hlt,hcase⟩:=linesF_cons hr
   rw[e1] at hd
   have hkl:k<(linesF s).length:=by
    rcases Nat.lt_or_ge k (linesF s).length with h | h
    ·exact h
    ·rw[List.drop_of_length_le h] at hd;cases hd
   have hdk:=List.drop_eq_getElem_cons hkl
   rw[← hd] at hdk
   injection hdk with hdk _
   have hxk:((linesF s).map fun p=>strV p.1)[k]?=some (strV line):=by
    rw[List.getElem?_map,List.getElem?_eq_getElem hkl,← hdk];rfl
   have hrest:restV linesF s (k+1)=rest:=by
    show ((linesF s).getD k ([],[])).2=rest
    rw[List.getD_eq_getElem?_getD,List.getElem?_eq_getElem hkl,← hdk];rfl
   have hJ':=hst k wr hJ hkl
   rw[hrest] at hJ'
   have hYk:Hid (∀ W1,J' k W1→YieldAt F (n - 1) Tryz.prog l #[strV line] W1 fun e W'=>(e = .returned (.bool true)∧J (k+1) W')∨(e = .returned (.bool false)∧Jx (k+1) W')):=fun W1 h=>hY (n - 1) k (strV line) W1 hxk h
   have hnext:Hid (∀ W',J (k+1) W'→(∃ k':Nat,k'≤(linesF s).length∧J k' W')∧cellLen b W'<cellLen b wr):=by
    intro W' h
    refine⟨⟨k+1,hkl,h⟩,?_⟩
    unfold cellLen
    rw[cell_of (hR _ _ h),hc,hrest]
    show rest.toArray.size<(restV linesF s k).toArray.size
    simpa using hlt
   obtain⟨r,hrr⟩:∃ r,restV linesF s k=r:=⟨_,rfl⟩
   rw[hrr] at hc hr hcase hlt
   change wr.cell? ⟨b,0,none⟩=some (.string ⟨r.toArray⟩) at hc
   have hpos:0<r.length:=List.length_pos_iff.2 hr
   have hfz:wr.frozen? ⟨b,0,none⟩=false:=by unfold World.frozen?;rw[hb];rfl
   rcases hcase with ⟨hm1,rfl,rfl⟩ | ⟨i,hi,hil,rfl,rfl⟩
   ·have hib':∀ m w,CallsIn F m Tryz.prog 58 #[.string ⟨line.toArray⟩,.int .u8 10] w fun e w'=>e = .returned (.int .i64 (-1))∧w'=w:=fun m w=>by
     have:=hib m line w;rw[hm1] at this;exact this
    obtain⟨fn,tmps,assign,body,hy,hRd⟩:=hYk _ hJ'
    change (Instr.yield l #[.string ⟨line.toArray⟩]).run Tryz.prog (wr.setCell ⟨b,0,none⟩ (.string ⟨#[]⟩))=_ at hy
    clear hY hR hst hd hdk e1 hib
    gi_wp2_with (gi_at_call 58;refine (hib' _ _).mono ?_;rintro e w' ⟨rfl,rfl⟩)
    refine hRd.mono ?_
    rintro e W' (⟨rfl,hJ'⟩ | ⟨rfl,hJx'⟩)
    ·gi_wp2
     exact hnext _ hJ'
    ·gi_wp2
     refine bodyPost_ret (results_none rfl _ _ _) rfl ?_
     exact⟨⟨_,rfl⟩,.inr ⟨_,hJx'⟩⟩
   ·have hib':∀ m w,CallsIn F m Tryz.prog 58 #[.string ⟨r.toArray⟩,.int .u8 10] w fun e w'=>e = .returned (.int .i64 (i:Int))∧w'=w:=fun m w=>by
     have:=hib m r w;rw[hi] at this;exact this
    have hw:IntKind.i64.wrap ((i:Int)+1)=(i:Int)+1:=by
     have h1:(restV linesF s k).length≤maxLen:=by
      cases k with
      | zero=>exact hs
      | succ k =>
       show ((linesF s).getD k ([],[])).2.length≤maxLen
       rw[List.getD_eq_getElem?_getD,List.getElem?_eq_getElem (by omega)]
       exact Nat.le_trans (lines_le _ s (Nat.le_refl _) _ (List.getElem_mem _)).2 hs
     rw[hrr] at h1
     have h2:maxLen≤9223372036854775807:=by decide
     rw[IntKind.wrap_i64];omega
    have hsz:¬ (r.length:Int)<(i:Int)+1:=by omega
    have h01:0≤(i:Int)+1:=by omega
    have h02:(i:Int)+1≤(r.length:Int):=by omega
    clear hY hR hst hd hdk e1 hib hi
    gi_wp2_with (gi_at_call 58;refine (hib' _ _).mono ?_;rintro e w' ⟨rfl,rfl⟩)
    rw[show F=FW none from hF]
    refine RegW.wpIn (by kernel_rfl) ?_ (still_tail 9 (by kernel_rfl) (by kernel_rfl) ?_)
    ·intro a w h
     obtain⟨⟨v,hv⟩,_⟩:(∃ v,Ending.outgrown = .returned v)∧(J (linesF s).length w∨∃ k,Jx k w):=h
     cases hv
    simp only[List.take_succ_cons,List.take_zero,List.drop_succ_cons,List.drop_zero]
    generalize hW1:({ w' with drawn:=w'.drawn+1 }:World)=W1
    have hc2:W1.cell? ⟨b,0,none⟩=some (.string ⟨r.toArray⟩):=by rw[← hW1];exact hc
    have hfz2:W1.frozen? ⟨b,0,none⟩=false:=by rw[← hW1];exact hfz
    have hJ2:J' k (W1.setCell ⟨b,0,none⟩ (strV (r.drop (i+1)))):=by rw[← hW1];exact hdr k _ _ hJ'
    obtain⟨fn,tmps,assign,body,hy,hRd⟩:=hYk _ hJ2
    clear hc hfz hJ' hb hJ
    iterate 9 (refine wpStill_step (fun K hK => ?_);go_simp;refine hK _ ?_;clear hK)
    refine wpStill_nil ?_
    simp only[ext_take,ext_drop _ _ _ (Nat.le_refl _)]
    change (Instr.yield l #[.string ⟨(r.take (i+1)).toArray⟩]).run Tryz.prog (W1.setCell ⟨b,0,none⟩ (.string ⟨(r.drop (i+1)).toArray⟩))=_ at hy
    go_wp2
    gi_wp2
    refine hRd.mono ?_
    rintro e W' (⟨rfl,hJ'⟩ | ⟨rfl,hJx'⟩)
    ·gi_wp2
     exact hnext _ hJ'
    ·gi_wp2
     refine bodyPost_ret (results_none rfl _ _ _) rfl ?_
     exact⟨⟨_,rfl⟩,.inr ⟨_,hJx'⟩⟩
def itcLines:ItC:={ t := .un,e := .str,f:=fun _=>none,v:=some (9,linesF) }
theorem itLines(gl:List (Nat×Dat)):ItOk Tryz.prog gl 57 itcLines:=by
 refine⟨⟨_,Tryz.func57,by kernel_rfl,by kernel_rfl⟩,fun y xs hy=>(by cases hy),fun T f hv s hs => ?_⟩
 have hv:some (9,linesF)=some (T,f):=hv
 injection hv with hv
 injection hv with h1 h2
 subst h1;subst h2
 refine⟨fun p hp => ?_,fun b n l J J' Jx W hJ hJ' hJx hG hst hY h0 => ?_⟩
 ·have:=lines_le _ s (Nat.le_refl _) p hp
  exact⟨Nat.le_trans this.1 hs,Nat.le_trans this.2 hs⟩
 ·have hib:∀ (m:Nat) (r:List UInt8) (w:World),CallsIn (FW none) m Tryz.prog 58 #[.string ⟨r.toArray⟩,.int .u8 10] w fun e w'=>e = .returned (.int .i64 (Lib.indexByte r 10))∧w'=w:=fun m r w=>callsIn_wide.2 (Any.strings_IndexByte laidIdxB ⟨r.toArray⟩ 10 w)
  have hlen:((linesF s).map fun p=>strV p.1).length=(linesF s).length:=List.length_map _
  rw[hlen] at hst ⊢
  have key:=lines1_in (FW none) rfl trivial rfl hib trivial (n+1) l (by omega) b s hs J J' Jx W (fun k W' hk=>(hG k W' hk).2) (fun k X d hk=>hJ' k X _ none hk ⟨rfl,rfl,rfl,Nat.le_refl _,fun k _ _=>rfl⟩ (fun _ h=>by cases h)) hst hY h0
  exact callsIn_FW.2 (callsIn_FW.1 key)
open Go.Vc Go.Proofs Go.RowKit
def poB(n:Int)(w:List (List UInt8)):Nat→BS
 | 0=>(newF n.toNat,[],0)
 | i+1=>pLT (poB n w i) (w.getD i [])
def poG(n:Int)(w:List (List UInt8)):Nat→Bool
 | 0=>true
 | i+1=>poG n w i&&decide (pLE (poB n w i) (w.getD i [])=0)
def poE(n:Int)(w:List (List UInt8))(k:Nat):Nat→BS×Int×Int
 | 0=>(poB n w k,(poB n w k).2.2,0)
 | f+1=>if pLE (poB n w k) (w.getD k [])=0 then poE n w (k+1) f else (poB n w k,(poB n w k).2.2+1,pLE (poB n w k) (w.getD k []))
def wholeL(s:List UInt8):List (List UInt8):=(splL 10 s).dropLast
def poR(n:Int)(s:List UInt8):BS×Int×Int:=poE n (wholeL s) 0 (wholeL s).length
structure POpenOk(n:Int)(s:List UInt8):Prop where
 le:s.length≤1100000
 ok:∀ i,i<(wholeL s).length→poG n (wholeL s) i=true→BkOk (poB n (wholeL s) i)
def oBOpen:OCtr:=fun args ob k=>match args,ob with
 | [.d (.int .i64) n,.d .str s],[]=>s.length≤1100000∧(inB n 1 5=false→k (.tp [.nilp,.d I (0:Int),.d tErr (1:Int)]) []) ∧
  (inB n 1 5=true→POpenOk n s∧((poR n s).2.2=0→k (.tp [.ps 0,.d I (poR n s).2.1,.d tErr (0:Int)]) (obB (poR n s).1))∧((poR n s).2.2≠0→k (.tp [.nilp,.d I (poR n s).2.1,.d tErr (poR n s).2.2]) []))
 | _,_=>False
structure OpSt(n:Int)(s:List UInt8)(x:Nat):Prop where
 b:inB n 1 5=true
 le:x≤(wholeL s).length
 g:poG n (wholeL s) x=true
def obAt(b:BS):List Ob:=[.st 66 [.ps 4,.sf 3 1,.os 5,.d I b.2.2],.st 96 [.os 6,.os 7],.buf 5 b.2.1,.row 98 tRow b.1.1,.row 3 I b.1.2.1]
def anBOpen(n:Int)(s:List UInt8):Ann:=[joinAll,
 rangeAt 6 .str Nat (fun x=>((linesF s).map (·.1)).take x) (fun st x=>{ St.only st [4,5,6,7,23] with ob:=st.ob.take 3++obAt (poB n (wholeL s) x)++[.st 24 [.ps 3],.var 9 .str (restV linesF s x)] }) (fun _ x=>OpSt n s x)]
open Go.Vc
set_option linter.unusedVariables false
theorem vcBOpen(v:GV)(n:Int)(s:List UInt8)(k:SV→List Ob→Prop):vcO ⟨Elr,[(33,cCutS)],glO v,[(57,itcLines)],[(25,oBNew),(32,oLines),(34,oBL)]⟩ (anBOpen n s) (Tryz.f15.body.getD .skip) Tryz.f15.ntmps [(.cell 4 24,.un),(.cell 5 3,I),(.cell 6 29,tErr)] [.d I n,.d .str s] [] k=(
 (inB n 1 5=false→((!decide (1=(0:Int)))=true→k (SV.tp [SV.nilp,SV.d (I) 0,SV.d (Ty.err 73) 1]) [])∧((!decide (1=(0:Int)))=false→(∃ (x:Nat),OpSt n s x∧List.take x (List.map (fun (x:List UInt8×List UInt8)=>x.fst) (linesF s))=[]∧(([]:List Nat)=[]∧([]:List Nat)=[]∧([]:List Nat)=[]∧([]:List Nat)=[]∧True∧True)∧((24=24∧(none:Option tBk.D)=none)∧(3=3∧0=(0:Int))∧(29=29∧0=(0:Int))∧False∧False∧False∧False∧False∧False∧False∧True)∧n=n∧s=s∧Lib.pow10Tab=Lib.pow10Tab∧Value.int IntKind.i64 v.m=Value.int IntKind.i64 v.m∧Value.iface v.t1 v.p1=Value.iface v.t1 v.p1∧Value.iface v.t2 v.p2=Value.iface v.t2 v.p2∧True)∧(∀ (x:Nat),OpSt n s x→True∧False)∧(∀ (x:Nat) (y:List UInt8) (rest:List (List UInt8)),OpSt n s x→List.map (fun (x:List UInt8×List UInt8)=>x.fst) (linesF s)=List.take x (List.map (fun (x:List UInt8×List UInt8)=>x.fst) (linesF s))++y::rest→True∧((!Lib.hasSuffix y [(10:UInt8)])=true→False)∧((!Lib.hasSuffix y [(10:UInt8)])=false→False))∧∀ (x:Nat),OpSt n s x→List.take x (List.map (fun (x:List UInt8×List UInt8)=>x.fst) (linesF s))=List.map (fun (x:List UInt8×List UInt8)=>x.fst) (linesF s)→False))∧(inB n 1 5=true→((!decide (0=(0:Int)))=true→k (SV.tp [SV.nilp,SV.d (I) 0,SV.d (Ty.err 73) 0]) [])∧((!decide (0=(0:Int)))=false→(∃ (x:Nat),OpSt n s x∧List.take x (List.map (fun (x:List UInt8×List UInt8)=>x.fst) (linesF s))=[]∧(([]:List Nat)=[]∧([]:List Nat)=[]∧([]:List Nat)=[]∧([]:List Nat)=[]∧True∧True)∧((24=24∧(none:Option tBk.D)=none)∧(3=3∧0=(0:Int))∧(29=29∧0=(0:Int))∧(True∧True∧True∧0=(poB n (wholeL s) x).snd.snd∧True)∧(True∧True∧True)∧[]=(poB n (wholeL s) x).snd.fst∧(98=98∧List.replicate n.toNat (List.replicate 4 [])=(poB n (wholeL s) x).fst.fst)∧(3=3∧List.replicate n.toNat 0=(poB n (wholeL s) x).fst.snd.fst)∧(True∧True)∧(9=9∧s=restV linesF s x)∧True)∧n=n∧s=s∧Lib.pow10Tab=Lib.pow10Tab∧Value.int IntKind.i64 v.m=Value.int IntKind.i64 v.m∧Value.iface v.t1 v.p1=Value.iface v.t1 v.p1∧Value.iface v.t2 v.p2=Value.iface v.t2 v.p2∧True)∧(∀ (x:Nat),OpSt n s x→True∧9=9∧restV linesF s x=restV linesF s (List.take x (List.map (fun (x:List UInt8×List UInt8)=>x.fst) (linesF s))).length)∧(∀ (x:Nat) (y:List UInt8) (rest:List (List UInt8)),OpSt n s x→List.map (fun (x:List UInt8×List UInt8)=>x.fst) (linesF s)=List.take x (List.map (fun (x:List UInt8×List UInt8)=>x.fst) (linesF s))++y::rest→True∧((!Lib.hasSuffix y [(10:UInt8)])=true→(SV.ps 3=SV.ps 3∧SV.d (I) (poB n (wholeL s) x).snd.snd=SV.d (I) (poB n (wholeL s) x).snd.snd∧True)∧k (SV.tp [SV.ps 0,SV.d (I) (poB n (wholeL s) x).snd.snd,SV.d (Ty.err 73) 0]) [Ob.st 66 [SV.ps 1,SV.sf 0 1,SV.os 2,SV.d (I) (poB n (wholeL s) x).snd.snd],Ob.st 96 [SV.os 3,SV.os 4],Ob.buf 5 (poB n (wholeL s) x).snd.fst,Ob.row 98 tRow (poB n (wholeL s) x).fst.fst,Ob.row 3 (I) (poB n (wholeL s) x).fst.snd.fst])∧((!Lib.hasSuffix y [(10:UInt8)])=false→inK IntKind.i64 ((poB n (wholeL s) x).snd.snd+(1:Int))∧(BkOk (((poB n (wholeL s) x).fst.fst,(poB n (wholeL s) x).fst.snd.fst,()),(poB n (wholeL s) x).snd.fst,(poB n (wholeL s) x).snd.snd)∧(Lib.trimSuffix y [(10:UInt8)]).length≤1100000)∧((!decide (pLE (((poB n (wholeL s) x).fst.fst,(poB n (wholeL s) x).fst.snd.fst,()),(poB n (wholeL s) x).snd.fst,(poB n (wholeL s) x).snd.snd) (Lib.trimSuffix y [(10:UInt8)])=(0:Int)))=true→k (SV.tp [SV.nilp,SV.d (I) ((poB n (wholeL s) x).snd.snd+(1:Int)),SV.d (Ty.err 73) (pLE (((poB n (wholeL s) x).fst.fst,(poB n (wholeL s) x).fst.snd.fst,()),(poB n (wholeL s) x).snd.fst,(poB n (wholeL s) x).snd.snd) (Lib.trimSuffix y [(10:UInt8)]))]) [])∧((!decide (pLE (((poB n (wholeL s) x).fst.fst,(poB n (wholeL s) x).fst.snd.fst,()),(poB n (wholeL s) x).snd.fst,(poB n (wholeL s) x).snd.snd) (Lib.trimSuffix y [(10:UInt8)])=(0:Int)))=false→∃ (x_1:Nat),OpSt n s x_1∧List.take x_1 (List.map (fun (x:List UInt8×List UInt8)=>x.fst) (linesF s))=List.take x (List.map (fun (x:List UInt8×List UInt8)=>x.fst) (linesF s))++[y]∧(([]:List Nat)=[]∧([]:List Nat)=[]∧([]:List Nat)=[]∧([]:List Nat)=[]∧True∧True)∧((24=24∧(none:Option tBk.D)=none)∧(3=3∧0=(0:Int))∧(29=29∧0=(0:Int))∧(True∧True∧True∧(pLT (((poB n (wholeL s) x).fst.fst,(poB n (wholeL s) x).fst.snd.fst,()),(poB n (wholeL s) x).snd.fst,(poB n (wholeL s) x).snd.snd) (Lib.trimSuffix y [(10:UInt8)])).snd.snd=(poB n (wholeL s) x_1).snd.snd∧True)∧(True∧True∧True)∧(pLT (((poB n (wholeL s) x).fst.fst,(poB n (wholeL s) x).fst.snd.fst,()),(poB n (wholeL s) x).snd.fst,(poB n (wholeL s) x).snd.snd) (Lib.trimSuffix y [(10:UInt8)])).snd.fst=(poB n (wholeL s) x_1).snd.fst∧(98=98∧(pLT (((poB n (wholeL s) x).fst.fst,(poB n (wholeL s) x).fst.snd.fst,()),(poB n (wholeL s) x).snd.fst,(poB n (wholeL s) x).snd.snd) (Lib.trimSuffix y [(10:UInt8)])).fst.fst=(poB n (wholeL s) x_1).fst.fst)∧(3=3∧(pLT (((poB n (wholeL s) x).fst.fst,(poB n (wholeL s) x).fst.snd.fst,()),(poB n (wholeL s) x).snd.fst,(poB n (wholeL s) x).snd.snd) (Lib.trimSuffix y [(10:UInt8)])).fst.snd.fst=(poB n (wholeL s) x_1).fst.snd.fst)∧(True∧True)∧(9=9∧restV linesF s ((List.take x (List.map (fun (x:List UInt8×List UInt8)=>x.fst) (linesF s))).length+1)=restV linesF s x_1)∧True)∧n=n∧s=s∧Lib.pow10Tab=Lib.pow10Tab∧Value.int IntKind.i64 v.m=Value.int IntKind.i64 v.m∧Value.iface v.t1 v.p1=Value.iface v.t1 v.p1∧Value.iface v.t2 v.p2=Value.iface v.t2 v.p2∧True)))∧∀ (x:Nat),OpSt n s x→List.take x (List.map (fun (x:List UInt8×List UInt8)=>x.fst) (linesF s))=List.map (fun (x:List UInt8×List UInt8)=>x.fst) (linesF s)→(SV.ps 3=SV.ps 3∧SV.d (I) (poB n (wholeL s) x).snd.snd=SV.d (I) (poB n (wholeL s) x).snd.snd∧True)∧k (SV.tp [SV.ps 0,SV.d (I) (poB n (wholeL s) x).snd.snd,SV.d (Ty.err 73) 0]) [Ob.st 66 [SV.ps 1,SV.sf 0 1,SV.os 2,SV.d (I) (poB n (wholeL s) x).snd.snd],Ob.st 96 [SV.os 3,SV.os 4],Ob.buf 5 (poB n (wholeL s) x).snd.fst,Ob.row 98 tRow (poB n (wholeL s) x).fst.fst,Ob.row 3 (I) (poB n (wholeL s) x).fst.snd.fst]))):=by kernel_rfl
open Go.Vc Go.Proofs Go.RowKit
theorem poE_at(n:Int)(w:List (List UInt8))(m:Nat):∀ x,x≤m→poG n w x=true→poE n w 0 m=poE n w x (m - x)
 | 0,_,_=>rfl
 | x+1,hx,hg=>by
  simp only[poG,Bool.and_eq_true,decide_eq_true_eq] at hg
  rw[poE_at n w m x (by omega) hg.1,show m - x=(m - (x+1))+1 by omega]
  show (if pLE (poB n w x) (w.getD x [])=0 then poE n w (x+1) (m - (x+1)) else _)=_
  rw[if_pos hg.2]
theorem has10(l:List UInt8):Lib.hasSuffix (l++[10]) [10]=true∧Lib.trimSuffix (l++[10]) [10]=l:=by
 have h:Lib.hasSuffix (l++[10]) [10]=true:=by
  unfold Lib.hasSuffix
  rw[List.isSuffixOf_iff_suffix]
  exact List.suffix_append _ _
 refine⟨h,?_⟩
 unfold Lib.trimSuffix
 rw[if_pos h]
 simp
theorem no10{l:List UInt8}(h:(10:UInt8)∉l):Lib.hasSuffix l [10]=false:=by
 rw[Bool.eq_false_iff]
 intro hs
 unfold Lib.hasSuffix at hs
 rw[List.isSuffixOf_iff_suffix] at hs
 exact h (hs.subset (by simp))
theorem lines_whole(s:List UInt8):∃ p:List UInt8,(10:UInt8)∉p∧(linesF s).map (·.1)=(wholeL s).map (· ++ [10])++(if p=[] then[] else[p]):=by
 obtain⟨x,p,h1,h2⟩:=lines_spl s
 refine⟨p,splL_no 10 s p (by rw[h1];simp),?_⟩
 have:wholeL s=x:=by unfold wholeL;rw[h1];simp
 rw[this];exact h2
theorem line_at{s:List UInt8}{x:Nat}{y:List UInt8}{rest:List (List UInt8)}(hx:x≤(wholeL s).length)(h:(linesF s).map (·.1)=((linesF s).map (·.1)).take x++y::rest) :
 x<(linesF s).length∧((x<(wholeL s).length∧Lib.hasSuffix y [10]=true∧Lib.trimSuffix y [10]=(wholeL s).getD x [])∨(x=(wholeL s).length∧Lib.hasSuffix y [10]=false))∧((linesF s).map (·.1)).take (x+1)=((linesF s).map (·.1)).take x++[y]:=by
 have hlen:=congrArg List.length h
 rw[List.length_append,List.length_take,List.length_cons,List.length_map] at hlen
 have hxl:x<(linesF s).length:=by
  rcases Nat.lt_or_ge x (linesF s).length with h | h
  ·exact h
  ·rw[Nat.min_eq_right h] at hlen;omega
 have hy:((linesF s).map (·.1))[x]?=some y:=by
  rw[h,List.getElem?_append_right (by rw[List.length_take];omega),List.length_take,List.length_map,Nat.min_eq_left (Nat.le_of_lt hxl),Nat.sub_self];rfl
 refine⟨hxl,?_,by rw[List.take_add_one,hy];rfl⟩
 obtain⟨p,hp,e⟩:=lines_whole s
 rw[e] at hy
 rcases Nat.lt_or_eq_of_le hx with hlt | heq
 ·left
  rw[List.getElem?_append_left (by rw[List.length_map];exact hlt),List.getElem?_map,List.getElem?_eq_getElem hlt] at hy
  injection hy with hy
  refine⟨hlt,?_⟩
  rw[← hy,List.getD_eq_getElem?_getD,List.getElem?_eq_getElem hlt]
  exact has10 _
 ·right
  refine⟨heq,?_⟩
  rw[List.getElem?_append_right (by rw[List.length_map];omega),List.length_map,heq,Nat.sub_self] at hy
  split at hy
  ·simp at hy
  ·simp at hy;rw[← hy];exact no10 hp
theorem whole_le(s:List UInt8):(wholeL s).length≤(linesF s).length:=by
 obtain⟨p,_,e⟩:=lines_whole s
 have:=congrArg List.length e
 rw[List.length_map,List.length_append,List.length_map] at this
 omega
theorem ownBOpen(v:GV):OwnOk Tryz.prog (glO v) 15 oBOpen:=by
 refine own_of (CxOk.mk' Elr_ok (by kernel_rfl) mixed (gl:=glO v) (GOk.cons okCutS.lift Tryz.func33 (by kernel_rfl) (by kernel_rfl) GOk.nil) (GoOk.cons ownBNew.lift Tryz.func25 (by kernel_rfl) (by kernel_rfl) (GoOk.cons ownLines.lift Tryz.func32 (by kernel_rfl) (by kernel_rfl) (GoOk.cons (ownBL v) Tryz.func34 (by kernel_rfl) (by kernel_rfl) GoOk.nil))) (it:=[(57,itcLines)]) (fun g c h=>by
  obtain⟨rfl,rfl⟩:=Prod.mk.inj (List.mem_singleton.1 h)
  exact itLines _)) Tryz.func15 (c:=Tryz.f15.body.getD .skip) (rvs:=[(.cell 4 24,.un),(.cell 5 3,I),(.cell 6 29,tErr)]) (by kernel_rfl) (by kernel_rfl) (by kernel_rfl) ?_
 intro args ob k h hwa hwo
 unfold oBOpen at h
 split at h
 ·rename_i n s
  obtain⟨hle,hno,hyes⟩:=h
  refine⟨anBOpen n s,?_⟩
  show vcO _ _ _ _ _ [.d I n,.d .str s] [] k
  rw[vcBOpen]
  refine⟨fun hb=>⟨fun _=>hno hb,fun h=>absurd h (by decide)⟩,fun hb=>⟨fun h=>absurd h (by decide),fun _ => ?_⟩⟩
  obtain⟨hP,hok,her⟩:=hyes hb
  have hend:∀ x,poG n (wholeL s) x=true→x=(wholeL s).length→k (.tp [.ps 0,.d I (poB n (wholeL s) x).2.2,.d tErr (0:Int)]) (obB (poB n (wholeL s) x)):=by
   intro x hg hx
   have e:poR n s=(poB n (wholeL s) x,(poB n (wholeL s) x).2.2,0):=by
    unfold poR;rw[poE_at n (wholeL s) _ x (by omega) hg,show (wholeL s).length - x=0 by omega];rfl
   rw[e] at hok;exact hok rfl
  refine⟨⟨0,⟨hb,Nat.zero_le _,rfl⟩,?_⟩,fun x hx=>⟨trivial,rfl,?_⟩,fun x y rest hx hl=>⟨trivial,fun hs => ?_,fun hs => ?_⟩,fun x hx hl => ?_⟩
  ·refine⟨rfl,?_⟩
   repeat' apply And.intro
   all_goals first | trivial | rfl
  ·rw[List.length_take,List.length_map,Nat.min_eq_left]
   have:=whole_le s
   have:=hx.le
   omega
  ·obtain⟨hxl,hc,ht⟩:=line_at hx.le hl
   rcases hc with ⟨_,h1,_⟩ | ⟨h1,_⟩
   ·rw[h1] at hs;cases hs
   ·exact⟨⟨rfl,rfl,trivial⟩,hend x hx.g h1⟩
  ·obtain⟨hxl,hc,ht⟩:=line_at hx.le hl
   rcases hc with ⟨hlt,h1,h2⟩ | ⟨_,h1⟩
   ·have hB:=hP.ok x hlt hx.g
    have hm:(wholeL s).getD x []∈splL 10 s:=by
     have:(wholeL s).getD x []=(wholeL s)[x]:=by rw[List.getD_eq_getElem?_getD,List.getElem?_eq_getElem hlt];rfl
     rw[this]
     exact List.dropLast_subset _ (List.getElem_mem hlt)
    have hwl:=Nat.le_trans (splL_le 10 s _ hm) hle
    rw[h2]
    have hbb:(((poB n (wholeL s) x).1.1,(poB n (wholeL s) x).1.2.1,()),(poB n (wholeL s) x).2.1,(poB n (wholeL s) x).2.2)=poB n (wholeL s) x:=rfl
    rw[hbb]
    have hlo:=hB.lo
    have hhi:=hB.hi
    refine⟨inK_i64.2 ⟨by omega,by omega⟩,⟨hB,hwl⟩,fun he => ?_,fun he => ?_⟩
    ·have he:¬ pLE (poB n (wholeL s) x) ((wholeL s).getD x [])=0:=by simpa using he
     have e:poR n s=(poB n (wholeL s) x,(poB n (wholeL s) x).2.2+1,pLE (poB n (wholeL s) x) ((wholeL s).getD x [])):=by
      unfold poR;rw[poE_at n (wholeL s) _ x (by omega) hx.g,show (wholeL s).length - x=((wholeL s).length - x - 1)+1 by omega]
      show (if pLE (poB n (wholeL s) x) ((wholeL s).getD x [])=0 then _ else _)=_
      rw[if_neg he]
     rw[e] at her;exact her he
    ·have he:pLE (poB n (wholeL s) x) ((wholeL s).getD x [])=0:=by simpa using he
     refine⟨x+1,⟨hb,hlt,?_⟩,ht,?_⟩
     ·simp only[poG,hx.g,he,decide_true,Bool.and_self]
     ·have hmin:(List.take x ((linesF s).map (·.1))).length=x:=by rw[List.length_take,List.length_map];omega
      rw[hmin]
      repeat' apply And.intro
      all_goals first | trivial | rfl
   ·rw[h1] at hs;cases hs
  ·have hlen:=congrArg List.length hl
   rw[List.length_take,List.length_map] at hlen
   have:=whole_le s
   have:=hx.le
   exact⟨⟨rfl,rfl,trivial⟩,hend x hx.g (by omega)⟩
 ·exact h.elim
open Go.Vc Go.Proofs Go.RowKit
def stepB(b:BS)(l:List Int):BS :=
 if l.length=3 then bkT b.1 b.2.1 b.2.2 (writeE b.1 (l.getD 0 0) (l.getD 1 0) (l.getD 2 0)) (writeT b.1 (l.getD 0 0) (l.getD 1 0) (l.getD 2 0)) (lineF [119] [l.getD 0 0,l.getD 1 0,l.getD 2 0])
 else if l.length=2 then bkT b.1 b.2.1 b.2.2 (syncE b.1 (l.getD 0 0) (l.getD 1 0)) (syncT b.1 (l.getD 0 0) (l.getD 1 0)) (lineF [115] [l.getD 0 0,l.getD 1 0])
 else b
def stepRB(x:RB)(l:List Int):RB:=if l.length=3∨l.length=2 then rPT x l else x
def playB(n:Nat)(s:List (List Int)):Nat→BS
 | 0=>(newF n,[],0)
 | i+1=>stepB (playB n s i) (s.getD i [])
def playRB(n:Int)(s:List (List Int)):Nat→RB
 | 0=>((n,List.replicate (n*4).toNat [],List.replicate n.toNat 0,()),[],0,())
 | i+1=>stepRB (playRB n s i) (s.getD i [])
structure BRel(n:Nat)(b:BS)(x:RB):Prop where
 rel:Rel n b.1 x.1
 txt:b.2.1=x.2.1
 many:b.2.2=x.2.2.1
 lo:0≤b.2.2
 hi:b.2.2≤60
 len:b.2.1.length≤b.2.2.toNat*400
theorem lineF_len{w:List UInt8}{l:List Int}(hw:w.length=1)(h3:l.length≤3)(hl:∀ n∈l,inK .i64 n):(lineF w l).length≤100:=by
 have h1:=putS_len w l hl
 have h2:=itoa_len (sumF_k (putS w l))
 have h4:(lineF w l).length=(putS w l).length+1+(Lib.itoa (sumF (putS w l))).length+1:=by
  show (((putS w l++[32])++Lib.itoa (sumF (putS w l)))++[10]).length=_
  simp only[List.length_append,List.length_cons,List.length_nil]
 omega
theorem list3{l:List Int}(h:l.length=3):[l.getD 0 0,l.getD 1 0,l.getD 2 0]=l:=by
 match l,h with
 | [a,b,c],_=>rfl
theorem list2{l:List Int}(h:l.length=2):[l.getD 0 0,l.getD 1 0]=l:=by
 match l,h with
 | [a,b],_=>rfl
theorem stepB3{b:BS}{l:List Int}(h:l.length=3):stepB b l=bkT b.1 b.2.1 b.2.2 (writeE b.1 (l.getD 0 0) (l.getD 1 0) (l.getD 2 0)) (writeT b.1 (l.getD 0 0) (l.getD 1 0) (l.getD 2 0)) (lineF [119] [l.getD 0 0,l.getD 1 0,l.getD 2 0]):=by unfold stepB;rw[if_pos h]
theorem stepB2{b:BS}{l:List Int}(h:l.length=2):stepB b l=bkT b.1 b.2.1 b.2.2 (syncE b.1 (l.getD 0 0) (l.getD 1 0)) (syncT b.1 (l.getD 0 0) (l.getD 1 0)) (lineF [115] [l.getD 0 0,l.getD 1 0]):=by unfold stepB;rw[if_neg (by omega),if_pos h]
theorem stepB0{b:BS}{l:List Int}(h3:¬ l.length=3)(h2:¬ l.length=2):stepB b l=b:=by unfold stepB;rw[if_neg h3,if_neg h2]
theorem stepR1{x:RB}{l:List Int}(h:l.length=3∨l.length=2):stepRB x l=rPT x l:=by unfold stepRB;rw[if_pos h]
theorem stepR0{x:RB}{l:List Int}(h3:¬ l.length=3)(h2:¬ l.length=2):stepRB x l=x:=by unfold stepRB;rw[if_neg (by omega)]
section
variable {n:Nat} {W:Nat→Int→Prop} {H:Nat→Nat→Va→Prop} {b:BS} {x:RB}
theorem BRel.err3(I:NInv n W H b.1)(R:BRel n b x){l:List Int}(h3:l.length=3):rPE x l=bkE b.2.2 (writeE b.1 (l.getD 0 0) (l.getD 1 0) (l.getD 2 0)):=by
 have hlo:=R.lo;have hhi:=R.hi
 unfold rPE bkE rNE
 rw[← R.many,if_pos h3,Rel.writeE I R.rel]
 by_cases h:b.2.2=60
 ·rw[if_pos (by omega),if_pos h]
 ·rw[if_neg (by omega),if_neg h]
theorem BRel.err2(I:NInv n W H b.1)(R:BRel n b x){l:List Int}(h2:l.length=2):rPE x l=bkE b.2.2 (syncE b.1 (l.getD 0 0) (l.getD 1 0)):=by
 have hlo:=R.lo;have hhi:=R.hi
 unfold rPE bkE rNE
 rw[← R.many,if_neg (show ¬ l.length=3 by omega),Rel.syncE I R.rel]
 by_cases h:b.2.2=60
 ·rw[if_pos (by omega),if_pos h]
 ·rw[if_neg (by omega),if_neg h]
theorem BRel.ok(I:NInv n W H b.1)(R:BRel n b x){l:List Int}(h:l.length=3∨l.length=2):PutOk x l:=by
 have hlo:=R.lo;have hhi:=R.hi;have hln:=R.len
 refine⟨R.rel.sh I,h,fun _ h0=>Rel.syOk I R.rel h0,?_,by rw[← R.many];exact hlo,by rw[← R.many];exact hhi⟩
 rw[← R.txt];omega
theorem bkE_ne{m e:Int}(h:bkE m e=0):m≠60:=by
 intro hm;unfold bkE at h;rw[if_pos hm] at h;cases h
theorem app_len(m n:List UInt8):(List.append m n).length=m.length+n.length:=List.length_append
theorem BRel.step(I:NInv n (fun _ _=>True) H b.1)(R:BRel n b x)(l:List Int)(hl:∀ v∈l,inK .i64 v):∃ H',NInv n (fun _ _=>True) H' (stepB b l).1∧BRel n (stepB b l) (stepRB x l):=by
 have hlo:=R.lo;have hhi:=R.hi;have hln:=R.len
 by_cases h3:l.length=3
 ·have ee:=BRel.err3 I R h3
  rw[stepB3 h3,stepR1 (.inl h3)]
  by_cases he:bkE b.2.2 (writeE b.1 (l.getD 0 0) (l.getD 1 0) (l.getD 2 0))=0
  ·have hne:=bkE_ne he
   have e1:bkT b.1 b.2.1 b.2.2 (writeE b.1 (l.getD 0 0) (l.getD 1 0) (l.getD 2 0)) (writeT b.1 (l.getD 0 0) (l.getD 1 0) (l.getD 2 0)) (lineF [119] [l.getD 0 0,l.getD 1 0,l.getD 2 0])=(writeT b.1 (l.getD 0 0) (l.getD 1 0) (l.getD 2 0),List.append b.2.1 (lineF [119] l),b.2.2+1):=by unfold bkT;rw[if_pos he,list3 h3]
   have e2:rPT x l=(rWriteT x.1 (l.getD 0 0) (l.getD 1 0) (l.getD 2 0),List.append x.2.1 (lineF [119] l),x.2.2.1+1,()):=by
    unfold rPT;rw[if_pos (by rw[ee];exact he)];unfold rNT wordF;rw[if_pos h3,if_pos h3]
   rw[e1,e2]
   obtain⟨H',I'⟩:=I.write (l.getD 0 0) (l.getD 1 0) (l.getD 2 0) fun _=>trivial
   have hll:=lineF_len (w:=[119]) rfl (by omega) hl
   refine⟨H',I',⟨Rel.write I R.rel _ _ _,by show List.append b.2.1 _=List.append x.2.1 _;rw[R.txt],by show b.2.2+1=x.2.2.1+1;rw[R.many],by show 0≤b.2.2+1;omega,by show b.2.2+1≤60;omega,?_⟩⟩
   show (List.append b.2.1 (lineF [119] l)).length≤(b.2.2+1).toNat*400
   rw[app_len];omega
  ·have e1:∀ t' line,bkT b.1 b.2.1 b.2.2 (writeE b.1 (l.getD 0 0) (l.getD 1 0) (l.getD 2 0)) t' line=b:=fun t' line=>by unfold bkT;rw[if_neg he]
   have e2:rPT x l=x:=by unfold rPT;rw[if_neg (by rw[ee];exact he)]
   rw[e1,e2];exact⟨H,I,R⟩
 ·by_cases h2:l.length=2
  ·have ee:=BRel.err2 I R h2
   rw[stepB2 h2,stepR1 (.inr h2)]
   by_cases he:bkE b.2.2 (syncE b.1 (l.getD 0 0) (l.getD 1 0))=0
   ·have hne:=bkE_ne he
    have e1:bkT b.1 b.2.1 b.2.2 (syncE b.1 (l.getD 0 0) (l.getD 1 0)) (syncT b.1 (l.getD 0 0) (l.getD 1 0)) (lineF [115] [l.getD 0 0,l.getD 1 0])=(syncT b.1 (l.getD 0 0) (l.getD 1 0),List.append b.2.1 (lineF [115] l),b.2.2+1):=by unfold bkT;rw[if_pos he,list2 h2]
    have e2:rPT x l=(rSyncT x.1 (l.getD 0 0) (l.getD 1 0),List.append x.2.1 (lineF [115] l),x.2.2.1+1,()):=by
     unfold rPT;rw[if_pos (by rw[ee];exact he)];unfold rNT wordF;rw[if_neg h3,if_neg h3]
    rw[e1,e2]
    have hll:=lineF_len (w:=[115]) rfl (by omega) hl
    refine⟨H,I.sync _ _,⟨Rel.sync I R.rel _ _,by show List.append b.2.1 _=List.append x.2.1 _;rw[R.txt],by show b.2.2+1=x.2.2.1+1;rw[R.many],by show 0≤b.2.2+1;omega,by show b.2.2+1≤60;omega,?_⟩⟩
    show (List.append b.2.1 (lineF [115] l)).length≤(b.2.2+1).toNat*400
    rw[app_len];omega
   ·have e1:∀ t' line,bkT b.1 b.2.1 b.2.2 (syncE b.1 (l.getD 0 0) (l.getD 1 0)) t' line=b:=fun t' line=>by unfold bkT;rw[if_neg he]
    have e2:rPT x l=x:=by unfold rPT;rw[if_neg (by rw[ee];exact he)]
    rw[e1,e2];exact⟨H,I,R⟩
  ·rw[stepB0 h3 h2,stepR0 h3 h2];exact⟨H,I,R⟩
end
theorem getD_inK{s:List (List Int)}(hs:∀ l∈s,∀ v∈l,inK .i64 v)(i:Nat):∀ v∈s.getD i [],inK .i64 v:=by
 intro v hv
 by_cases h:i<s.length
 ·rw[List.getD_eq_getElem?_getD,List.getElem?_eq_getElem h] at hv
  exact hs _ (List.getElem_mem h) v hv
 ·rw[List.getD_eq_getElem?_getD,List.getElem?_eq_none (by omega)] at hv
  simp at hv
theorem playB_rel{n:Int}(hb:inB n 1 5=true){s:List (List Int)}(hs:∀ l∈s,∀ v∈l,inK .i64 v):∀ i,∃ H,NInv n.toNat (fun _ _=>True) H (playB n.toNat s i).1∧BRel n.toNat (playB n.toNat s i) (playRB n s i)
 | 0=>by
  obtain⟨n1,n5,m1,m5⟩:=inB5 hb
  have R:=Rel.init n.toNat
  rw[show ((n.toNat:Nat):Int)=n by omega] at R
  exact⟨_,NInv.init _ n1 n5,⟨R,rfl,rfl,Int.le_refl _,by show (0:Int)≤60;decide,Nat.zero_le _⟩⟩
 | i+1=>by
  obtain⟨H,I,R⟩:=playB_rel hb hs i
  exact BRel.step I R _ (getD_inK hs i)
theorem playB_succ(n:Nat)(s:List (List Int))(i:Nat):playB n s (i+1)=stepB (playB n s i) (s.getD i []):=rfl
def BInv(n:Nat)(b:BS):Prop:=∃ H x,NInv n (fun _ _=>True) H b.1∧BRel n b x
theorem BInv.step{n:Nat}{b:BS}(h:BInv n b)(l:List Int)(hl:∀ v∈l,inK .i64 v):BInv n (stepB b l):=by
 obtain⟨H,x,I,R⟩:=h
 obtain⟨H',I',R'⟩:=BRel.step I R l hl
 exact⟨H',_,I',R'⟩
theorem BInv.ok{n:Nat}{b:BS}(h:BInv n b):BkOk b:=by
 obtain⟨H,x,I,R⟩:=h
 have h1:=R.lo;have h2:=R.hi;have h3:=R.len
 exact⟨I.sh,by omega,h1,h2⟩
theorem BInv.nlen{n:Nat}{b:BS}(h:BInv n b):NetLen b.1:=by
 obtain⟨H,x,I,R⟩:=h
 exact I.nlen
theorem BInv.txt{n:Nat}{b:BS}(h:BInv n b):b.2.1.length≤24000:=by
 obtain⟨H,x,I,R⟩:=h
 have h1:=R.lo;have h2:=R.hi;have h3:=R.len
 omega
theorem BInv.init{n:Int}(hb:inB n 1 5=true):BInv n.toNat (newF n.toNat,[],0):=by
 obtain⟨H,I,R⟩:=playB_rel hb (s:=[]) (fun l h=>by cases h) 0
 exact⟨H,_,I,R⟩
theorem BInv.play{n:Int}(hb:inB n 1 5=true){s:List (List Int)}(hs:∀ l∈s,∀ v∈l,inK .i64 v)(i:Nat):BInv n.toNat (playB n.toNat s i):=by
 obtain⟨H,I,R⟩:=playB_rel hb hs i
 exact⟨H,_,I,R⟩
theorem pT_step{b:BS}{l:List Int}(h:l.length=3∨l.length=2):pT b l=stepB b l:=by
 unfold pT stepB
 by_cases h3:l.length=3
 ·rw[if_pos h3,if_pos h3]
 ·rw[if_neg h3,if_neg h3,if_pos (by omega)]
theorem fit_len{s:List UInt8}(h:badL s=0):(numsL s).length=3∨(numsL s).length=2:=by
 unfold badL at h
 split at h
 ·cases h
 ·split at h
  ·cases h
  ·split at h
   ·cases h
   ·split at h
    ·cases h
    ·split at h
     ·rename_i hf
      unfold fitL at hf
      simp only[Bool.or_eq_true,Bool.and_eq_true,decide_eq_true_eq] at hf
      rcases hf with hf | hf
      ·exact .inl hf.2
      ·exact .inr hf.2
     ·cases h
theorem numN_k(s:List UInt8):inK .i64 (numN s):=by
 rw[inK_i64]
 unfold numN
 split
 ·have:∀ i,-9223372036854775808≤numW s i∧numW s i≤9223372036854775807:=by
   intro i
   cases i with
   | zero=>exact⟨by show (-9223372036854775808:Int)≤0;decide,by show (0:Int)≤9223372036854775807;decide⟩
   | succ i=>simp only[numW,wr64_mod];omega
  exact this _
 ·exact⟨by decide,by decide⟩
theorem nums_k(s:List UInt8):∀ v∈numsL s,inK .i64 v:=by
 intro v hv
 obtain⟨x,_,rfl⟩:=List.mem_map.1 hv
 exact numN_k x
theorem BInv.line{n:Nat}{b:BS}(h:BInv n b)(s:List UInt8):BInv n (pLT b s):=by
 unfold pLT
 split
 ·rename_i h0
  rw[pT_step (fit_len h0)]
  exact h.step _ (nums_k s)
 ·exact h
theorem BInv.lines{n:Int}(hb:inB n 1 5=true)(w:List (List UInt8)):∀ i,BInv n.toNat (poB n w i)
 | 0=>BInv.init hb
 | i+1=>(BInv.lines hb w i).line _
open Go.Vc Go.Proofs Go.RowKit
def midB(n:Nat)(s:List (List Int))(i:Nat):BS:=if (s.getD i []).length=3 then playB n s (i+1) else playB n s i
open Go.Vc
set_option linter.unusedVariables false
open Go.Vc Go.Proofs Go.RowKit
open Go.Vc Go.Proofs Go.RowKit
theorem splL_sep(c:UInt8)(r:List UInt8):∀ a,splL c (a++c::r)=splL c a++splL c r
 | []=>by
  show (if c=c then[]::splL c r else _)=_
  rw[if_pos rfl];rfl
 | b::a=>by
  have ih:=splL_sep c r a
  obtain⟨p,q,e⟩:=splL_ne c a
  show (if b=c then[]::splL c (a++c::r) else hdCons b (splL c (a++c::r)))=(if b=c then[]::splL c a else hdCons b (splL c a))++splL c r
  rw[ih]
  split
  ·rfl
  ·rw[e];rfl
theorem splL_one(c:UInt8):∀ r,c∉r→splL c r=[r]
 | [],_=>rfl
 | b::r,h=>by
  have h1:b≠c:=fun e=>h (by rw[e];exact List.mem_cons_self ..)
  have ih:=splL_one c r (fun hc=>h (List.mem_cons_of_mem _ hc))
  show (if b=c then _ else hdCons b (splL c r))=_
  rw[if_neg h1,ih];rfl
theorem dec_mem{m:Nat}{b:UInt8}(h:b∈Lib.decDigits m):48≤b.toNat∧b.toNat≤57:=by
 have:=List.all_eq_true.1 (dec_all m) b h
 unfold isDg at this
 simpa using this
theorem itoa_mem{n:Int}{b:UInt8}(h:b∈Lib.itoa n):b.toNat≠32∧b.toNat≠10:=by
 unfold Lib.itoa at h
 split at h
 ·rcases List.mem_cons.1 h with h | h
  ·subst h;exact⟨by decide,by decide⟩
  ·have:=dec_mem h;omega
 ·have:=dec_mem h;omega
theorem itoa_no(n:Int):(32:UInt8)∉Lib.itoa n∧(10:UInt8)∉Lib.itoa n :=
 ⟨fun h=>(itoa_mem h).1 rfl,fun h=>(itoa_mem h).2 rfl⟩
theorem putS_cons(w:List UInt8)(n:Int)(l:List Int):putS w (n::l)=putS (w++32::Lib.itoa n) l:=rfl
theorem spl_put(l:List Int):∀ w,splL 32 (putS w l)=splL 32 w++l.map Lib.itoa:=by
 induction l with
 | nil=>intro w;simp[putS]
 | cons n l ih =>
  intro w
  rw[putS_cons,ih,splL_sep,splL_one 32 _ (itoa_no n).1,List.map_cons,List.append_assoc];rfl
theorem put_no10(l:List Int):∀ w,(10:UInt8)∉w→(10:UInt8)∉putS w l:=by
 induction l with
 | nil=>intro w h;exact h
 | cons n l ih =>
  intro w h
  rw[putS_cons]
  refine ih _ fun hm => ?_
  rcases List.mem_append.1 hm with hm | hm
  ·exact h hm
  ·rcases List.mem_cons.1 hm with hm | hm
   ·cases hm
   ·exact (itoa_no n).2 hm
def bodyF(w:List UInt8)(l:List Int):List UInt8:=putS w l++32::Lib.itoa (sumF (putS w l))
theorem line_body(w:List UInt8)(l:List Int):lineF w l=bodyF w l++[10]:=by
 show (((putS w l++[32])++Lib.itoa (sumF (putS w l)))++[10])=_
 unfold bodyF
 simp
theorem body_no10{w:List UInt8}(h:(10:UInt8)∉w)(l:List Int):(10:UInt8)∉bodyF w l:=by
 intro hm
 rcases List.mem_append.1 hm with hm | hm
 ·exact put_no10 l w h hm
 ·rcases List.mem_cons.1 hm with hm | hm
  ·cases hm
  ·exact (itoa_no _).2 hm
theorem last_at{s:List UInt8}{p:Nat}(hp:p<s.length)(h1:s.getD p 0=32)(h2:∀ j,p<j→j<s.length→s.getD j 0≠32):lastB s 32=(p:Int):=by
 have key:∀ k,p<k→k≤s.length→Lib.lastIdx ⟨s.toArray⟩ 32 k=(p:Int):=by
  intro k
  induction k with
  | zero=>intro h;omega
  | succ k ih =>
   intro hk hl
   rw[lastIdx_succ]
   by_cases e:k=p
   ·subst e
    rw[if_pos (by rw[h1];rfl)]
   ·rw[if_neg (fun h=>h2 k (by omega) (by omega) (UInt8.toNat_inj.1 (by
     have:(32:UInt8).toNat=32:=rfl
     omega)))]
    exact ih (by omega) (by omega)
 unfold lastB Lib.lastIndexByte
 rw[bsz]
 exact key s.length hp (Nat.le_refl _)
theorem last_app(h r:List UInt8)(hr:(32:UInt8)∉r):lastB (h++32::r) 32=(h.length:Int):=by
 refine last_at (by rw[List.length_append,List.length_cons];omega) ?_ fun j hj hl he => ?_
 ·rw[List.getD_eq_getElem?_getD,List.getElem?_append_right (Nat.le_refl _),Nat.sub_self];rfl
 ·rw[List.getD_eq_getElem?_getD,List.getElem?_append_right (by omega)] at he
  obtain⟨i,hi⟩:∃ i,j - h.length=i+1:=⟨j - h.length - 1,by omega⟩
  rw[hi,List.getElem?_cons_succ] at he
  have hil:i<r.length:=by rw[List.length_append,List.length_cons] at hl;omega
  rw[List.getElem?_eq_getElem hil] at he
  have he:r[i]=32:=he
  exact hr (by rw[← he];exact List.getElem_mem hil)
theorem body_parts{w:List UInt8}{l:List Int}:lastB (bodyF w l) 32=((putS w l).length:Int)∧headL (bodyF w l)=putS w l∧tailL (bodyF w l)=Lib.itoa (sumF (putS w l)):=by
 have h:=last_app (putS w l) (Lib.itoa (sumF (putS w l))) (itoa_no _).1
 refine⟨h,?_,?_⟩
 ·unfold headL
  rw[show lastB (bodyF w l) 32=_ from h,Int.toNat_natCast]
  unfold bodyF
  rw[List.take_left']
  rfl
 ·unfold tailL
  rw[show lastB (bodyF w l) 32=_ from h,show ((((putS w l).length:Nat):Int)+1).toNat=(putS w l).length+1 by omega]
  unfold bodyF
  simp[List.drop_append]
theorem sumF_lo(s:List UInt8):0≤sumF s∧sumF s<9973:=by unfold sumF;omega
theorem num_itoa{n:Int}(h0:0≤n)(h1:n<9223372036854775808):numB (Lib.itoa n)=true∧numN (Lib.itoa n)=n:=by
 obtain⟨m,rfl⟩:∃ m:Nat,n=(m:Int):=⟨n.toNat,by omega⟩
 rw[Lib.itoa_nonneg]
 exact numB_dec (by omega)
theorem body_ok{w:List UInt8}{l:List Int}(hw:(w=[119]∧l.length=3)∨(w=[115]∧l.length=2))(h0:∀ v∈l,0≤v)(hk:∀ v∈l,inK .i64 v):badL (bodyF w l)=0∧numsL (bodyF w l)=l:=by
 obtain⟨e1,e2,e3⟩:=body_parts (w:=w) (l:=l)
 have hl:∀ v∈l,numB (Lib.itoa v)=true∧numN (Lib.itoa v)=v:=fun v hv=>num_itoa (h0 v hv) (by have:=inK_i64.1 (hk v hv);omega)
 have hw32:(32:UInt8)∉w:=by rcases hw with ⟨rfl,_⟩ | ⟨rfl,_⟩<;>decide
 have ew:wordsL (bodyF w l)=w::l.map Lib.itoa:=by
  unfold wordsL
  rw[e2]
  have:=cut_spl (putS w l) 32
  rw[show (((32:UInt8).toNat:Nat):Int)=32 from rfl] at this
  rw[this,spl_put,splL_one 32 w hw32];rfl
 have en:numsL (bodyF w l)=l:=by
  unfold numsL
  rw[ew,List.drop_succ_cons,List.drop_zero,List.map_map]
  conv=>rhs;rw[← List.map_id l]
  exact List.map_congr_left fun v hv=>(hl v hv).2
 have ha:((wordsL (bodyF w l)).drop 1).all numB=true:=by
  rw[ew,List.drop_succ_cons,List.drop_zero,List.all_eq_true]
  intro x hx
  obtain⟨v,hv,rfl⟩:=List.mem_map.1 hx
  exact (hl v hv).1
 obtain⟨s0,s1⟩:=sumF_lo (putS w l)
 obtain⟨t1,t2⟩:=num_itoa s0 (by omega:sumF (putS w l)<9223372036854775808)
 refine⟨?_,en⟩
 have hf:fitL (bodyF w l)=true:=by
  unfold fitL
  rw[ew,en]
  rcases hw with ⟨rfl,h⟩ | ⟨rfl,h⟩
  ·rw[h];rfl
  ·rw[h];rfl
 unfold badL
 rw[e1,e2,e3,if_neg (by omega),if_neg (by rw[t1];decide),if_neg (by rw[t2];simp),if_neg (by rw[ha];decide),if_pos hf]
open Go.Vc Go.Proofs Go.RowKit
def okS(b:BS)(l:List Int):Bool:=(decide (l.length=3)||decide (l.length=2))&&decide (pE b l=0)
def sucL(n:Nat)(s:List (List Int)):Nat→List (List Int)
 | 0=>[]
 | i+1=>if okS (playB n s i) (s.getD i [])=true then sucL n s i++[s.getD i []] else sucL n s i
def bodyL(l:List Int):List UInt8:=bodyF (wordF l) l
theorem okS_len{b:BS}{l:List Int}(h:okS b l=true):(l.length=3∨l.length=2)∧pE b l=0:=by
 unfold okS at h
 simpa using h
theorem bk0{m e:Int}(h:bkE m e=0):e=0:=by
 unfold bkE at h
 split at h
 ·cases h
 ·exact h
theorem inB_lo{n a b:Int}(h:inB n a b=true):a≤n∧n≤b:=inB_iff.1 h
theorem okS_lo{b:BS}{l:List Int}(h:okS b l=true):∀ v∈l,0≤v:=by
 obtain⟨hl,he⟩:=okS_len h
 unfold pE at he
 by_cases h3:l.length=3
 ·rw[if_pos h3] at he
  have:=bk0 he
  match l,h3 with
  | [p,k,v],_ =>
   have this:writeE b.1 p k v=0:=this
   unfold writeE at this
   split at this
   ·rename_i hc
    simp only[inNet,Bool.and_eq_true] at hc
    have h1:=(inB_lo hc.1.1).1
    have h2:=(inB_lo hc.1.2).1
    have h3:=(inB_lo hc.2).1
    intro x hx
    simp only[List.mem_cons,List.not_mem_nil,or_false] at hx
    rcases hx with rfl | rfl | rfl<;>assumption
   ·cases this
 ·rw[if_neg h3] at he
  have:=bk0 he
  have h2:l.length=2:=by omega
  match l,h2 with
  | [p,k],_ =>
   have this:syncE b.1 p k=0:=this
   unfold syncE at this
   split at this
   ·rename_i hc
    simp only[inNet,Bool.and_eq_true] at hc
    have h1:=(inB_lo hc.1.1).1
    have h2:=(inB_lo hc.2.1).1
    intro x hx
    simp only[List.mem_cons,List.not_mem_nil,or_false] at hx
    rcases hx with rfl | rfl<;>assumption
   ·cases this
theorem wordF_ok{l:List Int}(h:l.length=3∨l.length=2):(wordF l=[119]∧l.length=3)∨(wordF l=[115]∧l.length=2):=by
 unfold wordF
 by_cases h3:l.length=3
 ·rw[if_pos h3];exact .inl ⟨rfl,h3⟩
 ·rw[if_neg h3];exact .inr ⟨rfl,by omega⟩
theorem okS_no{b:BS}{l:List Int}(h:okS b l=false):stepB b l=b:=by
 by_cases hl:l.length=3∨l.length=2
 ·have he:pE b l≠0:=by
   intro he
   unfold okS at h
   rw[he] at h
   rcases hl with hl | hl<;>(rw[hl] at h;cases h)
  rw[← pT_step hl]
  unfold pE at he
  unfold pT
  by_cases h3:l.length=3
  ·rw[if_pos h3] at he ⊢
   unfold bkT;rw[if_neg he]
  ·rw[if_neg h3] at he ⊢
   unfold bkT;rw[if_neg he]
 ·unfold stepB
  rw[if_neg (by omega),if_neg (by omega)]
theorem okS_yes{b:BS}{l:List Int}(h:okS b l=true):(stepB b l).2.1=b.2.1++(bodyL l++[10])∧(stepB b l).2.2=b.2.2+1:=by
 obtain⟨hl,he⟩:=okS_len h
 have hw:=line_body (wordF l) l
 unfold bodyL
 rw[← hw,← pT_step hl]
 unfold pE at he
 unfold pT
 by_cases h3:l.length=3
 ·rw[if_pos h3] at he ⊢
  unfold bkT;rw[if_pos he,list3 h3]
  unfold wordF;rw[if_pos h3];exact⟨rfl,rfl⟩
 ·rw[if_neg h3] at he ⊢
  unfold bkT;rw[if_pos he,list2 (by omega)]
  unfold wordF;rw[if_neg h3];exact⟨rfl,rfl⟩
theorem playB_app(n:Nat)(s t:List (List Int)):∀ i,i≤s.length→playB n (s++t) i=playB n s i
 | 0,_=>rfl
 | i+1,h=>by
  have e:(s++t).getD i []=s.getD i []:=by
   rw[List.getD_eq_getElem?_getD,List.getD_eq_getElem?_getD,List.getElem?_append_left (by omega)]
  rw[playB_succ,playB_succ,playB_app n s t i (by omega),e]
section
variable (n:Nat) (s:List (List Int))
theorem suc_play:∀ i,playB n (sucL n s i) (sucL n s i).length=playB n s i
 | 0=>rfl
 | i+1=>by
  have ih:=suc_play i
  by_cases h:okS (playB n s i) (s.getD i [])=true
  ·have e:sucL n s (i+1)=sucL n s i++[s.getD i []]:=if_pos h
   rw[e,List.length_append,List.length_singleton,playB_succ,playB_app _ _ _ _ (Nat.le_refl _),ih,playB_succ]
   congr 1
   rw[List.getD_eq_getElem?_getD,List.getElem?_append_right (Nat.le_refl _),Nat.sub_self];rfl
  ·have e:sucL n s (i+1)=sucL n s i:=if_neg h
   rw[e,ih,playB_succ,okS_no (by simpa using h)]
theorem suc_pre:∀ (i d:Nat),∃ t,sucL n s (i+d)=sucL n s i++t
 | i,0=>⟨[],by simp⟩
 | i,d+1=>by
  obtain⟨t,e⟩:=suc_pre i d
  show ∃ t,(if okS (playB n s (i+d)) (s.getD (i+d) [])=true then sucL n s (i+d)++[s.getD (i+d) []] else sucL n s (i+d))=_
  split
  ·exact⟨t++[s.getD (i+d) []],by rw[e,List.append_assoc]⟩
  ·exact⟨t,e⟩
theorem suc_ok:∀ (i j:Nat),j<(sucL n s i).length→okS (playB n (sucL n s i) j) ((sucL n s i).getD j [])=true
 | 0,j,h=>by simp[sucL] at h
 | i+1,j,h=>by
  by_cases hk:okS (playB n s i) (s.getD i [])=true
  ·have e:sucL n s (i+1)=sucL n s i++[s.getD i []]:=if_pos hk
   rw[e] at h ⊢
   rw[List.length_append,List.length_singleton] at h
   rw[playB_app _ _ _ _ (by omega)]
   by_cases hj:j<(sucL n s i).length
   ·rw[List.getD_eq_getElem?_getD,List.getElem?_append_left hj,← List.getD_eq_getElem?_getD]
    exact suc_ok i j hj
   ·have:j=(sucL n s i).length:=by omega
    subst this
    rw[List.getD_eq_getElem?_getD,List.getElem?_append_right (Nat.le_refl _),Nat.sub_self,suc_play]
    exact hk
  ·have e:sucL n s (i+1)=sucL n s i:=if_neg hk
   rw[e] at h ⊢
   exact suc_ok i j h
theorem suc_len(i:Nat):(sucL n s i).length≤i:=by
 induction i with
 | zero=>exact Nat.le_refl _
 | succ i ih =>
  simp only[sucL]
  split
  ·rw[List.length_append,List.length_singleton];omega
  ·omega
def textL(L:List (List Int)):List UInt8:=(L.map fun l=>bodyL l++[10]).flatten
theorem textL_snoc(L:List (List Int))(l:List Int):textL (L++[l])=textL L++(bodyL l++[10]):=by
 unfold textL;rw[List.map_append,List.flatten_append];simp
theorem suc_text:∀ i,(playB n s i).2.1=textL (sucL n s i)∧(playB n s i).2.2=((sucL n s i).length:Int)
 | 0=>⟨rfl,rfl⟩
 | i+1=>by
  obtain⟨ih1,ih2⟩:=suc_text i
  by_cases hk:okS (playB n s i) (s.getD i [])=true
  ·have e:sucL n s (i+1)=sucL n s i++[s.getD i []]:=if_pos hk
   obtain⟨h1,h2⟩:=okS_yes hk
   rw[e,playB_succ,h1,h2,ih1,ih2,textL_snoc,List.length_append,List.length_singleton]
   exact⟨rfl,by omega⟩
  ·have e:sucL n s (i+1)=sucL n s i:=if_neg hk
   rw[e,playB_succ,okS_no (by simpa using hk)]
   exact⟨ih1,ih2⟩
end
theorem bodyL_no10{l:List Int}:(10:UInt8)∉bodyL l:=by
 unfold bodyL
 refine body_no10 ?_ l
 unfold wordF
 split<;>decide
theorem textL_spl:∀ L,splL 10 (textL L)=L.map bodyL++[[]]
 | []=>rfl
 | l::L=>by
  have e:textL (l::L)=bodyL l++10::textL L:=by unfold textL;simp
  rw[e,splL_sep,splL_one 10 _ bodyL_no10,textL_spl L];rfl
theorem whole_text(L:List (List Int)):wholeL (textL L)=L.map bodyL:=by
 unfold wholeL;rw[textL_spl];simp
theorem splL_app(c:UInt8)(b:List UInt8):∀ a,∃ x p q r,splL c a=x++[p]∧splL c b=q::r∧splL c (a++b)=x++(p++q)::r
 | []=>by
  obtain⟨q,r,e⟩:=splL_ne c b
  exact⟨[],[],q,r,rfl,e,e⟩
 | y::a=>by
  obtain⟨x,p,q,r,e1,e2,e3⟩:=splL_app c b a
  have h1:splL c (y::a)=if y=c then[]::splL c a else hdCons y (splL c a):=rfl
  have h3:splL c (y::a++b)=if y=c then[]::splL c (a++b) else hdCons y (splL c (a++b)):=rfl
  rw[h1,h3,e1,e3]
  by_cases hy:y=c
  ·rw[if_pos hy,if_pos hy]
   exact⟨[]::x,p,q,r,rfl,e2,rfl⟩
  ·rw[if_neg hy,if_neg hy]
   cases x with
   | nil=>exact⟨[],y::p,q,r,rfl,e2,rfl⟩
   | cons z x=>exact⟨(y::z)::x,p,q,r,rfl,e2,rfl⟩
theorem whole_take(s:List UInt8)(k:Nat):wholeL (s.take k)=(wholeL s).take ((s.take k).count 10):=by
 obtain⟨x,p,q,r,e1,e2,e3⟩:=splL_app 10 (s.drop k) (s.take k)
 rw[List.take_append_drop] at e3
 have hl:=splL_len 10 (s.take k)
 rw[e1,List.length_append,List.length_singleton] at hl
 have hx:x.length=(s.take k).count 10:=by omega
 unfold wholeL
 rw[e1,e3,← hx]
 cases r with
 | nil=>simp
 | cons z r =>
  have:(x++(p++q)::z::r).dropLast=x++((p++q)::z::r).dropLast:=List.dropLast_append_of_ne_nil (by simp)
  rw[this]
  simp
theorem line_again{n:Nat}{b:BS}{l:List Int}(h:okS b l=true)(hk:∀ v∈l,inK .i64 v):pLE b (bodyL l)=0∧pLT b (bodyL l)=stepB b l:=by
 obtain⟨hl,he⟩:=okS_len h
 obtain⟨h1,h2⟩:=body_ok (wordF_ok hl) (okS_lo h) hk
 unfold pLE pLT bodyL
 rw[if_pos h1,if_pos h1,h2,pT_step hl]
 exact⟨he,rfl⟩
theorem poB_play{n:Int}{L:List (List Int)}{w:List (List UInt8)}{m:Nat}(hw:∀ j,j<m→w.getD j []=bodyL (L.getD j []))(hL:∀ j,j<m→okS (playB n.toNat L j) (L.getD j [])=true)(hk:∀ j,∀ v∈L.getD j [],inK .i64 v) :
 ∀ i,i≤m→poB n w i=playB n.toNat L i∧poG n w i=true
 | 0,_=>⟨rfl,rfl⟩
 | i+1,h=>by
  obtain⟨e1,e2⟩:=poB_play hw hL hk i (by omega)
  obtain⟨h1,h2⟩:=line_again (n:=n.toNat) (hL i (by omega)) (hk i)
  refine⟨?_,?_⟩
  ·show pLT (poB n w i) (w.getD i [])=_
   rw[e1,hw i (by omega),h2];rfl
  ·show (poG n w i&&decide (pLE (poB n w i) (w.getD i [])=0))=true
   rw[e2,e1,hw i (by omega),h1];rfl
theorem suc_mem(n:Nat)(s:List (List Int)):∀ i,∀ l∈sucL n s i,∃ j,l=s.getD j []
 | 0,l,h=>by cases h
 | i+1,l,h=>by
  simp only[sucL] at h
  split at h
  ·rcases List.mem_append.1 h with h | h
   ·exact suc_mem n s i l h
   ·exact⟨i,List.mem_singleton.1 h⟩
  ·exact suc_mem n s i l h
theorem suc_k{n:Nat}{s:List (List Int)}(hs:∀ l∈s,∀ v∈l,inK .i64 v)(i j:Nat):∀ v∈(sucL n s i).getD j [],inK .i64 v:=by
 intro v hv
 by_cases h:j<(sucL n s i).length
 ·rw[List.getD_eq_getElem?_getD,List.getElem?_eq_getElem h] at hv
  obtain⟨m,e⟩:=suc_mem n s i _ (List.getElem_mem h)
  have hv:v∈(sucL n s i)[j]:=hv
  rw[e] at hv
  exact getD_inK hs m v hv
 ·rw[List.getD_eq_getElem?_getD,List.getElem?_eq_none (by omega)] at hv
  cases hv
theorem open_torn{n:Int}{s:List (List Int)}(hs:∀ l∈s,∀ v∈l,inK .i64 v)(i k:Nat) :
 poR n (((playB n.toNat s i).2.1).take k)=(playB n.toNat (sucL n.toNat s i) ((((playB n.toNat s i).2.1).take k).count 10),(((((playB n.toNat s i).2.1).take k).count 10:Nat):Int),0)∧(((playB n.toNat s i).2.1).take k).count 10≤(sucL n.toNat s i).length:=by
 have ht:=(suc_text n.toNat s i).1
 obtain⟨j,hj⟩:∃ j,(((playB n.toNat s i).2.1).take k).count 10=j:=⟨_,rfl⟩
 have hwh:wholeL (((playB n.toNat s i).2.1).take k)=((sucL n.toNat s i).map bodyL).take j:=by
  rw[whole_take,hj,ht,whole_text]
 have hcnt:(textL (sucL n.toNat s i)).count 10=(sucL n.toNat s i).length:=by
  have:=splL_len 10 (textL (sucL n.toNat s i))
  rw[textL_spl,List.length_append,List.length_map,List.length_singleton] at this
  omega
 have hjl:j≤(sucL n.toNat s i).length:=by
  rw[← hj,ht,← hcnt]
  exact List.Sublist.count_le _ (List.take_sublist _ _)
 have hlen:(wholeL (((playB n.toNat s i).2.1).take k)).length=j:=by rw[hwh,List.length_take,List.length_map];omega
 rw[hj]
 refine⟨?_,hjl⟩
 obtain⟨e1,e2⟩:=poB_play (n:=n) (L:=sucL n.toNat s i) (w:=wholeL (((playB n.toNat s i).2.1).take k)) (m:=j) (fun x hx=>by
  rw[hwh,List.getD_eq_getElem?_getD,List.getElem?_take_of_lt hx,List.getElem?_map,List.getElem?_eq_getElem (by omega),List.getD_eq_getElem?_getD,List.getElem?_eq_getElem (by omega)];rfl) (fun x hx=>suc_ok _ _ _ _ (by omega)) (suc_k hs i) j (Nat.le_refl _)
 have hm:(playB n.toNat (sucL n.toNat s i) j).2.2=(j:Int):=by
  obtain⟨t,et⟩:∃ t,sucL n.toNat s i=(sucL n.toNat s i).take j++t:=⟨_,(List.take_append_drop j _).symm⟩
  have e3:playB n.toNat (sucL n.toNat s i) j=playB n.toNat ((sucL n.toNat s i).take j) j:=by
   rw[et,List.take_left' (by rw[List.length_take];omega)]
   exact playB_app _ _ _ _ (by rw[List.length_take];omega)
  have hall:∀ x,x≤j→(playB n.toNat (sucL n.toNat s i) x).2.2=(x:Int):=by
   intro x
   induction x with
   | zero=>intro _;rfl
   | succ x ih =>
    intro hx
    rw[playB_succ,(okS_yes (suc_ok _ _ _ _ (by omega))).2,ih (by omega)];omega
  exact hall j (Nat.le_refl _)
 unfold poR
 rw[hlen,poE_at n _ j j (Nat.le_refl _) e2,Nat.sub_self]
 show (poB n _ j,(poB n _ j).2.2,(0:Int))=_
 rw[e1,hm]
open Go.Vc Go.Proofs Go.RowKit
def arQ(p:Nat)(t:Net):Nat→Net
 | 0=>t
 | q+1=>if ¬ (p:Int)=(q:Int) then syncT (arQ p t q) (p:Int) (q:Int) else arQ p t q
def arP(n:Nat)(t:Net):Nat→Net
 | 0=>t
 | p+1=>arQ p (arP n t p) n
section
variable {n:Nat} {W:Nat→Int→Prop} {H:Nat→Nat→Va→Prop} {t:Net}
theorem NInv.arQ(I:NInv n W H t)(p:Nat):∀ q,NInv n W H (arQ p t q)
 | 0=>I
 | q+1=>by
  unfold YthdbbgajmgjfcaaGreatDoor.arQ
  split
  ·exact (I.arQ p q).sync _ _
  ·exact I.arQ p q
theorem NInv.arP(I:NInv n W H t)(m:Nat):∀ p,NInv n W H (arP m t p)
 | 0=>I
 | p+1=>(I.arP m p).arQ p m
theorem syncE0(I:NInv n W H t){a b:Nat}(ha:a<n)(hb:b<n)(hab:¬ (a:Int)=(b:Int)):syncE t (a:Int) (b:Int)=0:=by
 have h1:inNet t (a:Int) 0=true:=inNet_iff.2 (by rw[I.len];omega)
 have h2:inNet t (b:Int) 0=true:=inNet_iff.2 (by rw[I.len];omega)
 unfold syncE;rw[h1,h2,Bool.and_true,if_pos rfl,if_neg hab]
theorem arQ_succ(p:Nat)(t:Net)(q:Nat):arQ p t (q+1)=if ¬ (p:Int)=(q:Int) then syncT (arQ p t q) (p:Int) (q:Int) else arQ p t q:=rfl
theorem NInv.nil4(I:NInv n W H t){i k:Nat}(hk:4≤k):vAt t i k=[]:=by
 have hl:(t.1.getD i (List.replicate 4 [])).length=4:=by
  rcases getD_memD (l:=t.1) (i:=i) (d:=List.replicate 4 ([]:List Va)) with h | ⟨h,-⟩
  ·exact I.row _ h
  ·rw[h];rfl
 rcases getD_memD (l:=t.1.getD i (List.replicate 4 [])) (i:=k) (d:=([]:List Va)) with h | ⟨h,-⟩
 ·unfold vAt
  rw[List.getD_eq_getElem?_getD,List.getElem?_eq_none (by omega)];rfl
 ·exact h
theorem NInv.syncAt(I:NInv n W H t){a b:Int}(h0:syncE t a b=0)(i k:Nat):vAt (syncT t a b) i k=if i=b.toNat∧k<4 then mrgV (vAt t b.toNat k++vAt t a.toNat k) else vAt t i k:=by
 obtain⟨ha,hb,hab⟩:inNet t a 0=true∧inNet t b 0=true∧a≠b:=by
  unfold syncE at h0
  cases ha:inNet t a 0<;>cases hb:inNet t b 0<;>simp[ha,hb] at h0
  exact⟨rfl,rfl,h0⟩
 obtain⟨⟨a0,a1⟩,-⟩:=inNet_iff.1 ha
 obtain⟨⟨b0,b1⟩,-⟩:=inNet_iff.1 hb
 unfold syncT;rw[if_pos h0]
 exact vAt_sync I.row (by omega) (by omega) i k 4 (Nat.le_refl _)
theorem NInv.allF(I:NInv n W H t)(a b k:Nat):(∀ v∈vAt t b k++vAt t a k,v.1.length=n)∧∀ v∈vAt t b k++vAt t a k,∀ w∈vAt t b k++vAt t a k,v.1=w.1→v=w:=by
 have hm:∀ v∈vAt t b k++vAt t a k,∃ p,H k p v:=fun v h=>(List.mem_append.1 h).elim (fun h=>I.mem _ _ _ h) fun h=>I.mem _ _ _ h
 refine⟨fun v h=>(hm v h).elim fun p hp=>I.hl _ _ _ hp,fun v h w h' e => ?_⟩
 obtain⟨p,hp⟩:=hm v h
 obtain⟨p',hp'⟩:=hm w h'
 exact I.hf k p v p' w hp hp' e
theorem NInv.told(I:NInv n W H t){a b:Int}(h0:syncE t a b=0){k:Nat}{v:Va}(hv:v∈vAt t b.toNat k++vAt t a.toNat k):∃ w∈vAt (syncT t a b) b.toNat k,sawB w v=true:=by
 rw[I.syncAt h0]
 by_cases hk:k<4
 ·rw[if_pos ⟨rfl,hk⟩]
  exact dom_mrg (I.allF _ _ _).1 (I.allF _ _ _).2 hv
 ·rw[I.nil4 (by omega),I.nil4 (by omega)] at hv;cases hv
theorem NInv.mono(I:NInv n W H t)(a b:Int){i k:Nat}{v:Va}(hv:v∈vAt t i k):∃ w∈vAt (syncT t a b) i k,sawB w v=true:=by
 by_cases h0:syncE t a b=0
 ·by_cases hi:i=b.toNat
  ·subst hi;exact I.told h0 (List.mem_append_left _ hv)
  ·rw[I.syncAt h0,if_neg fun h=>hi h.1];exact⟨v,hv,saw_refl v⟩
 ·unfold syncT;rw[if_neg h0];exact⟨v,hv,saw_refl v⟩
theorem NInv.from(I:NInv n W H t)(a b:Int){i k:Nat}{v:Va}(hv:v∈vAt (syncT t a b) i k):∃ j,v∈vAt t j k:=by
 by_cases h0:syncE t a b=0
 ·rw[I.syncAt h0] at hv
  split at hv
  ·have:=((mem_mrgV (I.allF _ _ _).1 (I.allF _ _ _).2).1 hv).1
   exact (List.mem_append.1 this).elim (fun h=>⟨_,h⟩) fun h=>⟨_,h⟩
  ·exact⟨i,hv⟩
 ·unfold syncT at hv;rw[if_neg h0] at hv;exact⟨i,hv⟩
theorem NInv.out(I:NInv n W H t){i k:Nat}{v:Va}(hv:v∈vAt t i k)(hi:n≤i):False:=by
 have:t.1.getD i (List.replicate 4 [])=List.replicate 4 []:=by
  rw[List.getD_eq_getElem?_getD,List.getElem?_eq_none (by rw[I.len];exact hi)];rfl
 unfold vAt at hv
 rw[this] at hv
 rcases getD_memD (l:=(List.replicate 4 []:List (List Va))) (i:=k) (d:=([]:List Va)) with h2 | ⟨h2,-⟩
 ·rw[(List.mem_replicate.1 h2).2] at hv;cases hv
 ·rw[h2] at hv;cases hv
def Dm(t0 t:Net)(i j:Nat):Prop:=∀ k v,v∈vAt t0 j k→∃ w∈vAt t i k,sawB w v=true
def Sb(t0 t:Net):Prop:=∀ i k v,v∈vAt t i k→∃ j,v∈vAt t0 j k
variable {t0:Net}
theorem Dm.refl(i:Nat):Dm t t i i:=fun _ v hv=>⟨v,hv,saw_refl v⟩
theorem Sb.refl:Sb t t:=fun i _ _ hv=>⟨i,hv⟩
theorem Dm.sync(I:NInv n W H t){i j:Nat}(h:Dm t0 t i j)(a b:Int):Dm t0 (syncT t a b) i j:=fun k v hv=>by
 obtain⟨w,hw,hs⟩:=h k v hv
 obtain⟨u,hu,hus⟩:=I.mono a b hw
 exact⟨u,hu,saw_trans (by rw[(I.sync a b).ln hu,I.ln hw];exact Nat.le_refl _) hus hs⟩
theorem Dm.told(I:NInv n W H t){a b:Int}{j:Nat}(h0:syncE t a b=0)(h:Dm t0 t a.toNat j):Dm t0 (syncT t a b) b.toNat j:=fun k v hv=>by
 obtain⟨w,hw,hs⟩:=h k v hv
 obtain⟨u,hu,hus⟩:=I.told h0 (List.mem_append_right _ hw)
 exact⟨u,hu,saw_trans (by rw[(I.sync a b).ln hu,I.ln hw];exact Nat.le_refl _) hus hs⟩
theorem Sb.sync(I:NInv n W H t)(h:Sb t0 t)(a b:Int):Sb t0 (syncT t a b):=fun _ k _ hv=>by
 obtain⟨j,hj⟩:=I.from a b hv
 exact h j k _ hj
theorem Dm.q1(I:NInv n W H t){i j:Nat}(h:Dm t0 t i j)(p:Nat):∀ q,Dm t0 (arQ p t q) i j
 | 0=>h
 | q+1=>by
  rw[arQ_succ]
  split
  ·exact Dm.sync (I.arQ p q) (Dm.q1 I h p q) _ _
  ·exact Dm.q1 I h p q
theorem Sb.q1(I:NInv n W H t)(h:Sb t0 t)(p:Nat):∀ q,Sb t0 (arQ p t q)
 | 0=>h
 | q+1=>by
  rw[arQ_succ]
  split
  ·exact Sb.sync (I.arQ p q) (Sb.q1 I h p q) _ _
  ·exact Sb.q1 I h p q
theorem Dm.tell(I:NInv n W H t){j p:Nat}(hp:p<n)(h:Dm t0 t p j):∀ q,q≤n→∀ q',q'<q→Dm t0 (arQ p t q) q' j
 | 0,_,q',hq'=>by omega
 | q+1,hq,q',hq'=>by
  have Ia:=I.arQ p q
  have hpp:=Dm.q1 I h p q
  rw[arQ_succ]
  by_cases e:(p:Int)=(q:Int)
  ·rw[if_neg (fun h=>h e)]
   by_cases e2:q'=q
   ·have:q'=p:=by omega
    subst this;exact hpp
   ·exact Dm.tell I hp h q (by omega) q' (by omega)
  ·rw[if_pos e]
   by_cases e2:q'=q
   ·subst e2
    have:=Dm.told (t0:=t0) (a:=(p:Int)) (b:=(q':Int)) (j:=j) Ia (syncE0 Ia hp (by omega) e) (by rw[Int.toNat_natCast];exact hpp)
    rwa [Int.toNat_natCast] at this
   ·exact Dm.sync Ia (Dm.tell I hp h q (by omega) q' (by omega)) _ _
theorem Dm.p1(I:NInv n W H t){i j:Nat}(h:Dm t0 t i j):∀ p,Dm t0 (arP n t p) i j
 | 0=>h
 | p+1=>Dm.q1 (I.arP n p) (Dm.p1 I h p) p n
theorem Sb.p1(I:NInv n W H t)(h:Sb t0 t):∀ p,Sb t0 (arP n t p)
 | 0=>h
 | p+1=>Sb.q1 (I.arP n p) (Sb.p1 I h p) p n
theorem Dm.toldP(I:NInv n W H t):∀ p,p≤n→∀ p',p'<p→∀ q,q<n→Dm t (arP n t p) q p'
 | 0,_,p',hp',_,_=>by omega
 | p+1,hp,p',hp',q,hq=>by
  show Dm t (arQ p (arP n t p) n) q p'
  by_cases e:p'=p
  ·subst e
   exact Dm.tell (I.arP n p') (by omega) (Dm.p1 I (Dm.refl p') p') n (Nat.le_refl _) q hq
  ·exact Dm.q1 (I.arP n p) (Dm.toldP I p (by omega) p' (by omega) q hq) p n
def Al(n:Nat)(t0 t:Net):Prop:=Sb t0 t∧∀ i j,i<n→j<n→Dm t0 t i j
theorem Al.ar(I:NInv n W H t):Al n t (arP n t n):=by
 refine⟨Sb.p1 I Sb.refl n,fun i j hi hj => ?_⟩
 obtain⟨m,rfl⟩:∃ m,n=m+1:=⟨n - 1,by have:=I.lo;omega⟩
 show Dm t (arQ m (arP (m+1) t m) (m+1)) i j
 refine Dm.tell (I.arP (m+1) m) (by omega) ?_ (m+1) (Nat.le_refl _) i hi
 by_cases e:j=m
 ·subst e;exact Dm.p1 I (Dm.refl j) j
 ·exact Dm.toldP I m (by omega) j (by omega) m (by omega)
theorem Al.p1(I:NInv n W H t)(h:Al n t0 t)(p:Nat):Al n t0 (arP n t p):=⟨Sb.p1 I h.1 p,fun i j hi hj=>Dm.p1 I (h.2 i j hi hj) p⟩
theorem Al.half{t1 t2:Net}(I0:NInv n W H t0)(I1:NInv n W H t1)(I2:NInv n W H t2)(h1:Al n t0 t1)(h2:Al n t0 t2){i i' k:Nat}(hi:i<n)(hi':i'<n){x:Va}(hx:x∈vAt t1 i k):x∈vAt t2 i' k:=by
 obtain⟨j,hj⟩:=h1.1 i k x hx
 have hjn:j<n:=Nat.lt_of_not_le fun h=>I0.out hj h
 obtain⟨w,hw,hs⟩:=h2.2 i' j hi' hjn k x hj
 obtain⟨j',hj'⟩:=h2.1 i' k w hw
 have hjn':j'<n:=Nat.lt_of_not_le fun h=>I0.out hj' h
 obtain⟨u,hu,hus⟩:=h1.2 i j' hi hjn' k w hj'
 have hux:=saw_trans (a:=u) (b:=w) (c:=x) (by rw[I1.ln hu,I2.ln hw];exact Nat.le_refl _) hus hs
 have e:=I1.anti i k u x hu hx hux
 subst e
 have e1:=saw_anti (by rw[I1.ln hu,I2.ln hw]) hus hs
 obtain⟨p,hp⟩:=I1.mem i k u hu
 obtain⟨p',hp'⟩:=I2.mem i' k w hw
 have e2:=I1.hf k p u p' w hp hp' e1
 rw[e2];exact hw
theorem Al.same{t1 t2:Net}(I0:NInv n W H t0)(I1:NInv n W H t1)(I2:NInv n W H t2)(h1:Al n t0 t1)(h2:Al n t0 t2){i i':Nat}(k:Nat)(hi:i<n)(hi':i'<n):vAt t1 i k=vAt t2 i' k :=
 SV'.ext (I1.sv i k) (I2.sv i' k) fun _=>⟨Al.half I0 I1 I2 h1 h2 hi hi',Al.half I0 I2 I1 h2 h1 hi' hi⟩
end
open Go.Vc Go.Proofs Go.RowKit
def hadT(n:Int)(s:List (List Int))(i:Nat):Int:=((sucL n.toNat s i).length:Int)
def midH(n:Int)(s:List (List Int))(i:Nat):Int:=if (s.getD i []).length=3 then hadT n s (i+1) else hadT n s i
open Go.Vc Go.Proofs Go.RowKit
def tx3(n:Int)(s:List (List Int)):List UInt8:=(playB n.toNat s (min s.length 30)).2.1
def ln3(n:Int)(s:List (List Int))(k:Nat):Nat:=((tx3 n s).take k).count 10
def bk3(n:Int)(s:List (List Int))(k:Nat):BS:=playB n.toNat (sucL n.toNat s (min s.length 30)) (ln3 n s k)
def bQ(p:Nat)(b:BS):Nat→BS
 | 0=>b
 | q+1=>if (p:Int)=(q:Int) then bQ p b q else stepB (bQ p b q) [(p:Int),(q:Int)]
def bP(n:Nat)(b:BS):Nat→BS
 | 0=>b
 | p+1=>bQ p (bP n b p) n
def bR(n:Nat)(b:BS):Nat→BS
 | 0=>b
 | r+1=>bP n (bR n b r) n
def obBN(b:BS)(t:Net):List Ob:=obB b++[.st 96 [.os 6,.os 7],.row 98 tRow t.1,.row 3 I t.2.1]
def obN0(t:Net):List Ob:=[.st 96 [.os 1,.os 2],.row 98 tRow t.1,.row 3 I t.2.1]
structure T3(n:Int)(s:List (List Int))(k i:Nat):Prop where
 b:inB n 1 5=true
 le:i≤s.length∧i≤30
 had:hadT n s i≤(ln3 n s k:Int)
 k0:k≤(tx3 n s).length
structure T3Mid(n:Int)(s:List (List Int))(k i:Nat):Prop where
 b:inB n 1 5=true
 le:i<s.length∧i<30
 had:hadT n s i<(ln3 n s k:Int)
 k0:k≤(tx3 n s).length
def cLawTB:Ctr:=cdet [I,.sl (.sl I),I,I] (fun _ _ _ _=>True) (fun _ _ _ _=>[⟨.bool,true⟩])
open Go.Vc
set_option linter.unusedVariables false
open Go.Vc Go.Proofs Go.RowKit
theorem sucL_k{n:Nat}{s:List (List Int)}(hs:∀ l∈s,∀ v∈l,inK .i64 v)(i:Nat):∀ l∈sucL n s i,∀ v∈l,inK .i64 v:=by
 intro l hl v hv
 obtain⟨m,e⟩:=suc_mem n s i l hl
 rw[e] at hv
 exact getD_inK hs m v hv
theorem had_mono(n:Int)(s:List (List Int))(i:Nat):hadT n s (i+1)=hadT n s i+if okS (playB n.toNat s i) (s.getD i [])=true then 1 else 0:=by
 unfold hadT
 show (((if okS (playB n.toNat s i) (s.getD i [])=true then sucL n.toNat s i++[s.getD i []] else sucL n.toNat s i).length:Nat):Int)=_
 split
 ·rw[List.length_append,List.length_singleton];omega
 ·omega
theorem okS3{b:BS}{l:List Int}(h:l.length=3):okS b l=decide (bkE b.2.2 (writeE b.1 (l.getD 0 0) (l.getD 1 0) (l.getD 2 0))=0):=by
 unfold okS pE;rw[if_pos h,h];rfl
theorem okS2{b:BS}{l:List Int}(h:l.length=2):okS b l=decide (bkE b.2.2 (syncE b.1 (l.getD 0 0) (l.getD 1 0))=0):=by
 unfold okS pE;rw[if_neg (by omega),h];rfl
theorem okS0{b:BS}{l:List Int}(h3:¬ l.length=3)(h2:¬ l.length=2):okS b l=false:=by
 unfold okS;rw[decide_eq_false h3,decide_eq_false h2];rfl
open Go.Vc Go.Proofs Go.RowKit
open Go.Vc Go.Proofs Go.RowKit
theorem BInv.nodes{n:Nat}{b:BS}(h:BInv n b):b.1.1.length=n:=by
 obtain⟨H,x,I,R⟩:=h
 exact I.len
open Go.Vc Go.Proofs Go.RowKit
theorem t3_open{n:Int}{s:List (List Int)}(hs:∀ l∈s,∀ v∈l,inK .i64 v)(k:Nat):poR n ((tx3 n s).take k)=(bk3 n s k,((ln3 n s k:Nat):Int),0)∧ln3 n s k≤(sucL n.toNat s (min s.length 30)).length:=open_torn hs _ k
theorem t3_end{n:Int}{s:List (List Int)}{k:Nat}{x:Nat}(hx:x≤min s.length 30)(he:(sucL n.toNat s x).length=ln3 n s k):playB n.toNat s x=bk3 n s k:=by
 obtain⟨t,e⟩:=suc_pre n.toNat s x (min s.length 30 - x)
 rw[show x+(min s.length 30 - x)=min s.length 30 by omega] at e
 unfold bk3
 rw[e,← he,playB_app _ _ _ _ (Nat.le_refl _),suc_play]
theorem bk3_inv{n:Int}{s:List (List Int)}(hb:inB n 1 5=true)(hs:∀ l∈s,∀ v∈l,inK .i64 v)(k:Nat):BInv n.toNat (bk3 n s k):=BInv.play hb (sucL_k hs _) _
theorem bkE_lt{m e:Int}(h:m<60):bkE m e=e:=by unfold bkE;rw[if_neg (by omega)]
theorem net3{b:BS}{l:List Int}(hm:b.2.2<60)(h3:l.length=3):(stepB b l).1=writeT b.1 (l.getD 0 0) (l.getD 1 0) (l.getD 2 0):=by
 rw[stepB3 h3]
 unfold bkT
 rw[bkE_lt hm]
 split
 ·rfl
 ·rename_i h
  show b.1=_
  unfold writeT;rw[if_neg h]
theorem net2{b:BS}{l:List Int}(hm:b.2.2<60)(h2:l.length=2):(stepB b l).1=syncT b.1 (l.getD 0 0) (l.getD 1 0):=by
 rw[stepB2 h2]
 unfold bkT
 rw[bkE_lt hm]
 split
 ·rfl
 ·rename_i h
  show b.1=_
  unfold syncT;rw[if_neg h]
theorem many_le(n:Nat)(s:List (List Int))(i:Nat):0≤(playB n s i).2.2∧(playB n s i).2.2≤(i:Int):=by
 rw[(suc_text n s i).2]
 have:=suc_len n s i
 omega
theorem bInv_N{n:Nat}{b:BS}(h:BInv n b):∃ H,NInv n (fun _ _=>True) H b.1:=by
 obtain⟨H,x,I,_⟩:=h
 exact⟨H,I⟩
theorem k2{p q:Nat}(hp:p<1000)(hq:q<1000):∀ v∈[(p:Int),(q:Int)],inK .i64 v:=by
 intro v hv
 simp only[List.mem_cons,List.not_mem_nil,or_false] at hv
 rcases hv with rfl | rfl<;>exact inK_i64.2 (by omega)
theorem bQ_ok{n:Nat}{b:BS}(hI:BInv n b)(hn:n≤5){p:Nat}(hp:p<n)(hr:b.2.2+(n:Int)≤59):∀ q,q≤n→(bQ p b q).1=arQ p b.1 q∧BInv n (bQ p b q)∧(bQ p b q).2.2≤b.2.2+(q:Int)
 | 0,_=>⟨rfl,hI,by show b.2.2≤_;omega⟩
 | q+1,hq=>by
  obtain⟨h1,h2,h3⟩:=bQ_ok hI hn hp hr q (by omega)
  by_cases e:(p:Int)=(q:Int)
  ·have e1:bQ p b (q+1)=bQ p b q:=if_pos e
   have e2:arQ p b.1 (q+1)=arQ p b.1 q:=if_neg (fun h=>h e)
   rw[e1,e2];exact⟨h1,h2,by omega⟩
  ·have e1:bQ p b (q+1)=stepB (bQ p b q) [(p:Int),(q:Int)]:=if_neg e
   have e2:arQ p b.1 (q+1)=syncT (arQ p b.1 q) (p:Int) (q:Int):=if_pos e
   have hm:(bQ p b q).2.2<60:=by omega
   rw[e1,e2,net2 hm rfl,h1]
   refine⟨rfl,h2.step _ (k2 (by omega) (by omega)),?_⟩
   obtain⟨H,IN⟩:=bInv_N h2
   have h0:okS (bQ p b q) [(p:Int),(q:Int)]=true:=by
    rw[okS2 rfl,bkE_lt hm]
    exact decide_eq_true (syncE0 IN hp (by omega) e)
   rw[(okS_yes h0).2];omega
theorem bP_ok{n:Nat}{b:BS}(hI:BInv n b)(hn:n≤3)(hr:b.2.2≤48):∀ p,p≤n→(bP n b p).1=arP n b.1 p∧BInv n (bP n b p)∧(bP n b p).2.2≤b.2.2+3*(p:Int)
 | 0,_=>⟨rfl,hI,by show b.2.2≤_;omega⟩
 | p+1,hp=>by
  obtain⟨h1,h2,h3⟩:=bP_ok hI hn hr p (by omega)
  obtain⟨g1,g2,g3⟩:=bQ_ok h2 (by omega) (p:=p) (by omega) (by omega) n (Nat.le_refl _)
  refine⟨?_,g2,?_⟩
  ·show (bQ p (bP n b p) n).1=arQ p (arP n b.1 p) n
   rw[g1,h1]
  ·show (bQ p (bP n b p) n).2.2≤_
   omega
theorem bR_ok{n:Nat}{b:BS}(hI:BInv n b)(hn:n≤3)(hr:b.2.2≤30):∀ r,r≤2→BInv n (bR n b r)∧(bR n b r).2.2≤b.2.2+9*(r:Int)
 | 0,_=>⟨hI,by show b.2.2≤_;omega⟩
 | r+1,h=>by
  obtain⟨h1,h2⟩:=bR_ok hI hn hr r (by omega)
  obtain⟨g1,g2,g3⟩:=bP_ok h1 hn (by omega) n (Nat.le_refl _)
  exact⟨g2,by show (bP n (bR n b r) n).2.2≤_;omega⟩
theorem bR_same{n:Nat}{b:BS}(hI:BInv n b)(hn:n≤3)(hr:b.2.2≤30){i j:Nat}(hi:i<n)(hj:j<n)(k:Nat):vAt (bR n b 2).1 i k=vAt (bR n b 2).1 j k:=by
 obtain⟨h1,h2⟩:=bR_ok hI hn hr 1 (by omega)
 obtain⟨g1,_,_⟩:=bP_ok (b:=bR n b 0) hI hn (by show b.2.2≤_;omega) n (Nat.le_refl _)
 obtain⟨g2,_,_⟩:=bP_ok h1 hn (by omega) n (Nat.le_refl _)
 have e1:(bR n b 1).1=arP n b.1 n:=g1
 have e2:(bR n b 2).1=arP n (arP n b.1 n) n:=by
  show (bP n (bR n b 1) n).1=_
  rw[g2,e1]
 obtain⟨H,IN⟩:=bInv_N hI
 have I1:=IN.arP n n
 have hA:Al n b.1 (arP n (arP n b.1 n) n):=Al.p1 I1 (Al.ar IN) n
 rw[e2]
 exact Al.same IN (I1.arP n n) (I1.arP n n) hA hA k hi hj
theorem read_same{n:Nat}{b:BS}(hI:BInv n b)(hn:n≤3)(hr:b.2.2≤30){i:Nat}(hi:i<n)(key:Int):readF (bR n b 2).1 (i:Int) key=readF (bR n b 2).1 0 key:=by
 have hB:=(bR_ok hI hn hr 2 (Nat.le_refl _)).1
 have hnl:=hB.nodes
 unfold readF
 by_cases hk:0≤key∧key≤3
 ·rw[if_pos (inNet_iff.2 ⟨⟨by omega,by omega⟩,hk⟩),if_pos (inNet_iff.2 ⟨⟨by omega,by omega⟩,hk⟩)]
  have:=bR_same hI hn hr hi (by omega:0<n) key.toNat
  show vAt _ (i:Int).toNat key.toNat=vAt _ (0:Int).toNat key.toNat
  rw[Int.toNat_natCast];exact this
 ·rw[if_neg (fun h=>hk (inNet_iff.1 h).2),if_neg (fun h=>hk (inNet_iff.1 h).2)]
open Go.Vc Go.Proofs Go.RowKit
def oBNewA:OCtr:=fun args ob k=>match args,ob with
 | [.d (.int .i64) n],[]=>inB n 1 5=true∧k (.tp [.ps 0,.d tErr (0:Int)]) (obBk (newF (n:Int).toNat) [] 0)
 | _,_=>False
def oNewK(n:Int)(k:SV→List Ob→Prop):Prop:=match n with
 | .ofNat 0=>k (.tp [.nilp,.d tErr (1:Int)]) []
 | .ofNat (j+1)=>inB (Int.ofNat (j+1)) 1 5=true∧k (.tp [.ps 0,.d tErr (0:Int)]) (obNet (newF (j+1)))
 | _=>False
def oNewA:OCtr:=fun args ob k=>match args,ob with
 | [.d (.int .i64) n],[]=>oNewK n k
 | _,_=>False
structure OpenA(n:Int)(s:List UInt8):Prop where
 le:s.length≤1100000
 b:inB n 1 5=true
 ok:POpenOk n s
 e0:(poR n s).2.2=0
def oBOpenA:OCtr:=fun args ob k=>match args,ob with
 | [.d (.int .i64) n,.d .str s],[]=>OpenA n s∧k (.tp [.ps 0,.d I (poR n s).2.1,.d tErr (0:Int)]) (obB (poR n s).1)
 | _,_=>False
def oBNewE:OCtr:=fun args ob k=>match args,ob with
 | [.d (.int .i64) n],[]=>inB n 1 5=false∧k (.tp [.nilp,.d tErr (1:Int)]) []
 | _,_=>False
theorem ownBNewA:OwnOk Tryz.prog [] 25 oBNewA:=by
 intro args ob k h
 refine ownBNew args ob k ?_
 unfold oBNewA at h
 split at h
 ·exact⟨fun e=>(by rw[h.1] at e;cases e),fun _=>h.2⟩
 ·exact h.elim
theorem ownNewA:OwnOk Tryz.prog [] 26 oNewA:=by
 intro args ob k h
 refine ownNew args ob k ?_
 unfold oNewA at h
 split at h
 ·rename_i n
  unfold oNewK at h
  split at h
  ·exact⟨fun _=>h,fun e=>absurd e (by decide)⟩
  ·exact⟨fun e=>(by rw[h.1] at e;cases e),fun _=>h.2⟩
  ·exact h.elim
 ·exact h.elim
theorem ownBOpenA(v:GV):OwnOk Tryz.prog (glO v) 15 oBOpenA:=by
 intro args ob k h
 refine ownBOpen v args ob k ?_
 unfold oBOpenA at h
 split at h
 ·obtain⟨hO,hk⟩:=h
  exact⟨hO.le,fun e=>(by rw[hO.b] at e;cases e),fun _=>⟨hO.ok,fun _=>hk,fun e=>absurd hO.e0 e⟩⟩
 ·exact h.elim
theorem ownBNewE:OwnOk Tryz.prog [] 25 oBNewE:=by
 intro args ob k h
 refine ownBNew args ob k ?_
 unfold oBNewE at h
 split at h
 ·exact⟨fun _=>h.2,fun e=>(by rw[h.1] at e;cases e)⟩
 ·exact h.elim
theorem ownNewE:OwnOk Tryz.prog [] 26 oBNewE:=by
 intro args ob k h
 refine ownNew args ob k ?_
 unfold oBNewE at h
 split at h
 ·exact⟨fun _=>h.2,fun e=>(by rw[h.1] at e;cases e)⟩
 ·exact h.elim
open Go.Vc Go.Proofs Go.RowKit
def anTopG(n:Int)(s:List (List Int))(N0:Net)(pl mi:Nat→BS)(tx:List UInt8)(ln:Nat→Nat)(b3:Nat→BS)(R:Nat→Nat→BS)(P:Nat→Nat→Nat→BS)(Q:Nat→Nat→Nat→Nat→BS)(had mH:Nat→Int)(t3 tM:Nat→Nat→Prop):Ann:=[joinAll,forkAt 29,forkAt 31,forkAt 51,
 loopAt 11 Nat [] (fun st i=>{ St.at (St.only st [0,1,2,3]) [(9,.ps 0),(13,.ps 5),(15,.d I (i:Int))] with ob:=obBN (pl i) (N0) }) (fun _ i=>(i≤s.length∧i≤30)∧inB n 1 5=true) (fun i=>100 - i),
 meetAt 16 Nat [] (fun st i=>{ St.at (St.only st [0,1,2,3]) [(9,.ps 0),(13,.ps 5),(15,.d I (i:Int)),(16,.d (.sl I) (s.getD i []))] with ob:=obBN (mi i) (N0) }) (fun st i=>((i<s.length∧i<30)∧inB n 1 5=true)∧st.i 15=(i:Int)),
 meetAt 18 Unit [] (fun st _=>{ St.at (St.only st [0,1,2,3]) [(9,.ps 0),(13,.ps 5)] with ob:=obBN (pl (min s.length 30)) N0 }) (fun _ _=>inB n 1 5=true),
 meetAt 21 Nat [] (fun st k=>{ St.at (St.only st [0,1,3]) [(2,.d I (k:Int)),(13,.ps 0),(17,.d .str (tx))] with ob:=obN0 (N0) }) (fun _ k=>k≤(tx).length∧inB n 1 5=true),
 meetAt 22 Unit [] (fun st _=>{ St.at (St.only st [0,1,2,3]) [(13,.ps 5),(18,.ps 0),(19,.d I ((ln (st.i 2).toNat:Nat):Int)),(20,.d tErr (0:Int))] with ob:=obBN (b3 (st.i 2).toNat) (N0) }) (fun st _=>t3 (st.i 2).toNat 0),
 loopAt 26 Nat [] (fun st i=>{ St.at (St.only st [0,1,2,3,19]) [(13,.ps 5),(18,.ps 0),(21,.d I (had i)),(22,.d I (i:Int))] with ob:=obBN (b3 (st.i 2).toNat) (pl i).1 }) (fun st i=>t3 (st.i 2).toNat i) (fun i=>100 - i),
 meetAt 31 Nat [] (fun st i=>{ St.at (St.only st [0,1,2,3,19]) [(13,.ps 5),(18,.ps 0),(21,.d I (mH i)),(22,.d I (i:Int)),(23,.d (.sl I) (s.getD i []))] with ob:=obBN (b3 (st.i 2).toNat) (mi i).1 }) (fun st i=>tM (st.i 2).toNat i∧st.i 22=(i:Int)),
 meetAt 27 Nat [] (fun st i=>{ St.at (St.only st [0,1,2,3,19]) [(13,.ps 5),(18,.ps 0),(21,.d I (had (i+1))),(22,.d I (i:Int))] with ob:=obBN (b3 (st.i 2).toNat) (pl (i+1)).1 }) (fun st i=>tM (st.i 2).toNat i∧st.i 22=(i:Int)),
 meetAt 33 Unit [] (fun st _=>{ St.at (St.only st [0,2,3,19]) [(13,.ps 5),(18,.ps 0),(21,.d I ((ln (st.i 2).toNat:Nat):Int))] with ob:=obBN (b3 (st.i 2).toNat) (b3 (st.i 2).toNat).1 }) (fun st _=>t3 (st.i 2).toNat 0),
 loopAt 37 Nat [] (fun st p=>{ St.at (St.only st [0,2,3]) [(13,.ps 5),(18,.ps 0),(24,.d I (p:Int))] with ob:=obBN (b3 (st.i 2).toNat) (b3 (st.i 2).toNat).1 }) (fun _ p=>p≤n.toNat∧inB n 1 5=true) (fun p=>n.toNat - p),
 loopAt 43 Nat [] (fun st r=>{ St.at (St.only st [0,2,3]) [(13,.ps 5),(18,.ps 0),(25,.d I (r:Int))] with ob:=obBN (R (st.i 2).toNat r) (R (st.i 2).toNat r).1 }) (fun _ r=>r≤2∧inB n 1 3=true) (fun r=>2 - r),
 loopAt 46 Nat [] (fun st p=>{ St.at (St.only st [0,2,3,25]) [(13,.ps 5),(18,.ps 0),(26,.d I (p:Int))] with ob:=obBN (P (st.i 2).toNat (st.i 25).toNat p) (P (st.i 2).toNat (st.i 25).toNat p).1 }) (fun _ p=>p≤n.toNat∧inB n 1 3=true) (fun p=>n.toNat - p),
 loopAt 49 Nat [] (fun st q=>{ St.at (St.only st [0,2,3,25,26]) [(13,.ps 5),(18,.ps 0),(27,.d I (q:Int))] with ob:=obBN (Q (st.i 2).toNat (st.i 25).toNat (st.i 26).toNat q) (Q (st.i 2).toNat (st.i 25).toNat (st.i 26).toNat q).1 }) (fun _ q=>q≤n.toNat∧inB n 1 3=true) (fun q=>n.toNat - q),
 loopAt 54 Nat [] (fun st p=>{ St.at (St.only st [0,2,3]) [(13,.ps 5),(18,.ps 0),(28,.d I (p:Int))] with ob:=obBN (R (st.i 2).toNat 2) (R (st.i 2).toNat 2).1 }) (fun _ p=>p≤n.toNat∧inB n 1 3=true) (fun p=>n.toNat - p)]
open Go.Vc
set_option linter.unusedVariables false
theorem vcTopE(v:GV)(n:Int)(s:List (List Int))(x key:Int)(k:List Dat→Prop):vcF ⟨Elr,[(21,cValues)],glO v,[],[(25,oBNewE),(26,oBNewE)]⟩ [joinAll] (Tryz.f10.body.getD .skip) Tryz.f10.ntmps [(.tmp 8,.bool)] [⟨I,n⟩,⟨.sl (.sl I),s⟩,⟨I,x⟩,⟨I,key⟩] k=(
 inB n 1 5=false∧inB 0 1 5=false∧(decide (1=(0:Int))=true→k [Dat.mk Ty.bool false])∧(decide (1=(0:Int))=false→((!decide (1=(0:Int)))=true→(decide (n<(1:Int))=true→k [Dat.mk Ty.bool true])∧(decide (n<(1:Int))=false→k [Dat.mk Ty.bool (decide (5<n))]))∧((!decide (1=(0:Int)))=false→inB n 1 5=false∧((!decide (1=(0:Int)))=true→k [Dat.mk Ty.bool false])∧((!decide (1=(0:Int)))=false→False)))):=by kernel_rfl
theorem vcTopA(v:GV)(j:Nat)(s:List (List Int))(x key:Int)(N0:Net)(pl mi:Nat→BS)(tx:List UInt8)(ln:Nat→Nat)(b3:Nat→BS)(R:Nat→Nat→BS)(P:Nat→Nat→Nat→BS)(Q:Nat→Nat→Nat→Nat→BS)(had mH:Nat→Int)(t3 tM:Nat→Nat→Prop)(k:List Dat→Prop):vcF ⟨Elr,[(21,cValues)],glO v,[],[(25,oBNewA),(26,oNewA),(14,oBTxt),(15,oBOpenA),(16,oBW),(17,oBS),(27,oWrite),(28,oSync),(22,oBRd),(29,oRead)]⟩ (anTopG (Int.ofNat (j+1)) s N0 pl mi tx ln b3 R P Q had mH t3 tM) (Tryz.f10.body.getD .skip) Tryz.f10.ntmps [(.tmp 8,.bool)] [⟨I,(Int.ofNat (j+1):Int)⟩,⟨.sl (.sl I),s⟩,⟨I,x⟩,⟨I,key⟩] k=(
 inB (Int.ofNat (j+1)) 1 5=true∧(decide (1=(0:Int))=true→k [Dat.mk Ty.bool false])∧(decide (1=(0:Int))=false→((!decide (0=(0:Int)))=true→(decide (Int.ofNat (j+1)<(1:Int))=true→k [Dat.mk Ty.bool true])∧(decide (Int.ofNat (j+1)<(1:Int))=false→k [Dat.mk Ty.bool (decide (5<Int.ofNat (j+1)))]))∧((!decide (0=(0:Int)))=false→inB (Int.ofNat (j+1)) 1 5=true∧((!decide (0=(0:Int)))=true→k [Dat.mk Ty.bool false])∧((!decide (0=(0:Int)))=false→((∃ (x_1:Nat),((x_1≤s.length∧x_1≤30)∧inB (Int.ofNat (j+1)) 1 5=true)∧(Int.ofNat (j+1)=Int.ofNat (j+1)∧s=s∧x=x∧key=key∧True∧True∧0=(↑x_1:Int)∧True)∧((True∧True∧True∧0=(pl x_1).snd.snd∧True)∧(True∧True∧True)∧[]=(pl x_1).snd.fst∧(98=98∧List.replicate (Int.ofNat (j+1)).toNat (List.replicate 4 ([]:List Va))=(pl x_1).fst.fst)∧(3=3∧List.replicate (Int.ofNat (j+1)).toNat 0=(pl x_1).fst.snd.fst)∧(True∧True∧True)∧(98=98∧List.replicate (j+1) (List.replicate 4 ([]:List Va))=N0.fst)∧(3=3∧List.replicate (j+1) 0=N0.snd.fst)∧True)∧Lib.pow10Tab=Lib.pow10Tab∧Value.int IntKind.i64 v.m=Value.int IntKind.i64 v.m∧Value.iface v.t1 v.p1=Value.iface v.t1 v.p1∧Value.iface v.t2 v.p2=Value.iface v.t2 v.p2∧True)∧∀ (x_1:Nat),(x_1≤s.length∧x_1≤30)∧inB (Int.ofNat (j+1)) 1 5=true→(decide ((↑x_1:Int)<(↑s.length:Int))=true→(decide ((↑x_1:Int)<30)=true→0≤(↑x_1:Int)∧(↑x_1:Int)<(↑s.length:Int)∧((decide ((↑(s.getD (↑x_1:Int).toNat []).length:Int)=3)=true→(0≤(0:Int)∧0<(↑(s.getD (↑x_1:Int).toNat []).length:Int)∧0≤(1:Int)∧1<(↑(s.getD (↑x_1:Int).toNat []).length:Int)∧0≤(2:Int)∧2<(↑(s.getD (↑x_1:Int).toNat []).length:Int)∧True)∧(NetSh ((pl x_1).fst.fst,(pl x_1).fst.snd.fst,())∧(pl x_1).snd.fst.length≤900000000∧0≤(pl x_1).snd.snd∧(pl x_1).snd.snd≤(60:Int))∧∃ (x_2:Nat),(((x_2<s.length∧x_2<30)∧inB (Int.ofNat (j+1)) 1 5=true)∧(↑x_1:Int)=(↑x_2:Int))∧(Int.ofNat (j+1)=Int.ofNat (j+1)∧s=s∧x=x∧key=key∧True∧True∧(↑x_1:Int)=(↑x_2:Int)∧s.getD (↑x_1:Int).toNat []=s.getD x_2 []∧True)∧((True∧True∧True∧(bkT ((pl x_1).fst.fst,(pl x_1).fst.snd.fst,()) (pl x_1).snd.fst (pl x_1).snd.snd (writeE ((pl x_1).fst.fst,(pl x_1).fst.snd.fst,()) ((s.getD (↑x_1:Int).toNat []).getD (Int.toNat 0) 0) ((s.getD (↑x_1:Int).toNat []).getD (Int.toNat 1) 0) ((s.getD (↑x_1:Int).toNat []).getD (Int.toNat 2) 0)) (writeT ((pl x_1).fst.fst,(pl x_1).fst.snd.fst,()) ((s.getD (↑x_1:Int).toNat []).getD (Int.toNat 0) 0) ((s.getD (↑x_1:Int).toNat []).getD (Int.toNat 1) 0) ((s.getD (↑x_1:Int).toNat []).getD (Int.toNat 2) 0)) (lineF [(119:UInt8)] [(s.getD (↑x_1:Int).toNat []).getD (Int.toNat 0) 0,(s.getD (↑x_1:Int).toNat []).getD (Int.toNat 1) 0,(s.getD (↑x_1:Int).toNat []).getD (Int.toNat 2) 0])).snd.snd=(mi x_2).snd.snd∧True)∧(True∧True∧True)∧(bkT ((pl x_1).fst.fst,(pl x_1).fst.snd.fst,()) (pl x_1).snd.fst (pl x_1).snd.snd (writeE ((pl x_1).fst.fst,(pl x_1).fst.snd.fst,()) ((s.getD (↑x_1:Int).toNat []).getD (Int.toNat 0) 0) ((s.getD (↑x_1:Int).toNat []).getD (Int.toNat 1) 0) ((s.getD (↑x_1:Int).toNat []).getD (Int.toNat 2) 0)) (writeT ((pl x_1).fst.fst,(pl x_1).fst.snd.fst,()) ((s.getD (↑x_1:Int).toNat []).getD (Int.toNat 0) 0) ((s.getD (↑x_1:Int).toNat []).getD (Int.toNat 1) 0) ((s.getD (↑x_1:Int).toNat []).getD (Int.toNat 2) 0)) (lineF [(119:UInt8)] [(s.getD (↑x_1:Int).toNat []).getD (Int.toNat 0) 0,(s.getD (↑x_1:Int).toNat []).getD (Int.toNat 1) 0,(s.getD (↑x_1:Int).toNat []).getD (Int.toNat 2) 0])).snd.fst=(mi x_2).snd.fst∧(98=98∧(bkT ((pl x_1).fst.fst,(pl x_1).fst.snd.fst,()) (pl x_1).snd.fst (pl x_1).snd.snd (writeE ((pl x_1).fst.fst,(pl x_1).fst.snd.fst,()) ((s.getD (↑x_1:Int).toNat []).getD (Int.toNat 0) 0) ((s.getD (↑x_1:Int).toNat []).getD (Int.toNat 1) 0) ((s.getD (↑x_1:Int).toNat []).getD (Int.toNat 2) 0)) (writeT ((pl x_1).fst.fst,(pl x_1).fst.snd.fst,()) ((s.getD (↑x_1:Int).toNat []).getD (Int.toNat 0) 0) ((s.getD (↑x_1:Int).toNat []).getD (Int.toNat 1) 0) ((s.getD (↑x_1:Int).toNat []).getD (Int.toNat 2) 0)) (lineF [(119:UInt8)] [(s.getD (↑x_1:Int).toNat []).getD (Int.toNat 0) 0,(s.getD (↑x_1:Int).toNat []).getD (Int.toNat 1) 0,(s.getD (↑x_1:Int).toNat []).getD (Int.toNat 2) 0])).fst.fst=(mi x_2).fst.fst)∧(3=3∧(bkT ((pl x_1).fst.fst,(pl x_1).fst.snd.fst,()) (pl x_1).snd.fst (pl x_1).snd.snd (writeE ((pl x_1).fst.fst,(pl x_1).fst.snd.fst,()) ((s.getD (↑x_1:Int).toNat []).getD (Int.toNat 0) 0) ((s.getD (↑x_1:Int).toNat []).getD (Int.toNat 1) 0) ((s.getD (↑x_1:Int).toNat []).getD (Int.toNat 2) 0)) (writeT ((pl x_1).fst.fst,(pl x_1).fst.snd.fst,()) ((s.getD (↑x_1:Int).toNat []).getD (Int.toNat 0) 0) ((s.getD (↑x_1:Int).toNat []).getD (Int.toNat 1) 0) ((s.getD (↑x_1:Int).toNat []).getD (Int.toNat 2) 0)) (lineF [(119:UInt8)] [(s.getD (↑x_1:Int).toNat []).getD (Int.toNat 0) 0,(s.getD (↑x_1:Int).toNat []).getD (Int.toNat 1) 0,(s.getD (↑x_1:Int).toNat []).getD (Int.toNat 2) 0])).fst.snd.fst=(mi x_2).fst.snd.fst)∧(True∧True∧True)∧(98=98∧N0.fst=N0.fst)∧(3=3∧N0.snd.fst=N0.snd.fst)∧True)∧Lib.pow10Tab=Lib.pow10Tab∧Value.int IntKind.i64 v.m=Value.int IntKind.i64 v.m∧Value.iface v.t1 v.p1=Value.iface v.t1 v.p1∧Value.iface v.t2 v.p2=Value.iface v.t2 v.p2∧True)∧(decide ((↑(s.getD (↑x_1:Int).toNat []).length:Int)=3)=false→∃ (x_2:Nat),(((x_2<s.length∧x_2<30)∧inB (Int.ofNat (j+1)) 1 5=true)∧(↑x_1:Int)=(↑x_2:Int))∧(Int.ofNat (j+1)=Int.ofNat (j+1)∧s=s∧x=x∧key=key∧True∧True∧(↑x_1:Int)=(↑x_2:Int)∧s.getD (↑x_1:Int).toNat []=s.getD x_2 []∧True)∧((True∧True∧True∧(pl x_1).snd.snd=(mi x_2).snd.snd∧True)∧(True∧True∧True)∧(pl x_1).snd.fst=(mi x_2).snd.fst∧(98=98∧(pl x_1).fst.fst=(mi x_2).fst.fst)∧(3=3∧(pl x_1).fst.snd.fst=(mi x_2).fst.snd.fst)∧(True∧True∧True)∧(98=98∧N0.fst=N0.fst)∧(3=3∧N0.snd.fst=N0.snd.fst)∧True)∧Lib.pow10Tab=Lib.pow10Tab∧Value.int IntKind.i64 v.m=Value.int IntKind.i64 v.m∧Value.iface v.t1 v.p1=Value.iface v.t1 v.p1∧Value.iface v.t2 v.p2=Value.iface v.t2 v.p2∧True))∧∀ (x_2:Nat),((x_2<s.length∧x_2<30)∧inB (Int.ofNat (j+1)) 1 5=true)∧(↑x_1:Int)=(↑x_2:Int)→(decide ((↑(s.getD x_2 []).length:Int)=2)=true→(0≤(0:Int)∧0<(↑(s.getD x_2 []).length:Int)∧0≤(1:Int)∧1<(↑(s.getD x_2 []).length:Int)∧True)∧(NetSh ((mi x_2).fst.fst,(mi x_2).fst.snd.fst,())∧(mi x_2).snd.fst.length≤900000000∧0≤(mi x_2).snd.snd∧(mi x_2).snd.snd≤(60:Int))∧inK IntKind.i64 ((↑x_2:Int)+1)∧∃ (x_3:Nat),((x_3≤s.length∧x_3≤30)∧inB (Int.ofNat (j+1)) 1 5=true)∧100 - x_3<100 - x_1∧(Int.ofNat (j+1)=Int.ofNat (j+1)∧s=s∧x=x∧key=key∧True∧True∧(↑x_2:Int)+1=(↑x_3:Int)∧True)∧((True∧True∧True∧(bkT ((mi x_2).fst.fst,(mi x_2).fst.snd.fst,()) (mi x_2).snd.fst (mi x_2).snd.snd (syncE ((mi x_2).fst.fst,(mi x_2).fst.snd.fst,()) ((s.getD x_2 []).getD (Int.toNat 0) 0) ((s.getD x_2 []).getD (Int.toNat 1) 0)) (syncT ((mi x_2).fst.fst,(mi x_2).fst.snd.fst,()) ((s.getD x_2 []).getD (Int.toNat 0) 0) ((s.getD x_2 []).getD (Int.toNat 1) 0)) (lineF [(115:UInt8)] [(s.getD x_2 []).getD (Int.toNat 0) 0,(s.getD x_2 []).getD (Int.toNat 1) 0])).snd.snd=(pl x_3).snd.snd∧True)∧(True∧True∧True)∧(bkT ((mi x_2).fst.fst,(mi x_2).fst.snd.fst,()) (mi x_2).snd.fst (mi x_2).snd.snd (syncE ((mi x_2).fst.fst,(mi x_2).fst.snd.fst,()) ((s.getD x_2 []).getD (Int.toNat 0) 0) ((s.getD x_2 []).getD (Int.toNat 1) 0)) (syncT ((mi x_2).fst.fst,(mi x_2).fst.snd.fst,()) ((s.getD x_2 []).getD (Int.toNat 0) 0) ((s.getD x_2 []).getD (Int.toNat 1) 0)) (lineF [(115:UInt8)] [(s.getD x_2 []).getD (Int.toNat 0) 0,(s.getD x_2 []).getD (Int.toNat 1) 0])).snd.fst=(pl x_3).snd.fst∧(98=98∧(bkT ((mi x_2).fst.fst,(mi x_2).fst.snd.fst,()) (mi x_2).snd.fst (mi x_2).snd.snd (syncE ((mi x_2).fst.fst,(mi x_2).fst.snd.fst,()) ((s.getD x_2 []).getD (Int.toNat 0) 0) ((s.getD x_2 []).getD (Int.toNat 1) 0)) (syncT ((mi x_2).fst.fst,(mi x_2).fst.snd.fst,()) ((s.getD x_2 []).getD (Int.toNat 0) 0) ((s.getD x_2 []).getD (Int.toNat 1) 0)) (lineF [(115:UInt8)] [(s.getD x_2 []).getD (Int.toNat 0) 0,(s.getD x_2 []).getD (Int.toNat 1) 0])).fst.fst=(pl x_3).fst.fst)∧(3=3∧(bkT ((mi x_2).fst.fst,(mi x_2).fst.snd.fst,()) (mi x_2).snd.fst (mi x_2).snd.snd (syncE ((mi x_2).fst.fst,(mi x_2).fst.snd.fst,()) ((s.getD x_2 []).getD (Int.toNat 0) 0) ((s.getD x_2 []).getD (Int.toNat 1) 0)) (syncT ((mi x_2).fst.fst,(mi x_2).fst.snd.fst,()) ((s.getD x_2 []).getD (Int.toNat 0) 0) ((s.getD x_2 []).getD (Int.toNat 1) 0)) (lineF [(115:UInt8)] [(s.getD x_2 []).getD (Int.toNat 0) 0,(s.getD x_2 []).getD (Int.toNat 1) 0])).fst.snd.fst=(pl x_3).fst.snd.fst)∧(True∧True∧True)∧(98=98∧N0.fst=N0.fst)∧(3=3∧N0.snd.fst=N0.snd.fst)∧True)∧Lib.pow10Tab=Lib.pow10Tab∧Value.int IntKind.i64 v.m=Value.int IntKind.i64 v.m∧Value.iface v.t1 v.p1=Value.iface v.t1 v.p1∧Value.iface v.t2 v.p2=Value.iface v.t2 v.p2∧True)∧(decide ((↑(s.getD x_2 []).length:Int)=2)=false→inK IntKind.i64 ((↑x_2:Int)+1)∧∃ (x_3:Nat),((x_3≤s.length∧x_3≤30)∧inB (Int.ofNat (j+1)) 1 5=true)∧100 - x_3<100 - x_1∧(Int.ofNat (j+1)=Int.ofNat (j+1)∧s=s∧x=x∧key=key∧True∧True∧(↑x_2:Int)+1=(↑x_3:Int)∧True)∧((True∧True∧True∧(mi x_2).snd.snd=(pl x_3).snd.snd∧True)∧(True∧True∧True)∧(mi x_2).snd.fst=(pl x_3).snd.fst∧(98=98∧(mi x_2).fst.fst=(pl x_3).fst.fst)∧(3=3∧(mi x_2).fst.snd.fst=(pl x_3).fst.snd.fst)∧(True∧True∧True)∧(98=98∧N0.fst=N0.fst)∧(3=3∧N0.snd.fst=N0.snd.fst)∧True)∧Lib.pow10Tab=Lib.pow10Tab∧Value.int IntKind.i64 v.m=Value.int IntKind.i64 v.m∧Value.iface v.t1 v.p1=Value.iface v.t1 v.p1∧Value.iface v.t2 v.p2=Value.iface v.t2 v.p2∧True))∧(decide ((↑x_1:Int)<30)=false→∃ (x_2:Unit),inB (Int.ofNat (j+1)) 1 5=true∧(Int.ofNat (j+1)=Int.ofNat (j+1)∧s=s∧x=x∧key=key∧True∧True∧True)∧((True∧True∧True∧(pl x_1).snd.snd=(pl (min s.length 30)).snd.snd∧True)∧(True∧True∧True)∧(pl x_1).snd.fst=(pl (min s.length 30)).snd.fst∧(98=98∧(pl x_1).fst.fst=(pl (min s.length 30)).fst.fst)∧(3=3∧(pl x_1).fst.snd.fst=(pl (min s.length 30)).fst.snd.fst)∧(True∧True∧True)∧(98=98∧N0.fst=N0.fst)∧(3=3∧N0.snd.fst=N0.snd.fst)∧True)∧Lib.pow10Tab=Lib.pow10Tab∧Value.int IntKind.i64 v.m=Value.int IntKind.i64 v.m∧Value.iface v.t1 v.p1=Value.iface v.t1 v.p1∧Value.iface v.t2 v.p2=Value.iface v.t2 v.p2∧True))∧(decide ((↑x_1:Int)<(↑s.length:Int))=false→∃ (x_2:Unit),inB (Int.ofNat (j+1)) 1 5=true∧(Int.ofNat (j+1)=Int.ofNat (j+1)∧s=s∧x=x∧key=key∧True∧True∧True)∧((True∧True∧True∧(pl x_1).snd.snd=(pl (min s.length 30)).snd.snd∧True)∧(True∧True∧True)∧(pl x_1).snd.fst=(pl (min s.length 30)).snd.fst∧(98=98∧(pl x_1).fst.fst=(pl (min s.length 30)).fst.fst)∧(3=3∧(pl x_1).fst.snd.fst=(pl (min s.length 30)).fst.snd.fst)∧(True∧True∧True)∧(98=98∧N0.fst=N0.fst)∧(3=3∧N0.snd.fst=N0.snd.fst)∧True)∧Lib.pow10Tab=Lib.pow10Tab∧Value.int IntKind.i64 v.m=Value.int IntKind.i64 v.m∧Value.iface v.t1 v.p1=Value.iface v.t1 v.p1∧Value.iface v.t2 v.p2=Value.iface v.t2 v.p2∧True))∧∀ (x_1:Unit),inB (Int.ofNat (j+1)) 1 5=true→(pl (min s.length 30)).snd.fst.length≤1000000000∧((decide (x<(0:Int))=true→∃ (x:Nat),(x≤tx.length∧inB (Int.ofNat (j+1)) 1 5=true)∧(Int.ofNat (j+1)=Int.ofNat (j+1)∧s=s∧(↑(pl (min s.length 30)).snd.fst.length:Int)=(↑x:Int)∧key=key∧True∧(pl (min s.length 30)).snd.fst=tx∧True)∧((True∧True∧True)∧(98=98∧N0.fst=N0.fst)∧(3=3∧N0.snd.fst=N0.snd.fst)∧True)∧Lib.pow10Tab=Lib.pow10Tab∧Value.int IntKind.i64 v.m=Value.int IntKind.i64 v.m∧Value.iface v.t1 v.p1=Value.iface v.t1 v.p1∧Value.iface v.t2 v.p2=Value.iface v.t2 v.p2∧True)∧(decide (x<(0:Int))=false→(decide ((↑(pl (min s.length 30)).snd.fst.length:Int)<x)=true→∃ (x:Nat),(x≤tx.length∧inB (Int.ofNat (j+1)) 1 5=true)∧(Int.ofNat (j+1)=Int.ofNat (j+1)∧s=s∧(↑(pl (min s.length 30)).snd.fst.length:Int)=(↑x:Int)∧key=key∧True∧(pl (min s.length 30)).snd.fst=tx∧True)∧((True∧True∧True)∧(98=98∧N0.fst=N0.fst)∧(3=3∧N0.snd.fst=N0.snd.fst)∧True)∧Lib.pow10Tab=Lib.pow10Tab∧Value.int IntKind.i64 v.m=Value.int IntKind.i64 v.m∧Value.iface v.t1 v.p1=Value.iface v.t1 v.p1∧Value.iface v.t2 v.p2=Value.iface v.t2 v.p2∧True)∧(decide ((↑(pl (min s.length 30)).snd.fst.length:Int)<x)=false→∃ (x_2:Nat),(x_2≤tx.length∧inB (Int.ofNat (j+1)) 1 5=true)∧(Int.ofNat (j+1)=Int.ofNat (j+1)∧s=s∧x=(↑x_2:Int)∧key=key∧True∧(pl (min s.length 30)).snd.fst=tx∧True)∧((True∧True∧True)∧(98=98∧N0.fst=N0.fst)∧(3=3∧N0.snd.fst=N0.snd.fst)∧True)∧Lib.pow10Tab=Lib.pow10Tab∧Value.int IntKind.i64 v.m=Value.int IntKind.i64 v.m∧Value.iface v.t1 v.p1=Value.iface v.t1 v.p1∧Value.iface v.t2 v.p2=Value.iface v.t2 v.p2∧True)))∧∀ (x:Nat),x≤tx.length∧inB (Int.ofNat (j+1)) 1 5=true→(0≤(0:Int)∧0≤(↑x:Int)∧(↑x:Int)≤(↑tx.length:Int)∧OpenA (Int.ofNat (j+1)) (List.drop (Int.toNat 0) (List.take (↑x:Int).toNat tx))∧∃ (x_2:Unit),t3 (↑x:Int).toNat 0∧(Int.ofNat (j+1)=Int.ofNat (j+1)∧s=s∧(↑x:Int)=(↑x:Int)∧key=key∧True∧True∧(poR (Int.ofNat (j+1)) (List.drop (Int.toNat 0) (List.take (↑x:Int).toNat tx))).snd.fst=(↑(ln (↑x:Int).toNat):Int)∧0=(0:Int)∧True)∧((True∧True∧True∧(poR (Int.ofNat (j+1)) (List.drop (Int.toNat 0) (List.take (↑x:Int).toNat tx))).fst.snd.snd=(b3 (↑x:Int).toNat).snd.snd∧True)∧(True∧True∧True)∧(poR (Int.ofNat (j+1)) (List.drop (Int.toNat 0) (List.take (↑x:Int).toNat tx))).fst.snd.fst=(b3 (↑x:Int).toNat).snd.fst∧(98=98∧(poR (Int.ofNat (j+1)) (List.drop (Int.toNat 0) (List.take (↑x:Int).toNat tx))).fst.fst.fst=(b3 (↑x:Int).toNat).fst.fst)∧(3=3∧(poR (Int.ofNat (j+1)) (List.drop (Int.toNat 0) (List.take (↑x:Int).toNat tx))).fst.fst.snd.fst=(b3 (↑x:Int).toNat).fst.snd.fst)∧(True∧True∧True)∧(98=98∧N0.fst=N0.fst)∧(3=3∧N0.snd.fst=N0.snd.fst)∧True)∧Lib.pow10Tab=Lib.pow10Tab∧Value.int IntKind.i64 v.m=Value.int IntKind.i64 v.m∧Value.iface v.t1 v.p1=Value.iface v.t1 v.p1∧Value.iface v.t2 v.p2=Value.iface v.t2 v.p2∧True)∧∀ (x_2:Unit),t3 (↑x:Int).toNat 0→((!decide (0=(0:Int)))=true→k [Dat.mk Ty.bool false])∧((!decide (0=(0:Int)))=false→((∃ (x_3:Nat),t3 (↑x:Int).toNat x_3∧(Int.ofNat (j+1)=Int.ofNat (j+1)∧s=s∧(↑x:Int)=(↑x:Int)∧key=key∧True∧True∧(↑(ln (↑x:Int).toNat):Int)=(↑(ln (↑x:Int).toNat):Int)∧0=had x_3∧0=(↑x_3:Int)∧True)∧((True∧True∧True∧(b3 (↑x:Int).toNat).snd.snd=(b3 (↑x:Int).toNat).snd.snd∧True)∧(True∧True∧True)∧(b3 (↑x:Int).toNat).snd.fst=(b3 (↑x:Int).toNat).snd.fst∧(98=98∧(b3 (↑x:Int).toNat).fst.fst=(b3 (↑x:Int).toNat).fst.fst)∧(3=3∧(b3 (↑x:Int).toNat).fst.snd.fst=(b3 (↑x:Int).toNat).fst.snd.fst)∧(True∧True∧True)∧(98=98∧N0.fst=(pl x_3).fst.fst)∧(3=3∧N0.snd.fst=(pl x_3).fst.snd.fst)∧True)∧Lib.pow10Tab=Lib.pow10Tab∧Value.int IntKind.i64 v.m=Value.int IntKind.i64 v.m∧Value.iface v.t1 v.p1=Value.iface v.t1 v.p1∧Value.iface v.t2 v.p2=Value.iface v.t2 v.p2∧True)∧∀ (x_3:Nat),t3 (↑x:Int).toNat x_3→(decide ((↑x_3:Int)<(↑s.length:Int))=true→(decide ((↑x_3:Int)<30)=true→(decide (had x_3<(↑(ln (↑x:Int).toNat):Int))=true→(0≤(↑x_3:Int)∧(↑x_3:Int)<(↑s.length:Int)∧((decide ((↑(s.getD (↑x_3:Int).toNat []).length:Int)=3)=true→0≤(0:Int)∧0<(↑(s.getD (↑x_3:Int).toNat []).length:Int)∧0≤(1:Int)∧1<(↑(s.getD (↑x_3:Int).toNat []).length:Int)∧0≤(2:Int)∧2<(↑(s.getD (↑x_3:Int).toNat []).length:Int)∧NetSh ((pl x_3).fst.fst,(pl x_3).fst.snd.fst,())∧(decide (writeE ((pl x_3).fst.fst,(pl x_3).fst.snd.fst,()) ((s.getD (↑x_3:Int).toNat []).getD (Int.toNat 0) 0) ((s.getD (↑x_3:Int).toNat []).getD (Int.toNat 1) 0) ((s.getD (↑x_3:Int).toNat []).getD (Int.toNat 2) 0)=(0:Int))=true→inK IntKind.i64 (had x_3+(1:Int))∧∃ (x_4:Nat),(tM (↑x:Int).toNat x_4∧(↑x_3:Int)=(↑x_4:Int))∧(Int.ofNat (j+1)=Int.ofNat (j+1)∧s=s∧(↑x:Int)=(↑x:Int)∧key=key∧True∧True∧(↑(ln (↑x:Int).toNat):Int)=(↑(ln (↑x:Int).toNat):Int)∧had x_3+1=mH x_4∧(↑x_3:Int)=(↑x_4:Int)∧s.getD (↑x_3:Int).toNat []=s.getD x_4 []∧True)∧((True∧True∧True∧(b3 (↑x:Int).toNat).snd.snd=(b3 (↑x:Int).toNat).snd.snd∧True)∧(True∧True∧True)∧(b3 (↑x:Int).toNat).snd.fst=(b3 (↑x:Int).toNat).snd.fst∧(98=98∧(b3 (↑x:Int).toNat).fst.fst=(b3 (↑x:Int).toNat).fst.fst)∧(3=3∧(b3 (↑x:Int).toNat).fst.snd.fst=(b3 (↑x:Int).toNat).fst.snd.fst)∧(True∧True∧True)∧(98=98∧(writeT ((pl x_3).fst.fst,(pl x_3).fst.snd.fst,()) ((s.getD (↑x_3:Int).toNat []).getD (Int.toNat 0) 0) ((s.getD (↑x_3:Int).toNat []).getD (Int.toNat 1) 0) ((s.getD (↑x_3:Int).toNat []).getD (Int.toNat 2) 0)).fst=(mi x_4).fst.fst)∧(3=3∧(writeT ((pl x_3).fst.fst,(pl x_3).fst.snd.fst,()) ((s.getD (↑x_3:Int).toNat []).getD (Int.toNat 0) 0) ((s.getD (↑x_3:Int).toNat []).getD (Int.toNat 1) 0) ((s.getD (↑x_3:Int).toNat []).getD (Int.toNat 2) 0)).snd.fst=(mi x_4).fst.snd.fst)∧True)∧Lib.pow10Tab=Lib.pow10Tab∧Value.int IntKind.i64 v.m=Value.int IntKind.i64 v.m∧Value.iface v.t1 v.p1=Value.iface v.t1 v.p1∧Value.iface v.t2 v.p2=Value.iface v.t2 v.p2∧True)∧(decide (writeE ((pl x_3).fst.fst,(pl x_3).fst.snd.fst,()) ((s.getD (↑x_3:Int).toNat []).getD (Int.toNat 0) 0) ((s.getD (↑x_3:Int).toNat []).getD (Int.toNat 1) 0) ((s.getD (↑x_3:Int).toNat []).getD (Int.toNat 2) 0)=(0:Int))=false→∃ (x_4:Nat),(tM (↑x:Int).toNat x_4∧(↑x_3:Int)=(↑x_4:Int))∧(Int.ofNat (j+1)=Int.ofNat (j+1)∧s=s∧(↑x:Int)=(↑x:Int)∧key=key∧True∧True∧(↑(ln (↑x:Int).toNat):Int)=(↑(ln (↑x:Int).toNat):Int)∧had x_3=mH x_4∧(↑x_3:Int)=(↑x_4:Int)∧s.getD (↑x_3:Int).toNat []=s.getD x_4 []∧True)∧((True∧True∧True∧(b3 (↑x:Int).toNat).snd.snd=(b3 (↑x:Int).toNat).snd.snd∧True)∧(True∧True∧True)∧(b3 (↑x:Int).toNat).snd.fst=(b3 (↑x:Int).toNat).snd.fst∧(98=98∧(b3 (↑x:Int).toNat).fst.fst=(b3 (↑x:Int).toNat).fst.fst)∧(3=3∧(b3 (↑x:Int).toNat).fst.snd.fst=(b3 (↑x:Int).toNat).fst.snd.fst)∧(True∧True∧True)∧(98=98∧(writeT ((pl x_3).fst.fst,(pl x_3).fst.snd.fst,()) ((s.getD (↑x_3:Int).toNat []).getD (Int.toNat 0) 0) ((s.getD (↑x_3:Int).toNat []).getD (Int.toNat 1) 0) ((s.getD (↑x_3:Int).toNat []).getD (Int.toNat 2) 0)).fst=(mi x_4).fst.fst)∧(3=3∧(writeT ((pl x_3).fst.fst,(pl x_3).fst.snd.fst,()) ((s.getD (↑x_3:Int).toNat []).getD (Int.toNat 0) 0) ((s.getD (↑x_3:Int).toNat []).getD (Int.toNat 1) 0) ((s.getD (↑x_3:Int).toNat []).getD (Int.toNat 2) 0)).snd.fst=(mi x_4).fst.snd.fst)∧True)∧Lib.pow10Tab=Lib.pow10Tab∧Value.int IntKind.i64 v.m=Value.int IntKind.i64 v.m∧Value.iface v.t1 v.p1=Value.iface v.t1 v.p1∧Value.iface v.t2 v.p2=Value.iface v.t2 v.p2∧True))∧(decide ((↑(s.getD (↑x_3:Int).toNat []).length:Int)=3)=false→∃ (x_4:Nat),(tM (↑x:Int).toNat x_4∧(↑x_3:Int)=(↑x_4:Int))∧(Int.ofNat (j+1)=Int.ofNat (j+1)∧s=s∧(↑x:Int)=(↑x:Int)∧key=key∧True∧True∧(↑(ln (↑x:Int).toNat):Int)=(↑(ln (↑x:Int).toNat):Int)∧had x_3=mH x_4∧(↑x_3:Int)=(↑x_4:Int)∧s.getD (↑x_3:Int).toNat []=s.getD x_4 []∧True)∧((True∧True∧True∧(b3 (↑x:Int).toNat).snd.snd=(b3 (↑x:Int).toNat).snd.snd∧True)∧(True∧True∧True)∧(b3 (↑x:Int).toNat).snd.fst=(b3 (↑x:Int).toNat).snd.fst∧(98=98∧(b3 (↑x:Int).toNat).fst.fst=(b3 (↑x:Int).toNat).fst.fst)∧(3=3∧(b3 (↑x:Int).toNat).fst.snd.fst=(b3 (↑x:Int).toNat).fst.snd.fst)∧(True∧True∧True)∧(98=98∧(pl x_3).fst.fst=(mi x_4).fst.fst)∧(3=3∧(pl x_3).fst.snd.fst=(mi x_4).fst.snd.fst)∧True)∧Lib.pow10Tab=Lib.pow10Tab∧Value.int IntKind.i64 v.m=Value.int IntKind.i64 v.m∧Value.iface v.t1 v.p1=Value.iface v.t1 v.p1∧Value.iface v.t2 v.p2=Value.iface v.t2 v.p2∧True))∧∀ (x_4:Nat),tM (↑x:Int).toNat x_4∧(↑x_3:Int)=(↑x_4:Int)→(decide ((↑(s.getD x_4 []).length:Int)=2)=true→0≤(0:Int)∧0<(↑(s.getD x_4 []).length:Int)∧0≤(1:Int)∧1<(↑(s.getD x_4 []).length:Int)∧NetSh ((mi x_4).fst.fst,(mi x_4).fst.snd.fst,())∧(decide (syncE ((mi x_4).fst.fst,(mi x_4).fst.snd.fst,()) ((s.getD x_4 []).getD (Int.toNat 0) 0) ((s.getD x_4 []).getD (Int.toNat 1) 0)=(0:Int))=true→inK IntKind.i64 (mH x_4+(1:Int))∧∃ (x_5:Nat),(tM (↑x:Int).toNat x_5∧(↑x_3:Int)=(↑x_5:Int))∧(Int.ofNat (j+1)=Int.ofNat (j+1)∧s=s∧(↑x:Int)=(↑x:Int)∧key=key∧True∧True∧(↑(ln (↑x:Int).toNat):Int)=(↑(ln (↑x:Int).toNat):Int)∧mH x_4+1=had (x_5+1)∧(↑x_4:Int)=(↑x_5:Int)∧True)∧((True∧True∧True∧(b3 (↑x:Int).toNat).snd.snd=(b3 (↑x:Int).toNat).snd.snd∧True)∧(True∧True∧True)∧(b3 (↑x:Int).toNat).snd.fst=(b3 (↑x:Int).toNat).snd.fst∧(98=98∧(b3 (↑x:Int).toNat).fst.fst=(b3 (↑x:Int).toNat).fst.fst)∧(3=3∧(b3 (↑x:Int).toNat).fst.snd.fst=(b3 (↑x:Int).toNat).fst.snd.fst)∧(True∧True∧True)∧(98=98∧(syncT ((mi x_4).fst.fst,(mi x_4).fst.snd.fst,()) ((s.getD x_4 []).getD (Int.toNat 0) 0) ((s.getD x_4 []).getD (Int.toNat 1) 0)).fst=(pl (x_5+1)).fst.fst)∧(3=3∧(syncT ((mi x_4).fst.fst,(mi x_4).fst.snd.fst,()) ((s.getD x_4 []).getD (Int.toNat 0) 0) ((s.getD x_4 []).getD (Int.toNat 1) 0)).snd.fst=(pl (x_5+1)).fst.snd.fst)∧True)∧Lib.pow10Tab=Lib.pow10Tab∧Value.int IntKind.i64 v.m=Value.int IntKind.i64 v.m∧Value.iface v.t1 v.p1=Value.iface v.t1 v.p1∧Value.iface v.t2 v.p2=Value.iface v.t2 v.p2∧True)∧(decide (syncE ((mi x_4).fst.fst,(mi x_4).fst.snd.fst,()) ((s.getD x_4 []).getD (Int.toNat 0) 0) ((s.getD x_4 []).getD (Int.toNat 1) 0)=(0:Int))=false→∃ (x_5:Nat),(tM (↑x:Int).toNat x_5∧(↑x_3:Int)=(↑x_5:Int))∧(Int.ofNat (j+1)=Int.ofNat (j+1)∧s=s∧(↑x:Int)=(↑x:Int)∧key=key∧True∧True∧(↑(ln (↑x:Int).toNat):Int)=(↑(ln (↑x:Int).toNat):Int)∧mH x_4=had (x_5+1)∧(↑x_4:Int)=(↑x_5:Int)∧True)∧((True∧True∧True∧(b3 (↑x:Int).toNat).snd.snd=(b3 (↑x:Int).toNat).snd.snd∧True)∧(True∧True∧True)∧(b3 (↑x:Int).toNat).snd.fst=(b3 (↑x:Int).toNat).snd.fst∧(98=98∧(b3 (↑x:Int).toNat).fst.fst=(b3 (↑x:Int).toNat).fst.fst)∧(3=3∧(b3 (↑x:Int).toNat).fst.snd.fst=(b3 (↑x:Int).toNat).fst.snd.fst)∧(True∧True∧True)∧(98=98∧(syncT ((mi x_4).fst.fst,(mi x_4).fst.snd.fst,()) ((s.getD x_4 []).getD (Int.toNat 0) 0) ((s.getD x_4 []).getD (Int.toNat 1) 0)).fst=(pl (x_5+1)).fst.fst)∧(3=3∧(syncT ((mi x_4).fst.fst,(mi x_4).fst.snd.fst,()) ((s.getD x_4 []).getD (Int.toNat 0) 0) ((s.getD x_4 []).getD (Int.toNat 1) 0)).snd.fst=(pl (x_5+1)).fst.snd.fst)∧True)∧Lib.pow10Tab=Lib.pow10Tab∧Value.int IntKind.i64 v.m=Value.int IntKind.i64 v.m∧Value.iface v.t1 v.p1=Value.iface v.t1 v.p1∧Value.iface v.t2 v.p2=Value.iface v.t2 v.p2∧True))∧(decide ((↑(s.getD x_4 []).length:Int)=2)=false→∃ (x_5:Nat),(tM (↑x:Int).toNat x_5∧(↑x_3:Int)=(↑x_5:Int))∧(Int.ofNat (j+1)=Int.ofNat (j+1)∧s=s∧(↑x:Int)=(↑x:Int)∧key=key∧True∧True∧(↑(ln (↑x:Int).toNat):Int)=(↑(ln (↑x:Int).toNat):Int)∧mH x_4=had (x_5+1)∧(↑x_4:Int)=(↑x_5:Int)∧True)∧((True∧True∧True∧(b3 (↑x:Int).toNat).snd.snd=(b3 (↑x:Int).toNat).snd.snd∧True)∧(True∧True∧True)∧(b3 (↑x:Int).toNat).snd.fst=(b3 (↑x:Int).toNat).snd.fst∧(98=98∧(b3 (↑x:Int).toNat).fst.fst=(b3 (↑x:Int).toNat).fst.fst)∧(3=3∧(b3 (↑x:Int).toNat).fst.snd.fst=(b3 (↑x:Int).toNat).fst.snd.fst)∧(True∧True∧True)∧(98=98∧(mi x_4).fst.fst=(pl (x_5+1)).fst.fst)∧(3=3∧(mi x_4).fst.snd.fst=(pl (x_5+1)).fst.snd.fst)∧True)∧Lib.pow10Tab=Lib.pow10Tab∧Value.int IntKind.i64 v.m=Value.int IntKind.i64 v.m∧Value.iface v.t1 v.p1=Value.iface v.t1 v.p1∧Value.iface v.t2 v.p2=Value.iface v.t2 v.p2∧True))∧∀ (x_4:Nat),tM (↑x:Int).toNat x_4∧(↑x_3:Int)=(↑x_4:Int)→inK IntKind.i64 ((↑x_4:Int)+1)∧∃ (x_5:Nat),t3 (↑x:Int).toNat x_5∧100 - x_5<100 - x_3∧(Int.ofNat (j+1)=Int.ofNat (j+1)∧s=s∧(↑x:Int)=(↑x:Int)∧key=key∧True∧True∧(↑(ln (↑x:Int).toNat):Int)=(↑(ln (↑x:Int).toNat):Int)∧had (x_4+1)=had x_5∧(↑x_4:Int)+1=(↑x_5:Int)∧True)∧((True∧True∧True∧(b3 (↑x:Int).toNat).snd.snd=(b3 (↑x:Int).toNat).snd.snd∧True)∧(True∧True∧True)∧(b3 (↑x:Int).toNat).snd.fst=(b3 (↑x:Int).toNat).snd.fst∧(98=98∧(b3 (↑x:Int).toNat).fst.fst=(b3 (↑x:Int).toNat).fst.fst)∧(3=3∧(b3 (↑x:Int).toNat).fst.snd.fst=(b3 (↑x:Int).toNat).fst.snd.fst)∧(True∧True∧True)∧(98=98∧(pl (x_4+1)).fst.fst=(pl x_5).fst.fst)∧(3=3∧(pl (x_4+1)).fst.snd.fst=(pl x_5).fst.snd.fst)∧True)∧Lib.pow10Tab=Lib.pow10Tab∧Value.int IntKind.i64 v.m=Value.int IntKind.i64 v.m∧Value.iface v.t1 v.p1=Value.iface v.t1 v.p1∧Value.iface v.t2 v.p2=Value.iface v.t2 v.p2∧True)∧(decide (had x_3<(↑(ln (↑x:Int).toNat):Int))=false→∃ (x_4:Unit),t3 (↑x:Int).toNat 0∧(Int.ofNat (j+1)=Int.ofNat (j+1)∧(↑x:Int)=(↑x:Int)∧key=key∧True∧True∧(↑(ln (↑x:Int).toNat):Int)=(↑(ln (↑x:Int).toNat):Int)∧had x_3=(↑(ln (↑x:Int).toNat):Int)∧True)∧((True∧True∧True∧(b3 (↑x:Int).toNat).snd.snd=(b3 (↑x:Int).toNat).snd.snd∧True)∧(True∧True∧True)∧(b3 (↑x:Int).toNat).snd.fst=(b3 (↑x:Int).toNat).snd.fst∧(98=98∧(b3 (↑x:Int).toNat).fst.fst=(b3 (↑x:Int).toNat).fst.fst)∧(3=3∧(b3 (↑x:Int).toNat).fst.snd.fst=(b3 (↑x:Int).toNat).fst.snd.fst)∧(True∧True∧True)∧(98=98∧(pl x_3).fst.fst=(b3 (↑x:Int).toNat).fst.fst)∧(3=3∧(pl x_3).fst.snd.fst=(b3 (↑x:Int).toNat).fst.snd.fst)∧True)∧Lib.pow10Tab=Lib.pow10Tab∧Value.int IntKind.i64 v.m=Value.int IntKind.i64 v.m∧Value.iface v.t1 v.p1=Value.iface v.t1 v.p1∧Value.iface v.t2 v.p2=Value.iface v.t2 v.p2∧True))∧(decide ((↑x_3:Int)<30)=false→∃ (x_4:Unit),t3 (↑x:Int).toNat 0∧(Int.ofNat (j+1)=Int.ofNat (j+1)∧(↑x:Int)=(↑x:Int)∧key=key∧True∧True∧(↑(ln (↑x:Int).toNat):Int)=(↑(ln (↑x:Int).toNat):Int)∧had x_3=(↑(ln (↑x:Int).toNat):Int)∧True)∧((True∧True∧True∧(b3 (↑x:Int).toNat).snd.snd=(b3 (↑x:Int).toNat).snd.snd∧True)∧(True∧True∧True)∧(b3 (↑x:Int).toNat).snd.fst=(b3 (↑x:Int).toNat).snd.fst∧(98=98∧(b3 (↑x:Int).toNat).fst.fst=(b3 (↑x:Int).toNat).fst.fst)∧(3=3∧(b3 (↑x:Int).toNat).fst.snd.fst=(b3 (↑x:Int).toNat).fst.snd.fst)∧(True∧True∧True)∧(98=98∧(pl x_3).fst.fst=(b3 (↑x:Int).toNat).fst.fst)∧(3=3∧(pl x_3).fst.snd.fst=(b3 (↑x:Int).toNat).fst.snd.fst)∧True)∧Lib.pow10Tab=Lib.pow10Tab∧Value.int IntKind.i64 v.m=Value.int IntKind.i64 v.m∧Value.iface v.t1 v.p1=Value.iface v.t1 v.p1∧Value.iface v.t2 v.p2=Value.iface v.t2 v.p2∧True))∧(decide ((↑x_3:Int)<(↑s.length:Int))=false→∃ (x_4:Unit),t3 (↑x:Int).toNat 0∧(Int.ofNat (j+1)=Int.ofNat (j+1)∧(↑x:Int)=(↑x:Int)∧key=key∧True∧True∧(↑(ln (↑x:Int).toNat):Int)=(↑(ln (↑x:Int).toNat):Int)∧had x_3=(↑(ln (↑x:Int).toNat):Int)∧True)∧((True∧True∧True∧(b3 (↑x:Int).toNat).snd.snd=(b3 (↑x:Int).toNat).snd.snd∧True)∧(True∧True∧True)∧(b3 (↑x:Int).toNat).snd.fst=(b3 (↑x:Int).toNat).snd.fst∧(98=98∧(b3 (↑x:Int).toNat).fst.fst=(b3 (↑x:Int).toNat).fst.fst)∧(3=3∧(b3 (↑x:Int).toNat).fst.snd.fst=(b3 (↑x:Int).toNat).fst.snd.fst)∧(True∧True∧True)∧(98=98∧(pl x_3).fst.fst=(b3 (↑x:Int).toNat).fst.fst)∧(3=3∧(pl x_3).fst.snd.fst=(b3 (↑x:Int).toNat).fst.snd.fst)∧True)∧Lib.pow10Tab=Lib.pow10Tab∧Value.int IntKind.i64 v.m=Value.int IntKind.i64 v.m∧Value.iface v.t1 v.p1=Value.iface v.t1 v.p1∧Value.iface v.t2 v.p2=Value.iface v.t2 v.p2∧True))∧∀ (x_3:Unit),t3 (↑x:Int).toNat 0→((!decide ((↑(ln (↑x:Int).toNat):Int)=(↑(ln (↑x:Int).toNat):Int)))=true→k [Dat.mk Ty.bool false])∧((!decide ((↑(ln (↑x:Int).toNat):Int)=(↑(ln (↑x:Int).toNat):Int)))=false→(decide (3<Int.ofNat (j+1))=true→(∃ (x_4:Nat),(x_4≤(Int.ofNat (j+1)).toNat∧inB (Int.ofNat (j+1)) 1 5=true)∧(Int.ofNat (j+1)=Int.ofNat (j+1)∧(↑x:Int)=(↑x:Int)∧key=key∧True∧True∧0=(↑x_4:Int)∧True)∧((True∧True∧True∧(b3 (↑x:Int).toNat).snd.snd=(b3 (↑x:Int).toNat).snd.snd∧True)∧(True∧True∧True)∧(b3 (↑x:Int).toNat).snd.fst=(b3 (↑x:Int).toNat).snd.fst∧(98=98∧(b3 (↑x:Int).toNat).fst.fst=(b3 (↑x:Int).toNat).fst.fst)∧(3=3∧(b3 (↑x:Int).toNat).fst.snd.fst=(b3 (↑x:Int).toNat).fst.snd.fst)∧(True∧True∧True)∧(98=98∧(b3 (↑x:Int).toNat).fst.fst=(b3 (↑x:Int).toNat).fst.fst)∧(3=3∧(b3 (↑x:Int).toNat).fst.snd.fst=(b3 (↑x:Int).toNat).fst.snd.fst)∧True)∧Lib.pow10Tab=Lib.pow10Tab∧Value.int IntKind.i64 v.m=Value.int IntKind.i64 v.m∧Value.iface v.t1 v.p1=Value.iface v.t1 v.p1∧Value.iface v.t2 v.p2=Value.iface v.t2 v.p2∧True)∧∀ (x_4:Nat),x_4≤(Int.ofNat (j+1)).toNat∧inB (Int.ofNat (j+1)) 1 5=true→(decide ((↑x_4:Int)<Int.ofNat (j+1))=true→NetLen ((b3 (↑x:Int).toNat).fst.fst,(b3 (↑x:Int).toNat).fst.snd.fst,())∧NetLen ((b3 (↑x:Int).toNat).fst.fst,(b3 (↑x:Int).toNat).fst.snd.fst,())∧True∧((!decide (readF ((b3 (↑x:Int).toNat).fst.fst,(b3 (↑x:Int).toNat).fst.snd.fst,()) (↑x_4:Int) key=readF ((b3 (↑x:Int).toNat).fst.fst,(b3 (↑x:Int).toNat).fst.snd.fst,()) (↑x_4:Int) key))=true→k [Dat.mk Ty.bool false])∧((!decide (readF ((b3 (↑x:Int).toNat).fst.fst,(b3 (↑x:Int).toNat).fst.snd.fst,()) (↑x_4:Int) key=readF ((b3 (↑x:Int).toNat).fst.fst,(b3 (↑x:Int).toNat).fst.snd.fst,()) (↑x_4:Int) key))=false→inK IntKind.i64 ((↑x_4:Int)+1)∧∃ (x_5:Nat),(x_5≤(Int.ofNat (j+1)).toNat∧inB (Int.ofNat (j+1)) 1 5=true)∧(Int.ofNat (j+1)).toNat - x_5<(Int.ofNat (j+1)).toNat - x_4∧(Int.ofNat (j+1)=Int.ofNat (j+1)∧(↑x:Int)=(↑x:Int)∧key=key∧True∧True∧(↑x_4:Int)+1=(↑x_5:Int)∧True)∧((True∧True∧True∧(b3 (↑x:Int).toNat).snd.snd=(b3 (↑x:Int).toNat).snd.snd∧True)∧(True∧True∧True)∧(b3 (↑x:Int).toNat).snd.fst=(b3 (↑x:Int).toNat).snd.fst∧(98=98∧(b3 (↑x:Int).toNat).fst.fst=(b3 (↑x:Int).toNat).fst.fst)∧(3=3∧(b3 (↑x:Int).toNat).fst.snd.fst=(b3 (↑x:Int).toNat).fst.snd.fst)∧(True∧True∧True)∧(98=98∧(b3 (↑x:Int).toNat).fst.fst=(b3 (↑x:Int).toNat).fst.fst)∧(3=3∧(b3 (↑x:Int).toNat).fst.snd.fst=(b3 (↑x:Int).toNat).fst.snd.fst)∧True)∧Lib.pow10Tab=Lib.pow10Tab∧Value.int IntKind.i64 v.m=Value.int IntKind.i64 v.m∧Value.iface v.t1 v.p1=Value.iface v.t1 v.p1∧Value.iface v.t2 v.p2=Value.iface v.t2 v.p2∧True))∧(decide ((↑x_4:Int)<Int.ofNat (j+1))=false→k [Dat.mk Ty.bool true]))∧(decide (3<Int.ofNat (j+1))=false→(∃ (x_4:Nat),(x_4≤2∧inB (Int.ofNat (j+1)) 1 3=true)∧(Int.ofNat (j+1)=Int.ofNat (j+1)∧(↑x:Int)=(↑x:Int)∧key=key∧True∧True∧0=(↑x_4:Int)∧True)∧((True∧True∧True∧(b3 (↑x:Int).toNat).snd.snd=(R (↑x:Int).toNat x_4).snd.snd∧True)∧(True∧True∧True)∧(b3 (↑x:Int).toNat).snd.fst=(R (↑x:Int).toNat x_4).snd.fst∧(98=98∧(b3 (↑x:Int).toNat).fst.fst=(R (↑x:Int).toNat x_4).fst.fst)∧(3=3∧(b3 (↑x:Int).toNat).fst.snd.fst=(R (↑x:Int).toNat x_4).fst.snd.fst)∧(True∧True∧True)∧(98=98∧(b3 (↑x:Int).toNat).fst.fst=(R (↑x:Int).toNat x_4).fst.fst)∧(3=3∧(b3 (↑x:Int).toNat).fst.snd.fst=(R (↑x:Int).toNat x_4).fst.snd.fst)∧True)∧Lib.pow10Tab=Lib.pow10Tab∧Value.int IntKind.i64 v.m=Value.int IntKind.i64 v.m∧Value.iface v.t1 v.p1=Value.iface v.t1 v.p1∧Value.iface v.t2 v.p2=Value.iface v.t2 v.p2∧True)∧∀ (x_4:Nat),x_4≤2∧inB (Int.ofNat (j+1)) 1 3=true→(decide ((↑x_4:Int)<2)=true→(∃ (x_5:Nat),(x_5≤(Int.ofNat (j+1)).toNat∧inB (Int.ofNat (j+1)) 1 3=true)∧(Int.ofNat (j+1)=Int.ofNat (j+1)∧(↑x:Int)=(↑x:Int)∧key=key∧True∧True∧(↑x_4:Int)=(↑x_4:Int)∧0=(↑x_5:Int)∧True)∧((True∧True∧True∧(R (↑x:Int).toNat x_4).snd.snd=(P (↑x:Int).toNat (↑x_4:Int).toNat x_5).snd.snd∧True)∧(True∧True∧True)∧(R (↑x:Int).toNat x_4).snd.fst=(P (↑x:Int).toNat (↑x_4:Int).toNat x_5).snd.fst∧(98=98∧(R (↑x:Int).toNat x_4).fst.fst=(P (↑x:Int).toNat (↑x_4:Int).toNat x_5).fst.fst)∧(3=3∧(R (↑x:Int).toNat x_4).fst.snd.fst=(P (↑x:Int).toNat (↑x_4:Int).toNat x_5).fst.snd.fst)∧(True∧True∧True)∧(98=98∧(R (↑x:Int).toNat x_4).fst.fst=(P (↑x:Int).toNat (↑x_4:Int).toNat x_5).fst.fst)∧(3=3∧(R (↑x:Int).toNat x_4).fst.snd.fst=(P (↑x:Int).toNat (↑x_4:Int).toNat x_5).fst.snd.fst)∧True)∧Lib.pow10Tab=Lib.pow10Tab∧Value.int IntKind.i64 v.m=Value.int IntKind.i64 v.m∧Value.iface v.t1 v.p1=Value.iface v.t1 v.p1∧Value.iface v.t2 v.p2=Value.iface v.t2 v.p2∧True)∧∀ (x_5:Nat),x_5≤(Int.ofNat (j+1)).toNat∧inB (Int.ofNat (j+1)) 1 3=true→(decide ((↑x_5:Int)<Int.ofNat (j+1))=true→(∃ (x_6:Nat),(x_6≤(Int.ofNat (j+1)).toNat∧inB (Int.ofNat (j+1)) 1 3=true)∧(Int.ofNat (j+1)=Int.ofNat (j+1)∧(↑x:Int)=(↑x:Int)∧key=key∧True∧True∧(↑x_4:Int)=(↑x_4:Int)∧(↑x_5:Int)=(↑x_5:Int)∧0=(↑x_6:Int)∧True)∧((True∧True∧True∧(P (↑x:Int).toNat (↑x_4:Int).toNat x_5).snd.snd=(Q (↑x:Int).toNat (↑x_4:Int).toNat (↑x_5:Int).toNat x_6).snd.snd∧True)∧(True∧True∧True)∧(P (↑x:Int).toNat (↑x_4:Int).toNat x_5).snd.fst=(Q (↑x:Int).toNat (↑x_4:Int).toNat (↑x_5:Int).toNat x_6).snd.fst∧(98=98∧(P (↑x:Int).toNat (↑x_4:Int).toNat x_5).fst.fst=(Q (↑x:Int).toNat (↑x_4:Int).toNat (↑x_5:Int).toNat x_6).fst.fst)∧(3=3∧(P (↑x:Int).toNat (↑x_4:Int).toNat x_5).fst.snd.fst=(Q (↑x:Int).toNat (↑x_4:Int).toNat (↑x_5:Int).toNat x_6).fst.snd.fst)∧(True∧True∧True)∧(98=98∧(P (↑x:Int).toNat (↑x_4:Int).toNat x_5).fst.fst=(Q (↑x:Int).toNat (↑x_4:Int).toNat (↑x_5:Int).toNat x_6).fst.fst)∧(3=3∧(P (↑x:Int).toNat (↑x_4:Int).toNat x_5).fst.snd.fst=(Q (↑x:Int).toNat (↑x_4:Int).toNat (↑x_5:Int).toNat x_6).fst.snd.fst)∧True)∧Lib.pow10Tab=Lib.pow10Tab∧Value.int IntKind.i64 v.m=Value.int IntKind.i64 v.m∧Value.iface v.t1 v.p1=Value.iface v.t1 v.p1∧Value.iface v.t2 v.p2=Value.iface v.t2 v.p2∧True)∧∀ (x_6:Nat),x_6≤(Int.ofNat (j+1)).toNat∧inB (Int.ofNat (j+1)) 1 3=true→(decide ((↑x_6:Int)<Int.ofNat (j+1))=true→((!decide ((↑x_5:Int)=(↑x_6:Int)))=true→(NetSh ((Q (↑x:Int).toNat (↑x_4:Int).toNat (↑x_5:Int).toNat x_6).fst.fst,(Q (↑x:Int).toNat (↑x_4:Int).toNat (↑x_5:Int).toNat x_6).fst.snd.fst,())∧(Q (↑x:Int).toNat (↑x_4:Int).toNat (↑x_5:Int).toNat x_6).snd.fst.length≤900000000∧0≤(Q (↑x:Int).toNat (↑x_4:Int).toNat (↑x_5:Int).toNat x_6).snd.snd∧(Q (↑x:Int).toNat (↑x_4:Int).toNat (↑x_5:Int).toNat x_6).snd.snd≤(60:Int))∧((!decide (bkE (Q (↑x:Int).toNat (↑x_4:Int).toNat (↑x_5:Int).toNat x_6).snd.snd (syncE ((Q (↑x:Int).toNat (↑x_4:Int).toNat (↑x_5:Int).toNat x_6).fst.fst,(Q (↑x:Int).toNat (↑x_4:Int).toNat (↑x_5:Int).toNat x_6).fst.snd.fst,()) (↑x_5:Int) (↑x_6:Int))=(0:Int)))=true→k [Dat.mk Ty.bool false])∧((!decide (bkE (Q (↑x:Int).toNat (↑x_4:Int).toNat (↑x_5:Int).toNat x_6).snd.snd (syncE ((Q (↑x:Int).toNat (↑x_4:Int).toNat (↑x_5:Int).toNat x_6).fst.fst,(Q (↑x:Int).toNat (↑x_4:Int).toNat (↑x_5:Int).toNat x_6).fst.snd.fst,()) (↑x_5:Int) (↑x_6:Int))=(0:Int)))=false→NetSh ((Q (↑x:Int).toNat (↑x_4:Int).toNat (↑x_5:Int).toNat x_6).fst.fst,(Q (↑x:Int).toNat (↑x_4:Int).toNat (↑x_5:Int).toNat x_6).fst.snd.fst,())∧((!decide (syncE ((Q (↑x:Int).toNat (↑x_4:Int).toNat (↑x_5:Int).toNat x_6).fst.fst,(Q (↑x:Int).toNat (↑x_4:Int).toNat (↑x_5:Int).toNat x_6).fst.snd.fst,()) (↑x_5:Int) (↑x_6:Int)=0))=true→k [Dat.mk Ty.bool false])∧((!decide (syncE ((Q (↑x:Int).toNat (↑x_4:Int).toNat (↑x_5:Int).toNat x_6).fst.fst,(Q (↑x:Int).toNat (↑x_4:Int).toNat (↑x_5:Int).toNat x_6).fst.snd.fst,()) (↑x_5:Int) (↑x_6:Int)=0))=false→inK IntKind.i64 ((↑x_6:Int)+1)∧∃ (x_7:Nat),(x_7≤(Int.ofNat (j+1)).toNat∧inB (Int.ofNat (j+1)) 1 3=true)∧(Int.ofNat (j+1)).toNat - x_7<(Int.ofNat (j+1)).toNat - x_6∧(Int.ofNat (j+1)=Int.ofNat (j+1)∧(↑x:Int)=(↑x:Int)∧key=key∧True∧True∧(↑x_4:Int)=(↑x_4:Int)∧(↑x_5:Int)=(↑x_5:Int)∧(↑x_6:Int)+1=(↑x_7:Int)∧True)∧((True∧True∧True∧(bkT ((Q (↑x:Int).toNat (↑x_4:Int).toNat (↑x_5:Int).toNat x_6).fst.fst,(Q (↑x:Int).toNat (↑x_4:Int).toNat (↑x_5:Int).toNat x_6).fst.snd.fst,()) (Q (↑x:Int).toNat (↑x_4:Int).toNat (↑x_5:Int).toNat x_6).snd.fst (Q (↑x:Int).toNat (↑x_4:Int).toNat (↑x_5:Int).toNat x_6).snd.snd (syncE ((Q (↑x:Int).toNat (↑x_4:Int).toNat (↑x_5:Int).toNat x_6).fst.fst,(Q (↑x:Int).toNat (↑x_4:Int).toNat (↑x_5:Int).toNat x_6).fst.snd.fst,()) (↑x_5:Int) (↑x_6:Int)) (syncT ((Q (↑x:Int).toNat (↑x_4:Int).toNat (↑x_5:Int).toNat x_6).fst.fst,(Q (↑x:Int).toNat (↑x_4:Int).toNat (↑x_5:Int).toNat x_6).fst.snd.fst,()) (↑x_5:Int) (↑x_6:Int)) (lineF [(115:UInt8)] [(↑x_5:Int),(↑x_6:Int)])).snd.snd=(Q (↑x:Int).toNat (↑x_4:Int).toNat (↑x_5:Int).toNat x_7).snd.snd∧True)∧(True∧True∧True)∧(bkT ((Q (↑x:Int).toNat (↑x_4:Int).toNat (↑x_5:Int).toNat x_6).fst.fst,(Q (↑x:Int).toNat (↑x_4:Int).toNat (↑x_5:Int).toNat x_6).fst.snd.fst,()) (Q (↑x:Int).toNat (↑x_4:Int).toNat (↑x_5:Int).toNat x_6).snd.fst (Q (↑x:Int).toNat (↑x_4:Int).toNat (↑x_5:Int).toNat x_6).snd.snd (syncE ((Q (↑x:Int).toNat (↑x_4:Int).toNat (↑x_5:Int).toNat x_6).fst.fst,(Q (↑x:Int).toNat (↑x_4:Int).toNat (↑x_5:Int).toNat x_6).fst.snd.fst,()) (↑x_5:Int) (↑x_6:Int)) (syncT ((Q (↑x:Int).toNat (↑x_4:Int).toNat (↑x_5:Int).toNat x_6).fst.fst,(Q (↑x:Int).toNat (↑x_4:Int).toNat (↑x_5:Int).toNat x_6).fst.snd.fst,()) (↑x_5:Int) (↑x_6:Int)) (lineF [(115:UInt8)] [(↑x_5:Int),(↑x_6:Int)])).snd.fst=(Q (↑x:Int).toNat (↑x_4:Int).toNat (↑x_5:Int).toNat x_7).snd.fst∧(98=98∧(bkT ((Q (↑x:Int).toNat (↑x_4:Int).toNat (↑x_5:Int).toNat x_6).fst.fst,(Q (↑x:Int).toNat (↑x_4:Int).toNat (↑x_5:Int).toNat x_6).fst.snd.fst,()) (Q (↑x:Int).toNat (↑x_4:Int).toNat (↑x_5:Int).toNat x_6).snd.fst (Q (↑x:Int).toNat (↑x_4:Int).toNat (↑x_5:Int).toNat x_6).snd.snd (syncE ((Q (↑x:Int).toNat (↑x_4:Int).toNat (↑x_5:Int).toNat x_6).fst.fst,(Q (↑x:Int).toNat (↑x_4:Int).toNat (↑x_5:Int).toNat x_6).fst.snd.fst,()) (↑x_5:Int) (↑x_6:Int)) (syncT ((Q (↑x:Int).toNat (↑x_4:Int).toNat (↑x_5:Int).toNat x_6).fst.fst,(Q (↑x:Int).toNat (↑x_4:Int).toNat (↑x_5:Int).toNat x_6).fst.snd.fst,()) (↑x_5:Int) (↑x_6:Int)) (lineF [(115:UInt8)] [(↑x_5:Int),(↑x_6:Int)])).fst.fst=(Q (↑x:Int).toNat (↑x_4:Int).toNat (↑x_5:Int).toNat x_7).fst.fst)∧(3=3∧(bkT ((Q (↑x:Int).toNat (↑x_4:Int).toNat (↑x_5:Int).toNat x_6).fst.fst,(Q (↑x:Int).toNat (↑x_4:Int).toNat (↑x_5:Int).toNat x_6).fst.snd.fst,()) (Q (↑x:Int).toNat (↑x_4:Int).toNat (↑x_5:Int).toNat x_6).snd.fst (Q (↑x:Int).toNat (↑x_4:Int).toNat (↑x_5:Int).toNat x_6).snd.snd (syncE ((Q (↑x:Int).toNat (↑x_4:Int).toNat (↑x_5:Int).toNat x_6).fst.fst,(Q (↑x:Int).toNat (↑x_4:Int).toNat (↑x_5:Int).toNat x_6).fst.snd.fst,()) (↑x_5:Int) (↑x_6:Int)) (syncT ((Q (↑x:Int).toNat (↑x_4:Int).toNat (↑x_5:Int).toNat x_6).fst.fst,(Q (↑x:Int).toNat (↑x_4:Int).toNat (↑x_5:Int).toNat x_6).fst.snd.fst,()) (↑x_5:Int) (↑x_6:Int)) (lineF [(115:UInt8)] [(↑x_5:Int),(↑x_6:Int)])).fst.snd.fst=(Q (↑x:Int).toNat (↑x_4:Int).toNat (↑x_5:Int).toNat x_7).fst.snd.fst)∧(True∧True∧True)∧(98=98∧(syncT ((Q (↑x:Int).toNat (↑x_4:Int).toNat (↑x_5:Int).toNat x_6).fst.fst,(Q (↑x:Int).toNat (↑x_4:Int).toNat (↑x_5:Int).toNat x_6).fst.snd.fst,()) (↑x_5:Int) (↑x_6:Int)).fst=(Q (↑x:Int).toNat (↑x_4:Int).toNat (↑x_5:Int).toNat x_7).fst.fst)∧(3=3∧(syncT ((Q (↑x:Int).toNat (↑x_4:Int).toNat (↑x_5:Int).toNat x_6).fst.fst,(Q (↑x:Int).toNat (↑x_4:Int).toNat (↑x_5:Int).toNat x_6).fst.snd.fst,()) (↑x_5:Int) (↑x_6:Int)).snd.fst=(Q (↑x:Int).toNat (↑x_4:Int).toNat (↑x_5:Int).toNat x_7).fst.snd.fst)∧True)∧Lib.pow10Tab=Lib.pow10Tab∧Value.int IntKind.i64 v.m=Value.int IntKind.i64 v.m∧Value.iface v.t1 v.p1=Value.iface v.t1 v.p1∧Value.iface v.t2 v.p2=Value.iface v.t2 v.p2∧True)))∧((!decide ((↑x_5:Int)=(↑x_6:Int)))=false→inK IntKind.i64 ((↑x_6:Int)+1)∧∃ (x_7:Nat),(x_7≤(Int.ofNat (j+1)).toNat∧inB (Int.ofNat (j+1)) 1 3=true)∧(Int.ofNat (j+1)).toNat - x_7<(Int.ofNat (j+1)).toNat - x_6∧(Int.ofNat (j+1)=Int.ofNat (j+1)∧(↑x:Int)=(↑x:Int)∧key=key∧True∧True∧(↑x_4:Int)=(↑x_4:Int)∧(↑x_5:Int)=(↑x_5:Int)∧(↑x_6:Int)+1=(↑x_7:Int)∧True)∧((True∧True∧True∧(Q (↑x:Int).toNat (↑x_4:Int).toNat (↑x_5:Int).toNat x_6).snd.snd=(Q (↑x:Int).toNat (↑x_4:Int).toNat (↑x_5:Int).toNat x_7).snd.snd∧True)∧(True∧True∧True)∧(Q (↑x:Int).toNat (↑x_4:Int).toNat (↑x_5:Int).toNat x_6).snd.fst=(Q (↑x:Int).toNat (↑x_4:Int).toNat (↑x_5:Int).toNat x_7).snd.fst∧(98=98∧(Q (↑x:Int).toNat (↑x_4:Int).toNat (↑x_5:Int).toNat x_6).fst.fst=(Q (↑x:Int).toNat (↑x_4:Int).toNat (↑x_5:Int).toNat x_7).fst.fst)∧(3=3∧(Q (↑x:Int).toNat (↑x_4:Int).toNat (↑x_5:Int).toNat x_6).fst.snd.fst=(Q (↑x:Int).toNat (↑x_4:Int).toNat (↑x_5:Int).toNat x_7).fst.snd.fst)∧(True∧True∧True)∧(98=98∧(Q (↑x:Int).toNat (↑x_4:Int).toNat (↑x_5:Int).toNat x_6).fst.fst=(Q (↑x:Int).toNat (↑x_4:Int).toNat (↑x_5:Int).toNat x_7).fst.fst)∧(3=3∧(Q (↑x:Int).toNat (↑x_4:Int).toNat (↑x_5:Int).toNat x_6).fst.snd.fst=(Q (↑x:Int).toNat (↑x_4:Int).toNat (↑x_5:Int).toNat x_7).fst.snd.fst)∧True)∧Lib.pow10Tab=Lib.pow10Tab∧Value.int IntKind.i64 v.m=Value.int IntKind.i64 v.m∧Value.iface v.t1 v.p1=Value.iface v.t1 v.p1∧Value.iface v.t2 v.p2=Value.iface v.t2 v.p2∧True))∧(decide ((↑x_6:Int)<Int.ofNat (j+1))=false→inK IntKind.i64 ((↑x_5:Int)+1)∧∃ (x_7:Nat),(x_7≤(Int.ofNat (j+1)).toNat∧inB (Int.ofNat (j+1)) 1 3=true)∧(Int.ofNat (j+1)).toNat - x_7<(Int.ofNat (j+1)).toNat - x_5∧(Int.ofNat (j+1)=Int.ofNat (j+1)∧(↑x:Int)=(↑x:Int)∧key=key∧True∧True∧(↑x_4:Int)=(↑x_4:Int)∧(↑x_5:Int)+1=(↑x_7:Int)∧True)∧((True∧True∧True∧(Q (↑x:Int).toNat (↑x_4:Int).toNat (↑x_5:Int).toNat x_6).snd.snd=(P (↑x:Int).toNat (↑x_4:Int).toNat x_7).snd.snd∧True)∧(True∧True∧True)∧(Q (↑x:Int).toNat (↑x_4:Int).toNat (↑x_5:Int).toNat x_6).snd.fst=(P (↑x:Int).toNat (↑x_4:Int).toNat x_7).snd.fst∧(98=98∧(Q (↑x:Int).toNat (↑x_4:Int).toNat (↑x_5:Int).toNat x_6).fst.fst=(P (↑x:Int).toNat (↑x_4:Int).toNat x_7).fst.fst)∧(3=3∧(Q (↑x:Int).toNat (↑x_4:Int).toNat (↑x_5:Int).toNat x_6).fst.snd.fst=(P (↑x:Int).toNat (↑x_4:Int).toNat x_7).fst.snd.fst)∧(True∧True∧True)∧(98=98∧(Q (↑x:Int).toNat (↑x_4:Int).toNat (↑x_5:Int).toNat x_6).fst.fst=(P (↑x:Int).toNat (↑x_4:Int).toNat x_7).fst.fst)∧(3=3∧(Q (↑x:Int).toNat (↑x_4:Int).toNat (↑x_5:Int).toNat x_6).fst.snd.fst=(P (↑x:Int).toNat (↑x_4:Int).toNat x_7).fst.snd.fst)∧True)∧Lib.pow10Tab=Lib.pow10Tab∧Value.int IntKind.i64 v.m=Value.int IntKind.i64 v.m∧Value.iface v.t1 v.p1=Value.iface v.t1 v.p1∧Value.iface v.t2 v.p2=Value.iface v.t2 v.p2∧True))∧(decide ((↑x_5:Int)<Int.ofNat (j+1))=false→inK IntKind.i64 ((↑x_4:Int)+1)∧∃ (x_6:Nat),(x_6≤2∧inB (Int.ofNat (j+1)) 1 3=true)∧2 - x_6<2 - x_4∧(Int.ofNat (j+1)=Int.ofNat (j+1)∧(↑x:Int)=(↑x:Int)∧key=key∧True∧True∧(↑x_4:Int)+1=(↑x_6:Int)∧True)∧((True∧True∧True∧(P (↑x:Int).toNat (↑x_4:Int).toNat x_5).snd.snd=(R (↑x:Int).toNat x_6).snd.snd∧True)∧(True∧True∧True)∧(P (↑x:Int).toNat (↑x_4:Int).toNat x_5).snd.fst=(R (↑x:Int).toNat x_6).snd.fst∧(98=98∧(P (↑x:Int).toNat (↑x_4:Int).toNat x_5).fst.fst=(R (↑x:Int).toNat x_6).fst.fst)∧(3=3∧(P (↑x:Int).toNat (↑x_4:Int).toNat x_5).fst.snd.fst=(R (↑x:Int).toNat x_6).fst.snd.fst)∧(True∧True∧True)∧(98=98∧(P (↑x:Int).toNat (↑x_4:Int).toNat x_5).fst.fst=(R (↑x:Int).toNat x_6).fst.fst)∧(3=3∧(P (↑x:Int).toNat (↑x_4:Int).toNat x_5).fst.snd.fst=(R (↑x:Int).toNat x_6).fst.snd.fst)∧True)∧Lib.pow10Tab=Lib.pow10Tab∧Value.int IntKind.i64 v.m=Value.int IntKind.i64 v.m∧Value.iface v.t1 v.p1=Value.iface v.t1 v.p1∧Value.iface v.t2 v.p2=Value.iface v.t2 v.p2∧True))∧(decide ((↑x_4:Int)<2)=false→(∃ (x_5:Nat),(x_5≤(Int.ofNat (j+1)).toNat∧inB (Int.ofNat (j+1)) 1 3=true)∧(Int.ofNat (j+1)=Int.ofNat (j+1)∧(↑x:Int)=(↑x:Int)∧key=key∧True∧True∧0=(↑x_5:Int)∧True)∧((True∧True∧True∧(R (↑x:Int).toNat x_4).snd.snd=(R (↑x:Int).toNat 2).snd.snd∧True)∧(True∧True∧True)∧(R (↑x:Int).toNat x_4).snd.fst=(R (↑x:Int).toNat 2).snd.fst∧(98=98∧(R (↑x:Int).toNat x_4).fst.fst=(R (↑x:Int).toNat 2).fst.fst)∧(3=3∧(R (↑x:Int).toNat x_4).fst.snd.fst=(R (↑x:Int).toNat 2).fst.snd.fst)∧(True∧True∧True)∧(98=98∧(R (↑x:Int).toNat x_4).fst.fst=(R (↑x:Int).toNat 2).fst.fst)∧(3=3∧(R (↑x:Int).toNat x_4).fst.snd.fst=(R (↑x:Int).toNat 2).fst.snd.fst)∧True)∧Lib.pow10Tab=Lib.pow10Tab∧Value.int IntKind.i64 v.m=Value.int IntKind.i64 v.m∧Value.iface v.t1 v.p1=Value.iface v.t1 v.p1∧Value.iface v.t2 v.p2=Value.iface v.t2 v.p2∧True)∧∀ (x_5:Nat),x_5≤(Int.ofNat (j+1)).toNat∧inB (Int.ofNat (j+1)) 1 3=true→(decide ((↑x_5:Int)<Int.ofNat (j+1))=true→NetLen ((R (↑x:Int).toNat 2).fst.fst,(R (↑x:Int).toNat 2).fst.snd.fst,())∧NetLen ((R (↑x:Int).toNat 2).fst.fst,(R (↑x:Int).toNat 2).fst.snd.fst,())∧True∧((!decide (readF ((R (↑x:Int).toNat 2).fst.fst,(R (↑x:Int).toNat 2).fst.snd.fst,()) (↑x_5:Int) key=readF ((R (↑x:Int).toNat 2).fst.fst,(R (↑x:Int).toNat 2).fst.snd.fst,()) (↑x_5:Int) key))=true→k [Dat.mk Ty.bool false])∧((!decide (readF ((R (↑x:Int).toNat 2).fst.fst,(R (↑x:Int).toNat 2).fst.snd.fst,()) (↑x_5:Int) key=readF ((R (↑x:Int).toNat 2).fst.fst,(R (↑x:Int).toNat 2).fst.snd.fst,()) (↑x_5:Int) key))=false→NetLen ((R (↑x:Int).toNat 2).fst.fst,(R (↑x:Int).toNat 2).fst.snd.fst,())∧NetLen ((R (↑x:Int).toNat 2).fst.fst,(R (↑x:Int).toNat 2).fst.snd.fst,())∧True∧((!decide (readF ((R (↑x:Int).toNat 2).fst.fst,(R (↑x:Int).toNat 2).fst.snd.fst,()) (↑x_5:Int) key=readF ((R (↑x:Int).toNat 2).fst.fst,(R (↑x:Int).toNat 2).fst.snd.fst,()) 0 key))=true→k [Dat.mk Ty.bool false])∧((!decide (readF ((R (↑x:Int).toNat 2).fst.fst,(R (↑x:Int).toNat 2).fst.snd.fst,()) (↑x_5:Int) key=readF ((R (↑x:Int).toNat 2).fst.fst,(R (↑x:Int).toNat 2).fst.snd.fst,()) 0 key))=false→inK IntKind.i64 ((↑x_5:Int)+1)∧∃ (x_6:Nat),(x_6≤(Int.ofNat (j+1)).toNat∧inB (Int.ofNat (j+1)) 1 3=true)∧(Int.ofNat (j+1)).toNat - x_6<(Int.ofNat (j+1)).toNat - x_5∧(Int.ofNat (j+1)=Int.ofNat (j+1)∧(↑x:Int)=(↑x:Int)∧key=key∧True∧True∧(↑x_5:Int)+1=(↑x_6:Int)∧True)∧((True∧True∧True∧(R (↑x:Int).toNat 2).snd.snd=(R (↑x:Int).toNat 2).snd.snd∧True)∧(True∧True∧True)∧(R (↑x:Int).toNat 2).snd.fst=(R (↑x:Int).toNat 2).snd.fst∧(98=98∧(R (↑x:Int).toNat 2).fst.fst=(R (↑x:Int).toNat 2).fst.fst)∧(3=3∧(R (↑x:Int).toNat 2).fst.snd.fst=(R (↑x:Int).toNat 2).fst.snd.fst)∧(True∧True∧True)∧(98=98∧(R (↑x:Int).toNat 2).fst.fst=(R (↑x:Int).toNat 2).fst.fst)∧(3=3∧(R (↑x:Int).toNat 2).fst.snd.fst=(R (↑x:Int).toNat 2).fst.snd.fst)∧True)∧Lib.pow10Tab=Lib.pow10Tab∧Value.int IntKind.i64 v.m=Value.int IntKind.i64 v.m∧Value.iface v.t1 v.p1=Value.iface v.t1 v.p1∧Value.iface v.t2 v.p2=Value.iface v.t2 v.p2∧True)))∧(decide ((↑x_5:Int)<Int.ofNat (j+1))=false→k [Dat.mk Ty.bool true]))))))))):=by kernel_rfl
end Go.Proofs.YthdbbgajmgjfcaaGreatDoor
