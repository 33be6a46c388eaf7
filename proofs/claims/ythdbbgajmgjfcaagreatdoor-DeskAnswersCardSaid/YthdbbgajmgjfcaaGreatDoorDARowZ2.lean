/- Own texts, merged and cut: JOk, JLaw, BkD, BkS, KV, BkT, As, Er, BkU, KV2, BkV, BkW, BkN, KV4, BkO, BkP, KV5, BkQ, BkL, BkR, KV6, BkM, BkPl, BkNm, BkSp, BkLn, BkOp, KV7, BkOq, BkNb, KV8, BkNc, KV9, BkNd, BkLi, BkLj, BkOd, KV10, BkOe. -/
import Derived.Test.YthdbbgajmgjfcaaGreatDoorDARowZ1
import Derived.Test.YthdbbgajmgjfcaaGreatDoorChecked
import Derived.WalkKit
import Derived.LaidEql
import Derived.Stop.Asserts
import Derived.RowKitTokens
import Derived.Test.YthdbbgajmgjfcaaGreatDoorDARowVQ
import Derived.Test.YthdbbgajmgjfcaaGreatDoorDARowVPA
import Derived.Shelf.Small.Wraps
import Derived.Shelf.Small.Strs
import Derived.Shelf.Strings.LastIndex
import Derived.Lib.SplitLaws
import Derived.Lib.Split
import Derived.Lib.IndexBytes
import Derived.Lib.AtoiAllCases
import Derived.Shelf.Strings.Split
import Derived.Shelf.Strconv.AtoiAll
import Derived.RangeFuncNested
import Derived.RangeFuncBound
import Derived.RangeFuncCalls
import Derived.RangeFuncLeaves
import Derived.Shelf.Abstract
import Derived.Shelf.RegionOpen
import Derived.OwnWalkIn
import Derived.TacticsInMore
import Derived.LoopNIn
import Derived.LoopIn
import Derived.StillTailTactics
namespace Go.Vc
open Go.RowKit
theorem OwnOk.sub[Dn]{P:Program}{gl gl':List (Nat×Dat)}{f:FuncId}{c:OCtr}(hs:∀ x∈gl,x∈gl')(h:OwnOk P gl f c):OwnOk P gl' f c :=
 fun args ob k hc w M R0 A vals hB hrd I=>h args ob k hc w M R0 A vals ⟨fun g d hg=>hB.gl g d (hs _ hg),hB.lt,hB.me⟩ hrd I
theorem OwnOk.lift[Dn]{P:Program}{gl:List (Nat×Dat)}{f:FuncId}{c:OCtr}(h:OwnOk P [] f c):OwnOk P gl f c:=h.sub fun x hx=>by cases hx
theorem own_nilrowK[Dn]{P:Program}{gl:List (Nat×Dat)}{f:FuncId}{oc oc':OCtr}(h:OwnOk P gl f oc)(e:TypeId)(t:Ty)(σ:List Nat)(hσ:σ.Nodup)
   (h':∀ args ob k,oc' args ob k→(∀ i,i<keptN args→σ.getD i 0=i)∧oc args ob (fun s ob'=>match s with
     | .nils=>keptN args≤ob'.length∧k (reS σ (.os ob'.length)) (σ.map fun i=>reO σ ((ob'++[Ob.row e t []]).getD i .dead))
     | s=>k s ob')):OwnOk P gl f oc':=by
 intro args ob k hc w M R0 A vals hB hrd I
 obtain⟨hs,hc⟩:=h' _ _ _ hc
 refine (h _ _ _ hc w M R0 A vals hB hrd I).mono ?_
 rintro x w' ⟨v,s,ob1,A',rfl,hk,I2,hkeep⟩
 split at hk
 · obtain⟨hkn,hk⟩:=hk
   have hv:v = .slice none 0 0:=I2.tm 0 .nils rfl
   subst hv
   have hnum:A'.n=ob1.length:=I2.num
   have hI := (I2.add none (fun _ => .slice none 0 0) (fun b => (Value.slice none 0 0).ownBlock = some b) (nilOb e (.d t)) (Same.refl w') (fun _ _ _ => rfl) (fun b hb => by simp [Value.ownBlock] at hb) (fun hro =>
         nilOb_ok e (.d t) (Asg.push_η ..) (Asg.push_κ ..))).put (d:=some 0) (s := .os ob1.length) (v := .slice none 0 0) ⟨by simp[Asg.pushT,hnum],by rw[← hnum,Asg.push_η]⟩
   refine⟨.slice none 0 0,_,_,_,rfl,hk,hI.re hσ,fun i hi => ?_⟩
   rw[← hkeep i hi]
   simp only[Asg.re]
   rw[hs i hi]
   simp only[Asg.pushT]
   rw[if_neg (by omega)]
 · exact⟨v,_,_,A',rfl,hk,I2,hkeep⟩
end Go.Vc
namespace Go.Proofs.YthdbbgajmgjfcaaGreatDoor
open Go.Vc Go.Proofs
theorem readO_vc(nd:List (List (List Va)))(wr:List Int)(p q:Int)(hN:NetLen (nd,wr,()))(k:SV→List Ob→Prop)
 (h1:inNet (nd,wr,()) p q=false→k .nils [.st 96 [.os 1,.os 2],.row 98 tRow nd,.row 3 I wr])
 (h2:inNet (nd,wr,()) p q=true→k (.os 1) [.st 96 [.os 2,.os 3],.row 83 tV (valsAt (nd,wr,()) p q),.row 98 tRow nd,.row 3 I wr]) :
 vcO ⟨Eg,[(56,cCloneI),(49,cIs)],[],[],[]⟩ (anReadO (nd,wr,()) p q) (Tryz.f29.body.getD .skip) Tryz.f29.ntmps [(.tmp 6,.un)] [.ps 0,.d I p,.d I q] [.st 96 [.os 1,.os 2],.row 98 tRow nd,.row 3 I wr] k:=by
 rw[vcReadO]
 have e0:(List.getD nd p.toNat (List.replicate 4 [])).getD q.toNat []=valsAt (nd,wr,()) p q:=rfl
 have e1:∀ y:Va,(List.replicate 1 va0).set 0 y=[y]:=fun _=>rfl
 have ea:∀ (m n:List Va),List.append m n=m++n:=fun _ _=>rfl
 have e2:∀ y:Va,(y.1,y.2.1,())=y:=fun _=>rfl
 simp only[e0,e1,ea,e2,decide_eq_true_eq,decide_eq_false_iff_not,true_and,and_true,Bool.not_eq_true',Bool.not_eq_false',Int.toNat_natCast,inK_i64]
 refine⟨h1,fun h => ?_⟩
 have hin:=inNet_iff.1 h
 have hin1:p<(nd.length:Int):=hin.1.2
 have hr:(List.getD nd p.toNat (List.replicate 4 []))∈nd:=getD_memL (by omega)
 obtain⟨hr4,hrl⟩:=hN.1 _ hr
 have hv:valsAt (nd,wr,()) p q∈(List.getD nd p.toNat (List.replicate 4 [])):=getD_memL (by rw[hr4];omega)
 obtain⟨hl1,hl2⟩:=hrl _ hv
 refine⟨hin.1.1,hin1,hin.2.1,by omega,⟨0,⟨Nat.zero_le _,h⟩,rfl,rfl⟩,fun x ⟨hx,_⟩=>⟨fun hlt => ?_,fun hge => ?_⟩⟩
 ·have hxl:x<(valsAt (nd,wr,()) p q).length:=by omega
  have:=hl2 _ (getD_memL (d:=va0) hxl)
  refine⟨by omega,hlt,by omega,?_,by omega,x+1,⟨by omega,h⟩,by omega,by omega,?_⟩
  ·rw[List.length_take];simp only[List.length_cons,List.length_nil];omega
  ·rw[List.take_succ_eq_append_getElem hxl,List.getD_eq_getElem?_getD,List.getElem?_eq_getElem hxl];rfl
 ·have:x=(valsAt (nd,wr,()) p q).length:=by omega
  rw[this,List.take_length];exact h2 h
theorem ownRead:OwnOk Tryz.prog [] 29 oRead:=by
 refine own_nilrowK (oc:=fun args ob k=>∃ (p q:Int) (nd:List (List (List Va))) (wr:List Int),args=[.ps 0,.d I p,.d I q]∧ob=[.st 96 [.os 1,.os 2],.row 98 tRow nd,.row 3 I wr]∧NetLen (nd,wr,()) ∧
  (inNet (nd,wr,()) p q=false→k .nils [.st 96 [.os 1,.os 2],.row 98 tRow nd,.row 3 I wr]) ∧
  (inNet (nd,wr,()) p q=true→k (.os 1) [.st 96 [.os 2,.os 3],.row 83 tV (valsAt (nd,wr,()) p q),.row 98 tRow nd,.row 3 I wr])) ?_ 83 tV [0,3,1,2] (by decide) ?_
 ·refine own_of (CxOk.mk' Eg_ok (by kernel_rfl) mixed (gl:=[]) (GOk.cons okCloneI Tryz.func56 (by kernel_rfl) (by kernel_rfl) (GOk.cons okIs Tryz.func49 (by kernel_rfl) (by kernel_rfl) GOk.nil)) GoOk.nil noIt) Tryz.func29 (c:=Tryz.f29.body.getD .skip) (rvs:=[(.tmp 6,.un)]) (by kernel_rfl) (by kernel_rfl) (by kernel_rfl) ?_
  rintro args ob k ⟨p,q,nd,wr,rfl,rfl,hN,h1,h2⟩ hwa hwo
  exact⟨anReadO (nd,wr,()) p q,readO_vc nd wr p q hN k h1 h2⟩
 ·intro args ob k h
  unfold oRead at h
  split at h
  ·rename_i p q nd wr
   obtain⟨hN,hk⟩:=h
   refine⟨fun i hi => ?_,p,q,nd,wr,rfl,rfl,hN,fun hb=>⟨show 1≤3 from by decide,?_⟩,fun hb => ?_⟩
   ·have:i<1:=hi
    have:i=0:=by omega
    subst this;rfl
   ·unfold readF at hk;rw[if_neg (by rw[hb];decide)] at hk;exact hk
   ·unfold readF at hk;rw[if_pos hb] at hk;exact hk
  ·exact h.elim
open Go.Vc Go.Proofs
theorem inB5{n:Int}(h:inB n 1 5=true):1≤n.toNat∧n.toNat≤5∧1≤n∧n≤5:=by
 have:=inB_iff.1 h;omega
theorem writeE_k(t:Net)(p q v:Int) : -9223372036854775808≤writeE t p q v∧writeE t p q v≤9223372036854775807:=by
 unfold writeE;split
 ·split<;>omega
 ·omega
theorem syncE_k(t:Net)(a b:Int) : -9223372036854775808≤syncE t a b∧syncE t a b≤9223372036854775807:=by
 unfold syncE;split
 ·split<;>omega
 ·omega
open Go.Vc Go.Proofs Go.RowKit
abbrev tBd:Ty := .pr (.ptr .un) (.pr (.sl (.int .u8)) .un)
abbrev tBk:Ty := .pr (.ptr tNet) (.pr tBd (.pr I .un))
def obBk(t:Net)(txt:List UInt8)(m:Int):List Ob:=[.st 66 [.ps 1,.sf 0 1,.os 2,.d I m],.st 96 [.os 3,.os 4],.buf 5 txt,.row 98 tRow t.1,.row 3 I t.2.1]
def oWS:OCtr:=fun args ob k=>match args,ob with
 | [.pf _ 0 1 [],.d .str x],[.st 66 [.ps 1,.sf 0 1,.os 2,.d (.int .i64) m],.st 96 [.os 3,.os 4],.buf 5 txt,.row 98 (.ar 4 (.sl (.pr (.sl (.int .i64)) (.pr (.int .i64) .un)))) nodes,.row 3 (.int .i64) wrote] =>
  txt.length+x.length≤1000000000∧k (.tp [.d I (x.length:Int),.d tErr (0:Int)]) (obBk (nodes,wrote,()) (txt++x) m)
 | _,_=>False
def oStr:OCtr:=fun args ob k=>match args,ob with
 | [.pf _ 0 1 []],[.st 66 [.ps 1,.sf 0 1,.os 2,.d (.int .i64) m],.st 96 [.os 3,.os 4],.buf 5 txt,.row 98 (.ar 4 (.sl (.pr (.sl (.int .i64)) (.pr (.int .i64) .un)))) nodes,.row 3 (.int .i64) wrote] =>
  txt.length≤1000000000∧k (.d .str txt) (obBk (nodes,wrote,()) txt m)
 | _,_=>False
theorem pf_val{w:World}{ro:Nat→Prop}{A:Asg}{t:Ty}{i o:Nat}{v:Value}(h:SvOk w ro A (.pf t i o []) v):∃ g,A.η i = .pointer (some ⟨g,0,none⟩)∧v = .pointer (some ⟨g,o,none⟩):=by
 obtain⟨_,g,o',t',e1,e2,_,e3⟩:=h
 rw[off_nil] at e2
 injection e2 with e2;injection e2 with e2
 subst e2
 exact⟨g,e1,e3⟩
theorem str_val{w:World}{ro:Nat→Prop}{A:Asg}{x:List UInt8}{v:Value}(h:SvOk w ro A (.d .str x) v):v = .string ⟨x.toArray⟩∧x.length≤maxLen:=by
 have h':[v]=[Value.string ⟨x.toArray⟩]∧x.length≤maxLen:=h
 exact⟨by simpa using h'.1,h'.2⟩
theorem vals1{vals:Array Value}(h:vals.size=1):vals=#[vals.getD 0 undef]:=by
 apply Array.ext (by simp[h])
 intro k h1 h2
 have:k=0:=by omega
 subst this
 simp[h]
theorem vals2{vals:Array Value}(h:vals.size=2):vals=#[vals.getD 0 undef,vals.getD 1 undef]:=by
 apply Array.ext (by simp[h])
 intro k h1 h2
 have:k=0∨k=1:=by omega
 rcases this with rfl | rfl<;>simp[h]
theorem ownWS[Dn]:OwnOk Tryz.prog [] 43 oWS:=by
 intro args ob k h w M R0 A vals hB hrd IV
 unfold oWS at h
 split at h
 ·rename_i t x m txt nodes wrote
  obtain⟨hl,hk⟩:=h
  obtain⟨g,e1,e2⟩:=pf_val (IV.tm 0 _ rfl)
  obtain⟨e3,hxl⟩:=str_val (IV.tm 1 _ rfl)
  have hv:=vals2 (show vals.size=2 from IV.len)
  rw[e2,e3] at hv
  rw[hv]
  rw[hv] at IV
  refine (ws_inv IV (i:=0) (j:=2) (o:=1) rfl rfl rfl rfl rfl (by decide) (by decide) (by kernel_rfl) x (by omega) e1).mono ?_
  rintro e w' ⟨rfl,κ,F,I'⟩
  have hn:inK .i64 (x.length:Int):=inK_len hxl
  have hs:∀ ro,SvOk w' ro (A.pushT κ F) (.tp [.d I (x.length:Int),.d tErr (0:Int)]) (.tuple #[.int .i64 x.length,.nilIface]):=by
   refine fun ro=>⟨_,rfl,rfl,fun j sv v h1 h2 => ?_⟩
   match j with
   | 0=>simp at h1 h2;subst h1;subst h2;exact⟨rfl,hn⟩
   | 1=>simp at h1 h2;subst h1;subst h2;exact .inl ⟨rfl,rfl⟩
   | j+2=>simp at h1
  have I2:=I'.out (M':=M) rfl (σ:=[0,1,5,3,4]) (by decide) (hs _)
  refine⟨_,_,_,_,rfl,hk,I2,fun i hi => ?_⟩
  have hi:i<1:=hi
  have:i=0:=by omega
  subst this
  exact (A.push_le κ F).η 0 (by rw[show A.n=5 from IV.num];decide)
 ·exact h.elim
theorem ownStr[Dn]:OwnOk Tryz.prog [] 31 oStr:=by
 intro args ob k h w M R0 A vals hB hrd IV
 unfold oStr at h
 split at h
 ·rename_i t m txt nodes wrote
  obtain⟨hl,hk⟩:=h
  obtain⟨g,e1,e2⟩:=pf_val (IV.tm 0 _ rfl)
  have hv:=vals1 (show vals.size=1 from IV.len)
  rw[e2] at hv
  rw[hv]
  rw[hv] at IV
  refine (st_inv IV (i:=0) (j:=2) (o:=1) rfl rfl rfl rfl rfl (by decide) e1).mono ?_
  rintro e w' ⟨rfl,I'⟩
  have hs:∀ ro,SvOk w' ro A (.d .str txt) (.string ⟨txt.toArray⟩):=fun ro=>⟨rfl,Nat.le_trans hl (by decide)⟩
  have I2:=I'.out (M':=M) rfl (σ:=[0,1,2,3,4]) (by decide) (hs _)
  refine⟨_,_,_,_,rfl,hk,I2,fun i hi => ?_⟩
  have hi:i<1:=hi
  have:i=0:=by omega
  subst this
  rfl
 ·exact h.elim
open Go.Vc Go.Proofs Go.RowKit
def Es:Env:={ tys:=[(3,I),(4,.bool),(9,.str),(5,.int .u8),(38,.sl (.int .u8)),(29,tErr),(32,.sl I),(66,tBk),(24,.ptr tBk)],errT:=73,eqs:=[],els:=[] }
theorem Es_ok:EnvOk Tryz.prog Es:=EnvOk.of_list (by kernel_rfl) (by kernel_rfl) (by kernel_rfl)
def sumN(s:List UInt8):Nat→Nat
 | 0=>0
 | k+1=>sumN s k+(k+1)*(s.getD k 0).toNat
def sumF(s:List UInt8):Int:=((sumN s s.length:Nat):Int)%9973
theorem sumN_le(s:List UInt8):∀ k,sumN s k≤k*k*255
 | 0=>Nat.le_refl _
 | k+1=>by
  have h1:=sumN_le s k
  have h2:(s.getD k 0).toNat≤255:=by have:=(s.getD k 0).toNat_lt;omega
  have h3:(k+1)*(s.getD k 0).toNat≤(k+1)*255:=Nat.mul_le_mul_left _ h2
  have h4:(k+1)*(k+1)=k*k+k+(k+1):=by rw[Nat.mul_succ,Nat.succ_mul]
  simp only[sumN]
  rw[h4]
  omega
theorem sumN_mono(s:List UInt8){j k:Nat}(h:j≤k):sumN s j≤sumN s k:=by
 induction k with
 | zero => have : j = 0 := by omega
           subst this;exact Nat.le_refl _
 | succ k ih =>
   by_cases hj:j=k+1
   · subst hj;exact Nat.le_refl _
   · exact Nat.le_trans (ih (by omega)) (Nat.le_add_right _ _)
structure SumOk(s:List UInt8):Prop where
 le:s.length≤1100000
def cSum:Ctr:=cdet [.str] (fun s=>SumOk s) (fun s=>[⟨I,sumF s⟩])
def anSumB(s:List UInt8):Ann:=[joinAll,loopAt 3 Nat [] (fun st i=>St.at (St.only st [7,8]) [(3,.d I ((sumN s i:Nat):Int)),(9,.d I (i:Int))]) (fun _ i=>i≤s.length) (fun i=>s.length - i)]
def anSumR(s:List UInt8):Ann:=[joinAll,loopAt 3 Nat [] (fun st j=>St.at (St.only st [0]) [(3,.d I ((sumN s s.length:Nat) - (sumN s j:Nat):Int)),(4,.d I ((j:Int) - 1))]) (fun _ j=>j≤s.length) (fun j=>j)]
def cDig(d:Nat):Ctr:=cdet [I] (fun (n:Int)=>0≤n∧n.toNat<d) (fun (n:Int)=>[⟨.str,Lib.decDigits n.toNat⟩])
structure DigOk(n:Int):Prop where
 nn:0≤n
def cDigits:Ctr:=cdet [I] (fun (n:Int)=>DigOk n) (fun (n:Int)=>[⟨.str,Lib.decDigits n.toNat⟩])
def putS(word:List UInt8)(l:List Int):List UInt8:=l.foldl (fun s n=>List.append s (List.append [32] (Lib.itoa n))) word
def lineF(word:List UInt8)(l:List Int):List UInt8:=List.append (List.append (List.append (putS word l) [32]) (Lib.itoa (sumF (putS word l)))) [10]
def oPut:OCtr:=fun args ob k=>match args,ob with
 | [.ps 0,.d .str word,.d (.sl (.int .i64)) l],[.st 66 [.ps 1,.sf 0 1,.os 2,.d (.int .i64) m],.st 96 [.os 3,.os 4],.buf 5 txt,.row 98 (.ar 4 (.sl (.pr (.sl (.int .i64)) (.pr (.int .i64) .un)))) nodes,.row 3 (.int .i64) wrote] =>
  (txt.length≤900000000∧(0≤m∧m≤1000)∧word.length≤10∧(l:List Int).length≤10)∧k (.tp []) (obBk (nodes,wrote,()) (List.append txt (lineF word l)) ((m:Int)+1))
 | _,_=>False
def anPut(word:List UInt8)(l:List Int):Ann:=[joinAll,loopAt 2 Nat [] (fun st i=>St.at (St.only st [0,10,11]) [(6,.d .str (putS word (l.take i))),(12,.d I (i:Int))]) (fun _ i=>i≤l.length∧l.length≤10) (fun i=>l.length - i)]
open Go.Vc
set_option linter.unusedVariables false
theorem vcSumB(s:List UInt8)(k:List Dat→Prop):vcF ⟨Es,[],[],[],[]⟩ (anSumB s) (Tryz.f62.body.getD .skip) Tryz.f62.ntmps [(.tmp 2,I)] [⟨.str,s⟩] k=(
 (∃ (x:Nat),x.le s.length∧(0=(↑(sumN s x):Int)∧sbyt s=sbyt s∧(↑(sbyt s).length:Int)=(↑(sbyt s).length:Int)∧0=(↑x:Int)∧True)∧True∧True)∧∀ (x:Nat),x.le s.length→(decide ((↑x:Int)<(↑(sbyt s).length:Int))=true→0≤(↑x:Int)∧(↑x:Int)<(↑(sbyt s).length:Int)∧inK IntKind.i64 ((↑x:Int)+1)∧inK IntKind.i64 ((sbyt s).getD (↑x:Int).toNat 0)∧inK IntKind.i64 (((↑x:Int)+1)*(sbyt s).getD (↑x:Int).toNat 0)∧inK IntKind.i64 ((↑(sumN s x):Int)+((↑x:Int)+1)*(sbyt s).getD (↑x:Int).toNat 0)∧inK IntKind.i64 ((↑x:Int)+1)∧∃ (x_1:Nat),x_1.le s.length∧s.length - x_1<s.length - x∧((↑(sumN s x):Int)+((↑x:Int)+1)*(sbyt s).getD (↑x:Int).toNat 0=(↑(sumN s x_1):Int)∧sbyt s=sbyt s∧(↑(sbyt s).length:Int)=(↑(sbyt s).length:Int)∧(↑x:Int)+1=(↑x_1:Int)∧True)∧True∧True)∧(decide ((↑x:Int)<(↑(sbyt s).length:Int))=false→(9973:Int)≠(0:Int)∧inK IntKind.i64 ((↑(sumN s x):Int).tmod 9973)∧k [Dat.mk (I) ((↑(sumN s x):Int).tmod 9973)])):=by kernel_rfl
theorem vcSumR(s:List UInt8)(k:List Dat→Prop):vcF ⟨Es,[],[],[],[]⟩ (anSumR s) (Tryz.f67.body.getD .skip) Tryz.f67.ntmps [(.tmp 2,I)] [⟨.str,s⟩] k=(
 inK IntKind.i64 ((↑s.length:Int) - 1)∧(∃ (x:Nat),x.le s.length∧(s=s∧0=(↑(sumN s s.length):Int) - (↑(sumN s x):Int)∧(↑s.length:Int) - 1=(↑x:Int) - (1:I.D)∧True)∧True∧True)∧∀ (x:Nat),x.le s.length→(decide (0≤(↑x:Int) - (1:I.D))=true→inK IntKind.i64 ((↑x:Int) - (1:I.D)+1)∧0≤(↑x:Int) - (1:I.D)∧(↑x:Int) - (1:I.D)<(↑s.length:Int)∧inK IntKind.i64 (↑(s.getD ((↑x:Int) - (1:I.D)).toNat (0:UInt8)).toNat:Int)∧inK IntKind.i64 (((↑x:Int) - (1:I.D)+1)*(↑(s.getD ((↑x:Int) - (1:I.D)).toNat (0:UInt8)).toNat:Int))∧inK IntKind.i64 ((↑(sumN s s.length):Int) - (↑(sumN s x):Int)+((↑x:Int) - (1:I.D)+1)*(↑(s.getD ((↑x:Int) - (1:I.D)).toNat (0:UInt8)).toNat:Int))∧inK IntKind.i64 ((↑x:Int) - (1:I.D) - 1)∧∃ (x_1:Nat),x_1.le s.length∧x_1<x∧(s=s∧(↑(sumN s s.length):Int) - (↑(sumN s x):Int)+((↑x:Int) - (1:I.D)+1)*(↑(s.getD ((↑x:Int) - (1:I.D)).toNat (0:UInt8)).toNat:Int)=(↑(sumN s s.length):Int) - (↑(sumN s x_1):Int)∧(↑x:Int) - (1:I.D) - 1=(↑x_1:Int) - (1:I.D)∧True)∧True∧True)∧(decide (0≤(↑x:Int) - (1:I.D))=false→(9973:Int)≠(0:Int)∧inK IntKind.i64 (((↑(sumN s s.length):Int) - (↑(sumN s x):Int)).tmod 9973)∧k [Dat.mk (I) (((↑(sumN s s.length):Int) - (↑(sumN s x):Int)).tmod 9973)])):=by kernel_rfl
theorem vcDig(d:Nat)(n:Int)(k:List Dat→Prop):vcF ⟨Es,[(75,cDig d)],[],[],[]⟩ [joinAll] (Tryz.f75.body.getD .skip) Tryz.f75.ntmps [(.tmp 2,.str)] [⟨I,n⟩] k=(
 (decide (n<10)=true→inK IntKind.i64 (n+1)∧0≤n∧n≤n+1∧n+1≤(↑[(48:UInt8),49,50,51,52,53,54,55,56,57].length:Int)∧k [Dat.mk Ty.str (List.drop n.toNat (List.take (n+1).toNat [(48:UInt8),49,50,51,52,53,54,55,56,57]))])∧(decide (n<10)=false→(10:Int)≠(0:Int)∧inK IntKind.i64 (n.tdiv 10)∧(0≤n.tdiv 10∧(n.tdiv 10).toNat<d)∧(10:Int)≠(0:Int)∧inK IntKind.i64 (n.tmod 10)∧(0≤n.tmod 10∧(n.tmod 10).toNat<d)∧(Lib.decDigits (n.tdiv 10).toNat).length+(Lib.decDigits (n.tmod 10).toNat).length≤maxLen∧k [Dat.mk Ty.str ((Lib.decDigits (n.tdiv 10).toNat).append (Lib.decDigits (n.tmod 10).toNat))])):=by kernel_rfl
theorem vcPut(nd:List (List (List Va)))(wr:List Int)(txt word:List UInt8)(l:List Int)(m:Int)(k:SV→List Ob→Prop):vcO ⟨Es,[(62,cSum),(64,cItoa)],glT,[],[(43,oWS)]⟩ (anPut word l) (Tryz.f35.body.getD .skip) Tryz.f35.ntmps [] [.ps 0,.d .str word,.d (.sl I) l] (obBk (nd,wr,()) txt m) k=(
 (∃ (x:Nat),(x≤l.length∧l.length≤10)∧(True∧word=putS word (List.take x l)∧l=l∧(↑l.length:Int)=(↑l.length:Int)∧0=(↑x:Int)∧True)∧((True∧True∧True∧m=m∧True)∧(True∧True∧True)∧txt=txt∧(98=98∧nd=nd)∧(3=3∧wr=wr)∧True)∧True∧word=word∧l=l∧Lib.pow10Tab=Lib.pow10Tab∧True)∧∀ (x:Nat),x≤l.length∧l.length≤10→(decide ((↑x:Int)<(↑l.length:Int))=true→0≤(↑x:Int)∧(↑x:Int)<(↑l.length:Int)∧True∧[(32:UInt8)].length+(Lib.itoa (l.getD (↑x:Int).toNat 0)).length≤maxLen∧(putS word (List.take x l)).length+((32:UInt8)::Lib.itoa (l.getD (↑x:Int).toNat 0)).length≤maxLen∧inK IntKind.i64 ((↑x:Int)+1)∧∃ (x_1:Nat),(x_1≤l.length∧l.length≤10)∧l.length - x_1<l.length - x∧(True∧(putS word (List.take x l)).append ((32:UInt8)::Lib.itoa (l.getD (↑x:Int).toNat 0))=putS word (List.take x_1 l)∧l=l∧(↑l.length:Int)=(↑l.length:Int)∧(↑x:Int)+1=(↑x_1:Int)∧True)∧((True∧True∧True∧m=m∧True)∧(True∧True∧True)∧txt=txt∧(98=98∧nd=nd)∧(3=3∧wr=wr)∧True)∧True∧word=word∧l=l∧Lib.pow10Tab=Lib.pow10Tab∧True)∧(decide ((↑x:Int)<(↑l.length:Int))=false→((putS word (List.take x l)).length+[(32:UInt8)].length≤maxLen∧SumOk (putS word (List.take x l))∧True∧((putS word (List.take x l)).append [(32:UInt8)]).length+(Lib.itoa (sumF (putS word (List.take x l)))).length≤maxLen∧(((putS word (List.take x l)).append [(32:UInt8)]).append (Lib.itoa (sumF (putS word (List.take x l))))).length+[(10:UInt8)].length≤maxLen∧True)∧txt.length+((((putS word (List.take x l)).append [(32:UInt8)]).append (Lib.itoa (sumF (putS word (List.take x l))))).append [(10:UInt8)]).length≤1000000000∧inK IntKind.i64 (m+1)∧k (SV.tp []) [Ob.st 66 [SV.ps 1,SV.sf 0 1,SV.os 2,SV.d (I) (m+1)],Ob.st 96 [SV.os 3,SV.os 4],Ob.buf 5 (txt++(((putS word (List.take x l)).append [(32:UInt8)]).append (Lib.itoa (sumF (putS word (List.take x l))))).append [(10:UInt8)]),Ob.row 98 tRow nd,Ob.row 3 (I) wr])):=by kernel_rfl
open Go.Vc Go.Proofs Go.RowKit
theorem sbyt_len(s:List UInt8):List.length (sbyt s)=s.length:=by simp[sbyt]
theorem sbyt_get(s:List UInt8)(i:Nat):List.getD (sbyt s) i (0:Int)=((s.getD i 0).toNat:Int):=by
 simp only[sbyt,List.getD_eq_getElem?_getD,List.getElem?_map]
 cases s[i]?<;>rfl
theorem sq_le{x:Nat}(h:x≤1100000):x*x≤1210000000000:=Nat.mul_le_mul h h
theorem sum_step(s:List UInt8){x:Nat}(hx:x<1100000):(((x:Int)+1)*((s.getD x 0).toNat:Int)=(((x+1)*(s.getD x 0).toNat:Nat):Int))∧(x+1)*(s.getD x 0).toNat≤1100000*255:=by
 refine⟨by rw[Int.natCast_mul];rfl,Nat.mul_le_mul (by omega) ?_⟩
 have:=(s.getD x 0).toNat_lt;omega
theorem sumN_bound(s:List UInt8){x:Nat}(hx:x≤1100000):sumN s x≤308550000000000:=by
 have h1:=sumN_le s x
 have h2:=sq_le hx
 omega
theorem okSumB[Dn]:PlainOk Tryz.prog [] 62 cSum:=by
 refine plain_of (CxOk.mk' Es_ok (by kernel_rfl) mixed (gl:=[]) GOk.nil GoOk.nil noIt) Tryz.func62 (c:=Tryz.f62.body.getD .skip) (rvs:=[(.tmp 2,I)]) (by kernel_rfl) (by kernel_rfl) (by kernel_rfl) ?_
 intro ds k ⟨hp,hk⟩ hwf
 obtain⟨s,rfl,hs⟩:=dest1 hp
 have hl:=hs.le
 refine⟨anSumB s,?_⟩
 have hk:k [⟨I,sumF s⟩]:=hk
 rw[vcSumB]
 simp only[sbyt_len,sbyt_get,Int.toNat_natCast,decide_eq_true_eq,decide_eq_false_iff_not,true_and,and_true,Nat.le_eq,inK_i64,Int.ofNat_lt,ne_eq,Int.reduceEq,not_false_eq_true]
 refine⟨⟨0,Nat.zero_le _,rfl,rfl⟩,fun x hx=>⟨fun hlt => ?_,fun hge => ?_⟩⟩
 ·obtain⟨e1,e2⟩:=sum_step s (x:=x) (by omega)
  have e3:=sumN_bound s (x:=x) (by omega)
  have e4:(s.getD x 0).toNat≤255:=by have:=(s.getD x 0).toNat_lt;omega
  rw[e1]
  refine⟨by omega,by omega,by omega,by omega,by omega,by omega,by omega,x+1,by omega,by omega,?_,by omega⟩
  simp only[sumN];omega
 ·have:x=s.length:=by omega
  subst this
  have e3:=sumN_bound s hl
  rw[Int.tmod_eq_emod_of_nonneg (by omega)]
  exact⟨by omega,hk⟩
theorem okSumR[Dn]:PlainOk Tryz.prog [] 67 cSum:=by
 refine plain_of (CxOk.mk' Es_ok (by kernel_rfl) mixed (gl:=[]) GOk.nil GoOk.nil noIt) Tryz.func67 (c:=Tryz.f67.body.getD .skip) (rvs:=[(.tmp 2,I)]) (by kernel_rfl) (by kernel_rfl) (by kernel_rfl) ?_
 intro ds k ⟨hp,hk⟩ hwf
 obtain⟨s,rfl,hs⟩:=dest1 hp
 have hl:=hs.le
 refine⟨anSumR s,?_⟩
 have hk:k [⟨I,sumF s⟩]:=hk
 rw[vcSumR]
 have one:(1:I.D)=(1:Int):=rfl
 simp only[one,decide_eq_true_eq,decide_eq_false_iff_not,true_and,and_true,Nat.le_eq,inK_i64,ne_eq,Int.reduceEq,not_false_eq_true]
 have hL:=sumN_bound s hl
 refine⟨by omega,⟨s.length,Nat.le_refl _,by omega,by omega⟩,fun x hx=>⟨fun hge => ?_,fun hlt => ?_⟩⟩
 ·obtain⟨y,rfl⟩:∃ y,x=y+1:=⟨x - 1,by omega⟩
  have et:(((y+1:Nat):Int) - 1).toNat=y:=by omega
  rw[et]
  obtain⟨e1,e2⟩:=sum_step s (x:=y) (by omega)
  have e3:=sumN_bound s (x:=y) (by omega)
  have e5:=sumN_mono s hx
  have e4:(s.getD y 0).toNat≤255:=by have:=(s.getD y 0).toNat_lt;omega
  have e6:((y+1:Nat):Int) - 1+1=(y:Int)+1:=by omega
  have e7:sumN s (y+1)=sumN s y+(y+1)*(s.getD y 0).toNat:=rfl
  rw[e6,e1]
  refine⟨by omega,by omega,by omega,by omega,by omega,by omega,by omega,y,by omega,by omega,?_,by omega⟩
  omega
 ·have:x=0:=by omega
  subst this
  simp only[sumN,Int.natCast_zero,Int.sub_zero]
  rw[Int.tmod_eq_emod_of_nonneg (by omega)]
  exact⟨by omega,hk⟩
theorem dig_small:∀ n:Fin 10,List.drop n.1 (List.take (n.1+1) [(48:UInt8),49,50,51,52,53,54,55,56,57])=[UInt8.ofNat (48+n.1)]:=by decide
theorem decDig_le{n:Nat}(h:n<9223372036854775808):(Lib.decDigits n).length≤20:=by
 rw[Lib.decDigits_length]
 have:=nDig_le 18 n (by omega)
 omega
theorem okDig[Dn]:∀ d,PlainOk Tryz.prog [] 75 (cDig d)
 | 0=>by
  intro ds k ⟨hp,hk⟩
  obtain⟨n,rfl,h1,h2⟩:=dest1 hp
  omega
 | d+1=>by
  refine plain_of (CxOk.mk' Es_ok (by kernel_rfl) mixed (gl:=[]) (GOk.cons (okDig d) Tryz.func75 (by kernel_rfl) (by kernel_rfl) GOk.nil) GoOk.nil noIt) Tryz.func75 (c:=Tryz.f75.body.getD .skip) (rvs:=[(.tmp 2,.str)]) (by kernel_rfl) (by kernel_rfl) (by kernel_rfl) ?_
  intro ds k ⟨hp,hk⟩ hwf
  obtain⟨n,rfl,h1,h2⟩:=dest1 hp
  refine⟨[joinAll],?_⟩
  have hk:k [⟨.str,Lib.decDigits (n:Int).toNat⟩]:=hk
  have hn:inK .i64 n:=hwf _ (List.mem_singleton.2 rfl)
  change @LE.le Int _ 0 n at h1
  change @LT.lt Nat _ (@Int.toNat n) (d+1) at h2
  clear hp hwf
  revert n
  intro (n:Int) _ hk hn h1 h2
  have hn:=inK_i64.1 hn
  rw[vcDig]
  simp only[decide_eq_true_eq,decide_eq_false_iff_not,inK_i64,ne_eq,Int.reduceEq,not_false_eq_true,true_and]
  refine⟨fun hlt=>⟨by omega,h1,by omega,by simp;omega,?_⟩,fun hge => ?_⟩
  ·have e:=dig_small ⟨n.toNat,by omega⟩
   have e2:(n+1).toNat=n.toNat+1:=by omega
   rw[e2,e]
   have e3:Lib.decDigits n.toNat=[UInt8.ofNat (48+n.toNat)]:=by rw[Lib.decDigits,dif_pos (by omega)]
   rw[← e3];exact hk
  ·have q1:n.tdiv 10=n/10:=Int.tdiv_eq_ediv_of_nonneg h1
   have q2:n.tmod 10=n%10:=Int.tmod_eq_emod_of_nonneg h1
   rw[q1,q2]
   have t1:(n/10).toNat=n.toNat/10:=by omega
   have t2:(n%10).toNat=n.toNat%10:=by omega
   rw[t1,t2]
   refine⟨by omega,⟨by omega,by omega⟩,by omega,⟨by omega,by omega⟩,?_,?_⟩
   ·have l1:=decDig_le (n:=n.toNat/10) (by omega)
    have l2:=decDig_le (n:=n.toNat%10) (by omega)
    simp only[maxLen];omega
   ·have e3:Lib.decDigits n.toNat=List.append (Lib.decDigits (n.toNat/10)) (Lib.decDigits (n.toNat%10)):=by
     rw[Lib.decDigits,dif_neg (by omega)]
     conv=>rhs;rw[Lib.decDigits.eq_def (n.toNat%10),dif_pos (show n.toNat%10<10 by omega)]
     rfl
    rw[← e3];exact hk
theorem okDigits[Dn]:PlainOk Tryz.prog [] 75 cDigits:=by
 intro ds k ⟨hp,hk⟩
 obtain⟨n,rfl,h1⟩:=dest1 hp
 have h1 : @LE.le Int _ 0 n:=h1.nn
 exact okDig (n.toNat+1) [⟨I,n⟩] k ⟨⟨h1,Nat.lt_succ_self _⟩,hk⟩
theorem putS_succ(word:List UInt8)(l:List Int){x:Nat}(hx:x<l.length):putS word (l.take (x+1))=List.append (putS word (l.take x)) (List.append [32] (Lib.itoa (l.getD x 0))):=by
 rw[List.take_succ_eq_append_getElem hx,putS,List.foldl_append,List.getD_eq_getElem?_getD,List.getElem?_eq_getElem hx]
 rfl
theorem putS_len(word:List UInt8):∀ (l:List Int),(∀ n∈l,inK .i64 n)→(putS word l).length≤word.length+21*l.length:=by
 intro l
 unfold putS
 induction l generalizing word with
 | nil=>intro _;simp
 | cons n l ih =>
  intro h
  have h1:=ih (List.append word (List.append [32] (Lib.itoa n))) fun m hm=>h m (List.mem_cons_of_mem _ hm)
  have h2:=itoa_len (h n List.mem_cons_self)
  have h3:(List.append word (List.append [32] (Lib.itoa n))).length=word.length+(1+(Lib.itoa n).length):=by
   show (word++([32]++Lib.itoa n)).length=_
   simp only[List.length_append,List.length_cons,List.length_nil]
  rw[h3] at h1
  simp only[List.foldl_cons,List.length_cons]
  omega
theorem sumF_k(s:List UInt8):inK .i64 (sumF s):=by
 have:=inK_i64 (n:=sumF s)
 rw[this]
 unfold sumF
 omega
theorem ownPut[Dn]:OwnOk Tryz.prog glT 35 oPut:=by
 refine own_of (CxOk.mk' Es_ok (by kernel_rfl) mixed (gl:=glT) (GOk.cons (okSumB.lift) Tryz.func62 (by kernel_rfl) (by kernel_rfl) (GOk.cons okItoa Tryz.func64 (by kernel_rfl) (by kernel_rfl) GOk.nil)) (GoOk.cons ownWS.lift Tryz.func43 (by kernel_rfl) (by kernel_rfl) GoOk.nil) noIt) Tryz.func35 (c:=Tryz.f35.body.getD .skip) (rvs:=[]) (by kernel_rfl) (by kernel_rfl) (by kernel_rfl) ?_
 intro args ob k h hwa hwo
 unfold oPut at h
 split at h
 ·rename_i word l m txt nd wr
  obtain⟨⟨h1,h2,h3,h4⟩,hk⟩:=h
  have hl:∀ n∈l,inK .i64 n:=by
   have:=hwa (.d (.sl I) l) (by simp)
   exact this.2
  have h2a : @LE.le Int _ (0:Int) m:=h2.1
  have h2b : @LE.le Int _ m (1000:Int):=h2.2
  refine⟨anPut word l,?_⟩
  show vcO _ _ _ _ _ [.ps 0,.d .str word,.d (.sl I) l] (obBk (nd,wr,()) txt m) k
  rw[vcPut]
  have hlk:∀ x,(Lib.itoa (l.getD x 0)).length≤20∨l.length≤x:=by
   intro x
   by_cases hx:x<l.length
   ·left
    rw[List.getD_eq_getElem?_getD,List.getElem?_eq_getElem hx]
    exact itoa_len (hl _ (List.getElem_mem hx))
   ·right;omega
  have hpl:∀ x,x≤l.length→(putS word (l.take x)).length≤300:=by
   intro x hx
   have:=putS_len word (l.take x) fun n hn=>hl n (List.mem_of_mem_take hn)
   rw[List.length_take] at this
   omega
  have ea:∀ (m n:List UInt8),List.append m n=m++n:=fun _ _=>rfl
  have eml:maxLen=9223372036854775807:=rfl
  simp only[ea,List.length_append,List.length_cons,List.length_nil,decide_eq_true_eq,decide_eq_false_iff_not,true_and,and_true,Int.toNat_natCast,inK_i64,Int.ofNat_lt]
  refine⟨⟨0,⟨Nat.zero_le _,h4⟩,by simp[putS],rfl⟩,fun x ⟨hx,_⟩=>⟨fun hlt => ?_,fun hge => ?_⟩⟩
  ·have h5:=(hlk x).resolve_right (by omega)
   have h6:=hpl x hx
   refine⟨by omega,hlt,by omega,by omega,by omega,x+1,⟨by omega,h4⟩,by omega,?_,by omega⟩
   rw[putS_succ word l hlt]
   rfl
  ·have:x=l.length:=by omega
   subst this
   rw[List.take_length]
   have h6:=hpl l.length (Nat.le_refl _)
   rw[List.take_length] at h6
   have h7:=itoa_len (sumF_k (putS word l))
   refine⟨⟨by omega,⟨by omega⟩,by omega,by omega⟩,by omega,by omega,hk⟩
 ·exact h.elim
open Go.RowKit Go.Extern.Stop Go.Stop Go.Extern
theorem as_nil(t:Value)(w:World) :
 Calls Tryz.prog 65 #[.nilIface,t] w fun e w'=>e = .returned (.bool false)∧w'=w:=by
 go_enter Tryz.func65,Tryz.ntmps65
 go_wp2
 go_ret
 exact⟨rfl,rfl⟩
theorem Tas.valueOf27(t:Addr)(w:World):(ReflectliteValue.unpack (.iface 114 (.pointer (some t)))).run Tryz.prog w
 = .ok (.agg #[.pointer (some ⟨9,114,none⟩),.pointer (some ⟨w.heap.size,0,none⟩),.int .u64 150]) (w.alloc (.cells #[.pointer (some t)] 114)):=by kernel_rfl
theorem Tas.type27(a:Addr)(w:World):(ReflectliteValue.methodAny (ReflectliteValue.valueError "reflectlite.Value.Type" 0) (fun t _ _ _=>ReflectliteType.toType t) #[.agg #[.pointer (some ⟨9,114,none⟩),.pointer (some a),.int .u64 150]]).run Tryz.prog w
 = .ok (.iface 165 (.agg #[.pointer (some ⟨9,114,none⟩)])) w:=by kernel_rfl
theorem Tas.methodKind(h:Value)(w:World):(Go.method 348 165 (.agg #[h]) "Kind").run Tryz.prog w = .ok (170,h) w:=by kernel_rfl
theorem Tas.kind27(w:World):((ReflectliteType.abiMethod fun t=>(fun a:Nat=>Value.int IntKind.u8 (a:Int)) <$> Rtype.kind t) #[.pointer (some ⟨9,114,none⟩)]).run Tryz.prog w = .ok (.int .u8 22) w:=by kernel_rfl
theorem Tas.kind25(w:World):((ReflectliteType.abiMethod fun t=>(fun a:Nat=>Value.int IntKind.u8 (a:Int)) <$> Rtype.kind t) #[.pointer (some ⟨9,73,none⟩)]).run Tryz.prog w = .ok (.int .u8 2) w:=by kernel_rfl
theorem rlm(z:Sem Value)(f:TypeId→Addr→Nat→Nat→Sem Value)(v:Value) :
 ReflectliteValue.method z f #[v]=(do match ← ReflectliteValue.parts v with | none=>z | some (t,a,fl)=>f t a fl (fl%32)):=rfl
theorem Tas.parts27(a:Addr)(w:World):(ReflectliteValue.parts (.agg #[.pointer (some ⟨9,114,none⟩),.pointer (some a),.int .u64 150])).run Tryz.prog w = .ok (some (114,a,150)) w:=by kernel_rfl
theorem Tas.isNil27(a p:Addr)(W:World)(ha:W.cell? a=some (.pointer (some p))) :
 (ReflectliteValue.method (ReflectliteValue.valueError "reflectlite.Value.IsNil" 0) ReflectliteValue.isNil #[.agg #[.pointer (some ⟨9,114,none⟩),.pointer (some a),.int .u64 150]]).run Tryz.prog W = .ok (.bool false) W:=by
 rw[rlm]
 simp only[Sem.run_bind,Tas.parts27,Result.andThen]
 simp[ReflectliteValue.isNil,loadVar,isAgg,underlying,Tryz.underlying114,ha,Result.andThen]
theorem Tas.methodElem(h:Value)(w:World):(Go.method 348 165 (.agg #[h]) "Elem").run Tryz.prog w = .ok (180,.agg #[h]) w:=by kernel_rfl
theorem Tas.methodImplements(h:Value)(w:World):(Go.method 348 165 (.agg #[h]) "Implements").run Tryz.prog w = .ok (181,.agg #[h]) w:=by kernel_rfl
theorem Tas.methodAssignableTo(h:Value)(w:World):(Go.method 348 165 (.agg #[h]) "AssignableTo").run Tryz.prog w = .ok (178,.agg #[h]) w:=by kernel_rfl
theorem Tas.elem27(w:World):(ReflectliteType.method ReflectliteType.elem #[.agg #[.pointer (some ⟨9,114,none⟩)]]).run Tryz.prog w = .ok (.iface 165 (.agg #[.pointer (some ⟨9,73,none⟩)])) w:=by kernel_rfl
theorem Tas.implements25(w:World):(ReflectliteType.relation "Implements" ReflectliteType.implements_ #[.agg #[.pointer (some ⟨9,73,none⟩)],.iface 165 (.agg #[.pointer (some ⟨9,29,none⟩)])]).run Tryz.prog w = .ok (.bool true) w:=by kernel_rfl
theorem Tas.typeOf25(v:Value)(w:World):(ReflectliteType.typeOf #[.iface 73 v]).run Tryz.prog w = .ok (.iface 165 (.agg #[.pointer (some ⟨9,73,none⟩)])) w:=by kernel_rfl
theorem Tas.assignable25(w:World):(ReflectliteType.relation "AssignableTo" ReflectliteType.assignableTo #[.agg #[.pointer (some ⟨9,73,none⟩)],.iface 165 (.agg #[.pointer (some ⟨9,73,none⟩)])]).run Tryz.prog w = .ok (.bool true) w:=by kernel_rfl
theorem Tas.valueOf25(e:Int)(w:World):(ReflectliteValue.unpack (.iface 73 (.int .i64 e))).run Tryz.prog w
 = .ok (.agg #[.pointer (some ⟨9,73,none⟩),.pointer (some ⟨w.heap.size,0,none⟩),.int .u64 130]) (w.alloc (.cells #[.int .i64 e] 73)):=by kernel_rfl
theorem Tas.elemOf27(w:World):(Rtype.elem? 114).run Tryz.prog w = .ok (some 73) w:=by kernel_rfl
theorem Tas.mk25(p:Addr)(w:World):(ReflectliteValue.mk 73 p ReflectliteValue.flagAddr).run Tryz.prog w = .ok (.agg #[.pointer (some ⟨9,73,none⟩),.pointer (some p),.int .u64 386]) w:=by kernel_rfl
theorem Tas.elemV27(a p:Addr)(W:World)(ha:W.cell? a=some (.pointer (some p))) :
 (ReflectliteValue.method (ReflectliteValue.valueError "reflectlite.Value.Elem" 0) ReflectliteValue.elem #[.agg #[.pointer (some ⟨9,114,none⟩),.pointer (some a),.int .u64 150]]).run Tryz.prog W
  = .ok (.agg #[.pointer (some ⟨9,73,none⟩),.pointer (some p),.int .u64 386]) W:=by
 rw[rlm]
 simp only[Sem.run_bind,Tas.parts27,Result.andThen]
 simp[ReflectliteValue.elem,loadVar,isAgg,underlying,Tryz.underlying114,ha,Result.andThen,Tas.elemOf27,Tas.mk25]
theorem rls(v x:Value):ReflectliteValue.set #[v,x]=(do
 let (some (dst,a,fl),some (src,b,_)):=(← ReflectliteValue.parts v,← ReflectliteValue.parts x)
  | unsupported (.noEntry "extern/(internal/reflectlite.Value).Set.zeroValue")
 if fl/ReflectliteValue.flagAddr%2==0 then unsupported (.noEntry "extern/(internal/reflectlite.Value).Set.unaddressable")
 let val ← loadVar src b
 if ← Rtype.directlyAssignable dst src then storeVar dst a val
 else if ← Rtype.implements dst src then
  if (← Rtype.kind src)==20 then
   match val with
   | .nilIface=>unsupported (.noEntry "extern/reflectlite: a nil value of one interface type handed on as a value of another")
   | _=>storeVar dst a val
  else storeVar dst a (.iface src val)
 else panicString ("reflectlite.Set: value of type " ++ (← Rtype.spelt src) ++ " is not assignable to type " ++ (← Rtype.spelt dst))
 pure (.tuple #[])):=rfl
theorem Tas.parts25a(a:Addr)(w:World):(ReflectliteValue.parts (.agg #[.pointer (some ⟨9,73,none⟩),.pointer (some a),.int .u64 386])).run Tryz.prog w = .ok (some (73,a,386)) w:=by kernel_rfl
theorem Tas.parts25(a:Addr)(w:World):(ReflectliteValue.parts (.agg #[.pointer (some ⟨9,73,none⟩),.pointer (some a),.int .u64 130])).run Tryz.prog w = .ok (some (73,a,130)) w:=by kernel_rfl
theorem Tas.direct25(w:World):(Rtype.directlyAssignable 73 73).run Tryz.prog w = .ok true w:=by kernel_rfl
theorem Tas.set25(ta b:Addr)(e:Int)(old:Value)(W:World)(hb:W.cell? b=some (.int .i64 e))(ht:W.cell? ta=some old)(hf:W.frozen? ta=false) :
 (ReflectliteValue.set #[.agg #[.pointer (some ⟨9,73,none⟩),.pointer (some ta),.int .u64 386],.agg #[.pointer (some ⟨9,73,none⟩),.pointer (some b),.int .u64 130]]).run Tryz.prog W
  = .ok (.tuple #[]) (W.setCell ta (.int .i64 e)):=by
 rw[rls]
 simp only[Sem.run_bind,Tas.parts25a,Tas.parts25,Result.andThen]
 simp[ReflectliteValue.flagAddr,loadVar,isAgg,underlying,Tryz.underlying73,hb,Result.andThen,Tas.direct25,storeVar,Value.cells,storeCells,Addr.add]
 rw[run_store Tryz.prog W ta _ _ (by rfl)]
 simp[ht,hf]
set_option maxRecDepth 100000 in
set_option maxHeartbeats 4000000 in
theorem as_hit(e:Int)(t:Addr)(old:Value)(w:World)(hg:w.cell? ⟨0,0,none⟩=some (.iface 165 (.agg #[.pointer (some ⟨9,29,none⟩)])))(ht0:w.cell? t=some old)(hf0:w.frozen? t=false) :
 Calls Tryz.prog 65 #[.iface 73 (.int .i64 e),.iface 114 (.pointer (some t))] w fun ev w'=>ev = .returned (.bool true)∧w'=((((w.alloc (.cells #[.pointer (some t)] 114)).alloc (.cells #[.pointer (some ⟨9,114,none⟩),.pointer (some ⟨w.heap.size,0,none⟩),.int .u64 150] 135)).alloc (.cells #[.pointer (some ⟨9,114,none⟩),.pointer (some ⟨w.heap.size,0,none⟩),.int .u64 150] 135)).alloc (.cells #[.int .i64 e] 73)).setCell t (.int .i64 e):=by
 have h6 := @run_callFunc_extern Tryz.prog 86 _ (fun args=>ReflectliteValue.unpack (args.getD 0 (.tuple #[]))) Tryz.func86 (by kernel_rfl) (by kernel_rfl) (by kernel_rfl) (by kernel_rfl)
 have h7 := @run_callFunc_extern Tryz.prog 87 _ (ReflectliteValue.methodAny (ReflectliteValue.valueError "reflectlite.Value.Type" 0) (fun t _ _ _=>ReflectliteType.toType t)) Tryz.func87 (by kernel_rfl) (by kernel_rfl) (by kernel_rfl) (by kernel_rfl)
 have h8 := @run_callFunc_extern Tryz.prog 88 _ (ReflectliteValue.method (ReflectliteValue.valueError "reflectlite.Value.IsNil" 0) ReflectliteValue.isNil) Tryz.func88 (by kernel_rfl) (by kernel_rfl) (by kernel_rfl) (by kernel_rfl)
 have h27 := @run_callFunc_extern Tryz.prog 170 _ (ReflectliteType.abiMethod fun t=>do pure (.int .u8 (← Rtype.kind t))) Tryz.func170 (by kernel_rfl) (by kernel_rfl) (by kernel_rfl) (by kernel_rfl)
 have h37 := @run_callFunc_extern Tryz.prog 180 _ (ReflectliteType.method ReflectliteType.elem) Tryz.func180 (by kernel_rfl) (by kernel_rfl) (by kernel_rfl) (by kernel_rfl)
 have h38 := @run_callFunc_extern Tryz.prog 181 _ (ReflectliteType.relation "Implements" ReflectliteType.implements_) Tryz.func181 (by kernel_rfl) (by kernel_rfl) (by kernel_rfl) (by kernel_rfl)
 have h10 := @run_callFunc_extern Tryz.prog 114 _ ReflectliteType.typeOf Tryz.func114 (by kernel_rfl) (by kernel_rfl) (by kernel_rfl) (by kernel_rfl)
 have h35 := @run_callFunc_extern Tryz.prog 178 _ (ReflectliteType.relation "AssignableTo" ReflectliteType.assignableTo) Tryz.func178 (by kernel_rfl) (by kernel_rfl) (by kernel_rfl) (by kernel_rfl)
 have h11 := @run_callFunc_extern Tryz.prog 115 _ (ReflectliteValue.method (ReflectliteValue.valueError "reflectlite.Value.Elem" 0) ReflectliteValue.elem) Tryz.func115 (by kernel_rfl) (by kernel_rfl) (by kernel_rfl) (by kernel_rfl)
 have h12 := @run_callFunc_extern Tryz.prog 116 _ ReflectliteValue.set Tryz.func116 (by kernel_rfl) (by kernel_rfl) (by kernel_rfl) (by kernel_rfl)
 have tO:=Tas.typeOf25
 have mA:=Tas.methodAssignableTo
 have a25:=Tas.assignable25
 have v25:=Tas.valueOf25
 have f6:=Tas.valueOf27
 have f7:=Tas.type27
 have mK:=Tas.methodKind
 have mE:=Tas.methodElem
 have mI:=Tas.methodImplements
 have k27:=Tas.kind27
 have k25:=Tas.kind25
 have e27:=Tas.elem27
 have i25:=Tas.implements25
 have n8:=Tas.isNil27 ⟨w.heap.size,0,none⟩ t ((w.alloc (.cells #[.pointer (some t)] 114)).alloc (.cells #[.pointer (some ⟨9,114,none⟩),.pointer (some ⟨w.heap.size,0,none⟩),.int .u64 150] 135)) (by simp)
 have hlt:0<w.heap.size:=by
  rcases Nat.eq_zero_or_pos w.heap.size with h0 | h
  ·simp[World.cell?,h0] at hg
  ·exact h
 have hg2:((w.alloc (.cells #[.pointer (some t)] 114)).alloc (.cells #[.pointer (some ⟨9,114,none⟩),.pointer (some ⟨w.heap.size,0,none⟩),.int .u64 150] 135)).cell? ⟨0,0,none⟩=some (.iface 165 (.agg #[.pointer (some ⟨9,29,none⟩)])):=by
  rw[World.cell?_alloc_lt _ _ ⟨0,0,none⟩ (by simp),World.cell?_alloc_lt _ _ ⟨0,0,none⟩ hlt];exact hg
 have htl:t.block<w.heap.size:=by
  rcases Nat.lt_or_ge t.block w.heap.size with h | h
  ·exact h
  ·simp[World.cell?,Array.getElem?_eq_none h] at ht0
 have el:=Tas.elemV27 ⟨w.heap.size,0,none⟩ t (((w.alloc (.cells #[.pointer (some t)] 114)).alloc (.cells #[.pointer (some ⟨9,114,none⟩),.pointer (some ⟨w.heap.size,0,none⟩),.int .u64 150] 135)).alloc (.cells #[.pointer (some ⟨9,114,none⟩),.pointer (some ⟨w.heap.size,0,none⟩),.int .u64 150] 135)) (by rw[World.cell?_alloc_lt _ _ ⟨w.heap.size,0,none⟩ (by simp;omega)];simp)
 have st:=Tas.set25 t ⟨w.heap.size+1+1+1,0,none⟩ e old ((((w.alloc (.cells #[.pointer (some t)] 114)).alloc (.cells #[.pointer (some ⟨9,114,none⟩),.pointer (some ⟨w.heap.size,0,none⟩),.int .u64 150] 135)).alloc (.cells #[.pointer (some ⟨9,114,none⟩),.pointer (some ⟨w.heap.size,0,none⟩),.int .u64 150] 135)).alloc (.cells #[.int .i64 e] 73))
  (by rw[World.cell?_alloc_at _ _ _ _ (by simp)];rfl)
  (by rw[World.cell?_alloc_lt _ _ t (by simp;omega),World.cell?_alloc_lt _ _ t (by simp;omega),World.cell?_alloc_lt _ _ t (by simp;omega),World.cell?_alloc_lt _ _ t htl];exact ht0)
  (by rw[World.frozen?_alloc_old _ _ t (by simp;omega),World.frozen?_alloc_old _ _ t (by simp;omega),World.frozen?_alloc_old _ _ t (by simp;omega),World.frozen?_alloc_old _ _ t (Nat.ne_of_lt htl)];exact hf0)
 go_enter Tryz.func65,Tryz.ntmps65
 go_wp2
 refine wp_loop_rounds 1 ?_
 rw[rounds_succ]
 go_wp2
 go_ret
 exact⟨rfl,rfl⟩
open Go.RowKit Go.Extern.Stop Go.Stop Go.Extern Go.Vc
theorem fr_alloc(w:World)(o:Obj):Fr (fun _=>False) w (w.alloc o):=⟨rfl,rfl,rfl,by simp,fun b hb _=>Ext.alloc w o b hb,fun _=>Nat.le_refl _⟩
abbrev hdE:Value := .iface 165 (.agg #[.pointer (some ⟨9,29,none⟩)])
def glE:List (Nat×Dat):=[(0,⟨.raw,hdE⟩)]
theorem hd_of{w:World}{ro:Nat→Prop}(h:GlOk glE w ro):w.cell? ⟨0,0,none⟩=some hdE:=by
 obtain⟨_,us,h1,hn⟩:=h 0 _ (List.mem_singleton.2 rfl)
 have hn:us=[hdE]∧hdE.oneCell'=true:=hn
 exact h1 0 hdE (by rw[hn.1];rfl)
theorem glE_of{laid:List (String×DataW Unit)}(hm:("errors.errorType",Rows.laid_errors_errorType)∈laid){W:World}(h:laidMetH Tryz.prog laid W):GlOk glE W fun b=>b<W.heap.size :=
 gl_of_handle (n := "errors.errorType") (u:=165) (ty:=29) (d:=Rows.laid_errors_errorType) h hm rfl rfl (by kernel_rfl) (by kernel_rfl) (by kernel_rfl) (by kernel_rfl) rfl
open Go.Vc Go.Proofs Go.RowKit
abbrev BS:=Net×List UInt8×Int
abbrev tRB:Ty := .pr tRN (.pr .str (.pr I .un))
abbrev RB:=RN×List UInt8×Int×Unit
def rb0:RB:=((0,[],[],()),[],0,())
def Ek:Env:={ Eg with tys:=(5,.int .u8)::(38,.sl (.int .u8))::(66,tBk)::(24,.ptr tBk)::(43,tRN)::(45,tRB)::Eg.tys,pb:=[66] }
theorem Ek_ok:EnvOk Tryz.prog Ek:=EnvOk.of_list (by kernel_rfl) (by kernel_rfl) (by kernel_rfl)
def obNew0(t:Net):List Ob:=[.st 66 [.ps 1,.d (.ptr .un) none,.nils,.d I (0:Int)],.st 96 [.os 2,.os 3],.row 98 tRow t.1,.row 3 I t.2.1]
def oBNew0:OCtr:=fun args ob k=>match args,ob with
 | [.d (.int .i64) n],[]=>(inB n 1 5=false→k (.tp [.nilp,.d tErr (1:Int)]) [])∧(inB n 1 5=true→k (.tp [.ps 0,.d tErr (0:Int)]) (obNew0 (newF (n:Int).toNat)))
 | _,_=>False
def oBNew:OCtr:=fun args ob k=>match args,ob with
 | [.d (.int .i64) n],[]=>(inB n 1 5=false→k (.tp [.nilp,.d tErr (1:Int)]) [])∧(inB n 1 5=true→k (.tp [.ps 0,.d tErr (0:Int)]) (obBk (newF (n:Int).toNat) [] 0))
 | _,_=>False
def bkE(m e:Int):Int:=if m=60 then 4 else e
def bkT(t:Net)(txt:List UInt8)(m:Int)(e:Int)(t':Net)(line:List UInt8):BS:=if bkE m e=0 then (t',List.append txt line,m+1) else (t,txt,m)
def oBW:OCtr:=fun args ob k=>match args,ob with
 | [.ps 0,.d (.int .i64) p,.d (.int .i64) q,.d (.int .i64) v],[.st 66 [.ps 1,.sf 0 1,.os 2,.d (.int .i64) m],.st 96 [.os 3,.os 4],.buf 5 txt,.row 98 (.ar 4 (.sl (.pr (.sl (.int .i64)) (.pr (.int .i64) .un)))) nodes,.row 3 (.int .i64) wrote] =>
  (NetSh (nodes,wrote,())∧txt.length≤900000000∧((0:Int)≤(m:Int)∧(m:Int)≤(60:Int))) ∧
  k (.d tErr (bkE m (writeE (nodes,wrote,()) p q v))) (obBk (bkT (nodes,wrote,()) txt m (writeE (nodes,wrote,()) p q v) (writeT (nodes,wrote,()) p q v) (lineF [119] [p,q,v])).1 (bkT (nodes,wrote,()) txt m (writeE (nodes,wrote,()) p q v) (writeT (nodes,wrote,()) p q v) (lineF [119] [p,q,v])).2.1 (bkT (nodes,wrote,()) txt m (writeE (nodes,wrote,()) p q v) (writeT (nodes,wrote,()) p q v) (lineF [119] [p,q,v])).2.2)
 | _,_=>False
def oBS:OCtr:=fun args ob k=>match args,ob with
 | [.ps 0,.d (.int .i64) a,.d (.int .i64) b],[.st 66 [.ps 1,.sf 0 1,.os 2,.d (.int .i64) m],.st 96 [.os 3,.os 4],.buf 5 txt,.row 98 (.ar 4 (.sl (.pr (.sl (.int .i64)) (.pr (.int .i64) .un)))) nodes,.row 3 (.int .i64) wrote] =>
  (NetSh (nodes,wrote,())∧txt.length≤900000000∧((0:Int)≤(m:Int)∧(m:Int)≤(60:Int))) ∧
  k (.d tErr (bkE m (syncE (nodes,wrote,()) a b))) (obBk (bkT (nodes,wrote,()) txt m (syncE (nodes,wrote,()) a b) (syncT (nodes,wrote,()) a b) (lineF [115] [a,b])).1 (bkT (nodes,wrote,()) txt m (syncE (nodes,wrote,()) a b) (syncT (nodes,wrote,()) a b) (lineF [115] [a,b])).2.1 (bkT (nodes,wrote,()) txt m (syncE (nodes,wrote,()) a b) (syncT (nodes,wrote,()) a b) (lineF [115] [a,b])).2.2)
 | _,_=>False
def oBTxt:OCtr:=fun args ob k=>match args,ob with
 | [.ps 0],[.st 66 [.ps 1,.sf 0 1,.os 2,.d (.int .i64) m],.st 96 [.os 3,.os 4],.buf 5 txt,.row 98 (.ar 4 (.sl (.pr (.sl (.int .i64)) (.pr (.int .i64) .un)))) nodes,.row 3 (.int .i64) wrote] =>
  txt.length≤1000000000∧k (.d .str txt) (obBk (nodes,wrote,()) txt m)
 | _,_=>False
def obRd(t:Net)(txt:List UInt8)(m:Int)(r:List Va):List Ob:=[.st 66 [.ps 2,.sf 0 1,.os 3,.d I m],.row 83 tV r,.st 96 [.os 4,.os 5],.buf 5 txt,.row 98 tRow t.1,.row 3 I t.2.1]
def oBRd:OCtr:=fun args ob k=>match args,ob with
 | [.ps 0,.d (.int .i64) p,.d (.int .i64) q],[.st 66 [.ps 1,.sf 0 1,.os 2,.d (.int .i64) m],.st 96 [.os 3,.os 4],.buf 5 txt,.row 98 (.ar 4 (.sl (.pr (.sl (.int .i64)) (.pr (.int .i64) .un)))) nodes,.row 3 (.int .i64) wrote] =>
  NetLen (nodes,wrote,())∧k (.os 1) (obRd (nodes,wrote,()) txt m (readF (nodes,wrote,()) p q))
 | _,_=>False
def wordF(l:List Int):List UInt8:=if l.length=3 then[119] else[115]
def rNE(t:RN)(l:List Int):Int:=if l.length=3 then rWriteE t (l.getD 0 0) (l.getD 1 0) (l.getD 2 0) else rSyncE t (l.getD 0 0) (l.getD 1 0)
def rNT(t:RN)(l:List Int):RN:=if l.length=3 then rWriteT t (l.getD 0 0) (l.getD 1 0) (l.getD 2 0) else rSyncT t (l.getD 0 0) (l.getD 1 0)
def rPE(b:RB)(l:List Int):Int:=if 60≤b.2.2.1 then 4 else rNE b.1 l
def rPT(b:RB)(l:List Int):RB:=if rPE b l=0 then (rNT b.1 l,List.append b.2.1 (lineF (wordF l) l),b.2.2.1+1,()) else b
structure PutOk(b:RB)(l:List Int):Prop where
 sh:RSh b.1
 two:l.length=3∨l.length=2
 sy:l.length=2→rSyncE b.1 (l.getD 0 0) (l.getD 1 0)=0→SyOk b.1 (l.getD 0 0) (l.getD 1 0)
 txt:b.2.1.length≤900000000
 lo:0≤b.2.2.1
 hi:b.2.2.1≤60
def cPutR:Ctr:=cdet [tRB,.sl I] (fun (b:RB) (l:List Int)=>PutOk b l) (fun (b:RB) (l:List Int)=>[⟨tRB,rPT b l⟩,⟨I,rPE b l⟩])
def anPutR(b:RB)(l:List Int):Ann:=[joinAll,loopAt 13 Nat [] (fun st i=>St.at (St.only st [1,2,4,6]) [(8,.d .str (putS (wordF l) (l.take i))),(9,.d I (i:Int))]) (fun _ i=>i≤l.length∧rPE b l=0) (fun i=>l.length - i)]
open Go.Vc
set_option linter.unusedVariables false
theorem vcBNew(n:Int)(k:SV→List Ob→Prop):vcO ⟨Ek,[],[],[],[(26,oNew)]⟩ [joinAll] (Tryz.f25.body.getD .skip) Tryz.f25.ntmps [(.tmp 2,.un),(.tmp 3,tErr)] [.d I n] [] k=(
 (inB n 1 5=false→((!decide (1=(0:Int)))=true→k (SV.tp [SV.nilp,SV.d (Ty.err 73) 1]) [])∧((!decide (1=(0:Int)))=false→k (SV.tp [SV.ps 0,SV.d (Ty.err 73) 0]) [Ob.st 66 [SV.nilp,SV.d Ty.un.ptr none,SV.nils,SV.d (I) 0]]))∧(inB n 1 5=true→((!decide (0=(0:Int)))=true→k (SV.tp [SV.nilp,SV.d (Ty.err 73) 0]) [])∧((!decide (0=(0:Int)))=false→k (SV.tp [SV.ps 0,SV.d (Ty.err 73) 0]) [Ob.st 66 [SV.ps 1,SV.d Ty.un.ptr none,SV.nils,SV.d (I) 0],Ob.st 96 [SV.os 2,SV.os 3],Ob.row 98 tRow (List.replicate n.toNat (List.replicate 4 [])),Ob.row 3 (I) (List.replicate n.toNat 0)]))):=by kernel_rfl
theorem vcBW(nd:List (List (List Va)))(wr:List Int)(txt:List UInt8)(m p q v:Int)(k:SV→List Ob→Prop):vcO ⟨Ek,[],glT,[],[(27,oWrite),(35,oPut)]⟩ [joinAll] (Tryz.f16.body.getD .skip) Tryz.f16.ntmps [(.tmp 8,tErr)] [.ps 0,.d I p,.d I q,.d I v] (obBk (nd,wr,()) txt m) k=(
 (decide (m=60)=true→(4:Int)≠(0:Int)∧k (SV.d (Ty.err 73) 4) [Ob.st 66 [SV.ps 1,SV.sf 0 1,SV.os 2,SV.d (I) m],Ob.st 96 [SV.os 3,SV.os 4],Ob.buf 5 txt,Ob.row 98 tRow nd,Ob.row 3 (I) wr])∧(decide (m=60)=false→NetSh (nd,wr,())∧((!decide (writeE (nd,wr,()) p q v=0))=true→k (SV.d (Ty.err 73) (writeE (nd,wr,()) p q v)) [Ob.st 66 [SV.ps 1,SV.sf 0 1,SV.os 2,SV.d (I) m],Ob.st 96 [SV.os 3,SV.os 4],Ob.buf 5 txt,Ob.row 98 tRow (writeT (nd,wr,()) p q v).fst,Ob.row 3 (I) (writeT (nd,wr,()) p q v).snd.fst])∧((!decide (writeE (nd,wr,()) p q v=0))=false→(txt.length≤900000000∧(0≤m∧m≤1000)∧[(119:UInt8)].length≤10∧((((List.replicate 3 0).set 0 p).set 1 q).set 2 v).length≤10)∧k (SV.d (Ty.err 73) 0) [Ob.st 66 [SV.ps 1,SV.sf 0 1,SV.os 2,SV.d (I) (m+1)],Ob.st 96 [SV.os 3,SV.os 4],Ob.buf 5 (txt.append (lineF [(119:UInt8)] ((((List.replicate 3 0).set 0 p).set 1 q).set 2 v))),Ob.row 98 tRow (writeT (nd,wr,()) p q v).fst,Ob.row 3 (I) (writeT (nd,wr,()) p q v).snd.fst]))):=by kernel_rfl
theorem vcBS(nd:List (List (List Va)))(wr:List Int)(txt:List UInt8)(m a b:Int)(k:SV→List Ob→Prop):vcO ⟨Ek,[],glT,[],[(28,oSync),(35,oPut)]⟩ [joinAll] (Tryz.f17.body.getD .skip) Tryz.f17.ntmps [(.tmp 6,tErr)] [.ps 0,.d I a,.d I b] (obBk (nd,wr,()) txt m) k=(
 (decide (m=60)=true→(4:Int)≠(0:Int)∧k (SV.d (Ty.err 73) 4) [Ob.st 66 [SV.ps 1,SV.sf 0 1,SV.os 2,SV.d (I) m],Ob.st 96 [SV.os 3,SV.os 4],Ob.buf 5 txt,Ob.row 98 tRow nd,Ob.row 3 (I) wr])∧(decide (m=60)=false→NetSh (nd,wr,())∧((!decide (syncE (nd,wr,()) a b=0))=true→k (SV.d (Ty.err 73) (syncE (nd,wr,()) a b)) [Ob.st 66 [SV.ps 1,SV.sf 0 1,SV.os 2,SV.d (I) m],Ob.st 96 [SV.os 3,SV.os 4],Ob.buf 5 txt,Ob.row 98 tRow (syncT (nd,wr,()) a b).fst,Ob.row 3 (I) (syncT (nd,wr,()) a b).snd.fst])∧((!decide (syncE (nd,wr,()) a b=0))=false→(txt.length≤900000000∧(0≤m∧m≤1000)∧[(115:UInt8)].length≤10∧(((List.replicate 2 0).set 0 a).set 1 b).length≤10)∧k (SV.d (Ty.err 73) 0) [Ob.st 66 [SV.ps 1,SV.sf 0 1,SV.os 2,SV.d (I) (m+1)],Ob.st 96 [SV.os 3,SV.os 4],Ob.buf 5 (txt.append (lineF [(115:UInt8)] (((List.replicate 2 0).set 0 a).set 1 b))),Ob.row 98 tRow (syncT (nd,wr,()) a b).fst,Ob.row 3 (I) (syncT (nd,wr,()) a b).snd.fst]))):=by kernel_rfl
theorem vcBTxt(nd:List (List (List Va)))(wr:List Int)(txt:List UInt8)(m:Int)(k:SV→List Ob→Prop):vcO ⟨Ek,[],[],[],[(31,oStr)]⟩ [joinAll] (Tryz.f14.body.getD .skip) Tryz.f14.ntmps [(.tmp 2,.str)] [.ps 0] (obBk (nd,wr,()) txt m) k=(
 txt.length≤1000000000∧k (SV.d Ty.str txt) [Ob.st 66 [SV.ps 1,SV.sf 0 1,SV.os 2,SV.d (I) m],Ob.st 96 [SV.os 3,SV.os 4],Ob.buf 5 txt,Ob.row 98 tRow nd,Ob.row 3 (I) wr]):=by kernel_rfl
theorem vcBRd(nd:List (List (List Va)))(wr:List Int)(txt:List UInt8)(m p q:Int)(k:SV→List Ob→Prop):vcO ⟨Ek,[],[],[],[(29,oRead)]⟩ [joinAll] (Tryz.f22.body.getD .skip) Tryz.f22.ntmps [(.tmp 6,.un)] [.ps 0,.d I p,.d I q] (obBk (nd,wr,()) txt m) k=(
 NetLen (nd,wr,())∧k (SV.os 1) [Ob.st 66 [SV.ps 2,SV.sf 0 1,SV.os 3,SV.d (I) m],Ob.row 83 (tV) (readF (nd,wr,()) p q),Ob.st 96 [SV.os 4,SV.os 5],Ob.buf 5 txt,Ob.row 98 tRow nd,Ob.row 3 (I) wr]):=by kernel_rfl
abbrev vcPutRq1(l:List Int)(x:Nat):=(putS (wordF l) (List.take x l))
abbrev vcPutRq2(b:RB)(l:List Int)(x:Nat):=(((List.append b.snd.fst (vcPutRq1 l x)).append [(32:UInt8)]).append (Lib.decDigits (sumF (vcPutRq1 l x)).toNat))
theorem vcPutR(b:RB)(l:List Int)(k:List Dat→Prop):vcF ⟨Ek,[(90,cRWrite),(91,cRSync),(75,cDigits),(67,cSum)],[],[],[]⟩ (anPutR b l) (Tryz.f68.body.getD .skip) Tryz.f68.ntmps [(.cell 4 45,tRB),(.tmp 5,I)] [⟨tRB,b⟩,⟨.sl I,l⟩] k=(
 (decide (60≤b.snd.snd.fst)=true→k [Dat.mk tRB b,Dat.mk (I) 4])∧(decide (60≤b.snd.snd.fst)=false→(decide ((↑l.length:Int)=3)=true→(0≤(0:Int)∧0<(↑l.length:Int)∧0≤(1:Int)∧1<(↑l.length:Int)∧0≤(2:Int)∧2<(↑l.length:Int)∧(RSh b.fst∧True)∧True)∧((!decide (rWriteE b.fst (l.getD (Int.toNat 0) 0) (l.getD (Int.toNat 1) 0) (l.getD (Int.toNat 2) 0)=(0:Int)))=true→k [Dat.mk tRB b,Dat.mk (I) (rWriteE b.fst (l.getD (Int.toNat 0) 0) (l.getD (Int.toNat 1) 0) (l.getD (Int.toNat 2) 0))])∧((!decide (rWriteE b.fst (l.getD (Int.toNat 0) 0) (l.getD (Int.toNat 1) 0) (l.getD (Int.toNat 2) 0)=(0:Int)))=false→(∃ (x:Nat),(x≤l.length∧rPE b l=(0:Int))∧(l=l∧([]:List Nat)=[]∧([]:List Nat)=[]∧([]:List Nat)=[]∧[(119:UInt8)]=putS (wordF l) (List.take x l)∧0=(↑x:Int)∧True)∧((45=45∧b=b)∧(45=45∧rb0=rb0)∧(43=43∧rWriteT b.fst (l.getD (Int.toNat 0) 0) (l.getD (Int.toNat 1) 0) (l.getD (Int.toNat 2) 0)=rWriteT b.fst (l.getD (Int.toNat 0) 0) (l.getD (Int.toNat 1) 0) (l.getD (Int.toNat 2) 0))∧True)∧True)∧∀ (x:Nat),x≤l.length∧rPE b l=(0:Int)→(decide ((↑x:Int)<(↑l.length:Int))=true→(vcPutRq1 l x).length+[(32:UInt8)].length≤maxLen∧0≤(↑x:Int)∧(↑x:Int)<(↑l.length:Int)∧DigOk (l.getD (↑x:Int).toNat 0)∧((vcPutRq1 l x).append [(32:UInt8)]).length+(Lib.decDigits (l.getD (↑x:Int).toNat 0).toNat).length≤maxLen∧inK IntKind.i64 ((↑x:Int)+1)∧∃ (x_1:Nat),(x_1≤l.length∧rPE b l=(0:Int))∧l.length - x_1<l.length - x∧(l=l∧([]:List Nat)=[]∧([]:List Nat)=[]∧([]:List Nat)=[]∧((vcPutRq1 l x).append [(32:UInt8)]).append (Lib.decDigits (l.getD (↑x:Int).toNat 0).toNat)=putS (wordF l) (List.take x_1 l)∧(↑x:Int)+1=(↑x_1:Int)∧True)∧((45=45∧b=b)∧(45=45∧rb0=rb0)∧(43=43∧rWriteT b.fst (l.getD (Int.toNat 0) 0) (l.getD (Int.toNat 1) 0) (l.getD (Int.toNat 2) 0)=rWriteT b.fst (l.getD (Int.toNat 0) 0) (l.getD (Int.toNat 1) 0) (l.getD (Int.toNat 2) 0))∧True)∧True)∧(decide ((↑x:Int)<(↑l.length:Int))=false→(List.length b.snd.fst+(vcPutRq1 l x).length≤maxLen∧(List.append b.snd.fst (vcPutRq1 l x)).length+[(32:UInt8)].length≤maxLen∧SumOk (vcPutRq1 l x)∧DigOk (sumF (vcPutRq1 l x))∧((List.append b.snd.fst (vcPutRq1 l x)).append [(32:UInt8)]).length+(Lib.decDigits (sumF (vcPutRq1 l x)).toNat).length≤maxLen∧(vcPutRq2 b l x).length+[(10:UInt8)].length≤maxLen∧True)∧inK IntKind.i64 (b.snd.snd.fst+(1:Int))∧k [Dat.mk tRB (rWriteT b.fst (l.getD (Int.toNat 0) 0) (l.getD (Int.toNat 1) 0) (l.getD (Int.toNat 2) 0),(vcPutRq2 b l x).append [(10:UInt8)],b.snd.snd.fst+(1:Int),b.snd.snd.snd),Dat.mk (I) 0])))∧(decide ((↑l.length:Int)=3)=false→(0≤(0:Int)∧0<(↑l.length:Int)∧0≤(1:Int)∧1<(↑l.length:Int)∧((RSh b.fst∧(rSyncE b.fst (l.getD (Int.toNat 0) 0) (l.getD (Int.toNat 1) 0)=(0:Int)→SyOk b.fst (l.getD (Int.toNat 0) 0) (l.getD (Int.toNat 1) 0)))∧True)∧True)∧((!decide (rSyncE b.fst (l.getD (Int.toNat 0) 0) (l.getD (Int.toNat 1) 0)=(0:Int)))=true→k [Dat.mk tRB b,Dat.mk (I) (rSyncE b.fst (l.getD (Int.toNat 0) 0) (l.getD (Int.toNat 1) 0))])∧((!decide (rSyncE b.fst (l.getD (Int.toNat 0) 0) (l.getD (Int.toNat 1) 0)=(0:Int)))=false→(∃ (x:Nat),(x≤l.length∧rPE b l=(0:Int))∧(l=l∧([]:List Nat)=[]∧([]:List Nat)=[]∧([]:List Nat)=[]∧[(115:UInt8)]=putS (wordF l) (List.take x l)∧0=(↑x:Int)∧True)∧((45=45∧b=b)∧(45=45∧rb0=rb0)∧(43=43∧rSyncT b.fst (l.getD (Int.toNat 0) 0) (l.getD (Int.toNat 1) 0)=rSyncT b.fst (l.getD (Int.toNat 0) 0) (l.getD (Int.toNat 1) 0))∧True)∧True)∧∀ (x:Nat),x≤l.length∧rPE b l=(0:Int)→(decide ((↑x:Int)<(↑l.length:Int))=true→(vcPutRq1 l x).length+[(32:UInt8)].length≤maxLen∧0≤(↑x:Int)∧(↑x:Int)<(↑l.length:Int)∧DigOk (l.getD (↑x:Int).toNat 0)∧((vcPutRq1 l x).append [(32:UInt8)]).length+(Lib.decDigits (l.getD (↑x:Int).toNat 0).toNat).length≤maxLen∧inK IntKind.i64 ((↑x:Int)+1)∧∃ (x_1:Nat),(x_1≤l.length∧rPE b l=(0:Int))∧l.length - x_1<l.length - x∧(l=l∧([]:List Nat)=[]∧([]:List Nat)=[]∧([]:List Nat)=[]∧((vcPutRq1 l x).append [(32:UInt8)]).append (Lib.decDigits (l.getD (↑x:Int).toNat 0).toNat)=putS (wordF l) (List.take x_1 l)∧(↑x:Int)+1=(↑x_1:Int)∧True)∧((45=45∧b=b)∧(45=45∧rb0=rb0)∧(43=43∧rSyncT b.fst (l.getD (Int.toNat 0) 0) (l.getD (Int.toNat 1) 0)=rSyncT b.fst (l.getD (Int.toNat 0) 0) (l.getD (Int.toNat 1) 0))∧True)∧True)∧(decide ((↑x:Int)<(↑l.length:Int))=false→(List.length b.snd.fst+(vcPutRq1 l x).length≤maxLen∧(List.append b.snd.fst (vcPutRq1 l x)).length+[(32:UInt8)].length≤maxLen∧SumOk (vcPutRq1 l x)∧DigOk (sumF (vcPutRq1 l x))∧((List.append b.snd.fst (vcPutRq1 l x)).append [(32:UInt8)]).length+(Lib.decDigits (sumF (vcPutRq1 l x)).toNat).length≤maxLen∧(vcPutRq2 b l x).length+[(10:UInt8)].length≤maxLen∧True)∧inK IntKind.i64 (b.snd.snd.fst+(1:Int))∧k [Dat.mk tRB (rSyncT b.fst (l.getD (Int.toNat 0) 0) (l.getD (Int.toNat 1) 0),(vcPutRq2 b l x).append [(10:UInt8)],b.snd.snd.fst+(1:Int),b.snd.snd.snd),Dat.mk (I) 0]))))):=by kernel_rfl
open Go.Vc Go.Proofs Go.RowKit
theorem ownBNew0:OwnOk Tryz.prog [] 25 oBNew0:=by
 refine own_of (CxOk.mk' Ek_ok (by kernel_rfl) mixed (gl:=[]) GOk.nil (GoOk.cons ownNew Tryz.func26 (by kernel_rfl) (by kernel_rfl) GoOk.nil) noIt) Tryz.func25 (c:=Tryz.f25.body.getD .skip) (rvs:=[(.tmp 2,.un),(.tmp 3,tErr)]) (by kernel_rfl) (by kernel_rfl) (by kernel_rfl) ?_
 intro args ob k h hwa hwo
 unfold oBNew0 at h
 split at h
 ·rename_i n
  refine⟨[joinAll],?_⟩
  rw[vcBNew]
  refine⟨fun hb=>⟨fun _=>h.1 hb,fun h'=>by simp at h'⟩,fun hb=>⟨fun h'=>by simp at h',fun _=>h.2 hb⟩⟩
 ·exact h.elim
theorem ownBW:OwnOk Tryz.prog glT 16 oBW:=by
 refine own_of (CxOk.mk' Ek_ok (by kernel_rfl) mixed (gl:=glT) GOk.nil (GoOk.cons ownWrite.lift Tryz.func27 (by kernel_rfl) (by kernel_rfl) (GoOk.cons ownPut Tryz.func35 (by kernel_rfl) (by kernel_rfl) GoOk.nil)) noIt) Tryz.func16 (c:=Tryz.f16.body.getD .skip) (rvs:=[(.tmp 8,tErr)]) (by kernel_rfl) (by kernel_rfl) (by kernel_rfl) ?_
 intro args ob k h hwa hwo
 unfold oBW at h
 split at h
 ·rename_i p q v m txt nd wr
  obtain⟨⟨hN,hl,hm⟩,hk⟩:=h
  refine⟨[joinAll],?_⟩
  show vcO _ _ _ _ _ [.ps 0,.d I p,.d I q,.d I v] (obBk (nd,wr,()) txt m) k
  rw[vcBW]
  have hwT:writeE (nd,wr,()) p q v≠0→writeT (nd,wr,()) p q v=(nd,wr,()):=fun h=>by unfold writeT;rw[if_neg h]
  generalize writeE (nd,wr,()) p q v=e at *
  generalize writeT (nd,wr,()) p q v=T at *
  simp only[decide_eq_true_eq,decide_eq_false_iff_not,Bool.not_eq_true',Bool.not_eq_false']
  refine⟨fun h=>⟨by decide,?_⟩,fun h=>⟨hN,fun he => ?_,fun he=>⟨⟨hl,⟨hm.1,Int.le_trans hm.2 (by decide)⟩,by decide,by simp⟩,?_⟩⟩⟩
  ·have e1:bkE m e=4:=by unfold bkE;rw[if_pos h]
   have e2:∀ t' line,bkT (nd,wr,()) txt m e t' line=((nd,wr,()),txt,m):=fun t' line=>by unfold bkT;rw[if_neg (by rw[e1];decide)]
   rw[e1] at hk;simp only[e2] at hk;exact hk
  ·have e1:bkE m e=e:=by unfold bkE;rw[if_neg h]
   have e2:∀ t' line,bkT (nd,wr,()) txt m e t' line=((nd,wr,()),txt,m):=fun t' line=>by unfold bkT;rw[if_neg (by rw[e1];exact he)]
   rw[e1] at hk;simp only[e2] at hk;rw[hwT he];exact hk
  ·have e1:bkE m e=e:=by unfold bkE;rw[if_neg h]
   have e2:∀ t' line,bkT (nd,wr,()) txt m e t' line=(t',List.append txt line,m+1):=fun t' line=>by unfold bkT;rw[if_pos (by rw[e1];exact he)]
   rw[e1] at hk;simp only[e2] at hk;rw[he] at hk;exact hk
 ·exact h.elim
theorem ownBS:OwnOk Tryz.prog glT 17 oBS:=by
 refine own_of (CxOk.mk' Ek_ok (by kernel_rfl) mixed (gl:=glT) GOk.nil (GoOk.cons ownSync.lift Tryz.func28 (by kernel_rfl) (by kernel_rfl) (GoOk.cons ownPut Tryz.func35 (by kernel_rfl) (by kernel_rfl) GoOk.nil)) noIt) Tryz.func17 (c:=Tryz.f17.body.getD .skip) (rvs:=[(.tmp 6,tErr)]) (by kernel_rfl) (by kernel_rfl) (by kernel_rfl) ?_
 intro args ob k h hwa hwo
 unfold oBS at h
 split at h
 ·rename_i p q m txt nd wr
  obtain⟨⟨hN,hl,hm⟩,hk⟩:=h
  refine⟨[joinAll],?_⟩
  show vcO _ _ _ _ _ [.ps 0,.d I p,.d I q] (obBk (nd,wr,()) txt m) k
  rw[vcBS]
  have hwT:syncE (nd,wr,()) p q≠0→syncT (nd,wr,()) p q=(nd,wr,()):=fun h=>by unfold syncT;rw[if_neg h]
  generalize syncE (nd,wr,()) p q=e at *
  generalize syncT (nd,wr,()) p q=T at *
  simp only[decide_eq_true_eq,decide_eq_false_iff_not,Bool.not_eq_true',Bool.not_eq_false']
  refine⟨fun h=>⟨by decide,?_⟩,fun h=>⟨hN,fun he => ?_,fun he=>⟨⟨hl,⟨hm.1,Int.le_trans hm.2 (by decide)⟩,by decide,by simp⟩,?_⟩⟩⟩
  ·have e1:bkE m e=4:=by unfold bkE;rw[if_pos h]
   have e2:∀ t' line,bkT (nd,wr,()) txt m e t' line=((nd,wr,()),txt,m):=fun t' line=>by unfold bkT;rw[if_neg (by rw[e1];decide)]
   rw[e1] at hk;simp only[e2] at hk;exact hk
  ·have e1:bkE m e=e:=by unfold bkE;rw[if_neg h]
   have e2:∀ t' line,bkT (nd,wr,()) txt m e t' line=((nd,wr,()),txt,m):=fun t' line=>by unfold bkT;rw[if_neg (by rw[e1];exact he)]
   rw[e1] at hk;simp only[e2] at hk;rw[hwT he];exact hk
  ·have e1:bkE m e=e:=by unfold bkE;rw[if_neg h]
   have e2:∀ t' line,bkT (nd,wr,()) txt m e t' line=(t',List.append txt line,m+1):=fun t' line=>by unfold bkT;rw[if_pos (by rw[e1];exact he)]
   rw[e1] at hk;simp only[e2] at hk;rw[he] at hk;exact hk
 ·exact h.elim
theorem ownBTxt:OwnOk Tryz.prog [] 14 oBTxt:=by
 refine own_of (CxOk.mk' Ek_ok (by kernel_rfl) mixed (gl:=[]) GOk.nil (GoOk.cons ownStr Tryz.func31 (by kernel_rfl) (by kernel_rfl) GoOk.nil) noIt) Tryz.func14 (c:=Tryz.f14.body.getD .skip) (rvs:=[(.tmp 2,.str)]) (by kernel_rfl) (by kernel_rfl) (by kernel_rfl) ?_
 intro args ob k h hwa hwo
 unfold oBTxt at h
 split at h
 ·rename_i m txt nd wr
  refine⟨[joinAll],?_⟩
  show vcO _ _ _ _ _ [.ps 0] (obBk (nd,wr,()) txt m) k
  rw[vcBTxt]
  exact h
 ·exact h.elim
theorem ownBRd:OwnOk Tryz.prog [] 22 oBRd:=by
 refine own_of (CxOk.mk' Ek_ok (by kernel_rfl) mixed (gl:=[]) GOk.nil (GoOk.cons ownRead Tryz.func29 (by kernel_rfl) (by kernel_rfl) GoOk.nil) noIt) Tryz.func22 (c:=Tryz.f22.body.getD .skip) (rvs:=[(.tmp 6,.un)]) (by kernel_rfl) (by kernel_rfl) (by kernel_rfl) ?_
 intro args ob k h hwa hwo
 unfold oBRd at h
 split at h
 ·rename_i p q m txt nd wr
  refine⟨[joinAll],?_⟩
  show vcO _ _ _ _ _ [.ps 0,.d I p,.d I q] (obBk (nd,wr,()) txt m) k
  rw[vcBRd]
  exact h
 ·exact h.elim
theorem ownBNew:OwnOk Tryz.prog [] 25 oBNew:=by
 intro args ob k hc w M R0 A vals hB hrd IV
 unfold oBNew at hc
 split at hc
 ·rename_i n
  obtain⟨h1,h2⟩:=hc
  cases hb:inB n 1 5 with
  | false=>exact ownBNew0 [.d I n] [] k ⟨fun _=>h1 hb,fun h=>by rw[hb] at h;cases h⟩ w M R0 A vals hB hrd IV
  | true =>
   refine (ownBNew0 [.d I n] [] (fun s ob'=>s = .tp [.ps 0,.d tErr (0:Int)]∧ob'=obNew0 (newF (n:Int).toNat)) ⟨fun h=>absurd (hb.symm.trans h) (by decide),fun _=>⟨rfl,rfl⟩⟩ w M R0 A vals hB hrd IV).mono ?_
   rintro x w' ⟨v,s,ob1,A',rfl,⟨rfl,rfl⟩,I2,hkeep⟩
   have hnum:A'.n=4:=I2.num
   have I3:=I2.add none (fun _ => .slice none 0 0) (fun b=>(Value.slice none 0 0).ownBlock=some b) (.buf 5 []) (Same.refl w') (fun _ _ _=>rfl) (fun b hb=>by simp[Value.ownBlock] at hb) (fun hro=>by
    refine⟨?_,fun g hg => ?_⟩
    ·rw[Asg.push_η];exact⟨rfl,.inl ⟨rfl,rfl⟩⟩
    ·rw[Asg.push_η] at hg;simp[Value.ownBlock] at hg)
   have h4:(A'.pushT (fun _=>Value.slice none 0 0) (fun b=>(Value.slice none 0 0).ownBlock=some b)).η 4 = .slice none 0 0:=by rw[← hnum,Asg.push_η]
   have h4n:4<(A'.pushT (fun _=>Value.slice none 0 0) (fun b=>(Value.slice none 0 0).ownBlock=some b)).n:=by simp[Asg.pushT,hnum]
   have I4:=I3.mod (i:=0) (.st 66 [.ps 1,.sf 0 1,.os 4,.d (.int .i64) (0:Int)]) rfl rfl (Same.refl w') (fun _ _ _=>rfl) (fun hro=>by
    obtain⟨b,cs,e1,hf,hh,hp⟩:=I3.ob 0 _ rfl
    obtain⟨p1,p2⟩:=(pcs1 (by decide)).1 hp
    refine⟨b,cs,e1,hf,hh,(pcs1 (by decide)).2 ⟨p1,fun k s v hs hv => ?_⟩⟩
    match k with
    | 0 =>
     obtain⟨q1,q2⟩:=p2 0 _ v rfl hv
     injection hs with hs;subst hs
     exact⟨q1.keep (fun g hg=>⟨(hro g hg).1,Kb.of_eq (hro g hg).2⟩) (Asg.le.refl _),q2⟩
    | 1 =>
     obtain⟨q1,q2⟩:=p2 1 _ v rfl hv
     injection hs with hs;subst hs
     have q1':[v]=[Value.pointer none]:=q1
     injection q1' with q1'
     refine⟨⟨by omega,.inl q1'⟩,q2⟩
    | 2 =>
     obtain⟨q1,q2⟩:=p2 2 _ v rfl hv
     injection hs with hs;subst hs
     have q1':v = .slice none 0 0:=q1
     exact⟨⟨h4n,by rw[q1'];exact h4.symm⟩,q2⟩
    | 3 =>
     obtain⟨q1,q2⟩:=p2 3 _ v rfl hv
     injection hs with hs;subst hs
     exact⟨q1.keep (fun g hg=>⟨(hro g hg).1,Kb.of_eq (hro g hg).2⟩) (Asg.le.refl _),q2⟩
    | k+4=>simp at hs)
   exact⟨_,_,_,_,rfl,h2 hb,I4.out (M':=M) rfl (σ:=[0,1,4,2,3]) (by decide) (I4.tm 0 _ rfl),fun i hi=>absurd hi (by show ¬ i<0;omega)⟩
 ·exact hc.elim
open Go.Vc Go.Proofs Go.RowKit
theorem itoa_nn{n:Int}(h:0≤n):Lib.itoa n=Lib.decDigits n.toNat:=by
 have:=Lib.itoa_nonneg n.toNat
 rw[Int.toNat_of_nonneg h] at this
 exact this
theorem rW_nn{t:RN}{p q v:Int}(h:rWriteE t p q v=0):0≤p∧0≤q∧0≤v:=by
 unfold rWriteE at h
 split at h
 ·rename_i hh
  simp only[Bool.and_eq_true] at hh
  exact⟨(inB_iff.1 hh.1).1,(inB_iff.1 hh.2.1).1,(inB_iff.1 hh.2.2).1⟩
 ·cases h
theorem rS_nn{t:RN}{a b:Int}(h:rSyncE t a b=0):0≤a∧0≤b:=by
 unfold rSyncE at h
 split at h
 ·rename_i hh
  simp only[Bool.and_eq_true] at hh
  exact⟨(inB_iff.1 hh.1).1,(inB_iff.1 hh.2).1⟩
 ·cases h
theorem put_nn{b:RB}{l:List Int}(h2:l.length=3∨l.length=2)(h:rPE b l=0):∀ x,x<l.length→0≤l.getD x 0:=by
 intro x hx
 unfold rPE at h
 split at h
 ·cases h
 ·unfold rNE at h
  split at h
  ·rename_i h3
   obtain⟨p,q,v⟩:=rW_nn h
   match x with
   | 0=>exact p
   | 1=>exact q
   | 2=>exact v
   | x+3=>omega
  ·rename_i h3
   obtain⟨p,q⟩:=rS_nn h
   match x with
   | 0=>exact p
   | 1=>exact q
   | x+2=>omega
theorem okPutR:PlainOk Tryz.prog [] 68 cPutR:=by
 refine plain_of (CxOk.mk' Ek_ok (by kernel_rfl) mixed (gl:=[]) (GOk.cons okRWrite Tryz.func90 (by kernel_rfl) (by kernel_rfl) (GOk.cons okRSync Tryz.func91 (by kernel_rfl) (by kernel_rfl) (GOk.cons okDigits Tryz.func75 (by kernel_rfl) (by kernel_rfl) (GOk.cons okSumR Tryz.func67 (by kernel_rfl) (by kernel_rfl) GOk.nil)))) GoOk.nil noIt) Tryz.func68 (c:=Tryz.f68.body.getD .skip) (rvs:=[(.cell 4 45,tRB),(.tmp 5,I)]) (by kernel_rfl) (by kernel_rfl) (by kernel_rfl) ?_
 intro ds k ⟨hp,hk⟩ hwf
 obtain⟨b,l,rfl,hP⟩:=dest2 hp
 have hl:∀ n∈(l:List Int),inK .i64 n:=(wf2 hwf).2.2
 revert hP hk
 clear hp hwf
 revert b l
 intro (b:RB) (l:List Int) hl (hP:PutOk b l) (hk:k [⟨tRB,rPT b l⟩,⟨I,rPE b l⟩])
 refine⟨anPutR b l,?_⟩
 rw[vcPutR]
 unfold vcPutRq2 vcPutRq1
 have h4:l.length≤3:=by rcases hP.two with h | h<;>omega
 have hpl:∀ x,x≤l.length→(putS (wordF l) (l.take x)).length≤100:=by
  intro x hx
  have:=putS_len (wordF l) (l.take x) fun n hn=>hl n (List.mem_of_mem_take hn)
  have h1:(wordF l).length=1:=by unfold wordF;split<;>rfl
  rw[List.length_take] at this
  omega
 have hnn:=fun h=>put_nn (b:=b) hP.two h
 have hng:rPE b l=0→∀ x,x<l.length→l.getD x 0≤9223372036854775807:=fun _ x hx=>by
  rw[List.getD_eq_getElem?_getD,List.getElem?_eq_getElem hx]
  exact (inK_i64.1 (hl _ (List.getElem_mem hx))).2
 have htx:=hP.txt
 have hlo:=hP.lo
 have hhi:=hP.hi
 have ea:∀ (m n:List UInt8),List.append m n=m++n:=fun _ _=>rfl
 have eml:maxLen=9223372036854775807:=rfl
 have i0:Int.toNat 0=0:=rfl
 have i1:Int.toNat 1=1:=rfl
 have i2:Int.toNat 2=2:=rfl
 simp only[ea,i0,i1,i2,List.length_append,List.length_cons,List.length_nil,decide_eq_true_eq,decide_eq_false_iff_not,true_and,and_true,Int.toNat_natCast,inK_i64,Int.ofNat_lt,Bool.not_eq_true',Bool.not_eq_false']
 refine⟨fun h60 => ?_,fun h60=>⟨fun h3 => ?_,fun h3 => ?_⟩⟩
 ·have e:rPE b l=4:=by unfold rPE;rw[if_pos h60]
  have e2:rPT b l=b:=by unfold rPT;rw[if_neg (by rw[e];decide)]
  rw[e,e2] at hk;exact hk
 ·have h3':l.length=3:=by omega
  have e:rPE b l=rWriteE b.1 (l.getD 0 0) (l.getD 1 0) (l.getD 2 0):=by unfold rPE rNE;rw[if_neg h60,if_pos h3']
  have hw:wordF l=[119]:=by unfold wordF;rw[if_pos h3']
  have hT:rNT b.1 l=rWriteT b.1 (l.getD 0 0) (l.getD 1 0) (l.getD 2 0):=by unfold rNT;rw[if_pos h3']
  refine⟨⟨by omega,by omega,by omega,by omega,by omega,by omega,hP.sh⟩,⟨fun he => ?_,fun he => ?_⟩⟩
  ·have e2:rPT b l=b:=by unfold rPT;rw[if_neg (by rw[e];exact he)]
   rw[e,e2] at hk;exact hk
  ·have he0:rPE b l=0:=by rw[e];exact he
   have hnn:=hnn he0
   have hng:=hng he0
   refine⟨⟨0,⟨Nat.zero_le _,he0⟩,by rw[hw];rfl,rfl⟩,fun x ⟨hx,_⟩=>⟨fun hlt => ?_,fun hge => ?_⟩⟩
   ·have h6:=hpl x hx
    have hn0:=hnn x hlt
    have hd:=decDig_le (n:=(l.getD x 0).toNat) (by have:=hng x hlt;omega)
    refine⟨by omega,by omega,by omega,⟨hn0⟩,by omega,by omega,x+1,⟨by omega,he0⟩,by omega,?_,by omega⟩
    rw[putS_succ (wordF l) l hlt]
    have e:Lib.itoa (l.getD x 0)=Lib.decDigits (l.getD x 0).toNat:=itoa_nn hn0
    rw[e]
    show (putS (wordF l) (l.take x)++[32])++Lib.decDigits (l.getD x 0).toNat=putS (wordF l) (l.take x)++([32]++Lib.decDigits (l.getD x 0).toNat)
    rw[List.append_assoc]
   ·have ex:x=l.length:=by omega
    subst ex
    rw[List.take_length]
    have h6:=hpl l.length (Nat.le_refl _)
    rw[List.take_length] at h6
    have hs0:0≤sumF (putS (wordF l) l):=by unfold sumF;omega
    have hs1:=inK_i64.1 (sumF_k (putS (wordF l) l))
    have hd:=decDig_le (n:=(sumF (putS (wordF l) l)).toNat) (by omega)
    refine⟨⟨by omega,by omega,⟨by omega⟩,⟨hs0⟩,by omega,by omega⟩,by omega,?_⟩
    have e:Lib.itoa (sumF (putS (wordF l) l))=Lib.decDigits (sumF (putS (wordF l) l)).toNat:=itoa_nn hs0
    have eq:rPT b l=(rWriteT b.1 (l.getD 0 0) (l.getD 1 0) (l.getD 2 0),List.append b.2.1 (lineF (wordF l) l),b.2.2.1+1,()):=by
     unfold rPT
     rw[if_pos he0,hT]
    have el:(((b.2.1++putS (wordF l) l)++[32])++Lib.decDigits (sumF (putS (wordF l) l)).toNat)++[10]=List.append b.2.1 (lineF (wordF l) l):=by
     show _=b.2.1++(((putS (wordF l) l++[32])++Lib.itoa (sumF (putS (wordF l) l)))++[10])
     rw[e]
     simp only[List.append_assoc]
    rw[eq,he0] at hk
    rw[el]
    exact hk
 ·have h3':¬ l.length=3:=by omega
  have h2':l.length=2:=by rcases hP.two with h | h<;>omega
  have e:rPE b l=rSyncE b.1 (l.getD 0 0) (l.getD 1 0):=by unfold rPE rNE;rw[if_neg h60,if_neg h3']
  have hw:wordF l=[115]:=by unfold wordF;rw[if_neg h3']
  have hT:rNT b.1 l=rSyncT b.1 (l.getD 0 0) (l.getD 1 0):=by unfold rNT;rw[if_neg h3']
  refine⟨⟨by omega,by omega,by omega,by omega,hP.sh,hP.sy h2'⟩,⟨fun he => ?_,fun he => ?_⟩⟩
  ·have e2:rPT b l=b:=by unfold rPT;rw[if_neg (by rw[e];exact he)]
   rw[e,e2] at hk;exact hk
  ·have he0:rPE b l=0:=by rw[e];exact he
   have hnn:=hnn he0
   have hng:=hng he0
   refine⟨⟨0,⟨Nat.zero_le _,he0⟩,by rw[hw];rfl,rfl⟩,fun x ⟨hx,_⟩=>⟨fun hlt => ?_,fun hge => ?_⟩⟩
   ·have h6:=hpl x hx
    have hn0:=hnn x hlt
    have hd:=decDig_le (n:=(l.getD x 0).toNat) (by have:=hng x hlt;omega)
    refine⟨by omega,by omega,by omega,⟨hn0⟩,by omega,by omega,x+1,⟨by omega,he0⟩,by omega,?_,by omega⟩
    rw[putS_succ (wordF l) l hlt]
    have e:Lib.itoa (l.getD x 0)=Lib.decDigits (l.getD x 0).toNat:=itoa_nn hn0
    rw[e]
    show (putS (wordF l) (l.take x)++[32])++Lib.decDigits (l.getD x 0).toNat=putS (wordF l) (l.take x)++([32]++Lib.decDigits (l.getD x 0).toNat)
    rw[List.append_assoc]
   ·have ex:x=l.length:=by omega
    subst ex
    rw[List.take_length]
    have h6:=hpl l.length (Nat.le_refl _)
    rw[List.take_length] at h6
    have hs0:0≤sumF (putS (wordF l) l):=by unfold sumF;omega
    have hs1:=inK_i64.1 (sumF_k (putS (wordF l) l))
    have hd:=decDig_le (n:=(sumF (putS (wordF l) l)).toNat) (by omega)
    refine⟨⟨by omega,by omega,⟨by omega⟩,⟨hs0⟩,by omega,by omega⟩,by omega,?_⟩
    have e:Lib.itoa (sumF (putS (wordF l) l))=Lib.decDigits (sumF (putS (wordF l) l)).toNat:=itoa_nn hs0
    have eq:rPT b l=(rSyncT b.1 (l.getD 0 0) (l.getD 1 0),List.append b.2.1 (lineF (wordF l) l),b.2.2.1+1,()):=by
     unfold rPT
     rw[if_pos he0,hT]
    have el:(((b.2.1++putS (wordF l) l)++[32])++Lib.decDigits (sumF (putS (wordF l) l)).toNat)++[10]=List.append b.2.1 (lineF (wordF l) l):=by
     show _=b.2.1++(((putS (wordF l) l++[32])++Lib.itoa (sumF (putS (wordF l) l)))++[10])
     rw[e]
     simp only[List.append_assoc]
    rw[eq,he0] at hk
    rw[el]
    exact hk
open Go.Vc Go.Proofs Go.RowKit
def En:Env:={ Es with sa:=[31,36,37] }
theorem En_ok:EnvOk Tryz.prog En:=⟨Es_ok.ty,Es_ok.err,Es_ok.el,Es_ok.mp⟩
def isDg(b:UInt8):Bool:=decide (48≤b.toNat)&&decide (b.toNat≤57)
def numW(s:List UInt8):Nat→Int
 | 0=>0
 | i+1=>wr64 (wr64 (wr64 (numW s i*10)+((s.getD i 0).toNat:Int)) - 48)
def numOk(s:List UInt8):Bool:=decide (1≤s.length)&&decide (s.length≤19)&&s.all isDg
def numN(s:List UInt8):Int:=if numOk s=true then numW s s.length else 0
def numB(s:List UInt8):Bool:=numOk s&&decide (0≤numN s)&&(Lib.decDigits (numN s).toNat==s)
def cNumR:Ctr:=cdet [.str] (fun _=>True) (fun s=>[⟨I,numN s⟩,⟨.bool,numB s⟩])
def anNumR(s:List UInt8):Ann:=[joinAll,loopAt 5 Nat [] (fun st i=>St.at (St.only st [0]) [(4,.d I (numW s i)),(5,.d I (i:Int))]) (fun _ i=>(i≤s.length∧1≤s.length∧s.length≤19)∧(s.take i).all isDg=true) (fun i=>s.length - i)]
open Go.Vc
set_option linter.unusedVariables false
theorem vcNumR(s:List UInt8)(k:List Dat→Prop):vcF ⟨En,[(75,cDigits)],[],[],[]⟩ (anNumR s) (Tryz.f66.body.getD .skip) Tryz.f66.ntmps [(.tmp 2,I),(.tmp 3,.bool)] [⟨.str,s⟩] k=(
 (decide ((↑s.length:Int)=0)=true→k [Dat.mk (I) 0,Dat.mk Ty.bool false])∧(decide ((↑s.length:Int)=0)=false→(decide (19<(↑s.length:Int))=true→k [Dat.mk (I) 0,Dat.mk Ty.bool false])∧(decide (19<(↑s.length:Int))=false→(∃ (x:Nat),((x≤s.length∧1≤s.length∧s.length≤19)∧(List.take x s).all isDg=true)∧(s=s∧0=numW s x∧0=(↑x:Int)∧True)∧True∧True)∧∀ (x:Nat),(x≤s.length∧1≤s.length∧s.length≤19)∧(List.take x s).all isDg=true→(decide ((↑x:Int)<(↑s.length:Int))=true→0≤(↑x:Int)∧(↑x:Int)<(↑s.length:Int)∧(decide ((↑(s.getD (↑x:Int).toNat (0:UInt8)).toNat:Int)<48)=true→k [Dat.mk (I) 0,Dat.mk Ty.bool false])∧(decide ((↑(s.getD (↑x:Int).toNat (0:UInt8)).toNat:Int)<48)=false→0≤(↑x:Int)∧(↑x:Int)<(↑s.length:Int)∧(decide (57<(↑(s.getD (↑x:Int).toNat (0:UInt8)).toNat:Int))=true→k [Dat.mk (I) 0,Dat.mk Ty.bool false])∧(decide (57<(↑(s.getD (↑x:Int).toNat (0:UInt8)).toNat:Int))=false→0≤(↑x:Int)∧(↑x:Int)<(↑s.length:Int)∧inK IntKind.i64 (↑(s.getD (↑x:Int).toNat (0:UInt8)).toNat:Int)∧inK IntKind.i64 ((↑x:Int)+1)∧∃ (x_1:Nat),((x_1≤s.length∧1≤s.length∧s.length≤19)∧(List.take x_1 s).all isDg=true)∧s.length - x_1<s.length - x∧(s=s∧wr64 (wr64 (wr64 (numW s x*10)+(↑(s.getD (↑x:Int).toNat (0:UInt8)).toNat:Int)) - 48)=numW s x_1∧(↑x:Int)+1=(↑x_1:Int)∧True)∧True∧True)))∧(decide ((↑x:Int)<(↑s.length:Int))=false→(decide (0≤numW s x)=true→DigOk (numW s x)∧k [Dat.mk (I) (numW s x),Dat.mk Ty.bool (Lib.decDigits (numW s x).toNat==s)])∧(decide (0≤numW s x)=false→k [Dat.mk (I) (numW s x),Dat.mk Ty.bool false]))))):=by kernel_rfl
open Go.Vc Go.Proofs Go.RowKit
theorem okNumR[Dn]:PlainOk Tryz.prog [] 66 cNumR:=by
 refine plain_of (CxOk.mk' En_ok (by kernel_rfl) mixed (gl:=[]) (GOk.cons okDigits Tryz.func75 (by kernel_rfl) (by kernel_rfl) GOk.nil) GoOk.nil noIt) Tryz.func66 (c:=Tryz.f66.body.getD .skip) (rvs:=[(.tmp 2,I),(.tmp 3,.bool)]) (by kernel_rfl) (by kernel_rfl) (by kernel_rfl) ?_
 intro ds k ⟨hp,hk⟩ hwf
 obtain⟨s,rfl,-⟩:=dest1 hp
 have hk:k [⟨I,numN s⟩,⟨.bool,numB s⟩]:=hk
 refine⟨anNumR s,?_⟩
 rw[vcNumR]
 have no:numOk s=false→k [⟨I,(0:Int)⟩,⟨.bool,false⟩]:=fun h=>by
  have e1:numN s=0:=by unfold numN;rw[if_neg (by rw[h];decide)]
  have e2:numB s=false:=by unfold numB;rw[h];rfl
  rw[e1,e2] at hk;exact hk
 have bad:∀ x,x<s.length→isDg (s.getD x 0)=false→numOk s=false:=fun x hx h=>by
  unfold numOk
  have:s.all isDg=false:=by
   rw[List.all_eq_false]
   refine⟨s.getD x 0,?_,by rw[h];decide⟩
   rw[List.getD_eq_getElem?_getD,List.getElem?_eq_getElem hx]
   exact List.getElem_mem hx
  rw[this,Bool.and_false]
 simp only[Int.toNat_natCast,decide_eq_true_eq,decide_eq_false_iff_not,true_and,and_true,inK_i64]
 refine⟨fun h=>no ?_,fun h0=>⟨fun h=>no ?_,fun h19=>⟨⟨0,⟨⟨Nat.zero_le _,by omega,by omega⟩,rfl⟩,rfl,rfl⟩,fun x ⟨⟨hx,h1,h2⟩,ha⟩=>⟨fun hlt=>⟨by omega,hlt,fun hd=>no ?_,fun hd=>⟨by omega,hlt,fun hd2=>no ?_,fun hd2=>⟨by omega,hlt,by omega,by omega,x+1,⟨⟨by omega,h1,h2⟩,?_⟩,by omega,rfl,by omega⟩⟩⟩,fun hge => ?_⟩⟩⟩⟩
 ·unfold numOk;rw[decide_eq_false (by omega:¬ 1≤s.length)];rfl
 ·unfold numOk;rw[decide_eq_false (by omega:¬ s.length≤19),Bool.and_false];rfl
 ·refine bad x (by omega) ?_
  unfold isDg;rw[decide_eq_false (by omega:¬ 48≤(s.getD x 0).toNat)];rfl
 ·refine bad x (by omega) ?_
  unfold isDg;rw[decide_eq_false (by omega:¬ (s.getD x 0).toNat≤57),Bool.and_false]
 ·have hxl:x<s.length:=by omega
  rw[List.take_succ_eq_append_getElem hxl,List.all_append,ha]
  have:isDg s[x]=true:=by
   have e:s.getD x 0=s[x]:=by rw[List.getD_eq_getElem?_getD,List.getElem?_eq_getElem hxl];rfl
   rw[← e]
   unfold isDg
   rw[decide_eq_true (by omega:48≤(s.getD x 0).toNat),decide_eq_true (by omega:(s.getD x 0).toNat≤57)];rfl
  simp[this]
 ·have ex:x=s.length:=by omega
  subst ex
  rw[List.take_length] at ha
  have ho:numOk s=true:=by
   unfold numOk
   rw[decide_eq_true h1,decide_eq_true h2,ha];rfl
  have e1:numN s=numW s s.length:=by unfold numN;rw[if_pos ho]
  refine⟨fun hn=>⟨⟨hn⟩,?_⟩,fun hn => ?_⟩
  ·have e2:numB s=(Lib.decDigits (numW s s.length).toNat==s):=by
    unfold numB;rw[ho,e1,decide_eq_true hn];rfl
   rw[e1,e2] at hk;exact hk
  ·have e2:numB s=false:=by
    unfold numB;rw[ho,e1,decide_eq_false hn];rfl
   rw[e1,e2] at hk;exact hk
open Go.Vc Go.Proofs Go.RowKit
def Ec:Env:={ Es with tys:=(78,.sl .str)::Es.tys,els:=[(78,9)] }
theorem Ec_ok:EnvOk Tryz.prog Ec:=EnvOk.of_list (by kernel_rfl) (by kernel_rfl) (by kernel_rfl)
def cutAt(s:List UInt8)(c:Int)(i:Nat):Bool:=decide (i=s.length)||decide (((s.getD i 0).toNat:Int)=c)
def cutFm(s:List UInt8)(c:Int):Nat→Nat
 | 0=>0
 | i+1=>if cutAt s c i=true then i+1 else cutFm s c i
def cutG(s:List UInt8)(c:Int):Nat→List (List UInt8)
 | 0=>[]
 | i+1=>if cutAt s c i=true then cutG s c i++[(s.take i).drop (cutFm s c i)] else cutG s c i
def cutL(s:List UInt8)(c:Int):List (List UInt8):=cutG s c (s.length+1)
structure CutOk(s:List UInt8):Prop where
 le:s.length≤1100000
def cCutR:Ctr:=cdet [.str,.int .u8] (fun s _=>CutOk s) (fun s (c:Int)=>[⟨.sl .str,cutL s c⟩])
def anCutR(s:List UInt8)(c:Int):Ann:=[joinAll,loopAt 4 Nat [(5,9,.d .str)] (fun st i=>{ St.at (St.only st [0,1]) [(5,.os 0),(6,.d I ((cutFm s c i:Nat):Int)),(7,.d I (i:Int))] with ob:=[.row 9 .str (cutG s c i)] }) (fun _ i=>i≤s.length+1) (fun i=>s.length+1 - i)]
open Go.Vc
set_option linter.unusedVariables false
theorem vcCutR(s:List UInt8)(c:Int)(k:List Dat→Prop):vcF ⟨Ec,[],[],[],[]⟩ (anCutR s c) (Tryz.f39.body.getD .skip) Tryz.f39.ntmps [(.tmp 4,.sl .str)] [⟨.str,s⟩,⟨.int .u8,c⟩] k=(
 (∃ (x:Nat),x.le (s.length+1)∧(s=s∧c=c∧True∧0=(↑(cutFm s c x):Int)∧0=(↑x:Int)∧True)∧((9=9∧[]=cutG s c x)∧True)∧True)∧∀ (x:Nat),x.le (s.length+1)→(decide ((↑x:Int)≤(↑s.length:Int))=true→(decide ((↑x:Int)=(↑s.length:Int))=true→0≤(↑(cutFm s c x):Int)∧(↑(cutFm s c x):Int)≤(↑x:Int)∧(↑x:Int)≤(↑s.length:Int)∧(cutG s c x).length+((List.replicate 1 []).set 0 (List.drop (↑(cutFm s c x):Int).toNat (List.take (↑x:Int).toNat s))).length≤1000000000∧inK IntKind.i64 ((↑x:Int)+1)∧inK IntKind.i64 ((↑x:Int)+1)∧∃ (x_1:Nat),x_1.le (s.length+1)∧s.length+1 - x_1<s.length+1 - x∧(s=s∧c=c∧True∧(↑x:Int)+1=(↑(cutFm s c x_1):Int)∧(↑x:Int)+1=(↑x_1:Int)∧True)∧((9=9∧(cutG s c x).append ((List.replicate 1 []).set 0 (List.drop (↑(cutFm s c x):Int).toNat (List.take (↑x:Int).toNat s)))=cutG s c x_1)∧True)∧True)∧(decide ((↑x:Int)=(↑s.length:Int))=false→0≤(↑x:Int)∧(↑x:Int)<(↑s.length:Int)∧(decide ((↑(s.getD (↑x:Int).toNat (0:UInt8)).toNat:Int)=c)=true→0≤(↑(cutFm s c x):Int)∧(↑(cutFm s c x):Int)≤(↑x:Int)∧(↑x:Int)≤(↑s.length:Int)∧(cutG s c x).length+((List.replicate 1 []).set 0 (List.drop (↑(cutFm s c x):Int).toNat (List.take (↑x:Int).toNat s))).length≤1000000000∧inK IntKind.i64 ((↑x:Int)+1)∧inK IntKind.i64 ((↑x:Int)+1)∧∃ (x_1:Nat),x_1.le (s.length+1)∧s.length+1 - x_1<s.length+1 - x∧(s=s∧c=c∧True∧(↑x:Int)+1=(↑(cutFm s c x_1):Int)∧(↑x:Int)+1=(↑x_1:Int)∧True)∧((9=9∧(cutG s c x).append ((List.replicate 1 []).set 0 (List.drop (↑(cutFm s c x):Int).toNat (List.take (↑x:Int).toNat s)))=cutG s c x_1)∧True)∧True)∧(decide ((↑(s.getD (↑x:Int).toNat (0:UInt8)).toNat:Int)=c)=false→inK IntKind.i64 ((↑x:Int)+1)∧∃ (x_1:Nat),x_1.le (s.length+1)∧s.length+1 - x_1<s.length+1 - x∧(s=s∧c=c∧True∧(↑(cutFm s c x):Int)=(↑(cutFm s c x_1):Int)∧(↑x:Int)+1=(↑x_1:Int)∧True)∧((9=9∧cutG s c x=cutG s c x_1)∧True)∧True)))∧(decide ((↑x:Int)≤(↑s.length:Int))=false→k [Dat.mk Ty.str.sl (cutG s c x)])):=by kernel_rfl
open Go.Vc Go.Proofs Go.RowKit
theorem cutFm_le(s:List UInt8)(c:Int):∀ i,cutFm s c i≤i
 | 0=>Nat.le_refl _
 | i+1=>by
  have ih:=cutFm_le s c i
  unfold cutFm
  split<;>omega
theorem cutG_len(s:List UInt8)(c:Int):∀ i,(cutG s c i).length≤i
 | 0=>Nat.le_refl _
 | i+1=>by
  have ih:=cutG_len s c i
  unfold cutG
  split
  ·rw[List.length_append,List.length_singleton];omega
  ·omega
theorem okCutR[Dn]:PlainOk Tryz.prog [] 39 cCutR:=by
 refine plain_of (CxOk.mk' Ec_ok (by kernel_rfl) mixed (gl:=[]) GOk.nil GoOk.nil noIt) Tryz.func39 (c:=Tryz.f39.body.getD .skip) (rvs:=[(.tmp 4,.sl .str)]) (by kernel_rfl) (by kernel_rfl) (by kernel_rfl) ?_
 intro ds k ⟨hp,hk⟩ hwf
 obtain⟨s,c,rfl,hs⟩:=dest2 hp
 have hle:=hs.le
 have hk:k [⟨.sl .str,cutL s c⟩]:=hk
 refine⟨anCutR s c,?_⟩
 rw[vcCutR]
 have e1:∀ y:List UInt8,(List.replicate 1 ([]:List UInt8)).set 0 y=[y]:=fun _=>rfl
 have ea:∀ (m n:List (List UInt8)),List.append m n=m++n:=fun _ _=>rfl
 simp only[e1,ea,Int.toNat_natCast,decide_eq_true_eq,decide_eq_false_iff_not,true_and,and_true,inK_i64,Nat.le_eq,List.length_cons,List.length_nil]
 refine⟨⟨0,by omega,⟨rfl,rfl⟩,rfl⟩,fun x hx=>⟨fun hxl=>⟨fun he => ?_,fun hne=>⟨by omega,by omega,fun hc => ?_,fun hc => ?_⟩⟩,fun hgt => ?_⟩⟩
 ·have h1:=cutFm_le s c x
  have h2:=cutG_len s c x
  have hat:cutAt s c x=true:=by unfold cutAt;rw[decide_eq_true (by omega:x=s.length)];rfl
  refine⟨by omega,by omega,by omega,by omega,by omega,by omega,x+1,by omega,by omega,⟨?_,by omega⟩,?_⟩
  ·show (x:Int)+1=((if cutAt s c x=true then x+1 else cutFm s c x:Nat):Int)
   rw[if_pos hat];omega
  ·show _=if cutAt s c x=true then _ else _
   rw[if_pos hat]
 ·have h1:=cutFm_le s c x
  have h2:=cutG_len s c x
  have hat:cutAt s c x=true:=by unfold cutAt;rw[decide_eq_true hc,Bool.or_true]
  refine⟨by omega,by omega,by omega,by omega,by omega,by omega,x+1,by omega,by omega,⟨?_,by omega⟩,?_⟩
  ·show (x:Int)+1=((if cutAt s c x=true then x+1 else cutFm s c x:Nat):Int)
   rw[if_pos hat];omega
  ·show _=if cutAt s c x=true then _ else _
   rw[if_pos hat]
 ·have hat:¬ cutAt s c x=true:=by unfold cutAt;rw[decide_eq_false (by omega:¬ x=s.length),decide_eq_false hc];decide
  refine⟨by omega,x+1,by omega,by omega,⟨?_,by omega⟩,?_⟩
  ·show _=((if cutAt s c x=true then x+1 else cutFm s c x:Nat):Int)
   rw[if_neg hat]
  ·show _=if cutAt s c x=true then _ else _
   rw[if_neg hat]
 ·have:x=s.length+1:=by omega
  subst this;exact hk
open Go.Shelf Go.Proofs Go.RowKit
def laidCutS_ren:Go.Shelf.Ren:=⟨fun | 104=>33 | 211=>59 | 207=>81 | n=>n,fun | 9=>9 | 4=>4 | 24=>70 | 3=>3 | n=>n,fun | n=>n⟩
theorem laidCutS:Go.Proofs.Lays.n104 Tryz.prog laidCutS_ren where
 mixed:=by kernel_rfl
 f104:=Tryz.func33.trans (congrArg some (by kernel_rfl))
 f207:=Tryz.func81.trans (congrArg some (by kernel_rfl))
 f211:=Tryz.func59.trans (congrArg some (by kernel_rfl))
 t3:=Tryz.underlying3
 a3:=Tryz.isAgg3
 z3:=Tryz.sizeOf3
 v3:=Tryz.zeroValue3
 t4:=Tryz.underlying4
 a4:=Tryz.isAgg4
 z4:=Tryz.sizeOf4
 v4:=Tryz.zeroValue4
 t9:=Tryz.underlying9
 a9:=Tryz.isAgg9
 z9:=Tryz.sizeOf9
 v9:=Tryz.zeroValue9
 t24:=Tryz.underlying70
 a24:=Tryz.isAgg70
 z24:=Tryz.sizeOf70
 v24:=Tryz.zeroValue70
def laidTrimS_ren:Go.Shelf.Ren:=⟨fun | 102=>45 | 209=>73 | 207=>81 | n=>n,fun | 9=>9 | 4=>4 | 3=>3 | n=>n,fun | n=>n⟩
theorem laidTrimS:Go.Proofs.Lays.n102 Tryz.prog laidTrimS_ren where
 mixed:=by kernel_rfl
 f102:=Tryz.func45.trans (congrArg some (by kernel_rfl))
 f207:=Tryz.func81.trans (congrArg some (by kernel_rfl))
 f209:=Tryz.func73.trans (congrArg some (by kernel_rfl))
 t3:=Tryz.underlying3
 a3:=Tryz.isAgg3
 z3:=Tryz.sizeOf3
 v3:=Tryz.zeroValue3
 t4:=Tryz.underlying4
 a4:=Tryz.isAgg4
 z4:=Tryz.sizeOf4
 v4:=Tryz.zeroValue4
 t9:=Tryz.underlying9
 a9:=Tryz.isAgg9
 z9:=Tryz.sizeOf9
 v9:=Tryz.zeroValue9
def laidLastI_ren:Go.Shelf.Ren:=⟨fun | 149=>60 | 222=>82 | n=>n,fun | 9=>9 | 5=>5 | 3=>3 | 4=>4 | n=>n,fun | n=>n⟩
theorem laidLastI:Go.Proofs.Lays.n149 Tryz.prog laidLastI_ren where
 mixed:=by kernel_rfl
 f149:=Tryz.func60.trans (congrArg some (by kernel_rfl))
 f222:=Tryz.func82.trans (congrArg some (by kernel_rfl))
 t3:=Tryz.underlying3
 a3:=Tryz.isAgg3
 z3:=Tryz.sizeOf3
 v3:=Tryz.zeroValue3
 t4:=Tryz.underlying4
 a4:=Tryz.isAgg4
 z4:=Tryz.sizeOf4
 v4:=Tryz.zeroValue4
 t5:=Tryz.underlying5
 a5:=Tryz.isAgg5
 z5:=Tryz.sizeOf5
 v5:=Tryz.zeroValue5
 t9:=Tryz.underlying9
 a9:=Tryz.isAgg9
 z9:=Tryz.sizeOf9
 v9:=Tryz.zeroValue9
def laidIdxB_ren:Go.Shelf.Ren:=⟨fun | 137=>58 | 217=>80 | 266=>107 | n=>n,fun | 9=>9 | 5=>5 | 3=>3 | n=>n,fun | n=>n⟩
theorem laidIdxB:Go.Proofs.Lays.n137 Tryz.prog laidIdxB_ren where
 mixed:=by kernel_rfl
 f137:=Tryz.func58.trans (congrArg some (by kernel_rfl))
 f217:=Tryz.func80.trans (congrArg some (by kernel_rfl))
 f266:=Tryz.func107.trans (congrArg some (by kernel_rfl))
 t3:=Tryz.underlying3
 a3:=Tryz.isAgg3
 z3:=Tryz.sizeOf3
 v3:=Tryz.zeroValue3
 t5:=Tryz.underlying5
 a5:=Tryz.isAgg5
 z5:=Tryz.sizeOf5
 v5:=Tryz.zeroValue5
 t9:=Tryz.underlying9
 a9:=Tryz.isAgg9
 z9:=Tryz.sizeOf9
 v9:=Tryz.zeroValue9
open Go.Vc Go.Proofs Go.RowKit
def cCutS:Ctr:=cdet [.str,.str] (fun _ _=>True) (fun s p=>[⟨.str,Lib.trimSuffix s p⟩,⟨.bool,Lib.hasSuffix s p⟩])
def cTrimS:Ctr:=cdet [.str,.str] (fun _ _=>True) (fun s p=>[⟨.str,Lib.trimSuffix s p⟩])
structure LastOk(s:List UInt8):Prop where
 le:s.length≤1000000000
def lastB(s:List UInt8)(c:Int):Int:=Lib.lastIndexByte ⟨s.toArray⟩ c
def cLastI:Ctr:=cdet [.str,.int .u8] (fun s _=>LastOk s) (fun s (c:Int)=>[⟨I,lastB s c⟩])
theorem str1{w:World}{ro:Nat→Prop}{x:List UInt8}{v:Value}(h:(Ty.str).okV w ro x v):v = .string ⟨x.toArray⟩∧x.length≤maxLen:=by
 have h':[v]=[Value.string ⟨x.toArray⟩]∧x.length≤maxLen:=h
 exact⟨by simpa using h'.1,h'.2⟩
theorem bsz(x:List UInt8):(⟨x.toArray⟩:ByteArray).size=x.length:=by simp[ByteArray.size]
theorem trim_len(s p:List UInt8):(Lib.trimSuffix s p).length≤s.length:=by
 unfold Lib.trimSuffix
 split
 ·rw[List.length_take];omega
 ·exact Nat.le_refl _
theorem okTrimS[Dn]:PlainOk Tryz.prog [] 45 cTrimS:=by
 intro ds k ⟨hp,hk⟩ w ro vals hlt hgl hD
 obtain⟨s,p,rfl,-⟩:=dest2 hp
 have hk:k [⟨.str,Lib.trimSuffix s p⟩]:=hk
 have hl:vals.length=2:=hD.1
 match vals,hl with
 | [v1,v2],_ =>
  obtain⟨e1,h1⟩:=str1 (w:=w) (ro:=ro) (x:=s) (v:=v1) (hD.2 0 ⟨.str,s⟩ v1 rfl rfl)
  obtain⟨e2,h2⟩:=str1 (w:=w) (ro:=ro) (x:=p) (v:=v2) (hD.2 1 ⟨.str,p⟩ v2 rfl rfl)
  subst e1;subst e2
  refine (Any.strings_TrimSuffix laidTrimS ⟨s.toArray⟩ ⟨p.toArray⟩ w (by rw[bsz];exact h1)).mono ?_
  rintro e w' ⟨rfl,rfl⟩
  exact⟨Fr.refl _ _,_,_,rfl,hk,rfl,Nat.le_trans (trim_len s p) h1⟩
theorem okCutS[Dn]:PlainOk Tryz.prog [] 33 cCutS:=by
 intro ds k ⟨hp,hk⟩ w ro vals hlt hgl hD
 obtain⟨s,p,rfl,-⟩:=dest2 hp
 have hk:k [⟨.str,Lib.trimSuffix s p⟩,⟨.bool,Lib.hasSuffix s p⟩]:=hk
 have hl:vals.length=2:=hD.1
 match vals,hl with
 | [v1,v2],_ =>
  obtain⟨e1,h1⟩:=str1 (w:=w) (ro:=ro) (x:=s) (v:=v1) (hD.2 0 ⟨.str,s⟩ v1 rfl rfl)
  obtain⟨e2,h2⟩:=str1 (w:=w) (ro:=ro) (x:=p) (v:=v2) (hD.2 1 ⟨.str,p⟩ v2 rfl rfl)
  subst e1;subst e2
  refine (Any.strings_CutSuffix laidCutS ⟨s.toArray⟩ ⟨p.toArray⟩ w (by rw[bsz];exact h1)).mono ?_
  rintro e w' ⟨rfl,rfl⟩
  refine⟨Fr.refl _ _,_,_,rfl,hk,_,rfl,rfl,fun j d v hd hv => ?_⟩
  match j with
  | 0=>simp at hd hv;subst hd;subst hv;exact⟨rfl,Nat.le_trans (trim_len s p) h1⟩
  | 1=>simp at hd hv;subst hd;subst hv;exact rfl
  | j+2=>simp at hd
theorem lastIdx_k(s:ByteArray)(c:Int):∀ k:Nat,-1≤Lib.lastIdx s c k∧Lib.lastIdx s c k<(k:Int)
 | 0=>⟨Int.le_refl _,by show (-1:Int)<0;decide⟩
 | k+1=>by
  have ih:=lastIdx_k s c k
  unfold Lib.lastIdx
  split<;>omega
theorem okLastI[Dn]:PlainOk Tryz.prog [] 60 cLastI:=by
 intro ds k ⟨hp,hk⟩ w ro vals hlt hgl hD
 obtain⟨s,c,rfl,hs⟩:=dest2 hp
 have hk:k [⟨I,lastB s c⟩]:=hk
 have hl:vals.length=2:=hD.1
 match vals,hl with
 | [v1,v2],_ =>
  obtain⟨e1,h1⟩:=str1 (w:=w) (ro:=ro) (x:=s) (v:=v1) (hD.2 0 ⟨.str,s⟩ v1 rfl rfl)
  have hv:[v2]=[Value.int .u8 c]∧inK .u8 c:=hD.2 1 ⟨.int .u8,c⟩ v2 rfl rfl
  obtain⟨e2,_⟩:=hv
  injection e2 with e2 _
  subst e1;subst e2
  have hle:=hs.le
  refine (Any.strings_LastIndexByte laidLastI ⟨s.toArray⟩ c (by rw[bsz];exact Nat.lt_of_le_of_lt hle (by decide)) w).mono ?_
  rintro e w' ⟨rfl,rfl⟩
  refine⟨Fr.refl _ _,_,_,rfl,hk,rfl,?_⟩
  have:=lastIdx_k ⟨s.toArray⟩ c s.length
  rw[inK_i64]
  show -9223372036854775808≤lastB s c∧lastB s c≤9223372036854775807
  unfold lastB Lib.lastIndexByte
  rw[bsz]
  omega
open Go.Vc Go.Proofs Go.RowKit
def tailL(s:List UInt8):List UInt8:=s.drop (lastB s 32+1).toNat
def headL(s:List UInt8):List UInt8:=s.take (lastB s 32).toNat
def wordsL(s:List UInt8):List (List UInt8):=cutL (headL s) 32
def numsL(s:List UInt8):List Int:=((wordsL s).drop 1).map numN
def fitL(s:List UInt8):Bool:=((wordsL s).getD 0 []==[119]&&decide ((numsL s).length=3))||((wordsL s).getD 0 []==[115]&&decide ((numsL s).length=2))
def badL(s:List UInt8):Int :=
 if lastB s 32<0 then 2 else if numB (tailL s)=false then 2 else if numN (tailL s)≠sumF (headL s) then 6 else if ((wordsL s).drop 1).all numB=false then 2 else if fitL s=true then 0 else 2
def rLE(b:RB)(s:List UInt8):Int:=if badL s=0 then rPE b (numsL s) else badL s
def rLT(b:RB)(s:List UInt8):RB:=if badL s=0 then rPT b (numsL s) else b
structure LineOk(b:RB)(s:List UInt8):Prop where
 sh:RSh b.1
 sy:∀ x y:Int,rSyncE b.1 x y=0→SyOk b.1 x y
 txt:b.2.1.length≤900000000
 lo:0≤b.2.2.1
 hi:b.2.2.1≤60
 le:s.length≤1100000
def cLineR:Ctr:=cdet [tRB,.str] (fun (b:RB) s=>LineOk b s) (fun (b:RB) s=>[⟨tRB,rLT b s⟩,⟨I,rLE b s⟩])
def Elr:Env:={ Ek with tys:=(78,.sl .str)::Ek.tys,els:=(78,9)::Ek.els }
theorem Elr_ok:EnvOk Tryz.prog Elr:=EnvOk.of_list (by kernel_rfl) (by kernel_rfl) (by kernel_rfl)
def anLineR(b:RB)(s:List UInt8):Ann:=[joinAll,freezeAt 20 [10],
 loopAt 2 Nat [] (fun st j=>St.at (St.only st [1,2,4]) [(6,.d I ((j:Int) - 1))]) (fun _ j=>j≤s.length∧Lib.lastIdx ⟨s.toArray⟩ 32 j=lastB s 32) (fun j=>j),
 loopAt 14 Nat [(10,3,.d I)] (fun st i=>{ St.at (St.only st [1,2,4,9]) [(10,.os 2),(11,.d I ((i:Int)+1))] with ob:=[.var 45 tRB b,.var 45 tRB rb0,.row 3 I ((((wordsL s).drop 1).take i).map numN)] }) (fun _ i=>(i≤((wordsL s).drop 1).length∧0≤lastB s 32)∧((((wordsL s).drop 1).take i).all numB=true∧numB (tailL s)=true∧numN (tailL s)=sumF (headL s))) (fun i=>((wordsL s).drop 1).length - i)]
open Go.Vc
set_option linter.unusedVariables false
abbrev vcLineRq1(x:Nat)(s:List UInt8):=(List.drop (Int.toNat 0) (List.take ((↑x:Int) - (1:I.D)).toNat s))
abbrev vcLineRq2(x:Nat)(s:List UInt8)(x_1:Nat)(b:RB)(k:List Dat→Prop):=(((cutL (vcLineRq1 x s) 32).getD (Int.toNat 0) []==[(115:UInt8)])=true→(decide ((↑(List.map numN (List.take x_1 (List.drop 1 (wordsL s)))).length:Int)=2)=true→PutOk b (List.map numN (List.take x_1 (List.drop 1 (wordsL s))))∧k [Dat.mk tRB (rPT b (List.map numN (List.take x_1 (List.drop 1 (wordsL s))))),Dat.mk (I) (rPE b (List.map numN (List.take x_1 (List.drop 1 (wordsL s)))))])∧(decide ((↑(List.map numN (List.take x_1 (List.drop 1 (wordsL s)))).length:Int)=2)=false→k [Dat.mk tRB b,Dat.mk (I) 2]))
abbrev vcLineRq3(x:Nat)(s:List UInt8):=(List.drop ((↑x:Int) - (1:I.D)+(1:Int)).toNat (List.take (↑s.length:Int).toNat s))
abbrev vcLineRq4(x_1:Nat)(s:List UInt8):=(List.map numN (List.take x_1 (List.drop 1 (wordsL s))))
abbrev vcLineRq5(x:Nat)(s:List UInt8)(x_1:Nat):=((cutL (vcLineRq1 x s) 32).getD ((↑x_1:Int)+(1:I.D)).toNat [])
abbrev vcLineRq6(x:Nat)(s:List UInt8):=(↑(cutL (vcLineRq1 x s) 32).length:Int)
theorem vcLineR(b:RB)(s:List UInt8)(k:List Dat→Prop):vcF ⟨Elr,[(66,cNumR),(67,cSum),(39,cCutR),(68,cPutR)],[],[],[]⟩ (anLineR b s) (Tryz.f40.body.getD .skip) Tryz.f40.ntmps [(.cell 4 45,tRB),(.tmp 5,I)] [⟨tRB,b⟩,⟨.str,s⟩] k=(
 inK IntKind.i64 ((↑s.length:Int) - 1)∧(∃ (x:Nat),(x≤s.length∧Lib.lastIdx (ByteArray.mk s.toArray) 32 x=lastB s 32)∧(s=s∧([]:List Nat)=[]∧([]:List Nat)=[]∧(↑s.length:Int) - 1=(↑x:Int) - (1:I.D)∧True)∧((45=45∧b=b)∧(45=45∧rb0=rb0)∧True)∧True)∧∀ (x:Nat),x≤s.length∧Lib.lastIdx (ByteArray.mk s.toArray) 32 x=lastB s 32→(decide (0≤(↑x:Int) - (1:I.D))=true→0≤(↑x:Int) - (1:I.D)∧(↑x:Int) - (1:I.D)<(↑s.length:Int)∧((!decide ((↑(s.getD ((↑x:Int) - (1:I.D)).toNat (0:UInt8)).toNat:Int)=32))=true→inK IntKind.i64 ((↑x:Int) - (1:I.D) - (1:Int))∧∃ (x_1:Nat),(x_1≤s.length∧Lib.lastIdx (ByteArray.mk s.toArray) 32 x_1=lastB s 32)∧x_1<x∧(s=s∧([]:List Nat)=[]∧([]:List Nat)=[]∧(↑x:Int) - (1:I.D) - 1=(↑x_1:Int) - (1:I.D)∧True)∧((45=45∧b=b)∧(45=45∧rb0=rb0)∧True)∧True)∧((!decide ((↑(s.getD ((↑x:Int) - (1:I.D)).toNat (0:UInt8)).toNat:Int)=32))=false→(decide ((↑x:Int) - (1:I.D)<(0:Int))=true→k [Dat.mk tRB b,Dat.mk (I) 2])∧(decide ((↑x:Int) - (1:I.D)<(0:Int))=false→inK IntKind.i64 ((↑x:Int) - (1:I.D)+(1:Int))∧0≤(↑x:Int) - (1:I.D)+(1:Int)∧(↑x:Int) - (1:I.D)+1≤(↑s.length:Int)∧(↑s.length:Int)≤(↑s.length:Int)∧True∧((!numB (vcLineRq3 x s))=true→k [Dat.mk tRB b,Dat.mk (I) 2])∧((!numB (vcLineRq3 x s))=false→0≤(0:Int)∧0≤(↑x:Int) - (1:I.D)∧(↑x:Int) - (1:I.D)≤(↑s.length:Int)∧SumOk (vcLineRq1 x s)∧((!decide (numN (vcLineRq3 x s)=sumF (vcLineRq1 x s)))=true→k [Dat.mk tRB b,Dat.mk (I) 6])∧((!decide (numN (vcLineRq3 x s)=sumF (vcLineRq1 x s)))=false→0≤(0:Int)∧0≤(↑x:Int) - (1:I.D)∧(↑x:Int) - (1:I.D)≤(↑s.length:Int)∧CutOk (vcLineRq1 x s)∧(∃ (x_1:Nat),((x_1≤(List.drop 1 (wordsL s)).length∧0≤lastB s 32)∧(List.take x_1 (List.drop 1 (wordsL s))).all numB=true∧numB (tailL s)=true∧numN (tailL s)=sumF (headL s))∧(s=s∧([]:List Nat)=[]∧([]:List Nat)=[]∧cutL (vcLineRq1 x s) 32=cutL (vcLineRq1 x s) 32∧True∧1=(↑x_1:Int)+(1:I.D)∧True)∧((45=45∧b=b)∧(45=45∧rb0=rb0)∧(3=3∧[]=List.map numN (List.take x_1 (List.drop 1 (wordsL s))))∧True)∧True)∧∀ (x_1:Nat),(x_1≤(List.drop 1 (wordsL s)).length∧0≤lastB s 32)∧(List.take x_1 (List.drop 1 (wordsL s))).all numB=true∧numB (tailL s)=true∧numN (tailL s)=sumF (headL s)→(decide ((↑x_1:Int)+(1:I.D)<(vcLineRq6 x s))=true→0≤(↑x_1:Int)+(1:I.D)∧(↑x_1:Int)+(1:I.D)<(vcLineRq6 x s)∧True∧((!numB (vcLineRq5 x s x_1))=true→k [Dat.mk tRB b,Dat.mk (I) 2])∧((!numB (vcLineRq5 x s x_1))=false→(vcLineRq4 x_1 s).length+((List.replicate 1 0).set 0 (numN (vcLineRq5 x s x_1))).length≤1000000000∧inK IntKind.i64 ((↑x_1:Int)+(1:I.D)+(1:Int))∧∃ (x_2:Nat),((x_2≤(List.drop 1 (wordsL s)).length∧0≤lastB s 32)∧(List.take x_2 (List.drop 1 (wordsL s))).all numB=true∧numB (tailL s)=true∧numN (tailL s)=sumF (headL s))∧(List.drop 1 (wordsL s)).length - x_2<(List.drop 1 (wordsL s)).length - x_1∧(s=s∧([]:List Nat)=[]∧([]:List Nat)=[]∧cutL (vcLineRq1 x s) 32=cutL (vcLineRq1 x s) 32∧True∧(↑x_1:Int)+(1:I.D)+1=(↑x_2:Int)+(1:I.D)∧True)∧((45=45∧b=b)∧(45=45∧rb0=rb0)∧(3=3∧(vcLineRq4 x_1 s).append ((List.replicate 1 0).set 0 (numN (vcLineRq5 x s x_1)))=List.map numN (List.take x_2 (List.drop 1 (wordsL s))))∧True)∧True))∧(decide ((↑x_1:Int)+(1:I.D)<(vcLineRq6 x s))=false→0≤(0:Int)∧0<(vcLineRq6 x s)∧(((cutL (vcLineRq1 x s) 32).getD (Int.toNat 0) []==[(119:UInt8)])=true→(decide ((↑(vcLineRq4 x_1 s).length:Int)=3)=true→PutOk b (vcLineRq4 x_1 s)∧k [Dat.mk tRB (rPT b (vcLineRq4 x_1 s)),Dat.mk (I) (rPE b (vcLineRq4 x_1 s))])∧(decide ((↑(vcLineRq4 x_1 s).length:Int)=3)=false→0≤(0:Int)∧0<(vcLineRq6 x s)∧(vcLineRq2 x s x_1 b k)∧(((cutL (vcLineRq1 x s) 32).getD (Int.toNat 0) []==[(115:UInt8)])=false→k [Dat.mk tRB b,Dat.mk (I) 2])))∧(((cutL (vcLineRq1 x s) 32).getD (Int.toNat 0) []==[(119:UInt8)])=false→0≤(0:Int)∧0<(vcLineRq6 x s)∧(vcLineRq2 x s x_1 b k)∧(((cutL (vcLineRq1 x s) 32).getD (Int.toNat 0) []==[(115:UInt8)])=false→k [Dat.mk tRB b,Dat.mk (I) 2]))))))))∧(decide (0≤(↑x:Int) - (1:I.D))=false→(decide ((↑x:Int) - (1:I.D)<(0:Int))=true→k [Dat.mk tRB b,Dat.mk (I) 2])∧(decide ((↑x:Int) - (1:I.D)<(0:Int))=false→inK IntKind.i64 ((↑x:Int) - (1:I.D)+(1:Int))∧0≤(↑x:Int) - (1:I.D)+(1:Int)∧(↑x:Int) - (1:I.D)+1≤(↑s.length:Int)∧(↑s.length:Int)≤(↑s.length:Int)∧True∧((!numB (vcLineRq3 x s))=true→k [Dat.mk tRB b,Dat.mk (I) 2])∧((!numB (vcLineRq3 x s))=false→0≤(0:Int)∧0≤(↑x:Int) - (1:I.D)∧(↑x:Int) - (1:I.D)≤(↑s.length:Int)∧SumOk (vcLineRq1 x s)∧((!decide (numN (vcLineRq3 x s)=sumF (vcLineRq1 x s)))=true→k [Dat.mk tRB b,Dat.mk (I) 6])∧((!decide (numN (vcLineRq3 x s)=sumF (vcLineRq1 x s)))=false→0≤(0:Int)∧0≤(↑x:Int) - (1:I.D)∧(↑x:Int) - (1:I.D)≤(↑s.length:Int)∧CutOk (vcLineRq1 x s)∧(∃ (x_1:Nat),((x_1≤(List.drop 1 (wordsL s)).length∧0≤lastB s 32)∧(List.take x_1 (List.drop 1 (wordsL s))).all numB=true∧numB (tailL s)=true∧numN (tailL s)=sumF (headL s))∧(s=s∧([]:List Nat)=[]∧([]:List Nat)=[]∧cutL (vcLineRq1 x s) 32=cutL (vcLineRq1 x s) 32∧True∧1=(↑x_1:Int)+(1:I.D)∧True)∧((45=45∧b=b)∧(45=45∧rb0=rb0)∧(3=3∧[]=List.map numN (List.take x_1 (List.drop 1 (wordsL s))))∧True)∧True)∧∀ (x_1:Nat),(x_1≤(List.drop 1 (wordsL s)).length∧0≤lastB s 32)∧(List.take x_1 (List.drop 1 (wordsL s))).all numB=true∧numB (tailL s)=true∧numN (tailL s)=sumF (headL s)→(decide ((↑x_1:Int)+(1:I.D)<(vcLineRq6 x s))=true→0≤(↑x_1:Int)+(1:I.D)∧(↑x_1:Int)+(1:I.D)<(vcLineRq6 x s)∧True∧((!numB (vcLineRq5 x s x_1))=true→k [Dat.mk tRB b,Dat.mk (I) 2])∧((!numB (vcLineRq5 x s x_1))=false→(vcLineRq4 x_1 s).length+((List.replicate 1 0).set 0 (numN (vcLineRq5 x s x_1))).length≤1000000000∧inK IntKind.i64 ((↑x_1:Int)+(1:I.D)+(1:Int))∧∃ (x_2:Nat),((x_2≤(List.drop 1 (wordsL s)).length∧0≤lastB s 32)∧(List.take x_2 (List.drop 1 (wordsL s))).all numB=true∧numB (tailL s)=true∧numN (tailL s)=sumF (headL s))∧(List.drop 1 (wordsL s)).length - x_2<(List.drop 1 (wordsL s)).length - x_1∧(s=s∧([]:List Nat)=[]∧([]:List Nat)=[]∧cutL (vcLineRq1 x s) 32=cutL (vcLineRq1 x s) 32∧True∧(↑x_1:Int)+(1:I.D)+1=(↑x_2:Int)+(1:I.D)∧True)∧((45=45∧b=b)∧(45=45∧rb0=rb0)∧(3=3∧(vcLineRq4 x_1 s).append ((List.replicate 1 0).set 0 (numN (vcLineRq5 x s x_1)))=List.map numN (List.take x_2 (List.drop 1 (wordsL s))))∧True)∧True))∧(decide ((↑x_1:Int)+(1:I.D)<(vcLineRq6 x s))=false→0≤(0:Int)∧0<(vcLineRq6 x s)∧(((cutL (vcLineRq1 x s) 32).getD (Int.toNat 0) []==[(119:UInt8)])=true→(decide ((↑(vcLineRq4 x_1 s).length:Int)=3)=true→PutOk b (vcLineRq4 x_1 s)∧k [Dat.mk tRB (rPT b (vcLineRq4 x_1 s)),Dat.mk (I) (rPE b (vcLineRq4 x_1 s))])∧(decide ((↑(vcLineRq4 x_1 s).length:Int)=3)=false→0≤(0:Int)∧0<(vcLineRq6 x s)∧(vcLineRq2 x s x_1 b k)∧(((cutL (vcLineRq1 x s) 32).getD (Int.toNat 0) []==[(115:UInt8)])=false→k [Dat.mk tRB b,Dat.mk (I) 2])))∧(((cutL (vcLineRq1 x s) 32).getD (Int.toNat 0) []==[(119:UInt8)])=false→0≤(0:Int)∧0<(vcLineRq6 x s)∧(vcLineRq2 x s x_1 b k)∧(((cutL (vcLineRq1 x s) 32).getD (Int.toNat 0) []==[(115:UInt8)])=false→k [Dat.mk tRB b,Dat.mk (I) 2])))))))):=by kernel_rfl
open Go.Vc Go.Proofs Go.RowKit
theorem lastIdx_succ(s:List UInt8)(c:Int)(j:Nat):Lib.lastIdx ⟨s.toArray⟩ c (j+1)=if ((s.getD j 0).toNat:Int)=c then (j:Int) else Lib.lastIdx ⟨s.toArray⟩ c j:=by
 have e:(s.toArray)[j]! = s.getD j 0:=by
  rw[List.getD_eq_getElem?_getD]
  simp[getElem!_def]
  cases s[j]?<;>rfl
 show (if (((s.toArray)[j]!).toNat:Int)=c then (j:Int) else Lib.lastIdx ⟨s.toArray⟩ c j)=_
 rw[e]
theorem lastB_bound(s:List UInt8)(c:Int) : -1≤lastB s c∧lastB s c<(s.length:Int):=by
 have:=lastIdx_k ⟨s.toArray⟩ c s.length
 unfold lastB Lib.lastIndexByte
 rw[bsz];exact this
theorem cutG_ne(s:List UInt8)(c:Int):1≤(cutL s c).length:=by
 unfold cutL
 show 1≤(if cutAt s c s.length=true then cutG s c s.length++[(s.take s.length).drop (cutFm s c s.length)] else cutG s c s.length).length
 have:cutAt s c s.length=true:=by unfold cutAt;rw[decide_eq_true rfl];rfl
 rw[if_pos this,List.length_append,List.length_singleton]
 omega
open Go.Vc Go.Proofs Go.RowKit
def hdCons(b:UInt8):List (List UInt8)→List (List UInt8)
 | []=>[[b]]
 | p::q=>(b::p)::q
def splL(c:UInt8):List UInt8→List (List UInt8)
 | []=>[[]]
 | b::r=>if b=c then[]::splL c r else hdCons b (splL c r)
theorem splL_ne(c:UInt8):∀ s,∃ p q,splL c s=p::q
 | []=>⟨[],[],rfl⟩
 | b::r=>by
  obtain⟨p,q,h⟩:=splL_ne c r
  unfold splL
  split
  ·exact⟨_,_,rfl⟩
  ·rw[h];exact⟨_,_,rfl⟩
theorem splL_len(c:UInt8):∀ s,(splL c s).length=s.count c+1
 | []=>rfl
 | b::r=>by
  have ih:=splL_len c r
  obtain⟨p,q,h⟩:=splL_ne c r
  unfold splL
  split
  ·rename_i hb;rw[List.length_cons,ih,hb,List.count_cons_self]
  ·rename_i hb
   rw[h] at ih ⊢
   rw[List.count_cons_of_ne hb]
   exact ih
theorem splL_le(c:UInt8):∀ s,∀ x∈splL c s,x.length≤s.length
 | [],x,h=>by
  have:x=[]:=List.mem_singleton.1 h
  subst this;exact Nat.le_refl _
 | b::r,x,h=>by
  have ih:=splL_le c r
  obtain⟨p,q,e⟩:=splL_ne c r
  unfold splL at h
  split at h
  ·rcases List.mem_cons.1 h with h | h
   ·subst h;exact Nat.zero_le _
   ·exact Nat.le_succ_of_le (ih x h)
  ·rw[e] at h ih
   rcases List.mem_cons.1 h with h | h
   ·subst h;exact Nat.succ_le_succ (ih p (List.mem_cons_self ..))
   ·exact Nat.le_succ_of_le (ih x (List.mem_cons_of_mem _ h))
theorem splL_no(c:UInt8):∀ s,∀ x∈splL c s,c∉x
 | [],x,h=>by
  have:x=[]:=List.mem_singleton.1 h
  subst this;simp
 | b::r,x,h=>by
  have ih:=splL_no c r
  obtain⟨p,q,e⟩:=splL_ne c r
  unfold splL at h
  split at h
  ·rcases List.mem_cons.1 h with h | h
   ·subst h;simp
   ·exact ih x h
  ·rename_i hb
   rw[e] at h ih
   rcases List.mem_cons.1 h with h | h
   ·subst h
    intro hc
    rcases List.mem_cons.1 hc with hc | hc
    ·exact hb hc.symm
    ·exact ih p (List.mem_cons_self ..) hc
   ·exact ih x (List.mem_cons_of_mem _ h)
theorem splL_snoc(c b:UInt8):∀ l,(b=c→splL c (l++[b])=splL c l++[[]])∧(b≠c→∀ x p,splL c l=x++[p]→splL c (l++[b])=x++[p++[b]])
 | []=>by
  refine⟨fun h=>by simp[splL,h],fun h x p e => ?_⟩
  have e:[[]]=x++[p]:=e
  cases x with
  | nil=>injection e with e;subst e;simp[splL,h,hdCons]
  | cons y x=>injection e with _ e;cases x<;>cases e
 | a::l=>by
  obtain⟨ih1,ih2⟩:=splL_snoc c b l
  obtain⟨p0,q0,h0⟩:=splL_ne c l
  refine⟨fun h => ?_,fun h x p e => ?_⟩
  ·rw[List.cons_append]
   unfold splL
   rw[ih1 h]
   split
   ·rfl
   ·rw[h0];rfl
  ·rw[List.cons_append]
   unfold splL at e ⊢
   split
   ·rename_i ha
    rw[if_pos ha] at e
    cases x with
    | nil=>injection e with _ e;rw[h0] at e;cases e
    | cons y x =>
     injection e with e1 e2
     rw[ih2 h x p e2,← e1];rfl
   ·rename_i ha
    rw[if_neg ha] at e
    obtain⟨x',p',hx⟩:∃ x' p',splL c l=x'++[p']:=⟨(splL c l).dropLast,(splL c l).getLast (by rw[h0];simp),(List.dropLast_concat_getLast _).symm⟩
    ·rw[ih2 h x' p' hx]
     rw[hx] at e
     cases x' with
     | nil =>
      have e:[a::p']=x++[p]:=e
      cases x with
      | nil=>injection e with e;subst e;rfl
      | cons y x=>injection e with _ e;cases x<;>cases e
     | cons y x' =>
      have e:(a::y)::(x'++[p'])=x++[p]:=e
      cases x with
      | nil=>injection e with _ e;cases x'<;>cases e
      | cons z x =>
       injection e with e1 e2
       obtain⟨e3,e4⟩:=List.append_inj' e2 rfl
       injection e4 with e4
       subst e1;subst e3;subst e4;rfl
theorem cut_spl(s:List UInt8)(c:UInt8):cutL s (c.toNat:Int)=splL c s:=by
 have h:∀ i,i≤s.length→cutG s (c.toNat:Int) i++[(s.take i).drop (cutFm s (c.toNat:Int) i)]=splL c (s.take i):=by
  intro i
  induction i with
  | zero=>intro _;rfl
  | succ i ih =>
   intro hi
   have ih:=ih (by omega)
   have hfm:=cutFm_le s (c.toNat:Int) i
   have et:s.take (i+1)=s.take i++[s[i]]:=List.take_succ_eq_append_getElem (by omega)
   have eg:s.getD i 0=s[i]:=by rw[List.getD_eq_getElem?_getD,List.getElem?_eq_getElem (by omega)];rfl
   have hlen:(s.take i).length=i:=by rw[List.length_take];omega
   obtain⟨h1,h2⟩:=splL_snoc c s[i] (s.take i)
   by_cases hb:s[i]=c
   ·have hat:cutAt s (c.toNat:Int) i=true:=by unfold cutAt;rw[eg,hb,decide_eq_true rfl,Bool.or_true]
    rw[et,h1 hb,← ih]
    simp only[cutG,cutFm,hat,if_true]
    have ed:List.drop (i+1) (s.take i++[s[i]])=[]:=List.drop_of_length_le (by rw[List.length_append,hlen];simp)
    rw[ed]
   ·have hat:¬ cutAt s (c.toNat:Int) i=true:=by
     unfold cutAt
     rw[eg,decide_eq_false (by omega:¬ i=s.length),Bool.false_or,decide_eq_true_eq]
     intro h;apply hb;apply UInt8.toNat_inj.1;omega
    rw[et,h2 hb _ _ ih.symm]
    simp only[cutG,cutFm,hat]
    rw[if_neg (by decide),if_neg (by decide),List.drop_append_of_le_length (by omega)]
 have:=h s.length (Nat.le_refl _)
 rw[List.take_length] at this
 rw[← this]
 unfold cutL
 show (if cutAt s (c.toNat:Int) s.length=true then cutG s _ s.length++[(s.take s.length).drop (cutFm s _ s.length)] else cutG s _ s.length)=_
 have hat:cutAt s (c.toNat:Int) s.length=true:=by unfold cutAt;rw[decide_eq_true rfl];rfl
 rw[if_pos hat,List.take_length]
theorem idxB(c:UInt8):∀ s:List UInt8,(Lib.indexByte s c = -1∧splL c s=[s]∧s.count c=0)∨∃ i:Nat,Lib.indexByte s c=(i:Int)∧i<s.length∧splL c s=s.take i::splL c (s.drop (i+1))∧s.getD i 0=c∧s.count c=(s.drop (i+1)).count c+1
 | [] => .inl ⟨rfl,rfl,rfl⟩
 | b::r=>by
  by_cases hb:b=c
  ·subst hb
   refine .inr ⟨0,?_,by simp,?_,rfl,?_⟩
   ·simp[Lib.indexByte]
   ·simp[splL]
   ·simp
  ·have hbb:(b==c)=false:=by simpa using hb
   have hcn:(b::r).count c=r.count c:=List.count_cons_of_ne hb
   rcases idxB c r with ⟨h1,h2,h3⟩ | ⟨i,h1,h2,h3,h4,h5⟩
   ·left
    refine⟨by simp[Lib.indexByte,hbb,h1],?_,by rw[hcn,h3]⟩
    rw[show splL c (b::r)=hdCons b (splL c r) from if_neg hb,h2];rfl
   ·right
    refine⟨i+1,?_,by simp;omega,?_,by simpa using h4,by rw[hcn,h5];rfl⟩
    ·have hne:(Lib.indexByte r c == -1)=false:=by rw[h1,beq_eq_false_iff_ne];omega
     show (if (b==c)=true then (0:Int) else if (Lib.indexByte r c == -1)=true then -1 else Lib.indexByte r c+1)=_
     rw[hbb,hne,h1];rfl
    ·rw[show splL c (b::r)=hdCons b (splL c r) from if_neg hb,h3];rfl
theorem splitK_one(c:UInt8):∀ (n:Nat) (s:List UInt8),s.length≤n→Lib.splitK [c] 0 (s.count c) s=splL c s:=by
 intro n
 induction n with
 | zero =>
  intro s h
  have:s=[]:=List.eq_nil_of_length_eq_zero (by omega)
  subst this;rfl
 | succ n ih =>
  intro s h
  rcases idxB c s with ⟨h1,h2,h3⟩ | ⟨i,h1,h2,h3,_,h5⟩
  ·rw[h3,h2];rfl
  ·rw[h5,h3]
   have hm:¬ (Lib.index s [c] == -1)=true:=fun e=>by have:=beq_iff_eq.1 e;rw[Lib.index_one,h1] at this;omega
   show (if (Lib.index s [c] == -1)=true then _ else _)=_
   rw[if_neg hm,Lib.index_one,h1,Int.toNat_natCast]
   congr 1
   exact ih (s.drop (i+1)) (by rw[List.length_drop];omega)
theorem split_spl(c:UInt8)(s:ByteArray):(Lib.splitB ⟨#[c]⟩ 0 (Lib.countB s ⟨#[c]⟩) s).map (·.data.toList)=splL c s.data.toList:=by
 rw[Lib.splitB_data]
 show Lib.splitK [c] 0 (Lib.count s.data.toList [c]) s.data.toList=_
 rw[Lib.count_one]
 exact splitK_one c _ _ (Nat.le_refl _)
def linesK:Nat→List UInt8→List (List UInt8×List UInt8)
 | 0,_=>[]
 | k+1,s=>if s=[] then[] else if Lib.indexByte s 10<0 then[(s,[])] else (s.take ((Lib.indexByte s 10).toNat+1),s.drop ((Lib.indexByte s 10).toNat+1))::linesK k (s.drop ((Lib.indexByte s 10).toNat+1))
def linesF(s:List UInt8):List (List UInt8×List UInt8):=linesK s.length s
theorem linesK_eq:∀ (k j:Nat) (s:List UInt8),s.length≤k→s.length≤j→linesK k s=linesK j s
 | 0,0,s,_,_=>rfl
 | 0,j+1,s,h,_=>by
  have:s=[]:=List.eq_nil_of_length_eq_zero (by omega)
  subst this;rfl
 | k+1,0,s,_,h=>by
  have:s=[]:=List.eq_nil_of_length_eq_zero (by omega)
  subst this;rfl
 | k+1,j+1,s,h1,h2=>by
  unfold linesK
  split
  ·rfl
  ·rename_i hs
   have hp:0<s.length:=List.length_pos_iff.2 hs
   split
   ·rfl
   ·rw[linesK_eq k j _ (by rw[List.length_drop];omega) (by rw[List.length_drop];omega)]
theorem linesF_nil:linesF []=[]:=rfl
theorem linesF_last{s:List UInt8}(hs:s≠[])(h:Lib.indexByte s 10<0):linesF s=[(s,[])]:=by
 cases s with
 | nil=>exact absurd rfl hs
 | cons b r =>
  show linesK (r.length+1) (b::r)=_
  unfold linesK
  rw[if_neg hs,if_pos h]
theorem linesF_line{s:List UInt8}{i:Nat}(h:Lib.indexByte s 10=(i:Int)):linesF s=(s.take (i+1),s.drop (i+1))::linesF (s.drop (i+1)):=by
 cases s with
 | nil=>have h:(-1:Int)=i:=h;omega
 | cons b r =>
  show linesK (r.length+1) (b::r)=_
  unfold linesK
  rw[if_neg (by simp),if_neg (by omega),h,Int.toNat_natCast]
  congr 1
  exact linesK_eq _ _ _ (by rw[List.length_drop,List.length_cons];omega) (Nat.le_refl _)
theorem idx10(s:List UInt8):(Lib.indexByte s 10<0∧splL 10 s=[s])∨∃ i:Nat,Lib.indexByte s 10=(i:Int)∧i<s.length∧splL 10 s=s.take i::splL 10 (s.drop (i+1))∧s.getD i 0=10:=by
 rcases idxB 10 s with ⟨h1,h2,_⟩ | ⟨i,h1,h2,h3,h4,_⟩
 ·exact .inl ⟨by omega,h2⟩
 ·exact .inr ⟨i,h1,h2,h3,h4⟩
theorem lines_spl(s:List UInt8):∃ x p,splL 10 s=x++[p]∧(linesF s).map (·.1)=x.map (· ++ [10])++(if p=[] then[] else[p]):=by
 obtain⟨n,hn⟩:∃ n,s.length≤n:=⟨_,Nat.le_refl _⟩
 induction n generalizing s with
 | zero =>
  have:s=[]:=List.eq_nil_of_length_eq_zero (by omega)
  subst this
  exact⟨[],[],rfl,rfl⟩
 | succ n ih =>
  rcases idx10 s with ⟨h1,h2⟩ | ⟨i,h1,h2,h3,h4⟩
  ·refine⟨[],s,h2,?_⟩
   by_cases hs:s=[]
   ·subst hs;rfl
   ·rw[linesF_last hs h1,if_neg hs];rfl
  ·obtain⟨x,p,e1,e2⟩:=ih (s.drop (i+1)) (by rw[List.length_drop];omega)
   refine⟨s.take i::x,p,by rw[h3,e1];rfl,?_⟩
   rw[linesF_line h1,List.map_cons,e2,List.map_cons,List.cons_append]
   congr 1
   have eg:s.getD i 0=s[i]:=by rw[List.getD_eq_getElem?_getD,List.getElem?_eq_getElem h2];rfl
   rw[List.take_succ_eq_append_getElem h2,← eg,h4]
theorem lines_le:∀ (n:Nat) (s:List UInt8),s.length≤n→∀ p∈linesF s,p.1.length≤s.length∧p.2.length≤s.length
 | 0,s,h,p,hp=>by
  have:s=[]:=List.eq_nil_of_length_eq_zero (by omega)
  subst this;cases hp
 | n+1,s,h,p,hp=>by
  rcases idx10 s with ⟨h1,_⟩ | ⟨i,h1,h2,_,_⟩
  ·by_cases hs:s=[]
   ·subst hs;cases hp
   ·rw[linesF_last hs h1] at hp
    rw[List.mem_singleton] at hp
    subst hp;exact⟨Nat.le_refl _,Nat.zero_le _⟩
  ·rw[linesF_line h1] at hp
   rcases List.mem_cons.1 hp with hp | hp
   ·subst hp
    simp only[List.length_take,List.length_drop]
    omega
   ·have:=lines_le n (s.drop (i+1)) (by rw[List.length_drop];omega) p hp
    simp only[List.length_drop] at this
    omega
open Go.Vc Go.Proofs Go.RowKit
theorem wr64_mod(n:Int):wr64 n=(n+9223372036854775808)%18446744073709551616 - 9223372036854775808:=rfl
theorem dgt{m:Nat}(h:m<10):(UInt8.ofNat (48+m)).toNat=48+m:=by
 rw[UInt8.toNat_ofNat'];omega
theorem numW_append(l r:List UInt8):∀ i,i≤l.length→numW (l++r) i=numW l i
 | 0,_=>rfl
 | i+1,h=>by
  have e:(l++r).getD i 0=l.getD i 0:=by
   rw[List.getD_eq_getElem?_getD,List.getD_eq_getElem?_getD,List.getElem?_append_left (by omega)]
  simp only[numW,numW_append l r i (by omega),e]
theorem dec_rec(m:Nat)(h:¬ m<10):Lib.decDigits m=Lib.decDigits (m/10)++[UInt8.ofNat (48+m%10)]:=by
 rw[Lib.decDigits,dif_neg h]
theorem numW_dec(m:Nat)(hm:m<9223372036854775808):numW (Lib.decDigits m) (Lib.decDigits m).length=(m:Int):=by
 induction m using Nat.strongRecOn with
 | _ m ih =>
  by_cases h:m<10
  ·rw[Lib.decDigits_one h]
   simp only[List.length_singleton,numW,List.getD_cons_zero,dgt h,wr64_mod]
   omega
  ·rw[dec_rec m h,List.length_append,List.length_singleton]
   have ih:=ih (m/10) (by omega) (by omega)
   have e:(Lib.decDigits (m/10)++[UInt8.ofNat (48+m%10)]).getD (Lib.decDigits (m/10)).length 0=UInt8.ofNat (48+m%10):=by
    rw[List.getD_eq_getElem?_getD,List.getElem?_append_right (Nat.le_refl _)];simp
   simp only[numW,numW_append _ _ _ (Nat.le_refl _),ih,e,dgt (Nat.mod_lt m (by decide)),wr64_mod]
   omega
theorem dec_all(m:Nat):(Lib.decDigits m).all isDg=true:=by
 induction m using Nat.strongRecOn with
 | _ m ih =>
  have one:∀ d,d<10→isDg (UInt8.ofNat (48+d))=true:=fun d hd=>by
   unfold isDg;rw[dgt hd,decide_eq_true (by omega),decide_eq_true (by omega)];rfl
  by_cases h:m<10
  ·rw[Lib.decDigits_one h,List.all_cons,one m h];rfl
  ·rw[dec_rec m h,List.all_append,ih (m/10) (by omega),List.all_cons,one _ (Nat.mod_lt m (by decide))];rfl
theorem dec_ne(m:Nat):1≤(Lib.decDigits m).length:=by
 rw[Lib.decDigits_length]
 by_cases h:m<10
 ·rw[Lib.nDigits_small h];exact Nat.le_refl _
 ·rw[Lib.nDigits_big h];omega
theorem numB_dec{m:Nat}(hm:m<9223372036854775808):numB (Lib.decDigits m)=true∧numN (Lib.decDigits m)=(m:Int):=by
 have ho:numOk (Lib.decDigits m)=true:=by
  unfold numOk
  have h1:(Lib.decDigits m).length≤19:=by
   rw[Lib.decDigits_length];exact nDig_le 18 m (by omega)
  rw[decide_eq_true (dec_ne m),decide_eq_true h1,dec_all];rfl
 have hn:numN (Lib.decDigits m)=(m:Int):=by unfold numN;rw[if_pos ho,numW_dec m hm]
 refine⟨?_,hn⟩
 unfold numB
 rw[ho,hn,decide_eq_true (by omega),Int.toNat_natCast];simp
theorem numW_lt(s:List UInt8):∀ i,numW s i<9223372036854775808
 | 0=>by show (0:Int)<_;decide
 | i+1=>by simp only[numW,wr64_mod];omega
theorem numB_iff(s:List UInt8):numB s=true↔∃ m:Nat,m<9223372036854775808∧s=Lib.decDigits m:=by
 refine⟨fun h => ?_,fun⟨m,hm,e⟩=>by rw[e];exact (numB_dec hm).1⟩
 unfold numB at h
 simp only[Bool.and_eq_true,decide_eq_true_eq,beq_iff_eq] at h
 refine⟨(numN s).toNat,?_,h.2.symm⟩
 have h1:numN s<9223372036854775808:=by
  unfold numN
  split
  ·exact numW_lt s _
  ·decide
 omega
theorem pu_append(l r:List UInt8):∀ acc,Lib.parseUint10 acc (l++r)=(match Lib.parseUint10 acc l with | .ok v=>Lib.parseUint10 v r | .syntax => .syntax | .range => .range):=by
 induction l with
 | nil=>intro acc;rfl
 | cons c l ih =>
  intro acc
  rw[List.cons_append]
  simp only[Lib.parseUint10]
  split
  ·split
   ·rfl
   ·split
    ·rfl
    ·exact ih _
  ·rfl
theorem pu_dec(m:Nat)(hm:m<9223372036854775808):Lib.parseUint10 0 (Lib.decDigits m) = .ok m:=by
 induction m using Nat.strongRecOn with
 | _ m ih =>
  by_cases h:m<10
  ·rw[Lib.decDigits_one h]
   simp only[Lib.parseUint10,dgt h]
   rw[if_pos (by omega),if_neg (by omega),if_neg (by omega)]
   congr 1;omega
  ·rw[dec_rec m h,pu_append,ih (m/10) (by omega) (by omega)]
   simp only[Lib.parseUint10,dgt (Nat.mod_lt m (show 0<10 by decide))]
   rw[if_pos (by omega),if_neg (by omega),if_neg (by omega)]
   congr 1;omega
theorem atoi_dec(m:Nat)(hm:m<9223372036854775808):Lib.atoiAll (Lib.decDigits m) = .ok (m:Int):=by
 have hne:=dec_ne m
 have hp:=pu_dec m hm
 have hall:=dec_all m
 generalize Lib.decDigits m=l at *
 cases l with
 | nil=>simp at hne
 | cons c r =>
  rw[List.all_cons,Bool.and_eq_true] at hall
  have hc:=hall.1
  unfold isDg at hc
  simp only[Bool.and_eq_true,decide_eq_true_eq] at hc
  rw[Lib.atoiAll_plain c r (by omega) (by omega)]
  unfold Lib.parseMag
  rw[if_neg (by simp),hp]
  show (if 9223372036854775808≤m then _ else _)=_
  rw[if_neg (by omega)]
def atN(s:List UInt8):Int :=
 match Lib.atoiAll s with
 | .ok v=>v
 | .syntax=>0
 | .range=>Lib.atoiSat s
def atB(s:List UInt8):Bool :=
 match Lib.atoiAll s with
 | .ok _=>true
 | _=>false
theorem num_at(s:List UInt8):numB s=(atB s&&decide (0≤atN s)&&(Lib.itoa (atN s)==s)):=by
 rw[Bool.eq_iff_iff,numB_iff]
 simp only[Bool.and_eq_true,decide_eq_true_eq,beq_iff_eq]
 constructor
 ·rintro⟨m,hm,rfl⟩
  have h:=atoi_dec m hm
  have e:atN (Lib.decDigits m)=(m:Int):=by unfold atN;rw[h]
  refine⟨⟨by unfold atB;rw[h],by rw[e];omega⟩,by rw[e,Lib.itoa_nonneg]⟩
 ·rintro⟨⟨h1,h2⟩,h3⟩
  match h:Lib.atoiAll s with
  | .ok v =>
   have e:atN s=v:=by unfold atN;rw[h]
   rw[e] at h2 h3
   have hb:=Lib.atoiAll_bounds h
   refine⟨v.toNat,by omega,?_⟩
   have:v=((v.toNat:Nat):Int):=by omega
   rw[this,Lib.itoa_nonneg] at h3
   exact h3.symm
  | .syntax=>unfold atB at h1;rw[h] at h1;cases h1
  | .range=>unfold atB at h1;rw[h] at h1;cases h1
theorem at_num{s:List UInt8}(h:numB s=true):atN s=numN s:=by
 obtain⟨m,hm,rfl⟩:=(numB_iff s).1 h
 rw[(numB_dec hm).2]
 unfold atN;rw[atoi_dec m hm]
open Go.Shelf Go.Proofs Go.RowKit
def laidSplit_ren:Go.Shelf.Ren:=⟨fun | 146=>63 | 221=>84 | 268=>110 | 138=>111 | 143=>112 | 195=>129 | 197=>130 | 218=>131 | 219=>132 | 260=>143 | 217=>80 | 225=>144 | 224=>145 | 267=>146 | 266=>107 | 314=>153 | n=>n,fun | 9=>9 | 31=>78 | 3=>3 | 4=>4 | 0=>0 | 105=>192 | 21=>21 | 5=>5 | 46=>128 | 119=>213 | 139=>216 | 138=>215 | 146=>217 | 51=>157 | n=>n,fun | 1=>1 | 3=>5 | 4=>6 | n=>n⟩
theorem laidSplit:Go.Proofs.LaysM.n146 Tryz.prog laidSplit_ren where
 mixed:=by kernel_rfl
 f138:=Tryz.func111.trans (congrArg some (by kernel_rfl))
 f143:=Tryz.func112.trans (congrArg some (by kernel_rfl))
 f146:=Tryz.func63.trans (congrArg some (by kernel_rfl))
 f195:=Tryz.func129.trans (congrArg some (by kernel_rfl))
 f197:=Tryz.func130.trans (congrArg some (by kernel_rfl))
 f217:=Tryz.func80.trans (congrArg some (by kernel_rfl))
 f218:=Tryz.func131.trans (congrArg some (by kernel_rfl))
 f219:=Tryz.func132.trans (congrArg some (by kernel_rfl))
 f221:=Tryz.func84.trans (congrArg some (by kernel_rfl))
 f224:=Tryz.func145.trans (congrArg some (by kernel_rfl))
 f225:=Tryz.func144.trans (congrArg some (by kernel_rfl))
 f260:=Tryz.func143.trans (congrArg some (by kernel_rfl))
 f266:=Tryz.func107.trans (congrArg some (by kernel_rfl))
 f267:=Tryz.func146.trans (congrArg some (by kernel_rfl))
 f268:=Tryz.func110.trans (congrArg some (by kernel_rfl))
 f314:=Tryz.func153.trans (congrArg some (by kernel_rfl))
 t0:=Tryz.underlying0
 a0:=Tryz.isAgg0
 z0:=Tryz.sizeOf0
 v0:=Tryz.zeroValue0
 t3:=Tryz.underlying3
 a3:=Tryz.isAgg3
 z3:=Tryz.sizeOf3
 v3:=Tryz.zeroValue3
 t4:=Tryz.underlying4
 a4:=Tryz.isAgg4
 z4:=Tryz.sizeOf4
 v4:=Tryz.zeroValue4
 t5:=Tryz.underlying5
 a5:=Tryz.isAgg5
 z5:=Tryz.sizeOf5
 v5:=Tryz.zeroValue5
 t9:=Tryz.underlying9
 a9:=Tryz.isAgg9
 z9:=Tryz.sizeOf9
 v9:=Tryz.zeroValue9
 t21:=Tryz.underlying21
 a21:=Tryz.isAgg21
 z21:=Tryz.sizeOf21
 v21:=Tryz.zeroValue21
 t31:=Tryz.underlying78
 a31:=Tryz.isAgg78
 z31:=Tryz.sizeOf78
 v31:=Tryz.zeroValue78
 t46:=Tryz.underlying128
 a46:=Tryz.isAgg128
 z46:=Tryz.sizeOf128
 v46:=Tryz.zeroValue128
 t51:=Tryz.underlying157
 a51:=Tryz.isAgg157
 z51:=Tryz.sizeOf157
 v51:=Tryz.zeroValue157
 t105:=Tryz.underlying192
 a105:=Tryz.isAgg192
 z105:=Tryz.sizeOf192
 v105:=Tryz.zeroValue192
 t119:=Tryz.underlying213
 a119:=Tryz.isAgg213
 z119:=Tryz.sizeOf213
 t138:=Tryz.underlying215
 a138:=Tryz.isAgg215
 z138:=Tryz.sizeOf215
 v138:=Tryz.zeroValue215
 t139:=Tryz.underlying216
 a139:=Tryz.isAgg216
 z139:=Tryz.sizeOf216
 v139:=Tryz.zeroValue216
 t146:=Tryz.underlying217
 a146:=Tryz.isAgg217
 z146:=Tryz.sizeOf217
 v146:=Tryz.zeroValue217
 g1:=by kernel_rfl
 g3:=by kernel_rfl
 g4:=by kernel_rfl
 i0:=by kernel_rfl
 i3:=by kernel_rfl
 i4:=by kernel_rfl
 i5:=by kernel_rfl
 i9:=by kernel_rfl
 i21:=by kernel_rfl
 i31:=by kernel_rfl
 i46:=by kernel_rfl
 i51:=by kernel_rfl
 i105:=by kernel_rfl
 i138:=by kernel_rfl
 i139:=by kernel_rfl
 i146:=by kernel_rfl
 m1:=by kernel_rfl
 s1_3:=fun w h=>Go.Proofs.cell_of_shapedOpen_int (zero:=#[.int .i64 0]) (t:=3) h (of_decide_eq_true (by kernel_rfl)) (by kernel_rfl) rfl (by kernel_rfl) (by kernel_rfl) Tryz.underlying3
 m3:=by kernel_rfl
 m4:=by kernel_rfl
def laidAtoi_ren:Go.Shelf.Ren:=⟨fun | 172=>83 | 244=>108 | 245=>109 | 247=>124 | 279=>125 | 280=>126 | 281=>127 | 282=>128 | 287=>140 | 316=>141 | 171=>64 | 205=>142 | 321=>151 | 322=>152 | 243=>85 | 246=>113 | 283=>133 | 284=>134 | 285=>135 | 286=>136 | 129=>106 | 317=>147 | 318=>148 | 319=>149 | 320=>150 | 337=>154 | 338=>155 | n=>n,fun | 9=>9 | 3=>3 | 75=>29 | 76=>88 | 4=>4 | 5=>5 | 167=>186 | 37=>38 | 0=>0 | 85=>187 | 2=>2 | 168=>189 | 53=>159 | 175=>201 | 46=>128 | 210=>204 | 127=>106 | 145=>212 | 143=>210 | 21=>21 | 171=>194 | 173=>196 | 212=>207 | 51=>157 | 20=>20 | 213=>208 | 232=>219 | 233=>220 | 80=>27 | n=>n,fun | 15=>2 | 16=>3 | 17=>4 | 18=>7 | 19=>8 | n=>n⟩
theorem laidAtoi:Go.Proofs.LaysC.n172 Tryz.prog laidAtoi_ren where
 mixed:=by kernel_rfl
 f129:=Tryz.func106.trans (congrArg some (by kernel_rfl))
 f171:=Tryz.func64.trans (congrArg some (by kernel_rfl))
 f172:=Tryz.func83.trans (congrArg some (by kernel_rfl))
 f205:=Tryz.func142.trans (congrArg some (by kernel_rfl))
 f243:=Tryz.func85.trans (congrArg some (by kernel_rfl))
 f244:=Tryz.func108.trans (congrArg some (by kernel_rfl))
 f245:=Tryz.func109.trans (congrArg some (by kernel_rfl))
 f246:=Tryz.func113.trans (congrArg some (by kernel_rfl))
 f247:=Tryz.func124.trans (congrArg some (by kernel_rfl))
 f279:=Tryz.func125.trans (congrArg some (by kernel_rfl))
 f280:=Tryz.func126.trans (congrArg some (by kernel_rfl))
 f281:=Tryz.func127.trans (congrArg some (by kernel_rfl))
 f282:=Tryz.func128.trans (congrArg some (by kernel_rfl))
 f283:=Tryz.func133.trans (congrArg some (by kernel_rfl))
 f284:=Tryz.func134.trans (congrArg some (by kernel_rfl))
 f285:=Tryz.func135.trans (congrArg some (by kernel_rfl))
 f286:=Tryz.func136.trans (congrArg some (by kernel_rfl))
 f287:=Tryz.func140.trans (congrArg some (by kernel_rfl))
 f316:=Tryz.func141.trans (congrArg some (by kernel_rfl))
 f317:=Tryz.func147.trans (congrArg some (by kernel_rfl))
 f318:=Tryz.func148.trans (congrArg some (by kernel_rfl))
 f319:=Tryz.func149.trans (congrArg some (by kernel_rfl))
 f320:=Tryz.func150.trans (congrArg some (by kernel_rfl))
 f321:=Tryz.func151.trans (congrArg some (by kernel_rfl))
 f322:=Tryz.func152.trans (congrArg some (by kernel_rfl))
 f337:=Tryz.func154.trans (congrArg some (by kernel_rfl))
 f338:=Tryz.func155.trans (congrArg some (by kernel_rfl))
 t0:=Tryz.underlying0
 a0:=Tryz.isAgg0
 z0:=Tryz.sizeOf0
 v0:=Tryz.zeroValue0
 t2:=Tryz.underlying2
 a2:=Tryz.isAgg2
 z2:=Tryz.sizeOf2
 v2:=Tryz.zeroValue2
 t3:=Tryz.underlying3
 a3:=Tryz.isAgg3
 z3:=Tryz.sizeOf3
 v3:=Tryz.zeroValue3
 t4:=Tryz.underlying4
 a4:=Tryz.isAgg4
 z4:=Tryz.sizeOf4
 v4:=Tryz.zeroValue4
 t5:=Tryz.underlying5
 a5:=Tryz.isAgg5
 z5:=Tryz.sizeOf5
 v5:=Tryz.zeroValue5
 t9:=Tryz.underlying9
 a9:=Tryz.isAgg9
 z9:=Tryz.sizeOf9
 v9:=Tryz.zeroValue9
 t20:=Tryz.underlying20
 a20:=Tryz.isAgg20
 z20:=Tryz.sizeOf20
 v20:=Tryz.zeroValue20
 t21:=Tryz.underlying21
 a21:=Tryz.isAgg21
 z21:=Tryz.sizeOf21
 v21:=Tryz.zeroValue21
 t37:=Tryz.underlying38
 a37:=Tryz.isAgg38
 z37:=Tryz.sizeOf38
 v37:=Tryz.zeroValue38
 t46:=Tryz.underlying128
 a46:=Tryz.isAgg128
 z46:=Tryz.sizeOf128
 v46:=Tryz.zeroValue128
 t51:=Tryz.underlying157
 a51:=Tryz.isAgg157
 z51:=Tryz.sizeOf157
 v51:=Tryz.zeroValue157
 t53:=Tryz.underlying159
 a53:=Tryz.isAgg159
 z53:=Tryz.sizeOf159
 v53:=Tryz.zeroValue159
 t75:=Tryz.underlying29
 a75:=Tryz.isAgg29
 z75:=Tryz.sizeOf29
 v75:=Tryz.zeroValue29
 t76:=Tryz.underlying88
 a76:=Tryz.isAgg88
 z76:=Tryz.sizeOf88
 v76:=Tryz.zeroValue88
 t85:=Tryz.underlying187
 a85:=Tryz.isAgg187
 z85:=Tryz.sizeOf187
 v85:=Tryz.zeroValue187
 t127:=Tryz.underlying106
 a127:=Tryz.isAgg106
 z127:=Tryz.sizeOf106
 v127:=Tryz.zeroValue106
 t143:=Tryz.underlying210
 a143:=Tryz.isAgg210
 z143:=Tryz.sizeOf210
 v143:=Tryz.zeroValue210
 t145:=Tryz.underlying212
 a145:=Tryz.isAgg212
 z145:=Tryz.sizeOf212
 v145:=Tryz.zeroValue212
 t167:=Tryz.underlying186
 a167:=Tryz.isAgg186
 z167:=Tryz.sizeOf186
 v167:=Tryz.zeroValue186
 t168:=Tryz.underlying189
 a168:=Tryz.isAgg189
 z168:=Tryz.sizeOf189
 v168:=Tryz.zeroValue189
 t171:=Tryz.underlying194
 a171:=Tryz.isAgg194
 z171:=Tryz.sizeOf194
 v171:=Tryz.zeroValue194
 t173:=Tryz.underlying196
 a173:=Tryz.isAgg196
 z173:=Tryz.sizeOf196
 v173:=Tryz.zeroValue196
 t175:=Tryz.underlying201
 a175:=Tryz.isAgg201
 z175:=Tryz.sizeOf201
 v175:=Tryz.zeroValue201
 t210:=Tryz.underlying204
 a210:=Tryz.isAgg204
 z210:=Tryz.sizeOf204
 v210:=Tryz.zeroValue204
 t212:=Tryz.underlying207
 a212:=Tryz.isAgg207
 z212:=Tryz.sizeOf207
 v212:=Tryz.zeroValue207
 t213:=Tryz.underlying208
 a213:=Tryz.isAgg208
 z213:=Tryz.sizeOf208
 t232:=Tryz.underlying219
 a232:=Tryz.isAgg219
 z232:=Tryz.sizeOf219
 v232:=Tryz.zeroValue219
 t233:=Tryz.underlying220
 a233:=Tryz.isAgg220
 z233:=Tryz.sizeOf220
 v233:=Tryz.zeroValue220
 g15:=by kernel_rfl
 g16:=by kernel_rfl
 g17:=by kernel_rfl
 g18:=by kernel_rfl
 g19:=by kernel_rfl
 t80:=Tryz.underlying27
 a80:=Tryz.isAgg27
 z80:=Tryz.sizeOf27
 v80:=Tryz.zeroValue27
 i0:=by kernel_rfl
 i2:=by kernel_rfl
 i3:=by kernel_rfl
 i4:=by kernel_rfl
 i5:=by kernel_rfl
 i9:=by kernel_rfl
 i20:=by kernel_rfl
 i21:=by kernel_rfl
 i37:=by kernel_rfl
 i46:=by kernel_rfl
 i51:=by kernel_rfl
 i53:=by kernel_rfl
 i75:=by kernel_rfl
 i76:=by kernel_rfl
 i80:=by kernel_rfl
 i85:=by kernel_rfl
 i127:=by kernel_rfl
 i143:=by kernel_rfl
 i145:=by kernel_rfl
 i167:=by kernel_rfl
 i168:=by kernel_rfl
 i171:=by kernel_rfl
 i173:=by kernel_rfl
 i175:=by kernel_rfl
 i210:=by kernel_rfl
 i212:=by kernel_rfl
 i232:=by kernel_rfl
 i233:=by kernel_rfl
 m15:=by kernel_rfl
 m16:=by kernel_rfl
 m17:=by kernel_rfl
 m18:=by kernel_rfl
 m19:=by kernel_rfl
 c0:=by kernel_rfl
 c2:=by kernel_rfl
 c3:=by kernel_rfl
 c4:=by kernel_rfl
 c5:=by kernel_rfl
 c9:=by kernel_rfl
 c20:=by kernel_rfl
 c21:=by kernel_rfl
 c37:=by kernel_rfl
 c46:=by kernel_rfl
 c51:=by kernel_rfl
 c53:=by kernel_rfl
 c75:=by kernel_rfl
 c76:=by kernel_rfl
 c80:=by kernel_rfl
 c85:=by kernel_rfl
 c127:=by kernel_rfl
 c143:=by kernel_rfl
 c145:=by kernel_rfl
 c167:=by kernel_rfl
 c168:=by kernel_rfl
 c171:=by kernel_rfl
 c173:=by kernel_rfl
 c175:=by kernel_rfl
 c210:=by kernel_rfl
 c212:=by kernel_rfl
 c213:=by kernel_rfl
 c232:=by kernel_rfl
 c233:=by kernel_rfl
open Go.Vc Go.Proofs Go.RowKit
structure GV where
 m:Int
 t1:TypeId
 p1:Value
 t2:TypeId
 p2:Value
abbrev glM(v:GV):List (Nat×Dat):=[(1,⟨.raw,Value.int .i64 v.m⟩),(2,⟨.raw,Value.iface v.t1 v.p1⟩),(3,⟨.raw,Value.iface v.t2 v.p2⟩)]
structure SplitOk(s p:List UInt8):Prop where
 le:s.length≤1100000
 sep:p=[32]
def cSplit:Ctr:=cdet [.str,.str] (fun s p=>SplitOk s p) (fun s _=>[⟨.sl .str,cutL s 32⟩])
theorem gl_cell{v:GV}{w:World}{ro:Nat→Prop}(h:GlOk (glM v) w ro){g:Nat}{t:Ty}{x:t.D}{u:Value}(hm:(g,(⟨t,x⟩:Dat))∈glM v)(hu:∀ us,t.ok w ro x us→us=[u]):w.cell? ⟨g,0,none⟩=some u:=by
 obtain⟨_,us,h1,h2⟩:=h g _ hm
 have:=hu us h2
 subst this
 exact h1 0 u rfl
theorem okSplit(v:GV):PlainOk Tryz.prog (glM v) 63 cSplit:=by
 intro ds k ⟨hp,hk⟩ w ro vals hlt hgl hD
 obtain⟨s,p,rfl,hs⟩:=dest2 hp
 have hk:k [⟨.sl .str,cutL s 32⟩]:=hk
 have hl:vals.length=2:=hD.1
 match vals,hl with
 | [v1,v2],_ =>
  obtain⟨e1,h1⟩:=str1 (w:=w) (ro:=ro) (x:=s) (v:=v1) (hD.2 0 ⟨.str,s⟩ v1 rfl rfl)
  obtain⟨e2,h2⟩:=str1 (w:=w) (ro:=ro) (x:=p) (v:=v2) (hD.2 1 ⟨.str,p⟩ v2 rfl rfl)
  subst e1;subst e2
  have hle:=hs.le
  have hsep:=hs.sep
  subst hsep
  have hm:w.cell? ⟨1,0,none⟩=some (.int .i64 v.m):=gl_cell hgl (t := .raw) (x:=Value.int .i64 v.m) (.head _) fun us h=>h.1
  have hsp:=split_spl 32 ⟨s.toArray⟩
  have hcut:cutL s 32=splL 32 s:=cut_spl s 32
  have hlen:=Lib.splitB_all (⟨#[32]⟩:ByteArray) (by decide) 0 _ ⟨s.toArray⟩ rfl
  refine (Any.strings_Split { laidSplit with } laidSplit.i9 ⟨s.toArray⟩ ⟨#[32]⟩ v.m w (by rw[bsz];omega) hm (by decide)).mono ?_
  rintro e w' ⟨rfl,rfl⟩
  refine⟨⟨rfl,rfl,rfl,by simp,fun b hb _=>Ext.alloc w _ b hb,fun e=>Nat.le_refl _⟩,_,_,rfl,hk,?_⟩
  have hcl:(cutL s 32).length=Lib.countB ⟨s.toArray⟩ ⟨#[32]⟩+1:=by rw[hcut,← hsp,List.length_map,hlen]
  have hmx:(cutL s 32).length≤1200000:=Nat.le_trans (cutG_len s 32 (s.length+1)) (by omega)
  refine⟨some ⟨w.heap.size,0,none⟩,Lib.countB ⟨s.toArray⟩ ⟨#[32]⟩+1,by rw[hcl],by rw[hcl];exact Nat.le_refl _,by rw[← hcl];exact Nat.le_trans hmx (by decide),fun _ => ?_⟩
  refine⟨_,(cutL s 32).map fun x=>[strV x],rfl,rfl,.inr ⟨Nat.le_refl _,by simp⟩,⟨List.length_map _,fun i x u hx hu => ?_⟩,fun j u hj => ?_⟩
  ·rw[List.getElem?_map,hx] at hu
   injection hu with hu;subst hu
   refine⟨rfl,rfl,?_⟩
   have hx':x∈splL 32 s:=by rw[← hcut];exact List.mem_of_getElem? hx
   have:=splL_le 32 s x hx'
   exact Nat.le_trans this (Nat.le_trans hle (by decide))
  ·have hf:((cutL s 32).map fun x=>[strV x]).flatten=(Lib.splitB ⟨#[32]⟩ 0 (Lib.countB ⟨s.toArray⟩ ⟨#[32]⟩) ⟨s.toArray⟩).map Value.string:=by
    have h0:∀ l:List (List UInt8),(l.map fun x=>[strV x]).flatten=l.map strV:=by
     intro l
     induction l with
     | nil=>rfl
     | cons a r ih=>rw[List.map_cons,List.flatten_cons,ih];rfl
    rw[h0,hcut,← hsp,List.map_map]
    apply List.map_congr_left
    intro x _
    rfl
   rw[hf] at hj
   have:(Addr.add ⟨w.heap.size,0,none⟩ j)=⟨w.heap.size,j,none⟩:=by rw[addr_add,Nat.zero_add]
   rw[this]
   unfold World.cell?
   rw[World.alloc_heap_new]
   simpa using hj
def cAtoi:Ctr:=cgen [.str] (fun s k=>s.length≤1100000∧(atB s=true→k [⟨I,atN s⟩,⟨.raw,Value.nilIface⟩])∧∀ N:Nat,atB s=false→k [⟨I,atN s⟩,⟨.raw,Value.iface 189 (.pointer (some ⟨N,0,none⟩))⟩])
theorem fr_below{w w':World}(h:Below w.heap.size w w'):Fr (fun _=>False) w w':=⟨h.os,h.tape,h.output,h.size,fun b hb _=>h.block b hb,fun e=>by cases e⟩
theorem okAtoi(v:GV):PlainOk Tryz.prog (glM v) 83 cAtoi:=by
 intro ds k hp w ro vals hlt hgl hD
 obtain⟨s,rfl,hle,hk1,hk2⟩:=gdest1 hp
 have hl:vals.length=1:=hD.1
 match vals,hl with
 | [v1],_ =>
  obtain⟨e1,h1⟩:=str1 (w:=w) (ro:=ro) (x:=s) (v:=v1) (hD.2 0 ⟨.str,s⟩ v1 rfl rfl)
  subst e1
  have hE1:w.cell? ⟨2,0,none⟩=some (.iface v.t1 v.p1):=gl_cell hgl (t := .raw) (x:=Value.iface v.t1 v.p1) (.tail _ (.head _)) fun us h=>h.1
  have hE2:w.cell? ⟨3,0,none⟩=some (.iface v.t2 v.p2):=gl_cell hgl (t := .raw) (x:=Value.iface v.t2 v.p2) (.tail _ (.tail _ (.head _))) fun us h=>h.1
  have ret:∀ (w':World) (ro':Nat→Prop) (n:Int) (u:Value),inK .i64 n→u.oneCell'=true→RetOk w' ro' [⟨I,n⟩,⟨.raw,u⟩] (.tuple #[.int .i64 n,u]):=by
   intro w' ro' n u hn hu
   refine⟨_,rfl,rfl,fun j d v hd hv => ?_⟩
   match j with
   | 0=>simp at hd hv;subst hd;subst hv;exact⟨rfl,hn⟩
   | 1=>simp at hd hv;subst hd;subst hv;exact⟨rfl,hu⟩
   | j+2=>simp at hd
  match h:Lib.atoiAll s with
  | .ok n =>
   have hb:=Lib.atoiAll_bounds h
   have en:atN s=n:=by unfold atN;rw[h]
   have eb:atB s=true:=by unfold atB;rw[h]
   have hk:=hk1 eb
   rw[en] at hk
   refine (Any.strconv_Atoi_ok laidAtoi ⟨s.toArray⟩ (by rw[bsz];omega) n h w).mono ?_
   rintro e w' ⟨rfl,hw⟩
   have hbl:Below w.heap.size w w':=by
    rcases hw with rfl | ⟨t,rfl⟩
    ·exact Below.refl _ _
    ·exact Lib.bytesWorld_below _ _ _
   exact⟨fr_below hbl,_,_,rfl,hk,ret _ _ n _ (inK_i64.2 hb) rfl⟩
  | .syntax =>
   have en:atN s=0:=by unfold atN;rw[h]
   have eb:atB s=false:=by unfold atB;rw[h]
   refine (Any.strconv_Atoi_syntax laidAtoi ⟨s.toArray⟩ (by rw[bsz];omega) h (.iface v.t1 v.p1) w hE1 (.inr ⟨_,_,rfl⟩)).mono ?_
   rintro e w' ⟨N,rfl,_,_,hbl⟩
   have hk:=hk2 N eb
   rw[en] at hk
   exact⟨fr_below hbl,_,_,rfl,hk,ret _ _ 0 _ (inK_i64.2 (by decide)) rfl⟩
  | .range =>
   have en:atN s=Lib.atoiSat s:=by unfold atN;rw[h]
   have eb:atB s=false:=by unfold atB;rw[h]
   refine (Any.strconv_Atoi_range laidAtoi ⟨s.toArray⟩ (by rw[bsz];omega) h (.iface v.t2 v.p2) w hE2 (.inr ⟨_,_,rfl⟩)).mono ?_
   rintro e w' ⟨N,rfl,_,_,hbl⟩
   have hk:=hk2 N eb
   rw[en] at hk
   exact⟨fr_below hbl,_,_,rfl,hk,ret _ _ _ _ (inK_i64.2 (Lib.atoiSat_bounds s)) rfl⟩
open Go.Vc Go.Proofs Go.RowKit
theorem okLineR:PlainOk Tryz.prog [] 40 cLineR:=by
 refine plain_of (CxOk.mk' Elr_ok (by kernel_rfl) mixed (gl:=[]) (GOk.cons okNumR Tryz.func66 (by kernel_rfl) (by kernel_rfl) (GOk.cons okSumR Tryz.func67 (by kernel_rfl) (by kernel_rfl) (GOk.cons okCutR Tryz.func39 (by kernel_rfl) (by kernel_rfl) (GOk.cons okPutR Tryz.func68 (by kernel_rfl) (by kernel_rfl) GOk.nil)))) GoOk.nil noIt) Tryz.func40 (c:=Tryz.f40.body.getD .skip) (rvs:=[(.cell 4 45,tRB),(.tmp 5,I)]) (by kernel_rfl) (by kernel_rfl) (by kernel_rfl) ?_
 intro ds k ⟨hp,hk⟩ hwf
 obtain⟨b,s,rfl,hP⟩:=dest2 hp
 clear hp hwf
 revert hP hk
 revert b s
 intro (b:RB) (s:List UInt8) (hP:LineOk b s) (hk:k [⟨tRB,rLT b s⟩,⟨I,rLE b s⟩])
 refine⟨anLineR b s,?_⟩
 rw[vcLineR]
 unfold vcLineRq6 vcLineRq5 vcLineRq4 vcLineRq3 vcLineRq2 vcLineRq1
 have one:(1:I.D)=(1:Int):=rfl
 have i0:Int.toNat 0=0:=rfl
 have hle:=hP.le
 obtain⟨lb1,lb2⟩:=lastB_bound s 32
 have bad:∀ e:Int,e≠0→badL s=e→k [⟨tRB,b⟩,⟨I,e⟩]:=fun e he h=>by
  have e1:rLE b s=e:=by unfold rLE;rw[if_neg (by rw[h];exact he),h]
  have e2:rLT b s=b:=by unfold rLT;rw[if_neg (by rw[h];exact he)]
  rw[e1,e2] at hk;exact hk
 simp only[one,i0,Int.toNat_natCast,List.take_length,List.drop_zero,decide_eq_true_eq,decide_eq_false_iff_not,true_and,and_true,inK_i64,Bool.not_eq_true',Bool.not_eq_false']
 refine⟨by omega,⟨s.length,⟨Nat.le_refl _,?_⟩,rfl⟩,fun x ⟨hx,hl⟩=>⟨fun hge=>⟨by omega,by omega,fun hne => ?_,fun he => ?_⟩,fun hlt=>⟨fun _ => ?_,fun h=>absurd hlt (by omega)⟩⟩⟩
 ·rw[lastB,Lib.lastIndexByte,bsz]
 ·obtain⟨j,rfl⟩:∃ j,x=j+1:=⟨x - 1,by omega⟩
  have et:(((j+1:Nat):Int) - 1).toNat=j:=by omega
  rw[et] at hne
  rw[lastIdx_succ,if_neg hne] at hl
  exact⟨by omega,j,⟨by omega,hl⟩,by omega,by omega⟩
 ·have hX:(x:Int) - 1=lastB s 32:=by
   obtain⟨j,rfl⟩:∃ j,x=j+1:=⟨x - 1,by omega⟩
   have et:(((j+1:Nat):Int) - 1).toNat=j:=by omega
   rw[et] at he
   rw[lastIdx_succ,if_pos he] at hl
   omega
  rw[hX] at hge ⊢
  have eh:List.take (lastB s 32).toNat s=headL s:=rfl
  have et:List.drop (lastB s 32+1).toNat s=tailL s:=rfl
  have ew:cutL (headL s) 32=wordsL s:=rfl
  have hhl:(headL s).length≤1100000:=by unfold headL;rw[List.length_take];omega
  simp only[eh,et,ew]
  have hn0:¬ lastB s 32<0:=by omega
  refine⟨fun h=>absurd h (by omega),fun _=>⟨by omega,by omega,by omega,Int.le_refl _,fun hb=>bad 2 (by decide) ?_,fun hb=>⟨Int.le_refl _,by omega,by omega,⟨hhl⟩,fun hs=>bad 6 (by decide) ?_,fun hs=>⟨Int.le_refl _,by omega,by omega,⟨hhl⟩,⟨0,⟨⟨Nat.zero_le _,hge⟩,rfl,hb,hs⟩,rfl,rfl⟩,fun y ⟨⟨hy,_⟩,ha,_,_⟩=>⟨fun hlt => ?_,fun hge2 => ?_⟩⟩⟩⟩⟩
  ·unfold badL;rw[if_neg hn0,if_pos hb]
  ·unfold badL;rw[if_neg hn0,if_neg (by rw[hb];decide),if_pos hs]
  ·have ety:((y:Int)+1).toNat=y+1:=by omega
   have hyl:y<((wordsL s).drop 1).length:=by rw[List.length_drop];omega
   have eg:(wordsL s).getD (y+1) []=((wordsL s).drop 1)[y]:=by
    rw[List.getElem_drop,List.getD_eq_getElem?_getD,List.getElem?_eq_getElem (by omega)]
    simp[Nat.add_comm]
   have hcl:=cutG_len (headL s) 32 ((headL s).length+1)
   have hwl:(wordsL s).length≤1200000:=Nat.le_trans hcl (by omega)
   rw[ety,eg]
   refine⟨by omega,hlt,fun hn=>bad 2 (by decide) ?_,fun hn=>⟨?_,by omega,y+1,⟨⟨by omega,hge⟩,?_,hb,hs⟩,by omega,by omega,?_⟩⟩
   ·have:((wordsL s).drop 1).all numB=false:=List.all_eq_false.2 ⟨_,List.getElem_mem hyl,by rw[hn];decide⟩
    unfold badL;rw[if_neg hn0,if_neg (by rw[hb];decide),if_neg (by rw[hs];simp),if_pos this]
   ·have h1:((wordsL s).drop 1).length≤(wordsL s).length:=by rw[List.length_drop];omega
    simp only[List.length_map,List.length_take,List.length_set,List.length_replicate];omega
   ·rw[List.take_succ_eq_append_getElem hyl,List.all_append,ha,List.all_cons,hn];rfl
   ·rw[List.take_succ_eq_append_getElem hyl,List.map_append];rfl
  ·have ey:y=((wordsL s).drop 1).length:=by
    have:=List.length_drop (i:=1) (l:=wordsL s)
    omega
   have hw1:=cutG_ne (headL s) 32
   rw[ew] at hw1
   subst ey
   rw[List.take_length] at ha
   simp only[List.take_length]
   have hnu:List.map numN ((wordsL s).drop 1)=numsL s:=rfl
   simp only[hnu]
   have hbad:fitL s=false→badL s=2:=fun h=>by
    unfold badL;rw[if_neg hn0,if_neg (by rw[hb];decide),if_neg (by rw[hs];simp),if_neg (by rw[ha];decide),if_neg (by rw[h];decide)]
   have hgo:fitL s=true→k [⟨tRB,rPT b (numsL s)⟩,⟨I,rPE b (numsL s)⟩]:=fun h=>by
    have e0:badL s=0:=by unfold badL;rw[if_neg hn0,if_neg (by rw[hb];decide),if_neg (by rw[hs];simp),if_neg (by rw[ha];decide),if_pos h]
    have e1:rLE b s=rPE b (numsL s):=by unfold rLE;rw[if_pos e0]
    have e2:rLT b s=rPT b (numsL s):=by unfold rLT;rw[if_pos e0]
    rw[e1,e2] at hk;exact hk
   have hput:((numsL s).length=3∨(numsL s).length=2)→PutOk b (numsL s):=fun h=>⟨hP.sh,h,fun _ h0=>hP.sy _ _ h0,hP.txt,hP.lo,hP.hi⟩
   have w115:((wordsL s).getD 0 []==[119])=true→((wordsL s).getD 0 []==[115])=false:=fun h=>by
    rw[eq_of_beq h];decide
   refine⟨Int.le_refl _,by omega,fun h119=>⟨fun h3=>⟨hput (.inl (by omega)),hgo ?_⟩,fun h3=>⟨Int.le_refl _,by omega,fun h115=>absurd h115 (by rw[w115 h119];decide),fun h115=>bad 2 (by decide) (hbad ?_)⟩⟩,fun h119=>⟨Int.le_refl _,by omega,fun h115=>⟨fun h2=>⟨hput (.inr (by omega)),hgo ?_⟩,fun h2=>bad 2 (by decide) (hbad ?_)⟩,fun h115=>bad 2 (by decide) (hbad ?_)⟩⟩
   ·unfold fitL;rw[h119,decide_eq_true (by omega:(numsL s).length=3)];rfl
   ·unfold fitL;rw[h119,h115,decide_eq_false (by omega:¬ (numsL s).length=3)];rfl
   ·unfold fitL;rw[h119,h115,decide_eq_true (by omega:(numsL s).length=2)];rfl
   ·unfold fitL;rw[h119,h115,decide_eq_false (by omega:¬ (numsL s).length=2)];rfl
   ·unfold fitL;rw[h119,h115];rfl
 ·refine bad 2 (by decide) ?_
  have hx0:x=0:=by omega
  subst hx0
  have:lastB s 32 = -1:=hl.symm
  unfold badL;rw[if_pos (by omega)]
open Go.Vc Go.Proofs Go.RowKit
def newRB(n:Int):RB:=((n,List.replicate (n*4).toNat [],List.replicate n.toNat 0,()),[],0,())
def opB(n:Int)(w:List (List UInt8)):Nat→RB
 | 0=>newRB n
 | i+1=>rLT (opB n w i) (w.getD i [])
def opG(n:Int)(w:List (List UInt8)):Nat→Bool
 | 0=>true
 | i+1=>opG n w i&&decide (rLE (opB n w i) (w.getD i [])=0)
structure OpenOk(n:Int)(s:List UInt8):Prop where
 le:s.length≤1100000
 ok:inB n 1 5=true→∀ i,i+1<(cutL s 10).length→opG n (cutL s 10) i=true→LineOk (opB n (cutL s 10) i) ((cutL s 10).getD i [])
def opE(n:Int)(w:List (List UInt8))(k:Nat):Nat→RB×Int×Int
 | 0=>(opB n w k,(opB n w k).2.2.1,0)
 | f+1=>if rLE (opB n w k) (w.getD k [])=0 then opE n w (k+1) f else (rb0,(k:Int)+1,rLE (opB n w k) (w.getD k []))
def opR(n:Int)(s:List UInt8):RB×Int×Int:=if inB n 1 5=true then opE n (cutL s 10) 0 ((cutL s 10).length - 1) else (rb0,0,1)
def cOpenR:Ctr:=cdet [I,.str] (fun (n:Int) s=>OpenOk n s) (fun (n:Int) s=>[⟨tRB,(opR n s).1⟩,⟨I,(opR n s).2.1⟩,⟨I,(opR n s).2.2⟩])
def anOpenR(n:Int)(s:List UInt8):Ann:=[joinAll,loopAt 6 Nat [] (fun st i=>{ St.at (St.only st [4,7,8]) [(9,.d I (i:Int))] with ob:=[.var 45 tRB rb0,.var 45 tRB (opB n (cutL s 10) i)] }) (fun _ i=>(i+1≤(cutL s 10).length∧inB n 1 5=true)∧opG n (cutL s 10) i=true) (fun i=>(cutL s 10).length - i)]
open Go.Vc
set_option linter.unusedVariables false
theorem vcOpenR(n:Int)(s:List UInt8)(k:List Dat→Prop):vcF ⟨Elr,[(37,cWithin),(38,cNewR),(39,cCutR),(40,cLineR)],[],[],[]⟩ (anOpenR n s) (Tryz.f20.body.getD .skip) Tryz.f20.ntmps [(.cell 4 45,tRB),(.tmp 5,I),(.tmp 6,I)] [⟨I,n⟩,⟨.str,s⟩] k=(
 True∧((!inB n 1 5)=true→k [Dat.mk tRB rb0,Dat.mk (I) 0,Dat.mk (I) 1])∧((!inB n 1 5)=false→((0≤n∧n≤5)∧True)∧CutOk s∧(∃ (x:Nat),((x+1≤(cutL s 10).length∧inB n 1 5=true)∧opG n (cutL s 10) x=true)∧(([]:List Nat)=[]∧([]:List Nat)=[]∧cutL s 10=cutL s 10∧0=(↑x:Int)∧True)∧((45=45∧rb0=rb0)∧(45=45∧((n,List.replicate (n*4).toNat [],List.replicate n.toNat 0,()),[],(0:Int),())=opB n (cutL s 10) x)∧True)∧True)∧∀ (x:Nat),(x+1≤(cutL s 10).length∧inB n 1 5=true)∧opG n (cutL s 10) x=true→inK IntKind.i64 ((↑x:Int)+1)∧(decide ((↑x:Int)+1<(↑(cutL s 10).length:Int))=true→0≤(↑x:Int)∧(↑x:Int)<(↑(cutL s 10).length:Int)∧LineOk (opB n (cutL s 10) x) ((cutL s 10).getD (↑x:Int).toNat [])∧0≤(↑x:Int)∧(↑x:Int)<(↑(cutL s 10).length:Int)∧LineOk (opB n (cutL s 10) x) ((cutL s 10).getD (↑x:Int).toNat [])∧(SV.pv tRB 0 []=SV.pv tRB 0 []∧SV.pv tRB 1 []=SV.pv tRB 1 []∧cutL s 10=cutL s 10∧(↑x:Int)=(↑x:Int)∧(↑x:Int)=(↑x:Int)∧(↑x:Int)+1=(↑x:Int)+1∧cutL s 10=cutL s 10∧(↑(cutL s 10).length:Int)=(↑(cutL s 10).length:Int)∧decide ((↑x:Int)+1<(↑(cutL s 10).length:Int))=decide ((↑x:Int)+1<(↑(cutL s 10).length:Int))∧SV.tp [SV.d tRB (rLT (opB n (cutL s 10) x) ((cutL s 10).getD (↑x:Int).toNat [])),SV.d (I) (rLE (opB n (cutL s 10) x) ((cutL s 10).getD (↑x:Int).toNat []))]=SV.tp [SV.d tRB (rLT (opB n (cutL s 10) x) ((cutL s 10).getD (↑x:Int).toNat [])),SV.d (I) (rLE (opB n (cutL s 10) x) ((cutL s 10).getD (↑x:Int).toNat []))]∧opB n (cutL s 10) x=opB n (cutL s 10) x∧cutL s 10=cutL s 10∧(↑x:Int)=(↑x:Int)∧SV.ra Ty.str ((cutL s 10).getD (↑x:Int).toNat [])=SV.ra Ty.str ((cutL s 10).getD (↑x:Int).toNat [])∧(cutL s 10).getD (↑x:Int).toNat []=(cutL s 10).getD (↑x:Int).toNat []∧SV.tp [SV.d tRB (rLT (opB n (cutL s 10) x) ((cutL s 10).getD (↑x:Int).toNat [])),SV.d (I) (rLE (opB n (cutL s 10) x) ((cutL s 10).getD (↑x:Int).toNat []))]=SV.tp [SV.d tRB (rLT (opB n (cutL s 10) x) ((cutL s 10).getD (↑x:Int).toNat [])),SV.d (I) (rLE (opB n (cutL s 10) x) ((cutL s 10).getD (↑x:Int).toNat []))]∧rLT (opB n (cutL s 10) x) ((cutL s 10).getD (↑x:Int).toNat [])=rLT (opB n (cutL s 10) x) ((cutL s 10).getD (↑x:Int).toNat [])∧rLE (opB n (cutL s 10) x) ((cutL s 10).getD (↑x:Int).toNat [])=rLE (opB n (cutL s 10) x) ((cutL s 10).getD (↑x:Int).toNat [])∧True)∧((!decide (rLE (opB n (cutL s 10) x) ((cutL s 10).getD (↑x:Int).toNat [])=0))=true→inK IntKind.i64 ((↑x:Int)+1)∧k [Dat.mk tRB rb0,Dat.mk (I) ((↑x:Int)+1),Dat.mk (I) (rLE (opB n (cutL s 10) x) ((cutL s 10).getD (↑x:Int).toNat []))])∧((!decide (rLE (opB n (cutL s 10) x) ((cutL s 10).getD (↑x:Int).toNat [])=0))=false→inK IntKind.i64 ((↑x:Int)+1)∧∃ (x_1:Nat),((x_1+1≤(cutL s 10).length∧inB n 1 5=true)∧opG n (cutL s 10) x_1=true)∧(cutL s 10).length - x_1<(cutL s 10).length - x∧(([]:List Nat)=[]∧([]:List Nat)=[]∧cutL s 10=cutL s 10∧(↑x:Int)+1=(↑x_1:Int)∧True)∧((45=45∧rb0=rb0)∧(45=45∧rLT (opB n (cutL s 10) x) ((cutL s 10).getD (↑x:Int).toNat [])=opB n (cutL s 10) x_1)∧True)∧True))∧(decide ((↑x:Int)+1<(↑(cutL s 10).length:Int))=false→(SV.d (I) (opB n (cutL s 10) x).snd.snd.fst=SV.d (I) (opB n (cutL s 10) x).snd.snd.fst∧True)∧k [Dat.mk tRB (opB n (cutL s 10) x),Dat.mk (I) (opB n (cutL s 10) x).snd.snd.fst,Dat.mk (I) 0]))):=by kernel_rfl
open Go.Vc Go.Proofs Go.RowKit
theorem opE_at(n:Int)(w:List (List UInt8))(m:Nat):∀ x,x≤m→opG n w x=true→opE n w 0 m=opE n w x (m - x)
 | 0,_,_=>rfl
 | x+1,hx,hg=>by
  simp only[opG,Bool.and_eq_true,decide_eq_true_eq] at hg
  rw[opE_at n w m x (by omega) hg.1,show m - x=(m - (x+1))+1 by omega]
  show (if rLE (opB n w x) (w.getD x [])=0 then opE n w (x+1) (m - (x+1)) else _)=_
  rw[if_pos hg.2]
theorem okOpenR:PlainOk Tryz.prog [] 20 cOpenR:=by
 refine plain_of (CxOk.mk' Elr_ok (by kernel_rfl) mixed (gl:=[]) (GOk.cons okRIn5 Tryz.func37 (by kernel_rfl) (by kernel_rfl) (GOk.cons okNewR Tryz.func38 (by kernel_rfl) (by kernel_rfl) (GOk.cons okCutR Tryz.func39 (by kernel_rfl) (by kernel_rfl) (GOk.cons okLineR Tryz.func40 (by kernel_rfl) (by kernel_rfl) GOk.nil)))) GoOk.nil noIt) Tryz.func20 (c:=Tryz.f20.body.getD .skip) (rvs:=[(.cell 4 45,tRB),(.tmp 5,I),(.tmp 6,I)]) (by kernel_rfl) (by kernel_rfl) (by kernel_rfl) ?_
 intro ds k ⟨hp,hk⟩ hwf
 obtain⟨n,s,rfl,hP⟩:=dest2 hp
 clear hp hwf
 revert hP hk
 revert n s
 intro (n:Int) (s:List UInt8) (hP:OpenOk n s) (hk:k [⟨tRB,(opR n s).1⟩,⟨I,(opR n s).2.1⟩,⟨I,(opR n s).2.2⟩])
 refine⟨anOpenR n s,?_⟩
 rw[vcOpenR]
 have hle:=hP.le
 have hcl:=cutG_len s 10 (s.length+1)
 have hwl:(cutL s 10).length≤1200000:=Nat.le_trans hcl (by omega)
 have hc1:=cutG_ne s 10
 generalize hw:cutL s 10=w at *
 simp only[Int.toNat_natCast,decide_eq_true_eq,decide_eq_false_iff_not,true_and,and_true,inK_i64,Bool.not_eq_true',Bool.not_eq_false']
 refine⟨fun hb => ?_,fun hb=>⟨?_,⟨hle⟩,⟨0,⟨⟨by omega,hb⟩,rfl⟩,rfl,rfl⟩,fun x ⟨⟨hx,_⟩,hg⟩=>⟨by omega,fun hlt=>⟨by omega,by omega,?_,by omega,by omega,?_,fun he=>⟨by omega,?_⟩,fun he=>⟨by omega,x+1,⟨⟨by omega,hb⟩,?_⟩,by omega,by omega,rfl⟩⟩,fun hge => ?_⟩⟩⟩
 ·have e:opR n s=(rb0,0,1):=by unfold opR;rw[if_neg (by rw[hb];decide)]
  rw[e] at hk;exact hk
 ·obtain⟨_,_,m1,m5⟩:=inB5 hb;omega
 ·have:=hP.ok hb x;rw[hw] at this;exact this (by omega) hg
 ·have:=hP.ok hb x;rw[hw] at this;exact this (by omega) hg
 ·have e:opR n s=(rb0,(x:Int)+1,rLE (opB n w x) (w.getD x [])):=by
   unfold opR;rw[if_pos hb,hw,opE_at n w (w.length - 1) x (by omega) hg,show w.length - 1 - x=(w.length - 2 - x)+1 by omega]
   show (if rLE (opB n w x) (w.getD x [])=0 then _ else _)=_
   rw[if_neg he]
  rw[e] at hk;exact hk
 ·simp only[opG,hg,he,decide_true,Bool.and_self]
 ·have e:opR n s=(opB n w x,(opB n w x).2.2.1,0):=by
   unfold opR;rw[if_pos hb,hw,opE_at n w (w.length - 1) x (by omega) hg,show w.length - 1 - x=0 by omega];rfl
  rw[e] at hk;exact hk
open Go.Vc Go.Proofs Go.RowKit
abbrev glO(v:GV):List (Nat×Dat):=glT++glM v
structure NumPOk(s:List UInt8):Prop where
 le:s.length≤1100000
def cNumP:Ctr:=cdet [.str] (fun s=>NumPOk s) (fun s=>[⟨I,atN s⟩,⟨.bool,numB s⟩])
open Go.Vc
set_option linter.unusedVariables false
theorem vcNumP(v:GV)(s:List UInt8)(k:List Dat→Prop):vcF ⟨Elr,[(83,cAtoi),(64,cItoa)],glO v,[],[]⟩ [joinAll] (Tryz.f61.body.getD .skip) Tryz.f61.ntmps [(.tmp 2,I),(.tmp 3,.bool)] [⟨.str,s⟩] k=(
 s.length≤(1100000:Nat)∧(atB s=true→(decide ((0:Int)≤atN s)=true→True∧k [Dat.mk (I) (atN s),Dat.mk Ty.bool (Lib.itoa (atN s)==s)])∧(decide ((0:Int)≤atN s)=false→k [Dat.mk (I) (atN s),Dat.mk Ty.bool false]))∧∀ (N:Nat),atB s=false→k [Dat.mk (I) (atN s),Dat.mk Ty.bool false]):=by kernel_rfl
open Go.Vc Go.Proofs Go.RowKit
theorem glO_T{v:GV}:∀ x∈glT,x∈glO v:=fun x h=>List.mem_append_left _ h
theorem glO_M{v:GV}:∀ x∈glM v,x∈glO v:=fun x h=>List.mem_append_right _ h
theorem okNumP(v:GV):PlainOk Tryz.prog (glO v) 61 cNumP:=by
 refine plain_of (CxOk.mk' Elr_ok (by kernel_rfl) mixed (gl:=glO v) (GOk.cons (PlainOk.sub' glO_M (okAtoi v)) Tryz.func83 (by kernel_rfl) (by kernel_rfl) (GOk.cons (PlainOk.sub' glO_T okItoa) Tryz.func64 (by kernel_rfl) (by kernel_rfl) GOk.nil)) GoOk.nil noIt) Tryz.func61 (c:=Tryz.f61.body.getD .skip) (rvs:=[(.tmp 2,I),(.tmp 3,.bool)]) (by kernel_rfl) (by kernel_rfl) (by kernel_rfl) ?_
 intro ds k ⟨hp,hk⟩ hwf
 obtain⟨s,rfl,hs⟩:=dest1 hp
 have hk:k [⟨I,atN s⟩,⟨.bool,numB s⟩]:=hk
 refine⟨[joinAll],?_⟩
 rw[vcNumP]
 have e:=num_at s
 refine⟨hs.le,fun hb=>⟨fun h0=>⟨trivial,?_⟩,fun h0 => ?_⟩,fun N hb => ?_⟩
 ·rw[hb,h0] at e;rw[e] at hk;exact hk
 ·rw[hb,h0] at e;rw[e] at hk;exact hk
 ·rw[hb] at e;rw[e] at hk;exact hk
def pE(b:BS)(l:List Int):Int:=if l.length=3 then bkE b.2.2 (writeE b.1 (l.getD 0 0) (l.getD 1 0) (l.getD 2 0)) else bkE b.2.2 (syncE b.1 (l.getD 0 0) (l.getD 1 0))
def pT(b:BS)(l:List Int):BS :=
 if l.length=3 then bkT b.1 b.2.1 b.2.2 (writeE b.1 (l.getD 0 0) (l.getD 1 0) (l.getD 2 0)) (writeT b.1 (l.getD 0 0) (l.getD 1 0) (l.getD 2 0)) (lineF [119] [l.getD 0 0,l.getD 1 0,l.getD 2 0])
 else bkT b.1 b.2.1 b.2.2 (syncE b.1 (l.getD 0 0) (l.getD 1 0)) (syncT b.1 (l.getD 0 0) (l.getD 1 0)) (lineF [115] [l.getD 0 0,l.getD 1 0])
def pLE(b:BS)(s:List UInt8):Int:=if badL s=0 then pE b (numsL s) else badL s
def pLT(b:BS)(s:List UInt8):BS:=if badL s=0 then pT b (numsL s) else b
structure BkOk(b:BS):Prop where
 sh:NetSh b.1
 txt:b.2.1.length≤900000000
 lo:(0:Int)≤b.2.2
 hi:b.2.2≤(60:Int)
abbrev obB(b:BS):List Ob:=obBk b.1 b.2.1 b.2.2
def oBL:OCtr:=fun args ob k=>match args,ob with
 | [.ps 0,.d .str s],[.st 66 [.ps 1,.sf 0 1,.os 2,.d (.int .i64) m],.st 96 [.os 3,.os 4],.buf 5 txt,.row 98 (.ar 4 (.sl (.pr (.sl (.int .i64)) (.pr (.int .i64) .un)))) nodes,.row 3 (.int .i64) wrote] =>
  (BkOk ((nodes,wrote,()),txt,m)∧s.length≤1100000)∧k (.d tErr (pLE ((nodes,wrote,()),txt,m) s)) (obB (pLT ((nodes,wrote,()),txt,m) s))
 | _,_=>False
def anBL(s:List UInt8):Ann:=[joinAll,
 loopAt 12 Nat [(9,3,.d I)] (fun st i=>{ St.at (St.only st [0,8,42,43]) [(9,.os 5),(44,.d I (i:Int))] with ob:=st.ob.set 5 (.row 3 I ((((wordsL s).drop 1).take i).map atN)) }) (fun _ i=>(i≤((wordsL s).drop 1).length∧0≤lastB s 32)∧((((wordsL s).drop 1).take i).all numB=true∧numB (tailL s)=true∧atN (tailL s)=sumF (headL s))) (fun i=>((wordsL s).drop 1).length - i)]
open Go.Vc
set_option linter.unusedVariables false
abbrev vcBLq1(x:Nat)(s:List UInt8):=(List.map atN (List.take x (List.drop 1 (wordsL s))))
abbrev vcBLq2(s:List UInt8):=(cutL (List.drop (Int.toNat 0) (List.take (lastB s 32).toNat s)) 32)
abbrev vcBLq3(nd:List (List (List Va)))(wr:List Int)(txt:List UInt8)(m:Int)(x:Nat)(s:List UInt8):=(bkT (nd,wr,()) txt m (syncE (nd,wr,()) ((vcBLq1 x s).getD 0 0) ((vcBLq1 x s).getD 1 0)) (syncT (nd,wr,()) ((vcBLq1 x s).getD 0 0) ((vcBLq1 x s).getD 1 0)) (lineF [(115:UInt8)] [(vcBLq1 x s).getD 0 0,(vcBLq1 x s).getD 1 0]))
abbrev vcBLq4(s:List UInt8):=(List.drop (Int.toNat 1) (List.take (↑(vcBLq2 s).length:Int).toNat (vcBLq2 s)))
abbrev vcBLq5(nd:List (List (List Va)))(wr:List Int)(txt:List UInt8)(m:Int)(x:Nat)(s:List UInt8):=(bkT (nd,wr,()) txt m (writeE (nd,wr,()) ((vcBLq1 x s).getD 0 0) ((vcBLq1 x s).getD 1 0) ((vcBLq1 x s).getD 2 0)) (writeT (nd,wr,()) ((vcBLq1 x s).getD 0 0) ((vcBLq1 x s).getD 1 0) ((vcBLq1 x s).getD 2 0)) (lineF [(119:UInt8)] [(vcBLq1 x s).getD 0 0,(vcBLq1 x s).getD 1 0,(vcBLq1 x s).getD 2 0]))
abbrev vcBLq6(m:Int)(txt:List UInt8)(nd:List (List (List Va)))(wr:List Int):=[Ob.st 66 [SV.ps 1,SV.sf 0 1,SV.os 2,SV.d (I) m],Ob.st 96 [SV.os 3,SV.os 4],Ob.buf 5 txt,Ob.row 98 tRow nd,Ob.row 3 (I) wr]
abbrev vcBLq7(s:List UInt8):=(List.drop (Int.toNat 0) (List.take (lastB s 32).toNat s))
abbrev vcBLq8(s:List UInt8):=(List.drop (lastB s 32+(1:Int)).toNat (List.take (↑s.length:Int).toNat s))
theorem vcBL(v:GV)(nd:List (List (List Va)))(wr:List Int)(txt:List UInt8)(m:Int)(s:List UInt8)(k:SV→List Ob→Prop):vcO ⟨Elr,[(60,cLastI),(61,cNumP),(62,cSum),(63,cSplit)],glO v,[],[(16,oBW),(17,oBS)]⟩ (anBL s) (Tryz.f34.body.getD .skip) Tryz.f34.ntmps [(.tmp 4,tErr)] [.ps 0,.d .str s] (obBk (nd,wr,()) txt m) k=(
 LastOk s∧(decide (lastB s 32<(0:Int))=true→(2:Int)≠(0:Int)∧k (SV.d (Ty.err 73) 2) (vcBLq6 m txt nd wr))∧(decide (lastB s 32<(0:Int))=false→inK IntKind.i64 (lastB s 32+(1:Int))∧0≤lastB s 32+(1:Int)∧lastB s 32+1≤(↑s.length:Int)∧(↑s.length:Int)≤(↑s.length:Int)∧NumPOk (vcBLq8 s)∧((!numB (vcBLq8 s))=true→(2:Int)≠(0:Int)∧k (SV.d (Ty.err 73) 2) (vcBLq6 m txt nd wr))∧((!numB (vcBLq8 s))=false→0≤(0:Int)∧0≤lastB s 32∧lastB s 32≤(↑s.length:Int)∧SumOk (vcBLq7 s)∧((!decide (atN (vcBLq8 s)=sumF (vcBLq7 s)))=true→(6:Int)≠(0:Int)∧k (SV.d (Ty.err 73) 6) (vcBLq6 m txt nd wr))∧((!decide (atN (vcBLq8 s)=sumF (vcBLq7 s)))=false→0≤(0:Int)∧0≤lastB s 32∧lastB s 32≤(↑s.length:Int)∧SplitOk (vcBLq7 s) [(32:UInt8)]∧0≤(1:Int)∧1≤(↑(vcBLq2 s).length:Int)∧(↑(vcBLq2 s).length:Int)≤(↑(vcBLq2 s).length:Int)∧(∃ (x:Nat),((x≤(List.drop 1 (wordsL s)).length∧0≤lastB s 32)∧(List.take x (List.drop 1 (wordsL s))).all numB=true∧numB (tailL s)=true∧atN (tailL s)=sumF (headL s))∧(True∧cutL (vcBLq7 s) 32=cutL (vcBLq7 s) 32∧True∧List.drop (Int.toNat 1) (List.take (↑(vcBLq2 s).length:Int).toNat (vcBLq2 s))=List.drop (Int.toNat 1) (List.take (↑(vcBLq2 s).length:Int).toNat (vcBLq2 s))∧(↑(vcBLq4 s).length:Int)=(↑(vcBLq4 s).length:Int)∧0=(↑x:Int)∧True)∧((True∧True∧True∧m=m∧True)∧(True∧True∧True)∧txt=txt∧(98=98∧nd=nd)∧(3=3∧wr=wr)∧(3=3∧[]=List.map atN (List.take x (List.drop 1 (wordsL s))))∧True)∧True∧s=s∧Lib.pow10Tab=Lib.pow10Tab∧Value.int IntKind.i64 v.m=Value.int IntKind.i64 v.m∧Value.iface v.t1 v.p1=Value.iface v.t1 v.p1∧Value.iface v.t2 v.p2=Value.iface v.t2 v.p2∧True)∧∀ (x:Nat),(x≤(List.drop 1 (wordsL s)).length∧0≤lastB s 32)∧(List.take x (List.drop 1 (wordsL s))).all numB=true∧numB (tailL s)=true∧atN (tailL s)=sumF (headL s)→(decide ((↑x:Int)<(↑(vcBLq4 s).length:Int))=true→0≤(↑x:Int)∧(↑x:Int)<(↑(vcBLq4 s).length:Int)∧NumPOk ((vcBLq4 s).getD (↑x:Int).toNat [])∧((!numB ((vcBLq4 s).getD (↑x:Int).toNat []))=true→(2:Int)≠(0:Int)∧k (SV.d (Ty.err 73) 2) (vcBLq6 m txt nd wr))∧((!numB ((vcBLq4 s).getD (↑x:Int).toNat []))=false→(vcBLq1 x s).length+((List.replicate 1 0).set 0 (atN ((vcBLq4 s).getD (↑x:Int).toNat []))).length≤1000000000∧inK IntKind.i64 ((↑x:Int)+1)∧∃ (x_1:Nat),((x_1≤(List.drop 1 (wordsL s)).length∧0≤lastB s 32)∧(List.take x_1 (List.drop 1 (wordsL s))).all numB=true∧numB (tailL s)=true∧atN (tailL s)=sumF (headL s))∧(List.drop 1 (wordsL s)).length - x_1<(List.drop 1 (wordsL s)).length - x∧(True∧cutL (vcBLq7 s) 32=cutL (vcBLq7 s) 32∧True∧List.drop (Int.toNat 1) (List.take (↑(vcBLq2 s).length:Int).toNat (vcBLq2 s))=List.drop (Int.toNat 1) (List.take (↑(vcBLq2 s).length:Int).toNat (vcBLq2 s))∧(↑(vcBLq4 s).length:Int)=(↑(vcBLq4 s).length:Int)∧(↑x:Int)+1=(↑x_1:Int)∧True)∧((True∧True∧True∧m=m∧True)∧(True∧True∧True)∧txt=txt∧(98=98∧nd=nd)∧(3=3∧wr=wr)∧(3=3∧(vcBLq1 x s).append ((List.replicate 1 0).set 0 (atN ((vcBLq4 s).getD (↑x:Int).toNat [])))=List.map atN (List.take x_1 (List.drop 1 (wordsL s))))∧True)∧True∧s=s∧Lib.pow10Tab=Lib.pow10Tab∧Value.int IntKind.i64 v.m=Value.int IntKind.i64 v.m∧Value.iface v.t1 v.p1=Value.iface v.t1 v.p1∧Value.iface v.t2 v.p2=Value.iface v.t2 v.p2∧True))∧(decide ((↑x:Int)<(↑(vcBLq4 s).length:Int))=false→0≤(0:Int)∧0<(↑(vcBLq2 s).length:Int)∧(((vcBLq2 s).getD (Int.toNat 0) []==[(119:UInt8)])=true→(decide ((↑(vcBLq1 x s).length:Int)=3)=true→(0≤(0:Int)∧0<(↑(vcBLq1 x s).length:Int)∧0≤(1:Int)∧1<(↑(vcBLq1 x s).length:Int)∧0≤(2:Int)∧2<(↑(vcBLq1 x s).length:Int)∧True)∧(NetSh (nd,wr,())∧txt.length≤900000000∧0≤m∧m≤(60:Int))∧k (SV.d (Ty.err 73) (bkE m (writeE (nd,wr,()) ((vcBLq1 x s).getD 0 0) ((vcBLq1 x s).getD 1 0) ((vcBLq1 x s).getD 2 0)))) [Ob.st 66 [SV.ps 1,SV.sf 0 1,SV.os 2,SV.d (I) (vcBLq5 nd wr txt m x s).snd.snd],Ob.st 96 [SV.os 3,SV.os 4],Ob.buf 5 (vcBLq5 nd wr txt m x s).snd.fst,Ob.row 98 tRow (vcBLq5 nd wr txt m x s).fst.fst,Ob.row 3 (I) (vcBLq5 nd wr txt m x s).fst.snd.fst])∧(decide ((↑(vcBLq1 x s).length:Int)=3)=false→0≤(0:Int)∧0<(↑(vcBLq2 s).length:Int)∧(((vcBLq2 s).getD (Int.toNat 0) []==[(115:UInt8)])=true→(decide ((↑(vcBLq1 x s).length:Int)=2)=true→(0≤(0:Int)∧0<(↑(vcBLq1 x s).length:Int)∧0≤(1:Int)∧1<(↑(vcBLq1 x s).length:Int)∧True)∧(NetSh (nd,wr,())∧txt.length≤900000000∧0≤m∧m≤(60:Int))∧k (SV.d (Ty.err 73) (bkE m (syncE (nd,wr,()) ((vcBLq1 x s).getD 0 0) ((vcBLq1 x s).getD 1 0)))) [Ob.st 66 [SV.ps 1,SV.sf 0 1,SV.os 2,SV.d (I) (vcBLq3 nd wr txt m x s).snd.snd],Ob.st 96 [SV.os 3,SV.os 4],Ob.buf 5 (vcBLq3 nd wr txt m x s).snd.fst,Ob.row 98 tRow (vcBLq3 nd wr txt m x s).fst.fst,Ob.row 3 (I) (vcBLq3 nd wr txt m x s).fst.snd.fst])∧(decide ((↑(vcBLq1 x s).length:Int)=2)=false→(2:Int)≠(0:Int)∧k (SV.d (Ty.err 73) 2) (vcBLq6 m txt nd wr)))∧(((vcBLq2 s).getD (Int.toNat 0) []==[(115:UInt8)])=false→(2:Int)≠(0:Int)∧k (SV.d (Ty.err 73) 2) (vcBLq6 m txt nd wr))))∧(((vcBLq2 s).getD (Int.toNat 0) []==[(119:UInt8)])=false→0≤(0:Int)∧0<(↑(vcBLq2 s).length:Int)∧(((vcBLq2 s).getD (Int.toNat 0) []==[(115:UInt8)])=true→(decide ((↑(vcBLq1 x s).length:Int)=2)=true→(0≤(0:Int)∧0<(↑(vcBLq1 x s).length:Int)∧0≤(1:Int)∧1<(↑(vcBLq1 x s).length:Int)∧True)∧(NetSh (nd,wr,())∧txt.length≤900000000∧0≤m∧m≤(60:Int))∧k (SV.d (Ty.err 73) (bkE m (syncE (nd,wr,()) ((vcBLq1 x s).getD 0 0) ((vcBLq1 x s).getD 1 0)))) [Ob.st 66 [SV.ps 1,SV.sf 0 1,SV.os 2,SV.d (I) (vcBLq3 nd wr txt m x s).snd.snd],Ob.st 96 [SV.os 3,SV.os 4],Ob.buf 5 (vcBLq3 nd wr txt m x s).snd.fst,Ob.row 98 tRow (vcBLq3 nd wr txt m x s).fst.fst,Ob.row 3 (I) (vcBLq3 nd wr txt m x s).fst.snd.fst])∧(decide ((↑(vcBLq1 x s).length:Int)=2)=false→(2:Int)≠(0:Int)∧k (SV.d (Ty.err 73) 2) (vcBLq6 m txt nd wr)))∧(((vcBLq2 s).getD (Int.toNat 0) []==[(115:UInt8)])=false→(2:Int)≠(0:Int)∧k (SV.d (Ty.err 73) 2) (vcBLq6 m txt nd wr)))))))):=by kernel_rfl
open Go.Vc Go.Proofs Go.RowKit
theorem atN_map{l:List (List UInt8)}(h:l.all numB=true):l.map atN=l.map numN:=by
 apply List.map_congr_left
 intro x hx
 exact at_num (List.all_eq_true.1 h x hx)
theorem ownBL(v:GV):OwnOk Tryz.prog (glO v) 34 oBL:=by
 refine own_of (CxOk.mk' Elr_ok (by kernel_rfl) mixed (gl:=glO v) (GOk.cons okLastI.lift Tryz.func60 (by kernel_rfl) (by kernel_rfl) (GOk.cons (okNumP v) Tryz.func61 (by kernel_rfl) (by kernel_rfl) (GOk.cons okSumB.lift Tryz.func62 (by kernel_rfl) (by kernel_rfl) (GOk.cons (PlainOk.sub' glO_M (okSplit v)) Tryz.func63 (by kernel_rfl) (by kernel_rfl) GOk.nil)))) (GoOk.cons (OwnOk.sub glO_T ownBW) Tryz.func16 (by kernel_rfl) (by kernel_rfl) (GoOk.cons (OwnOk.sub glO_T ownBS) Tryz.func17 (by kernel_rfl) (by kernel_rfl) GoOk.nil)) noIt) Tryz.func34 (c:=Tryz.f34.body.getD .skip) (rvs:=[(.tmp 4,tErr)]) (by kernel_rfl) (by kernel_rfl) (by kernel_rfl) ?_
 intro args ob k h hwa hwo
 unfold oBL at h
 split at h
 ·rename_i s m txt nd wr
  obtain⟨⟨hB,hle⟩,hk⟩:=h
  refine⟨anBL s,?_⟩
  show vcO _ _ _ _ _ [.ps 0,.d .str s] (obBk (nd,wr,()) txt m) k
  rw[vcBL]
  unfold vcBLq8 vcBLq7 vcBLq6 vcBLq5 vcBLq4 vcBLq3 vcBLq2 vcBLq1
  have one:(1:I.D)=(1:Int):=rfl
  have i0:Int.toNat 0=0:=rfl
  have i1:Int.toNat 1=1:=rfl
  obtain⟨lb1,lb2⟩:=lastB_bound s 32
  have bad:∀ e:Int,e≠0→badL s=e→k (.d tErr e) (obB ((nd,wr,()),txt,m)):=fun e he h=>by
   have e1:pLE ((nd,wr,()),txt,m) s=e:=by unfold pLE;rw[if_neg (by rw[h];exact he),h]
   have e2:pLT ((nd,wr,()),txt,m) s=((nd,wr,()),txt,m):=by unfold pLT;rw[if_neg (by rw[h];exact he)]
   rw[e1,e2] at hk;exact hk
  have e1:∀ y:Int,(List.replicate 1 (0:Int)).set 0 y=[y]:=fun _=>rfl
  have ea:∀ (m n:List Int),List.append m n=m++n:=fun _ _=>rfl
  simp only[one,i0,i1,e1,ea,Int.toNat_natCast,List.take_length,List.drop_zero,decide_eq_true_eq,decide_eq_false_iff_not,true_and,and_true,inK_i64,Bool.not_eq_true',Bool.not_eq_false',Nat.le_eq]
  refine⟨⟨by omega⟩,fun hneg=>⟨by decide,bad 2 (by decide) ?_⟩,fun hneg => ?_⟩
  ·unfold badL;rw[if_pos hneg]
  ·have eh:List.take (lastB s 32).toNat s=headL s:=rfl
   have et:List.drop (lastB s 32+1).toNat s=tailL s:=rfl
   have ew:cutL (headL s) 32=wordsL s:=rfl
   have hhl:(headL s).length≤1100000:=by unfold headL;rw[List.length_take];omega
   have htl:(tailL s).length≤1100000:=by unfold tailL;rw[List.length_drop];omega
   simp only[eh,et,ew]
   have hn0:¬ lastB s 32<0:=hneg
   have hcl:=cutG_len (headL s) 32 ((headL s).length+1)
   have hwl:(wordsL s).length≤1200000:=Nat.le_trans hcl (by omega)
   have hw1:=cutG_ne (headL s) 32
   rw[ew] at hw1
   have hdl:((wordsL s).drop 1).length=(wordsL s).length - 1:=List.length_drop ..
   have hwm:∀ x∈wordsL s,x.length≤1100000:=fun x hx=>by
    have:x∈splL 32 (headL s):=by rw[← cut_spl];exact hx
    exact Nat.le_trans (splL_le 32 _ x this) hhl
   refine⟨by omega,by omega,by omega,Int.le_refl _,⟨htl⟩,fun hb=>⟨by decide,bad 2 (by decide) ?_⟩,fun hb=>⟨Int.le_refl _,by omega,by omega,⟨hhl⟩,fun hs=>⟨by decide,bad 6 (by decide) ?_⟩,fun hs=>⟨Int.le_refl _,by omega,by omega,⟨hhl,rfl⟩,by omega,by omega,Int.le_refl _,⟨0,⟨⟨Nat.zero_le _,by omega⟩,rfl,hb,hs⟩,?_⟩,fun y ⟨⟨hy,_⟩,ha,_,_⟩=>⟨fun hlt => ?_,fun hge2 => ?_⟩⟩⟩⟩
   ·unfold badL;rw[if_neg hn0,if_pos hb]
   ·unfold badL;rw[if_neg hn0,if_neg (by rw[hb];decide),if_pos (by rw[← at_num hb];exact hs)]
   ·exact⟨rfl,rfl⟩
   ·have hyl:y<((wordsL s).drop 1).length:=by omega
    have eg:((wordsL s).drop 1).getD y []=((wordsL s).drop 1)[y]:=by rw[List.getD_eq_getElem?_getD,List.getElem?_eq_getElem hyl];rfl
    rw[eg]
    refine⟨by omega,hlt,⟨hwm _ (List.mem_of_mem_drop (List.getElem_mem hyl))⟩,fun hn=>⟨by decide,bad 2 (by decide) ?_⟩,fun hn=>⟨?_,by omega,y+1,⟨⟨by omega,by omega⟩,?_,hb,hs⟩,by omega,by omega,?_⟩⟩
    ·have:((wordsL s).drop 1).all numB=false:=List.all_eq_false.2 ⟨_,List.getElem_mem hyl,by rw[hn];decide⟩
     unfold badL;rw[if_neg hn0,if_neg (by rw[hb];decide),if_neg (by rw[← at_num hb,hs];simp),if_pos this]
    ·simp only[List.length_map,List.length_take,List.length_cons,List.length_nil];omega
    ·rw[List.take_succ_eq_append_getElem hyl,List.all_append,ha,List.all_cons,hn];rfl
    ·rw[List.take_succ_eq_append_getElem hyl,List.map_append];rfl
   ·have ey:y=((wordsL s).drop 1).length:=by omega
    subst ey
    rw[List.take_length] at ha
    simp only[List.take_length]
    have hnu:List.map atN ((wordsL s).drop 1)=numsL s:=atN_map ha
    simp only[hnu]
    have hbad:fitL s=false→badL s=2:=fun h=>by
     unfold badL;rw[if_neg hn0,if_neg (by rw[hb];decide),if_neg (by rw[← at_num hb,hs];simp),if_neg (by rw[ha];decide),if_neg (by rw[h];decide)]
    have hgo:fitL s=true→k (.d tErr (pE ((nd,wr,()),txt,m) (numsL s))) (obB (pT ((nd,wr,()),txt,m) (numsL s))):=fun h=>by
     have e0:badL s=0:=by unfold badL;rw[if_neg hn0,if_neg (by rw[hb];decide),if_neg (by rw[← at_num hb,hs];simp),if_neg (by rw[ha];decide),if_pos h]
     have e1:pLE ((nd,wr,()),txt,m) s=pE ((nd,wr,()),txt,m) (numsL s):=by unfold pLE;rw[if_pos e0]
     have e2:pLT ((nd,wr,()),txt,m) s=pT ((nd,wr,()),txt,m) (numsL s):=by unfold pLT;rw[if_pos e0]
     rw[e1,e2] at hk;exact hk
    have w115:((wordsL s).getD 0 []==[119])=true→((wordsL s).getD 0 []==[115])=false:=fun h=>by
     rw[eq_of_beq h];decide
    have h3:(numsL s).length=3→pE ((nd,wr,()),txt,m) (numsL s)=bkE m (writeE (nd,wr,()) ((numsL s).getD 0 0) ((numsL s).getD 1 0) ((numsL s).getD 2 0))∧pT ((nd,wr,()),txt,m) (numsL s)=bkT (nd,wr,()) txt m (writeE (nd,wr,()) ((numsL s).getD 0 0) ((numsL s).getD 1 0) ((numsL s).getD 2 0)) (writeT (nd,wr,()) ((numsL s).getD 0 0) ((numsL s).getD 1 0) ((numsL s).getD 2 0)) (lineF [119] [(numsL s).getD 0 0,(numsL s).getD 1 0,(numsL s).getD 2 0]):=fun h=>by
     unfold pE pT;rw[if_pos h,if_pos h];exact⟨rfl,rfl⟩
    have h2:(numsL s).length=2→pE ((nd,wr,()),txt,m) (numsL s)=bkE m (syncE (nd,wr,()) ((numsL s).getD 0 0) ((numsL s).getD 1 0))∧pT ((nd,wr,()),txt,m) (numsL s)=bkT (nd,wr,()) txt m (syncE (nd,wr,()) ((numsL s).getD 0 0) ((numsL s).getD 1 0)) (syncT (nd,wr,()) ((numsL s).getD 0 0) ((numsL s).getD 1 0)) (lineF [115] [(numsL s).getD 0 0,(numsL s).getD 1 0]):=fun h=>by
     unfold pE pT;rw[if_neg (by omega),if_neg (by omega)];exact⟨rfl,rfl⟩
    refine⟨Int.le_refl _,by omega,fun h119=>⟨fun hl=>⟨by omega,⟨hB.sh,hB.txt,hB.lo,hB.hi⟩,?_⟩,fun hl => ?_⟩,fun h119 => ?_⟩
    ·have:=hgo (by unfold fitL;rw[h119,decide_eq_true (by omega:(numsL s).length=3)];rfl)
     rw[(h3 (by omega)).1,(h3 (by omega)).2] at this
     exact this
    ·refine⟨Int.le_refl _,by omega,fun h115=>absurd h115 (by rw[w115 h119];decide),fun h115=>⟨by decide,bad 2 (by decide) (hbad ?_)⟩⟩
     unfold fitL;rw[h119,h115,decide_eq_false (by omega:¬ (numsL s).length=3)];rfl
    ·refine⟨Int.le_refl _,by omega,fun h115=>⟨fun hl=>⟨by omega,⟨hB.sh,hB.txt,hB.lo,hB.hi⟩,?_⟩,fun hl=>⟨by decide,bad 2 (by decide) (hbad ?_)⟩⟩,fun h115=>⟨by decide,bad 2 (by decide) (hbad ?_)⟩⟩
     ·have:=hgo (by unfold fitL;rw[h119,h115,decide_eq_true (by omega:(numsL s).length=2)];rfl)
      rw[(h2 (by omega)).1,(h2 (by omega)).2] at this
      exact this
     ·unfold fitL;rw[h119,h115,decide_eq_false (by omega:¬ (numsL s).length=2)];rfl
     ·unfold fitL;rw[h119,h115];rfl
 ·exact h.elim
open Go.Vc Go.Proofs Go.RowKit Go.Shelf
attribute [local go_sem] Oper.semAt_some
theorem lines_calls(s:ByteArray)(w:World):Calls Tryz.prog 32 #[.string s] w fun e w'=>e = .returned (.func (.func 57) #[] #[.pointer (some ⟨w.heap.size,0,none⟩)])∧w'=w.alloc (.cells #[.string s] 9):=by
 go_enter Tryz.func32,Tryz.ntmps32
 go_wp2
 go_ret
 exact⟨rfl,rfl⟩
def oLines:OCtr:=fun args ob k=>match args,ob with
 | [.d .str s],[]=>k (.cf 57 0) [.var 9 .str s]
 | _,_=>False
theorem ownLines:OwnOk Tryz.prog [] 32 oLines:=by
 intro args ob k h w M R0 A vals hB hrd IV
 unfold oLines at h
 split at h
 ·rename_i s
  obtain⟨e1,hl⟩:=str_val (IV.tm 0 _ rfl)
  have hv:=vals1 (show vals.size=1 from IV.len)
  rw[e1] at hv
  rw[hv]
  rw[hv] at IV
  refine (lines_calls ⟨s.toArray⟩ w).mono ?_
  rintro e w' ⟨rfl,rfl⟩
  have hnum:A.n=0:=IV.num
  have I2:=IV.add none (fun _ => .pointer (some ⟨w.heap.size,0,none⟩)) (fun b=>b=w.heap.size) (.var 9 .str s) (w':=w.alloc (.cells #[.string ⟨s.toArray⟩] 9)) (Same.alloc w _) (fun b hb _=>Ext.alloc w _ b hb) (fun b hb => .inl ⟨by omega,by simp;omega⟩) (fun hro =>
   ⟨w.heap.size,_,Asg.push_η ..,(Asg.push_F ..).2 rfl,World.alloc_heap_new w _,rfl,hl⟩)
  have h0:(A.pushT (fun _=>Value.pointer (some ⟨w.heap.size,0,none⟩)) (fun b=>b=w.heap.size)).η 0 = .pointer (some ⟨w.heap.size,0,none⟩):=by rw[← hnum,Asg.push_η]
  refine⟨_,_,_,_,rfl,h,I2.out (M':=M) rfl (σ:=[0]) (by decide) (s := .cf 57 0) ?_,fun i hi=>absurd hi (by show ¬ i<0;omega)⟩
  refine⟨by show 0<A.n+1;omega,?_⟩
  rw[h0]
 ·exact h.elim
open Go.Vc Go.Proofs Go.RowKit Go.Shelf
attribute [local go_sem] Oper.semAt_some
theorem linesF_cons{s:List UInt8}(hs:s≠[]):∃ line rest,linesF s=(line,rest)::linesF rest∧rest.length<s.length∧((Lib.indexByte s 10 = -1∧line=s∧rest=[])∨∃ i:Nat,Lib.indexByte s 10=(i:Int)∧i<s.length∧line=s.take (i+1)∧rest=s.drop (i+1)):=by
 have hp:0<s.length:=List.length_pos_iff.2 hs
 rcases idx10 s with ⟨h1,h2⟩ | ⟨i,h1,h2,_,_⟩
 ·refine⟨s,[],by rw[linesF_last hs h1,linesF_nil],by simpa using hp,.inl ⟨?_,rfl,rfl⟩⟩
  have:=Lib.indexByte_ge s 10;omega
 ·exact⟨_,_,linesF_line h1,by rw[List.length_drop];omega,.inr ⟨i,h1,h2,rfl,rfl⟩⟩
theorem lines_drop(s:List UInt8):∀ k,k≤(linesF s).length→linesF (restV linesF s k)=(linesF s).drop k
 | 0,_=>rfl
 | k+1,hk=>by
  have ih:=lines_drop s k (by omega)
  have hne:restV linesF s k≠[]:=by
   intro h
   rw[h,linesF_nil] at ih
   have:=congrArg List.length ih
   rw[List.length_drop,List.length_nil] at this;omega
  obtain⟨line,rest,e1,_,_⟩:=linesF_cons hne
  have e2:(linesF s).drop k=(linesF s)[k]::(linesF s).drop (k+1):=List.drop_eq_getElem_cons (by omega)
  rw[e1,e2] at ih
  injection ih with h1 h2
  show linesF ((linesF s).getD k ([],[])).2=_
  rw[List.getD_eq_getElem?_getD,List.getElem?_eq_getElem (by omega),← h2,Option.getD_some,← h1]
theorem still_tail{P:Program}{Q:Exit→Act→World→Prop}{a:Act}{w:World}{l:List Oper}(n:Nat)(hm:P.follows .mixedOrders=true)(hB:Region.lexTailB .any l.toArray n=true)
 (h:wpStill P l.toArray { w with drawn:=w.drawn+1 } (fun a'=>wpList P l.toArray Q (l.drop n) a' { w with drawn:=w.drawn+1 }) (l.take n) a):RegW P l.toArray true Q a w:=by
 simp only[Region.lexTailB,Bool.and_eq_true,decide_eq_true_eq] at hB
 obtain⟨⟨⟨⟨hsel,hn⟩,hs⟩,hc⟩,hlex⟩:=hB
 have hn':n<l.length:=by simpa using hn
 have htl:(l.take n).length=n:=by simp;omega
 have hdl:(l.drop n).length=l.toArray.size - n:=by simp
 have inv0:HeadInv .any l.toArray n (Array.replicate l.toArray.size false) :=
  ⟨by simp,fun j oj _ hl=>(by rw[getD_replicate_false] at hl;cases hl),fun t _ ht=>getD_in (by simpa using ht) (getD_replicate_false _ _)⟩
 have H:=wpAnyL_lex (md := .any) (g:=l.toArray.size - n) hsel hs hc hn (l.take n) 0 _ a (fun j hj=>by
  have hj':j<n:=by rw[htl] at hj;exact hj
  simp[hj']) (by simpa using htl) inv0 (by rw[htl];exact hlex) h
 refine RegW.any hm ?_
 have:=wpAny_of_head (Q':=Q) (g:=l.toArray.size - n) (fun listed a' hL=>by
  have:=wpAny_of_seq (md := .any) (Q':=Q) (l.drop n) n listed a' { w with drawn:=w.drawn+1 } (fun j=>by simp[List.getElem?_drop]) (by rw[hdl];exact hL.1) hL.2
  rwa [hdl] at this) _ _ _ H
 rw[htl,show n+(l.toArray.size - n)=l.toArray.size by omega] at this
 exact this
def IsFW(F:Fence):Prop:=F=FW none
def cellLen(b:Nat)(w:World):Nat :=
 match w.cell? ⟨b,0,none⟩ with
 | some (.string s)=>s.size
 | _=>0
theorem cell_of{w:World}{b:Nat}{v:Value}{T:TypeId}{q:Nat×Nat}(h:w.heap[b]?=some (.cells #[v] T q)):w.cell? ⟨b,0,none⟩=some v:=by
 unfold World.cell?
 rw[h];rfl
theorem ext_take(r:List UInt8)(i:Nat):(⟨r.toArray⟩:ByteArray).extract 0 i=⟨(r.take i).toArray⟩:=by
 apply ByteArray.ext
 rw[ByteArray.data_extract]
 simp
theorem ext_drop(r:List UInt8)(i j:Nat)(h:r.length≤j):(⟨r.toArray⟩:ByteArray).extract i j=⟨(r.drop i).toArray⟩:=by
 apply ByteArray.ext
 rw[ByteArray.data_extract]
 apply Array.toList_inj.1
 simp
 rw[List.take_of_length_le (by rw[List.length_drop];omega)]
set_option maxRecDepth 100000 in
set_option maxHeartbeats 2000000 in
theorem lines1_in(F:Fence)(hF:IsFW F)(h57:F.fn 57)(hro:F.round=none)(hib:∀ (m:Nat) (r:List UInt8) (w:World),CallsIn F m Tryz.prog 58 #[.string ⟨r.toArray⟩,.int .u8 10] w fun e w'=>e = .returned (.int .i64 (Lib.indexByte r 10))∧w'=w)(h58:F.fn 58)(n l:Nat)(hn:1≤n)(b:Nat)(s:List UInt8)(hs:s.length≤maxLen)(J J' Jx:Nat→World→Prop)(W:World)
 (hR:∀ k W',J k W'→W'.heap[b]?=some (.cells #[strV (restV linesF s k)] 9 (0,0)))
 (hdr:Hid (∀ k X d,J' k X→J' k { X with drawn:=d })) (hst:∀ k W',J k W'→k<(linesF s).length→J' k (W'.setCell ⟨b,0,none⟩ (strV (restV linesF s (k+1)))))
 (hY:∀ m k x W1,((linesF s).map fun p=>strV p.1)[k]?=some x→J' k W1 →
  YieldAt F m Tryz.prog l #[x] W1 fun e W'=>(e = .returned (.bool true)∧J (k+1) W')∨(e = .returned (.bool false)∧Jx (k+1) W')) (h0:J 0 W) :
 CallsIn F n Tryz.prog 57 #[.func (.yield l) #[] #[],.pointer (some ⟨b,0,none⟩)] W fun e W'=>(∃ v,e = .returned v)∧(J (linesF s).length W'∨∃ k,Jx k W'):=by
 refine callsIn_of_wp Tryz.func57 rfl h57 ?_ hro
 simp only[Tryz.ntmps57,List.size_toArray,List.length_cons,List.length_nil,Nat.reduceAdd,Nat.reduceSub,Array.replicate_succ,Array.replicate_zero,List.push_toArray,List.append_toArray,List.nil_append,List.cons_append]
 have hc0:=cell_of (hR 0 W h0)
 gi_wp2
 gi_loopw [3] (fun p wr=>∃ k:Nat,k≤(linesF s).length∧J k wr)
  (fun p wr=>cellLen b wr)
 case atStart =>
  exact⟨0,Nat.zero_le _,h0⟩
 case round =>
  obtain⟨k,hk,hJ⟩:=hrel
  have hb:=hR k wr hJ
  have hc:=cell_of hb
  have hd:=lines_drop s k hk
  by_cases hr:restV linesF s k=[]
  ·rw[hr,linesF_nil] at hd
   have hkl:k=(linesF s).length:=by
    have:=congrArg List.length hd
    rw[List.length_drop,List.length_nil] at this;omega
   subst hkl
   rw[hr] at hc
   change wr.cell? ⟨b,0,none⟩=some (.string ⟨#[]⟩) at hc
   gi_wp2
   go_end0
   exact⟨⟨_,rfl⟩,.inl hJ⟩
  ·obtain⟨line,rest,e1,hlt,hcase⟩:=linesF_cons hr
   rw[e1] at hd
   have hkl:k<(linesF s).length:=by
    rcases Nat.lt_or_ge k (linesF s).length with h | h
    ·exact h
    ·rw[List.drop_of_length_le h] at hd;cases hd
   have hdk:=List.drop_eq_getElem_cons hkl
   rw[← hd] at hdk
   injection hdk with hdk _
   have hxk:((linesF s).map fun p=>strV p.1)[k]?=some (strV line):=by
    rw[List.getElem?_map,List.getElem?_eq_getElem hkl,← hdk];rfl
   have hrest:restV linesF s (k+1)=rest:=by
    show ((linesF s).getD k ([],[])).2=rest
    rw[List.getD_eq_getElem?_getD,List.getElem?_eq_getElem hkl,← hdk];rfl
   have hJ':=hst k wr hJ hkl
   rw[hrest] at hJ'
   have hYk:Hid (∀ W1,J' k W1→YieldAt F (n - 1) Tryz.prog l #[strV line] W1 fun e W'=>(e = .returned (.bool true)∧J (k+1) W')∨(e = .returned (.bool false)∧Jx (k+1) W')):=fun W1 h=>hY (n - 1) k (strV line) W1 hxk h
   have hnext:Hid (∀ W',J (k+1) W'→(∃ k':Nat,k'≤(linesF s).length∧J k' W')∧cellLen b W'<cellLen b wr):=by
    intro W' h
    refine⟨⟨k+1,hkl,h⟩,?_⟩
    unfold cellLen
    rw[cell_of (hR _ _ h),hc,hrest]
    show rest.toArray.size<(restV linesF s k).toArray.size
    simpa using hlt
   obtain⟨r,hrr⟩:∃ r,restV linesF s k=r:=⟨_,rfl⟩
   rw[hrr] at hc hr hcase hlt
   change wr.cell? ⟨b,0,none⟩=some (.string ⟨r.toArray⟩) at hc
   have hpos:0<r.length:=List.length_pos_iff.2 hr
   have hfz:wr.frozen? ⟨b,0,none⟩=false:=by unfold World.frozen?;rw[hb];rfl
   rcases hcase with ⟨hm1,rfl,rfl⟩ | ⟨i,hi,hil,rfl,rfl⟩
   ·have hib':∀ m w,CallsIn F m Tryz.prog 58 #[.string ⟨line.toArray⟩,.int .u8 10] w fun e w'=>e = .returned (.int .i64 (-1))∧w'=w:=fun m w=>by
     have:=hib m line w;rw[hm1] at this;exact this
    obtain⟨fn,tmps,assign,body,hy,hRd⟩:=hYk _ hJ'
    change (Instr.yield l #[.string ⟨line.toArray⟩]).run Tryz.prog (wr.setCell ⟨b,0,none⟩ (.string ⟨#[]⟩))=_ at hy
    clear hY hR hst hd hdk e1 hib
    gi_wp2_with (gi_at_call 58;refine (hib' _ _).mono ?_;rintro e w' ⟨rfl,rfl⟩)
    refine hRd.mono ?_
    rintro e W' (⟨rfl,hJ'⟩ | ⟨rfl,hJx'⟩)
    ·gi_wp2
     exact hnext _ hJ'
    ·gi_wp2
     refine bodyPost_ret (results_none rfl _ _ _) rfl ?_
     exact⟨⟨_,rfl⟩,.inr ⟨_,hJx'⟩⟩
   ·have hib':∀ m w,CallsIn F m Tryz.prog 58 #[.string ⟨r.toArray⟩,.int .u8 10] w fun e w'=>e = .returned (.int .i64 (i:Int))∧w'=w:=fun m w=>by
     have:=hib m r w;rw[hi] at this;exact this
    have hw:IntKind.i64.wrap ((i:Int)+1)=(i:Int)+1:=by
     have h1:(restV linesF s k).length≤maxLen:=by
      cases k with
      | zero=>exact hs
      | succ k =>
       show ((linesF s).getD k ([],[])).2.length≤maxLen
       rw[List.getD_eq_getElem?_getD,List.getElem?_eq_getElem (by omega)]
       exact Nat.le_trans (lines_le _ s (Nat.le_refl _) _ (List.getElem_mem _)).2 hs
     rw[hrr] at h1
     have h2:maxLen≤9223372036854775807:=by decide
     rw[IntKind.wrap_i64];omega
    have hsz:¬ (r.length:Int)<(i:Int)+1:=by omega
    have h01:0≤(i:Int)+1:=by omega
    have h02:(i:Int)+1≤(r.length:Int):=by omega
    clear hY hR hst hd hdk e1 hib hi
    gi_wp2_with (gi_at_call 58;refine (hib' _ _).mono ?_;rintro e w' ⟨rfl,rfl⟩)
    rw[show F=FW none from hF]
    refine RegW.wpIn (by kernel_rfl) ?_ (still_tail 9 (by kernel_rfl) (by kernel_rfl) ?_)
    ·intro a w h
     obtain⟨⟨v,hv⟩,_⟩:(∃ v,Ending.outgrown = .returned v)∧(J (linesF s).length w∨∃ k,Jx k w):=h
     cases hv
    simp only[List.take_succ_cons,List.take_zero,List.drop_succ_cons,List.drop_zero]
    generalize hW1:({ w' with drawn:=w'.drawn+1 }:World)=W1
    have hc2:W1.cell? ⟨b,0,none⟩=some (.string ⟨r.toArray⟩):=by rw[← hW1];exact hc
    have hfz2:W1.frozen? ⟨b,0,none⟩=false:=by rw[← hW1];exact hfz
    have hJ2:J' k (W1.setCell ⟨b,0,none⟩ (strV (r.drop (i+1)))):=by rw[← hW1];exact hdr k _ _ hJ'
    obtain⟨fn,tmps,assign,body,hy,hRd⟩:=hYk _ hJ2
    clear hc hfz hJ' hb hJ
    iterate 9 (refine wpStill_step (fun K hK => ?_);go_simp;refine hK _ ?_;clear hK)
    refine wpStill_nil ?_
    simp only[ext_take,ext_drop _ _ _ (Nat.le_refl _)]
    change (Instr.yield l #[.string ⟨(r.take (i+1)).toArray⟩]).run Tryz.prog (W1.setCell ⟨b,0,none⟩ (.string ⟨(r.drop (i+1)).toArray⟩))=_ at hy
    go_wp2
    gi_wp2
    refine hRd.mono ?_
    rintro e W' (⟨rfl,hJ'⟩ | ⟨rfl,hJx'⟩)
    ·gi_wp2
     exact hnext _ hJ'
    ·gi_wp2
     refine bodyPost_ret (results_none rfl _ _ _) rfl ?_
     exact⟨⟨_,rfl⟩,.inr ⟨_,hJx'⟩⟩
def itcLines:ItC:={ t := .un,e := .str,f:=fun _=>none,v:=some (9,linesF) }
theorem itLines(gl:List (Nat×Dat)):ItOk Tryz.prog gl 57 itcLines:=by
 refine⟨⟨_,Tryz.func57,by kernel_rfl,by kernel_rfl⟩,fun y xs hy=>(by cases hy),fun T f hv s hs => ?_⟩
 have hv:some (9,linesF)=some (T,f):=hv
 injection hv with hv
 injection hv with h1 h2
 subst h1;subst h2
 refine⟨fun p hp => ?_,fun b n l J J' Jx W hJ hJ' hJx hG hst hY h0 => ?_⟩
 ·have:=lines_le _ s (Nat.le_refl _) p hp
  exact⟨Nat.le_trans this.1 hs,Nat.le_trans this.2 hs⟩
 ·have hib:∀ (m:Nat) (r:List UInt8) (w:World),CallsIn (FW none) m Tryz.prog 58 #[.string ⟨r.toArray⟩,.int .u8 10] w fun e w'=>e = .returned (.int .i64 (Lib.indexByte r 10))∧w'=w:=fun m r w=>callsIn_wide.2 (Any.strings_IndexByte laidIdxB ⟨r.toArray⟩ 10 w)
  have hlen:((linesF s).map fun p=>strV p.1).length=(linesF s).length:=List.length_map _
  rw[hlen] at hst ⊢
  have key:=lines1_in (FW none) rfl trivial rfl hib trivial (n+1) l (by omega) b s hs J J' Jx W (fun k W' hk=>(hG k W' hk).2) (fun k X d hk=>hJ' k X _ none hk ⟨rfl,rfl,rfl,Nat.le_refl _,fun k _ _=>rfl⟩ (fun _ h=>by cases h)) hst hY h0
  exact callsIn_FW.2 (callsIn_FW.1 key)
open Go.Vc Go.Proofs Go.RowKit
def poB(n:Int)(w:List (List UInt8)):Nat→BS
 | 0=>(newF n.toNat,[],0)
 | i+1=>pLT (poB n w i) (w.getD i [])
def poG(n:Int)(w:List (List UInt8)):Nat→Bool
 | 0=>true
 | i+1=>poG n w i&&decide (pLE (poB n w i) (w.getD i [])=0)
def poE(n:Int)(w:List (List UInt8))(k:Nat):Nat→BS×Int×Int
 | 0=>(poB n w k,(poB n w k).2.2,0)
 | f+1=>if pLE (poB n w k) (w.getD k [])=0 then poE n w (k+1) f else (poB n w k,(poB n w k).2.2+1,pLE (poB n w k) (w.getD k []))
def wholeL(s:List UInt8):List (List UInt8):=(splL 10 s).dropLast
def poR(n:Int)(s:List UInt8):BS×Int×Int:=poE n (wholeL s) 0 (wholeL s).length
structure POpenOk(n:Int)(s:List UInt8):Prop where
 le:s.length≤1100000
 ok:∀ i,i<(wholeL s).length→poG n (wholeL s) i=true→BkOk (poB n (wholeL s) i)
def oBOpen:OCtr:=fun args ob k=>match args,ob with
 | [.d (.int .i64) n,.d .str s],[]=>s.length≤1100000∧(inB n 1 5=false→k (.tp [.nilp,.d I (0:Int),.d tErr (1:Int)]) []) ∧
  (inB n 1 5=true→POpenOk n s∧((poR n s).2.2=0→k (.tp [.ps 0,.d I (poR n s).2.1,.d tErr (0:Int)]) (obB (poR n s).1))∧((poR n s).2.2≠0→k (.tp [.nilp,.d I (poR n s).2.1,.d tErr (poR n s).2.2]) []))
 | _,_=>False
structure OpSt(n:Int)(s:List UInt8)(x:Nat):Prop where
 b:inB n 1 5=true
 le:x≤(wholeL s).length
 g:poG n (wholeL s) x=true
def obAt(b:BS):List Ob:=[.st 66 [.ps 4,.sf 3 1,.os 5,.d I b.2.2],.st 96 [.os 6,.os 7],.buf 5 b.2.1,.row 98 tRow b.1.1,.row 3 I b.1.2.1]
def anBOpen(n:Int)(s:List UInt8):Ann:=[joinAll,
 rangeAt 6 .str Nat (fun x=>((linesF s).map (·.1)).take x) (fun st x=>{ St.only st [4,5,6,7,23] with ob:=st.ob.take 3++obAt (poB n (wholeL s) x)++[.st 24 [.ps 3],.var 9 .str (restV linesF s x)] }) (fun _ x=>OpSt n s x)]
open Go.Vc
set_option linter.unusedVariables false
theorem vcBOpen(v:GV)(n:Int)(s:List UInt8)(k:SV→List Ob→Prop):vcO ⟨Elr,[(33,cCutS)],glO v,[(57,itcLines)],[(25,oBNew),(32,oLines),(34,oBL)]⟩ (anBOpen n s) (Tryz.f15.body.getD .skip) Tryz.f15.ntmps [(.cell 4 24,.un),(.cell 5 3,I),(.cell 6 29,tErr)] [.d I n,.d .str s] [] k=(
 (inB n 1 5=false→((!decide (1=(0:Int)))=true→k (SV.tp [SV.nilp,SV.d (I) 0,SV.d (Ty.err 73) 1]) [])∧((!decide (1=(0:Int)))=false→(∃ (x:Nat),OpSt n s x∧List.take x (List.map (fun (x:List UInt8×List UInt8)=>x.fst) (linesF s))=[]∧(([]:List Nat)=[]∧([]:List Nat)=[]∧([]:List Nat)=[]∧([]:List Nat)=[]∧True∧True)∧((24=24∧(none:Option tBk.D)=none)∧(3=3∧0=(0:Int))∧(29=29∧0=(0:Int))∧False∧False∧False∧False∧False∧False∧False∧True)∧n=n∧s=s∧Lib.pow10Tab=Lib.pow10Tab∧Value.int IntKind.i64 v.m=Value.int IntKind.i64 v.m∧Value.iface v.t1 v.p1=Value.iface v.t1 v.p1∧Value.iface v.t2 v.p2=Value.iface v.t2 v.p2∧True)∧(∀ (x:Nat),OpSt n s x→True∧False)∧(∀ (x:Nat) (y:List UInt8) (rest:List (List UInt8)),OpSt n s x→List.map (fun (x:List UInt8×List UInt8)=>x.fst) (linesF s)=List.take x (List.map (fun (x:List UInt8×List UInt8)=>x.fst) (linesF s))++y::rest→True∧((!Lib.hasSuffix y [(10:UInt8)])=true→False)∧((!Lib.hasSuffix y [(10:UInt8)])=false→False))∧∀ (x:Nat),OpSt n s x→List.take x (List.map (fun (x:List UInt8×List UInt8)=>x.fst) (linesF s))=List.map (fun (x:List UInt8×List UInt8)=>x.fst) (linesF s)→False))∧(inB n 1 5=true→((!decide (0=(0:Int)))=true→k (SV.tp [SV.nilp,SV.d (I) 0,SV.d (Ty.err 73) 0]) [])∧((!decide (0=(0:Int)))=false→(∃ (x:Nat),OpSt n s x∧List.take x (List.map (fun (x:List UInt8×List UInt8)=>x.fst) (linesF s))=[]∧(([]:List Nat)=[]∧([]:List Nat)=[]∧([]:List Nat)=[]∧([]:List Nat)=[]∧True∧True)∧((24=24∧(none:Option tBk.D)=none)∧(3=3∧0=(0:Int))∧(29=29∧0=(0:Int))∧(True∧True∧True∧0=(poB n (wholeL s) x).snd.snd∧True)∧(True∧True∧True)∧[]=(poB n (wholeL s) x).snd.fst∧(98=98∧List.replicate n.toNat (List.replicate 4 [])=(poB n (wholeL s) x).fst.fst)∧(3=3∧List.replicate n.toNat 0=(poB n (wholeL s) x).fst.snd.fst)∧(True∧True)∧(9=9∧s=restV linesF s x)∧True)∧n=n∧s=s∧Lib.pow10Tab=Lib.pow10Tab∧Value.int IntKind.i64 v.m=Value.int IntKind.i64 v.m∧Value.iface v.t1 v.p1=Value.iface v.t1 v.p1∧Value.iface v.t2 v.p2=Value.iface v.t2 v.p2∧True)∧(∀ (x:Nat),OpSt n s x→True∧9=9∧restV linesF s x=restV linesF s (List.take x (List.map (fun (x:List UInt8×List UInt8)=>x.fst) (linesF s))).length)∧(∀ (x:Nat) (y:List UInt8) (rest:List (List UInt8)),OpSt n s x→List.map (fun (x:List UInt8×List UInt8)=>x.fst) (linesF s)=List.take x (List.map (fun (x:List UInt8×List UInt8)=>x.fst) (linesF s))++y::rest→True∧((!Lib.hasSuffix y [(10:UInt8)])=true→(SV.ps 3=SV.ps 3∧SV.d (I) (poB n (wholeL s) x).snd.snd=SV.d (I) (poB n (wholeL s) x).snd.snd∧True)∧k (SV.tp [SV.ps 0,SV.d (I) (poB n (wholeL s) x).snd.snd,SV.d (Ty.err 73) 0]) [Ob.st 66 [SV.ps 1,SV.sf 0 1,SV.os 2,SV.d (I) (poB n (wholeL s) x).snd.snd],Ob.st 96 [SV.os 3,SV.os 4],Ob.buf 5 (poB n (wholeL s) x).snd.fst,Ob.row 98 tRow (poB n (wholeL s) x).fst.fst,Ob.row 3 (I) (poB n (wholeL s) x).fst.snd.fst])∧((!Lib.hasSuffix y [(10:UInt8)])=false→inK IntKind.i64 ((poB n (wholeL s) x).snd.snd+(1:Int))∧(BkOk (((poB n (wholeL s) x).fst.fst,(poB n (wholeL s) x).fst.snd.fst,()),(poB n (wholeL s) x).snd.fst,(poB n (wholeL s) x).snd.snd)∧(Lib.trimSuffix y [(10:UInt8)]).length≤1100000)∧((!decide (pLE (((poB n (wholeL s) x).fst.fst,(poB n (wholeL s) x).fst.snd.fst,()),(poB n (wholeL s) x).snd.fst,(poB n (wholeL s) x).snd.snd) (Lib.trimSuffix y [(10:UInt8)])=(0:Int)))=true→k (SV.tp [SV.nilp,SV.d (I) ((poB n (wholeL s) x).snd.snd+(1:Int)),SV.d (Ty.err 73) (pLE (((poB n (wholeL s) x).fst.fst,(poB n (wholeL s) x).fst.snd.fst,()),(poB n (wholeL s) x).snd.fst,(poB n (wholeL s) x).snd.snd) (Lib.trimSuffix y [(10:UInt8)]))]) [])∧((!decide (pLE (((poB n (wholeL s) x).fst.fst,(poB n (wholeL s) x).fst.snd.fst,()),(poB n (wholeL s) x).snd.fst,(poB n (wholeL s) x).snd.snd) (Lib.trimSuffix y [(10:UInt8)])=(0:Int)))=false→∃ (x_1:Nat),OpSt n s x_1∧List.take x_1 (List.map (fun (x:List UInt8×List UInt8)=>x.fst) (linesF s))=List.take x (List.map (fun (x:List UInt8×List UInt8)=>x.fst) (linesF s))++[y]∧(([]:List Nat)=[]∧([]:List Nat)=[]∧([]:List Nat)=[]∧([]:List Nat)=[]∧True∧True)∧((24=24∧(none:Option tBk.D)=none)∧(3=3∧0=(0:Int))∧(29=29∧0=(0:Int))∧(True∧True∧True∧(pLT (((poB n (wholeL s) x).fst.fst,(poB n (wholeL s) x).fst.snd.fst,()),(poB n (wholeL s) x).snd.fst,(poB n (wholeL s) x).snd.snd) (Lib.trimSuffix y [(10:UInt8)])).snd.snd=(poB n (wholeL s) x_1).snd.snd∧True)∧(True∧True∧True)∧(pLT (((poB n (wholeL s) x).fst.fst,(poB n (wholeL s) x).fst.snd.fst,()),(poB n (wholeL s) x).snd.fst,(poB n (wholeL s) x).snd.snd) (Lib.trimSuffix y [(10:UInt8)])).snd.fst=(poB n (wholeL s) x_1).snd.fst∧(98=98∧(pLT (((poB n (wholeL s) x).fst.fst,(poB n (wholeL s) x).fst.snd.fst,()),(poB n (wholeL s) x).snd.fst,(poB n (wholeL s) x).snd.snd) (Lib.trimSuffix y [(10:UInt8)])).fst.fst=(poB n (wholeL s) x_1).fst.fst)∧(3=3∧(pLT (((poB n (wholeL s) x).fst.fst,(poB n (wholeL s) x).fst.snd.fst,()),(poB n (wholeL s) x).snd.fst,(poB n (wholeL s) x).snd.snd) (Lib.trimSuffix y [(10:UInt8)])).fst.snd.fst=(poB n (wholeL s) x_1).fst.snd.fst)∧(True∧True)∧(9=9∧restV linesF s ((List.take x (List.map (fun (x:List UInt8×List UInt8)=>x.fst) (linesF s))).length+1)=restV linesF s x_1)∧True)∧n=n∧s=s∧Lib.pow10Tab=Lib.pow10Tab∧Value.int IntKind.i64 v.m=Value.int IntKind.i64 v.m∧Value.iface v.t1 v.p1=Value.iface v.t1 v.p1∧Value.iface v.t2 v.p2=Value.iface v.t2 v.p2∧True)))∧∀ (x:Nat),OpSt n s x→List.take x (List.map (fun (x:List UInt8×List UInt8)=>x.fst) (linesF s))=List.map (fun (x:List UInt8×List UInt8)=>x.fst) (linesF s)→(SV.ps 3=SV.ps 3∧SV.d (I) (poB n (wholeL s) x).snd.snd=SV.d (I) (poB n (wholeL s) x).snd.snd∧True)∧k (SV.tp [SV.ps 0,SV.d (I) (poB n (wholeL s) x).snd.snd,SV.d (Ty.err 73) 0]) [Ob.st 66 [SV.ps 1,SV.sf 0 1,SV.os 2,SV.d (I) (poB n (wholeL s) x).snd.snd],Ob.st 96 [SV.os 3,SV.os 4],Ob.buf 5 (poB n (wholeL s) x).snd.fst,Ob.row 98 tRow (poB n (wholeL s) x).fst.fst,Ob.row 3 (I) (poB n (wholeL s) x).fst.snd.fst]))):=by kernel_rfl
open Go.Vc Go.Proofs Go.RowKit
theorem poE_at(n:Int)(w:List (List UInt8))(m:Nat):∀ x,x≤m→poG n w x=true→poE n w 0 m=poE n w x (m - x)
 | 0,_,_=>rfl
 | x+1,hx,hg=>by
  simp only[poG,Bool.and_eq_true,decide_eq_true_eq] at hg
  rw[poE_at n w m x (by omega) hg.1,show m - x=(m - (x+1))+1 by omega]
  show (if pLE (poB n w x) (w.getD x [])=0 then poE n w (x+1) (m - (x+1)) else _)=_
  rw[if_pos hg.2]
theorem has10(l:List UInt8):Lib.hasSuffix (l++[10]) [10]=true∧Lib.trimSuffix (l++[10]) [10]=l:=by
 have h:Lib.hasSuffix (l++[10]) [10]=true:=by
  unfold Lib.hasSuffix
  rw[List.isSuffixOf_iff_suffix]
  exact List.suffix_append _ _
 refine⟨h,?_⟩
 unfold Lib.trimSuffix
 rw[if_pos h]
 simp
theorem no10{l:List UInt8}(h:(10:UInt8)∉l):Lib.hasSuffix l [10]=false:=by
 rw[Bool.eq_false_iff]
 intro hs
 unfold Lib.hasSuffix at hs
 rw[List.isSuffixOf_iff_suffix] at hs
 exact h (hs.subset (by simp))
theorem lines_whole(s:List UInt8):∃ p:List UInt8,(10:UInt8)∉p∧(linesF s).map (·.1)=(wholeL s).map (· ++ [10])++(if p=[] then[] else[p]):=by
 obtain⟨x,p,h1,h2⟩:=lines_spl s
 refine⟨p,splL_no 10 s p (by rw[h1];simp),?_⟩
 have:wholeL s=x:=by unfold wholeL;rw[h1];simp
 rw[this];exact h2
theorem line_at{s:List UInt8}{x:Nat}{y:List UInt8}{rest:List (List UInt8)}(hx:x≤(wholeL s).length)(h:(linesF s).map (·.1)=((linesF s).map (·.1)).take x++y::rest) :
 x<(linesF s).length∧((x<(wholeL s).length∧Lib.hasSuffix y [10]=true∧Lib.trimSuffix y [10]=(wholeL s).getD x [])∨(x=(wholeL s).length∧Lib.hasSuffix y [10]=false))∧((linesF s).map (·.1)).take (x+1)=((linesF s).map (·.1)).take x++[y]:=by
 have hlen:=congrArg List.length h
 rw[List.length_append,List.length_take,List.length_cons,List.length_map] at hlen
 have hxl:x<(linesF s).length:=by
  rcases Nat.lt_or_ge x (linesF s).length with h | h
  ·exact h
  ·rw[Nat.min_eq_right h] at hlen;omega
 have hy:((linesF s).map (·.1))[x]?=some y:=by
  rw[h,List.getElem?_append_right (by rw[List.length_take];omega),List.length_take,List.length_map,Nat.min_eq_left (Nat.le_of_lt hxl),Nat.sub_self];rfl
 refine⟨hxl,?_,by rw[List.take_add_one,hy];rfl⟩
 obtain⟨p,hp,e⟩:=lines_whole s
 rw[e] at hy
 rcases Nat.lt_or_eq_of_le hx with hlt | heq
 ·left
  rw[List.getElem?_append_left (by rw[List.length_map];exact hlt),List.getElem?_map,List.getElem?_eq_getElem hlt] at hy
  injection hy with hy
  refine⟨hlt,?_⟩
  rw[← hy,List.getD_eq_getElem?_getD,List.getElem?_eq_getElem hlt]
  exact has10 _
 ·right
  refine⟨heq,?_⟩
  rw[List.getElem?_append_right (by rw[List.length_map];omega),List.length_map,heq,Nat.sub_self] at hy
  split at hy
  ·simp at hy
  ·simp at hy;rw[← hy];exact no10 hp
theorem whole_le(s:List UInt8):(wholeL s).length≤(linesF s).length:=by
 obtain⟨p,_,e⟩:=lines_whole s
 have:=congrArg List.length e
 rw[List.length_map,List.length_append,List.length_map] at this
 omega
theorem ownBOpen(v:GV):OwnOk Tryz.prog (glO v) 15 oBOpen:=by
 refine own_of (CxOk.mk' Elr_ok (by kernel_rfl) mixed (gl:=glO v) (GOk.cons okCutS.lift Tryz.func33 (by kernel_rfl) (by kernel_rfl) GOk.nil) (GoOk.cons ownBNew.lift Tryz.func25 (by kernel_rfl) (by kernel_rfl) (GoOk.cons ownLines.lift Tryz.func32 (by kernel_rfl) (by kernel_rfl) (GoOk.cons (ownBL v) Tryz.func34 (by kernel_rfl) (by kernel_rfl) GoOk.nil))) (it:=[(57,itcLines)]) (fun g c h=>by
  obtain⟨rfl,rfl⟩:=Prod.mk.inj (List.mem_singleton.1 h)
  exact itLines _)) Tryz.func15 (c:=Tryz.f15.body.getD .skip) (rvs:=[(.cell 4 24,.un),(.cell 5 3,I),(.cell 6 29,tErr)]) (by kernel_rfl) (by kernel_rfl) (by kernel_rfl) ?_
 intro args ob k h hwa hwo
 unfold oBOpen at h
 split at h
 ·rename_i n s
  obtain⟨hle,hno,hyes⟩:=h
  refine⟨anBOpen n s,?_⟩
  show vcO _ _ _ _ _ [.d I n,.d .str s] [] k
  rw[vcBOpen]
  refine⟨fun hb=>⟨fun _=>hno hb,fun h=>absurd h (by decide)⟩,fun hb=>⟨fun h=>absurd h (by decide),fun _ => ?_⟩⟩
  obtain⟨hP,hok,her⟩:=hyes hb
  have hend:∀ x,poG n (wholeL s) x=true→x=(wholeL s).length→k (.tp [.ps 0,.d I (poB n (wholeL s) x).2.2,.d tErr (0:Int)]) (obB (poB n (wholeL s) x)):=by
   intro x hg hx
   have e:poR n s=(poB n (wholeL s) x,(poB n (wholeL s) x).2.2,0):=by
    unfold poR;rw[poE_at n (wholeL s) _ x (by omega) hg,show (wholeL s).length - x=0 by omega];rfl
   rw[e] at hok;exact hok rfl
  refine⟨⟨0,⟨hb,Nat.zero_le _,rfl⟩,?_⟩,fun x hx=>⟨trivial,rfl,?_⟩,fun x y rest hx hl=>⟨trivial,fun hs => ?_,fun hs => ?_⟩,fun x hx hl => ?_⟩
  ·refine⟨rfl,?_⟩
   repeat' apply And.intro
   all_goals first | trivial | rfl
  ·rw[List.length_take,List.length_map,Nat.min_eq_left]
   have:=whole_le s
   have:=hx.le
   omega
  ·obtain⟨hxl,hc,ht⟩:=line_at hx.le hl
   rcases hc with ⟨_,h1,_⟩ | ⟨h1,_⟩
   ·rw[h1] at hs;cases hs
   ·exact⟨⟨rfl,rfl,trivial⟩,hend x hx.g h1⟩
  ·obtain⟨hxl,hc,ht⟩:=line_at hx.le hl
   rcases hc with ⟨hlt,h1,h2⟩ | ⟨_,h1⟩
   ·have hB:=hP.ok x hlt hx.g
    have hm:(wholeL s).getD x []∈splL 10 s:=by
     have:(wholeL s).getD x []=(wholeL s)[x]:=by rw[List.getD_eq_getElem?_getD,List.getElem?_eq_getElem hlt];rfl
     rw[this]
     exact List.dropLast_subset _ (List.getElem_mem hlt)
    have hwl:=Nat.le_trans (splL_le 10 s _ hm) hle
    rw[h2]
    have hbb:(((poB n (wholeL s) x).1.1,(poB n (wholeL s) x).1.2.1,()),(poB n (wholeL s) x).2.1,(poB n (wholeL s) x).2.2)=poB n (wholeL s) x:=rfl
    rw[hbb]
    have hlo:=hB.lo
    have hhi:=hB.hi
    refine⟨inK_i64.2 ⟨by omega,by omega⟩,⟨hB,hwl⟩,fun he => ?_,fun he => ?_⟩
    ·have he:¬ pLE (poB n (wholeL s) x) ((wholeL s).getD x [])=0:=by simpa using he
     have e:poR n s=(poB n (wholeL s) x,(poB n (wholeL s) x).2.2+1,pLE (poB n (wholeL s) x) ((wholeL s).getD x [])):=by
      unfold poR;rw[poE_at n (wholeL s) _ x (by omega) hx.g,show (wholeL s).length - x=((wholeL s).length - x - 1)+1 by omega]
      show (if pLE (poB n (wholeL s) x) ((wholeL s).getD x [])=0 then _ else _)=_
      rw[if_neg he]
     rw[e] at her;exact her he
    ·have he:pLE (poB n (wholeL s) x) ((wholeL s).getD x [])=0:=by simpa using he
     refine⟨x+1,⟨hb,hlt,?_⟩,ht,?_⟩
     ·simp only[poG,hx.g,he,decide_true,Bool.and_self]
     ·have hmin:(List.take x ((linesF s).map (·.1))).length=x:=by rw[List.length_take,List.length_map];omega
      rw[hmin]
      repeat' apply And.intro
      all_goals first | trivial | rfl
   ·rw[h1] at hs;cases hs
  ·have hlen:=congrArg List.length hl
   rw[List.length_take,List.length_map] at hlen
   have:=whole_le s
   have:=hx.le
   exact⟨⟨rfl,rfl,trivial⟩,hend x hx.g (by omega)⟩
 ·exact h.elim
end Go.Proofs.YthdbbgajmgjfcaaGreatDoor
