/- Own texts, merged and cut: B0, BkI, BkB, BkC, GDef, GDef2, GV2, GV, GOk, GM, GSort, GOk2, GM2, HDef, HV, HOk, HOk2, HM, JDef, JV, JOk, JLaw, BkD, BkS, KV, BkT, As, Er, BkU, KV2. -/
import Derived.Test.YthdbbgajmgjfcaaGreatDoorRows
import Derived.Test.YthdbbgajmgjfcaaGreatDoorTBRowVQ
import Derived.Test.YthdbbgajmgjfcaaGreatDoorTBRowVNB
import Derived.Shelf.Strconv.Itoa3
import Derived.Test.YthdbbgajmgjfcaaGreatDoorTBRowVPA
import Derived.Shelf.Strings.BuilderK
import Derived.Lib.UnsafeStr
import Derived.Test.YthdbbgajmgjfcaaGreatDoorTBRowVSO
import Derived.Test.YthdbbgajmgjfcaaGreatDoorChecked
import Derived.WalkKit
import Derived.LaidEql
import Derived.Stop.Asserts
import Derived.RowKitTokens
namespace Go.Proofs.YthdbbgajmgjfcaaGreatDoor
open Go.Vc
abbrev I:Ty := .int .i64
abbrev tErr:Ty := .err 73
def Eb:Env:={ tys:=[(3,I),(4,.bool),(9,.str),(29,tErr),(32,.sl I)],errT:=73,eqs:=[],els:=[(32,3)] }
theorem Eb_ok:EnvOk Tryz.prog Eb:=EnvOk.of_list (by kernel_rfl) (by kernel_rfl) (by kernel_rfl)
def inB(n lo hi:Int):Bool:=decide (lo≤n)&&decide (n≤hi)
def cWithin:Ctr:=cdet [I,I,I] (fun _ _ _=>True) (fun a b c=>[⟨.bool,inB a b c⟩])
def cNaN:Ctr:=cdet [I] (fun _=>True) (fun _=>[⟨.bool,false⟩])
def cmpI(a b:Int):Int:=if a<b then -1 else if b<a then 1 else 0
def cCmp:Ctr:=cdet [I,I] (fun _ _=>True) (fun a b=>[⟨I,cmpI a b⟩])
def cInts:Ctr:=cdet [.sl I,.sl I] (fun _ _=>True) (fun a b=>[⟨.bool,decide (a=b)⟩])
def anInts(a b:List Int):Ann:=[joinAll,loopAt 4 Nat [] (fun st i=>St.at (St.only st [0,1]) [(5,.d I (i:Int))]) (fun _ i=>i≤a.length∧a.length=b.length∧a.take i=b.take i) (fun i=>a.length - i)]
def oCloneI:OCtr:=fun args ob k=>match args,ob with
 | [.d (.sl (.int .i64)) l],[]=>(l:List Int).length≤1000000000∧k (.os 0) [.row 3 (.int .i64) (l:List Int)]
 | _,_=>False
set_option linter.unusedVariables false
theorem vcWithin(a b c:Int)(k:List Dat→Prop):vcF ⟨Eb,[],[],[],[]⟩ [joinAll] (Tryz.f48.body.getD .skip) Tryz.f48.ntmps [(.tmp 6,.bool)] [⟨I,a⟩,⟨I,b⟩,⟨I,c⟩] k=(
 (decide (b≤a)=true→k [Dat.mk Ty.bool (decide (a≤c))])∧(decide (b≤a)=false→k [Dat.mk Ty.bool false])):=by kernel_rfl
theorem vcNaN(a:Int)(k:List Dat→Prop):vcF ⟨Eb,[],[],[],[]⟩ [] (Tryz.f79.body.getD .skip) Tryz.f79.ntmps [(.tmp 2,.bool)] [⟨I,a⟩] k=(
 k [Dat.mk Ty.bool !decide (a=a)]):=by kernel_rfl
theorem vcCmp(a b:Int)(k:List Dat→Prop):vcF ⟨Eb,[(79,cNaN)],[],[],[]⟩ [joinAll] (Tryz.f55.body.getD .skip) Tryz.f55.ntmps [(.tmp 4,I)] [⟨I,a⟩,⟨I,b⟩] k=(
 True∧True∧(false=true→(false=true→k [Dat.mk (I) (0:Int)])∧(false=false→k [Dat.mk (I) (-1:Int)]))∧(false=false→(false=true→k [Dat.mk (I) (1:Int)])∧(false=false→(decide (a<b)=true→k [Dat.mk (I) (-1:Int)])∧(decide (a<b)=false→(decide (b<a)=true→k [Dat.mk (I) (1:Int)])∧(decide (b<a)=false→k [Dat.mk (I) (0:Int)]))))):=by kernel_rfl
theorem vcInts(a b:List Int)(k:List Dat→Prop):vcF ⟨Eb,[],[],[],[]⟩ (anInts a b) (Tryz.f41.body.getD .skip) Tryz.f41.ntmps [(.tmp 4,.bool)] [⟨.sl I,a⟩,⟨.sl I,b⟩] k=(
 ((!decide ((↑a.length:Int)=(↑b.length:Int)))=true→k [Dat.mk Ty.bool false])∧((!decide ((↑a.length:Int)=(↑b.length:Int)))=false→(∃ (x:Nat),(x≤a.length∧a.length=b.length∧List.take x a=List.take x b)∧(a=a∧b=b∧(0:Int)=(↑x:Int)∧True)∧True∧True)∧∀ (x:Nat),x≤a.length∧a.length=b.length∧List.take x a=List.take x b→(decide ((↑x:Int)<(↑a.length:Int))=true→((0:Int)≤(↑x:Int)∧(↑x:Int)<(↑a.length:Int)∧(0:Int)≤(↑x:Int)∧(↑x:Int)<(↑b.length:Int)∧True)∧((!decide (a.getD (↑x:Int).toNat (0:Int)=b.getD (↑x:Int).toNat (0:Int)))=true→k [Dat.mk Ty.bool false])∧((!decide (a.getD (↑x:Int).toNat (0:Int)=b.getD (↑x:Int).toNat (0:Int)))=false→inK IntKind.i64 ((↑x:Int)+(1:Int))∧∃ (x_1:Nat),(x_1≤a.length∧a.length=b.length∧List.take x_1 a=List.take x_1 b)∧a.length - x_1<a.length - x∧(a=a∧b=b∧(↑x:Int)+(1:Int)=(↑x_1:Int)∧True)∧True∧True))∧(decide ((↑x:Int)<(↑a.length:Int))=false→k [Dat.mk Ty.bool true]))):=by kernel_rfl
theorem vcCloneI(l:List Int)(k:SV→List Ob→Prop):vcO ⟨Eb,[],[],[],[]⟩ [] (Tryz.f56.body.getD .skip) Tryz.f56.ntmps [(.tmp 2,.un)] [.d (.sl I) l] [] k=(
 ∀ (b:Bool),(b=true→l=[])→(b=true→k SV.nils [])∧(b=false→([]:List Int).length+l.length≤(1000000000:Nat)∧k (SV.os (0:Nat)) [Ob.row (3:Nat) (I) l])):=by kernel_rfl
theorem mixed:Tryz.prog.follows .mixedOrders=true:=by kernel_rfl
theorem okWithin[Dn]:PlainOk Tryz.prog [] 48 cWithin:=by
 refine plain_of (CxOk.mk' Eb_ok (by kernel_rfl) mixed (gl:=[]) GOk.nil GoOk.nil noIt) Tryz.func48 (c:=Tryz.f48.body.getD .skip) (rvs:=[(.tmp 6,.bool)]) (by kernel_rfl) (by kernel_rfl) (by kernel_rfl) ?_
 intro ds k ⟨hp,hk⟩ hwf
 obtain⟨a,b,c,rfl,-⟩:=dest3 hp
 refine⟨[joinAll],?_⟩
 rw[vcWithin]
 have ret:∀ x:Bool,inB a b c=x→k [⟨.bool,x⟩]:=by rintro _ rfl;exact hk
 exact⟨fun h=>ret _ (by unfold inB;rw[h];rfl),fun h=>ret _ (by unfold inB;rw[h];rfl)⟩
theorem okNaN[Dn]:PlainOk Tryz.prog [] 79 cNaN:=by
 refine plain_of (CxOk.mk' Eb_ok (by kernel_rfl) mixed (gl:=[]) GOk.nil GoOk.nil noIt) Tryz.func79 (c:=Tryz.f79.body.getD .skip) (rvs:=[(.tmp 2,.bool)]) (by kernel_rfl) (by kernel_rfl) (by kernel_rfl) ?_
 intro ds k ⟨hp,hk⟩ hwf
 obtain⟨a,rfl,-⟩:=dest1 hp
 refine⟨[],?_⟩
 rw[vcNaN]
 have hk:k [⟨.bool,false⟩]:=hk
 simpa using hk
theorem okCmp[Dn]:PlainOk Tryz.prog [] 55 cCmp:=by
 refine plain_of (CxOk.mk' Eb_ok (by kernel_rfl) mixed (gl:=[]) (GOk.cons okNaN Tryz.func79 (by kernel_rfl) (by kernel_rfl) GOk.nil) GoOk.nil noIt) Tryz.func55 (c:=Tryz.f55.body.getD .skip) (rvs:=[(.tmp 4,I)]) (by kernel_rfl) (by kernel_rfl) (by kernel_rfl) ?_
 intro ds k ⟨hp,hk⟩ hwf
 obtain⟨a,b,rfl,-⟩:=dest2 hp
 refine⟨[joinAll],?_⟩
 rw[vcCmp]
 have ret:∀ x:Int,cmpI a b=x→k [⟨I,x⟩]:=by rintro _ rfl;exact hk
 simp only[decide_eq_true_eq,decide_eq_false_iff_not,true_and,forall_const,reduceCtorEq,false_implies]
 refine⟨fun h=>ret _ (by unfold cmpI;rw[if_pos h]),fun h=>⟨fun h2=>ret _ (by unfold cmpI;rw[if_neg h,if_pos h2]),fun h2=>ret _ (by unfold cmpI;rw[if_neg h,if_neg h2])⟩⟩
theorem take_succ_eq{α:Type}{a b:List α}{x:Nat}(ha:x<a.length)(hb:x<b.length)(h:a.take x=b.take x)(d:α)(he:a.getD x d=b.getD x d):a.take (x+1)=b.take (x+1):=by
 rw[List.getD_eq_getElem?_getD,List.getD_eq_getElem?_getD,List.getElem?_eq_getElem ha,List.getElem?_eq_getElem hb] at he
 have he':a[x]=b[x]:=by simpa using he
 rw[List.take_succ_eq_append_getElem ha,List.take_succ_eq_append_getElem hb,h,he']
theorem ints_vc(a b:List Int)(hl:a.length≤maxLen)(k:List Dat→Prop)(hk:k [⟨.bool,decide (a=b)⟩]):vcF ⟨Eb,[],[],[],[]⟩ (anInts a b) (Tryz.f41.body.getD .skip) Tryz.f41.ntmps [(.tmp 4,.bool)] [⟨.sl I,a⟩,⟨.sl I,b⟩] k:=by
 rw[vcInts]
 have hml:maxLen≤9223372036854775807:=by decide
 have ret:∀ x:Bool,decide (a=b)=x→k [⟨.bool,x⟩]:=by rintro _ rfl;exact hk
 simp only[decide_eq_true_eq,decide_eq_false_iff_not,true_and,and_true,Bool.not_eq_true',Bool.not_eq_false',Int.toNat_natCast,inK_i64]
 refine⟨fun h=>ret _ (decide_eq_false fun e=>h (by rw[e])),fun h=>⟨⟨0,⟨Nat.zero_le _,by omega,by simp⟩,rfl⟩,fun x ⟨hx,hab,ho⟩=>⟨fun hlt => ?_,fun hge=>ret _ ?_⟩⟩⟩
 ·refine⟨⟨by omega,hlt,by omega,by omega⟩,fun he=>ret _ (decide_eq_false fun e=>he (by rw[e])),fun he=>⟨by omega,x+1,⟨by omega,hab,take_succ_eq (by omega) (by omega) ho 0 he⟩,by omega,by omega⟩⟩
 ·have hxl:x=a.length:=by omega
  rw[hxl,List.take_length,hab,List.take_length] at ho
  exact decide_eq_true ho
theorem okInts:PlainOk Tryz.prog [] 41 cInts:=by
 refine plain_of (CxOk.mk' Eb_ok (by kernel_rfl) mixed (gl:=[]) GOk.nil GoOk.nil noIt) Tryz.func41 (c:=Tryz.f41.body.getD .skip) (rvs:=[(.tmp 4,.bool)]) (by kernel_rfl) (by kernel_rfl) (by kernel_rfl) ?_
 intro ds k ⟨hp,hk⟩ hwf
 obtain⟨a,b,rfl,-⟩:=dest2 hp
 exact⟨anInts a b,ints_vc a b (wf2 hwf).1.1 k hk⟩
theorem ownCloneI:OwnOk Tryz.prog [] 56 oCloneI:=by
 refine own_nilrow (oc:=fun args ob k=>∃ l:List Int,args=[.d (.sl I) l]∧ob=[]∧l.length≤1000000000∧(l=[]→k .nils [])∧k (.os 0) [.row 3 I l]) ?_ 3 I ?_
 ·refine own_of (CxOk.mk' Eb_ok (by kernel_rfl) mixed (gl:=[]) GOk.nil GoOk.nil noIt) Tryz.func56 (c:=Tryz.f56.body.getD .skip) (rvs:=[(.tmp 2,.un)]) (by kernel_rfl) (by kernel_rfl) (by kernel_rfl) ?_
  rintro args ob k ⟨l,rfl,rfl,hl,h1,h2⟩ hwa hwo
  refine⟨[],?_⟩
  rw[vcCloneI]
  exact fun b hb=>⟨fun e=>h1 (hb e),fun _=>⟨by simpa using hl,h2⟩⟩
 ·intro args ob k h
  unfold oCloneI at h
  split at h
  ·rename_i l
   exact⟨rfl,l,rfl,rfl,h.1,(fun e=>by subst e;exact h.2),h.2⟩
  ·exact h.elim
theorem cmpI_lt{a b:Int}:cmpI a b<0↔a<b:=by
 unfold cmpI
 by_cases h:a<b
 ·simp[h]
 ·by_cases h2:b<a<;>simp[h,h2]
theorem cmpI_z{a b:Int}:cmpI a b=0↔a=b:=by
 unfold cmpI
 by_cases h:a<b
 ·simp[h];omega
 ·by_cases h2:b<a
  ·simp[h,h2];omega
  ·simp[h,h2];omega
open Go.Shelf Go.Proofs Go.RowKit
def laidItoa_ren:Go.Shelf.Ren:=⟨fun | 171=>64 | 243=>85 | 246=>113 | 283=>133 | 284=>134 | 285=>135 | 286=>136 | 129=>106 | 317=>147 | 318=>148 | 319=>149 | 320=>150 | 337=>154 | 338=>155 | n=>n,fun | 3=>3 | 9=>9 | 2=>2 | 4=>4 | 171=>194 | 0=>0 | 53=>159 | 37=>38 | 5=>5 | 173=>196 | 212=>207 | 51=>157 | 20=>20 | 213=>208 | 46=>128 | 232=>219 | 233=>220 | n=>n,fun | 17=>4 | 18=>7 | 19=>8 | n=>n⟩
theorem laidItoa:Go.Proofs.LaysM.n171 Tryz.prog laidItoa_ren where
 mixed:=by kernel_rfl
 f129:=Tryz.func106.trans (congrArg some (by kernel_rfl))
 f171:=Tryz.func64.trans (congrArg some (by kernel_rfl))
 f243:=Tryz.func85.trans (congrArg some (by kernel_rfl))
 f246:=Tryz.func113.trans (congrArg some (by kernel_rfl))
 f283:=Tryz.func133.trans (congrArg some (by kernel_rfl))
 f284:=Tryz.func134.trans (congrArg some (by kernel_rfl))
 f285:=Tryz.func135.trans (congrArg some (by kernel_rfl))
 f286:=Tryz.func136.trans (congrArg some (by kernel_rfl))
 f317:=Tryz.func147.trans (congrArg some (by kernel_rfl))
 f318:=Tryz.func148.trans (congrArg some (by kernel_rfl))
 f319:=Tryz.func149.trans (congrArg some (by kernel_rfl))
 f320:=Tryz.func150.trans (congrArg some (by kernel_rfl))
 f337:=Tryz.func154.trans (congrArg some (by kernel_rfl))
 f338:=Tryz.func155.trans (congrArg some (by kernel_rfl))
 t0:=Tryz.underlying0
 a0:=Tryz.isAgg0
 z0:=Tryz.sizeOf0
 v0:=Tryz.zeroValue0
 t2:=Tryz.underlying2
 a2:=Tryz.isAgg2
 z2:=Tryz.sizeOf2
 v2:=Tryz.zeroValue2
 t3:=Tryz.underlying3
 a3:=Tryz.isAgg3
 z3:=Tryz.sizeOf3
 v3:=Tryz.zeroValue3
 t4:=Tryz.underlying4
 a4:=Tryz.isAgg4
 z4:=Tryz.sizeOf4
 v4:=Tryz.zeroValue4
 t5:=Tryz.underlying5
 a5:=Tryz.isAgg5
 z5:=Tryz.sizeOf5
 v5:=Tryz.zeroValue5
 t9:=Tryz.underlying9
 a9:=Tryz.isAgg9
 z9:=Tryz.sizeOf9
 v9:=Tryz.zeroValue9
 t20:=Tryz.underlying20
 a20:=Tryz.isAgg20
 z20:=Tryz.sizeOf20
 v20:=Tryz.zeroValue20
 t37:=Tryz.underlying38
 a37:=Tryz.isAgg38
 z37:=Tryz.sizeOf38
 v37:=Tryz.zeroValue38
 t46:=Tryz.underlying128
 a46:=Tryz.isAgg128
 z46:=Tryz.sizeOf128
 v46:=Tryz.zeroValue128
 t51:=Tryz.underlying157
 a51:=Tryz.isAgg157
 z51:=Tryz.sizeOf157
 v51:=Tryz.zeroValue157
 t53:=Tryz.underlying159
 a53:=Tryz.isAgg159
 z53:=Tryz.sizeOf159
 v53:=Tryz.zeroValue159
 t171:=Tryz.underlying194
 a171:=Tryz.isAgg194
 z171:=Tryz.sizeOf194
 v171:=Tryz.zeroValue194
 t173:=Tryz.underlying196
 a173:=Tryz.isAgg196
 z173:=Tryz.sizeOf196
 v173:=Tryz.zeroValue196
 t212:=Tryz.underlying207
 a212:=Tryz.isAgg207
 z212:=Tryz.sizeOf207
 v212:=Tryz.zeroValue207
 t213:=Tryz.underlying208
 a213:=Tryz.isAgg208
 z213:=Tryz.sizeOf208
 t232:=Tryz.underlying219
 a232:=Tryz.isAgg219
 z232:=Tryz.sizeOf219
 v232:=Tryz.zeroValue219
 t233:=Tryz.underlying220
 a233:=Tryz.isAgg220
 z233:=Tryz.sizeOf220
 v233:=Tryz.zeroValue220
 g17:=by kernel_rfl
 g18:=by kernel_rfl
 g19:=by kernel_rfl
 i0:=by kernel_rfl
 i2:=by kernel_rfl
 i3:=by kernel_rfl
 i4:=by kernel_rfl
 i5:=by kernel_rfl
 i9:=by kernel_rfl
 i20:=by kernel_rfl
 i37:=by kernel_rfl
 i46:=by kernel_rfl
 i51:=by kernel_rfl
 i53:=by kernel_rfl
 i171:=by kernel_rfl
 i173:=by kernel_rfl
 i212:=by kernel_rfl
 i232:=by kernel_rfl
 i233:=by kernel_rfl
 m17:=by kernel_rfl
 m18:=by kernel_rfl
 m19:=by kernel_rfl
end Go.Proofs.YthdbbgajmgjfcaaGreatDoor
namespace Go.Vc
open Go.RowKit
theorem fr_of_grow[Dn]{w:World}(k:Nat)(os:Array Obj):Fr (fun _=>False) w (Go.Sort.grow (w.drewN k) os):=by
 have h:Below w.heap.size w (Go.Sort.grow (w.drewN k) os):=by
  refine⟨rfl,rfl,rfl,?_,fun b hb => ?_⟩
  ·show w.heap.size≤(w.heap++os).size
   simp
  ·show (w.heap++os)[b]?=w.heap[b]?
   rw[Array.getElem?_append_left hb]
 exact⟨h.os,h.tape,h.output,h.size,fun b hb _=>h.block b hb,fun _=>Nat.le_add_right _ _⟩
end Go.Vc
namespace Go.Proofs.YthdbbgajmgjfcaaGreatDoor
open Go.Vc Go.Proofs Go.RowKit
abbrev glT:List (Nat×Dat):=[(4,⟨.ar 20 (.int .u64),Lib.pow10Tab⟩)]
def cItoa:Ctr:=cdet [I] (fun _=>True) (fun (n:Int)=>[⟨.str,Lib.itoa n⟩])
theorem nDig_le:∀ (k u:Nat),u<10 ^ (k+1)→Lib.nDigits u≤k+1
 | 0,u,h=>by rw[Lib.nDigits_small (by simpa using h)];exact Nat.le_refl _
 | k+1,u,h=>by
  by_cases h1:u<10
  ·rw[Lib.nDigits_small h1];omega
  ·rw[Lib.nDigits_big h1]
   have:=nDig_le k (u/10) (by rw[Nat.pow_succ] at h;exact Nat.div_lt_of_lt_mul (by omega))
   omega
theorem itoa_len{n:Int}(h:inK .i64 n):(Lib.itoa n).length≤20:=by
 have h:=inK_i64.1 h
 unfold Lib.itoa
 split
 ·rw[List.length_cons,Lib.decDigits_length]
  have:=nDig_le 18 n.natAbs (by omega)
  omega
 ·rw[Lib.decDigits_length]
  have:=nDig_le 18 n.toNat (by omega)
  omega
theorem oks_ints{w:World}{ro:Nat→Prop}{k:IntKind}:∀ {xs:List Int} {css:List (List Value)},Oks (fun x u=>u.length=(Ty.int k).size∧(Ty.int k).ok w ro x u) xs css→css.flatten=xs.map fun z=>Value.int k z
 | [],css,h=>by
  have:css=[]:=List.eq_nil_of_length_eq_zero h.1
  subst this;rfl
 | x::xs,css,h=>by
  cases css with
  | nil=>have:=h.1;simp at this
  | cons c cs =>
   have h1:c=[Value.int k x]:=(h.2 0 x c rfl rfl).2.1
   have ih:=oks_ints (xs:=xs) (css:=cs) ⟨by have:=h.1;simpa using this,fun i y u hy hu=>h.2 (i+1) y u (by simpa using hy) (by simpa using hu)⟩
   rw[List.flatten_cons,ih,h1];rfl
theorem tab_of{w:World}{ro:Nat→Prop}(h:GlOk glT w ro):Lib.TabIs Tryz.prog w "internal/strconv.uint64pow10" .u64 Lib.pow10Tab:=by
 obtain⟨us,e,q,hb,hn,css,hc,ho⟩:=h.block (List.mem_singleton.2 rfl)
 have hg:Tryz.prog.globalNamed "internal/strconv.uint64pow10" = some 4:=laidItoa.m17
 unfold Lib.TabIs World.var?
 rw[hg]
 simp only[Option.bind_some,hb]
 congr 1
 apply Array.toList_inj.1
 rw[hc,oks_ints ho]
theorem okItoa[Dn]:PlainOk Tryz.prog glT 64 cItoa:=by
 intro ds k ⟨hp,hk⟩ w ro vals hlt hgl hD
 obtain⟨n,rfl,-⟩:=dest1 hp
 have hk:k [⟨.str,Lib.itoa n⟩]:=hk
 have hl:vals.length=1:=hD.1
 match vals,hl with
 | [v],_ =>
  have hv:[v]=[Value.int .i64 n]∧inK .i64 n:=hD.2 0 ⟨I,n⟩ v rfl rfl
  obtain⟨hv,hn⟩:=hv
  injection hv with hv _;subst hv
  have hn':=inK_i64.1 hn
  refine (Any.strconv_Itoa laidItoa n hn'.1 hn'.2 w (tab_of hgl)).mono ?_
  rintro e w' ⟨rfl,q,os,rfl⟩
  refine⟨fr_of_grow q os,_,_,rfl,hk,rfl,Nat.le_trans (itoa_len hn) (by decide)⟩
open Go.Vc Go.Proofs Go.RowKit
set_option maxHeartbeats 1000000 in
set_option maxRecDepth 100000 in
theorem cc_used(b o:Nat)(w:World)(h0:w.cell? ⟨b,o,none⟩=some (.pointer (some ⟨b,o,none⟩))) :
 Calls Tryz.prog 70 #[.pointer (some ⟨b,o,none⟩)] w fun e w'=>e = .returned (.tuple #[])∧w'=w:=by
 obtain⟨j,hj,_⟩:=Option.map_eq_some_iff.1 (show (Tryz.prog.info? 64).map (·.size)=some 2 by kernel_rfl)
 go_enter Tryz.func70,Tryz.ntmps70
 go_wp2
 rw[Lib.run_neq_ptr_same w _ Tryz.underlying62 hj]
 go_wp2
 go_end0
 exact⟨rfl,rfl⟩
set_option maxHeartbeats 1000000 in
set_option maxRecDepth 100000 in
theorem cc_fresh(b o n:Nat)(T:TypeId)(w:World)(h0:w.cell? ⟨b,o,none⟩=some (.pointer none))(hsh:w.shape? b=some (T,n))(hon:o<n)
 (hl:liesAt Tryz.prog Tryz.prog.depth T (n/Tryz.prog.cellsOf T) o 64 1=true) (hfz:w.frozen? ⟨b,o,none⟩=false) :
 Calls Tryz.prog 70 #[.pointer (some ⟨b,o,none⟩)] w fun e w'=>e = .returned (.tuple #[])∧w'=w.setCell ⟨b,o,none⟩ (.pointer (some ⟨b,o,none⟩)):=by
 obtain⟨j,hj,hjs⟩:=Option.map_eq_some_iff.1 (show (Tryz.prog.info? 64).map (·.size)=some 2 by kernel_rfl)
 go_enter Tryz.func70,Tryz.ntmps70
 go_wp2
 rw[Lib.run_to_unsafe w ⟨b,o,none⟩ Tryz.underlying62 Tryz.underlying132 hj (by rw[hjs];decide) hsh hon]
 simp only[Result.andThen]
 rw[Oper.upon_value]
 go_wp2
 rw[run_callFunc_extern Tryz.func92 (by kernel_rfl) (by kernel_rfl) (by kernel_rfl) (e:=Extern.AbiNoEscape.same) (by kernel_rfl)]
 rw[Lib.run_noEscape]
 simp only[Result.andThen]
 rw[Oper.upon_value]
 go_wp2
 rw[Lib.run_from_unsafe w ⟨b,o,none⟩ Tryz.underlying132 Tryz.underlying62 hj hsh hl]
 simp only[Result.andThen]
 rw[Oper.upon_value]
 go_wp2
 go_end0
 exact⟨rfl,rfl⟩
theorem app_str(w:World)(v:Value)(n:Nat)(xs:List Value)(hown:w.ownsRowF 0 5 1 v n xs)(s:ByteArray)(ty:TypeId)(h63:n+s.size≤140737488355328) :
 ∃ v' w',(Builtin.append_ #[38,9] ty #[v,.string s]).run Tryz.prog w = .ok v' w'∧w'.ownsRowF 0 5 1 v' (n+s.size) (xs++Lib.strCells s)∧w.grownBy w' v.ownBlock ∧
  (∀ g,v'.ownBlock=some g→v.ownBlock=some g∨w.heap.size≤g)∧w.drawn≤w'.drawn:=by
 obtain⟨i,hi,hz0,hz1,hz2⟩:=info_parts (show (Tryz.prog.info? 5).map (fun i=>(i.zero,i.size,i.bytes))=some (some (.int .u8 0),1,1) by kernel_rfl)
 have hmx:n+s.size≤maxLen:=by simp only[maxLen];omega
 obtain⟨v',w',hr,h1,h2,_⟩:=Lib.run_append_own_stringF (P:=Tryz.prog) w 0 38 9 ty 5 i Tryz.underlying38 Tryz.underlying9 hi hz0 hz1 hz2 v n xs hown s hmx h63 (Nat.zero_le _)
 refine⟨v',w',hr,h1,h2,fun g hg => ?_,run_drawn _ _ _ hr⟩
 rcases hown.2 with ⟨rfl,rfl⟩ | ⟨g0,cap,cur,fz,rfl,hbg,hg0,hfz,hnc,hcm,hcs,htake⟩
 ·have hx:xs=[]:=List.eq_nil_of_length_eq_zero (by simpa using hown.1)
  subst hx
  obtain⟨v2,w2,hr2,k1,_,_⟩:=Lib.run_append_own_stringF (P:=Tryz.prog) w w.heap.size 38 9 ty 5 i Tryz.underlying38 Tryz.underlying9 hi hz0 hz1 hz2 _ 0 [] (World.ownsRowF_nil w w.heap.size 5 1) s hmx h63 (Nat.le_refl _)
  rw[hr] at hr2
  injection hr2 with e1 e2;subst e1;subst e2
  exact .inr (k1.lt g hg).1
 ·by_cases hroom:n+s.size≤cap
  ·have hr2:=Lib.run_append_room_stringF (P:=Tryz.prog) w 38 9 ty 5 i Tryz.underlying38 Tryz.underlying9 hi hz1 g0 n cap cur fz hg0 (by simpa using hfz) s hroom (by simp only[Nat.mul_one] at hcs;omega)
   rw[hr] at hr2
   injection hr2 with e1 e2;subst e1
   exact .inl hg
  ·have holds:∀ j u,xs[j]?=some u→w.cell? ((⟨g0,0,none⟩:Addr).add j)=some u:=hown.cells (g:=g0) rfl
   have hxl:xs.length=n:=by simpa using hown.1
   have hr2:=Lib.run_append_grow_string (P:=Tryz.prog) w 38 9 ty 5 i (.int .u8 0) Tryz.underlying38 Tryz.underlying9 hi hz0 ⟨g0,0,none⟩ n cap xs (by rw[hz1];simpa using hxl) holds s (by omega) (by omega) (by rw[hz2];exact growslice_fits (by omega) (by omega))
   rw[hr] at hr2
   injection hr2 with e1 e2;subst e1
   injection hg with hg;subst hg
   exact .inr (Nat.le_refl _)
structure BAt(T:TypeId)(b o:Nat)(l:List UInt8)(cs:Array Value)(v:Value)(w:World):Prop where
 blk:w.heap[b]?=some (.cells cs T (0,0))
 on:o+1<cs.size
 c0:cs[o]?=some (.pointer none)∨cs[o]?=some (.pointer (some ⟨b,o,none⟩))
 c1:cs[o+1]?=some v
 own:w.ownsRowF 0 5 1 v l.length (Lib.byteCells l)
 ne:v.ownBlock≠some b
structure Turn(b:Nat)(v v':Value)(w w':World):Prop where
 os:w'.os=w.os
 tape:w'.tape=w.tape
 output:w'.output=w.output
 size:w.heap.size≤w'.heap.size
 same:∀ k,k<w.heap.size→k≠b→v.ownBlock≠some k→w'.heap[k]?=w.heap[k]?
 drawn:w.drawn≤w'.drawn
 new:∀ g,v'.ownBlock=some g→v.ownBlock=some g∨w.heap.size≤g
theorem wpList_app{ops:Array Oper}{rest:List Oper}{o:Oper}{a:Act}{Q:Exit→Act→World→Prop}{w:World}(hgd:o.guard=none)(sl x:Operand)
 (ho:o.op = .call { callee := .builtin .append,args:=#[sl,x],argTypes:=#[38,9] }) (v:Value) (n:Nat) (xs:List Value) (hs:a.eval sl=v) (hown:w.ownsRowF 0 5 1 v n xs) (s:ByteArray) (hx:a.eval x = .string s)
 (h63:n+s.size≤140737488355328)
 (h:∀ v' w',w'.ownsRowF 0 5 1 v' (n+s.size) (xs++Lib.strCells s)→w.grownBy w' v.ownBlock→(∀ g,v'.ownBlock=some g→v.ownBlock=some g∨w.heap.size≤g)→w.drawn≤w'.drawn→wpList Tryz.prog ops Q rest (a.put o.dst v') w'):wpList Tryz.prog ops Q (o::rest) a w:=by
 refine wpList_plain hgd fun K hK => ?_
 obtain⟨v',w',hr,h2,h3,h4,h5⟩:=app_str w v n xs hown s o.type h63
 unfold Oper.wp execOp
 simp only[ho,resolve,invoke,builtin,Sem.run_bind,Sem.run_pure,Result.andThen_ok,List.map_toArray,List.map_cons,List.map_nil,hs,hx,hr]
 exact hK _ _ (h v' w' h2 h3 h4 h5)
theorem cc_any{T:TypeId}{b o:Nat}{l:List UInt8}{cs:Array Value}{v:Value}{w:World}(h:BAt T b o l cs v w)(hl:liesAt Tryz.prog Tryz.prog.depth T (cs.size/Tryz.prog.cellsOf T) o 64 1=true) :
 Calls Tryz.prog 70 #[.pointer (some ⟨b,o,none⟩)] w fun e w'=>e = .returned (.tuple #[])∧BAt T b o l (cs.setIfInBounds o (.pointer (some ⟨b,o,none⟩))) v w'∧Turn b v v w w'∧(∀ k,v.ownBlock=some k→w'.heap[k]?=w.heap[k]?)∧w'.heap.size=w.heap.size:=by
 have hon:=h.on
 have hb:b<w.heap.size:=(Array.getElem?_eq_some_iff.1 h.blk).1
 rcases h.c0 with h0 | h0
 ·refine (cc_fresh b o cs.size T w (by rw[Lib.cell_of_heap h.blk];exact h0) (by simp[World.shape?,h.blk]) (by omega) hl (Lib.frozen_of_heap h.blk o)).mono ?_
  rintro e w' ⟨rfl,rfl⟩
  have hh:∀ k,(w.setCell ⟨b,o,none⟩ (.pointer (some ⟨b,o,none⟩))).heap[k]?=if b=k then some (.cells (cs.setIfInBounds o (.pointer (some ⟨b,o,none⟩))) T (0,0)) else w.heap[k]?:=by
   intro k
   show (w.heap.modify b _)[k]?=_
   rw[Array.getElem?_modify]
   split
   ·rename_i e;subst e;rw[h.blk];rfl
   ·rfl
  refine⟨rfl,⟨by rw[hh,if_pos rfl],by simpa using hon,.inr ?_,?_,?_,h.ne⟩,⟨rfl,rfl,rfl,by simp[World.setCell],fun k _ hk _=>by rw[hh,if_neg (Ne.symm hk)],Nat.le_refl _,fun g hg => .inl hg⟩,fun k hk=>by rw[hh,if_neg (fun e=>h.ne (by rw[e];exact hk))],by simp[World.setCell]⟩
  ·rw[Array.getElem?_setIfInBounds_self_of_lt (by omega)]
  ·rw[Array.getElem?_setIfInBounds_ne (by omega)];exact h.c1
  ·exact ownsRowF_keep (fun k hk=>Cb.of_eq (by rw[hh,if_neg (fun e=>h.ne (by rw[e];exact hk))])) h.own
 ·refine (cc_used b o w (by rw[Lib.cell_of_heap h.blk];exact h0)).mono ?_
  rintro e w' ⟨rfl,rfl⟩
  have e1:cs.setIfInBounds o (.pointer (some ⟨b,o,none⟩))=cs:=by
   apply Array.ext_getElem?
   intro k
   by_cases hk:o=k
   ·subst hk;rw[Array.getElem?_setIfInBounds_self_of_lt (by omega),h0]
   ·rw[Array.getElem?_setIfInBounds_ne hk]
  rw[e1]
  exact⟨rfl,h,⟨rfl,rfl,rfl,Nat.le_refl _,fun _ _ _ _=>rfl,Nat.le_refl _,fun g hg => .inl hg⟩,fun _ _=>rfl,rfl⟩
theorem BAt.put{T:TypeId}{b o:Nat}{l:List UInt8}{cs:Array Value}{v:Value}{w:World}(h:BAt T b o l cs v w)(_hb:5≠T){v':Value}{l':List UInt8}{w2:World}(hblk:w2.heap[b]?=w.heap[b]?)(hsz:b<w.heap.size)
 (hown:w2.ownsRowF 0 5 1 v' l'.length (Lib.byteCells l')) (c0:cs[o]?=some (.pointer (some ⟨b,o,none⟩))) (hn:∀ g,v'.ownBlock=some g→v.ownBlock=some g∨w.heap.size≤g) :
 BAt T b o l' (cs.setIfInBounds (o+1) v') v' (w2.setCell ⟨b,o+1,none⟩ v')∧∀ k,k≠b→(w2.setCell ⟨b,o+1,none⟩ v').heap[k]?=w2.heap[k]?:=by
 have hon:=h.on
 have hh:∀ k,(w2.setCell ⟨b,o+1,none⟩ v').heap[k]?=if b=k then some (.cells (cs.setIfInBounds (o+1) v') T (0,0)) else w2.heap[k]?:=by
  intro k
  show (w2.heap.modify b _)[k]?=_
  rw[Array.getElem?_modify]
  split
  ·rename_i e;subst e;rw[hblk,h.blk];rfl
  ·rfl
 have hne:v'.ownBlock≠some b:=fun e=>by
  rcases hn b e with h1 | h1
  ·exact h.ne h1
  ·omega
 refine⟨⟨by rw[hh,if_pos rfl],by simpa using hon,.inr ?_,?_,?_,hne⟩,fun k hk=>by rw[hh,if_neg (Ne.symm hk)]⟩
 ·rw[Array.getElem?_setIfInBounds_ne (by omega)];exact c0
 ·rw[Array.getElem?_setIfInBounds_self_of_lt (by omega)]
 ·exact ownsRowF_keep (fun k hk=>Cb.of_eq (by rw[hh,if_neg (fun e=>hne (by rw[e];exact hk))])) hown
set_option maxHeartbeats 2000000 in
set_option maxRecDepth 100000 in
theorem ws_calls{T:TypeId}{b o:Nat}{l:List UInt8}{cs:Array Value}{v:Value}{w:World}(h:BAt T b o l cs v w)(hT:5≠T)(hl:liesAt Tryz.prog Tryz.prog.depth T (cs.size/Tryz.prog.cellsOf T) o 64 1=true)(x:List UInt8)
 (hlen:l.length+x.length≤140737488355328) :
 Calls Tryz.prog 43 #[.pointer (some ⟨b,o,none⟩),.string ⟨x.toArray⟩] w fun e w'=>e = .returned (.tuple #[.int .i64 x.length,.nilIface])∧∃ v',BAt T b o (l++x) ((cs.setIfInBounds o (.pointer (some ⟨b,o,none⟩))).setIfInBounds (o+1) v') v' w'∧Turn b v v' w w':=by
 have hon:=h.on
 have hbl:b<w.heap.size:=(Array.getElem?_eq_some_iff.1 h.blk).1
 have hxs:(⟨x.toArray⟩:ByteArray).size=x.length:=by show x.toArray.size=_;simp
 go_enter Tryz.func43,Tryz.ntmps43
 go_wp2_with (go_at_call 70;refine (cc_any h hl).mono ?_)
 rintro e w1 ⟨rfl,h1,t1,hs1,hz1⟩
 have c1:w1.cell? ⟨b,o+1,none⟩=some v:=by rw[Lib.cell_of_heap h1.blk];exact h1.c1
 have hc0:(cs.setIfInBounds o (.pointer (some ⟨b,o,none⟩)))[o]?=some (.pointer (some ⟨b,o,none⟩)):=by rw[Array.getElem?_setIfInBounds_self_of_lt (by omega)]
 go_wp2_with (at_builtin;refine wpList_app rfl _ _ rfl _ _ _ rfl h1.own _ rfl (by rw[hxs];exact hlen) ?_)
 intro v' w2 hown hg hnew hdr
 have hbk2:w2.heap[b]?=w1.heap[b]?:=hg.block b (by omega) (fun e=>h1.ne e.symm)
 have hown2:w2.ownsRowF 0 5 1 v' (l++x).length (Lib.byteCells (l++x)):=by
  rw[Lib.byteCells_append,List.length_append]
  exact hown
 have f1:w2.frozen? ⟨b,o+1,none⟩=false:=Lib.frozen_of_heap (hbk2.trans h1.blk) (o+1)
 have d1:w2.cell? ⟨b,o+1,none⟩=some v:=by rw[Lib.cell_of_heap (hbk2.trans h1.blk)];exact h1.c1
 obtain⟨p1,p2⟩:=h1.put hT hbk2 (by omega) hown2 hc0 (fun g hg=>by rw[hz1];exact hnew g hg)
 obtain⟨ao,n',cap,hv'⟩:∃ ao n' cap,v' = .slice ao n' cap:=by
  rcases hown.2 with ⟨hv,_⟩ | ⟨g,cap,cur,fz,hv,_⟩
  ·exact⟨_,_,_,hv⟩
  ·exact⟨_,_,_,hv⟩
 subst hv'
 go_wp2
 go_ret2
 refine⟨rfl,_,p1,⟨?_,?_,?_,?_,?_,?_,?_⟩⟩
 ·exact hg.os.trans t1.os
 ·exact hg.tape.trans t1.tape
 ·exact hg.output.trans t1.output
 ·have:=hg.size;simp only[World.setCell,Array.size_modify];omega
 ·intro k hk hkb hkv
  rw[p2 k hkb,hg.block k (by omega) (fun e=>hkv e.symm)]
  exact t1.same k hk hkb hkv
 ·exact Nat.le_trans t1.drawn hdr
 ·intro g hgo
  rcases hnew g hgo with e | e
  ·exact .inl e
  ·exact .inr (by omega)
theorem freeze_heap(w:World)(g n k:Nat)(hk:k≠g):(w.freeze ⟨g,0,none⟩ n).heap[k]?=w.heap[k]?:=by
 unfold World.freeze
 split
 ·rfl
 ·simp only[Array.getElem?_modify]
  rw[if_neg (fun e=>hk e.symm)]
theorem freeze_own{w:World}{e:TypeId}{g n cap:Nat}{xs:List Value}(h:w.ownsRowF 0 e 1 (.slice (some ⟨g,0,none⟩) n cap) n xs):(w.freeze ⟨g,0,none⟩ n).ownsRowF 0 e 1 (.slice (some ⟨g,0,none⟩) n cap) n xs:=by
 unfold World.freeze
 split
 ·exact h
 ·refine⟨h.1,?_⟩
  rcases h.2 with ⟨hv,_⟩ | ⟨g',cap',cur,fz,hv,hbg,hg,hfz,rest⟩
  ·cases hv
  ·injection hv with ha _ hcap
   injection ha with ha
   injection ha with hgg _ _
   subst hgg;subst hcap
   refine .inr ⟨g,cap,cur,(if fz.1==fz.2 then (0,0+n) else (min fz.1 0,max fz.2 (0+n))),rfl,hbg,?_,?_,rest⟩
   ·simp[Array.getElem?_modify,hg]
   ·split<;>simp<;>omega
structure Fz(v:Value)(w w':World):Prop where
 os:w'.os=w.os
 tape:w'.tape=w.tape
 output:w'.output=w.output
 size:w.heap.size≤w'.heap.size
 same:∀ k,k<w.heap.size→v.ownBlock≠some k→w'.heap[k]?=w.heap[k]?
 drawn:w.drawn≤w'.drawn
theorem Fz.drew(v:Value)(w:World):Fz v w w.drew:=⟨rfl,rfl,rfl,Nat.le_refl _,fun _ _ _=>rfl,Nat.le_succ _⟩
set_option maxHeartbeats 4000000 in
set_option maxRecDepth 100000 in
theorem st_calls{T:TypeId}{b o:Nat}{l:List UInt8}{cs:Array Value}{v:Value}{w:World}(h:BAt T b o l cs v w) :
 Calls Tryz.prog 31 #[.pointer (some ⟨b,o,none⟩)] w fun e w'=>e = .returned (.string ⟨l.toArray⟩)∧Fz v w w'∧w'.ownsRowF 0 5 1 v l.length (Lib.byteCells l):=by
 have hUS:=fun (W:World) (q:Option Addr)=>Lib.run_unsafeString_none (P:=Tryz.prog) W 106 3 9 q
 have hown:=h.own
 rcases hown.2 with ⟨rfl,hz⟩ | ⟨g,cap,cur,fz,rfl,hbg,hg,hfz,hnc,hcm,hcs,htake⟩
 ·have hl:l=[]:=List.eq_nil_of_length_eq_zero hz
  subst hl
  have c1:w.drew.cell? ⟨b,o+1,none⟩=some (.slice none 0 0):=by
   have:w.drew.heap[b]?=some (.cells cs T (0,0)):=h.blk
   rw[Lib.cell_of_heap this];exact h.c1
  have hSD:(Builtin.unsafeSliceData_ #[38] 106 #[.slice none 0 0]).run Tryz.prog w.drew = .ok (.pointer none) w.drew:=rfl
  go_enter Tryz.func31,Tryz.ntmps31
  go_wp2
  go_region
  all_goals (go_wp2;go_ret;exact⟨rfl,Fz.drew _ _,hown⟩)
 ·have hlt:b<w.heap.size:=(Array.getElem?_eq_some_iff.1 h.blk).1
  have c1:w.drew.cell? ⟨b,o+1,none⟩=some (.slice (some ⟨g,0,none⟩) l.length cap):=by
   have:w.drew.heap[b]?=some (.cells cs T (0,0)):=h.blk
   rw[Lib.cell_of_heap this];exact h.c1
  by_cases hl:l=[]
  ·subst hl
   by_cases hc0:cap=0
   ·subst hc0
    have hSD:(Builtin.unsafeSliceData_ #[38] 106 #[.slice (some ⟨g,0,none⟩) 0 0]).run Tryz.prog w.drew = .ok (.pointer (some ⟨w.drew.heap.size,0,none⟩)) (w.drew.alloc (.view ⟨g,0,none⟩ 5)) :=
     Lib.run_unsafeSliceData_zero w.drew _ _ 5 Tryz.underlying106 ⟨g,0,none⟩ 0 (5,cur.size) (by have hg':w.drew.heap[g]?=some (.cells cur 5 fz):=hg;simp[World.shape?,hg'])
    have c2:(w.drew.alloc (.view ⟨g,0,none⟩ 5)).cell? ⟨b,o+1,none⟩=some (.slice (some ⟨g,0,none⟩) 0 0):=by
     have:(w.drew.alloc (.view ⟨g,0,none⟩ 5)).heap[b]?=_:=(Lib.alloc_old w.drew _ b hlt).trans h.blk
     rw[Lib.cell_of_heap this];exact h.c1
    have c3:(w.alloc (.view ⟨g,0,none⟩ 5)).drew.cell? ⟨b,o+1,none⟩=some (.slice (some ⟨g,0,none⟩) 0 0):=c2
    have c0:w.cell? ⟨b,o+1,none⟩=some (.slice (some ⟨g,0,none⟩) 0 0):=c1
    have hfin:Fz (.slice (some ⟨g,0,none⟩) 0 0) w (w.drew.alloc (.view ⟨g,0,none⟩ 5)):=⟨rfl,rfl,rfl,by simp,fun k hk _=>Lib.alloc_old w.drew _ k hk,Nat.le_succ _⟩
    have hkeep:(w.drew.alloc (.view ⟨g,0,none⟩ 5)).ownsRowF 0 5 1 (.slice (some ⟨g,0,none⟩) 0 0) 0 (Lib.byteCells []) :=
     ownsRowF_keep (fun k hk=>by cases hk;exact Cb.of_eq (Lib.alloc_old w.drew _ g (Array.getElem?_eq_some_iff.1 hg).1)) hown
    go_enter Tryz.func31,Tryz.ntmps31
    go_wp2
    go_region
    all_goals (go_wp2;go_ret;exact⟨rfl,hfin,hkeep⟩)
   ·have hSD:(Builtin.unsafeSliceData_ #[38] 106 #[.slice (some ⟨g,0,none⟩) 0 cap]).run Tryz.prog w.drew = .ok (.pointer (some ⟨g,0,none⟩)) w.drew :=
     Lib.run_unsafeSliceData_row _ _ _ _ _ _ hc0
    clear hc0
    go_enter Tryz.func31,Tryz.ntmps31
    go_wp2
    go_region
    all_goals (go_wp2;go_ret;exact⟨rfl,Fz.drew _ _,hown⟩)
  ·have hl0:l.length≠0:=fun e=>hl (List.eq_nil_of_length_eq_zero e)
   have hSD:(Builtin.unsafeSliceData_ #[38] 106 #[.slice (some ⟨g,0,none⟩) l.length cap]).run Tryz.prog w.drew = .ok (.pointer (some ⟨g,0,none⟩)) w.drew :=
    Lib.run_unsafeSliceData_row _ _ _ _ _ _ (by omega)
   have hUS2:(Builtin.unsafeString_ #[106,3] 9 #[.pointer (some ⟨g,0,none⟩),.int .i64 l.length]).run Tryz.prog w.drew = .ok (.string ⟨l.toArray⟩) (w.drew.freeze ⟨g,0,none⟩ l.length):=by
    refine Lib.run_unsafeString_row w.drew 106 3 9 5 Tryz.underlying106 (by kernel_rfl) g cur.size (by have hg':w.drew.heap[g]?=some (.cells cur 5 fz):=hg;simp[World.shape?,hg']) l hl (by omega) (by unfold maxLen at hcm;omega) ?_
    intro j x hx
    exact hown.cells (g:=g) rfl j (.int .u8 x.toNat) (by simp[Lib.byteCells,hx])
   have hfin:Fz (.slice (some ⟨g,0,none⟩) l.length cap) w (w.drew.freeze ⟨g,0,none⟩ l.length):=by
    refine⟨?_,?_,?_,?_,fun k _ hk=>freeze_heap w.drew g l.length k (fun e=>hk (by rw[e];rfl)),?_⟩
    ·unfold World.freeze;split<;>rfl
    ·unfold World.freeze;split<;>rfl
    ·unfold World.freeze;split<;>rfl
    ·unfold World.freeze
     split
     ·exact Nat.le_refl _
     ·simp only[Array.size_modify];exact Nat.le_refl _
    ·unfold World.freeze;split<;>exact Nat.le_succ _
   have hkeep:(w.drew.freeze ⟨g,0,none⟩ l.length).ownsRowF 0 5 1 (.slice (some ⟨g,0,none⟩) l.length cap) l.length (Lib.byteCells l):=freeze_own (w:=w.drew) hown
   clear hUS
   go_enter Tryz.func31,Tryz.ntmps31
   go_wp2
   go_region
   all_goals (go_wp2;go_ret;exact⟨rfl,hfin,hkeep⟩)
end Go.Proofs.YthdbbgajmgjfcaaGreatDoor

namespace Go.Vc
open Go.RowKit
theorem Inv.addM[Dn]{w0:World}{M:Ms}{R0:Nat→Prop}{A:Asg}{st:St}{a:Act}{w w':World}(I:Inv w0 M R0 A st a w){i j:Nat}{o0 oj:Ob}(o1:Ob)(hi0:st.ob[i]?=some o0)(hl0:o0.live=true)(hij:i≠j)
 (hj0:st.ob[j]?=some oj) (hlj:oj.live=true) (κ:List Nat→Value) (F:Nat→Prop) (o:Ob)
 (hsame:Same w w') (hblk:∀ b,b<w.heap.size→¬ A.F i b→¬ A.F j b→w'.heap[b]?=w.heap[b]?)
 (hF:∀ b,F b→(w.heap.size≤b∧b<w'.heap.size)∨A.F j b)
 (hnew:(∀ b,Ro R0 w0.heap.size A st.ob w b→Ro R0 w0.heap.size (A.pushT κ F) ((st.ob.set i o1).set j .dead++[o]) w' b∧w'.heap[b]?=w.heap[b]?) →
  ObOk w' (Ro R0 w0.heap.size (A.pushT κ F) ((st.ob.set i o1).set j .dead++[o]) w') (A.pushT κ F) i o1∧ObOk w' (Ro R0 w0.heap.size (A.pushT κ F) ((st.ob.set i o1).set j .dead++[o]) w') (A.pushT κ F) A.n o) :
 Inv w0 M R0 (A.pushT κ F) { st with ob:=(st.ob.set i o1).set j .dead++[o] } a w':=by
 have hn:A.n=st.ob.length:=I.num
 have hi:i<st.ob.length:=(List.getElem?_eq_some_iff.1 hi0).1
 have hj:j<st.ob.length:=(List.getElem?_eq_some_iff.1 hj0).1
 have hlen:((st.ob.set i o1).set j .dead).length=st.ob.length:=by simp
 have hlast:((st.ob.set i o1).set j .dead++[o])[st.ob.length]?=some o:=by rw[← hlen];simp
 have hpre:∀ k,k<st.ob.length→((st.ob.set i o1).set j .dead++[o])[k]?=((st.ob.set i o1).set j .dead)[k]?:=fun k hk=>List.getElem?_append_left (by omega)
 have hother:∀ k,k<st.ob.length→k≠i→k≠j→((st.ob.set i o1).set j .dead++[o])[k]?=st.ob[k]?:=fun k hk h1 h2=>by
  rw[hpre k hk,List.getElem?_set_ne (Ne.symm h2),List.getElem?_set_ne (Ne.symm h1)]
 have hati:((st.ob.set i o1).set j .dead++[o])[i]?=some o1:=by
  rw[hpre i hi,List.getElem?_set_ne (Ne.symm hij),List.getElem?_set_self hi]
 have hatj:((st.ob.set i o1).set j .dead++[o])[j]?=some .dead:=by
  rw[hpre j hj,List.getElem?_set_self (by simpa using hj)]
 have hpast:∀ k x,((st.ob.set i o1).set j .dead++[o])[k]?=some x→k≤st.ob.length:=by
  intro k x hx
  have:=(List.getElem?_eq_some_iff.1 hx).1
  simp at this;omega
 have hro:∀ b,Ro R0 w0.heap.size A st.ob w b→Ro R0 w0.heap.size (A.pushT κ F) ((st.ob.set i o1).set j .dead++[o]) w' b∧w'.heap[b]?=w.heap[b]?:=by
  intro b ⟨hb,hr,hno⟩
  refine⟨⟨Nat.lt_of_lt_of_le hb hsame.size,hr,fun k x hx hl hf => ?_⟩,hblk b hb (hno i o0 hi0 hl0) (hno j oj hj0 hlj)⟩
  rcases Nat.lt_or_eq_of_le (hpast k x hx) with hk | hk
  ·rw[Asg.push_Fo A κ F (by omega)] at hf
   by_cases h1:k=i
   ·subst h1;exact hno k o0 hi0 hl0 hf
   ·by_cases h2:k=j
    ·subst h2;exact hno k oj hj0 hlj hf
    ·rw[hother k hk h1 h2] at hx;exact hno k x hx hl hf
  ·subst hk
   rw[← hn,Asg.push_F] at hf
   rcases hF b hf with h | h
   ·omega
   ·exact hno j oj hj0 hlj h
 have hcase:∀ k x,((st.ob.set i o1).set j .dead++[o])[k]?=some x→x.live=true→((k=i∨k=j)∨st.ob.length≤k)→(k=i∧x=o1)∨(k=st.ob.length∧x=o):=by
  intro k x hx hl h
  rcases h with (h | h) | h
  ·subst h;rw[hati] at hx;injection hx with hx;exact .inl ⟨rfl,hx.symm⟩
  ·subst h;rw[hatj] at hx;injection hx with hx;subst hx;simp[Ob.live] at hl
  ·have:k=st.ob.length:=Nat.le_antisymm (hpast k x hx) h
   subst this;rw[hlast] at hx;injection hx with hx;exact .inr ⟨rfl,hx.symm⟩
 have hcross:∀ b,A.F i b→F b→False:=fun b h1 h2=>by
  rcases hF b h2 with h | h
  ·have:=(I.fp i o0 b hi0 hl0 h1).1;omega
  ·exact hij (I.dj i j o0 oj b hi0 hj0 hl0 hlj h1 h)
 refine I.go_ (fun k=>k=i∨k=j) hsame.os hsame.tape hsame.output hsame.size hsame.drawn (fun b hb h=>hblk b hb (h i o0 hi0 hl0 (.inl rfl)) (h j oj hj0 hlj (.inr rfl))) (A.push_le κ F) (by simp[Asg.pushT,hn])
  (fun k hk hT=>⟨hother k hk (fun e=>hT (.inl e)) (fun e=>hT (.inr e)),fun b=>Asg.push_Fo A κ F (by omega) b⟩) (fun k x b hx hl h hf => ?_) (fun k1 k2 x y b hx hy hl hl' h h' hf hf' => ?_) (fun k x hx h => ?_)
 ·rcases hcase k x hx hl h with ⟨rfl,rfl⟩ | ⟨rfl,rfl⟩
  ·rw[Asg.push_Fo A κ F (by omega)] at hf
   exact .inr ⟨k,o0,hi0,hl0,.inl rfl,hf⟩
  ·rw[← hn,Asg.push_F] at hf
   rcases hF b hf with h | h
   ·exact .inl h
   ·exact .inr ⟨j,oj,hj0,hlj,.inr rfl,h⟩
 ·rcases hcase k1 x hx hl h with ⟨rfl,rfl⟩ | ⟨rfl,rfl⟩<;>rcases hcase k2 y hy hl' h' with ⟨rfl,rfl⟩ | ⟨rfl,rfl⟩
  ·rfl
  ·rw[Asg.push_Fo A κ F (by omega)] at hf
   rw[← hn,Asg.push_F] at hf'
   exact (hcross b hf hf').elim
  ·rw[Asg.push_Fo A κ F (by omega)] at hf'
   rw[← hn,Asg.push_F] at hf
   exact (hcross b hf' hf).elim
  ·rfl
 ·cases hl:x.live with
  | false=>cases x<;>first | trivial | simp[Ob.live] at hl
  | true =>
   rcases hcase k x hx hl h with ⟨rfl,rfl⟩ | ⟨rfl,rfl⟩
   ·exact (hnew hro).1
   ·rw[← hn];exact (hnew hro).2
def SV.w1:SV→Bool
 | .d t _=>t.size==1 && !t.agg
 | s=>s.one
theorem w1_len{s:SV}(h:s.w1=true):s.len=1∧s.one=true:=by
 cases s with
 | d t x=>simp only[SV.w1,Bool.and_eq_true,beq_iff_eq] at h;exact⟨h.1,rfl⟩
 | _=>exact⟨rfl,h⟩
theorem cells_one{v:Value}(h:v.oneCell'=true):v.cells.toList=[v]:=by
 cases v<;>first | rfl | simp[Value.oneCell'] at h
theorem one_flat:∀ {css:List (List Value)},(∀ u∈css,u.length=1)→∀ (k:Nat) (u:List Value),css[k]?=some u→css.flatten[k]?=u[0]?
 | [],_,k,u,h=>by simp at h
 | c::r,hc,k,u,h=>by
  have h1:=hc c (List.mem_cons_self ..)
  match c,h1 with
  | [x],_ =>
   cases k with
   | zero=>simp at h;subst h;rfl
   | succ k =>
    simp only[List.flatten_cons,List.singleton_append,List.getElem?_cons_succ] at h ⊢
    exact one_flat (fun u hu=>hc u (List.mem_cons_of_mem _ hu)) k u h
theorem flat_one:∀ (l:List Value),(l.map fun v=>[v]).flatten=l
 | []=>rfl
 | x::r=>by simp[flat_one r]
theorem pcs1[Dn]{w:World}{ro:Nat→Prop}{A:Asg}{l:List SV}{cs:List Value}(h1:l.all SV.w1=true):Pcs w ro A l cs↔cs.length=l.length∧∀ (k:Nat) s v,l[k]?=some s→cs[k]?=some v→SvOk0 w ro A s v∧v.oneCell'=true:=by
 have hw:∀ (k:Nat) s,l[k]?=some s→s.w1=true:=fun k s hs=>List.all_eq_true.1 h1 s (List.mem_of_getElem? hs)
 constructor
 ·rintro⟨css,rfl,hl,hok⟩
  have hlen:∀ u∈css,u.length=1:=by
   intro u hu
   obtain⟨k,hk⟩:=List.getElem?_of_mem hu
   have hkl:k<l.length:=by rw[← hl];exact (List.getElem?_eq_some_iff.1 hk).1
   have hs:=List.getElem?_eq_getElem hkl
   obtain⟨_,m2,_⟩:=hok k _ u hs hk
   rw[m2,(w1_len (hw k _ hs)).1]
  refine⟨by rw[flatten_len hlen,Nat.mul_one,hl],fun k s v hs hv => ?_⟩
  have hkc:k<css.length:=by rw[hl];exact (List.getElem?_eq_some_iff.1 hs).1
  have hu:=List.getElem?_eq_getElem hkc
  obtain⟨_,m2,x,m3,m4,m5⟩:=hok k s _ hs hu
  have hone:x.oneCell'=true:=by
   cases hn:s.nd with
   | true=>exact m5 hn
   | false =>
    cases s with
    | d t y =>
     have hw':=hw k _ hs
     simp only[SV.w1,Bool.and_eq_true,Bool.not_eq_true'] at hw'
     have m4':t.okV w ro y x:=m4
     unfold Ty.okV at m4'
     rw[if_neg (by rw[hw'.2];decide)] at m4'
     exact ok_one m4' x (by simp)
    | _=>simp[SV.nd] at hn
  rw[one_flat hlen k _ hu,m3,cells_one hone] at hv
  have:x=v:=by simpa using hv
  subst this
  exact⟨m4,hone⟩
 ·rintro⟨hl,hok⟩
  refine⟨cs.map fun v=>[v],(flat_one cs).symm,by simpa using hl,fun k s u hs hu => ?_⟩
  rw[List.getElem?_map] at hu
  obtain⟨v,hv,rfl⟩:=Option.map_eq_some_iff.1 hu
  obtain⟨m1,m2⟩:=hok k s v hs hv
  obtain⟨n1,n2⟩:=w1_len (hw k s hs)
  exact⟨n2,by rw[n1];rfl,v,(cells_one m2).symm,m1,fun _=>m2⟩
end Go.Vc
namespace Go.Proofs.YthdbbgajmgjfcaaGreatDoor
open Go.Vc Go.Proofs Go.RowKit
theorem bat_of[Dn]{w0:World}{M:Ms}{R0:Nat→Prop}{A:Asg}{st:St}{a:Act}{w:World}(I:Inv w0 M R0 A st a w){i j o:Nat}{T:TypeId}{l:List SV}{txt:List UInt8}(hi:st.ob[i]?=some (.st T l))(h1:l.all SV.w1=true)
 (hs:l[o]?=some (.sf i o)) (hb:l[o+1]?=some (.os j)) (hj:st.ob[j]?=some (.buf 5 txt)) (hij:i≠j) :
 ∃ b cs,A.η i = .pointer (some ⟨b,0,none⟩)∧A.F i b∧cs.size=l.length∧BAt T b o txt cs (A.η j) w∧(∀ (k:Nat) s v,l[k]?=some s→cs[k]?=some v→SvOk0 w (Ro R0 w0.heap.size A st.ob w) A s v∧v.oneCell'=true)∧∀ g,(A.η j).ownBlock=some g→A.F j g:=by
 obtain⟨b,cs,e1,hf,hh,hp⟩:=I.ob i _ hi
 obtain⟨p1,p2⟩:=(pcs1 h1).1 hp
 obtain⟨hown,hF⟩:=I.ob j _ hj
 have hlo:o<l.length:=(List.getElem?_eq_some_iff.1 hs).1
 have hlo1:o+1<l.length:=(List.getElem?_eq_some_iff.1 hb).1
 have hsz:cs.size=l.length:=by rw[← p1];simp
 have g0:=List.getElem?_eq_getElem (l:=cs.toList) (i:=o) (by omega)
 have g1:=List.getElem?_eq_getElem (l:=cs.toList) (i:=o+1) (by omega)
 obtain⟨⟨_,q0⟩,_⟩:=p2 o _ _ hs g0
 obtain⟨⟨_,q1⟩,_⟩:=p2 (o+1) _ _ hb g1
 have k0:cs[o]?=some (cs.toList[o]'(by omega)):=by rw[← Array.getElem?_toList];exact g0
 have k1:cs[o+1]?=some (cs.toList[o+1]'(by omega)):=by rw[← Array.getElem?_toList];exact g1
 refine⟨b,cs,e1,hf,hsz,⟨hh,by omega,?_,by rw[k1,q1],hown,fun e => ?_⟩,fun k s v h2 h3=>p2 k s v h2 (by rw[Array.getElem?_toList];exact h3),hF⟩
 ·rcases q0 with q0 | ⟨g,e2,q0⟩
  ·left;rw[k0,q0]
  ·right
   rw[e1] at e2;injection e2 with e2;injection e2 with e2;injection e2 with e2;subst e2
   rw[k0,q0]
 ·exact hij (I.dj i j _ _ b hi hj rfl rfl hf (hF b e))
theorem ws_inv[Dn]{M:Ms}{R0:Nat→Prop}{A:Asg}{st:St}{a:Act}{w:World}(I:Inv w M R0 A st a w){i j o:Nat}{T:TypeId}{l:List SV}{txt:List UInt8}(hi:st.ob[i]?=some (.st T l))(h1:l.all SV.w1=true)
 (hs:l[o]?=some (.sf i o)) (hb:l[o+1]?=some (.os j)) (hj:st.ob[j]?=some (.buf 5 txt)) (hij:i≠j) (hT:5≠T) (hl:liesAt Tryz.prog Tryz.prog.depth T (l.length/Tryz.prog.cellsOf T) o 64 1=true) (x:List UInt8) (hlen:txt.length+x.length≤140737488355328) {b:Nat} (he:A.η i = .pointer (some ⟨b,0,none⟩)) :
 Calls Tryz.prog 43 #[.pointer (some ⟨b,o,none⟩),.string ⟨x.toArray⟩] w fun e w'=>e = .returned (.tuple #[.int .i64 x.length,.nilIface])∧∃ κ F,Inv w M R0 (A.pushT κ F) { st with ob:=(st.ob.set i (.st T (l.set (o+1) (.os st.ob.length)))).set j .dead++[.buf 5 (txt++x)] } a w':=by
 obtain⟨b',cs,e1,hf,hsz,hB,hP,hFj⟩:=bat_of I hi h1 hs hb hj hij
 rw[he] at e1;injection e1 with e1;injection e1 with e1;injection e1 with e1;subst e1
 have hlo1:o+1<l.length:=(List.getElem?_eq_some_iff.1 hb).1
 refine (ws_calls hB hT (by rw[hsz];exact hl) x hlen).mono ?_
 rintro e w' ⟨rfl,v',hB',ht⟩
 have hnum:A.n=st.ob.length:=I.num
 have hFt:∀ g,v'.ownBlock=some g→(w.heap.size≤g∧g<w'.heap.size)∨A.F j g:=fun g hg=>by
  rcases ht.new g hg with h | h
  ·exact .inr (hFj g h)
  ·exact .inl ⟨h,(hB'.own.lt g hg).2⟩
 refine⟨rfl,fun _=>v',fun g=>v'.ownBlock=some g,I.addM (.st T (l.set (o+1) (.os st.ob.length))) hi rfl hij hj rfl (fun _=>v') (fun g=>v'.ownBlock=some g) (.buf 5 (txt++x)) ⟨ht.os,ht.tape,ht.output,ht.size,fun _=>ht.drawn⟩
  (fun k hk hki hkj=>ht.same k hk (fun e=>hki (by rw[e];exact hf)) (fun e=>hkj (hFj k e))) (fun g hg=>hFt g hg) (fun hro=>⟨?_,?_⟩)⟩
 ·refine⟨b,_,?_,(Asg.push_Fo A _ _ (by rw[hnum];exact Nat.ne_of_lt (List.getElem?_eq_some_iff.1 hi).1) b).2 hf,hB'.blk,(pcs1 ?_).2 ⟨by simp[hsz],fun k s v h2 h3 => ?_⟩⟩
  ·rw[← he];exact (A.push_le _ _).η i (by rw[hnum];exact (List.getElem?_eq_some_iff.1 hi).1)
  ·rw[List.all_eq_true] at h1 ⊢
   intro s hs'
   rcases List.mem_or_eq_of_mem_set hs' with h | h
   ·exact h1 s h
   ·subst h;rfl
  ·have hil:i<A.n:=by rw[hnum];exact (List.getElem?_eq_some_iff.1 hi).1
   rw[Array.getElem?_toList] at h3
   by_cases hk1:o+1=k
   ·subst hk1
    rw[List.getElem?_set_self hlo1] at h2
    rw[Array.getElem?_setIfInBounds_self_of_lt (by simp;omega)] at h3
    injection h2 with h2;injection h3 with h3;subst h2;subst h3
    refine⟨⟨by rw[← hnum];exact Nat.lt_succ_self _,?_⟩,?_⟩
    ·rw[← hnum];exact (Asg.push_η A (fun _=>v') (fun g=>v'.ownBlock=some g)).symm
    ·rcases hB'.own.2 with ⟨h4,_⟩ | ⟨g,cap,cur,fz,h4,_⟩<;>rw[h4]<;>rfl
   ·rw[List.getElem?_set_ne hk1] at h2
    rw[Array.getElem?_setIfInBounds_ne hk1] at h3
    by_cases hk0:o=k
    ·subst hk0
     rw[Array.getElem?_setIfInBounds_self_of_lt (by omega)] at h3
     rw[hs] at h2
     injection h2 with h2;injection h3 with h3;subst h2;subst h3
     exact⟨⟨Nat.lt_succ_of_lt hil,.inr ⟨b,by rw[(A.push_le _ _).η i hil];exact he,rfl⟩⟩,rfl⟩
    ·rw[Array.getElem?_setIfInBounds_ne hk0] at h3
     obtain⟨m1,m2⟩:=hP k s v h2 h3
     exact⟨m1.keep (fun g hg=>⟨(hro g hg).1,Kb.of_eq (hro g hg).2⟩) (A.push_le _ _),m2⟩
 ·refine⟨?_,fun g hg=>(Asg.push_F A _ _ g).2 (by rw[Asg.push_η] at hg;exact hg)⟩
  rw[Asg.push_η];exact hB'.own
theorem st_inv[Dn]{M:Ms}{R0:Nat→Prop}{A:Asg}{st:St}{a:Act}{w:World}(I:Inv w M R0 A st a w){i j o:Nat}{T:TypeId}{l:List SV}{txt:List UInt8}(hi:st.ob[i]?=some (.st T l))(h1:l.all SV.w1=true)
 (hs:l[o]?=some (.sf i o)) (hb:l[o+1]?=some (.os j)) (hj:st.ob[j]?=some (.buf 5 txt)) (hij:i≠j) {b:Nat} (he:A.η i = .pointer (some ⟨b,0,none⟩)) :
 Calls Tryz.prog 31 #[.pointer (some ⟨b,o,none⟩)] w fun e w'=>e = .returned (.string ⟨txt.toArray⟩)∧Inv w M R0 A st a w':=by
 obtain⟨b',cs,e1,hf,hsz,hB,hP,hFj⟩:=bat_of I hi h1 hs hb hj hij
 rw[he] at e1;injection e1 with e1;injection e1 with e1;injection e1 with e1;subst e1
 refine (st_calls hB).mono ?_
 rintro e w' ⟨rfl,hz,hown⟩
 have:=I.mod (i:=j) (.buf 5 txt) hj rfl (w':=w') ⟨hz.os,hz.tape,hz.output,hz.size,fun _=>hz.drawn⟩ (fun k hk hn=>hz.same k hk (fun e=>hn (hFj k e))) (fun _=>⟨hown,hFj⟩)
 have e2:st.ob.set j (.buf 5 txt)=st.ob:=by
  apply List.ext_getElem?
  intro k
  by_cases hk:j=k
  ·subst hk;rw[List.getElem?_set_self (List.getElem?_eq_some_iff.1 hj).1,hj]
  ·rw[List.getElem?_set_ne hk]
 rw[e2] at this
 exact⟨rfl,this⟩
open Go.Vc
abbrev tV:Ty := .pr (.sl I) (.pr I .un)
abbrev Va:=List Int×Int×Unit
abbrev tRow:Ty := .ar 4 (.sl tV)
abbrev tNet:Ty := .pr (.sl tRow) (.pr (.sl I) .un)
abbrev Net:=List (List (List Va))×List Int×Unit
def Eg:Env:={ tys:=[(3,I),(4,.bool),(9,.str),(29,tErr),(32,.sl I),(22,.sl (.sl I)),(57,.ptr tNet),(49,.sl tV),(83,tV),(98,tRow),(94,.sl tRow),(96,tNet),(103,.fn 55 .un),(104,.fn 53 .un),(41,.sl (.sl tV))],errT:=73,eqs:=[],els:=[(32,3),(22,32),(49,83),(94,98),(41,49)] }
theorem Eg_ok:EnvOk Tryz.prog Eg:=EnvOk.of_list (by kernel_rfl) (by kernel_rfl) (by kernel_rfl)
def va0:Va:=([],0,())
def sawF(v w:List Int):Nat→Bool
 | 0=>true
 | i+1=>sawF v w i&&decide (w.getD i 0≤v.getD i 0)
def sawB(v w:Va):Bool:=sawF v.1 w.1 v.1.length
def cSaw:Ctr:=cdet [tV,tV] (fun v w=>v.1.length≤w.1.length∧True) (fun v w=>[⟨.bool,sawB v w⟩])
def anSaw(v w:Va):Ann:=[joinAll,loopAt 2 Nat [] (fun st i=>St.at (St.only st [2,3,8]) [(9,.d I (i:Int))]) (fun _ i=>i≤v.1.length∧sawF v.1 w.1 i=true) (fun i=>v.1.length - i)]
def inNet(t:Net)(p k:Int):Bool:=inB p 0 ((t.1.length:Int) - 1)&&inB k 0 3
def cIs:Ctr:=cgen [.ptr tNet,I,I] (fun (t:Option Net) (p k:Int) kk=>match t with
 | some t=>kk [⟨.bool,inNet t p k⟩]
 | none=>False)
def lexF(a b:List Int):Nat→Nat→Int
 | 0,i=>if (a.length:Int)<(b.length:Int) then (if i=i then -1 else 0) else 0
 | f+1,i=>if b.length≤i then 1 else if cmpI (a.getD i 0) (b.getD i 0)=0 then lexF a b f (i+1) else cmpI (a.getD i 0) (b.getD i 0)
def lexI(a b:List Int):Int:=lexF a b a.length 0
def cLex:Ctr:=cdet [.sl I,.sl I,.fn 55 .un] (fun _ _ (f:Option Unit)=>f.isSome=true) (fun a b _=>[⟨I,lexI a b⟩])
def anLex(a b:List Int):Ann:=[joinAll,loopAt 2 Nat [] (fun st i=>St.at (St.only st [0,1,2,11,12]) [(13,.d I (i:Int))]) (fun _ i=>lexI a b=lexF a b (a.length - i) i∧i≤a.length) (fun i=>a.length - i)]
def cLexV:Ctr:=cdet [tV,tV] (fun _ _=>True) (fun v w=>[⟨I,lexI v.1 w.1⟩])
def cValues:Ctr:=cdet [.sl tV,.sl tV] (fun _ _=>True) (fun a b=>[⟨.bool,decide (a=b)⟩])
def anValues(a b:List Va):Ann:=[joinAll,loopAt 4 Nat [] (fun st i=>St.at (St.only st [0,1]) [(5,.d I (i:Int))]) (fun _ i=>i≤a.length∧a.length=b.length∧a.take i=b.take i) (fun i=>a.length - i)]
def cCloneI:Ctr:=cdet [.sl I] (fun (l:List Int)=>l.length≤1000000000∧True) (fun l=>[⟨.sl I,l⟩])
def valsAt(t:Net)(p k:Int):List Va:=(t.1.getD p.toNat (List.replicate 4 [])).getD k.toNat []
def readF(t:Net)(p k:Int):List Va:=if inNet t p k=true then valsAt t p k else[]
def NetLen(t:Net):Prop:=(∀ r∈t.1,List.length r=4∧∀ l∈r,List.length l≤1000∧∀ v∈l,List.length v.1≤1000)∧t.1.length≤1000
def oGrowV:OCtr:=fun args ob k=>match args,ob with
 | [.nils,.d (.int .i64) n],[]=>(0≤(n:Int)∧(n:Int)≤1000000000)∧k (.os 0) [.row 83 (.pr (.sl (.int .i64)) (.pr (.int .i64) .un)) ([]:List Va)]
 | _,_=>False
def sumV(ls:List (List Va))(n:Nat):Nat:=((ls.take n).map List.length).sum
def cConcat:Ctr:=cdet [.sl (.sl tV)] (fun (ls:List (List Va))=>sumV ls ls.length≤1000000000∧True) (fun ls=>[⟨.sl tV,(List.flatten ls:List Va)⟩])
def anConcatV(ls:List (List Va)):Ann:=[joinAll,
 loopAt 3 Nat [] (fun st i=>St.at (St.only st [0,9,10]) [(3,.d I (sumV ls i:Int)),(11,.d I (i:Int))]) (fun _ i=>i≤ls.length∧True) (fun i=>ls.length - i),
 loopAt 11 Nat [] (fun st i=>{ St.at (St.only st [6,25,26]) [(27,.d I (i:Int))] with ob:=[.row 83 tV ((ls.take i).flatten:List Va)] }) (fun _ i=>i≤ls.length∧True) (fun i=>ls.length - i)]
def newF(n:Nat):Net:=(List.replicate n (List.replicate 4 []),List.replicate n 0,())
def obNet(t:Net):List Ob:=[.st 96 [.os 1,.os 2],.row 98 tRow t.1,.row 3 I t.2.1]
def oNew:OCtr:=fun args ob k=>match args,ob with
 | [.d (.int .i64) n],[]=>(inB n 1 5=false→k (.tp [.nilp,.d tErr (1:Int)]) [])∧(inB n 1 5=true→k (.tp [.ps 0,.d tErr (0:Int)]) (obNet (newF (n:Int).toNat)))
 | _,_=>False
open Go.Vc
structure NetSh(t:Net):Prop where
 wr:t.2.1.length=t.1.length
 lo:1≤t.1.length
 hi:t.1.length≤5
 row:∀ r∈t.1,List.length r=4
 len:∀ r∈t.1,∀ l∈r,List.length l≤1000
 seen:∀ r∈t.1,∀ l∈r,∀ v∈l,List.length v.1=t.1.length
 cnt:∀ i,i<t.2.1.length→0≤t.2.1.getD i 0∧t.2.1.getD i 0≤60
def writeE(t:Net)(p k v:Int):Int:=if (inNet t p k&&inB v 0 1000000)=true then (if t.2.1.getD p.toNat 0=60 then 4 else 0) else 1
def maxU(cur s:List Int):Nat→List Int
 | 0=>cur
 | j+1=>(maxU cur s j).set j (max ((maxU cur s j).getD j 0) (s.getD j 0))
def accU(vals:List Va)(n:Nat):Nat→List Int
 | 0=>List.replicate n 0
 | i+1=>maxU (accU vals n i) (vals.getD i va0).1 (vals.getD i va0).1.length
def upW(t:Net)(p:Int):List Int:=t.2.1.set p.toNat (t.2.1.getD p.toNat 0+1)
def newV(t:Net)(p k v:Int):Va:=((accU (valsAt t p k) t.1.length (valsAt t p k).length).set p.toNat ((upW t p).getD p.toNat 0),v,())
def setAt(t:Net)(p k:Int)(l:List Va):List (List (List Va)):=t.1.set p.toNat ((t.1.getD p.toNat (List.replicate 4 [])).set k.toNat l)
def writeT(t:Net)(p k v:Int):Net:=if writeE t p k v=0 then (setAt t p k [newV t p k v],upW t p,()) else t
def oWrite:OCtr:=fun args ob k=>match args,ob with
 | [.ps 0,.d (.int .i64) p,.d (.int .i64) q,.d (.int .i64) v],[.st 96 [.os 1,.os 2],.row 98 (.ar 4 (.sl (.pr (.sl (.int .i64)) (.pr (.int .i64) .un)))) nodes,.row 3 (.int .i64) wrote] =>
  NetSh (nodes,wrote,())∧k (.d tErr (writeE (nodes,wrote,()) p q v)) (obNet (writeT (nodes,wrote,()) p q v))
 | _,_=>False
def Egw(l:List Nat):Env:={ Eg with pz:=l }
theorem Egw_ok(l:List Nat):EnvOk Tryz.prog (Egw l):=⟨Eg_ok.ty,Eg_ok.err,Eg_ok.el,Eg_ok.mp⟩
def obW(t:Net)(p:Int)(v:Int)(acc:List Int):List Ob:=[.st 96 [.os 1,.os 2],.row 98 tRow t.1,.row 3 I (upW t p),.row 3 I acc,.st 83 [.os 3,.d I v]]
def anWrite(t:Net)(p k v:Int):Ann:=[joinAll,freezeAt 17 [9],
 loopAt 8 Nat [] (fun st i=>{ St.at (St.only st [0,1,2,3,59,60]) [(9,.ps 4),(61,.d I (i:Int))] with ob:=obW t p v (accU (valsAt t p k) t.1.length i) }) (fun _ i=>i≤(valsAt t p k).length∧writeE t p k v=0) (fun i=>(valsAt t p k).length - i),
 loopAt 11 Nat [] (fun st j=>{ St.at (St.only st [0,1,2,3,9,59,60,61,66,67]) [(68,.d I (j:Int))] with ob:=obW t p v (maxU (accU (valsAt t p k) t.1.length (st.i 61).toNat) ((valsAt t p k).getD (st.i 61).toNat va0).1 j) }) (fun st j=>j≤((valsAt t p k).getD (st.i 61).toNat va0).1.length∧writeE t p k v=0) (fun j=>1000 - j)]
def syncE(t:Net)(a b:Int):Int:=if (inNet t a 0&&inNet t b 0)=true then (if a=b then 6 else 0) else 1
def oldU(all:List Va)(i:Nat):Nat→Bool
 | 0=>false
 | j+1=>oldU all i j||(sawB (all.getD j va0) (all.getD i va0)&&(!sawB (all.getD i va0) (all.getD j va0)||decide ((j:Int)<(i:Int))))
def outU(all:List Va):Nat→List Va
 | 0=>[]
 | i+1=>if oldU all i all.length=true then outU all i else outU all i++[all.getD i va0]
def lexL:List Int→List Int→Int
 | [],[]=>0
 | [],_::_ => -1
 | _::_,[]=>1
 | x::a,y::b=>if cmpI x y=0 then lexL a b else cmpI x y
def insV(v:Va):List Va→List Va
 | []=>[v]
 | x::l=>if lexL v.1 x.1<0 then v::x::l else x::insV v l
def sortV(l:List Va):List Va:=l.foldr insV []
def mrgV(all:List Va):List Va:=sortV (outU all all.length)
def srtPV(xs ys:List Va):Prop:=ys.Perm xs∧ys.Pairwise fun a b=>0≤lexI b.1 a.1
def oSortV:OCtr:=fun args ob k=>match args,ob with
 | [.os 0,.d (.fn 53 .un) (some _)],[.row 83 (.pr (.sl (.int .i64)) (.pr (.int .i64) .un)) xs]=>(xs:List Va).length≤1000000000∧∀ ys:List Va,srtPV xs ys→k (.tp []) [.row 83 (.pr (.sl (.int .i64)) (.pr (.int .i64) .un)) ys]
 | _,_=>False
def syncU(t:Net)(a b:Int):Nat→Net
 | 0=>t
 | k+1=>(setAt (syncU t a b k) b (k:Int) (mrgV (valsAt (syncU t a b k) b (k:Int)++valsAt (syncU t a b k) a (k:Int))),t.2.1,())
def syncT(t:Net)(a b:Int):Net:=if syncE t a b=0 then syncU t a b 4 else t
def oSync:OCtr:=fun args ob k=>match args,ob with
 | [.ps 0,.d (.int .i64) a,.d (.int .i64) b],[.st 96 [.os 1,.os 2],.row 98 (.ar 4 (.sl (.pr (.sl (.int .i64)) (.pr (.int .i64) .un)))) nodes,.row 3 (.int .i64) wrote] =>
  NetSh (nodes,wrote,())∧k (.d tErr (syncE (nodes,wrote,()) a b)) (obNet (syncT (nodes,wrote,()) a b))
 | _,_=>False
def allAt(t:Net)(a b:Int)(k:Nat):List Va:=valsAt (syncU t a b k) b (k:Int)++valsAt (syncU t a b k) a (k:Int)
def anSync(t:Net)(a b:Int):Ann:=[joinAll,freezeAt 23 [9],
 loopAt 6 Nat [] (fun st key=>{ St.at (St.only st [0,1,2]) [(30,.d I (key:Int))] with ob:=obNet (syncU t a b key) }) (fun _ key=>key≤4∧syncE t a b=0) (fun key=>4 - key),
 loopAt 11 Nat [(9,83,tV)] (fun st i=>{ St.at (St.only st [0,1,2,7,30]) [(8,.d (.sl tV) (allAt t a b (st.i 30).toNat)),(53,.d (.sl tV) (allAt t a b (st.i 30).toNat)),(54,.d I ((allAt t a b (st.i 30).toNat).length:Int)),(9,.os 3),(55,.d I (i:Int))] with ob:=obNet (syncU t a b (st.i 30).toNat)++[.row 83 tV (outU (allAt t a b (st.i 30).toNat) i)] }) (fun st i=>i≤(allAt t a b (st.i 30).toNat).length∧syncE t a b=0) (fun i=>10000 - i),
 loopAt 15 Nat [] (fun st j=>St.at (St.only st [0,1,2,7,8,9,10,11,30,53,54,55,60,61]) [(12,.d .bool (oldU (allAt t a b (st.i 30).toNat) (st.i 55).toNat j)),(62,.d I (j:Int))]) (fun st j=>j≤(allAt t a b (st.i 30).toNat).length∧syncE t a b=0) (fun j=>10000 - j)]
open Go.Vc
set_option linter.unusedVariables false
abbrev vcWriteq1(nd:List (List (List Va)))(p:Int)(q:Int):=((nd.getD p.toNat (List.replicate 4 [])).getD q.toNat [])
abbrev vcWriteq2(nd:List (List (List Va)))(p:Int)(q:Int)(x:Nat):=(↑(List.length ((vcWriteq1 nd p q).getD (↑x:Int).toNat va0).fst):Int)
theorem vcWrite(nd:List (List (List Va)))(wr:List Int)(p q v:Int)(k:SV→List Ob→Prop):vcO ⟨Egw [9],[(48,cWithin),(49,cIs)],[],[],[]⟩ (anWrite (nd,wr,()) p q v) (Tryz.f27.body.getD .skip) Tryz.f27.ntmps [(.tmp 8,tErr)] [.ps 0,.d I p,.d I q,.d I v] [.st 96 [.os 1,.os 2],.row 98 tRow nd,.row 3 I wr] k=(
 ((!inNet (nd,wr,()) p q)=true→(1:Int)≠(0:Int)∧k (SV.d (Ty.err 73) 1) [Ob.st 96 [SV.os 1,SV.os 2],Ob.row 98 tRow nd,Ob.row 3 (I) wr])∧((!inNet (nd,wr,()) p q)=false→True∧((!inB v 0 1000000)=true→(1:Int)≠(0:Int)∧k (SV.d (Ty.err 73) 1) [Ob.st 96 [SV.os 1,SV.os 2],Ob.row 98 tRow nd,Ob.row 3 (I) wr])∧((!inB v 0 1000000)=false→0≤p∧p<(↑wr.length:Int)∧(decide (wr.getD p.toNat 0=60)=true→(4:Int)≠(0:Int)∧k (SV.d (Ty.err 73) 4) [Ob.st 96 [SV.os 1,SV.os 2],Ob.row 98 tRow nd,Ob.row 3 (I) wr])∧(decide (wr.getD p.toNat 0=60)=false→0≤p∧p<(↑wr.length:Int)∧inK IntKind.i64 (wr.getD p.toNat 0+1)∧0≤p∧p<(↑wr.length:Int)∧0≤(↑nd.length:Int)∧(↑nd.length:Int)≤(↑nd.length:Int)∧(↑nd.length:Int)≤1000000000∧0≤p∧p<(↑nd.length:Int)∧0≤q∧q<(↑(4:Nat):Int)∧(∃ (x:Nat),(x≤(valsAt (nd,wr,()) p q).length∧writeE (nd,wr,()) p q v=0)∧(True∧p=p∧q=q∧v=v∧True∧(nd.getD p.toNat (List.replicate 4 [])).getD q.toNat []=(nd.getD p.toNat (List.replicate 4 [])).getD q.toNat []∧(↑(vcWriteq1 nd p q).length:Int)=(↑(vcWriteq1 nd p q).length:Int)∧0=(↑x:Int)∧True)∧((True∧True∧True)∧((98:Nat)=(98:Nat)∧nd=nd)∧((3:Nat)=(3:Nat)∧wr.set p.toNat (wr.getD p.toNat 0+1)=upW (nd,wr,()) p)∧((3:Nat)=(3:Nat)∧List.replicate (↑nd.length:Int).toNat 0=accU (valsAt (nd,wr,()) p q) nd.length x)∧(True∧v=v∧True)∧True)∧True∧p=p∧q=q∧v=v∧True)∧∀ (x:Nat),x≤(valsAt (nd,wr,()) p q).length∧writeE (nd,wr,()) p q v=0→(decide ((↑x:Int)<(↑(vcWriteq1 nd p q).length:Int))=true→0≤(↑x:Int)∧(↑x:Int)<(↑(vcWriteq1 nd p q).length:Int)∧(∃ (x_1:Nat),(x_1≤((valsAt (nd,wr,()) p q).getD (↑x:Int).toNat va0).fst.length∧writeE (nd,wr,()) p q v=0)∧(True∧p=p∧q=q∧v=v∧True∧(nd.getD p.toNat (List.replicate 4 [])).getD q.toNat []=(nd.getD p.toNat (List.replicate 4 [])).getD q.toNat []∧(↑(vcWriteq1 nd p q).length:Int)=(↑(vcWriteq1 nd p q).length:Int)∧(↑x:Int)=(↑x:Int)∧((vcWriteq1 nd p q).getD (↑x:Int).toNat va0).fst=((vcWriteq1 nd p q).getD (↑x:Int).toNat va0).fst∧(vcWriteq2 nd p q x)=(vcWriteq2 nd p q x)∧0=(↑x_1:Int)∧True)∧((True∧True∧True)∧((98:Nat)=(98:Nat)∧nd=nd)∧((3:Nat)=(3:Nat)∧upW (nd,wr,()) p=upW (nd,wr,()) p)∧((3:Nat)=(3:Nat)∧accU (valsAt (nd,wr,()) p q) nd.length x=maxU (accU (valsAt (nd,wr,()) p q) nd.length (↑x:Int).toNat) ((valsAt (nd,wr,()) p q).getD (↑x:Int).toNat va0).fst x_1)∧(True∧v=v∧True)∧True)∧True∧p=p∧q=q∧v=v∧True)∧∀ (x_1:Nat),x_1≤((valsAt (nd,wr,()) p q).getD (↑x:Int).toNat va0).fst.length∧writeE (nd,wr,()) p q v=0→(decide ((↑x_1:Int)<(vcWriteq2 nd p q x))=true→0≤(↑x_1:Int)∧(↑x_1:Int)<(vcWriteq2 nd p q x)∧(0≤(↑x_1:Int)∧(↑x_1:Int)<(↑(maxU (accU (valsAt (nd,wr,()) p q) nd.length (↑x:Int).toNat) ((valsAt (nd,wr,()) p q).getD (↑x:Int).toNat va0).fst x_1).length:Int)∧0≤(↑x_1:Int)∧(↑x_1:Int)<(↑(maxU (accU (valsAt (nd,wr,()) p q) nd.length (↑x:Int).toNat) ((valsAt (nd,wr,()) p q).getD (↑x:Int).toNat va0).fst x_1).length:Int)∧True)∧inK IntKind.i64 ((↑x_1:Int)+1)∧∃ (x_2:Nat),(x_2≤((valsAt (nd,wr,()) p q).getD (↑x:Int).toNat va0).fst.length∧writeE (nd,wr,()) p q v=0)∧(1000:Nat) - x_2<(1000:Nat) - x_1∧(True∧p=p∧q=q∧v=v∧True∧(nd.getD p.toNat (List.replicate 4 [])).getD q.toNat []=(nd.getD p.toNat (List.replicate 4 [])).getD q.toNat []∧(↑(vcWriteq1 nd p q).length:Int)=(↑(vcWriteq1 nd p q).length:Int)∧(↑x:Int)=(↑x:Int)∧((vcWriteq1 nd p q).getD (↑x:Int).toNat va0).fst=((vcWriteq1 nd p q).getD (↑x:Int).toNat va0).fst∧(vcWriteq2 nd p q x)=(vcWriteq2 nd p q x)∧(↑x_1:Int)+1=(↑x_2:Int)∧True)∧((True∧True∧True)∧((98:Nat)=(98:Nat)∧nd=nd)∧((3:Nat)=(3:Nat)∧upW (nd,wr,()) p=upW (nd,wr,()) p)∧((3:Nat)=(3:Nat)∧(maxU (accU (valsAt (nd,wr,()) p q) nd.length (↑x:Int).toNat) ((valsAt (nd,wr,()) p q).getD (↑x:Int).toNat va0).fst x_1).set (↑x_1:Int).toNat (max ((maxU (accU (valsAt (nd,wr,()) p q) nd.length (↑x:Int).toNat) ((valsAt (nd,wr,()) p q).getD (↑x:Int).toNat va0).fst x_1).getD (↑x_1:Int).toNat 0) (List.getD ((vcWriteq1 nd p q).getD (↑x:Int).toNat va0).fst (↑x_1:Int).toNat 0))=maxU (accU (valsAt (nd,wr,()) p q) nd.length (↑x:Int).toNat) ((valsAt (nd,wr,()) p q).getD (↑x:Int).toNat va0).fst x_2)∧(True∧v=v∧True)∧True)∧True∧p=p∧q=q∧v=v∧True)∧(decide ((↑x_1:Int)<(vcWriteq2 nd p q x))=false→inK IntKind.i64 ((↑x:Int)+1)∧∃ (x_2:Nat),(x_2≤(valsAt (nd,wr,()) p q).length∧writeE (nd,wr,()) p q v=0)∧(valsAt (nd,wr,()) p q).length - x_2<(valsAt (nd,wr,()) p q).length - x∧(True∧p=p∧q=q∧v=v∧True∧(nd.getD p.toNat (List.replicate 4 [])).getD q.toNat []=(nd.getD p.toNat (List.replicate 4 [])).getD q.toNat []∧(↑(vcWriteq1 nd p q).length:Int)=(↑(vcWriteq1 nd p q).length:Int)∧(↑x:Int)+1=(↑x_2:Int)∧True)∧((True∧True∧True)∧((98:Nat)=(98:Nat)∧nd=nd)∧((3:Nat)=(3:Nat)∧upW (nd,wr,()) p=upW (nd,wr,()) p)∧((3:Nat)=(3:Nat)∧maxU (accU (valsAt (nd,wr,()) p q) nd.length (↑x:Int).toNat) ((valsAt (nd,wr,()) p q).getD (↑x:Int).toNat va0).fst x_1=accU (valsAt (nd,wr,()) p q) nd.length x_2)∧(True∧v=v∧True)∧True)∧True∧p=p∧q=q∧v=v∧True))∧(decide ((↑x:Int)<(↑(vcWriteq1 nd p q).length:Int))=false→(0≤p∧p<(↑(upW (nd,wr,()) p).length:Int)∧0≤p∧p<(↑(accU (valsAt (nd,wr,()) p q) nd.length x).length:Int)∧True)∧(0≤p∧p<(↑nd.length:Int)∧0≤q∧q<(↑(4:Nat):Int)∧True)∧k (SV.d (Ty.err 73) 0) [Ob.st 96 [SV.os 1,SV.os 2],Ob.row 98 tRow (nd.set p.toNat ((nd.getD p.toNat (List.replicate 4 [])).set q.toNat ((List.replicate 1 va0).set 0 ((accU (valsAt (nd,wr,()) p q) nd.length x).set p.toNat ((upW (nd,wr,()) p).getD p.toNat 0),v,())))),Ob.row 3 (I) (upW (nd,wr,()) p)]))))):=by kernel_rfl
abbrev vcSyncq1(nd:List (List (List Va)))(wr:List Int)(a:Int)(b:Int)(x:Nat):=(allAt (nd,wr,()) a b (↑x:Int).toNat)
abbrev vcSyncq2(nd:List (List (List Va)))(wr:List Int)(a:Int)(b:Int)(x:Nat):=(((List.replicate 2 []).set 0 (((syncU (nd,wr,()) a b x).fst.getD b.toNat (List.replicate 4 [])).getD (↑x:Int).toNat [])).set 1 (((syncU (nd,wr,()) a b x).fst.getD a.toNat (List.replicate 4 [])).getD (↑x:Int).toNat []))
abbrev vcSyncq3(nd:List (List (List Va)))(wr:List Int)(a:Int)(b:Int)(x:Nat):=(syncU (nd,wr,()) a b (↑x:Int).toNat)
abbrev vcSyncq4(nd:List (List (List Va)))(wr:List Int)(a:Int)(b:Int)(x:Nat):=(↑(vcSyncq1 nd wr a b x).length:Int)
abbrev vcSyncq5(nd:List (List (List Va)))(wr:List Int)(a:Int)(b:Int)(x:Nat)(x_1:Nat):=((83:Nat)=(83:Nat)∧(vcSyncq1 nd wr a b x).getD (↑x_1:Int).toNat va0=(vcSyncq1 nd wr a b x).getD (↑x_1:Int).toNat va0)
abbrev vcSyncq6(nd:List (List (List Va)))(wr:List Int)(a:Int)(b:Int)(x:Nat):=((3:Nat)=(3:Nat)∧(vcSyncq3 nd wr a b x).snd.fst=(vcSyncq3 nd wr a b x).snd.fst)
abbrev vcSyncq7(nd:List (List (List Va)))(wr:List Int)(a:Int)(b:Int)(x:Nat):=((98:Nat)=(98:Nat)∧(vcSyncq3 nd wr a b x).fst=(vcSyncq3 nd wr a b x).fst)
theorem vcSync(nd:List (List (List Va)))(wr:List Int)(a b:Int)(k:SV→List Ob→Prop):vcO ⟨Eg,[(49,cIs),(50,cConcat),(51,cSaw)],[],[],[(52,oSortV)]⟩ (anSync (nd,wr,()) a b) (Tryz.f28.body.getD .skip) Tryz.f28.ntmps [(.tmp 6,tErr)] [.ps 0,.d I a,.d I b] [.st 96 [.os 1,.os 2],.row 98 tRow nd,.row 3 I wr] k=(
 ((!inNet (nd,wr,()) a 0)=true→(1:Int)≠(0:Int)∧k (SV.d (Ty.err 73) 1) [Ob.st 96 [SV.os 1,SV.os 2],Ob.row 98 tRow nd,Ob.row 3 (I) wr])∧((!inNet (nd,wr,()) a 0)=false→((!inNet (nd,wr,()) b 0)=true→(1:Int)≠(0:Int)∧k (SV.d (Ty.err 73) 1) [Ob.st 96 [SV.os 1,SV.os 2],Ob.row 98 tRow nd,Ob.row 3 (I) wr])∧((!inNet (nd,wr,()) b 0)=false→(decide (a=b)=true→(6:Int)≠(0:Int)∧k (SV.d (Ty.err 73) 6) [Ob.st 96 [SV.os 1,SV.os 2],Ob.row 98 tRow nd,Ob.row 3 (I) wr])∧(decide (a=b)=false→(∃ (x:Nat),(x≤(4:Nat)∧syncE (nd,wr,()) a b=0)∧(True∧a=a∧b=b∧0=(↑x:Int)∧True)∧((True∧True∧True)∧((98:Nat)=(98:Nat)∧nd=(syncU (nd,wr,()) a b x).fst)∧((3:Nat)=(3:Nat)∧wr=(syncU (nd,wr,()) a b x).snd.fst)∧True)∧True∧a=a∧b=b∧True)∧∀ (x:Nat),x≤(4:Nat)∧syncE (nd,wr,()) a b=0→(decide ((↑x:Int)<4)=true→(0≤b∧b<(↑(syncU (nd,wr,()) a b x).fst.length:Int)∧0≤(↑x:Int)∧(↑x:Int)<(↑(4:Nat):Int)∧0≤a∧a<(↑(syncU (nd,wr,()) a b x).fst.length:Int)∧0≤(↑x:Int)∧(↑x:Int)<(↑(4:Nat):Int)∧(sumV (vcSyncq2 nd wr a b x) (vcSyncq2 nd wr a b x).length≤(1000000000:Nat)∧True)∧True)∧(∃ (x_1:Nat),(x_1≤(vcSyncq1 nd wr a b x).length∧syncE (nd,wr,()) a b=0)∧(True∧a=a∧b=b∧(↑x:Int)=(↑x:Int)∧(vcSyncq2 nd wr a b x).flatten=allAt (nd,wr,()) a b (↑x:Int).toNat∧True∧(↑x:Int)=(↑x:Int)∧(vcSyncq2 nd wr a b x).flatten=allAt (nd,wr,()) a b (↑x:Int).toNat∧(↑(vcSyncq2 nd wr a b x).flatten.length:Int)=(vcSyncq4 nd wr a b x)∧0=(↑x_1:Int)∧True)∧((True∧True∧True)∧((98:Nat)=(98:Nat)∧(syncU (nd,wr,()) a b x).fst=(vcSyncq3 nd wr a b x).fst)∧((3:Nat)=(3:Nat)∧(syncU (nd,wr,()) a b x).snd.fst=(vcSyncq3 nd wr a b x).snd.fst)∧((83:Nat)=(83:Nat)∧[]=outU (vcSyncq1 nd wr a b x) x_1)∧True)∧True∧a=a∧b=b∧True)∧∀ (x_1:Nat),x_1≤(vcSyncq1 nd wr a b x).length∧syncE (nd,wr,()) a b=0→(decide ((↑x_1:Int)<(vcSyncq4 nd wr a b x))=true→0≤(↑x_1:Int)∧(↑x_1:Int)<(vcSyncq4 nd wr a b x)∧(∃ (x_2:Nat),(x_2≤(vcSyncq1 nd wr a b x).length∧syncE (nd,wr,()) a b=0)∧(True∧a=a∧b=b∧(↑x:Int)=(↑x:Int)∧allAt (nd,wr,()) a b (↑x:Int).toNat=allAt (nd,wr,()) a b (↑x:Int).toNat∧True∧(↑x_1:Int)=(↑x_1:Int)∧([]:List Nat)=[]∧false=oldU (vcSyncq1 nd wr a b x) (↑x_1:Int).toNat x_2∧(↑x:Int)=(↑x:Int)∧allAt (nd,wr,()) a b (↑x:Int).toNat=allAt (nd,wr,()) a b (↑x:Int).toNat∧(vcSyncq4 nd wr a b x)=(vcSyncq4 nd wr a b x)∧(↑x_1:Int)=(↑x_1:Int)∧allAt (nd,wr,()) a b (↑x:Int).toNat=allAt (nd,wr,()) a b (↑x:Int).toNat∧(vcSyncq4 nd wr a b x)=(vcSyncq4 nd wr a b x)∧0=(↑x_2:Int)∧True)∧((True∧True∧True)∧(vcSyncq7 nd wr a b x)∧(vcSyncq6 nd wr a b x)∧((83:Nat)=(83:Nat)∧outU (vcSyncq1 nd wr a b x) x_1=outU (vcSyncq1 nd wr a b x) x_1)∧(vcSyncq5 nd wr a b x x_1)∧True)∧True∧a=a∧b=b∧True)∧∀ (x_2:Nat),x_2≤(vcSyncq1 nd wr a b x).length∧syncE (nd,wr,()) a b=0→(decide ((↑x_2:Int)<(vcSyncq4 nd wr a b x))=true→0≤(↑x_2:Int)∧(↑x_2:Int)<(vcSyncq4 nd wr a b x)∧(oldU (vcSyncq1 nd wr a b x) (↑x_1:Int).toNat x_2=true→inK IntKind.i64 ((↑x_2:Int)+1)∧∃ (x_3:Nat),(x_3≤(vcSyncq1 nd wr a b x).length∧syncE (nd,wr,()) a b=0)∧(10000:Nat) - x_3<(10000:Nat) - x_2∧(True∧a=a∧b=b∧(↑x:Int)=(↑x:Int)∧allAt (nd,wr,()) a b (↑x:Int).toNat=allAt (nd,wr,()) a b (↑x:Int).toNat∧True∧(↑x_1:Int)=(↑x_1:Int)∧([]:List Nat)=[]∧true=oldU (vcSyncq1 nd wr a b x) (↑x_1:Int).toNat x_3∧(↑x:Int)=(↑x:Int)∧allAt (nd,wr,()) a b (↑x:Int).toNat=allAt (nd,wr,()) a b (↑x:Int).toNat∧(vcSyncq4 nd wr a b x)=(vcSyncq4 nd wr a b x)∧(↑x_1:Int)=(↑x_1:Int)∧allAt (nd,wr,()) a b (↑x:Int).toNat=allAt (nd,wr,()) a b (↑x:Int).toNat∧(vcSyncq4 nd wr a b x)=(vcSyncq4 nd wr a b x)∧(↑x_2:Int)+1=(↑x_3:Int)∧True)∧((True∧True∧True)∧(vcSyncq7 nd wr a b x)∧(vcSyncq6 nd wr a b x)∧((83:Nat)=(83:Nat)∧outU (vcSyncq1 nd wr a b x) x_1=outU (vcSyncq1 nd wr a b x) x_1)∧(vcSyncq5 nd wr a b x x_1)∧True)∧True∧a=a∧b=b∧True)∧(oldU (vcSyncq1 nd wr a b x) (↑x_1:Int).toNat x_2=false→(List.length ((vcSyncq1 nd wr a b x).getD (↑x_2:Int).toNat va0).fst≤List.length ((vcSyncq1 nd wr a b x).getD (↑x_1:Int).toNat va0).fst∧True)∧(sawB ((vcSyncq1 nd wr a b x).getD (↑x_2:Int).toNat va0) ((vcSyncq1 nd wr a b x).getD (↑x_1:Int).toNat va0)=true→(List.length ((vcSyncq1 nd wr a b x).getD (↑x_1:Int).toNat va0).fst≤List.length ((vcSyncq1 nd wr a b x).getD (↑x_2:Int).toNat va0).fst∧True)∧((!sawB ((vcSyncq1 nd wr a b x).getD (↑x_1:Int).toNat va0) ((vcSyncq1 nd wr a b x).getD (↑x_2:Int).toNat va0))=true→inK IntKind.i64 ((↑x_2:Int)+1)∧∃ (x_3:Nat),(x_3≤(vcSyncq1 nd wr a b x).length∧syncE (nd,wr,()) a b=0)∧(10000:Nat) - x_3<(10000:Nat) - x_2∧(True∧a=a∧b=b∧(↑x:Int)=(↑x:Int)∧allAt (nd,wr,()) a b (↑x:Int).toNat=allAt (nd,wr,()) a b (↑x:Int).toNat∧True∧(↑x_1:Int)=(↑x_1:Int)∧([]:List Nat)=[]∧true=oldU (vcSyncq1 nd wr a b x) (↑x_1:Int).toNat x_3∧(↑x:Int)=(↑x:Int)∧allAt (nd,wr,()) a b (↑x:Int).toNat=allAt (nd,wr,()) a b (↑x:Int).toNat∧(vcSyncq4 nd wr a b x)=(vcSyncq4 nd wr a b x)∧(↑x_1:Int)=(↑x_1:Int)∧allAt (nd,wr,()) a b (↑x:Int).toNat=allAt (nd,wr,()) a b (↑x:Int).toNat∧(vcSyncq4 nd wr a b x)=(vcSyncq4 nd wr a b x)∧(↑x_2:Int)+1=(↑x_3:Int)∧True)∧((True∧True∧True)∧(vcSyncq7 nd wr a b x)∧(vcSyncq6 nd wr a b x)∧((83:Nat)=(83:Nat)∧outU (vcSyncq1 nd wr a b x) x_1=outU (vcSyncq1 nd wr a b x) x_1)∧(vcSyncq5 nd wr a b x x_1)∧True)∧True∧a=a∧b=b∧True)∧((!sawB ((vcSyncq1 nd wr a b x).getD (↑x_1:Int).toNat va0) ((vcSyncq1 nd wr a b x).getD (↑x_2:Int).toNat va0))=false→inK IntKind.i64 ((↑x_2:Int)+1)∧∃ (x_3:Nat),(x_3≤(vcSyncq1 nd wr a b x).length∧syncE (nd,wr,()) a b=0)∧(10000:Nat) - x_3<(10000:Nat) - x_2∧(True∧a=a∧b=b∧(↑x:Int)=(↑x:Int)∧allAt (nd,wr,()) a b (↑x:Int).toNat=allAt (nd,wr,()) a b (↑x:Int).toNat∧True∧(↑x_1:Int)=(↑x_1:Int)∧([]:List Nat)=[]∧decide ((↑x_2:Int)<(↑x_1:Int))=oldU (vcSyncq1 nd wr a b x) (↑x_1:Int).toNat x_3∧(↑x:Int)=(↑x:Int)∧allAt (nd,wr,()) a b (↑x:Int).toNat=allAt (nd,wr,()) a b (↑x:Int).toNat∧(vcSyncq4 nd wr a b x)=(vcSyncq4 nd wr a b x)∧(↑x_1:Int)=(↑x_1:Int)∧allAt (nd,wr,()) a b (↑x:Int).toNat=allAt (nd,wr,()) a b (↑x:Int).toNat∧(vcSyncq4 nd wr a b x)=(vcSyncq4 nd wr a b x)∧(↑x_2:Int)+1=(↑x_3:Int)∧True)∧((True∧True∧True)∧(vcSyncq7 nd wr a b x)∧(vcSyncq6 nd wr a b x)∧((83:Nat)=(83:Nat)∧outU (vcSyncq1 nd wr a b x) x_1=outU (vcSyncq1 nd wr a b x) x_1)∧(vcSyncq5 nd wr a b x x_1)∧True)∧True∧a=a∧b=b∧True))∧(sawB ((vcSyncq1 nd wr a b x).getD (↑x_2:Int).toNat va0) ((vcSyncq1 nd wr a b x).getD (↑x_1:Int).toNat va0)=false→inK IntKind.i64 ((↑x_2:Int)+1)∧∃ (x_3:Nat),(x_3≤(vcSyncq1 nd wr a b x).length∧syncE (nd,wr,()) a b=0)∧(10000:Nat) - x_3<(10000:Nat) - x_2∧(True∧a=a∧b=b∧(↑x:Int)=(↑x:Int)∧allAt (nd,wr,()) a b (↑x:Int).toNat=allAt (nd,wr,()) a b (↑x:Int).toNat∧True∧(↑x_1:Int)=(↑x_1:Int)∧([]:List Nat)=[]∧false=oldU (vcSyncq1 nd wr a b x) (↑x_1:Int).toNat x_3∧(↑x:Int)=(↑x:Int)∧allAt (nd,wr,()) a b (↑x:Int).toNat=allAt (nd,wr,()) a b (↑x:Int).toNat∧(vcSyncq4 nd wr a b x)=(vcSyncq4 nd wr a b x)∧(↑x_1:Int)=(↑x_1:Int)∧allAt (nd,wr,()) a b (↑x:Int).toNat=allAt (nd,wr,()) a b (↑x:Int).toNat∧(vcSyncq4 nd wr a b x)=(vcSyncq4 nd wr a b x)∧(↑x_2:Int)+1=(↑x_3:Int)∧True)∧((True∧True∧True)∧(vcSyncq7 nd wr a b x)∧(vcSyncq6 nd wr a b x)∧((83:Nat)=(83:Nat)∧outU (vcSyncq1 nd wr a b x) x_1=outU (vcSyncq1 nd wr a b x) x_1)∧(vcSyncq5 nd wr a b x x_1)∧True)∧True∧a=a∧b=b∧True)))∧(decide ((↑x_2:Int)<(vcSyncq4 nd wr a b x))=false→((!oldU (vcSyncq1 nd wr a b x) (↑x_1:Int).toNat x_2)=true→(outU (vcSyncq1 nd wr a b x) x_1).length+((List.replicate 1 va0).set 0 ((vcSyncq1 nd wr a b x).getD (↑x_1:Int).toNat va0)).length≤(1000000000:Nat)∧inK IntKind.i64 ((↑x_1:Int)+1)∧∃ (x_3:Nat),(x_3≤(vcSyncq1 nd wr a b x).length∧syncE (nd,wr,()) a b=0)∧(10000:Nat) - x_3<(10000:Nat) - x_1∧(True∧a=a∧b=b∧(↑x:Int)=(↑x:Int)∧allAt (nd,wr,()) a b (↑x:Int).toNat=allAt (nd,wr,()) a b (↑x:Int).toNat∧True∧(↑x:Int)=(↑x:Int)∧allAt (nd,wr,()) a b (↑x:Int).toNat=allAt (nd,wr,()) a b (↑x:Int).toNat∧(vcSyncq4 nd wr a b x)=(vcSyncq4 nd wr a b x)∧(↑x_1:Int)+1=(↑x_3:Int)∧True)∧((True∧True∧True)∧(vcSyncq7 nd wr a b x)∧(vcSyncq6 nd wr a b x)∧((83:Nat)=(83:Nat)∧(outU (vcSyncq1 nd wr a b x) x_1).append ((List.replicate 1 va0).set 0 ((vcSyncq1 nd wr a b x).getD (↑x_1:Int).toNat va0))=outU (vcSyncq1 nd wr a b x) x_3)∧True)∧True∧a=a∧b=b∧True)∧((!oldU (vcSyncq1 nd wr a b x) (↑x_1:Int).toNat x_2)=false→inK IntKind.i64 ((↑x_1:Int)+1)∧∃ (x_3:Nat),(x_3≤(vcSyncq1 nd wr a b x).length∧syncE (nd,wr,()) a b=0)∧(10000:Nat) - x_3<(10000:Nat) - x_1∧(True∧a=a∧b=b∧(↑x:Int)=(↑x:Int)∧allAt (nd,wr,()) a b (↑x:Int).toNat=allAt (nd,wr,()) a b (↑x:Int).toNat∧True∧(↑x:Int)=(↑x:Int)∧allAt (nd,wr,()) a b (↑x:Int).toNat=allAt (nd,wr,()) a b (↑x:Int).toNat∧(vcSyncq4 nd wr a b x)=(vcSyncq4 nd wr a b x)∧(↑x_1:Int)+1=(↑x_3:Int)∧True)∧((True∧True∧True)∧(vcSyncq7 nd wr a b x)∧(vcSyncq6 nd wr a b x)∧((83:Nat)=(83:Nat)∧outU (vcSyncq1 nd wr a b x) x_1=outU (vcSyncq1 nd wr a b x) x_3)∧True)∧True∧a=a∧b=b∧True)))∧(decide ((↑x_1:Int)<(vcSyncq4 nd wr a b x))=false→(outU (vcSyncq1 nd wr a b x) x_1).length≤(1000000000:Nat)∧∀ (ys:List Va),srtPV (outU (vcSyncq1 nd wr a b x) x_1) ys→0≤b∧b<(↑(vcSyncq3 nd wr a b x).fst.length:Int)∧0≤(↑x:Int)∧(↑x:Int)<(↑(4:Nat):Int)∧inK IntKind.i64 ((↑x:Int)+1)∧∃ (x_2:Nat),(x_2≤(4:Nat)∧syncE (nd,wr,()) a b=0)∧(4:Nat) - x_2<(4:Nat) - x∧(True∧a=a∧b=b∧(↑x:Int)+1=(↑x_2:Int)∧True)∧((True∧True∧True)∧((98:Nat)=(98:Nat)∧(vcSyncq3 nd wr a b x).fst.set b.toNat (((vcSyncq3 nd wr a b x).fst.getD b.toNat (List.replicate 4 [])).set (↑x:Int).toNat ys)=(syncU (nd,wr,()) a b x_2).fst)∧((3:Nat)=(3:Nat)∧(vcSyncq3 nd wr a b x).snd.fst=(syncU (nd,wr,()) a b x_2).snd.fst)∧True)∧True∧a=a∧b=b∧True))∧(decide ((↑x:Int)<4)=false→k (SV.d (Ty.err 73) 0) [Ob.st 96 [SV.os 1,SV.os 2],Ob.row 98 tRow (syncU (nd,wr,()) a b x).fst,Ob.row 3 (I) (syncU (nd,wr,()) a b x).snd.fst]))))):=by kernel_rfl
open Go.Vc
set_option linter.unusedVariables false
theorem vcSaw(v w:Va)(k:List Dat→Prop):vcF ⟨Eg,[],[],[],[]⟩ (anSaw v w) (Tryz.f51.body.getD .skip) Tryz.f51.ntmps [(.tmp 4,.bool)] [⟨tV,v⟩,⟨tV,w⟩] k=(
 (∃ (x:Nat),(x≤v.fst.length∧sawF v.fst w.fst x=true)∧(([]:List Nat)=[]∧([]:List Nat)=[]∧(↑(List.length v.fst):Int)=(↑(List.length v.fst):Int)∧0=(↑x:Int)∧True)∧((83=83∧v=v)∧(83=83∧w=w)∧True)∧True)∧∀ (x:Nat),x≤v.fst.length∧sawF v.fst w.fst x=true→(decide ((↑x:Int)<(↑(List.length v.fst):Int))=true→(0≤(↑x:Int)∧(↑x:Int)<(↑(List.length w.fst):Int)∧0≤(↑x:Int)∧(↑x:Int)<(↑(List.length v.fst):Int)∧True)∧(decide (List.getD v.fst (↑x:Int).toNat 0<List.getD w.fst (↑x:Int).toNat 0)=true→k [Dat.mk Ty.bool false])∧(decide (List.getD v.fst (↑x:Int).toNat 0<List.getD w.fst (↑x:Int).toNat 0)=false→inK IntKind.i64 ((↑x:Int)+1)∧∃ (x_1:Nat),(x_1≤v.fst.length∧sawF v.fst w.fst x_1=true)∧v.fst.length - x_1<v.fst.length - x∧(([]:List Nat)=[]∧([]:List Nat)=[]∧(↑(List.length v.fst):Int)=(↑(List.length v.fst):Int)∧(↑x:Int)+1=(↑x_1:Int)∧True)∧((83=83∧v=v)∧(83=83∧w=w)∧True)∧True))∧(decide ((↑x:Int)<(↑(List.length v.fst):Int))=false→k [Dat.mk Ty.bool true])):=by kernel_rfl
theorem vcIs(t:Net)(a b:Int)(k:List Dat→Prop):vcF ⟨Eg,[(48,cWithin)],[],[],[]⟩ [joinAll] (Tryz.f49.body.getD .skip) Tryz.f49.ntmps [(.tmp 6,.bool)] [⟨.ptr tNet,some t⟩,⟨I,a⟩,⟨I,b⟩] k=(
 inK IntKind.i64 ((↑(List.length t.fst):Int) - 1)∧True∧(inB a 0 ((↑(List.length t.fst):Int) - 1)=true→True∧k [Dat.mk Ty.bool (inB b 0 3)])∧(inB a 0 ((↑(List.length t.fst):Int) - 1)=false→k [Dat.mk Ty.bool false])):=by kernel_rfl
theorem vcLex(a b:List Int)(k:List Dat→Prop):vcF ⟨Eg,[(55,cCmp)],[],[],[]⟩ (anLex a b) (Tryz.f54.body.getD .skip) Tryz.f54.ntmps [(.tmp 6,I)] [⟨.sl I,a⟩,⟨.sl I,b⟩,⟨.fn 55 .un,some ()⟩] k=(
 (∃ (x:Nat),(lexI a b=lexF a b (a.length - x) x∧x≤a.length)∧(a=a∧b=b∧some ()=some ()∧a=a∧(↑a.length:Int)=(↑a.length:Int)∧0=(↑x:Int)∧True)∧True∧True)∧∀ (x:Nat),lexI a b=lexF a b (a.length - x) x∧x≤a.length→(decide ((↑x:Int)<(↑a.length:Int))=true→0≤(↑x:Int)∧(↑x:Int)<(↑a.length:Int)∧(decide ((↑b.length:Int)≤(↑x:Int))=true→k [Dat.mk (I) 1])∧(decide ((↑b.length:Int)≤(↑x:Int))=false→0≤(↑x:Int)∧(↑x:Int)<(↑b.length:Int)∧True∧((!decide (cmpI (a.getD (↑x:Int).toNat 0) (b.getD (↑x:Int).toNat 0)=0))=true→k [Dat.mk (I) (cmpI (a.getD (↑x:Int).toNat 0) (b.getD (↑x:Int).toNat 0))])∧((!decide (cmpI (a.getD (↑x:Int).toNat 0) (b.getD (↑x:Int).toNat 0)=0))=false→inK IntKind.i64 ((↑x:Int)+1)∧∃ (x_1:Nat),(lexI a b=lexF a b (a.length - x_1) x_1∧x_1≤a.length)∧a.length - x_1<a.length - x∧(a=a∧b=b∧some ()=some ()∧a=a∧(↑a.length:Int)=(↑a.length:Int)∧(↑x:Int)+1=(↑x_1:Int)∧True)∧True∧True)))∧(decide ((↑x:Int)<(↑a.length:Int))=false→(decide ((↑a.length:Int)<(↑b.length:Int))=true→k [Dat.mk (I) (-1:Int)])∧(decide ((↑a.length:Int)<(↑b.length:Int))=false→k [Dat.mk (I) 0]))):=by kernel_rfl
theorem vcLexV(v w:Va)(k:List Dat→Prop):vcF ⟨Eg,[(54,cLex)],[],[],[]⟩ [] (Tryz.f53.body.getD .skip) Tryz.f53.ntmps [(.tmp 4,I)] [⟨tV,v⟩,⟨tV,w⟩] k=(
 (some ()).isSome=true∧k [Dat.mk (I) (lexI v.fst w.fst)]):=by kernel_rfl
theorem vcValues(a b:List Va)(k:List Dat→Prop):vcF ⟨Eg,[(41,cInts)],[],[],[]⟩ (anValues a b) (Tryz.f21.body.getD .skip) Tryz.f21.ntmps [(.tmp 4,.bool)] [⟨.sl tV,a⟩,⟨.sl tV,b⟩] k=(
 ((!decide ((↑a.length:Int)=(↑b.length:Int)))=true→k [Dat.mk Ty.bool false])∧((!decide ((↑a.length:Int)=(↑b.length:Int)))=false→(∃ (x:Nat),(x≤a.length∧a.length=b.length∧List.take x a=List.take x b)∧(a=a∧b=b∧0=(↑x:Int)∧True)∧True∧True)∧∀ (x:Nat),x≤a.length∧a.length=b.length∧List.take x a=List.take x b→(decide ((↑x:Int)<(↑a.length:Int))=true→(0≤(↑x:Int)∧(↑x:Int)<(↑a.length:Int)∧0≤(↑x:Int)∧(↑x:Int)<(↑b.length:Int)∧((!decide ((a.getD (↑x:Int).toNat va0).snd.fst=(b.getD (↑x:Int).toNat va0).snd.fst))=true→True)∧((!decide ((a.getD (↑x:Int).toNat va0).snd.fst=(b.getD (↑x:Int).toNat va0).snd.fst))=false→0≤(↑x:Int)∧(↑x:Int)<(↑a.length:Int)∧0≤(↑x:Int)∧(↑x:Int)<(↑b.length:Int)∧True∧True))∧((!decide ((a.getD (↑x:Int).toNat va0).snd.fst=(b.getD (↑x:Int).toNat va0).snd.fst) || !decide ((a.getD (↑x:Int).toNat va0).fst=(b.getD (↑x:Int).toNat va0).fst))=true→k [Dat.mk Ty.bool false])∧((!decide ((a.getD (↑x:Int).toNat va0).snd.fst=(b.getD (↑x:Int).toNat va0).snd.fst) || !decide ((a.getD (↑x:Int).toNat va0).fst=(b.getD (↑x:Int).toNat va0).fst))=false→inK IntKind.i64 ((↑x:Int)+1)∧∃ (x_1:Nat),(x_1≤a.length∧a.length=b.length∧List.take x_1 a=List.take x_1 b)∧a.length - x_1<a.length - x∧(a=a∧b=b∧(↑x:Int)+1=(↑x_1:Int)∧True)∧True∧True))∧(decide ((↑x:Int)<(↑a.length:Int))=false→k [Dat.mk Ty.bool true]))):=by kernel_rfl
theorem vcGrowV(n:Int)(k:SV→List Ob→Prop):vcO ⟨Eg,[],[],[],[]⟩ [joinAll] (Tryz.f76.body.getD .skip) Tryz.f76.ntmps [(.tmp 4,.un)] [.nils,.d I n] [] k=(
 (decide (n<(0:Int))=true→False)∧(decide (n<(0:Int))=false→inK IntKind.i64 (0 - (0:Int))∧inK IntKind.i64 (n - (0 - (0:Int)))∧(decide (0<n - (0 - (0:Int)))=true→0=(0:Int)∧(0<n - (0 - (0:Int))∧n - (0 - (0:Int))≤(1000000000:Int))∧(0≤(0:Int)∧0≤(↑(List.replicate (n - (0 - (0:Int))).toNat va0).length:Int))∧k (SV.os 0) [Ob.row 83 (tV) (List.take (Int.toNat 0) (List.replicate (n - (0 - (0:Int))).toNat va0))])∧(decide (0<n - (0 - (0:Int)))=false→k SV.nils []))):=by kernel_rfl
theorem vcConcatV(ls:List (List Va))(k:List Dat→Prop):vcF ⟨Eg,[],[],[],[(76,oGrowV)]⟩ (anConcatV ls) (Tryz.f50.body.getD .skip) Tryz.f50.ntmps [(.tmp 2,.sl tV)] [⟨.sl (.sl tV),ls⟩] k=(
 (∃ (x:Nat),(x≤ls.length∧True)∧(ls=ls∧0=(↑(sumV ls x):Int)∧ls=ls∧(↑ls.length:Int)=(↑ls.length:Int)∧0=(↑x:Int)∧True)∧True∧True)∧∀ (x:Nat),x≤ls.length∧True→(decide ((↑x:Int)<(↑ls.length:Int))=true→0≤(↑x:Int)∧(↑x:Int)<(↑ls.length:Int)∧inK IntKind.i64 ((↑(sumV ls x):Int)+(↑(ls.getD (↑x:Int).toNat []).length:Int))∧(decide ((↑(sumV ls x):Int)+(↑(ls.getD (↑x:Int).toNat []).length:Int)<0)=true→False)∧(decide ((↑(sumV ls x):Int)+(↑(ls.getD (↑x:Int).toNat []).length:Int)<0)=false→inK IntKind.i64 ((↑x:Int)+1)∧∃ (x_1:Nat),(x_1≤ls.length∧True)∧ls.length - x_1<ls.length - x∧(ls=ls∧(↑(sumV ls x):Int)+(↑(ls.getD (↑x:Int).toNat []).length:Int)=(↑(sumV ls x_1):Int)∧ls=ls∧(↑ls.length:Int)=(↑ls.length:Int)∧(↑x:Int)+1=(↑x_1:Int)∧True)∧True∧True))∧(decide ((↑x:Int)<(↑ls.length:Int))=false→(0≤(↑(sumV ls x):Int)∧(↑(sumV ls x):Int)≤1000000000)∧(∃ (x:Nat),(x≤ls.length∧True)∧(True∧ls=ls∧(↑ls.length:Int)=(↑ls.length:Int)∧0=(↑x:Int)∧True)∧((83=83∧[]=(List.take x ls).flatten)∧True)∧True)∧∀ (x:Nat),x≤ls.length∧True→(decide ((↑x:Int)<(↑ls.length:Int))=true→0≤(↑x:Int)∧(↑x:Int)<(↑ls.length:Int)∧(List.take x ls).flatten.length+(ls.getD (↑x:Int).toNat []).length≤1000000000∧inK IntKind.i64 ((↑x:Int)+1)∧∃ (x_1:Nat),(x_1≤ls.length∧True)∧ls.length - x_1<ls.length - x∧(True∧ls=ls∧(↑ls.length:Int)=(↑ls.length:Int)∧(↑x:Int)+1=(↑x_1:Int)∧True)∧((83=83∧(List.take x ls).flatten.append (ls.getD (↑x:Int).toNat [])=(List.take x_1 ls).flatten)∧True)∧True)∧(decide ((↑x:Int)<(↑ls.length:Int))=false→k [Dat.mk (tV).sl (List.take x ls).flatten]))):=by kernel_rfl
theorem vcNew(n:Int)(k:SV→List Ob→Prop):vcO ⟨Eg,[(48,cWithin)],[],[],[]⟩ [joinAll] (Tryz.f26.body.getD .skip) Tryz.f26.ntmps [(.tmp 2,.un),(.tmp 3,tErr)] [.d I n] [] k=(
 True∧((!inB n 1 5)=true→(1:Int)≠(0:Int)∧k (SV.tp [SV.nilp,SV.d (Ty.err 73) 1]) [])∧((!inB n 1 5)=false→True∧(0≤n∧n≤n∧n≤1000000000∧True∧(0≤n∧n≤n∧n≤1000000000∧True∧k (SV.tp [SV.ps 0,SV.d (Ty.err 73) 0]) [Ob.st 96 [SV.os 1,SV.os 2],Ob.row 98 tRow (List.replicate n.toNat (List.replicate 4 [])),Ob.row 3 (I) (List.replicate n.toNat 0)])∧True)∧(0≤n∧n≤n∧n≤1000000000∧True∧(0≤n∧n≤n∧n≤1000000000∧True∧k (SV.tp [SV.ps 0,SV.d (Ty.err 73) 0]) [Ob.st 96 [SV.os 1,SV.os 2],Ob.row 98 tRow (List.replicate n.toNat (List.replicate 4 [])),Ob.row 3 (I) (List.replicate n.toNat 0)])∧True)∧True)):=by kernel_rfl
open Go.Vc
theorem getD_memL{α:Type}{l:List α}{i:Nat}{d:α}(h:i<l.length):l.getD i d∈l:=by
 rw[List.getD_eq_getElem?_getD,List.getElem?_eq_getElem h];exact List.getElem_mem h
theorem sawF_all{v w:List Int}:∀ n,sawF v w n=true↔∀ i,i<n→w.getD i 0≤v.getD i 0
 | 0=>by simp[sawF]
 | n+1=>by
  unfold sawF
  rw[Bool.and_eq_true,sawF_all n,decide_eq_true_eq]
  constructor
  ·rintro⟨h1,h2⟩ i hi
   by_cases h:i=n
   ·subst h;exact h2
   ·exact h1 i (by omega)
  ·intro h;exact⟨fun i hi=>h i (by omega),h n (by omega)⟩
theorem saw_vc(v w:Va)(hw:v.1.length≤w.1.length)(hl:v.1.length≤maxLen)(k:List Dat→Prop)(hk:k [⟨.bool,sawB v w⟩]):vcF ⟨Eg,[],[],[],[]⟩ (anSaw v w) (Tryz.f51.body.getD .skip) Tryz.f51.ntmps [(.tmp 4,.bool)] [⟨tV,v⟩,⟨tV,w⟩] k:=by
 rw[vcSaw]
 have hml:maxLen≤9223372036854775807:=by decide
 have ret:∀ x:Bool,sawB v w=x→k [⟨.bool,x⟩]:=by rintro _ rfl;exact hk
 simp only[decide_eq_true_eq,decide_eq_false_iff_not,true_and,and_true,Int.toNat_natCast,inK_i64]
 refine⟨⟨0,⟨Nat.zero_le _,rfl⟩,rfl⟩,fun x ⟨hx,hs⟩=>⟨fun hlt => ?_,fun hge=>ret _ ?_⟩⟩
 ·have hxl:x<v.1.length:=by omega
  refine⟨⟨by omega,by omega,by omega,hlt⟩,fun hc=>ret _ ?_,fun hc=>⟨by omega,x+1,⟨by omega,?_⟩,by omega,by omega⟩⟩
  ·cases hq:sawB v w with
   | false=>rfl
   | true =>
    have:=(sawF_all _).1 hq x hxl
    omega
  ·unfold sawF;rw[hs,decide_eq_true (by omega)];rfl
 ·have:x=v.1.length:=by omega
  subst this;exact hs
theorem okSaw:PlainOk Tryz.prog [] 51 cSaw:=by
 refine plain_of (CxOk.mk' Eg_ok (by kernel_rfl) mixed (gl:=[]) GOk.nil GoOk.nil noIt) Tryz.func51 (c:=Tryz.f51.body.getD .skip) (rvs:=[(.tmp 4,.bool)]) (by kernel_rfl) (by kernel_rfl) (by kernel_rfl) ?_
 intro ds k ⟨hp,hk⟩ hwf
 obtain⟨v,w,rfl,hw,-⟩:=dest2 hp
 exact⟨anSaw v w,saw_vc v w hw (wf2 hwf).1.1.1 k hk⟩
theorem okIs:PlainOk Tryz.prog [] 49 cIs:=by
 refine plain_of (CxOk.mk' Eg_ok (by kernel_rfl) mixed (gl:=[]) (GOk.cons okWithin Tryz.func48 (by kernel_rfl) (by kernel_rfl) GOk.nil) GoOk.nil noIt) Tryz.func49 (c:=Tryz.f49.body.getD .skip) (rvs:=[(.tmp 6,.bool)]) (by kernel_rfl) (by kernel_rfl) (by kernel_rfl) ?_
 intro ds k hk hwf
 obtain⟨t,p,q,rfl,hk⟩:=gdest3 hk
 refine⟨[joinAll],?_⟩
 cases t with
 | none=>exact hk.elim
 | some t =>
  have hl:t.1.length≤maxLen:=((wf3 hwf).1 t rfl).1.1
  have hml:maxLen≤9223372036854775807:=by decide
  rw[vcIs]
  have ret:∀ x:Bool,inNet t p q=x→k [⟨.bool,x⟩]:=by rintro _ rfl;exact hk
  refine⟨inK_i64.2 (by omega),trivial,fun h=>⟨trivial,ret _ (by unfold inNet;rw[h,Bool.true_and])⟩,fun h=>ret _ (by unfold inNet;rw[h,Bool.false_and])⟩
theorem lex_vc(a b:List Int)(hl:a.length≤maxLen)(k:List Dat→Prop)(hk:k [⟨I,lexI a b⟩]):vcF ⟨Eg,[(55,cCmp)],[],[],[]⟩ (anLex a b) (Tryz.f54.body.getD .skip) Tryz.f54.ntmps [(.tmp 6,I)] [⟨.sl I,a⟩,⟨.sl I,b⟩,⟨.fn 55 .un,some ()⟩] k:=by
 rw[vcLex]
 have hml:maxLen≤9223372036854775807:=by decide
 have ret:∀ x:Int,lexI a b=x→k [⟨I,x⟩]:=by rintro _ rfl;exact hk
 simp only[decide_eq_true_eq,decide_eq_false_iff_not,true_and,and_true,Int.toNat_natCast,inK_i64,Bool.not_eq_true',Bool.not_eq_false']
 refine⟨⟨0,⟨rfl,Nat.zero_le _⟩,rfl⟩,fun x ⟨ho,hx⟩=>⟨fun hlt => ?_,fun hge=>⟨fun h=>ret _ ?_,fun h=>ret _ ?_⟩⟩⟩
 ·have hxl:x<a.length:=by omega
  have hs:lexF a b (a.length - x) x=if b.length≤x then 1 else if cmpI (a.getD x 0) (b.getD x 0)=0 then lexF a b (a.length - (x+1)) (x+1) else cmpI (a.getD x 0) (b.getD x 0):=by
   rw[show a.length - x=(a.length - (x+1))+1 by omega];rfl
  refine⟨by omega,hlt,fun h1=>ret _ ?_,fun h1=>⟨by omega,by omega,fun h2=>ret _ ?_,fun h2=>⟨by omega,x+1,⟨?_,by omega⟩,by omega,by omega⟩⟩⟩
  ·rw[ho,hs,if_pos (by omega)]
  ·rw[ho,hs,if_neg (by omega),if_neg h2]
  ·rw[ho,hs,if_neg (by omega),if_pos h2]
 ·have:x=a.length:=by omega
  rw[ho,this,Nat.sub_self]
  unfold lexF;rw[if_pos h,if_pos rfl]
 ·have:x=a.length:=by omega
  rw[ho,this,Nat.sub_self]
  unfold lexF;rw[if_neg h]
theorem okLex[Dn]:PlainOk Tryz.prog [] 54 cLex:=by
 refine plain_of (CxOk.mk' Eg_ok (by kernel_rfl) mixed (gl:=[]) (GOk.cons okCmp Tryz.func55 (by kernel_rfl) (by kernel_rfl) GOk.nil) GoOk.nil noIt) Tryz.func54 (c:=Tryz.f54.body.getD .skip) (rvs:=[(.tmp 6,I)]) (by kernel_rfl) (by kernel_rfl) (by kernel_rfl) ?_
 intro ds k ⟨hp,hk⟩ hwf
 obtain⟨a,b,f,rfl,hf⟩:=dest3 hp
 cases f with
 | none=>cases hf
 | some u=>exact⟨anLex a b,lex_vc a b (wf3 hwf).1.1 k hk⟩
theorem okLexV[Dn]:PlainOk Tryz.prog [] 53 cLexV:=by
 refine plain_of (CxOk.mk' Eg_ok (by kernel_rfl) mixed (gl:=[]) (GOk.cons okLex Tryz.func54 (by kernel_rfl) (by kernel_rfl) GOk.nil) GoOk.nil noIt) Tryz.func53 (c:=Tryz.f53.body.getD .skip) (rvs:=[(.tmp 4,I)]) (by kernel_rfl) (by kernel_rfl) (by kernel_rfl) ?_
 intro ds k ⟨hp,hk⟩ hwf
 obtain⟨v,w,rfl,-⟩:=dest2 hp
 refine⟨[],?_⟩
 rw[vcLexV]
 exact⟨rfl,hk⟩
theorem va_eqB{v w:Va}:(!decide (v.2.1=w.2.1) || !decide (v.1=w.1)) = !decide (v=w):=by
 obtain⟨a,b,_⟩:=v
 obtain⟨c,d,_⟩:=w
 by_cases h1:b=d
 ·by_cases h2:a=c
  ·subst h1;subst h2;simp
  ·simp[h1,h2]
 ·simp[h1]
theorem values_vc(a b:List Va)(hl:a.length≤maxLen)(k:List Dat→Prop)(hk:k [⟨.bool,decide (a=b)⟩]):vcF ⟨Eg,[(41,cInts)],[],[],[]⟩ (anValues a b) (Tryz.f21.body.getD .skip) Tryz.f21.ntmps [(.tmp 4,.bool)] [⟨.sl tV,a⟩,⟨.sl tV,b⟩] k:=by
 rw[vcValues]
 have hml:maxLen≤9223372036854775807:=by decide
 have ret:∀ x:Bool,decide (a=b)=x→k [⟨.bool,x⟩]:=by rintro _ rfl;exact hk
 simp only[decide_eq_true_eq,decide_eq_false_iff_not,true_and,and_true,Bool.not_eq_true',Bool.not_eq_false',Int.toNat_natCast,inK_i64,va_eqB,implies_true]
 refine⟨fun h=>ret _ (decide_eq_false fun e=>h (by rw[e])),fun h=>⟨⟨0,⟨Nat.zero_le _,by omega,by simp⟩,rfl⟩,fun x ⟨hx,hab,ho⟩=>⟨fun hlt => ?_,fun hge=>ret _ ?_⟩⟩⟩
 ·refine⟨⟨by omega,hlt,by omega,by omega,fun _=>⟨by omega,hlt,by omega,by omega⟩⟩,fun he=>ret _ (decide_eq_false fun e=>he (by rw[e])),fun he=>⟨by omega,x+1,⟨by omega,hab,take_succ_eq (by omega) (by omega) ho _ he⟩,by omega,by omega⟩⟩
 ·have hxl:x=a.length:=by omega
  rw[hxl,List.take_length,hab,List.take_length] at ho
  exact decide_eq_true ho
theorem okValues:PlainOk Tryz.prog [] 21 cValues:=by
 refine plain_of (CxOk.mk' Eg_ok (by kernel_rfl) mixed (gl:=[]) (GOk.cons okInts Tryz.func41 (by kernel_rfl) (by kernel_rfl) GOk.nil) GoOk.nil noIt) Tryz.func21 (c:=Tryz.f21.body.getD .skip) (rvs:=[(.tmp 4,.bool)]) (by kernel_rfl) (by kernel_rfl) (by kernel_rfl) ?_
 intro ds k ⟨hp,hk⟩ hwf
 obtain⟨a,b,rfl,-⟩:=dest2 hp
 exact⟨anValues a b,values_vc a b (wf2 hwf).1.1 k hk⟩
theorem okCloneI:PlainOk Tryz.prog [] 56 cCloneI:=by
 refine plain_of_own ownCloneI ?_
 intro ds k ⟨hp,hk⟩
 obtain⟨l,rfl,hl,-⟩:=dest1 hp
 exact⟨hl,.sl I,l,true,rfl,hk⟩
theorem ownGrowV:OwnOk Tryz.prog [] 76 oGrowV:=by
 refine own_nilrow (oc:=fun args ob k=>∃ n:Int,args=[.nils,.d I n]∧ob=[]∧(0≤n∧n≤1000000000)∧k .nils []∧k (.os 0) [.row 83 tV ([]:List Va)]) ?_ 83 tV ?_
 ·refine own_of (CxOk.mk' Eg_ok (by kernel_rfl) mixed (gl:=[]) GOk.nil GoOk.nil noIt) Tryz.func76 (c:=Tryz.f76.body.getD .skip) (rvs:=[(.tmp 4,.un)]) (by kernel_rfl) (by kernel_rfl) (by kernel_rfl) ?_
  rintro args ob k ⟨n,rfl,rfl,⟨hn0,hn1⟩,h1,h2⟩ hwa hwo
  refine⟨[joinAll],?_⟩
  rw[vcGrowV]
  simp only[decide_eq_true_eq,decide_eq_false_iff_not,true_and,inK_i64,Int.sub_zero]
  refine⟨fun h=>by omega,fun _=>⟨by omega,by omega,fun _=>⟨⟨by omega,by omega⟩,⟨Int.le_refl _,by omega⟩,h2⟩,fun _=>h1⟩⟩
 ·intro args ob k h
  unfold oGrowV at h
  split at h
  ·rename_i n
   exact⟨rfl,n,rfl,rfl,h.1,h.2,h.2⟩
  ·exact h.elim
theorem sumV_le(ls:List (List Va)):∀ n,sumV ls n≤sumV ls ls.length:=by
 intro n
 unfold sumV
 rw[List.take_length]
 have h:ls.map List.length=(ls.take n).map List.length++(ls.drop n).map List.length:=by rw[← List.map_append,List.take_append_drop]
 rw[h,List.sum_append];omega
theorem sumV_succ(ls:List (List Va)){n:Nat}(h:n<ls.length):sumV ls (n+1)=sumV ls n+(ls.getD n []).length:=by
 unfold sumV
 rw[List.take_succ_eq_append_getElem h,List.map_append,List.sum_append,List.getD_eq_getElem?_getD,List.getElem?_eq_getElem h];simp
theorem flatV_len(ls:List (List Va))(n:Nat):(ls.take n).flatten.length=sumV ls n:=by unfold sumV;rw[List.length_flatten]
theorem flatV_succ(ls:List (List Va)){n:Nat}(h:n<ls.length):(ls.take (n+1)).flatten=(ls.take n).flatten++ls.getD n []:=by
 rw[List.take_succ_eq_append_getElem h,List.flatten_append,List.getD_eq_getElem?_getD,List.getElem?_eq_getElem h];simp
theorem concatV_vc(ls:List (List Va))(hl:ls.length≤maxLen)(hs:sumV ls ls.length≤1000000000)(k:List Dat→Prop)(hk:k [⟨.sl tV,(ls.flatten:List Va)⟩]) :
 vcF ⟨Eg,[],[],[],[(76,oGrowV)]⟩ (anConcatV ls) (Tryz.f50.body.getD .skip) Tryz.f50.ntmps [(.tmp 2,.sl tV)] [⟨.sl (.sl tV),ls⟩] k:=by
 rw[vcConcatV]
 have hml:maxLen≤9223372036854775807:=by decide
 simp only[decide_eq_true_eq,decide_eq_false_iff_not,true_and,and_true,Int.toNat_natCast,inK_i64]
 refine⟨⟨0,Nat.zero_le _,rfl,rfl⟩,fun x hx=>⟨fun hlt => ?_,fun hge => ?_⟩⟩
 ·have hxl:x<ls.length:=by omega
  have h1:=sumV_succ ls hxl
  have h2:=sumV_le ls (x+1)
  refine⟨by omega,hlt,by omega,fun h=>by omega,fun _=>⟨by omega,x+1,by omega,by omega,by omega,by omega⟩⟩
 ·have h2:=sumV_le ls x
  refine⟨by omega,⟨0,Nat.zero_le _,rfl,rfl⟩,fun y hy=>⟨fun hlt => ?_,fun hge2 => ?_⟩⟩
  ·have hyl:y<ls.length:=by omega
   have h1:=sumV_succ ls hyl
   have h2:=sumV_le ls (y+1)
   refine⟨by omega,hlt,by rw[flatV_len];omega,by omega,y+1,by omega,by omega,by omega,(flatV_succ ls hyl).symm⟩
  ·have:y=ls.length:=by omega
   rw[this,List.take_length];exact hk
theorem okConcat:PlainOk Tryz.prog [] 50 cConcat:=by
 refine plain_of (CxOk.mk' Eg_ok (by kernel_rfl) mixed (gl:=[]) GOk.nil (GoOk.cons ownGrowV Tryz.func76 (by kernel_rfl) (by kernel_rfl) GoOk.nil) noIt) Tryz.func50 (c:=Tryz.f50.body.getD .skip) (rvs:=[(.tmp 2,.sl tV)]) (by kernel_rfl) (by kernel_rfl) (by kernel_rfl) ?_
 intro ds k ⟨hp,hk⟩ hwf
 obtain⟨ls,rfl,hl,-⟩:=dest1 hp
 exact⟨anConcatV ls,concatV_vc ls (wf1 hwf).1 hl k hk⟩
theorem new_vc(n:Int)(k:SV→List Ob→Prop)(h1:inB n 1 5=false→k (.tp [.nilp,.d tErr (1:Int)]) [])(h2:inB n 1 5=true→k (.tp [.ps 0,.d tErr (0:Int)]) (obNet (newF n.toNat))) :
 vcO ⟨Eg,[(48,cWithin)],[],[],[]⟩ [joinAll] (Tryz.f26.body.getD .skip) Tryz.f26.ntmps [(.tmp 2,.un),(.tmp 3,tErr)] [.d I n] [] k:=by
 rw[vcNew]
 simp only[Bool.not_eq_true',Bool.not_eq_false',true_and,and_true]
 refine⟨fun hb=>⟨by decide,h1 hb⟩,fun hb => ?_⟩
 have hn:1≤n∧n≤5:=by
  unfold inB at hb
  simp only[Bool.and_eq_true,decide_eq_true_eq] at hb;omega
 have:=h2 hb
 exact⟨⟨by omega,Int.le_refl _,by omega,by omega,Int.le_refl _,by omega,this⟩,by omega,Int.le_refl _,by omega,by omega,Int.le_refl _,by omega,this⟩
theorem ownNew:OwnOk Tryz.prog [] 26 oNew:=by
 refine own_of (CxOk.mk' Eg_ok (by kernel_rfl) mixed (gl:=[]) (GOk.cons okWithin Tryz.func48 (by kernel_rfl) (by kernel_rfl) GOk.nil) GoOk.nil noIt) Tryz.func26 (c:=Tryz.f26.body.getD .skip) (rvs:=[(.tmp 2,.un),(.tmp 3,tErr)]) (by kernel_rfl) (by kernel_rfl) (by kernel_rfl) ?_
 intro args ob k h hwa hwo
 unfold oNew at h
 split at h
 ·rename_i n
  exact⟨[joinAll],new_vc n k h.1 h.2⟩
 ·exact h.elim
open Go.Shelf Go.Proofs
open Go.Vc
theorem cmpI_neg(a b:Int):cmpI b a = -cmpI a b:=by
 unfold cmpI
 split<;>split<;>first | rfl | omega
theorem lexL_neg:∀ a b:List Int,lexL b a = -lexL a b
 | [],[]=>rfl
 | [],_::_=>rfl
 | _::_,[]=>rfl
 | x::a,y::b=>by
  unfold lexL
  rw[cmpI_neg x y,lexL_neg a b]
  by_cases h:cmpI x y=0
  ·rw[if_pos (by omega),if_pos h]
  ·rw[if_neg (by omega),if_neg h]
theorem lexL_zero:∀ {a b:List Int},lexL a b=0↔a=b
 | [],[]=>by simp[lexL]
 | [],_::_=>by simp[lexL]
 | _::_,[]=>by simp[lexL]
 | x::a,y::b=>by
  unfold lexL
  by_cases h:cmpI x y=0
  ·rw[if_pos h,lexL_zero,cmpI_z.1 h];simp
  ·rw[if_neg h]
   exact⟨fun e=>absurd e h,fun e=>by injection e with e1;exact absurd (cmpI_z.2 e1) h⟩
theorem lexL_trans:∀ {a b c:List Int},lexL a b<0→lexL b c<0→lexL a c<0
 | [],[],_,h,_=>by simp[lexL] at h
 | [],_::_,[],_,h=>by simp[lexL] at h
 | [],_::_,_::_,_,_=>by simp[lexL]
 | _::_,[],_,h,_=>by simp[lexL] at h
 | _::_,_::_,[],_,h=>by simp[lexL] at h
 | x::a,y::b,z::c,h1,h2=>by
  unfold lexL at h1 h2 ⊢
  by_cases e1:cmpI x y=0
  ·rw[if_pos e1] at h1
   have e1':=cmpI_z.1 e1;subst e1'
   by_cases e2:cmpI x z=0
   ·rw[if_pos e2] at h2 ⊢;exact lexL_trans h1 h2
   ·rw[if_neg e2] at h2 ⊢;exact h2
  ·rw[if_neg e1] at h1
   have l1:=cmpI_lt.1 h1
   by_cases e2:cmpI y z=0
   ·have e2':=cmpI_z.1 e2;subst e2'
    rw[if_neg e1];exact h1
   ·rw[if_neg e2] at h2
    have l2:=cmpI_lt.1 h2
    have l3:cmpI x z<0:=cmpI_lt.2 (by omega)
    rw[if_neg (by omega)];exact l3
theorem lexF_L(a b:List Int):∀ f i,i+f=a.length→lexF a b f i=lexL (a.drop i) (b.drop i)
 | 0,i,h=>by
  have e:a.drop i=[]:=List.drop_of_length_le (by omega)
  rw[e]
  unfold lexF
  by_cases hb:(a.length:Int)<(b.length:Int)
  ·rw[if_pos hb,if_pos rfl,List.drop_eq_getElem_cons (show i<b.length by omega)];rfl
  ·rw[if_neg hb,List.drop_of_length_le (show b.length≤i by omega)];rfl
 | f+1,i,h=>by
  have ih:=lexF_L a b f (i+1) (by omega)
  unfold lexF
  rw[List.drop_eq_getElem_cons (show i<a.length by omega)]
  have ea:a.getD i 0=a[i]:=by rw[List.getD_eq_getElem?_getD,List.getElem?_eq_getElem (show i<a.length by omega)];rfl
  by_cases hb:b.length≤i
  ·rw[if_pos hb,List.drop_of_length_le hb];rfl
  ·have hbi:i<b.length:=by omega
   have eb:b.getD i 0=b[i]:=by rw[List.getD_eq_getElem?_getD,List.getElem?_eq_getElem hbi];rfl
   rw[if_neg hb,List.drop_eq_getElem_cons hbi,ea,eb,ih];rfl
theorem lexI_L(a b:List Int):lexI a b=lexL a b:=by
 unfold lexI
 rw[lexF_L a b a.length 0 (by omega),List.drop_zero,List.drop_zero]
theorem lexV_swo:SWOn (β:=Va) (fun _=>True) (fun x y=>lexI x.1 y.1):=by
 refine⟨fun x _ => ?_,fun x y z _ _ _ h1 h2 => ?_,fun x y z _ _ _ h1 h2 h3 => ?_⟩
 ·show ¬ lexI x.1 x.1<0
  rw[lexI_L,lexL_zero.2 rfl];decide
 ·show lexI x.1 z.1<0
  replace h1:lexI x.1 y.1<0:=h1
  replace h2:lexI y.1 z.1<0:=h2
  rw[lexI_L] at *;exact lexL_trans h1 h2
 ·replace h1:¬ lexI x.1 y.1<0:=h1
  replace h2:¬ lexI y.1 z.1<0:=h2
  replace h3:lexI x.1 z.1<0:=h3
  rw[lexI_L] at *
  have n1:=lexL_neg x.1 y.1
  have n2:=lexL_neg y.1 z.1
  by_cases e1:lexL x.1 y.1=0
  ·rw[lexL_zero.1 e1] at h3;exact h2 h3
  ·by_cases e2:lexL y.1 z.1=0
   ·rw[← lexL_zero.1 e2] at h3;exact h1 h3
   ·have n3:=lexL_trans (a:=z.1) (b:=y.1) (c:=x.1) (by omega) (by omega)
    have n4:=lexL_neg x.1 z.1
    omega
abbrev SV'(l:List Va):Prop:=l.Pairwise fun a b=>lexL a.1 b.1<0
theorem SV'.ext:∀ {l m:List Va},SV' l→SV' m→(∀ t,t∈l↔t∈m)→l=m
 | [],[],_,_,_=>rfl
 | [],y::m,_,_,h=>absurd ((h y).2 (List.mem_cons_self ..)) (by simp)
 | x::l,[],_,_,h=>absurd ((h x).1 (List.mem_cons_self ..)) (by simp)
 | x::l,y::m,hl,hm,h=>by
  obtain⟨hl1,hl2⟩:=List.pairwise_cons.1 hl
  obtain⟨hm1,hm2⟩:=List.pairwise_cons.1 hm
  have hxy:x=y:=by
   rcases List.mem_cons.1 ((h x).1 (List.mem_cons_self ..)) with e | e
   ·exact e
   ·rcases List.mem_cons.1 ((h y).2 (List.mem_cons_self ..)) with e2 | e2
    ·exact e2.symm
    ·have a1:=hl1 y e2;have a2:=hm1 x e;have a3:=lexL_neg x.1 y.1;omega
  subst hxy
  have irr:∀ v:Va,¬ lexL v.1 v.1<0:=fun v=>by rw[lexL_zero.2 rfl];decide
  congr 1
  refine SV'.ext hl2 hm2 fun t=>⟨fun ht => ?_,fun ht => ?_⟩
  ·rcases List.mem_cons.1 ((h t).1 (List.mem_cons_of_mem _ ht)) with e | e
   ·subst e;exact absurd (hl1 t ht) (irr t)
   ·exact e
  ·rcases List.mem_cons.1 ((h t).2 (List.mem_cons_of_mem _ ht)) with e | e
   ·subst e;exact absurd (hm1 t ht) (irr t)
   ·exact e
theorem perm_insV(v:Va):∀ l:List Va,(insV v l).Perm (v::l)
 | []=>List.Perm.refl _
 | x::l=>by
  unfold insV
  split
  ·exact List.Perm.refl _
  ·exact ((perm_insV v l).cons x).trans (List.Perm.swap ..)
theorem perm_sortV:∀ l:List Va,(sortV l).Perm l
 | []=>List.Perm.refl _
 | x::l=>(perm_insV x (sortV l)).trans ((perm_sortV l).cons x)
theorem srt_insV(v:Va):∀ {l:List Va},(l.Pairwise fun a b=>0≤lexL b.1 a.1)→(insV v l).Pairwise fun a b=>0≤lexL b.1 a.1
 | [],_=>by simp[insV]
 | x::l,h=>by
  obtain⟨h1,h2⟩:=List.pairwise_cons.1 h
  unfold insV
  split
  ·rename_i hv
   have n1:=lexL_neg v.1 x.1
   refine List.pairwise_cons.2 ⟨fun u hu => ?_,h⟩
   rcases List.mem_cons.1 hu with e | e
   ·subst e;omega
   ·have:=h1 u e
    have n2:=lexL_neg u.1 x.1
    have n3:=lexL_neg v.1 u.1
    by_cases e0:lexL u.1 x.1=0
    ·rw[lexL_zero.1 e0];omega
    ·have:=lexL_trans (a:=v.1) (b:=x.1) (c:=u.1) hv (by omega)
     omega
  ·rename_i hv
   refine List.pairwise_cons.2 ⟨fun u hu => ?_,srt_insV v h2⟩
   have:=(perm_insV v l).mem_iff.1 hu
   rcases List.mem_cons.1 this with e | e
   ·subst e;omega
   ·exact h1 u e
theorem srt_sortV:∀ l:List Va,(sortV l).Pairwise fun a b=>0≤lexL b.1 a.1
 | []=>List.Pairwise.nil
 | x::l=>srt_insV x (srt_sortV l)
theorem strict_of{l:List Va}(h:l.Pairwise fun a b=>0≤lexL b.1 a.1)(hd:l.Pairwise fun a b=>a.1≠b.1):SV' l :=
 (h.and hd).imp fun {a b} ⟨h1,h2⟩=>by
  have:=lexL_neg a.1 b.1
  have n:lexL a.1 b.1≠0:=fun e=>h2 (lexL_zero.1 e)
  omega
theorem ne_perm{l m:List Va}(hp:m.Perm l)(hd:l.Pairwise fun a b=>a.1≠b.1):m.Pairwise fun a b=>a.1≠b.1 :=
 (hp.pairwise_iff (fun h=>Ne.symm h)).2 hd
theorem ss_sortV{l:List Va}(hd:l.Pairwise fun a b=>a.1≠b.1):SV' (sortV l):=strict_of (srt_sortV l) (ne_perm (perm_sortV l) hd)
theorem sort_one{xs ys:List Va}(hd:xs.Pairwise fun a b=>a.1≠b.1)(h:srtPV xs ys):ys=sortV xs:=by
 refine SV'.ext (strict_of (h.2.imp fun h=>by rwa [lexI_L] at h) (ne_perm h.1 hd)) (ss_sortV hd) fun t => ?_
 rw[h.1.mem_iff,(perm_sortV xs).mem_iff]
theorem sawB_all{v w:Va}:sawB v w=true↔∀ i,i<v.1.length→w.1.getD i 0≤v.1.getD i 0:=sawF_all _
theorem saw_refl(v:Va):sawB v v=true:=sawB_all.2 fun _ _=>Int.le_refl _
theorem saw_trans{a b c:Va}(hl:a.1.length≤b.1.length)(h1:sawB a b=true)(h2:sawB b c=true):sawB a c=true :=
 sawB_all.2 fun i hi=>Int.le_trans (sawB_all.1 h2 i (by omega)) (sawB_all.1 h1 i hi)
theorem saw_anti{a b:Va}(hl:a.1.length=b.1.length)(h1:sawB a b=true)(h2:sawB b a=true):a.1=b.1:=by
 apply List.ext_getElem hl
 intro i i1 i2
 have a1:=sawB_all.1 h1 i i1
 have a2:=sawB_all.1 h2 i i2
 rw[List.getD_eq_getElem?_getD,List.getD_eq_getElem?_getD,List.getElem?_eq_getElem i1,List.getElem?_eq_getElem i2] at a1 a2
 simp only[Option.getD_some] at a1 a2
 omega
theorem oldU_iff{all:List Va}{i:Nat}:∀ n,oldU all i n=true↔∃ j,j<n∧sawB (all.getD j va0) (all.getD i va0)=true∧(sawB (all.getD i va0) (all.getD j va0)=false∨j<i)
 | 0=>by simp[oldU]
 | n+1=>by
  unfold oldU
  rw[Bool.or_eq_true,oldU_iff n,Bool.and_eq_true,Bool.or_eq_true,Bool.not_eq_true',decide_eq_true_eq]
  constructor
  ·rintro (⟨j,h1,h2⟩ | ⟨h1,h2⟩)
   ·exact⟨j,by omega,h2⟩
   ·exact⟨n,by omega,h1,h2.imp id fun h=>by omega⟩
  ·rintro⟨j,h1,h2,h3⟩
   by_cases hj:j=n
   ·subst hj;exact .inr ⟨h2,h3.imp id fun h=>by omega⟩
   ·exact .inl ⟨j,by omega,h2,h3⟩
theorem mem_outU{all:List Va}{v:Va}:∀ n,v∈outU all n↔∃ i,i<n∧all.getD i va0=v∧oldU all i all.length=false
 | 0=>by simp[outU]
 | n+1=>by
  have ih:=mem_outU (all:=all) (v:=v) n
  unfold outU
  cases hq:oldU all n all.length with
  | true =>
   rw[if_pos rfl,ih]
   constructor
   ·rintro⟨i,h1,h2⟩;exact⟨i,by omega,h2⟩
   ·rintro⟨i,h1,h2,h3⟩
    by_cases hi:i=n
    ·subst hi;rw[hq] at h3;cases h3
    ·exact⟨i,by omega,h2,h3⟩
  | false =>
   rw[if_neg (by decide),List.mem_append,List.mem_singleton,ih]
   constructor
   ·rintro (⟨i,h1,h2⟩ | h)
    ·exact⟨i,by omega,h2⟩
    ·exact⟨n,by omega,h.symm,hq⟩
   ·rintro⟨i,h1,h2,h3⟩
    by_cases hi:i=n
    ·subst hi;exact .inr h2.symm
    ·exact .inl ⟨i,by omega,h2,h3⟩
theorem outU_len(all:List Va):∀ n,(outU all n).length≤n
 | 0=>Nat.le_refl _
 | n+1=>by
  have:=outU_len all n
  unfold outU
  split
  ·omega
  ·rw[List.length_append];simp only[List.length_cons,List.length_nil];omega
theorem outU_ne(all:List Va):∀ n,n≤all.length→(outU all n).Pairwise fun a b=>a.1≠b.1
 | 0,_=>List.Pairwise.nil
 | n+1,hn=>by
  have ih:=outU_ne all n (by omega)
  unfold outU
  cases hq:oldU all n all.length with
  | true=>rw[if_pos rfl];exact ih
  | false =>
   rw[if_neg (by decide)]
   refine List.pairwise_append.2 ⟨ih,by simp,fun a ha b hb he => ?_⟩
   rw[List.mem_singleton] at hb;subst hb
   obtain⟨i,h1,h2,h3⟩:=(mem_outU n).1 ha
   have:oldU all n all.length=true:=by
    refine (oldU_iff _).2 ⟨i,by omega,?_,.inr h1⟩
    rw[h2]
    exact sawB_all.2 fun j _=>by rw[he];exact Int.le_refl _
   rw[hq] at this;cases this
theorem ss_mrgV(all:List Va):SV' (mrgV all):=ss_sortV (outU_ne all _ (Nat.le_refl _))
theorem mrgV_len(all:List Va):(mrgV all).length≤all.length:=by
 unfold mrgV
 rw[(perm_sortV _).length_eq];exact outU_len all _
theorem mem_mrgV{n:Nat}{all:List Va}(hn:∀ v∈all,v.1.length=n)(hF:∀ v∈all,∀ w∈all,v.1=w.1→v=w){v:Va}:v∈mrgV all↔v∈all∧∀ w∈all,sawB w v=true→w=v:=by
 unfold mrgV
 rw[(perm_sortV _).mem_iff,mem_outU]
 constructor
 ·rintro⟨i,hi,rfl,ho⟩
  have hm:all.getD i va0∈all:=getD_memL hi
  refine⟨hm,fun w hw hs => ?_⟩
  obtain⟨j,hj⟩:=List.getElem?_of_mem hw
  have hjl:=(List.getElem?_eq_some_iff.1 hj).1
  have ew:all.getD j va0=w:=by rw[List.getD_eq_getElem?_getD,hj];rfl
  cases hq:sawB (all.getD i va0) w with
  | true=>exact hF w hw _ hm (saw_anti (by rw[hn w hw,hn _ hm]) hs hq)
  | false =>
   have:oldU all i all.length=true:=(oldU_iff _).2 ⟨j,hjl,by rw[ew];exact hs,.inl (by rw[ew];exact hq)⟩
   rw[ho] at this;cases this
 ·rintro⟨hm,hmax⟩
  have hex:∃ i,i<all.length∧all.getD i va0=v:=by
   obtain⟨j,hj⟩:=List.getElem?_of_mem hm
   exact⟨j,(List.getElem?_eq_some_iff.1 hj).1,by rw[List.getD_eq_getElem?_getD,hj];rfl⟩
  obtain⟨i,hi,hleast⟩:∃ i,(i<all.length∧all.getD i va0=v)∧∀ j,j<i→¬ (j<all.length∧all.getD j va0=v):=by
   obtain⟨i,hi⟩:=hex
   induction i using Nat.strongRecOn with
   | _ i ih =>
    by_cases hc:∃ j,j<i∧(j<all.length∧all.getD j va0=v)
    ·obtain⟨j,hj,h⟩:=hc;exact ih j hj h
    ·exact⟨i,hi,fun j hj h=>hc ⟨j,hj,h⟩⟩
  refine⟨i,hi.1,hi.2,?_⟩
  cases hq:oldU all i all.length with
  | false=>rfl
  | true =>
   obtain⟨j,hj,h1,h2⟩:=(oldU_iff _).1 hq
   rw[hi.2] at h1 h2
   have hw:=hmax _ (getD_memL hj) h1
   rcases h2 with h2 | h2
   ·rw[hw,saw_refl] at h2;cases h2
   ·exact absurd ⟨hj,hw⟩ (hleast j h2)
open Go.Shelf Go.Proofs
def laidSortV_ren:Go.Shelf.Ren:=⟨fun | 6=>52 | 15=>78 | 14=>77 | 28=>105 | 29=>106 | 20=>97 | 21=>98 | 22=>99 | 23=>100 | 24=>101 | 25=>102 | 26=>103 | 27=>104 | 46=>119 | 47=>120 | 48=>121 | 49=>122 | 50=>123 | 57=>139 | n=>n,fun | 22=>49 | 24=>83 | 25=>104 | 3=>3 | 39=>128 | 0=>0 | 53=>157 | 55=>159 | 4=>4 | 46=>151 | 45=>150 | 50=>108 | 5=>5 | 9=>9 | 66=>180 | 70=>184 | 76=>198 | 77=>199 | n=>n,fun | n=>n⟩
theorem laidSortV:Go.Proofs.SlLaysF0.n6 Tryz.prog laidSortV_ren where
 mixed:=by kernel_rfl
 f6:=⟨ "slices.SortFunc[[]whenstead/api.Value,whenstead/api.Value]",by decide,Tryz.func52.trans (congrArg some (by kernel_rfl))⟩
 f14:=⟨ "slices.pdqsortCmpFunc[whenstead/api.Value]",by decide,Tryz.func77.trans (congrArg some (by kernel_rfl))⟩
 f15:=Tryz.func78.trans (congrArg some (by kernel_rfl))
 f20:=⟨ "slices.insertionSortCmpFunc[whenstead/api.Value]",by decide,Tryz.func97.trans (congrArg some (by kernel_rfl))⟩
 f21:=⟨ "slices.heapSortCmpFunc[whenstead/api.Value]",by decide,Tryz.func98.trans (congrArg some (by kernel_rfl))⟩
 f22:=⟨ "slices.breakPatternsCmpFunc[whenstead/api.Value]",by decide,Tryz.func99.trans (congrArg some (by kernel_rfl))⟩
 f23:=⟨ "slices.choosePivotCmpFunc[whenstead/api.Value]",by decide,Tryz.func100.trans (congrArg some (by kernel_rfl))⟩
 f24:=⟨ "slices.reverseRangeCmpFunc[whenstead/api.Value]",by decide,Tryz.func101.trans (congrArg some (by kernel_rfl))⟩
 f25:=⟨ "slices.partialInsertionSortCmpFunc[whenstead/api.Value]",by decide,Tryz.func102.trans (congrArg some (by kernel_rfl))⟩
 f26:=⟨ "slices.partitionEqualCmpFunc[whenstead/api.Value]",by decide,Tryz.func103.trans (congrArg some (by kernel_rfl))⟩
 f27:=⟨ "slices.partitionCmpFunc[whenstead/api.Value]",by decide,Tryz.func104.trans (congrArg some (by kernel_rfl))⟩
 f28:=Tryz.func105.trans (congrArg some (by kernel_rfl))
 f29:=Tryz.func106.trans (congrArg some (by kernel_rfl))
 f46:=⟨ "slices.siftDownCmpFunc[whenstead/api.Value]",by decide,Tryz.func119.trans (congrArg some (by kernel_rfl))⟩
 f47:=Tryz.func120.trans (congrArg some (by kernel_rfl))
 f48:=Tryz.func121.trans (congrArg some (by kernel_rfl))
 f49:=⟨ "slices.medianAdjacentCmpFunc[whenstead/api.Value]",by decide,Tryz.func122.trans (congrArg some (by kernel_rfl))⟩
 f50:=⟨ "slices.medianCmpFunc[whenstead/api.Value]",by decide,Tryz.func123.trans (congrArg some (by kernel_rfl))⟩
 f57:=⟨ "slices.order2CmpFunc[whenstead/api.Value]",by decide,Tryz.func139.trans (congrArg some (by kernel_rfl))⟩
 t0:=Tryz.underlying0
 a0:=Tryz.isAgg0
 z0:=Tryz.sizeOf0
 v0:=Tryz.zeroValue0
 t3:=Tryz.underlying3
 a3:=Tryz.isAgg3
 z3:=Tryz.sizeOf3
 v3:=Tryz.zeroValue3
 t4:=Tryz.underlying4
 a4:=Tryz.isAgg4
 z4:=Tryz.sizeOf4
 v4:=Tryz.zeroValue4
 t5:=Tryz.underlying5
 a5:=Tryz.isAgg5
 z5:=Tryz.sizeOf5
 v5:=Tryz.zeroValue5
 t9:=Tryz.underlying9
 a9:=Tryz.isAgg9
 z9:=Tryz.sizeOf9
 v9:=Tryz.zeroValue9
 t22:=Tryz.underlying49
 a22:=Tryz.isAgg49
 z22:=Tryz.sizeOf49
 v22:=Tryz.zeroValue49
 t25:=Tryz.underlying104
 a25:=Tryz.isAgg104
 z25:=Tryz.sizeOf104
 v25:=Tryz.zeroValue104
 t39:=Tryz.underlying128
 a39:=Tryz.isAgg128
 z39:=Tryz.sizeOf128
 v39:=Tryz.zeroValue128
 t45:=Tryz.underlying150
 a45:=Tryz.isAgg150
 z45:=Tryz.sizeOf150
 v45:=Tryz.zeroValue150
 t46:=Tryz.underlying151
 a46:=Tryz.isAgg151
 z46:=Tryz.sizeOf151
 v46:=Tryz.zeroValue151
 t50:=Tryz.underlying108
 a50:=Tryz.isAgg108
 z50:=Tryz.sizeOf108
 v50:=Tryz.zeroValue108
 t53:=Tryz.underlying157
 a53:=Tryz.isAgg157
 z53:=Tryz.sizeOf157
 v53:=Tryz.zeroValue157
 t55:=Tryz.underlying159
 a55:=Tryz.isAgg159
 z55:=Tryz.sizeOf159
 v55:=Tryz.zeroValue159
 t66:=Tryz.underlying180
 a66:=Tryz.isAgg180
 z66:=Tryz.sizeOf180
 v66:=Tryz.zeroValue180
 t70:=Tryz.underlying184
 a70:=Tryz.isAgg184
 z70:=Tryz.sizeOf184
 v70:=Tryz.zeroValue184
 t76:=Tryz.underlying198
 a76:=Tryz.isAgg198
 z76:=Tryz.sizeOf198
 v76:=Tryz.zeroValue198
 t77:=Tryz.underlying199
 a77:=Tryz.isAgg199
 z77:=Tryz.sizeOf199
 v77:=Tryz.zeroValue199
open Go.Vc Go.Shelf Go.Proofs
abbrev vAt(t:Net)(i j:Nat):List Va:=(t.1.getD i (List.replicate 4 [])).getD j []
theorem getD_memD{α:Type}{l:List α}{i:Nat}{d:α}:l.getD i d∈l∨(l.getD i d=d∧l.length≤i):=by
 by_cases h:i<l.length
 ·exact .inl (getD_memL h)
 ·exact .inr ⟨by rw[List.getD_eq_getElem?_getD,List.getElem?_eq_none (by omega)];rfl,by omega⟩
theorem vAt_mem{t:Net}{i j:Nat}:(∃ r∈t.1,vAt t i j∈r)∨vAt t i j=[]:=by
 rcases getD_memD (l:=t.1) (i:=i) (d:=List.replicate 4 []) with h | ⟨h,-⟩
 ·rcases getD_memD (l:=t.1.getD i (List.replicate 4 [])) (i:=j) (d:=([]:List Va)) with h2 | ⟨h2,-⟩
  ·exact .inl ⟨_,h,h2⟩
  ·exact .inr h2
 ·refine .inr ?_
  unfold vAt;rw[h]
  rcases getD_memD (l:=(List.replicate 4 []:List (List Va))) (i:=j) (d:=([]:List Va)) with h2 | ⟨h2,-⟩
  ·exact (List.mem_replicate.1 h2).2
  ·exact h2
theorem NetSh.len'{t:Net}(h:NetSh t)(i j:Nat):(vAt t i j).length≤1000:=by
 rcases vAt_mem (t:=t) (i:=i) (j:=j) with ⟨r,h1,h2⟩ | e
 ·exact h.len r h1 _ h2
 ·rw[e];exact Nat.zero_le _
theorem NetSh.seen'{t:Net}(h:NetSh t){i j:Nat}{v:Va}(hv:v∈vAt t i j):v.1.length=t.1.length:=by
 rcases vAt_mem (t:=t) (i:=i) (j:=j) with ⟨r,h1,h2⟩ | e
 ·exact h.seen r h1 _ h2 v hv
 ·rw[e] at hv;cases hv
theorem setAt_len(t:Net)(p k:Int)(l:List Va):(setAt t p k l).length=t.1.length:=by unfold setAt;rw[List.length_set]
theorem getD_setL{α:Type}(l:List α)(i j:Nat)(a d:α)(h:i<l.length):(l.set i a).getD j d=if j=i then a else l.getD j d:=by
 rw[List.getD_eq_getElem?_getD,List.getElem?_set,List.getD_eq_getElem?_getD]
 by_cases e:i=j
 ·subst e;rw[if_pos rfl,if_pos h,if_pos rfl];rfl
 ·rw[if_neg e,if_neg (Ne.symm e)]
theorem vAt_set{t:Net}{p k:Int}{l:List Va}{w:List Int}(hp:p.toNat<t.1.length)(hk:k.toNat<(t.1.getD p.toNat (List.replicate 4 [])).length)(i j:Nat) :
 vAt (setAt t p k l,w,()) i j=if i=p.toNat∧j=k.toNat then l else vAt t i j:=by
 unfold vAt setAt
 rw[getD_setL _ _ _ _ _ hp]
 by_cases e:i=p.toNat
 ·subst e
  rw[if_pos rfl,getD_setL _ _ _ _ _ hk]
  by_cases e2:j=k.toNat
  ·rw[if_pos e2,if_pos ⟨rfl,e2⟩]
  ·rw[if_neg e2,if_neg fun h=>e2 h.2]
 ·rw[if_neg e,if_neg fun h=>e h.1]
theorem setAt_rows{t:Net}(h:∀ r∈t.1,List.length r=4){p k:Int}{l:List Va}(hp:p.toNat<t.1.length):∀ r∈setAt t p k l,List.length r=4:=by
 intro r hr
 unfold setAt at hr
 rcases List.mem_or_eq_of_mem_set hr with h1 | h1
 ·exact h r h1
 ·rw[h1,List.length_set];exact h _ (getD_memL hp)
theorem maxU_len(cur s:List Int):∀ j,(maxU cur s j).length=cur.length
 | 0=>rfl
 | j+1=>by unfold maxU;rw[List.length_set,maxU_len cur s j]
theorem accU_len(vals:List Va)(n:Nat):∀ i,(accU vals n i).length=n
 | 0=>by unfold accU;rw[List.length_replicate]
 | i+1=>by unfold accU;rw[maxU_len,accU_len vals n i]
theorem inNet_iff{t:Net}{p k:Int}:inNet t p k=true↔(0≤p∧p<(t.1.length:Int))∧0≤k∧k≤3:=by
 unfold inNet inB
 simp only[Bool.and_eq_true,decide_eq_true_eq];omega
theorem write_vc(nd:List (List (List Va)))(wr:List Int)(p q v:Int)(hS:NetSh (nd,wr,()))(k:SV→List Ob→Prop)
 (hk:k (.d tErr (writeE (nd,wr,()) p q v)) (obNet (writeT (nd,wr,()) p q v))) :
 vcO ⟨Egw [9],[(48,cWithin),(49,cIs)],[],[],[]⟩ (anWrite (nd,wr,()) p q v) (Tryz.f27.body.getD .skip) Tryz.f27.ntmps [(.tmp 8,tErr)] [.ps 0,.d I p,.d I q,.d I v] [.st 96 [.os 1,.os 2],.row 98 tRow nd,.row 3 I wr] k:=by
 rw[vcWrite]
 unfold vcWriteq2 vcWriteq1
 have e0:(List.getD nd p.toNat (List.replicate 4 [])).getD q.toNat []=valsAt (nd,wr,()) p q:=rfl
 have e1:∀ y:Va,(List.replicate 1 va0).set 0 y=[y]:=fun _=>rfl
 have e2:wr.set p.toNat (wr.getD p.toNat 0+1)=upW (nd,wr,()) p:=rfl
 have hw:wr.length=nd.length:=hS.wr
 have h5:nd.length≤5:=hS.hi
 have h1:1≤nd.length:=hS.lo
 have hvl:(valsAt (nd,wr,()) p q).length≤1000:=hS.len' _ _
 have hvs:∀ v∈valsAt (nd,wr,()) p q,v.1.length=nd.length:=fun v hv=>hS.seen' hv
 have ul:(upW (nd,wr,()) p).length=wr.length:=by unfold upW;rw[List.length_set]
 have bad:writeE (nd,wr,()) p q v≠0→writeT (nd,wr,()) p q v=(nd,wr,()):=fun h=>by unfold writeT;rw[if_neg h]
 have good:writeE (nd,wr,()) p q v=0→writeT (nd,wr,()) p q v=(setAt (nd,wr,()) p q [newV (nd,wr,()) p q v],upW (nd,wr,()) p,()):=fun h=>by unfold writeT;rw[if_pos h]
 simp only[e0,e1,e2,decide_eq_true_eq,decide_eq_false_iff_not,true_and,and_true,Bool.not_eq_true',Bool.not_eq_false',Int.toNat_natCast,inK_i64,ul,maxU_len,accU_len]
 have ret:∀ e:Int,e≠0→writeE (nd,wr,()) p q v=e→k (.d tErr e) [.st 96 [.os 1,.os 2],.row 98 tRow nd,.row 3 I wr]:=by
  intro e he h
  rw[bad (by rw[h];exact he),h] at hk;exact hk
 refine⟨fun h=>⟨by decide,ret 1 (by decide) (by unfold writeE;rw[h,Bool.false_and,if_neg (by decide)])⟩,fun hi=>⟨fun h=>⟨by decide,ret 1 (by decide) (by unfold writeE;rw[h,Bool.and_false,if_neg (by decide)])⟩,fun hv => ?_⟩⟩
 obtain⟨⟨hp0,hp1⟩,hq0,hq1⟩:=inNet_iff.1 hi
 have hp1:p<(nd.length:Int):=hp1
 have hE:writeE (nd,wr,()) p q v=if wr.getD p.toNat 0=60 then 4 else 0:=by unfold writeE;rw[hi,hv,Bool.and_true,if_pos rfl]
 have hc:=hS.cnt p.toNat (by show p.toNat<wr.length;omega)
 replace hc:0≤wr.getD p.toNat 0∧wr.getD p.toNat 0≤60:=hc
 refine⟨hp0,by omega,fun h=>⟨by decide,ret 4 (by decide) (by rw[hE,if_pos h])⟩,fun h60 => ?_⟩
 have h0:writeE (nd,wr,()) p q v=0:=by rw[hE,if_neg h60]
 rw[good h0,h0] at hk
 refine⟨by omega,by omega,by omega,by omega,by omega,by omega,by omega,by omega,by omega,by omega,hq0,by omega,⟨0,⟨Nat.zero_le _,h0⟩,rfl,rfl⟩,fun x ⟨hx,_⟩=>⟨fun hlt => ?_,fun hge => ?_⟩⟩
 ·have hxl:x<(valsAt (nd,wr,()) p q).length:=by omega
  have hsl:=hvs _ (getD_memL (d:=va0) hxl)
  refine⟨by omega,hlt,⟨0,⟨Nat.zero_le _,h0⟩,rfl,rfl⟩,fun y ⟨hy,_⟩=>⟨fun hly => ?_,fun hgy => ?_⟩⟩
  ·refine⟨by omega,hly,⟨by omega,by omega,by omega,by omega⟩,by omega,y+1,⟨by omega,h0⟩,by omega,by omega,rfl⟩
  ·have:y=((valsAt (nd,wr,()) p q).getD x va0).1.length:=by omega
   subst this
   exact⟨by omega,x+1,⟨by omega,h0⟩,by omega,by omega,rfl⟩
 ·have:x=(valsAt (nd,wr,()) p q).length:=by omega
  subst this
  exact⟨⟨hp0,by omega,hp0,hp1⟩,⟨hp0,hp1,hq0,by omega⟩,hk⟩
theorem ownWrite:OwnOk Tryz.prog [] 27 oWrite:=by
 refine own_of (CxOk.mk' (Egw_ok [9]) (by kernel_rfl) mixed (gl:=[]) (GOk.cons okWithin Tryz.func48 (by kernel_rfl) (by kernel_rfl) (GOk.cons okIs Tryz.func49 (by kernel_rfl) (by kernel_rfl) GOk.nil)) GoOk.nil noIt) Tryz.func27 (c:=Tryz.f27.body.getD .skip) (rvs:=[(.tmp 8,tErr)]) (by kernel_rfl) (by kernel_rfl) (by kernel_rfl) ?_
 intro args ob k h hwa hwo
 unfold oWrite at h
 split at h
 ·rename_i p q v nd wr
  exact⟨anWrite (nd,wr,()) p q v,write_vc nd wr p q v h.1 k h.2⟩
 ·exact h.elim
theorem syncU_wr(t:Net)(a b:Int):∀ k,(syncU t a b k).2.1=t.2.1
 | 0=>rfl
 | k+1=>rfl
theorem syncU_len(t:Net)(a b:Int):∀ k,(syncU t a b k).1.length=t.1.length
 | 0=>rfl
 | k+1=>by unfold syncU;show (setAt _ _ _ _).length=_;rw[setAt_len,syncU_len t a b k]
theorem syncU_rows{t:Net}(h:∀ r∈t.1,List.length r=4){a b:Int}(hb:b.toNat<t.1.length):∀ k,∀ r∈(syncU t a b k).1,List.length r=4
 | 0=>h
 | k+1=>setAt_rows (syncU_rows h hb k) (by rw[syncU_len];exact hb)
theorem vAt_sync{t:Net}(h:∀ r∈t.1,List.length r=4){a b:Int}(ha:a.toNat≠b.toNat)(hb:b.toNat<t.1.length)(i j:Nat):∀ k,k≤4→vAt (syncU t a b k) i j=if i=b.toNat∧j<k then mrgV (vAt t b.toNat j++vAt t a.toNat j) else vAt t i j
 | 0,_=>by rw[if_neg (by omega)];rfl
 | k+1,hk=>by
  have ih:=fun i j=>vAt_sync h ha hb i j k (by omega)
  have hr:(((syncU t a b k).1.getD b.toNat (List.replicate 4 []))).length=4:=syncU_rows h hb k _ (getD_memL (by rw[syncU_len];exact hb))
  unfold syncU
  rw[vAt_set (by rw[syncU_len];exact hb) (by rw[hr];simp only[Int.toNat_natCast];omega)]
  simp only[Int.toNat_natCast]
  have e1:valsAt (syncU t a b k) b (k:Int)=vAt t b.toNat k:=by
   show vAt _ b.toNat (k:Int).toNat=_
   rw[Int.toNat_natCast,ih,if_neg (by omega)]
  have e2:valsAt (syncU t a b k) a (k:Int)=vAt t a.toNat k:=by
   show vAt _ a.toNat (k:Int).toNat=_
   rw[Int.toNat_natCast,ih,if_neg (by omega)]
  rw[e1,e2]
  by_cases hc:i=b.toNat∧j=k
  ·rw[if_pos hc,if_pos (by omega),hc.2]
  ·rw[if_neg hc,ih]
   by_cases hd:i=b.toNat∧j<k
   ·rw[if_pos hd,if_pos (by omega)]
   ·rw[if_neg hd,if_neg (by omega)]
theorem allAt_eq{t:Net}(h:∀ r∈t.1,List.length r=4){a b:Int}(ha:a.toNat≠b.toNat)(hb:b.toNat<t.1.length){k:Nat}(hk:k≤4):allAt t a b k=vAt t b.toNat k++vAt t a.toNat k:=by
 have ih:=fun i j=>vAt_sync h ha hb i j k hk
 have e1:valsAt (syncU t a b k) b (k:Int)=vAt t b.toNat k:=by
  show vAt _ b.toNat (k:Int).toNat=_
  rw[Int.toNat_natCast,ih,if_neg (by omega)]
 have e2:valsAt (syncU t a b k) a (k:Int)=vAt t a.toNat k:=by
  show vAt _ a.toNat (k:Int).toNat=_
  rw[Int.toNat_natCast,ih,if_neg (by omega)]
 unfold allAt;rw[e1,e2]
theorem outU_sorted{all:List Va}{ys:List Va}(h:srtPV (outU all all.length) ys):ys=mrgV all:=sort_one (outU_ne all _ (Nat.le_refl _)) h
theorem oldU_neg{all:List Va}{i x:Nat}(h0:oldU all i x=false)(h1:sawB (all.getD x va0) (all.getD i va0)=true)(h2:sawB (all.getD i va0) (all.getD x va0)=true):decide ((x:Int)<(i:Int))=oldU all i (x+1):=by
 unfold oldU;rw[h0,h1,h2];simp
theorem outU_succ(all:List Va)(i:Nat):outU all (i+1)=if oldU all i all.length=true then outU all i else outU all i++[all.getD i va0]:=rfl
theorem sync_vc(nd:List (List (List Va)))(wr:List Int)(a b:Int)(hS:NetSh (nd,wr,()))(k:SV→List Ob→Prop)
 (hk:k (.d tErr (syncE (nd,wr,()) a b)) (obNet (syncT (nd,wr,()) a b))) :
 vcO ⟨Eg,[(49,cIs),(50,cConcat),(51,cSaw)],[],[],[(52,oSortV)]⟩ (anSync (nd,wr,()) a b) (Tryz.f28.body.getD .skip) Tryz.f28.ntmps [(.tmp 6,tErr)] [.ps 0,.d I a,.d I b] [.st 96 [.os 1,.os 2],.row 98 tRow nd,.row 3 I wr] k:=by
 rw[vcSync]
 unfold vcSyncq7 vcSyncq6 vcSyncq5 vcSyncq4 vcSyncq3 vcSyncq2 vcSyncq1
 have hrows:=hS.row
 have hw:wr.length=nd.length:=hS.wr
 have h5:nd.length≤5:=hS.hi
 have h1:1≤nd.length:=hS.lo
 have bad:syncE (nd,wr,()) a b≠0→syncT (nd,wr,()) a b=(nd,wr,()):=fun h=>by unfold syncT;rw[if_neg h]
 have good:syncE (nd,wr,()) a b=0→syncT (nd,wr,()) a b=syncU (nd,wr,()) a b 4:=fun h=>by unfold syncT;rw[if_pos h]
 have e1:∀ x y:List Va,((List.replicate 2 []).set 0 x).set 1 y=[x,y]:=fun _ _=>rfl
 have e2:∀ y:Va,(List.replicate 1 va0).set 0 y=[y]:=fun _=>rfl
 have e3:∀ k,((syncU (nd,wr,()) a b k).1.getD b.toNat (List.replicate 4 [])).getD k []=valsAt (syncU (nd,wr,()) a b k) b (k:Int):=fun k=>by unfold valsAt;rw[Int.toNat_natCast]
 have e4:∀ k,((syncU (nd,wr,()) a b k).1.getD a.toNat (List.replicate 4 [])).getD k []=valsAt (syncU (nd,wr,()) a b k) a (k:Int):=fun k=>by unfold valsAt;rw[Int.toNat_natCast]
 have ea:∀ (m n:List Va),List.append m n=m++n:=fun _ _=>rfl
 have e5:∀ k:Nat,[valsAt (syncU (nd,wr,()) a b k) b (k:Int),valsAt (syncU (nd,wr,()) a b k) a (k:Int)].flatten=allAt (nd,wr,()) a b k:=fun k=>by simp[allAt]
 simp only[e1,e2,e3,e4,e5,ea,decide_eq_true_eq,decide_eq_false_iff_not,true_and,and_true,Bool.not_eq_true',Bool.not_eq_false',Int.toNat_natCast,inK_i64,syncU_len,syncU_wr]
 have ret:∀ e:Int,e≠0→syncE (nd,wr,()) a b=e→k (.d tErr e) [.st 96 [.os 1,.os 2],.row 98 tRow nd,.row 3 I wr]:=by
  intro e he h
  rw[bad (by rw[h];exact he),h] at hk;exact hk
 refine⟨fun h=>⟨by decide,ret 1 (by decide) (by unfold syncE;rw[h,Bool.false_and,if_neg (by decide)])⟩,fun ha=>⟨fun h=>⟨by decide,ret 1 (by decide) (by unfold syncE;rw[h,Bool.and_false,if_neg (by decide)])⟩,fun hb=>⟨fun h=>⟨by decide,ret 6 (by decide) (by unfold syncE;rw[ha,hb,Bool.and_true,if_pos rfl,if_pos h])⟩,fun hab => ?_⟩⟩⟩
 have h0:syncE (nd,wr,()) a b=0:=by unfold syncE;rw[ha,hb,Bool.and_true,if_pos rfl,if_neg hab]
 obtain⟨⟨ha0,ha1⟩,-⟩:=inNet_iff.1 ha
 obtain⟨⟨hb0,hb1⟩,-⟩:=inNet_iff.1 hb
 replace ha1:a<(nd.length:Int):=ha1
 replace hb1:b<(nd.length:Int):=hb1
 rw[good h0,h0] at hk
 have hall:∀ k,k≤4→allAt (nd,wr,()) a b k=vAt (nd,wr,()) b.toNat k++vAt (nd,wr,()) a.toNat k:=fun k hk=>allAt_eq hrows (by omega) (by show b.toNat<nd.length;omega) hk
 refine⟨⟨0,⟨by omega,h0⟩,rfl,rfl⟩,fun x ⟨hx,_⟩=>⟨fun hlt => ?_,fun hge => ?_⟩⟩
 ·have hx4:x<4:=by omega
  have hA:=hall x hx
  have hAl:(allAt (nd,wr,()) a b x).length≤2000:=by
   have l1:=hS.len' b.toNat x
   have l2:=hS.len' a.toNat x
   rw[hA,List.length_append];omega
  have hAs:∀ v∈allAt (nd,wr,()) a b x,v.1.length=nd.length:=fun v hv=>by
   rw[hA,List.mem_append] at hv
   exact hv.elim (fun h=>hS.seen' h) fun h=>hS.seen' h
  have hfl:=e5 x
  have hsum:sumV [valsAt (syncU (nd,wr,()) a b x) b (x:Int),valsAt (syncU (nd,wr,()) a b x) a (x:Int)] 2≤1000000000:=by
   have:=flatV_len [valsAt (syncU (nd,wr,()) a b x) b (x:Int),valsAt (syncU (nd,wr,()) a b x) a (x:Int)] 2
   rw[← this,List.take_of_length_le (by simp),hfl];omega
  generalize hall':allAt (nd,wr,()) a b x=all at *
  refine⟨⟨hb0,hb1,by omega,hlt,ha0,ha1,by omega,hlt,hsum⟩,⟨0,⟨Nat.zero_le _,h0⟩,rfl,rfl⟩,fun y ⟨hy,_⟩=>⟨fun hly => ?_,fun hgy => ?_⟩⟩
  ·have hyl:y<all.length:=by omega
   refine⟨by omega,hly,⟨0,⟨Nat.zero_le _,h0⟩,rfl,rfl⟩,fun z ⟨hz,_⟩=>⟨fun hlz => ?_,fun hgz => ?_⟩⟩
   ·have hzl:z<all.length:=by omega
    have s1:=hAs _ (getD_memL (d:=va0) hyl)
    have s2:=hAs _ (getD_memL (d:=va0) hzl)
    refine⟨by omega,hlz,fun ho=>⟨by omega,z+1,⟨by omega,h0⟩,by omega,by unfold oldU;rw[ho];rfl,by omega⟩,fun ho=>⟨by omega,fun hs=>⟨by omega,fun hn=>⟨by omega,z+1,⟨by omega,h0⟩,by omega,by unfold oldU;rw[ho,hs,hn];rfl,by omega⟩,fun hn=>⟨by omega,z+1,⟨by omega,h0⟩,by omega,oldU_neg ho hs hn,by omega⟩⟩,fun hs=>⟨by omega,z+1,⟨by omega,h0⟩,by omega,by unfold oldU;rw[ho,hs];rfl,by omega⟩⟩⟩
   ·have:z=all.length:=by omega
    subst this
    refine⟨fun ho=>⟨?_,by omega,y+1,⟨by omega,h0⟩,by omega,by omega,?_⟩,fun ho=>⟨by omega,y+1,⟨by omega,h0⟩,by omega,by omega,?_⟩⟩
    ·have:=outU_len all y
     simp only[List.length_cons,List.length_nil];omega
    ·rw[outU_succ,if_neg (by rw[ho];decide)]
    ·rw[outU_succ,if_pos ho]
  ·have:y=all.length:=by omega
   subst this
   have hol:=outU_len all all.length
   refine⟨by omega,fun ys hys=>⟨hb0,hb1,by omega,hlt,by omega,x+1,⟨by omega,h0⟩,by omega,by omega,?_⟩⟩
   rw[outU_sorted hys,← hall']
   show _=setAt _ _ _ _
   unfold setAt
   rw[Int.toNat_natCast];rfl
 ·have:x=4:=by omega
  subst this
  have hwr:wr=(syncU (nd,wr,()) a b 4).2.1:=(syncU_wr (nd,wr,()) a b 4).symm
  unfold obNet at hk
  rw[← hwr] at hk
  exact hk
theorem ownSortV:OwnOk Tryz.prog [] 52 oSortV:=by
 refine own_sortK laidSortV (e:=83) (t:=tV) rfl (by decide) Tryz.isAgg83 Tryz.sizeOf83 (g:=53) ⟨_,Tryz.func53,by kernel_rfl,by kernel_rfl⟩ (tc := .un) rfl (c:=cLexV) (@okLexV ⟨true⟩)
  (va:=fun _ _=>True) (cmp:=fun _ (x y:Va)=>lexI x.1 y.1) ?_ ?_
 ·rintro _ x y _ _ k hk
  exact⟨trivial,hk⟩
 ·intro args ob k h
  unfold oSortV at h
  split at h
  ·rename_i u xs
   exact⟨u,xs,rfl,rfl,fun _ _=>trivial,lexV_swo,h.1,fun ys p q=>h.2 ys ⟨p,q⟩⟩
  ·exact h.elim
theorem ownSync:OwnOk Tryz.prog [] 28 oSync:=by
 refine own_of (CxOk.mk' Eg_ok (by kernel_rfl) mixed (gl:=[]) (GOk.cons okIs Tryz.func49 (by kernel_rfl) (by kernel_rfl) (GOk.cons okConcat Tryz.func50 (by kernel_rfl) (by kernel_rfl) (GOk.cons okSaw Tryz.func51 (by kernel_rfl) (by kernel_rfl) GOk.nil))) (GoOk.cons ownSortV Tryz.func52 (by kernel_rfl) (by kernel_rfl) GoOk.nil) noIt) Tryz.func28 (c:=Tryz.f28.body.getD .skip) (rvs:=[(.tmp 6,tErr)]) (by kernel_rfl) (by kernel_rfl) (by kernel_rfl) ?_
 intro args ob k h hwa hwo
 unfold oSync at h
 split at h
 ·rename_i a b nd wr
  exact⟨anSync (nd,wr,()) a b,sync_vc nd wr a b h.1 k h.2⟩
 ·exact h.elim
open Go.Vc
def sumS:List Int→Int
 | []=>0
 | x::l=>x+sumS l
theorem sumS_le:∀ {a b:List Int},a.length=b.length→(∀ i,i<a.length→a.getD i 0≤b.getD i 0)→sumS a≤sumS b∧(sumS b≤sumS a→a=b)
 | [],[],_,_=>⟨Int.le_refl _,fun _=>rfl⟩
 | [],_::_,h,_=>by simp at h
 | _::_,[],h,_=>by simp at h
 | x::a,y::b,h,hp=>by
  have h0:x≤y:=by simpa using hp 0 (by simp)
  have ih:=sumS_le (a:=a) (b:=b) (by simpa using h) fun i hi=>by simpa using hp (i+1) (by simp;omega)
  unfold sumS
  refine⟨by omega,fun hs => ?_⟩
  have:x=y:=by omega
  rw[this,ih.2 (by omega)]
theorem saw_sum{v w:Va}(hl:v.1.length=w.1.length)(h:sawB w v=true):sumS v.1≤sumS w.1∧(sumS w.1≤sumS v.1→v.1=w.1) :=
 sumS_le hl fun i hi=>sawB_all.1 h i (by omega)
theorem ex_max{α:Type}(f:α→Int):∀ (l:List α),l≠[]→∃ m∈l,∀ x∈l,f x≤f m
 | [],h=>absurd rfl h
 | [a],_=>⟨a,by simp,fun x hx=>by rw[List.mem_singleton] at hx;subst hx;exact Int.le_refl _⟩
 | a::b::l,_=>by
  obtain⟨m,hm,h⟩:=ex_max f (b::l) (by simp)
  by_cases hc:f m≤f a
  ·refine⟨a,List.mem_cons_self ..,fun x hx => ?_⟩
   rcases List.mem_cons.1 hx with e | e
   ·subst e;exact Int.le_refl _
   ·exact Int.le_trans (h x e) hc
  ·refine⟨m,List.mem_cons_of_mem _ hm,fun x hx => ?_⟩
   rcases List.mem_cons.1 hx with e | e
   ·subst e;omega
   ·exact h x e
theorem dom_mrg{n:Nat}{all:List Va}(hn:∀ v∈all,v.1.length=n)(hF:∀ v∈all,∀ w∈all,v.1=w.1→v=w){v:Va}(hv:v∈all):∃ w∈mrgV all,sawB w v=true:=by
 obtain⟨m,hm,hmax⟩:=ex_max (fun x:Va=>sumS x.1) (all.filter fun w=>sawB w v) (fun e=>by
  have:v∈all.filter fun w=>sawB w v:=List.mem_filter.2 ⟨hv,saw_refl v⟩
  rw[e] at this;cases this)
 obtain⟨hma,hms⟩:=List.mem_filter.1 hm
 refine⟨m,(mem_mrgV hn hF).2 ⟨hma,fun x hx hs => ?_⟩,hms⟩
 have hxv:=saw_trans (by rw[hn x hx,hn m hma];exact Nat.le_refl _) hs hms
 have h1:=hmax x (List.mem_filter.2 ⟨hx,hxv⟩)
 exact hF x hx m hma ((saw_sum (by rw[hn x hx,hn m hma]) hs).2 h1).symm
theorem maxU_get(cur s:List Int){q:Nat}(hq:q<cur.length):∀ j,(maxU cur s j).getD q 0=if q<j then max (cur.getD q 0) (s.getD q 0) else cur.getD q 0
 | 0=>by rw[if_neg (by omega)];rfl
 | j+1=>by
  have ih:=fun {q} (hq:q<cur.length)=>maxU_get cur s hq j
  unfold maxU
  by_cases hj:j<cur.length
  ·rw[getD_setL _ _ _ _ _ (by rw[maxU_len];exact hj),ih hj,if_neg (Nat.lt_irrefl _)]
   by_cases e:q=j
   ·subst e;rw[if_pos rfl,if_pos (by omega)]
   ·rw[if_neg e,ih hq]
    by_cases h:q<j
    ·rw[if_pos h,if_pos (by omega)]
    ·rw[if_neg h,if_neg (by omega)]
  ·rw[List.set_eq_of_length_le (by rw[maxU_len];omega),ih hq,if_pos (by omega),if_pos (by omega)]
theorem accU_succ{vals:List Va}{n:Nat}(hn:∀ v∈vals,v.1.length=n){q i:Nat}(hq:q<n)(hi:i<vals.length):(accU vals n (i+1)).getD q 0=max ((accU vals n i).getD q 0) ((vals.getD i va0).1.getD q 0):=by
 show (maxU (accU vals n i) (vals.getD i va0).1 (vals.getD i va0).1.length).getD q 0=_
 rw[maxU_get _ _ (by rw[accU_len];exact hq),if_pos (by rw[hn _ (getD_memL hi)];exact hq)]
theorem accU_ge{vals:List Va}{n:Nat}(hn:∀ v∈vals,v.1.length=n){q:Nat}(hq:q<n):∀ i,i≤vals.length→0≤(accU vals n i).getD q 0∧∀ j,j<i→(vals.getD j va0).1.getD q 0≤(accU vals n i).getD q 0
 | 0,_=>by
  refine⟨?_,fun j hj=>by omega⟩
  unfold accU
  rw[List.getD_eq_getElem?_getD,List.getElem?_replicate,if_pos hq];exact Int.le_refl _
 | i+1,hi=>by
  obtain⟨h1,h2⟩:=accU_ge hn hq i (by omega)
  rw[accU_succ hn hq (by omega)]
  refine⟨by omega,fun j hj => ?_⟩
  by_cases e:j=i
  ·subst e;omega
  ·have:=h2 j (by omega);omega
theorem accU_at{vals:List Va}{n:Nat}(hn:∀ v∈vals,v.1.length=n){q:Nat}(hq:q<n):∀ i,i≤vals.length→(accU vals n i).getD q 0=0∨∃ v∈vals,v.1.getD q 0=(accU vals n i).getD q 0
 | 0,_=>by
  refine .inl ?_
  unfold accU
  rw[List.getD_eq_getElem?_getD,List.getElem?_replicate,if_pos hq];rfl
 | i+1,hi=>by
  rw[accU_succ hn hq (by omega)]
  rcases Int.le_total ((accU vals n i).getD q 0) ((vals.getD i va0).1.getD q 0) with h | h
  ·exact .inr ⟨_,getD_memL (d:=va0) (i:=i) (by omega),by omega⟩
  ·rw[Int.max_eq_left h];exact accU_at hn hq i (by omega)
theorem accU_mem{vals:List Va}{n:Nat}(hn:∀ v∈vals,v.1.length=n){q:Nat}(hq:q<n){v:Va}(hv:v∈vals):v.1.getD q 0≤(accU vals n vals.length).getD q 0:=by
 obtain⟨j,hj⟩:=List.getElem?_of_mem hv
 have hjl:=(List.getElem?_eq_some_iff.1 hj).1
 have:=(accU_ge hn hq vals.length (Nat.le_refl _)).2 j hjl
 have ew:vals.getD j va0=v:=by rw[List.getD_eq_getElem?_getD,hj];rfl
 rwa [ew] at this
structure NInv(n:Nat)(W:Nat→Int→Prop)(H:Nat→Nat→Va→Prop)(t:Net):Prop where
 len:t.1.length=n
 lo:1≤n
 hi:n≤5
 wr:t.2.1.length=n
 row:∀ r∈t.1,List.length r=4
 cnt:∀ i,i<n→0≤t.2.1.getD i 0∧t.2.1.getD i 0≤60
 mem:∀ i k v,v∈vAt t i k→∃ p,H k p v
 sv:∀ i k,SV' (vAt t i k)
 anti:∀ i k v w,v∈vAt t i k→w∈vAt t i k→sawB v w=true→v=w
 hp:∀ k p v,H k p v→p<n∧1≤v.1.getD p 0
 hl:∀ k p v,H k p v→v.1.length=n
 hb:∀ k p v,H k p v→∀ q,q<n→0≤v.1.getD q 0∧v.1.getD q 0≤t.2.1.getD q 0
 hW:∀ k p v,H k p v→W k v.2.1
 hc:∀ k p v p' w,H k p v→H k p' w→v.1.getD p 0≤w.1.getD p 0→sawB w v=true
 hf:∀ k p v p' w,H k p v→H k p' w→v.1=w.1→v=w
 hd:∀ k p v,H k p v→∃ w∈vAt t p k,sawB w v=true
section
variable {n:Nat} {W:Nat→Int→Prop} {H:Nat→Nat→Va→Prop} {t:Net}
theorem NInv.ln(I:NInv n W H t){i k:Nat}{v:Va}(hv:v∈vAt t i k):v.1.length=n:=by
 obtain⟨p,hp⟩:=I.mem i k v hv;exact I.hl k p v hp
theorem NInv.few(I:NInv n W H t)(i k:Nat):(vAt t i k).length≤n:=by
 have hw:∃ f:Va→Nat,∀ v∈vAt t i k,H k (f v) v:=by
  refine⟨fun v=>if h:v∈vAt t i k then (I.mem i k v h).choose else 0,fun v hv => ?_⟩
  show H k (if h:v∈vAt t i k then (I.mem i k v h).choose else 0) v
  rw[dif_pos hv];exact (I.mem i k v hv).choose_spec
 obtain⟨f,hf⟩:=hw
 have hnd:((vAt t i k).map f).Nodup:=by
  refine List.pairwise_map.2 ((I.sv i k).imp_of_mem fun {a b} ha hb hab e => ?_)
  have h1:=hf a ha
  have h2:=hf b hb
  rw[← e] at h2
  have hne:a≠b:=fun e=>by subst e;rw[lexL_zero.2 rfl] at hab;exact absurd hab (by decide)
  rcases Int.le_total (a.1.getD (f a) 0) (b.1.getD (f a) 0) with hq | hq
  ·exact hne (I.anti i k b a hb ha (I.hc k _ _ _ _ h1 h2 hq)).symm
  ·exact hne (I.anti i k a b ha hb (I.hc k _ _ _ _ h2 h1 hq))
 have:=hnd.length_le_of_subset (l₂:=List.range n) fun x hx=>by
  obtain⟨v,hv,rfl⟩:=List.mem_map.1 hx
  exact List.mem_range.2 (I.hp k _ v (hf v hv)).1
 rwa [List.length_map,List.length_range] at this
theorem mem_vAt(hr:∀ r∈t.1,List.length r=4){r:List (List Va)}{l:List Va}(h1:r∈t.1)(h2:l∈r):∃ i k,l=vAt t i k:=by
 obtain⟨i,hi⟩:=List.getElem?_of_mem h1
 obtain⟨k,hk⟩:=List.getElem?_of_mem h2
 refine⟨i,k,?_⟩
 unfold vAt
 rw[List.getD_eq_getElem?_getD (l:=t.1),hi,Option.getD_some,List.getD_eq_getElem?_getD,hk,Option.getD_some]
theorem NInv.sh(I:NInv n W H t):NetSh t where
 wr:=by rw[I.wr,I.len]
 lo:=by rw[I.len];exact I.lo
 hi:=by rw[I.len];exact I.hi
 row:=I.row
 len:=fun r hr l hl=>by
  obtain⟨i,k,rfl⟩:=mem_vAt I.row hr hl
  have:=I.few i k;have:=I.hi;omega
 seen:=fun r hr l hl v hv=>by
  obtain⟨i,k,rfl⟩:=mem_vAt I.row hr hl
  rw[I.ln hv,I.len]
 cnt:=fun i hi=>I.cnt i (by rw[← I.wr];exact hi)
theorem NInv.nlen(I:NInv n W H t):NetLen t :=
 ⟨fun r hr=>⟨I.row r hr,fun l hl=>⟨I.sh.len r hr l hl,fun v hv=>by rw[I.sh.seen r hr l hl v hv,I.len];have:=I.hi;omega⟩⟩,by rw[I.len];have:=I.hi;omega⟩
theorem NInv.init(W:Nat→Int→Prop)(h1:1≤n)(h5:n≤5):NInv n W (fun _ _ _=>False) (newF n):=by
 have hv:∀ i k,vAt (newF n) i k=[]:=fun i k=>by
  have hrow:(List.replicate n (List.replicate 4 ([]:List Va))).getD i (List.replicate 4 [])=List.replicate 4 []:=by
   rcases getD_memD (l:=List.replicate n (List.replicate 4 ([]:List Va))) (i:=i) (d:=List.replicate 4 []) with h | ⟨h,-⟩
   ·exact (List.mem_replicate.1 h).2
   ·exact h
  unfold vAt newF
  rw[hrow]
  rcases getD_memD (l:=(List.replicate 4 []:List (List Va))) (i:=k) (d:=([]:List Va)) with h2 | ⟨h2,-⟩
  ·exact (List.mem_replicate.1 h2).2
  ·exact h2
 exact {
  len:=List.length_replicate,lo:=h1,hi:=h5,wr:=List.length_replicate
  row:=fun r hr=>by rw[(List.mem_replicate.1 hr).2];exact List.length_replicate
  cnt:=fun i hi=>by
   have e:(newF n).2.1.getD i 0=0:=by
    unfold newF
    rw[List.getD_eq_getElem?_getD,List.getElem?_replicate,if_pos hi];rfl
   rw[e];decide
  mem:=fun i k v h=>by rw[hv] at h;cases h
  sv:=fun i k=>by rw[hv];exact List.Pairwise.nil
  anti:=fun i k v w h=>by rw[hv] at h;cases h
  hp:=fun _ _ _ h=>h.elim,hl:=fun _ _ _ h=>h.elim,hb:=fun _ _ _ h=>h.elim,hW:=fun _ _ _ h=>h.elim
  hc:=fun _ _ _ _ _ h=>h.elim,hf:=fun _ _ _ _ _ h=>h.elim,hd:=fun _ _ _ h=>h.elim }
theorem NInv.sync(I:NInv n W H t)(a b:Int):NInv n W H (syncT t a b):=by
 unfold syncT
 by_cases hne:¬ syncE t a b=0
 ·rw[if_neg hne];exact I
 have h0:syncE t a b=0:=Decidable.of_not_not hne
 rw[if_pos h0]
 obtain⟨ha,hb,hab⟩:inNet t a 0=true∧inNet t b 0=true∧a≠b:=by
  unfold syncE at h0
  cases ha:inNet t a 0<;>cases hb:inNet t b 0<;>simp[ha,hb] at h0
  exact⟨rfl,rfl,h0⟩
 obtain⟨⟨a0,a1⟩,-⟩:=inNet_iff.1 ha
 obtain⟨⟨b0,b1⟩,-⟩:=inNet_iff.1 hb
 have hbl:b.toNat<t.1.length:=by omega
 have hv:=fun i j=>vAt_sync I.row (a:=a) (b:=b) (by omega) hbl i j 4 (Nat.le_refl _)
 have hln:∀ k,∀ v∈vAt t b.toNat k++vAt t a.toNat k,v.1.length=n:=fun k v h=>(List.mem_append.1 h).elim (fun h=>I.ln h) fun h=>I.ln h
 have hmm:∀ k,∀ v∈vAt t b.toNat k++vAt t a.toNat k,∃ p,H k p v:=fun k v h=>(List.mem_append.1 h).elim (fun h=>I.mem _ _ _ h) fun h=>I.mem _ _ _ h
 have hF:∀ k,∀ v∈vAt t b.toNat k++vAt t a.toNat k,∀ w∈vAt t b.toNat k++vAt t a.toNat k,v.1=w.1→v=w:=fun k v h w h' e=>by
  obtain⟨p,hp⟩:=hmm k v h
  obtain⟨p',hp'⟩:=hmm k w h'
  exact I.hf k p v p' w hp hp' e
 exact {
  len:=by rw[syncU_len];exact I.len
  lo:=I.lo,hi:=I.hi
  wr:=by rw[syncU_wr];exact I.wr
  row:=syncU_rows I.row hbl 4
  cnt:=by rw[syncU_wr];exact I.cnt
  mem:=fun i k v h=>by
   rw[hv] at h
   split at h
   ·exact hmm k v ((mem_mrgV (hln k) (hF k)).1 h).1
   ·exact I.mem i k v h
  sv:=fun i k=>by
   rw[hv];split
   ·exact ss_mrgV _
   ·exact I.sv i k
  anti:=fun i k v w h h' hs=>by
   rw[hv] at h h'
   split at h
   ·rename_i hc
    rw[if_pos hc] at h'
    exact ((mem_mrgV (hln k) (hF k)).1 h').2 v ((mem_mrgV (hln k) (hF k)).1 h).1 hs
   ·rename_i hc
    rw[if_neg hc] at h'
    exact I.anti i k v w h h' hs
  hp:=I.hp,hl:=I.hl
  hb:=by rw[syncU_wr];exact I.hb
  hW:=I.hW,hc:=I.hc,hf:=I.hf
  hd:=fun k p v h=>by
   obtain⟨w,hw,hs⟩:=I.hd k p v h
   rw[hv]
   split
   ·rename_i hc
    rw[hc.1] at hw
    obtain⟨u,hu,hus⟩:=dom_mrg (hln k) (hF k) (List.mem_append_left _ hw)
    exact⟨u,hu,saw_trans (by rw[hln k u ((mem_mrgV (hln k) (hF k)).1 hu).1,I.ln hw];exact Nat.le_refl _) hus hs⟩
   ·exact⟨w,hw,hs⟩ }
theorem NInv.write(I:NInv n W H t)(p q v:Int)(hw:writeE t p q v=0→W q.toNat v):∃ H',NInv n W H' (writeT t p q v):=by
 unfold writeT
 by_cases hne:¬ writeE t p q v=0
 ·rw[if_neg hne];exact⟨H,I⟩
 have h0:writeE t p q v=0:=Decidable.of_not_not hne
 have hW0:=hw h0
 rw[if_pos h0]
 obtain⟨hi,h60⟩:inNet t p q=true∧¬ t.2.1.getD p.toNat 0=60:=by
  unfold writeE at h0
  split at h0
  ·rename_i h
   rw[Bool.and_eq_true] at h
   refine⟨h.1,fun e => ?_⟩
   rw[if_pos e] at h0;cases h0
  ·cases h0
 obtain⟨⟨p0,p1⟩,q0,q1⟩:=inNet_iff.1 hi
 have hpl:p.toNat<t.1.length:=by omega
 have hpn:p.toNat<n:=by rw[← I.len];exact hpl
 have hrow:(t.1.getD p.toNat (List.replicate 4 [])).length=4:=I.row _ (getD_memL hpl)
 have hv:=fun i j=>vAt_set (t:=t) (p:=p) (k:=q) (l:=[newV t p q v]) (w:=upW t p) hpl (by rw[hrow];omega) i j
 have hvals:valsAt t p q=vAt t p.toNat q.toNat:=rfl
 have hn:∀ w∈vAt t p.toNat q.toNat,w.1.length=n:=fun w h=>I.ln h
 have hup:∀ i,i<n→(upW t p).getD i 0=if i=p.toNat then t.2.1.getD p.toNat 0+1 else t.2.1.getD i 0:=fun i hi=>by
  unfold upW;rw[getD_setL _ _ _ _ _ (by rw[I.wr];exact hpn)]
 have hnl:(newV t p q v).1.length=n:=by
  show (List.set _ _ _).length=n
  rw[List.length_set,accU_len,I.len]
 have hnv:∀ i,i<n→(newV t p q v).1.getD i 0=if i=p.toNat then t.2.1.getD p.toNat 0+1 else (accU (vAt t p.toNat q.toNat) n (vAt t p.toNat q.toNat).length).getD i 0:=fun i hi=>by
  show (List.set _ _ _).getD i 0=_
  rw[getD_setL _ _ _ _ _ (by rw[accU_len,I.len];exact hpn),hup _ hpn,if_pos rfl,hvals,I.len]
 have hacc:∀ i,i<n→0≤(accU (vAt t p.toNat q.toNat) n (vAt t p.toNat q.toNat).length).getD i 0∧(accU (vAt t p.toNat q.toNat) n (vAt t p.toNat q.toNat).length).getD i 0≤t.2.1.getD i 0:=fun i hi=>by
  refine⟨(accU_ge hn hi _ (Nat.le_refl _)).1,?_⟩
  rcases accU_at hn hi _ (Nat.le_refl _) with e | ⟨w,hw,e⟩
  ·rw[e];exact (I.cnt i hi).1
  ·rw[← e]
   obtain⟨p',hp'⟩:=I.mem _ _ _ hw
   exact (I.hb _ _ _ hp' i hi).2
 have hge:∀ i,i<n→(accU (vAt t p.toNat q.toNat) n (vAt t p.toNat q.toNat).length).getD i 0≤(newV t p q v).1.getD i 0:=fun i hi=>by
  rw[hnv i hi]
  have:=hacc i hi
  split
  ·rename_i e;subst e;omega
  ·omega
 have hover:∀ w x,w∈vAt t p.toNat q.toNat→x.1.length=n→sawB w x=true→sawB (newV t p q v) x=true:=fun w x hw hx hs=>by
  refine sawB_all.2 fun i hi => ?_
  rw[hnl] at hi
  have h1:=sawB_all.1 hs i (by rw[hn w hw];exact hi)
  have h2:=accU_mem hn hi hw
  have h3:=hge i hi
  omega
 have hupp:(upW t p).getD p.toNat 0=t.2.1.getD p.toNat 0+1:=by rw[hup _ hpn,if_pos rfl]
 have hnvp:(newV t p q v).1.getD p.toNat 0=t.2.1.getD p.toNat 0+1:=by rw[hnv _ hpn,if_pos rfl]
 have hcp:=I.cnt p.toNat hpn
 have oldnew:∀ p' x,H q.toNat p' x→x.1.getD p' 0≤(newV t p q v).1.getD p' 0→sawB (newV t p q v) x=true:=fun p' x hx hle=>by
  by_cases e:p'=p.toNat
  ·subst e
   obtain⟨w,hw,hs⟩:=I.hd _ _ _ hx
   exact hover w x hw (I.hl _ _ _ hx) hs
  ·obtain⟨l1,l2⟩:=I.hp _ _ _ hx
   rw[hnv _ l1,if_neg e] at hle
   rcases accU_at hn l1 _ (Nat.le_refl _) with e2 | ⟨w,hw,e2⟩
   ·omega
   ·obtain⟨p'',hp''⟩:=I.mem _ _ _ hw
    exact hover w x hw (I.hl _ _ _ hx) (I.hc _ _ _ _ _ hx hp'' (by omega))
 refine⟨fun k' p' v'=>H k' p' v'∨(k'=q.toNat∧p'=p.toNat∧v'=newV t p q v),?_⟩
 exact {
  len:=by show (setAt t p q _).length=n;rw[setAt_len];exact I.len
  lo:=I.lo,hi:=I.hi
  wr:=by show (upW t p).length=n;unfold upW;rw[List.length_set];exact I.wr
  row:=setAt_rows I.row hpl
  cnt:=fun i hi=>by
   show 0≤(upW t p).getD i 0∧(upW t p).getD i 0≤60
   rw[hup i hi]
   have:=I.cnt i hi
   split<;>omega
  mem:=fun i k x h=>by
   rw[hv] at h
   split at h
   ·rename_i hc
    rw[List.mem_singleton] at h
    exact⟨p.toNat,.inr ⟨hc.2,rfl,h⟩⟩
   ·obtain⟨p',hp'⟩:=I.mem i k x h
    exact⟨p',.inl hp'⟩
  sv:=fun i k=>by
   rw[hv];split
   ·exact List.pairwise_singleton ..
   ·exact I.sv i k
  anti:=fun i k x y h h' hs=>by
   rw[hv] at h h'
   split at h
   ·rename_i hc
    rw[if_pos hc] at h'
    rw[List.mem_singleton] at h h'
    rw[h,h']
   ·rename_i hc
    rw[if_neg hc] at h'
    exact I.anti i k x y h h' hs
  hp:=fun k p' x h=>by
   rcases h with h | ⟨-,rfl,rfl⟩
   ·exact I.hp k p' x h
   ·exact⟨hpn,by omega⟩
  hl:=fun k p' x h=>by
   rcases h with h | ⟨-,-,rfl⟩
   ·exact I.hl k p' x h
   ·exact hnl
  hb:=fun k p' x h i hi=>by
   show 0≤x.1.getD i 0∧x.1.getD i 0≤(upW t p).getD i 0
   rw[hup i hi]
   rcases h with h | ⟨-,-,rfl⟩
   ·have:=I.hb k p' x h i hi
    split
    ·rename_i e;subst e;omega
    ·exact this
   ·rw[hnv i hi]
    have:=hacc i hi
    split
    ·omega
    ·exact this
  hW:=fun k p' x h=>by
   rcases h with h | ⟨rfl,-,rfl⟩
   ·exact I.hW k p' x h
   ·exact hW0
  hc:=fun k p' x p'' y h h' hle=>by
   rcases h with h | ⟨rfl,rfl,rfl⟩
   ·rcases h' with h' | ⟨rfl,rfl,rfl⟩
    ·exact I.hc k p' x p'' y h h' hle
    ·exact oldnew p' x h hle
   ·rcases h' with h' | ⟨-,-,rfl⟩
    ·have:=(I.hb _ _ _ h' p.toNat hpn).2
     omega
    ·exact saw_refl _
  hf:=fun k p' x p'' y h h' e=>by
   rcases h with h | ⟨-,-,rfl⟩
   ·rcases h' with h' | ⟨-,-,rfl⟩
    ·exact I.hf k p' x p'' y h h' e
    ·have:=(I.hb _ _ _ h p.toNat hpn).2
     rw[e] at this;omega
   ·rcases h' with h' | ⟨-,-,rfl⟩
    ·have:=(I.hb _ _ _ h' p.toNat hpn).2
     rw[← e] at this;omega
    ·rfl
  hd:=fun k p' x h=>by
   rcases h with h | ⟨rfl,rfl,rfl⟩
   ·obtain⟨w,hw,hs⟩:=I.hd k p' x h
    rw[hv]
    split
    ·rename_i hc
     rw[hc.1,hc.2] at hw
     exact⟨_,List.mem_singleton.2 rfl,hover w x hw (I.hl _ _ _ h) hs⟩
    ·exact⟨w,hw,hs⟩
   ·rw[hv,if_pos ⟨rfl,rfl⟩]
    exact⟨_,List.mem_singleton.2 rfl,saw_refl _⟩ }
end
open Go.Vc
abbrev tRN:Ty := .pr I (.pr (.sl (.sl tV)) (.pr (.sl I) .un))
abbrev RN:=Int×List (List Va)×List Int×Unit
def befB(v w:Va):Bool:=decide (lexL v.1 w.1<0)
def loA(v:Va)(u:Va):Bool := !sawB v u&&befB u v
def hiA(v:Va)(u:Va):Bool := !sawB v u&&befB v u
def anyS(l:List Va)(v:Va):Bool:=l.any fun u=>sawB u v
def keepF(l:List Va)(v:Va):List Va:=if anyS l v=true then l else l.filter (loA v)++[v]++l.filter (hiA v)
structure RSh(t:RN):Prop where
 lo:1≤t.1
 hi:t.1≤5
 has:(t.2.1.length:Int)=t.1*4
 wr:(t.2.2.1.length:Int)=t.1
 len:∀ i,(t.2.1.getD i []).length≤1000
 seen:∀ i,∀ v∈t.2.1.getD i [],(v.1.length:Int)=t.1
 cnt:∀ i,i<t.2.2.1.length→0≤t.2.2.1.getD i 0∧t.2.2.1.getD i 0≤60
def rWriteE(t:RN)(p q v:Int):Int:=if (inB p 0 (t.1 - 1)&&(inB q 0 3&&inB v 0 1000000))=true then (if 60≤t.2.2.1.getD p.toNat 0 then 4 else 0) else 1
def mxF(l:List Va)(i:Nat):Nat→Int
 | 0=>0
 | k+1=>if mxF l i k<(l.getD k va0).1.getD i 0 then (l.getD k va0).1.getD i 0 else mxF l i k
def rUp(t:RN)(p:Int):List Int:=t.2.2.1.set p.toNat (t.2.2.1.getD p.toNat 0+1)
def rAt(t:RN)(p q:Int):List Va:=t.2.1.getD (p*4+q).toNat []
def seenU(t:RN)(p q:Int)(i:Nat):List Int:=(List.range i).map fun (j:Nat)=>if (j:Int)=p then (rUp t p).getD p.toNat 0 else mxF (rAt t p q) j (rAt t p q).length
def setR(l:List (List Va))(i:Int)(x:List Va):List (List Va):=l.take i.toNat++[x]++l.drop (i.toNat+1)
def rWriteT(t:RN)(p q v:Int):RN:=if rWriteE t p q v=0 then (t.1,setR t.2.1 (p*4+q) [(seenU t p q t.1.toNat,v,())],rUp t p,()) else t
def rSyncE(t:RN)(a b:Int):Int:=if (inB a 0 (t.1 - 1)&&inB b 0 (t.1 - 1))=true then (if a=b then 6 else 0) else 1
def keepU(l m:List Va):Nat→List Va
 | 0=>l
 | i+1=>keepF (keepU l m i) (m.getD i va0)
def rSyncU(t:RN)(a b:Int):Nat→RN
 | 0=>t
 | k+1=>(t.1,setR (rSyncU t a b k).2.1 (b*4+(k:Int)) (keepU (rAt (rSyncU t a b k) b (k:Int)) (rAt (rSyncU t a b k) a (k:Int)) (rAt (rSyncU t a b k) a (k:Int)).length),t.2.2.1,())
def rSyncT(t:RN)(a b:Int):RN:=if rSyncE t a b=0 then rSyncU t a b 4 else t
def SyOk(t:RN)(a b:Int):Prop:=∀ k,k<4→∀ i,i≤(rAt (rSyncU t a b k) a (k:Int)).length→(keepU (rAt (rSyncU t a b k) b (k:Int)) (rAt (rSyncU t a b k) a (k:Int)) i).length≤1000∧∀ u∈keepU (rAt (rSyncU t a b k) b (k:Int)) (rAt (rSyncU t a b k) a (k:Int)) i,(u.1.length:Int)=t.1
open Go.Vc
set_option linter.unusedVariables false
open Go.Vc Go.Proofs
open Go.Vc Go.Proofs
theorem seenU_len(t:RN)(p q:Int)(i:Nat):(seenU t p q i).length=i:=by unfold seenU;rw[List.length_map,List.length_range]
theorem mxF_succ(l:List Va)(i k:Nat):mxF l i (k+1)=if mxF l i k<(l.getD k va0).1.getD i 0 then (l.getD k va0).1.getD i 0 else mxF l i k:=rfl
theorem inB_iff{n a b:Int}:inB n a b=true↔a≤n∧n≤b:=by unfold inB;rw[Bool.and_eq_true,decide_eq_true_eq,decide_eq_true_eq]
theorem setR_eq{l:List (List Va)}{i:Int}(h0:0≤i)(h:i<(l.length:Int))(x:List Va):setR l i x=l.set i.toNat x:=by
 unfold setR;rw[List.set_eq_take_append_cons_drop,if_pos (by omega)];simp
theorem rSyncU_has{t:RN}{a b:Int}(h0:0≤b)(hb:b*4+3<(t.2.1.length:Int)):∀ k,k≤4→(rSyncU t a b k).2.1.length=t.2.1.length
 | 0,_=>rfl
 | k+1,hk=>by
  have ih:=rSyncU_has (t:=t) (a:=a) (b:=b) h0 hb k (by omega)
  show (setR _ _ _).length=_
  rw[setR_eq (by omega) (by rw[ih];omega),List.length_set,ih]
theorem rSyncU_1(t:RN)(a b:Int):∀ k,(rSyncU t a b k).1=t.1
 | 0=>rfl
 | _+1=>rfl
theorem rSyncU_3(t:RN)(a b:Int):∀ k,(rSyncU t a b k).2.2.1=t.2.2.1
 | 0=>rfl
 | _+1=>rfl
theorem rAt_sync{t:RN}{a b:Int}(h0:0≤b)(hb:b*4+3<(t.2.1.length:Int)):∀ k,k≤4→∀ (i j:Nat),j<4→rAt (rSyncU t a b k) (i:Int) (j:Int)=if (i:Int)=b∧j<k then keepU (rAt (rSyncU t a b j) b (j:Int)) (rAt (rSyncU t a b j) a (j:Int)) (rAt (rSyncU t a b j) a (j:Int)).length else rAt t (i:Int) (j:Int)
 | 0,_,i,j,_=>by rw[if_neg (by omega)];rfl
 | k+1,hk,i,j,hj=>by
  have ih:=rAt_sync (t:=t) (a:=a) (b:=b) h0 hb k (by omega) i j hj
  have hl:=rSyncU_has (t:=t) (a:=a) (b:=b) h0 hb k (by omega)
  have e:rAt (rSyncU t a b (k+1)) (i:Int) (j:Int)=(setR (rSyncU t a b k).2.1 (b*4+(k:Int)) (keepU (rAt (rSyncU t a b k) b (k:Int)) (rAt (rSyncU t a b k) a (k:Int)) (rAt (rSyncU t a b k) a (k:Int)).length)).getD ((i:Int)*4+(j:Int)).toNat []:=rfl
  rw[e,setR_eq (by omega) (by rw[hl];omega),getD_setL _ _ _ _ _ (by rw[hl];omega)]
  by_cases hc:(i:Int)=b∧j=k
  ·obtain⟨h1,h2⟩:=hc
   subst h2
   rw[if_pos (by omega),if_pos (by omega)]
  ·rw[if_neg (by omega)]
   show rAt (rSyncU t a b k) (i:Int) (j:Int)=_
   rw[ih]
   by_cases hd:(i:Int)=b∧j<k
   ·rw[if_pos hd,if_pos (by omega)]
   ·rw[if_neg hd,if_neg (by omega)]
theorem keepU_succ(l m:List Va)(i:Nat):keepU l m (i+1)=keepF (keepU l m i) (m.getD i va0):=rfl
open Go.Vc
theorem keep_mem{n:Nat}{l:List Va}{v:Va}(hn:∀ u∈l++[v],u.1.length=n)(hF:∀ u∈l++[v],∀ w∈l++[v],u.1=w.1→u=w)(hs:SV' l)(ha:∀ u∈l,∀ w∈l,sawB u w=true→u=w) :
 SV' (keepF l v)∧∀ x,x∈keepF l v↔x∈l++[v]∧∀ w∈l++[v],sawB w x=true→w=x:=by
 have hv:v∈l++[v]:=List.mem_append_right _ (List.mem_singleton.2 rfl)
 have hl:∀ {u},u∈l→u∈l++[v]:=fun h=>List.mem_append_left _ h
 have tr:∀ {a b c:Va},a∈l++[v]→b∈l++[v]→sawB a b=true→sawB b c=true→sawB a c=true:=fun h1 h2=>saw_trans (by rw[hn _ h1,hn _ h2];exact Nat.le_refl _)
 have an:∀ {a b:Va},a∈l++[v]→b∈l++[v]→sawB a b=true→sawB b a=true→a=b:=fun h1 h2 h3 h4=>hF _ h1 _ h2 (saw_anti (by rw[hn _ h1,hn _ h2]) h3 h4)
 unfold keepF
 cases hq:anyS l v with
 | true =>
  rw[if_pos rfl]
  obtain⟨u,hu,huv⟩:=List.any_eq_true.1 hq
  refine⟨hs,fun x=>⟨fun hx=>⟨hl hx,fun w hw hwx => ?_⟩,fun⟨hx,hm⟩ => ?_⟩⟩
  ·rcases List.mem_append.1 hw with h | h
   ·exact ha w h x hx hwx
   ·rw[List.mem_singleton] at h;subst h
    have e:=ha u hu x hx (tr (hl hu) hw huv hwx)
    subst e
    exact an hw (hl hu) hwx huv
  ·rcases List.mem_append.1 hx with h | h
   ·exact h
   ·rw[List.mem_singleton] at h;subst h
    have:=hm u (hl hu) huv
    rw[← this];exact hu
 | false =>
  rw[if_neg (by decide)]
  have hno:∀ u∈l,sawB u v=false:=fun u hu=>by
   cases h:sawB u v with
   | false=>rfl
   | true =>
    have:anyS l v=true:=List.any_eq_true.2 ⟨u,hu,h⟩
    rw[hq] at this;cases this
  have hlo:∀ u,u∈l.filter (loA v)↔u∈l∧sawB v u=false∧lexL u.1 v.1<0:=fun u=>by
   rw[List.mem_filter];unfold loA befB
   rw[Bool.and_eq_true,Bool.not_eq_true',decide_eq_true_eq]
  have hhi:∀ u,u∈l.filter (hiA v)↔u∈l∧sawB v u=false∧lexL v.1 u.1<0:=fun u=>by
   rw[List.mem_filter];unfold hiA befB
   rw[Bool.and_eq_true,Bool.not_eq_true',decide_eq_true_eq]
  refine⟨?_,fun x=>⟨fun hx => ?_,fun⟨hx,hm⟩ => ?_⟩⟩
  ·refine List.pairwise_append.2 ⟨List.pairwise_append.2 ⟨hs.sublist List.filter_sublist,List.pairwise_singleton ..,fun a ha b hb => ?_⟩,hs.sublist List.filter_sublist,fun a ha b hb => ?_⟩
   ·rw[List.mem_singleton] at hb;subst hb
    exact ((hlo a).1 ha).2.2
   ·have hb':=((hhi b).1 hb).2.2
    rcases List.mem_append.1 ha with h | h
    ·exact lexL_trans ((hlo a).1 h).2.2 hb'
    ·rw[List.mem_singleton] at h;subst h;exact hb'
  ·have key:∀ y,y∈l→sawB v y=false→y∈l++[v]∧∀ w∈l++[v],sawB w y=true→w=y:=fun y hy hvy=>⟨hl hy,fun w hw hwy=>by
    rcases List.mem_append.1 hw with h | h
    ·exact ha w h y hy hwy
    ·rw[List.mem_singleton] at h;subst h;rw[hvy] at hwy;cases hwy⟩
   rcases List.mem_append.1 hx with h | h
   ·rcases List.mem_append.1 h with h | h
    ·exact key x ((hlo x).1 h).1 ((hlo x).1 h).2.1
    ·rw[List.mem_singleton] at h;subst h
     refine⟨hv,fun w hw hwx => ?_⟩
     rcases List.mem_append.1 hw with h | h
     ·rw[hno w h] at hwx;cases hwx
     ·exact List.mem_singleton.1 h
   ·exact key x ((hhi x).1 h).1 ((hhi x).1 h).2.1
  ·rcases List.mem_append.1 hx with h | h
   ·have hvx:sawB v x=false:=by
     cases hc:sawB v x with
     | false=>rfl
     | true =>
      have e:=hm v hv hc
      have:=hno x h
      rw[← e,saw_refl] at this;cases this
    have hne:lexL x.1 v.1≠0:=fun e=>by
     have e2:=hF x hx v hv (lexL_zero.1 e)
     have:=hno x h
     rw[e2,saw_refl] at this;cases this
    have hneg:=lexL_neg x.1 v.1
    by_cases hc:lexL x.1 v.1<0
    ·exact List.mem_append_left _ (List.mem_append_left _ ((hlo x).2 ⟨h,hvx,hc⟩))
    ·exact List.mem_append_right _ ((hhi x).2 ⟨h,hvx,by omega⟩)
   ·exact List.mem_append_left _ (List.mem_append_right _ h)
theorem keepF_mrg{n:Nat}{S:List Va}{v:Va}(hn:∀ u∈S++[v],u.1.length=n)(hF:∀ u∈S++[v],∀ w∈S++[v],u.1=w.1→u=w):keepF (mrgV S) v=mrgV (S++[v]):=by
 have hS:∀ {u},u∈S→u∈S++[v]:=fun h=>List.mem_append_left _ h
 have hv:v∈S++[v]:=List.mem_append_right _ (List.mem_singleton.2 rfl)
 have hn1:∀ u∈S,u.1.length=n:=fun u h=>hn u (hS h)
 have hF1:∀ u∈S,∀ w∈S,u.1=w.1→u=w:=fun u h w h'=>hF u (hS h) w (hS h')
 have hK:∀ x,x∈mrgV S↔_:=fun x=>mem_mrgV (v:=x) hn1 hF1
 have hKS:∀ {x},x∈mrgV S++[v]→x∈S++[v]:=fun h=>(List.mem_append.1 h).elim (fun h=>hS ((hK _).1 h).1) fun h=>List.mem_append_right _ h
 obtain⟨h1,h2⟩:=keep_mem (n:=n) (l:=mrgV S) (v:=v) (fun u h=>hn u (hKS h)) (fun u h w h'=>hF u (hKS h) w (hKS h')) (ss_mrgV S) (fun u hu w hw hs=>((hK w).1 hw).2 u ((hK u).1 hu).1 hs)
 refine SV'.ext h1 (ss_mrgV _) fun x => ?_
 rw[h2,mem_mrgV hn hF]
 constructor
 ·rintro⟨hx,hm⟩
  refine⟨hKS hx,fun w hw hwx => ?_⟩
  rcases List.mem_append.1 hw with h | h
  ·obtain⟨u,hu,huw⟩:=dom_mrg hn1 hF1 h
   have hus:=((hK u).1 hu).1
   have e:=hm u (List.mem_append_left _ hu) (saw_trans (by rw[hn1 u hus,hn w hw];exact Nat.le_refl _) huw hwx)
   subst e
   exact hF w hw u (hS hus) (saw_anti (by rw[hn w hw,hn1 u hus]) hwx huw)
  ·exact hm w (List.mem_append_right _ h) hwx
 ·rintro⟨hx,hm⟩
  refine⟨?_,fun w hw=>hm w (hKS hw)⟩
  rcases List.mem_append.1 hx with h | h
  ·exact List.mem_append_left _ ((hK x).2 ⟨h,fun w hw=>hm w (hS hw)⟩)
  ·exact List.mem_append_right _ h
theorem keepU_eq{n:Nat}{l m:List Va}(hn:∀ u∈l++m,u.1.length=n)(hF:∀ u∈l++m,∀ w∈l++m,u.1=w.1→u=w)(hs:SV' l)(ha:∀ u∈l,∀ w∈l,sawB u w=true→u=w):∀ i,i≤m.length→keepU l m i=mrgV (l++m.take i)
 | 0,_=>by
  show l=_
  rw[List.take_zero,List.append_nil]
  have hl:∀ {u},u∈l→u∈l++m:=fun h=>List.mem_append_left _ h
  exact SV'.ext hs (ss_mrgV _) fun x=>by
   rw[mem_mrgV (n:=n) (fun u h=>hn u (hl h)) (fun u h w h'=>hF u (hl h) w (hl h'))]
   exact⟨fun h=>⟨h,fun w hw hwx=>ha w hw x h hwx⟩,fun h=>h.1⟩
 | i+1,hi=>by
  have hsub:∀ {u},u∈l++m.take i++[m[i]]→u∈l++m:=fun h=>by
   rcases List.mem_append.1 h with h | h
   ·rcases List.mem_append.1 h with h | h
    ·exact List.mem_append_left _ h
    ·exact List.mem_append_right _ (List.mem_of_mem_take h)
   ·rw[List.mem_singleton] at h;subst h
    exact List.mem_append_right _ (List.getElem_mem _)
  rw[keepU_succ,keepU_eq hn hF hs ha i (by omega),List.getD_eq_getElem?_getD,List.getElem?_eq_getElem (show i<m.length by omega),Option.getD_some,
   keepF_mrg (n:=n) (fun u h=>hn u (hsub h)) (fun u h w h'=>hF u (hsub h) w (hsub h')),List.take_succ_eq_append_getElem (show i<m.length by omega),List.append_assoc]
theorem list_ext1{l m:List Int}(h:l.length=m.length)(he:∀ j,j<l.length→l.getD j 0=m.getD j 0):l=m :=
 List.ext_getElem h fun i h1 h2=>by
  have:=he i h1
  rw[List.getD_eq_getElem?_getD,List.getD_eq_getElem?_getD,List.getElem?_eq_getElem h1,List.getElem?_eq_getElem h2] at this
  simpa using this
structure Rel(n:Nat)(t:Net)(x:RN):Prop where
 n1:x.1=(n:Int)
 wr:x.2.2.1=t.2.1
 hl:x.2.1.length=n*4
 at':∀ i k:Nat,i<n→k<4→rAt x (i:Int) (k:Int)=vAt t i k
section
variable {n:Nat} {W:Nat→Int→Prop} {H:Nat→Nat→Va→Prop} {t:Net} {x:RN}
theorem Rel.sh(I:NInv n W H t)(R:Rel n t x):RSh x:=by
 have h1:=I.lo
 have h5:=I.hi
 have hat:∀ i,i<n*4→x.2.1.getD i []=vAt t (i/4) (i%4):=fun i hi=>by
  rw[← R.at' (i/4) (i%4) (by omega) (by omega)]
  show _=x.2.1.getD (((i/4:Nat):Int)*4+((i%4:Nat):Int)).toNat []
  rw[show (((i/4:Nat):Int)*4+((i%4:Nat):Int)).toNat=i by omega]
 have hout:∀ i,¬ i<n*4→x.2.1.getD i []=[]:=fun i hi=>by
  rw[List.getD_eq_getElem?_getD,List.getElem?_eq_none (by rw[R.hl];omega)];rfl
 exact {
  lo:=by rw[R.n1];omega
  hi:=by rw[R.n1];omega
  has:=by rw[R.hl,R.n1];omega
  wr:=by rw[R.wr,R.n1,I.wr]
  len:=fun i=>by
   by_cases h:i<n*4
   ·rw[hat i h];have:=I.few (i/4) (i%4);omega
   ·rw[hout i h];exact Nat.zero_le _
  seen:=fun i v hv=>by
   by_cases h:i<n*4
   ·rw[hat i h] at hv;rw[I.ln hv,R.n1]
   ·rw[hout i h] at hv;cases hv
  cnt:=by rw[R.wr,I.wr];exact I.cnt }
theorem Rel.init(n:Nat):Rel n (newF n) (((n:Int),List.replicate ((n:Int)*4).toNat [],List.replicate ((n:Int)).toNat 0,()):RN):=by
 refine⟨rfl,by show List.replicate (n:Int).toNat 0=List.replicate n 0;rw[Int.toNat_natCast],by show (List.replicate _ _).length=_;rw[List.length_replicate];omega,fun i k hi hk => ?_⟩
 have e1:rAt (((n:Int),List.replicate ((n:Int)*4).toNat [],List.replicate ((n:Int)).toNat 0,()):RN) (i:Int) (k:Int)=[]:=by
  show (List.replicate _ ([]:List Va)).getD _ []=[]
  rcases getD_memD (l:=List.replicate ((n:Int)*4).toNat ([]:List Va)) (i:=((i:Int)*4+(k:Int)).toNat) (d:=[]) with h | ⟨h,-⟩
  ·exact (List.mem_replicate.1 h).2
  ·exact h
 have e2:vAt (newF n) i k=[]:=by
  have hrow:(List.replicate n (List.replicate 4 ([]:List Va))).getD i (List.replicate 4 [])=List.replicate 4 []:=by
   rcases getD_memD (l:=List.replicate n (List.replicate 4 ([]:List Va))) (i:=i) (d:=List.replicate 4 []) with h | ⟨h,-⟩
   ·exact (List.mem_replicate.1 h).2
   ·exact h
  unfold vAt newF
  rw[hrow]
  rcases getD_memD (l:=(List.replicate 4 []:List (List Va))) (i:=k) (d:=([]:List Va)) with h2 | ⟨h2,-⟩
  ·exact (List.mem_replicate.1 h2).2
  ·exact h2
 rw[e1,e2]
theorem mxF_acc{vals:List Va}(hn:∀ v∈vals,v.1.length=n){q:Nat}(hq:q<n):∀ k,k≤vals.length→mxF vals q k=(accU vals n k).getD q 0
 | 0,_=>by
  unfold accU
  rw[List.getD_eq_getElem?_getD,List.getElem?_replicate,if_pos hq];rfl
 | k+1,hk=>by
  rw[mxF_succ,accU_succ hn hq (by omega),mxF_acc hn hq k (by omega)]
  split<;>omega
theorem Rel.writeE(I:NInv n W H t)(R:Rel n t x)(p q v:Int):rWriteE x p q v=Go.Proofs.YthdbbgajmgjfcaaGreatDoor.writeE t p q v:=by
 unfold rWriteE Go.Proofs.YthdbbgajmgjfcaaGreatDoor.writeE inNet
 rw[R.n1,I.len,R.wr,Bool.and_assoc]
 by_cases hc:(inB p 0 ((n:Int) - 1)&&(inB q 0 3&&inB v 0 1000000))=true
 ·rw[if_pos hc,if_pos hc]
  rw[Bool.and_eq_true] at hc
  have hp:=inB_iff.1 hc.1
  have:=I.cnt p.toNat (by omega)
  by_cases h:t.2.1.getD p.toNat 0=60
  ·rw[if_pos h,if_pos (by omega)]
  ·rw[if_neg h,if_neg (by omega)]
 ·rw[if_neg hc,if_neg hc]
theorem Rel.write(I:NInv n W H t)(R:Rel n t x)(p q v:Int):Rel n (writeT t p q v) (rWriteT x p q v):=by
 have hE:=Rel.writeE I R p q v
 unfold writeT rWriteT
 by_cases hne:¬ Go.Proofs.YthdbbgajmgjfcaaGreatDoor.writeE t p q v=0
 ·rw[if_neg hne,if_neg (by rw[hE];exact hne)];exact R
 have h0:=Decidable.of_not_not hne
 rw[if_pos h0,if_pos (by rw[hE];exact h0)]
 have hin:inNet t p q=true:=by
  unfold Go.Proofs.YthdbbgajmgjfcaaGreatDoor.writeE at h0
  split at h0
  ·rename_i hb;rw[Bool.and_eq_true] at hb;exact hb.1
  ·cases h0
 obtain⟨⟨p0,p1⟩,q0,q1⟩:=inNet_iff.1 hin
 rw[I.len] at p1
 have hpl:p.toNat<t.1.length:=by rw[I.len];omega
 have hrow:(t.1.getD p.toNat (List.replicate 4 [])).length=4:=I.row _ (getD_memL hpl)
 have hra:rAt x p q=vAt t p.toNat q.toNat:=by
  have:=R.at' p.toNat q.toNat (by omega) (by omega)
  rwa [show ((p.toNat:Nat):Int)=p by omega,show ((q.toNat:Nat):Int)=q by omega] at this
 have hup:rUp x p=upW t p:=by unfold rUp upW;rw[R.wr]
 have hseen:seenU x p q x.1.toNat=(newV t p q v).1:=by
  have hn:x.1.toNat=n:=by rw[R.n1];omega
  rw[hn]
  have hvals:valsAt t p q=vAt t p.toNat q.toNat:=rfl
  have hnl:(newV t p q v).1.length=n:=by
   show (List.set _ _ _).length=n
   rw[List.length_set,accU_len,I.len]
  refine list_ext1 (by rw[seenU_len,hnl]) fun j hj => ?_
  rw[seenU_len] at hj
  have e:(newV t p q v).1.getD j 0=if j=p.toNat then (upW t p).getD p.toNat 0 else (accU (vAt t p.toNat q.toNat) n (vAt t p.toNat q.toNat).length).getD j 0:=by
   show (List.set _ _ _).getD j 0=_
   rw[getD_setL _ _ _ _ _ (by rw[accU_len,I.len];omega),hvals,I.len]
  rw[e]
  unfold seenU
  rw[List.getD_eq_getElem?_getD,List.getElem?_map,List.getElem?_range hj]
  show (if (j:Int)=p then _ else _)=_
  by_cases hjp:(j:Int)=p
  ·rw[if_pos hjp,if_pos (by omega),hup]
  ·rw[if_neg hjp,if_neg (by omega),hra,mxF_acc (fun w h=>I.ln h) hj _ (Nat.le_refl _)]
 refine⟨R.n1,hup,?_,fun i k hi hk => ?_⟩
 ·show (setR _ _ _).length=_
  rw[setR_eq (by omega) (by rw[R.hl];omega),List.length_set,R.hl]
 ·rw[vAt_set hpl (by rw[hrow];omega)]
  show (setR x.2.1 (p*4+q) [(seenU x p q x.1.toNat,v,())]).getD ((i:Int)*4+(k:Int)).toNat []=_
  rw[setR_eq (by omega) (by rw[R.hl];omega),getD_setL _ _ _ _ _ (by rw[R.hl];omega),hseen]
  by_cases hc:i=p.toNat∧k=q.toNat
  ·rw[if_pos (by omega),if_pos hc];rfl
  ·rw[if_neg (by omega),if_neg hc];exact R.at' i k hi hk
theorem Rel.syncE(I:NInv n W H t)(R:Rel n t x)(a b:Int):rSyncE x a b=Go.Proofs.YthdbbgajmgjfcaaGreatDoor.syncE t a b:=by
 unfold rSyncE Go.Proofs.YthdbbgajmgjfcaaGreatDoor.syncE inNet
 rw[R.n1,I.len]
 have:inB 0 0 3=true:=by decide
 rw[this,Bool.and_true,Bool.and_true]
theorem Rel.keeps(I:NInv n W H t)(R:Rel n t x){a b:Int}(h0:Go.Proofs.YthdbbgajmgjfcaaGreatDoor.syncE t a b=0):(0≤a∧a<(n:Int))∧(0≤b∧b<(n:Int))∧a≠b∧∀ k,k<4 →
 rAt (rSyncU x a b k) b (k:Int)=vAt t b.toNat k∧rAt (rSyncU x a b k) a (k:Int)=vAt t a.toNat k∧∀ i,i≤(vAt t a.toNat k).length→keepU (vAt t b.toNat k) (vAt t a.toNat k) i=mrgV (vAt t b.toNat k++(vAt t a.toNat k).take i):=by
 obtain⟨ha,hb,hab⟩:inNet t a 0=true∧inNet t b 0=true∧a≠b:=by
  unfold Go.Proofs.YthdbbgajmgjfcaaGreatDoor.syncE at h0
  cases ha:inNet t a 0<;>cases hb:inNet t b 0<;>simp[ha,hb] at h0
  exact⟨rfl,rfl,h0⟩
 obtain⟨⟨a0,a1⟩,-⟩:=inNet_iff.1 ha
 obtain⟨⟨b0,b1⟩,-⟩:=inNet_iff.1 hb
 rw[I.len] at a1 b1
 refine⟨⟨a0,a1⟩,⟨b0,b1⟩,hab,fun k hk => ?_⟩
 have hs:=fun (i:Nat)=>rAt_sync (t:=x) (a:=a) (b:=b) b0 (by rw[R.hl];omega) k (by omega) i k hk
 have e1:=hs b.toNat
 have e2:=hs a.toNat
 rw[if_neg (by omega),R.at' _ _ (by omega) hk] at e1
 rw[if_neg (by omega),R.at' _ _ (by omega) hk] at e2
 rw[show ((b.toNat:Nat):Int)=b by omega] at e1
 rw[show ((a.toNat:Nat):Int)=a by omega] at e2
 have hm:∀ v∈vAt t b.toNat k++vAt t a.toNat k,∃ p,H k p v:=fun v h=>(List.mem_append.1 h).elim (fun h=>I.mem _ _ _ h) fun h=>I.mem _ _ _ h
 exact⟨e1,e2,keepU_eq (n:=n) (fun u h=>(hm u h).elim fun p hp=>I.hl _ _ _ hp) (fun u h w h' e=>by
  obtain⟨p,hp⟩:=hm u h
  obtain⟨p',hp'⟩:=hm w h'
  exact I.hf k p u p' w hp hp' e) (I.sv _ _) (fun u hu w hw=>I.anti _ _ u w hu hw)⟩
theorem Rel.syOk(I:NInv n W H t)(R:Rel n t x){a b:Int}(h0:rSyncE x a b=0):SyOk x a b:=by
 rw[Rel.syncE I R] at h0
 obtain⟨-,-,-,hK⟩:=Rel.keeps I R h0
 intro k hk i hi
 obtain⟨e1,e2,e3⟩:=hK k hk
 rw[e2] at hi
 rw[e1,e2,e3 i hi]
 have f1:=I.few b.toNat k
 have f2:=I.few a.toNat k
 have h5:=I.hi
 have hl:=mrgV_len (vAt t b.toNat k++(vAt t a.toNat k).take i)
 rw[List.length_append,List.length_take] at hl
 refine⟨by omega,fun u hu => ?_⟩
 rw[R.n1]
 have hmem:u∈vAt t b.toNat k++(vAt t a.toNat k).take i:=by
  unfold mrgV at hu
  rw[(perm_sortV _).mem_iff] at hu
  obtain⟨j,hj,e,-⟩:=(mem_outU _).1 hu
  rw[← e];exact getD_memL hj
 rcases List.mem_append.1 hmem with h | h
 ·rw[I.ln h]
 ·rw[I.ln (List.mem_of_mem_take h)]
theorem Rel.sync(I:NInv n W H t)(R:Rel n t x)(a b:Int):Rel n (syncT t a b) (rSyncT x a b):=by
 have hE:=Rel.syncE I R a b
 unfold syncT rSyncT
 by_cases hne:¬ Go.Proofs.YthdbbgajmgjfcaaGreatDoor.syncE t a b=0
 ·rw[if_neg hne,if_neg (by rw[hE];exact hne)];exact R
 have h0:=Decidable.of_not_not hne
 rw[if_pos h0,if_pos (by rw[hE];exact h0)]
 obtain⟨⟨a0,a1⟩,⟨b0,b1⟩,hab,hK⟩:=Rel.keeps I R h0
 refine⟨by rw[rSyncU_1];exact R.n1,by rw[rSyncU_3,syncU_wr];exact R.wr,by rw[rSyncU_has b0 (by rw[R.hl];omega) 4 (Nat.le_refl _)];exact R.hl,fun i k hi hk => ?_⟩
 rw[vAt_sync I.row (by omega) (by rw[I.len];omega) i k 4 (Nat.le_refl _),rAt_sync b0 (by rw[R.hl];omega) 4 (Nat.le_refl _) i k hk]
 by_cases hc:(i:Int)=b
 ·rw[if_pos ⟨hc,hk⟩,if_pos (by omega)]
  obtain⟨e1,e2,e3⟩:=hK k hk
  rw[e1,e2,e3 _ (Nat.le_refl _),List.take_length]
 ·rw[if_neg (fun h=>hc h.1),if_neg (by omega)];exact R.at' i k hi hk
end
open Go.Vc
def oRead:OCtr:=fun args ob k=>match args,ob with
 | [.ps 0,.d (.int .i64) p,.d (.int .i64) q],[.st 96 [.os 1,.os 2],.row 98 (.ar 4 (.sl (.pr (.sl (.int .i64)) (.pr (.int .i64) .un)))) nodes,.row 3 (.int .i64) wrote] =>
  NetLen (nodes,wrote,())∧k (.os 1) [.st 96 [.os 2,.os 3],.row 83 tV (readF (nodes,wrote,()) p q),.row 98 tRow nodes,.row 3 I wrote]
 | _,_=>False
def anReadO(t:Net)(p k:Int):Ann:=[joinAll,loopAt 5 Nat [(7,83,tV)] (fun st i=>{ St.at (St.only st [0,7,23,24]) [(25,.d I (i:Int))] with ob:=obNet t++[.row 83 tV ((valsAt t p k).take i)] }) (fun _ i=>i≤(valsAt t p k).length∧inNet t p k=true) (fun i=>(valsAt t p k).length - i)]
open Go.Vc
set_option linter.unusedVariables false
theorem vcReadO(nd:List (List (List Va)))(wr:List Int)(p q:Int)(k:SV→List Ob→Prop):vcO ⟨Eg,[(56,cCloneI),(49,cIs)],[],[],[]⟩ (anReadO (nd,wr,()) p q) (Tryz.f29.body.getD .skip) Tryz.f29.ntmps [(.tmp 6,.un)] [.ps 0,.d I p,.d I q] [.st 96 [.os 1,.os 2],.row 98 tRow nd,.row 3 I wr] k=(
 ((!inNet (nd,wr,()) p q)=true→k SV.nils [Ob.st (96:Nat) [SV.os (1:Nat),SV.os (2:Nat)],Ob.row (98:Nat) (Ty.ar (4:Nat) (tV).sl) nd,Ob.row (3:Nat) (I) wr])∧((!inNet (nd,wr,()) p q)=false→(0:Int)≤p∧p<(↑nd.length:Int)∧(0:Int)≤q∧q<(↑(4:Nat):Int)∧(∃ (x:Nat),(x≤(valsAt (nd,wr,()) p q).length∧inNet (nd,wr,()) p q=true)∧(True∧True∧(nd.getD p.toNat (List.replicate (4:Nat) [])).getD q.toNat []=(nd.getD p.toNat (List.replicate (4:Nat) [])).getD q.toNat []∧(↑((nd.getD p.toNat (List.replicate (4:Nat) [])).getD q.toNat []).length:Int)=(↑((nd.getD p.toNat (List.replicate (4:Nat) [])).getD q.toNat []).length:Int)∧(0:Int)=(↑x:Int)∧True)∧((True∧True∧True)∧((98:Nat)=(98:Nat)∧nd=nd)∧((3:Nat)=(3:Nat)∧wr=wr)∧((83:Nat)=(83:Nat)∧[]=List.take x (valsAt (nd,wr,()) p q))∧True)∧True∧p=p∧q=q∧True)∧∀ (x:Nat),x≤(valsAt (nd,wr,()) p q).length∧inNet (nd,wr,()) p q=true→(decide ((↑x:Int)<(↑((nd.getD p.toNat (List.replicate (4:Nat) [])).getD q.toNat []).length:Int))=true→(0:Int)≤(↑x:Int)∧(↑x:Int)<(↑((nd.getD p.toNat (List.replicate (4:Nat) [])).getD q.toNat []).length:Int)∧((List.length (((nd.getD p.toNat (List.replicate (4:Nat) [])).getD q.toNat []).getD (↑x:Int).toNat va0).fst≤(1000000000:Nat)∧True)∧True)∧(List.take x (valsAt (nd,wr,()) p q)).length+((List.replicate (1:Nat) va0).set (0:Nat) ((((nd.getD p.toNat (List.replicate (4:Nat) [])).getD q.toNat []).getD (↑x:Int).toNat va0).fst,(((nd.getD p.toNat (List.replicate (4:Nat) [])).getD q.toNat []).getD (↑x:Int).toNat va0).snd.fst,())).length≤(1000000000:Nat)∧inK IntKind.i64 ((↑x:Int)+(1:Int))∧∃ (x_1:Nat),(x_1≤(valsAt (nd,wr,()) p q).length∧inNet (nd,wr,()) p q=true)∧(valsAt (nd,wr,()) p q).length - x_1<(valsAt (nd,wr,()) p q).length - x∧(True∧True∧(nd.getD p.toNat (List.replicate (4:Nat) [])).getD q.toNat []=(nd.getD p.toNat (List.replicate (4:Nat) [])).getD q.toNat []∧(↑((nd.getD p.toNat (List.replicate (4:Nat) [])).getD q.toNat []).length:Int)=(↑((nd.getD p.toNat (List.replicate (4:Nat) [])).getD q.toNat []).length:Int)∧(↑x:Int)+(1:Int)=(↑x_1:Int)∧True)∧((True∧True∧True)∧((98:Nat)=(98:Nat)∧nd=nd)∧((3:Nat)=(3:Nat)∧wr=wr)∧((83:Nat)=(83:Nat)∧(List.take x (valsAt (nd,wr,()) p q)).append ((List.replicate (1:Nat) va0).set (0:Nat) ((((nd.getD p.toNat (List.replicate (4:Nat) [])).getD q.toNat []).getD (↑x:Int).toNat va0).fst,(((nd.getD p.toNat (List.replicate (4:Nat) [])).getD q.toNat []).getD (↑x:Int).toNat va0).snd.fst,()))=List.take x_1 (valsAt (nd,wr,()) p q))∧True)∧True∧p=p∧q=q∧True)∧(decide ((↑x:Int)<(↑((nd.getD p.toNat (List.replicate (4:Nat) [])).getD q.toNat []).length:Int))=false→k (SV.os (1:Nat)) [Ob.st (96:Nat) [SV.os (2:Nat),SV.os (3:Nat)],Ob.row (83:Nat) (tV) (List.take x (valsAt (nd,wr,()) p q)),Ob.row (98:Nat) (Ty.ar (4:Nat) (tV).sl) nd,Ob.row (3:Nat) (I) wr]))):=by kernel_rfl
end Go.Proofs.YthdbbgajmgjfcaaGreatDoor

namespace Go.Vc
open Go.RowKit
theorem OwnOk.sub[Dn]{P:Program}{gl gl':List (Nat×Dat)}{f:FuncId}{c:OCtr}(hs:∀ x∈gl,x∈gl')(h:OwnOk P gl f c):OwnOk P gl' f c :=
 fun args ob k hc w M R0 A vals hB hrd I=>h args ob k hc w M R0 A vals ⟨fun g d hg=>hB.gl g d (hs _ hg),hB.lt,hB.me⟩ hrd I
theorem OwnOk.lift[Dn]{P:Program}{gl:List (Nat×Dat)}{f:FuncId}{c:OCtr}(h:OwnOk P [] f c):OwnOk P gl f c:=h.sub fun x hx=>by cases hx
theorem own_nilrowK[Dn]{P:Program}{gl:List (Nat×Dat)}{f:FuncId}{oc oc':OCtr}(h:OwnOk P gl f oc)(e:TypeId)(t:Ty)(σ:List Nat)(hσ:σ.Nodup)
   (h':∀ args ob k,oc' args ob k→(∀ i,i<keptN args→σ.getD i 0=i)∧oc args ob (fun s ob'=>match s with
     | .nils=>keptN args≤ob'.length∧k (reS σ (.os ob'.length)) (σ.map fun i=>reO σ ((ob'++[Ob.row e t []]).getD i .dead))
     | s=>k s ob')):OwnOk P gl f oc':=by
 intro args ob k hc w M R0 A vals hB hrd I
 obtain⟨hs,hc⟩:=h' _ _ _ hc
 refine (h _ _ _ hc w M R0 A vals hB hrd I).mono ?_
 rintro x w' ⟨v,s,ob1,A',rfl,hk,I2,hkeep⟩
 split at hk
 · obtain⟨hkn,hk⟩:=hk
   have hv:v = .slice none 0 0:=I2.tm 0 .nils rfl
   subst hv
   have hnum:A'.n=ob1.length:=I2.num
   have hI := (I2.add none (fun _ => .slice none 0 0) (fun b => (Value.slice none 0 0).ownBlock = some b) (nilOb e (.d t)) (Same.refl w') (fun _ _ _ => rfl) (fun b hb => by simp [Value.ownBlock] at hb) (fun hro =>
         nilOb_ok e (.d t) (Asg.push_η ..) (Asg.push_κ ..))).put (d:=some 0) (s := .os ob1.length) (v := .slice none 0 0) ⟨by simp[Asg.pushT,hnum],by rw[← hnum,Asg.push_η]⟩
   refine⟨.slice none 0 0,_,_,_,rfl,hk,hI.re hσ,fun i hi => ?_⟩
   rw[← hkeep i hi]
   simp only[Asg.re]
   rw[hs i hi]
   simp only[Asg.pushT]
   rw[if_neg (by omega)]
 · exact⟨v,_,_,A',rfl,hk,I2,hkeep⟩
end Go.Vc
namespace Go.Proofs.YthdbbgajmgjfcaaGreatDoor
open Go.Vc Go.Proofs
theorem readO_vc(nd:List (List (List Va)))(wr:List Int)(p q:Int)(hN:NetLen (nd,wr,()))(k:SV→List Ob→Prop)
 (h1:inNet (nd,wr,()) p q=false→k .nils [.st 96 [.os 1,.os 2],.row 98 tRow nd,.row 3 I wr])
 (h2:inNet (nd,wr,()) p q=true→k (.os 1) [.st 96 [.os 2,.os 3],.row 83 tV (valsAt (nd,wr,()) p q),.row 98 tRow nd,.row 3 I wr]) :
 vcO ⟨Eg,[(56,cCloneI),(49,cIs)],[],[],[]⟩ (anReadO (nd,wr,()) p q) (Tryz.f29.body.getD .skip) Tryz.f29.ntmps [(.tmp 6,.un)] [.ps 0,.d I p,.d I q] [.st 96 [.os 1,.os 2],.row 98 tRow nd,.row 3 I wr] k:=by
 rw[vcReadO]
 have e0:(List.getD nd p.toNat (List.replicate 4 [])).getD q.toNat []=valsAt (nd,wr,()) p q:=rfl
 have e1:∀ y:Va,(List.replicate 1 va0).set 0 y=[y]:=fun _=>rfl
 have ea:∀ (m n:List Va),List.append m n=m++n:=fun _ _=>rfl
 have e2:∀ y:Va,(y.1,y.2.1,())=y:=fun _=>rfl
 simp only[e0,e1,ea,e2,decide_eq_true_eq,decide_eq_false_iff_not,true_and,and_true,Bool.not_eq_true',Bool.not_eq_false',Int.toNat_natCast,inK_i64]
 refine⟨h1,fun h => ?_⟩
 have hin:=inNet_iff.1 h
 have hin1:p<(nd.length:Int):=hin.1.2
 have hr:(List.getD nd p.toNat (List.replicate 4 []))∈nd:=getD_memL (by omega)
 obtain⟨hr4,hrl⟩:=hN.1 _ hr
 have hv:valsAt (nd,wr,()) p q∈(List.getD nd p.toNat (List.replicate 4 [])):=getD_memL (by rw[hr4];omega)
 obtain⟨hl1,hl2⟩:=hrl _ hv
 refine⟨hin.1.1,hin1,hin.2.1,by omega,⟨0,⟨Nat.zero_le _,h⟩,rfl,rfl⟩,fun x ⟨hx,_⟩=>⟨fun hlt => ?_,fun hge => ?_⟩⟩
 ·have hxl:x<(valsAt (nd,wr,()) p q).length:=by omega
  have:=hl2 _ (getD_memL (d:=va0) hxl)
  refine⟨by omega,hlt,by omega,?_,by omega,x+1,⟨by omega,h⟩,by omega,by omega,?_⟩
  ·rw[List.length_take];simp only[List.length_cons,List.length_nil];omega
  ·rw[List.take_succ_eq_append_getElem hxl,List.getD_eq_getElem?_getD,List.getElem?_eq_getElem hxl];rfl
 ·have:x=(valsAt (nd,wr,()) p q).length:=by omega
  rw[this,List.take_length];exact h2 h
theorem ownRead:OwnOk Tryz.prog [] 29 oRead:=by
 refine own_nilrowK (oc:=fun args ob k=>∃ (p q:Int) (nd:List (List (List Va))) (wr:List Int),args=[.ps 0,.d I p,.d I q]∧ob=[.st 96 [.os 1,.os 2],.row 98 tRow nd,.row 3 I wr]∧NetLen (nd,wr,()) ∧
  (inNet (nd,wr,()) p q=false→k .nils [.st 96 [.os 1,.os 2],.row 98 tRow nd,.row 3 I wr]) ∧
  (inNet (nd,wr,()) p q=true→k (.os 1) [.st 96 [.os 2,.os 3],.row 83 tV (valsAt (nd,wr,()) p q),.row 98 tRow nd,.row 3 I wr])) ?_ 83 tV [0,3,1,2] (by decide) ?_
 ·refine own_of (CxOk.mk' Eg_ok (by kernel_rfl) mixed (gl:=[]) (GOk.cons okCloneI Tryz.func56 (by kernel_rfl) (by kernel_rfl) (GOk.cons okIs Tryz.func49 (by kernel_rfl) (by kernel_rfl) GOk.nil)) GoOk.nil noIt) Tryz.func29 (c:=Tryz.f29.body.getD .skip) (rvs:=[(.tmp 6,.un)]) (by kernel_rfl) (by kernel_rfl) (by kernel_rfl) ?_
  rintro args ob k ⟨p,q,nd,wr,rfl,rfl,hN,h1,h2⟩ hwa hwo
  exact⟨anReadO (nd,wr,()) p q,readO_vc nd wr p q hN k h1 h2⟩
 ·intro args ob k h
  unfold oRead at h
  split at h
  ·rename_i p q nd wr
   obtain⟨hN,hk⟩:=h
   refine⟨fun i hi => ?_,p,q,nd,wr,rfl,rfl,hN,fun hb=>⟨show 1≤3 from by decide,?_⟩,fun hb => ?_⟩
   ·have:i<1:=hi
    have:i=0:=by omega
    subst this;rfl
   ·unfold readF at hk;rw[if_neg (by rw[hb];decide)] at hk;exact hk
   ·unfold readF at hk;rw[if_pos hb] at hk;exact hk
  ·exact h.elim
open Go.Vc Go.Proofs
theorem inB5{n:Int}(h:inB n 1 5=true):1≤n.toNat∧n.toNat≤5∧1≤n∧n≤5:=by
 have:=inB_iff.1 h;omega
theorem net_eta(t:Net):(t.1,t.2.1,())=t:=rfl
open Go.Vc Go.Proofs Go.RowKit
abbrev tBd:Ty := .pr (.ptr .un) (.pr (.sl (.int .u8)) .un)
abbrev tBk:Ty := .pr (.ptr tNet) (.pr tBd (.pr I .un))
def obBk(t:Net)(txt:List UInt8)(m:Int):List Ob:=[.st 66 [.ps 1,.sf 0 1,.os 2,.d I m],.st 96 [.os 3,.os 4],.buf 5 txt,.row 98 tRow t.1,.row 3 I t.2.1]
def oWS:OCtr:=fun args ob k=>match args,ob with
 | [.pf _ 0 1 [],.d .str x],[.st 66 [.ps 1,.sf 0 1,.os 2,.d (.int .i64) m],.st 96 [.os 3,.os 4],.buf 5 txt,.row 98 (.ar 4 (.sl (.pr (.sl (.int .i64)) (.pr (.int .i64) .un)))) nodes,.row 3 (.int .i64) wrote] =>
  txt.length+x.length≤1000000000∧k (.tp [.d I (x.length:Int),.d tErr (0:Int)]) (obBk (nodes,wrote,()) (txt++x) m)
 | _,_=>False
def oStr:OCtr:=fun args ob k=>match args,ob with
 | [.pf _ 0 1 []],[.st 66 [.ps 1,.sf 0 1,.os 2,.d (.int .i64) m],.st 96 [.os 3,.os 4],.buf 5 txt,.row 98 (.ar 4 (.sl (.pr (.sl (.int .i64)) (.pr (.int .i64) .un)))) nodes,.row 3 (.int .i64) wrote] =>
  txt.length≤1000000000∧k (.d .str txt) (obBk (nodes,wrote,()) txt m)
 | _,_=>False
theorem pf_val{w:World}{ro:Nat→Prop}{A:Asg}{t:Ty}{i o:Nat}{v:Value}(h:SvOk w ro A (.pf t i o []) v):∃ g,A.η i = .pointer (some ⟨g,0,none⟩)∧v = .pointer (some ⟨g,o,none⟩):=by
 obtain⟨_,g,o',t',e1,e2,_,e3⟩:=h
 rw[off_nil] at e2
 injection e2 with e2;injection e2 with e2
 subst e2
 exact⟨g,e1,e3⟩
theorem str_val{w:World}{ro:Nat→Prop}{A:Asg}{x:List UInt8}{v:Value}(h:SvOk w ro A (.d .str x) v):v = .string ⟨x.toArray⟩∧x.length≤maxLen:=by
 have h':[v]=[Value.string ⟨x.toArray⟩]∧x.length≤maxLen:=h
 exact⟨by simpa using h'.1,h'.2⟩
theorem vals1{vals:Array Value}(h:vals.size=1):vals=#[vals.getD 0 undef]:=by
 apply Array.ext (by simp[h])
 intro k h1 h2
 have:k=0:=by omega
 subst this
 simp[h]
theorem vals2{vals:Array Value}(h:vals.size=2):vals=#[vals.getD 0 undef,vals.getD 1 undef]:=by
 apply Array.ext (by simp[h])
 intro k h1 h2
 have:k=0∨k=1:=by omega
 rcases this with rfl | rfl<;>simp[h]
theorem ownWS[Dn]:OwnOk Tryz.prog [] 43 oWS:=by
 intro args ob k h w M R0 A vals hB hrd IV
 unfold oWS at h
 split at h
 ·rename_i t x m txt nodes wrote
  obtain⟨hl,hk⟩:=h
  obtain⟨g,e1,e2⟩:=pf_val (IV.tm 0 _ rfl)
  obtain⟨e3,hxl⟩:=str_val (IV.tm 1 _ rfl)
  have hv:=vals2 (show vals.size=2 from IV.len)
  rw[e2,e3] at hv
  rw[hv]
  rw[hv] at IV
  refine (ws_inv IV (i:=0) (j:=2) (o:=1) rfl rfl rfl rfl rfl (by decide) (by decide) (by kernel_rfl) x (by omega) e1).mono ?_
  rintro e w' ⟨rfl,κ,F,I'⟩
  have hn:inK .i64 (x.length:Int):=inK_len hxl
  have hs:∀ ro,SvOk w' ro (A.pushT κ F) (.tp [.d I (x.length:Int),.d tErr (0:Int)]) (.tuple #[.int .i64 x.length,.nilIface]):=by
   refine fun ro=>⟨_,rfl,rfl,fun j sv v h1 h2 => ?_⟩
   match j with
   | 0=>simp at h1 h2;subst h1;subst h2;exact⟨rfl,hn⟩
   | 1=>simp at h1 h2;subst h1;subst h2;exact .inl ⟨rfl,rfl⟩
   | j+2=>simp at h1
  have I2:=I'.out (M':=M) rfl (σ:=[0,1,5,3,4]) (by decide) (hs _)
  refine⟨_,_,_,_,rfl,hk,I2,fun i hi => ?_⟩
  have hi:i<1:=hi
  have:i=0:=by omega
  subst this
  exact (A.push_le κ F).η 0 (by rw[show A.n=5 from IV.num];decide)
 ·exact h.elim
theorem ownStr[Dn]:OwnOk Tryz.prog [] 31 oStr:=by
 intro args ob k h w M R0 A vals hB hrd IV
 unfold oStr at h
 split at h
 ·rename_i t m txt nodes wrote
  obtain⟨hl,hk⟩:=h
  obtain⟨g,e1,e2⟩:=pf_val (IV.tm 0 _ rfl)
  have hv:=vals1 (show vals.size=1 from IV.len)
  rw[e2] at hv
  rw[hv]
  rw[hv] at IV
  refine (st_inv IV (i:=0) (j:=2) (o:=1) rfl rfl rfl rfl rfl (by decide) e1).mono ?_
  rintro e w' ⟨rfl,I'⟩
  have hs:∀ ro,SvOk w' ro A (.d .str txt) (.string ⟨txt.toArray⟩):=fun ro=>⟨rfl,Nat.le_trans hl (by decide)⟩
  have I2:=I'.out (M':=M) rfl (σ:=[0,1,2,3,4]) (by decide) (hs _)
  refine⟨_,_,_,_,rfl,hk,I2,fun i hi => ?_⟩
  have hi:i<1:=hi
  have:i=0:=by omega
  subst this
  rfl
 ·exact h.elim
open Go.Vc Go.Proofs Go.RowKit
def Es:Env:={ tys:=[(3,I),(4,.bool),(9,.str),(5,.int .u8),(38,.sl (.int .u8)),(29,tErr),(32,.sl I),(66,tBk),(24,.ptr tBk)],errT:=73,eqs:=[],els:=[] }
theorem Es_ok:EnvOk Tryz.prog Es:=EnvOk.of_list (by kernel_rfl) (by kernel_rfl) (by kernel_rfl)
def sumN(s:List UInt8):Nat→Nat
 | 0=>0
 | k+1=>sumN s k+(k+1)*(s.getD k 0).toNat
def sumF(s:List UInt8):Int:=((sumN s s.length:Nat):Int)%9973
theorem sumN_le(s:List UInt8):∀ k,sumN s k≤k*k*255
 | 0=>Nat.le_refl _
 | k+1=>by
  have h1:=sumN_le s k
  have h2:(s.getD k 0).toNat≤255:=by have:=(s.getD k 0).toNat_lt;omega
  have h3:(k+1)*(s.getD k 0).toNat≤(k+1)*255:=Nat.mul_le_mul_left _ h2
  have h4:(k+1)*(k+1)=k*k+k+(k+1):=by rw[Nat.mul_succ,Nat.succ_mul]
  simp only[sumN]
  rw[h4]
  omega
structure SumOk(s:List UInt8):Prop where
 le:s.length≤1100000
def cSum:Ctr:=cdet [.str] (fun s=>SumOk s) (fun s=>[⟨I,sumF s⟩])
def anSumB(s:List UInt8):Ann:=[joinAll,loopAt 3 Nat [] (fun st i=>St.at (St.only st [7,8]) [(3,.d I ((sumN s i:Nat):Int)),(9,.d I (i:Int))]) (fun _ i=>i≤s.length) (fun i=>s.length - i)]
def putS(word:List UInt8)(l:List Int):List UInt8:=l.foldl (fun s n=>List.append s (List.append [32] (Lib.itoa n))) word
def lineF(word:List UInt8)(l:List Int):List UInt8:=List.append (List.append (List.append (putS word l) [32]) (Lib.itoa (sumF (putS word l)))) [10]
def oPut:OCtr:=fun args ob k=>match args,ob with
 | [.ps 0,.d .str word,.d (.sl (.int .i64)) l],[.st 66 [.ps 1,.sf 0 1,.os 2,.d (.int .i64) m],.st 96 [.os 3,.os 4],.buf 5 txt,.row 98 (.ar 4 (.sl (.pr (.sl (.int .i64)) (.pr (.int .i64) .un)))) nodes,.row 3 (.int .i64) wrote] =>
  (txt.length≤900000000∧(0≤m∧m≤1000)∧word.length≤10∧(l:List Int).length≤10)∧k (.tp []) (obBk (nodes,wrote,()) (List.append txt (lineF word l)) ((m:Int)+1))
 | _,_=>False
def anPut(word:List UInt8)(l:List Int):Ann:=[joinAll,loopAt 2 Nat [] (fun st i=>St.at (St.only st [0,10,11]) [(6,.d .str (putS word (l.take i))),(12,.d I (i:Int))]) (fun _ i=>i≤l.length∧l.length≤10) (fun i=>l.length - i)]
open Go.Vc
set_option linter.unusedVariables false
theorem vcSumB(s:List UInt8)(k:List Dat→Prop):vcF ⟨Es,[],[],[],[]⟩ (anSumB s) (Tryz.f62.body.getD .skip) Tryz.f62.ntmps [(.tmp 2,I)] [⟨.str,s⟩] k=(
 (∃ (x:Nat),x.le s.length∧(0=(↑(sumN s x):Int)∧sbyt s=sbyt s∧(↑(sbyt s).length:Int)=(↑(sbyt s).length:Int)∧0=(↑x:Int)∧True)∧True∧True)∧∀ (x:Nat),x.le s.length→(decide ((↑x:Int)<(↑(sbyt s).length:Int))=true→0≤(↑x:Int)∧(↑x:Int)<(↑(sbyt s).length:Int)∧inK IntKind.i64 ((↑x:Int)+1)∧inK IntKind.i64 ((sbyt s).getD (↑x:Int).toNat 0)∧inK IntKind.i64 (((↑x:Int)+1)*(sbyt s).getD (↑x:Int).toNat 0)∧inK IntKind.i64 ((↑(sumN s x):Int)+((↑x:Int)+1)*(sbyt s).getD (↑x:Int).toNat 0)∧inK IntKind.i64 ((↑x:Int)+1)∧∃ (x_1:Nat),x_1.le s.length∧s.length - x_1<s.length - x∧((↑(sumN s x):Int)+((↑x:Int)+1)*(sbyt s).getD (↑x:Int).toNat 0=(↑(sumN s x_1):Int)∧sbyt s=sbyt s∧(↑(sbyt s).length:Int)=(↑(sbyt s).length:Int)∧(↑x:Int)+1=(↑x_1:Int)∧True)∧True∧True)∧(decide ((↑x:Int)<(↑(sbyt s).length:Int))=false→(9973:Int)≠(0:Int)∧inK IntKind.i64 ((↑(sumN s x):Int).tmod 9973)∧k [Dat.mk (I) ((↑(sumN s x):Int).tmod 9973)])):=by kernel_rfl
theorem vcPut(nd:List (List (List Va)))(wr:List Int)(txt word:List UInt8)(l:List Int)(m:Int)(k:SV→List Ob→Prop):vcO ⟨Es,[(62,cSum),(64,cItoa)],glT,[],[(43,oWS)]⟩ (anPut word l) (Tryz.f35.body.getD .skip) Tryz.f35.ntmps [] [.ps 0,.d .str word,.d (.sl I) l] (obBk (nd,wr,()) txt m) k=(
 (∃ (x:Nat),(x≤l.length∧l.length≤10)∧(True∧word=putS word (List.take x l)∧l=l∧(↑l.length:Int)=(↑l.length:Int)∧0=(↑x:Int)∧True)∧((True∧True∧True∧m=m∧True)∧(True∧True∧True)∧txt=txt∧(98=98∧nd=nd)∧(3=3∧wr=wr)∧True)∧True∧word=word∧l=l∧Lib.pow10Tab=Lib.pow10Tab∧True)∧∀ (x:Nat),x≤l.length∧l.length≤10→(decide ((↑x:Int)<(↑l.length:Int))=true→0≤(↑x:Int)∧(↑x:Int)<(↑l.length:Int)∧True∧[(32:UInt8)].length+(Lib.itoa (l.getD (↑x:Int).toNat 0)).length≤maxLen∧(putS word (List.take x l)).length+((32:UInt8)::Lib.itoa (l.getD (↑x:Int).toNat 0)).length≤maxLen∧inK IntKind.i64 ((↑x:Int)+1)∧∃ (x_1:Nat),(x_1≤l.length∧l.length≤10)∧l.length - x_1<l.length - x∧(True∧(putS word (List.take x l)).append ((32:UInt8)::Lib.itoa (l.getD (↑x:Int).toNat 0))=putS word (List.take x_1 l)∧l=l∧(↑l.length:Int)=(↑l.length:Int)∧(↑x:Int)+1=(↑x_1:Int)∧True)∧((True∧True∧True∧m=m∧True)∧(True∧True∧True)∧txt=txt∧(98=98∧nd=nd)∧(3=3∧wr=wr)∧True)∧True∧word=word∧l=l∧Lib.pow10Tab=Lib.pow10Tab∧True)∧(decide ((↑x:Int)<(↑l.length:Int))=false→((putS word (List.take x l)).length+[(32:UInt8)].length≤maxLen∧SumOk (putS word (List.take x l))∧True∧((putS word (List.take x l)).append [(32:UInt8)]).length+(Lib.itoa (sumF (putS word (List.take x l)))).length≤maxLen∧(((putS word (List.take x l)).append [(32:UInt8)]).append (Lib.itoa (sumF (putS word (List.take x l))))).length+[(10:UInt8)].length≤maxLen∧True)∧txt.length+((((putS word (List.take x l)).append [(32:UInt8)]).append (Lib.itoa (sumF (putS word (List.take x l))))).append [(10:UInt8)]).length≤1000000000∧inK IntKind.i64 (m+1)∧k (SV.tp []) [Ob.st 66 [SV.ps 1,SV.sf 0 1,SV.os 2,SV.d (I) (m+1)],Ob.st 96 [SV.os 3,SV.os 4],Ob.buf 5 (txt++(((putS word (List.take x l)).append [(32:UInt8)]).append (Lib.itoa (sumF (putS word (List.take x l))))).append [(10:UInt8)]),Ob.row 98 tRow nd,Ob.row 3 (I) wr])):=by kernel_rfl
open Go.Vc Go.Proofs Go.RowKit
theorem sbyt_len(s:List UInt8):List.length (sbyt s)=s.length:=by simp[sbyt]
theorem sbyt_get(s:List UInt8)(i:Nat):List.getD (sbyt s) i (0:Int)=((s.getD i 0).toNat:Int):=by
 simp only[sbyt,List.getD_eq_getElem?_getD,List.getElem?_map]
 cases s[i]?<;>rfl
theorem sq_le{x:Nat}(h:x≤1100000):x*x≤1210000000000:=Nat.mul_le_mul h h
theorem sum_step(s:List UInt8){x:Nat}(hx:x<1100000):(((x:Int)+1)*((s.getD x 0).toNat:Int)=(((x+1)*(s.getD x 0).toNat:Nat):Int))∧(x+1)*(s.getD x 0).toNat≤1100000*255:=by
 refine⟨by rw[Int.natCast_mul];rfl,Nat.mul_le_mul (by omega) ?_⟩
 have:=(s.getD x 0).toNat_lt;omega
theorem sumN_bound(s:List UInt8){x:Nat}(hx:x≤1100000):sumN s x≤308550000000000:=by
 have h1:=sumN_le s x
 have h2:=sq_le hx
 omega
theorem okSumB[Dn]:PlainOk Tryz.prog [] 62 cSum:=by
 refine plain_of (CxOk.mk' Es_ok (by kernel_rfl) mixed (gl:=[]) GOk.nil GoOk.nil noIt) Tryz.func62 (c:=Tryz.f62.body.getD .skip) (rvs:=[(.tmp 2,I)]) (by kernel_rfl) (by kernel_rfl) (by kernel_rfl) ?_
 intro ds k ⟨hp,hk⟩ hwf
 obtain⟨s,rfl,hs⟩:=dest1 hp
 have hl:=hs.le
 refine⟨anSumB s,?_⟩
 have hk:k [⟨I,sumF s⟩]:=hk
 rw[vcSumB]
 simp only[sbyt_len,sbyt_get,Int.toNat_natCast,decide_eq_true_eq,decide_eq_false_iff_not,true_and,and_true,Nat.le_eq,inK_i64,Int.ofNat_lt,ne_eq,Int.reduceEq,not_false_eq_true]
 refine⟨⟨0,Nat.zero_le _,rfl,rfl⟩,fun x hx=>⟨fun hlt => ?_,fun hge => ?_⟩⟩
 ·obtain⟨e1,e2⟩:=sum_step s (x:=x) (by omega)
  have e3:=sumN_bound s (x:=x) (by omega)
  have e4:(s.getD x 0).toNat≤255:=by have:=(s.getD x 0).toNat_lt;omega
  rw[e1]
  refine⟨by omega,by omega,by omega,by omega,by omega,by omega,by omega,x+1,by omega,by omega,?_,by omega⟩
  simp only[sumN];omega
 ·have:x=s.length:=by omega
  subst this
  have e3:=sumN_bound s hl
  rw[Int.tmod_eq_emod_of_nonneg (by omega)]
  exact⟨by omega,hk⟩
theorem putS_succ(word:List UInt8)(l:List Int){x:Nat}(hx:x<l.length):putS word (l.take (x+1))=List.append (putS word (l.take x)) (List.append [32] (Lib.itoa (l.getD x 0))):=by
 rw[List.take_succ_eq_append_getElem hx,putS,List.foldl_append,List.getD_eq_getElem?_getD,List.getElem?_eq_getElem hx]
 rfl
theorem putS_len(word:List UInt8):∀ (l:List Int),(∀ n∈l,inK .i64 n)→(putS word l).length≤word.length+21*l.length:=by
 intro l
 unfold putS
 induction l generalizing word with
 | nil=>intro _;simp
 | cons n l ih =>
  intro h
  have h1:=ih (List.append word (List.append [32] (Lib.itoa n))) fun m hm=>h m (List.mem_cons_of_mem _ hm)
  have h2:=itoa_len (h n List.mem_cons_self)
  have h3:(List.append word (List.append [32] (Lib.itoa n))).length=word.length+(1+(Lib.itoa n).length):=by
   show (word++([32]++Lib.itoa n)).length=_
   simp only[List.length_append,List.length_cons,List.length_nil]
  rw[h3] at h1
  simp only[List.foldl_cons,List.length_cons]
  omega
theorem sumF_k(s:List UInt8):inK .i64 (sumF s):=by
 have:=inK_i64 (n:=sumF s)
 rw[this]
 unfold sumF
 omega
theorem ownPut[Dn]:OwnOk Tryz.prog glT 35 oPut:=by
 refine own_of (CxOk.mk' Es_ok (by kernel_rfl) mixed (gl:=glT) (GOk.cons (okSumB.lift) Tryz.func62 (by kernel_rfl) (by kernel_rfl) (GOk.cons okItoa Tryz.func64 (by kernel_rfl) (by kernel_rfl) GOk.nil)) (GoOk.cons ownWS.lift Tryz.func43 (by kernel_rfl) (by kernel_rfl) GoOk.nil) noIt) Tryz.func35 (c:=Tryz.f35.body.getD .skip) (rvs:=[]) (by kernel_rfl) (by kernel_rfl) (by kernel_rfl) ?_
 intro args ob k h hwa hwo
 unfold oPut at h
 split at h
 ·rename_i word l m txt nd wr
  obtain⟨⟨h1,h2,h3,h4⟩,hk⟩:=h
  have hl:∀ n∈l,inK .i64 n:=by
   have:=hwa (.d (.sl I) l) (by simp)
   exact this.2
  have h2a : @LE.le Int _ (0:Int) m:=h2.1
  have h2b : @LE.le Int _ m (1000:Int):=h2.2
  refine⟨anPut word l,?_⟩
  show vcO _ _ _ _ _ [.ps 0,.d .str word,.d (.sl I) l] (obBk (nd,wr,()) txt m) k
  rw[vcPut]
  have hlk:∀ x,(Lib.itoa (l.getD x 0)).length≤20∨l.length≤x:=by
   intro x
   by_cases hx:x<l.length
   ·left
    rw[List.getD_eq_getElem?_getD,List.getElem?_eq_getElem hx]
    exact itoa_len (hl _ (List.getElem_mem hx))
   ·right;omega
  have hpl:∀ x,x≤l.length→(putS word (l.take x)).length≤300:=by
   intro x hx
   have:=putS_len word (l.take x) fun n hn=>hl n (List.mem_of_mem_take hn)
   rw[List.length_take] at this
   omega
  have ea:∀ (m n:List UInt8),List.append m n=m++n:=fun _ _=>rfl
  have eml:maxLen=9223372036854775807:=rfl
  simp only[ea,List.length_append,List.length_cons,List.length_nil,decide_eq_true_eq,decide_eq_false_iff_not,true_and,and_true,Int.toNat_natCast,inK_i64,Int.ofNat_lt]
  refine⟨⟨0,⟨Nat.zero_le _,h4⟩,by simp[putS],rfl⟩,fun x ⟨hx,_⟩=>⟨fun hlt => ?_,fun hge => ?_⟩⟩
  ·have h5:=(hlk x).resolve_right (by omega)
   have h6:=hpl x hx
   refine⟨by omega,hlt,by omega,by omega,by omega,x+1,⟨by omega,h4⟩,by omega,?_,by omega⟩
   rw[putS_succ word l hlt]
   rfl
  ·have:x=l.length:=by omega
   subst this
   rw[List.take_length]
   have h6:=hpl l.length (Nat.le_refl _)
   rw[List.take_length] at h6
   have h7:=itoa_len (sumF_k (putS word l))
   refine⟨⟨by omega,⟨by omega⟩,by omega,by omega⟩,by omega,by omega,hk⟩
 ·exact h.elim
open Go.RowKit Go.Extern.Stop Go.Stop Go.Extern
open Go.RowKit Go.Extern.Stop Go.Stop Go.Extern Go.Vc
open Go.Vc Go.Proofs Go.RowKit
abbrev BS:=Net×List UInt8×Int
abbrev tRB:Ty := .pr tRN (.pr .str (.pr I .un))
abbrev RB:=RN×List UInt8×Int×Unit
def Ek:Env:={ Eg with tys:=(5,.int .u8)::(38,.sl (.int .u8))::(66,tBk)::(24,.ptr tBk)::(43,tRN)::(45,tRB)::Eg.tys,pb:=[66] }
theorem Ek_ok:EnvOk Tryz.prog Ek:=EnvOk.of_list (by kernel_rfl) (by kernel_rfl) (by kernel_rfl)
def obNew0(t:Net):List Ob:=[.st 66 [.ps 1,.d (.ptr .un) none,.nils,.d I (0:Int)],.st 96 [.os 2,.os 3],.row 98 tRow t.1,.row 3 I t.2.1]
def oBNew0:OCtr:=fun args ob k=>match args,ob with
 | [.d (.int .i64) n],[]=>(inB n 1 5=false→k (.tp [.nilp,.d tErr (1:Int)]) [])∧(inB n 1 5=true→k (.tp [.ps 0,.d tErr (0:Int)]) (obNew0 (newF (n:Int).toNat)))
 | _,_=>False
def oBNew:OCtr:=fun args ob k=>match args,ob with
 | [.d (.int .i64) n],[]=>(inB n 1 5=false→k (.tp [.nilp,.d tErr (1:Int)]) [])∧(inB n 1 5=true→k (.tp [.ps 0,.d tErr (0:Int)]) (obBk (newF (n:Int).toNat) [] 0))
 | _,_=>False
def bkE(m e:Int):Int:=if m=60 then 4 else e
def bkT(t:Net)(txt:List UInt8)(m:Int)(e:Int)(t':Net)(line:List UInt8):BS:=if bkE m e=0 then (t',List.append txt line,m+1) else (t,txt,m)
def oBW:OCtr:=fun args ob k=>match args,ob with
 | [.ps 0,.d (.int .i64) p,.d (.int .i64) q,.d (.int .i64) v],[.st 66 [.ps 1,.sf 0 1,.os 2,.d (.int .i64) m],.st 96 [.os 3,.os 4],.buf 5 txt,.row 98 (.ar 4 (.sl (.pr (.sl (.int .i64)) (.pr (.int .i64) .un)))) nodes,.row 3 (.int .i64) wrote] =>
  (NetSh (nodes,wrote,())∧txt.length≤900000000∧((0:Int)≤(m:Int)∧(m:Int)≤(60:Int))) ∧
  k (.d tErr (bkE m (writeE (nodes,wrote,()) p q v))) (obBk (bkT (nodes,wrote,()) txt m (writeE (nodes,wrote,()) p q v) (writeT (nodes,wrote,()) p q v) (lineF [119] [p,q,v])).1 (bkT (nodes,wrote,()) txt m (writeE (nodes,wrote,()) p q v) (writeT (nodes,wrote,()) p q v) (lineF [119] [p,q,v])).2.1 (bkT (nodes,wrote,()) txt m (writeE (nodes,wrote,()) p q v) (writeT (nodes,wrote,()) p q v) (lineF [119] [p,q,v])).2.2)
 | _,_=>False
def oBS:OCtr:=fun args ob k=>match args,ob with
 | [.ps 0,.d (.int .i64) a,.d (.int .i64) b],[.st 66 [.ps 1,.sf 0 1,.os 2,.d (.int .i64) m],.st 96 [.os 3,.os 4],.buf 5 txt,.row 98 (.ar 4 (.sl (.pr (.sl (.int .i64)) (.pr (.int .i64) .un)))) nodes,.row 3 (.int .i64) wrote] =>
  (NetSh (nodes,wrote,())∧txt.length≤900000000∧((0:Int)≤(m:Int)∧(m:Int)≤(60:Int))) ∧
  k (.d tErr (bkE m (syncE (nodes,wrote,()) a b))) (obBk (bkT (nodes,wrote,()) txt m (syncE (nodes,wrote,()) a b) (syncT (nodes,wrote,()) a b) (lineF [115] [a,b])).1 (bkT (nodes,wrote,()) txt m (syncE (nodes,wrote,()) a b) (syncT (nodes,wrote,()) a b) (lineF [115] [a,b])).2.1 (bkT (nodes,wrote,()) txt m (syncE (nodes,wrote,()) a b) (syncT (nodes,wrote,()) a b) (lineF [115] [a,b])).2.2)
 | _,_=>False
def oBTxt:OCtr:=fun args ob k=>match args,ob with
 | [.ps 0],[.st 66 [.ps 1,.sf 0 1,.os 2,.d (.int .i64) m],.st 96 [.os 3,.os 4],.buf 5 txt,.row 98 (.ar 4 (.sl (.pr (.sl (.int .i64)) (.pr (.int .i64) .un)))) nodes,.row 3 (.int .i64) wrote] =>
  txt.length≤1000000000∧k (.d .str txt) (obBk (nodes,wrote,()) txt m)
 | _,_=>False
def obRd(t:Net)(txt:List UInt8)(m:Int)(r:List Va):List Ob:=[.st 66 [.ps 2,.sf 0 1,.os 3,.d I m],.row 83 tV r,.st 96 [.os 4,.os 5],.buf 5 txt,.row 98 tRow t.1,.row 3 I t.2.1]
def oBRd:OCtr:=fun args ob k=>match args,ob with
 | [.ps 0,.d (.int .i64) p,.d (.int .i64) q],[.st 66 [.ps 1,.sf 0 1,.os 2,.d (.int .i64) m],.st 96 [.os 3,.os 4],.buf 5 txt,.row 98 (.ar 4 (.sl (.pr (.sl (.int .i64)) (.pr (.int .i64) .un)))) nodes,.row 3 (.int .i64) wrote] =>
  NetLen (nodes,wrote,())∧k (.os 1) (obRd (nodes,wrote,()) txt m (readF (nodes,wrote,()) p q))
 | _,_=>False
def wordF(l:List Int):List UInt8:=if l.length=3 then[119] else[115]
def rNE(t:RN)(l:List Int):Int:=if l.length=3 then rWriteE t (l.getD 0 0) (l.getD 1 0) (l.getD 2 0) else rSyncE t (l.getD 0 0) (l.getD 1 0)
def rNT(t:RN)(l:List Int):RN:=if l.length=3 then rWriteT t (l.getD 0 0) (l.getD 1 0) (l.getD 2 0) else rSyncT t (l.getD 0 0) (l.getD 1 0)
def rPE(b:RB)(l:List Int):Int:=if 60≤b.2.2.1 then 4 else rNE b.1 l
def rPT(b:RB)(l:List Int):RB:=if rPE b l=0 then (rNT b.1 l,List.append b.2.1 (lineF (wordF l) l),b.2.2.1+1,()) else b
structure PutOk(b:RB)(l:List Int):Prop where
 sh:RSh b.1
 two:l.length=3∨l.length=2
 sy:l.length=2→rSyncE b.1 (l.getD 0 0) (l.getD 1 0)=0→SyOk b.1 (l.getD 0 0) (l.getD 1 0)
 txt:b.2.1.length≤900000000
 lo:0≤b.2.2.1
 hi:b.2.2.1≤60
open Go.Vc
set_option linter.unusedVariables false
theorem vcBNew(n:Int)(k:SV→List Ob→Prop):vcO ⟨Ek,[],[],[],[(26,oNew)]⟩ [joinAll] (Tryz.f25.body.getD .skip) Tryz.f25.ntmps [(.tmp 2,.un),(.tmp 3,tErr)] [.d I n] [] k=(
 (inB n 1 5=false→((!decide (1=(0:Int)))=true→k (SV.tp [SV.nilp,SV.d (Ty.err 73) 1]) [])∧((!decide (1=(0:Int)))=false→k (SV.tp [SV.ps 0,SV.d (Ty.err 73) 0]) [Ob.st 66 [SV.nilp,SV.d Ty.un.ptr none,SV.nils,SV.d (I) 0]]))∧(inB n 1 5=true→((!decide (0=(0:Int)))=true→k (SV.tp [SV.nilp,SV.d (Ty.err 73) 0]) [])∧((!decide (0=(0:Int)))=false→k (SV.tp [SV.ps 0,SV.d (Ty.err 73) 0]) [Ob.st 66 [SV.ps 1,SV.d Ty.un.ptr none,SV.nils,SV.d (I) 0],Ob.st 96 [SV.os 2,SV.os 3],Ob.row 98 tRow (List.replicate n.toNat (List.replicate 4 [])),Ob.row 3 (I) (List.replicate n.toNat 0)]))):=by kernel_rfl
theorem vcBW(nd:List (List (List Va)))(wr:List Int)(txt:List UInt8)(m p q v:Int)(k:SV→List Ob→Prop):vcO ⟨Ek,[],glT,[],[(27,oWrite),(35,oPut)]⟩ [joinAll] (Tryz.f16.body.getD .skip) Tryz.f16.ntmps [(.tmp 8,tErr)] [.ps 0,.d I p,.d I q,.d I v] (obBk (nd,wr,()) txt m) k=(
 (decide (m=60)=true→(4:Int)≠(0:Int)∧k (SV.d (Ty.err 73) 4) [Ob.st 66 [SV.ps 1,SV.sf 0 1,SV.os 2,SV.d (I) m],Ob.st 96 [SV.os 3,SV.os 4],Ob.buf 5 txt,Ob.row 98 tRow nd,Ob.row 3 (I) wr])∧(decide (m=60)=false→NetSh (nd,wr,())∧((!decide (writeE (nd,wr,()) p q v=0))=true→k (SV.d (Ty.err 73) (writeE (nd,wr,()) p q v)) [Ob.st 66 [SV.ps 1,SV.sf 0 1,SV.os 2,SV.d (I) m],Ob.st 96 [SV.os 3,SV.os 4],Ob.buf 5 txt,Ob.row 98 tRow (writeT (nd,wr,()) p q v).fst,Ob.row 3 (I) (writeT (nd,wr,()) p q v).snd.fst])∧((!decide (writeE (nd,wr,()) p q v=0))=false→(txt.length≤900000000∧(0≤m∧m≤1000)∧[(119:UInt8)].length≤10∧((((List.replicate 3 0).set 0 p).set 1 q).set 2 v).length≤10)∧k (SV.d (Ty.err 73) 0) [Ob.st 66 [SV.ps 1,SV.sf 0 1,SV.os 2,SV.d (I) (m+1)],Ob.st 96 [SV.os 3,SV.os 4],Ob.buf 5 (txt.append (lineF [(119:UInt8)] ((((List.replicate 3 0).set 0 p).set 1 q).set 2 v))),Ob.row 98 tRow (writeT (nd,wr,()) p q v).fst,Ob.row 3 (I) (writeT (nd,wr,()) p q v).snd.fst]))):=by kernel_rfl
theorem vcBS(nd:List (List (List Va)))(wr:List Int)(txt:List UInt8)(m a b:Int)(k:SV→List Ob→Prop):vcO ⟨Ek,[],glT,[],[(28,oSync),(35,oPut)]⟩ [joinAll] (Tryz.f17.body.getD .skip) Tryz.f17.ntmps [(.tmp 6,tErr)] [.ps 0,.d I a,.d I b] (obBk (nd,wr,()) txt m) k=(
 (decide (m=60)=true→(4:Int)≠(0:Int)∧k (SV.d (Ty.err 73) 4) [Ob.st 66 [SV.ps 1,SV.sf 0 1,SV.os 2,SV.d (I) m],Ob.st 96 [SV.os 3,SV.os 4],Ob.buf 5 txt,Ob.row 98 tRow nd,Ob.row 3 (I) wr])∧(decide (m=60)=false→NetSh (nd,wr,())∧((!decide (syncE (nd,wr,()) a b=0))=true→k (SV.d (Ty.err 73) (syncE (nd,wr,()) a b)) [Ob.st 66 [SV.ps 1,SV.sf 0 1,SV.os 2,SV.d (I) m],Ob.st 96 [SV.os 3,SV.os 4],Ob.buf 5 txt,Ob.row 98 tRow (syncT (nd,wr,()) a b).fst,Ob.row 3 (I) (syncT (nd,wr,()) a b).snd.fst])∧((!decide (syncE (nd,wr,()) a b=0))=false→(txt.length≤900000000∧(0≤m∧m≤1000)∧[(115:UInt8)].length≤10∧(((List.replicate 2 0).set 0 a).set 1 b).length≤10)∧k (SV.d (Ty.err 73) 0) [Ob.st 66 [SV.ps 1,SV.sf 0 1,SV.os 2,SV.d (I) (m+1)],Ob.st 96 [SV.os 3,SV.os 4],Ob.buf 5 (txt.append (lineF [(115:UInt8)] (((List.replicate 2 0).set 0 a).set 1 b))),Ob.row 98 tRow (syncT (nd,wr,()) a b).fst,Ob.row 3 (I) (syncT (nd,wr,()) a b).snd.fst]))):=by kernel_rfl
theorem vcBTxt(nd:List (List (List Va)))(wr:List Int)(txt:List UInt8)(m:Int)(k:SV→List Ob→Prop):vcO ⟨Ek,[],[],[],[(31,oStr)]⟩ [joinAll] (Tryz.f14.body.getD .skip) Tryz.f14.ntmps [(.tmp 2,.str)] [.ps 0] (obBk (nd,wr,()) txt m) k=(
 txt.length≤1000000000∧k (SV.d Ty.str txt) [Ob.st 66 [SV.ps 1,SV.sf 0 1,SV.os 2,SV.d (I) m],Ob.st 96 [SV.os 3,SV.os 4],Ob.buf 5 txt,Ob.row 98 tRow nd,Ob.row 3 (I) wr]):=by kernel_rfl
theorem vcBRd(nd:List (List (List Va)))(wr:List Int)(txt:List UInt8)(m p q:Int)(k:SV→List Ob→Prop):vcO ⟨Ek,[],[],[],[(29,oRead)]⟩ [joinAll] (Tryz.f22.body.getD .skip) Tryz.f22.ntmps [(.tmp 6,.un)] [.ps 0,.d I p,.d I q] (obBk (nd,wr,()) txt m) k=(
 NetLen (nd,wr,())∧k (SV.os 1) [Ob.st 66 [SV.ps 2,SV.sf 0 1,SV.os 3,SV.d (I) m],Ob.row 83 (tV) (readF (nd,wr,()) p q),Ob.st 96 [SV.os 4,SV.os 5],Ob.buf 5 txt,Ob.row 98 tRow nd,Ob.row 3 (I) wr]):=by kernel_rfl
end Go.Proofs.YthdbbgajmgjfcaaGreatDoor
