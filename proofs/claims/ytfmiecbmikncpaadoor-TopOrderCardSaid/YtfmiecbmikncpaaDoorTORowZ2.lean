/- Own texts, merged and cut: OV6, Pp, OOk6, OOk7, OOk8, ODef6, ZM, ZC, ZV3, ZOk3, QDef, ODef7, OV8, OV7, OOk9, TP1, GV5, GOk5, GM4, GM5, OM, QV1, QV2, QOk, RV, CV, COk, LSort, ROk, LsV, Ls, OTop, OGl. -/
import Derived.Test.YtfmiecbmikncpaaDoorTORowZ1
import Derived.Test.YtfmiecbmikncpaaDoorChecked
import Derived.WalkKit
import Derived.Shelf.RegionOpen
import Derived.Test.YtfmiecbmikncpaaDoorTORowVSO
import Derived.Test.YtfmiecbmikncpaaDoorTORowVPA
import Derived.Test.YtfmiecbmikncpaaDoorRows
namespace Go.Proofs.YtfmiecbmikncpaaDoor
open Go.Vc
set_option linter.unusedVariables false
theorem vcAhead(l:List Int)(k:List Dat→Prop):vcF ⟨Et,[(27,cTurned)],glT,[],[]⟩ [joinAll] (Tryd.f37.body.getD .skip) Tryd.f37.ntmps [(.tmp 2,.sl I),(.tmp 3,tErr)] [⟨.sl I,l⟩] k=(
 True∧k [Dat.mk (I).sl (if ordE l=(0:Int) then castL (tuL (clL (natL l)) l.length) else[]),Dat.mk (Ty.err (53:Nat)) (ordE l)]):=by kernel_rfl
theorem vcMany(a:Int)(k:List Dat→Prop):vcF ⟨Et,[],glT,[],[]⟩ (anMany a) (Tryd.f14.body.getD .skip) Tryd.f14.ntmps [(.tmp 2,I)] [⟨I,a⟩] k=(
 (∃ (x:Int×Int),(pop a=pop x.fst+x.snd∧(0:Int)≤x.snd∧inK IntKind.i64 x.fst)∧(a=x.fst∧(0:Int)=(0:Int)∧(0:Int)=x.snd∧True)∧True∧tabD=tabD∧True)∧∀ (x:Int×Int),pop a=pop x.fst+x.snd∧(0:Int)≤x.snd∧inK IntKind.i64 x.fst→(decide ((0:Int)<x.fst)=true→(2:Int)≠(0:Int)∧inK IntKind.i64 (x.fst.tmod (2:Int))∧inK IntKind.i64 (x.snd+x.fst.tmod (2:Int))∧(2:Int)≠(0:Int)∧inK IntKind.i64 (x.fst.tdiv (2:Int))∧∃ (x_1:Int×Int),(pop a=pop x_1.fst+x_1.snd∧(0:Int)≤x_1.snd∧inK IntKind.i64 x_1.fst)∧x_1.fst.toNat<x.fst.toNat∧(x.fst.tdiv (2:Int)=x_1.fst∧(0:Int)=(0:Int)∧x.snd+x.fst.tmod (2:Int)=x_1.snd∧True)∧True∧tabD=tabD∧True)∧(decide ((0:Int)<x.fst)=false→k [Dat.mk (I) x.snd])):=by kernel_rfl
theorem vcWid(l:List Int)(k:List Dat→Prop):vcF ⟨Et,[(4,cBehind),(24,cPop),(25,cSide)],glT,[],[]⟩ (anWid l) (Tryd.f8.body.getD .skip) Tryd.f8.ntmps [(.tmp 2,I),(.tmp 3,tErr)] [⟨.sl I,l⟩] k=(
 True∧((!decide (ordE l=(0:Int)))=true→k [Dat.mk (I) (0:Int),Dat.mk (Ty.err (53:Nat)) (ordE l)])∧((!decide (ordE l=(0:Int)))=false→(0:Int)≤(↑(if ordE l=(0:Int) then clI l else[]).length:Int)∧(↑(if ordE l=(0:Int) then clI l else[]).length:Int)<(64:Int)∧IntKind.i64.bits=(64:Nat)∧inK IntKind.i64 ((1:Int)*(2:Int) ^ (↑(if ordE l=(0:Int) then clI l else[]).length:Int).toNat)∧(∃ (x:Nat),(x≤(2:Nat) ^ l.length∧ordE l=(0:Int))∧(l=l∧((if ordE l=(0:Int) then clI l else[])=if ordE l=(0:Int) then clI l else[])∧(0:Int)=(↑(widL (clI l) x):Int)∧(1:Int)*(2:Int) ^ (↑(if ordE l=(0:Int) then clI l else[]).length:Int).toNat=(1:Int)*(2:Int) ^ (↑(if ordE l=(0:Int) then clI l else[]).length:Int).toNat∧(0:Int)=(↑x:Int)∧True)∧True∧tabD=tabD∧True)∧∀ (x:Nat),x≤(2:Nat) ^ l.length∧ordE l=(0:Int)→(decide ((↑x:Int)<(1:Int)*(2:Int) ^ (↑(if ordE l=(0:Int) then clI l else[]).length:Int).toNat)=true→((0:Int)≤(↑x:Int)∧(↑x:Int)≤(4096:Int))∧((0:Int)≤(↑(widL (clI l) x):Int)∧(↑(widL (clI l) x):Int)≤(4096:Int))∧(decide (pop (↑(widL (clI l) x):Int)<pop (↑x:Int))=true→((mskB (if ordE l=(0:Int) then clI l else[])=true∧(if ordE l=(0:Int) then clI l else[]).length≤(12:Nat))∧(0:Int)≤(↑x:Int)∧(↑x:Int)<(2:Int) ^ (if ordE l=(0:Int) then clI l else[]).length)∧(sideB (if ordE l=(0:Int) then clI l else[]) (↑x:Int) (bitsOf (↑x:Int))=true→inK IntKind.i64 ((↑x:Int)+(1:Int))∧∃ (x_1:Nat),(x_1≤(2:Nat) ^ l.length∧ordE l=(0:Int))∧(2:Nat) ^ l.length - x_1<(2:Nat) ^ l.length - x∧(l=l∧((if ordE l=(0:Int) then clI l else[])=if ordE l=(0:Int) then clI l else[])∧(↑x:Int)=(↑(widL (clI l) x_1):Int)∧(1:Int)*(2:Int) ^ (↑(if ordE l=(0:Int) then clI l else[]).length:Int).toNat=(1:Int)*(2:Int) ^ (↑(if ordE l=(0:Int) then clI l else[]).length:Int).toNat∧(↑x:Int)+(1:Int)=(↑x_1:Int)∧True)∧True∧tabD=tabD∧True)∧(sideB (if ordE l=(0:Int) then clI l else[]) (↑x:Int) (bitsOf (↑x:Int))=false→inK IntKind.i64 ((↑x:Int)+(1:Int))∧∃ (x_1:Nat),(x_1≤(2:Nat) ^ l.length∧ordE l=(0:Int))∧(2:Nat) ^ l.length - x_1<(2:Nat) ^ l.length - x∧(l=l∧((if ordE l=(0:Int) then clI l else[])=if ordE l=(0:Int) then clI l else[])∧(↑(widL (clI l) x):Int)=(↑(widL (clI l) x_1):Int)∧(1:Int)*(2:Int) ^ (↑(if ordE l=(0:Int) then clI l else[]).length:Int).toNat=(1:Int)*(2:Int) ^ (↑(if ordE l=(0:Int) then clI l else[]).length:Int).toNat∧(↑x:Int)+(1:Int)=(↑x_1:Int)∧True)∧True∧tabD=tabD∧True))∧(decide (pop (↑(widL (clI l) x):Int)<pop (↑x:Int))=false→inK IntKind.i64 ((↑x:Int)+(1:Int))∧∃ (x_1:Nat),(x_1≤(2:Nat) ^ l.length∧ordE l=(0:Int))∧(2:Nat) ^ l.length - x_1<(2:Nat) ^ l.length - x∧(l=l∧((if ordE l=(0:Int) then clI l else[])=if ordE l=(0:Int) then clI l else[])∧(↑(widL (clI l) x):Int)=(↑(widL (clI l) x_1):Int)∧(1:Int)*(2:Int) ^ (↑(if ordE l=(0:Int) then clI l else[]).length:Int).toNat=(1:Int)*(2:Int) ^ (↑(if ordE l=(0:Int) then clI l else[]).length:Int).toNat∧(↑x:Int)+(1:Int)=(↑x_1:Int)∧True)∧True∧tabD=tabD∧True))∧(decide ((↑x:Int)<(1:Int)*(2:Int) ^ (↑(if ordE l=(0:Int) then clI l else[]).length:Int).toNat)=false→k [Dat.mk (I) (↑(widL (clI l) x):Int),Dat.mk (Ty.err (53:Nat)) (0:Int)]))):=by kernel_rfl
theorem vcRanks(t:Tr)(k:List Dat→Prop):vcF ⟨H.Ez,[(26,H.cBitsF),(4,cBehind)],glT,[(44,cBits)],[]⟩ (anRanks t) (Tryd.f9.body.getD .skip) Tryd.f9.ntmps [(.tmp 2,.sl I),(.tmp 3,tErr)] [⟨.sl I,aftI t⟩] k=(
 True∧((!decide (ordE (aftI t)=(0:Int)))=true→k [Dat.mk (I).sl [],Dat.mk (Ty.err (53:Nat)) (ordE (aftI t))])∧((!decide (ordE (aftI t)=(0:Int)))=false→(0:Int)≤(↑(if ordE (aftI t)=(0:Int) then clI (aftI t) else[]).length:Int)∧(↑(if ordE (aftI t)=(0:Int) then clI (aftI t) else[]).length:Int)≤(↑(if ordE (aftI t)=(0:Int) then clI (aftI t) else[]).length:Int)∧(↑(if ordE (aftI t)=(0:Int) then clI (aftI t) else[]).length:Int)≤(1000000000:Int)∧(∃ (x:Nat×List Int),(x.fst≤t.snd.fst.length∧rkP t x.snd fun (x_1 x_2:Nat)=>(0:Nat)<x.fst)∧(aftI t=aftI t∧((if ordE (aftI t)=(0:Int) then clI (aftI t) else[])=if ordE (aftI t)=(0:Int) then clI (aftI t) else[])∧([]:List Nat)=[]∧(↑(if ordE (aftI t)=(0:Int) then clI (aftI t) else[]).length:Int)=(↑(if ordE (aftI t)=(0:Int) then clI (aftI t) else[]).length:Int)∧(0:Int)=(↑x.fst:Int)∧True)∧(((3:Nat)=(3:Nat)∧List.replicate (↑(if ordE (aftI t)=(0:Int) then clI (aftI t) else[]).length:Int).toNat (0:Int)=x.snd)∧(True∧True)∧True)∧tabD=tabD∧True)∧∀ (x:Nat×List Int),(x.fst≤t.snd.fst.length∧rkP t x.snd fun (x_1 x_2:Nat)=>(0:Nat)<x.fst)→(decide ((↑x.fst:Int)<(↑(if ordE (aftI t)=(0:Int) then clI (aftI t) else[]).length:Int))=true→(∃ (x_1:Nat×List Int),(x_1.fst≤t.snd.fst.length∧rkI t x_1.snd x_1.fst [])∧(aftI t=aftI t∧((if ordE (aftI t)=(0:Int) then clI (aftI t) else[])=if ordE (aftI t)=(0:Int) then clI (aftI t) else[])∧([]:List Nat)=[]∧(↑(if ordE (aftI t)=(0:Int) then clI (aftI t) else[]).length:Int)=(↑(if ordE (aftI t)=(0:Int) then clI (aftI t) else[]).length:Int)∧(↑x.fst:Int)=(↑x.fst:Int)∧((if ordE (aftI t)=(0:Int) then clI (aftI t) else[])=if ordE (aftI t)=(0:Int) then clI (aftI t) else[])∧(↑(if ordE (aftI t)=(0:Int) then clI (aftI t) else[]).length:Int)=(↑(if ordE (aftI t)=(0:Int) then clI (aftI t) else[]).length:Int)∧(0:Int)=(↑x_1.fst:Int)∧True)∧(((3:Nat)=(3:Nat)∧x.snd=x_1.snd)∧(True∧True)∧True)∧tabD=tabD∧True)∧∀ (x_1:Nat×List Int),x_1.fst≤t.snd.fst.length∧rkI t x_1.snd x_1.fst []→(decide ((↑x_1.fst:Int)<(↑(if ordE (aftI t)=(0:Int) then clI (aftI t) else[]).length:Int))=true→(0:Int)≤(↑x_1.fst:Int)∧(↑x_1.fst:Int)<(↑(if ordE (aftI t)=(0:Int) then clI (aftI t) else[]).length:Int)∧True∧(∃ (x_2:List Int×List Int),(x_2.snd.length=t.snd.fst.length∧(∀ (j:Nat),j<t.snd.fst.length→(0:Int)≤x_2.snd.getD j (0:Int)∧x_2.snd.getD j (0:Int)≤pl t.snd.fst j - (1:Int))∧∀ (j:Nat),j<t.snd.fst.length→∀ (k:Nat),(bB t.snd.fst j).testBit k=true→k<(↑x_1.fst:Int).toNat∨k=(↑x_1.fst:Int).toNat∧(↑j:Int)∈x_2.fst→pl t.snd.fst k≤x_2.snd.getD j (0:Int))∧x_2.fst=[]∧(aftI t=aftI t∧((if ordE (aftI t)=(0:Int) then clI (aftI t) else[])=if ordE (aftI t)=(0:Int) then clI (aftI t) else[])∧([]:List Nat)=[]∧([]:List Nat)=[]∧(if ordE (aftI t)=(0:Int) then clI (aftI t) else[]).getD (↑x_1.fst:Int).toNat (0:Int)=(if ordE (aftI t)=(0:Int) then clI (aftI t) else[]).getD (↑x_1.fst:Int).toNat (0:Int)∧(↑(if ordE (aftI t)=(0:Int) then clI (aftI t) else[]).length:Int)=(↑(if ordE (aftI t)=(0:Int) then clI (aftI t) else[]).length:Int)∧(↑x.fst:Int)=(↑x.fst:Int)∧((if ordE (aftI t)=(0:Int) then clI (aftI t) else[])=if ordE (aftI t)=(0:Int) then clI (aftI t) else[])∧(↑(if ordE (aftI t)=(0:Int) then clI (aftI t) else[]).length:Int)=(↑(if ordE (aftI t)=(0:Int) then clI (aftI t) else[]).length:Int)∧(↑x_1.fst:Int)=(↑x_1.fst:Int)∧some (some ((if ordE (aftI t)=(0:Int) then clI (aftI t) else[]).getD (↑x_1.fst:Int).toNat (0:Int)),())=some (some ((if ordE (aftI t)=(0:Int) then clI (aftI t) else[]).getD (↑x_1.fst:Int).toNat (0:Int)),())∧True)∧(((3:Nat)=(3:Nat)∧x_1.snd=x_2.snd)∧(True∧True)∧((3:Nat)=(3:Nat)∧(↑x_1.fst:Int)=(↑x_1.fst:Int))∧True)∧tabD=tabD∧True)∧(∀ (x:List Int×List Int),(x.snd.length=t.snd.fst.length∧(∀ (j:Nat),j<t.snd.fst.length→(0:Int)≤x.snd.getD j (0:Int)∧x.snd.getD j (0:Int)≤pl t.snd.fst j - (1:Int))∧∀ (j:Nat),j<t.snd.fst.length→∀ (k:Nat),(bB t.snd.fst j).testBit k=true→k<(↑x_1.fst:Int).toNat∨k=(↑x_1.fst:Int).toNat∧(↑j:Int)∈x.fst→pl t.snd.fst k≤x.snd.getD j (0:Int))→some (some ((if ordE (aftI t)=(0:Int) then clI (aftI t) else[]).getD (↑x_1.fst:Int).toNat (0:Int)),())=some (some ((if ordE (aftI t)=(0:Int) then clI (aftI t) else[]).getD (↑x_1.fst:Int).toNat (0:Int)),()))∧(∀ (x_2:List Int×List Int) (y:Int) (rest:List Int),(x_2.snd.length=t.snd.fst.length∧(∀ (j:Nat),j<t.snd.fst.length→(0:Int)≤x_2.snd.getD j (0:Int)∧x_2.snd.getD j (0:Int)≤pl t.snd.fst j - (1:Int))∧∀ (j:Nat),j<t.snd.fst.length→∀ (k:Nat),(bB t.snd.fst j).testBit k=true→k<(↑x_1.fst:Int).toNat∨k=(↑x_1.fst:Int).toNat∧(↑j:Int)∈x_2.fst→pl t.snd.fst k≤x_2.snd.getD j (0:Int))→bitsOf ((if ordE (aftI t)=(0:Int) then clI (aftI t) else[]).getD (↑x_1.fst:Int).toNat (0:Int))=x_2.fst++y::rest→((0:Int)≤y∧y<(↑x_2.snd.length:Int)∧(0:Int)≤(↑x_1.fst:Int)∧(↑x_1.fst:Int)<(↑x_2.snd.length:Int)∧inK IntKind.i64 (x_2.snd.getD (↑x_1.fst:Int).toNat (0:Int)+(1:Int))∧(0:Int)≤y∧y<(↑x_2.snd.length:Int)∧True)∧∃ (x_3:List Int×List Int),(x_3.snd.length=t.snd.fst.length∧(∀ (j:Nat),j<t.snd.fst.length→(0:Int)≤x_3.snd.getD j (0:Int)∧x_3.snd.getD j (0:Int)≤pl t.snd.fst j - (1:Int))∧∀ (j:Nat),j<t.snd.fst.length→∀ (k:Nat),(bB t.snd.fst j).testBit k=true→k<(↑x_1.fst:Int).toNat∨k=(↑x_1.fst:Int).toNat∧(↑j:Int)∈x_3.fst→pl t.snd.fst k≤x_3.snd.getD j (0:Int))∧x_3.fst=x_2.fst++[y]∧(aftI t=aftI t∧((if ordE (aftI t)=(0:Int) then clI (aftI t) else[])=if ordE (aftI t)=(0:Int) then clI (aftI t) else[])∧([]:List Nat)=[]∧([]:List Nat)=[]∧(if ordE (aftI t)=(0:Int) then clI (aftI t) else[]).getD (↑x_1.fst:Int).toNat (0:Int)=(if ordE (aftI t)=(0:Int) then clI (aftI t) else[]).getD (↑x_1.fst:Int).toNat (0:Int)∧(↑(if ordE (aftI t)=(0:Int) then clI (aftI t) else[]).length:Int)=(↑(if ordE (aftI t)=(0:Int) then clI (aftI t) else[]).length:Int)∧(↑x.fst:Int)=(↑x.fst:Int)∧((if ordE (aftI t)=(0:Int) then clI (aftI t) else[])=if ordE (aftI t)=(0:Int) then clI (aftI t) else[])∧(↑(if ordE (aftI t)=(0:Int) then clI (aftI t) else[]).length:Int)=(↑(if ordE (aftI t)=(0:Int) then clI (aftI t) else[]).length:Int)∧(↑x_1.fst:Int)=(↑x_1.fst:Int)∧some (some ((if ordE (aftI t)=(0:Int) then clI (aftI t) else[]).getD (↑x_1.fst:Int).toNat (0:Int)),())=some (some ((if ordE (aftI t)=(0:Int) then clI (aftI t) else[]).getD (↑x_1.fst:Int).toNat (0:Int)),())∧True)∧(((3:Nat)=(3:Nat)∧x_2.snd.set y.toNat (max (x_2.snd.getD y.toNat (0:Int)) (x_2.snd.getD (↑x_1.fst:Int).toNat (0:Int)+(1:Int)))=x_3.snd)∧(True∧True)∧((3:Nat)=(3:Nat)∧(↑x_1.fst:Int)=(↑x_1.fst:Int))∧True)∧tabD=tabD∧True)∧∀ (x_2:List Int×List Int),(x_2.snd.length=t.snd.fst.length∧(∀ (j:Nat),j<t.snd.fst.length→(0:Int)≤x_2.snd.getD j (0:Int)∧x_2.snd.getD j (0:Int)≤pl t.snd.fst j - (1:Int))∧∀ (j:Nat),j<t.snd.fst.length→∀ (k:Nat),(bB t.snd.fst j).testBit k=true→k<(↑x_1.fst:Int).toNat∨k=(↑x_1.fst:Int).toNat∧(↑j:Int)∈x_2.fst→pl t.snd.fst k≤x_2.snd.getD j (0:Int))→x_2.fst=bitsOf ((if ordE (aftI t)=(0:Int) then clI (aftI t) else[]).getD (↑x_1.fst:Int).toNat (0:Int))→inK IntKind.i64 ((↑x_1.fst:Int)+(1:Int))∧∃ (x_3:Nat×List Int),(x_3.fst≤t.snd.fst.length∧rkI t x_3.snd x_3.fst [])∧t.snd.fst.length - x_3.fst<t.snd.fst.length - x_1.fst∧(aftI t=aftI t∧((if ordE (aftI t)=(0:Int) then clI (aftI t) else[])=if ordE (aftI t)=(0:Int) then clI (aftI t) else[])∧([]:List Nat)=[]∧(↑(if ordE (aftI t)=(0:Int) then clI (aftI t) else[]).length:Int)=(↑(if ordE (aftI t)=(0:Int) then clI (aftI t) else[]).length:Int)∧(↑x.fst:Int)=(↑x.fst:Int)∧((if ordE (aftI t)=(0:Int) then clI (aftI t) else[])=if ordE (aftI t)=(0:Int) then clI (aftI t) else[])∧(↑(if ordE (aftI t)=(0:Int) then clI (aftI t) else[]).length:Int)=(↑(if ordE (aftI t)=(0:Int) then clI (aftI t) else[]).length:Int)∧(↑x_1.fst:Int)+(1:Int)=(↑x_3.fst:Int)∧True)∧(((3:Nat)=(3:Nat)∧x_2.snd=x_3.snd)∧(True∧True)∧True)∧tabD=tabD∧True)∧(decide ((↑x_1.fst:Int)<(↑(if ordE (aftI t)=(0:Int) then clI (aftI t) else[]).length:Int))=false→inK IntKind.i64 ((↑x.fst:Int)+(1:Int))∧∃ (x_2:Nat×List Int),(x_2.fst≤t.snd.fst.length∧rkP t x_2.snd fun (x x_3:Nat)=>(0:Nat)<x_2.fst)∧t.snd.fst.length - x_2.fst<t.snd.fst.length - x.fst∧(aftI t=aftI t∧((if ordE (aftI t)=(0:Int) then clI (aftI t) else[])=if ordE (aftI t)=(0:Int) then clI (aftI t) else[])∧([]:List Nat)=[]∧(↑(if ordE (aftI t)=(0:Int) then clI (aftI t) else[]).length:Int)=(↑(if ordE (aftI t)=(0:Int) then clI (aftI t) else[]).length:Int)∧(↑x.fst:Int)+(1:Int)=(↑x_2.fst:Int)∧True)∧(((3:Nat)=(3:Nat)∧x_1.snd=x_2.snd)∧(True∧True)∧True)∧tabD=tabD∧True))∧(decide ((↑x.fst:Int)<(↑(if ordE (aftI t)=(0:Int) then clI (aftI t) else[]).length:Int))=false→k [Dat.mk (I).sl x.snd,Dat.mk (Ty.err (53:Nat)) (0:Int)]))):=by kernel_rfl
theorem vcDown(l:List Int)(k:List Dat→Prop):vcF ⟨H.Ez,[(26,H.cBitsF),(27,cTurned)],glT,[(44,cBits)],[]⟩ (anDown l) (Tryd.f11.body.getD .skip) Tryd.f11.ntmps [(.tmp 2,I),(.tmp 3,tErr)] [⟨.sl I,l⟩] k=(
 True∧((!decide (ordE l=(0:Int)))=true→k [Dat.mk (I) (0:Int),Dat.mk (Ty.err (53:Nat)) (ordE l)])∧((!decide (ordE l=(0:Int)))=false→(0:Int)≤(↑(if ordE l=(0:Int) then castL (tuL (clL (natL l)) l.length) else[]).length:Int)∧(↑(if ordE l=(0:Int) then castL (tuL (clL (natL l)) l.length) else[]).length:Int)<(64:Int)∧IntKind.i64.bits=(64:Nat)∧inK IntKind.i64 ((1:Int)*(2:Int) ^ (↑(if ordE l=(0:Int) then castL (tuL (clL (natL l)) l.length) else[]).length:Int).toNat)∧(∃ (x:Nat),(x≤(2:Nat) ^ l.length∧ordE l=(0:Int))∧(l=l∧([]:List Nat)=[]∧(0:Int)=(↑(dwnN (preI l) x):Int)∧(1:Int)*(2:Int) ^ (↑(if ordE l=(0:Int) then castL (tuL (clL (natL l)) l.length) else[]).length:Int).toNat=(1:Int)*(2:Int) ^ (↑(if ordE l=(0:Int) then castL (tuL (clL (natL l)) l.length) else[]).length:Int).toNat∧(0:Int)=(↑x:Int)∧True)∧(((25:Nat)=(25:Nat)∧(if ordE l=(0:Int) then castL (tuL (clL (natL l)) l.length) else[])=if ordE l=(0:Int) then castL (tuL (clL (natL l)) l.length) else[])∧True)∧tabD=tabD∧True)∧∀ (x:Nat),x≤(2:Nat) ^ l.length∧ordE l=(0:Int)→(decide ((↑x:Int)<(1:Int)*(2:Int) ^ (↑(if ordE l=(0:Int) then castL (tuL (clL (natL l)) l.length) else[]).length:Int).toNat)=true→True∧(∃ (x_1:List Int),dwnB (preI l) (↑x:Int) x_1=true∧x_1=[]∧(l=l∧([]:List Nat)=[]∧(↑(dwnN (preI l) x):Int)=(↑(dwnN (preI l) x):Int)∧([]:List Nat)=[]∧(1:Int)*(2:Int) ^ (↑(if ordE l=(0:Int) then castL (tuL (clL (natL l)) l.length) else[]).length:Int).toNat=(1:Int)*(2:Int) ^ (↑(if ordE l=(0:Int) then castL (tuL (clL (natL l)) l.length) else[]).length:Int).toNat∧(↑x:Int)=(↑x:Int)∧some (some (↑x:Int),())=some (some (↑x:Int),())∧True)∧(((25:Nat)=(25:Nat)∧(if ordE l=(0:Int) then castL (tuL (clL (natL l)) l.length) else[])=if ordE l=(0:Int) then castL (tuL (clL (natL l)) l.length) else[])∧((3:Nat)=(3:Nat)∧(↑x:Int)=(↑x:Int))∧True)∧tabD=tabD∧True)∧(∀ (x_1:List Int),dwnB (preI l) (↑x:Int) x_1=true→some (some (↑x:Int),())=some (some (↑x:Int),()))∧(∀ (x_1:List Int) (y:Int) (rest:List Int),dwnB (preI l) (↑x:Int) x_1=true→bitsOf (↑x:Int)=x_1++y::rest→((0:Int)≤y∧y<(↑(if ordE l=(0:Int) then castL (tuL (clL (natL l)) l.length) else[]).length:Int)∧(0:Int)≤(if ordE l=(0:Int) then castL (tuL (clL (natL l)) l.length) else[]).getD y.toNat (0:Int)∧(0:Int)≤(↑x:Int)∧True)∧((!decide ((↑(((if ordE l=(0:Int) then castL (tuL (clL (natL l)) l.length) else[]).getD y.toNat (0:Int)).toNat ^^^ ((if ordE l=(0:Int) then castL (tuL (clL (natL l)) l.length) else[]).getD y.toNat (0:Int)).toNat &&& (↑x:Int).toNat):Int)=(0:Int)))=true→inK IntKind.i64 ((↑x:Int)+(1:Int))∧∃ (x_2:Nat),(x_2≤(2:Nat) ^ l.length∧ordE l=(0:Int))∧(2:Nat) ^ l.length - x_2<(2:Nat) ^ l.length - x∧(l=l∧([]:List Nat)=[]∧(↑(dwnN (preI l) x):Int)=(↑(dwnN (preI l) x_2):Int)∧(1:Int)*(2:Int) ^ (↑(if ordE l=(0:Int) then castL (tuL (clL (natL l)) l.length) else[]).length:Int).toNat=(1:Int)*(2:Int) ^ (↑(if ordE l=(0:Int) then castL (tuL (clL (natL l)) l.length) else[]).length:Int).toNat∧(↑x:Int)+(1:Int)=(↑x_2:Int)∧True)∧(((25:Nat)=(25:Nat)∧(if ordE l=(0:Int) then castL (tuL (clL (natL l)) l.length) else[])=if ordE l=(0:Int) then castL (tuL (clL (natL l)) l.length) else[])∧True)∧tabD=tabD∧True)∧((!decide ((↑(((if ordE l=(0:Int) then castL (tuL (clL (natL l)) l.length) else[]).getD y.toNat (0:Int)).toNat ^^^ ((if ordE l=(0:Int) then castL (tuL (clL (natL l)) l.length) else[]).getD y.toNat (0:Int)).toNat &&& (↑x:Int).toNat):Int)=(0:Int)))=false→∃ (x_2:List Int),dwnB (preI l) (↑x:Int) x_2=true∧x_2=x_1++[y]∧(l=l∧([]:List Nat)=[]∧(↑(dwnN (preI l) x):Int)=(↑(dwnN (preI l) x):Int)∧([]:List Nat)=[]∧(1:Int)*(2:Int) ^ (↑(if ordE l=(0:Int) then castL (tuL (clL (natL l)) l.length) else[]).length:Int).toNat=(1:Int)*(2:Int) ^ (↑(if ordE l=(0:Int) then castL (tuL (clL (natL l)) l.length) else[]).length:Int).toNat∧(↑x:Int)=(↑x:Int)∧some (some (↑x:Int),())=some (some (↑x:Int),())∧True)∧(((25:Nat)=(25:Nat)∧(if ordE l=(0:Int) then castL (tuL (clL (natL l)) l.length) else[])=if ordE l=(0:Int) then castL (tuL (clL (natL l)) l.length) else[])∧((3:Nat)=(3:Nat)∧(↑x:Int)=(↑x:Int))∧True)∧tabD=tabD∧True))∧∀ (x_1:List Int),dwnB (preI l) (↑x:Int) x_1=true→x_1=bitsOf (↑x:Int)→inK IntKind.i64 ((↑(dwnN (preI l) x):Int)+(1:Int))∧inK IntKind.i64 ((↑x:Int)+(1:Int))∧∃ (x_2:Nat),(x_2≤(2:Nat) ^ l.length∧ordE l=(0:Int))∧(2:Nat) ^ l.length - x_2<(2:Nat) ^ l.length - x∧(l=l∧([]:List Nat)=[]∧(↑(dwnN (preI l) x):Int)+(1:Int)=(↑(dwnN (preI l) x_2):Int)∧(1:Int)*(2:Int) ^ (↑(if ordE l=(0:Int) then castL (tuL (clL (natL l)) l.length) else[]).length:Int).toNat=(1:Int)*(2:Int) ^ (↑(if ordE l=(0:Int) then castL (tuL (clL (natL l)) l.length) else[]).length:Int).toNat∧(↑x:Int)+(1:Int)=(↑x_2:Int)∧True)∧(((25:Nat)=(25:Nat)∧(if ordE l=(0:Int) then castL (tuL (clL (natL l)) l.length) else[])=if ordE l=(0:Int) then castL (tuL (clL (natL l)) l.length) else[])∧True)∧tabD=tabD∧True)∧(decide ((↑x:Int)<(1:Int)*(2:Int) ^ (↑(if ordE l=(0:Int) then castL (tuL (clL (natL l)) l.length) else[]).length:Int).toNat)=false→k [Dat.mk (I) (↑(dwnN (preI l) x):Int),Dat.mk (Ty.err (53:Nat)) (0:Int)]))):=by kernel_rfl
theorem vcIsRow(t:Tr)(r:List Int)(k:List Dat→Prop):vcF ⟨Et,[(37,cTurned),(23,cWithin),(38,H.cHas)],glT,[],[]⟩ (anIsRow t r) (Tryd.f15.body.getD .skip) Tryd.f15.ntmps [(.tmp 4,.bool),(.tmp 5,tErr)] [⟨.sl I,aftI t⟩,⟨.sl I,r⟩] k=(
 True∧((!decide (ordE (aftI t)=(0:Int)))=true→k [Dat.mk Ty.bool false,Dat.mk (Ty.err (53:Nat)) (ordE (aftI t))])∧((!decide (ordE (aftI t)=(0:Int)))=false→((!decide ((↑r.length:Int)=(↑(if ordE (aftI t)=(0:Int) then castL (tuL (clL (natL (aftI t))) (aftI t).length) else[]).length:Int)))=true→(3:Int)≠(0:Int)∧k [Dat.mk Ty.bool false,Dat.mk (Ty.err (53:Nat)) (3:Int)])∧((!decide ((↑r.length:Int)=(↑(if ordE (aftI t)=(0:Int) then castL (tuL (clL (natL (aftI t))) (aftI t).length) else[]).length:Int)))=false→(∃ (x:Nat),(x≤r.length∧True)∧(aftI t=aftI t∧r=r∧((if ordE (aftI t)=(0:Int) then castL (tuL (clL (natL (aftI t))) (aftI t).length) else[])=if ordE (aftI t)=(0:Int) then castL (tuL (clL (natL (aftI t))) (aftI t).length) else[])∧(0:Int)=(↑(setN (List.take x r)):Int)∧r=r∧(↑r.length:Int)=(↑r.length:Int)∧(0:Int)=(↑x:Int)∧True)∧True∧tabD=tabD∧True)∧∀ (x:Nat),x≤r.length∧True→(decide ((↑x:Int)<(↑r.length:Int))=true→(0:Int)≤(↑x:Int)∧(↑x:Int)<(↑r.length:Int)∧inK IntKind.i64 ((↑(if ordE (aftI t)=(0:Int) then castL (tuL (clL (natL (aftI t))) (aftI t).length) else[]).length:Int) - (1:Int))∧True∧((!inB (r.getD (↑x:Int).toNat (0:Int)) (0:Int) ((↑(if ordE (aftI t)=(0:Int) then castL (tuL (clL (natL (aftI t))) (aftI t).length) else[]).length:Int) - (1:Int)))=true→(1:Int)≠(0:Int)∧k [Dat.mk Ty.bool false,Dat.mk (Ty.err (53:Nat)) (1:Int)])∧((!inB (r.getD (↑x:Int).toNat (0:Int)) (0:Int) ((↑(if ordE (aftI t)=(0:Int) then castL (tuL (clL (natL (aftI t))) (aftI t).length) else[]).length:Int) - (1:Int)))=false→(((0:Int)≤(↑(setN (List.take x r)):Int)∧(0:Int)≤r.getD (↑x:Int).toNat (0:Int)∧r.getD (↑x:Int).toNat (0:Int)<(64:Int))∧True)∧((↑(setN (List.take x r)):Int).toNat.testBit (r.getD (↑x:Int).toNat (0:Int)).toNat=true→k [Dat.mk Ty.bool false,Dat.mk (Ty.err (53:Nat)) (0:Int)])∧((↑(setN (List.take x r)):Int).toNat.testBit (r.getD (↑x:Int).toNat (0:Int)).toNat=false→(0:Int)≤r.getD (↑x:Int).toNat (0:Int)∧r.getD (↑x:Int).toNat (0:Int)<(↑(if ordE (aftI t)=(0:Int) then castL (tuL (clL (natL (aftI t))) (aftI t).length) else[]).length:Int)∧(0:Int)≤(if ordE (aftI t)=(0:Int) then castL (tuL (clL (natL (aftI t))) (aftI t).length) else[]).getD (r.getD (↑x:Int).toNat (0:Int)).toNat (0:Int)∧(0:Int)≤(↑(setN (List.take x r)):Int)∧((!decide ((↑(((if ordE (aftI t)=(0:Int) then castL (tuL (clL (natL (aftI t))) (aftI t).length) else[]).getD (r.getD (↑x:Int).toNat (0:Int)).toNat (0:Int)).toNat ^^^ ((if ordE (aftI t)=(0:Int) then castL (tuL (clL (natL (aftI t))) (aftI t).length) else[]).getD (r.getD (↑x:Int).toNat (0:Int)).toNat (0:Int)).toNat &&& (↑(setN (List.take x r)):Int).toNat):Int)=(0:Int)))=true→k [Dat.mk Ty.bool false,Dat.mk (Ty.err (53:Nat)) (0:Int)])∧((!decide ((↑(((if ordE (aftI t)=(0:Int) then castL (tuL (clL (natL (aftI t))) (aftI t).length) else[]).getD (r.getD (↑x:Int).toNat (0:Int)).toNat (0:Int)).toNat ^^^ ((if ordE (aftI t)=(0:Int) then castL (tuL (clL (natL (aftI t))) (aftI t).length) else[]).getD (r.getD (↑x:Int).toNat (0:Int)).toNat (0:Int)).toNat &&& (↑(setN (List.take x r)):Int).toNat):Int)=(0:Int)))=false→(0:Int)≤r.getD (↑x:Int).toNat (0:Int)∧r.getD (↑x:Int).toNat (0:Int)<(64:Int)∧IntKind.i64.bits=(64:Nat)∧inK IntKind.i64 ((1:Int)*(2:Int) ^ (r.getD (↑x:Int).toNat (0:Int)).toNat)∧(0:Int)≤(↑(setN (List.take x r)):Int)∧(0:Int)≤(1:Int)*(2:Int) ^ (r.getD (↑x:Int).toNat (0:Int)).toNat∧inK IntKind.i64 ((↑x:Int)+(1:Int))∧∃ (x_1:Nat),(x_1≤r.length∧True)∧r.length - x_1<r.length - x∧(aftI t=aftI t∧r=r∧((if ordE (aftI t)=(0:Int) then castL (tuL (clL (natL (aftI t))) (aftI t).length) else[])=if ordE (aftI t)=(0:Int) then castL (tuL (clL (natL (aftI t))) (aftI t).length) else[])∧(↑((↑(setN (List.take x r)):Int).toNat ||| ((1:Int)*(2:Int) ^ (r.getD (↑x:Int).toNat (0:Int)).toNat).toNat):Int)=(↑(setN (List.take x_1 r)):Int)∧r=r∧(↑r.length:Int)=(↑r.length:Int)∧(↑x:Int)+(1:Int)=(↑x_1:Int)∧True)∧True∧tabD=tabD∧True))))∧(decide ((↑x:Int)<(↑r.length:Int))=false→k [Dat.mk Ty.bool true,Dat.mk (Ty.err (53:Nat)) (0:Int)])))):=by kernel_rfl
end Go.Proofs.YtfmiecbmikncpaaDoor

namespace Go.Proofs.YtfmiecbmikncpaaDoor.Mp
open Go.RowKit Go.Shelf
attribute [local go_sem] Oper.semAt_some
def pA(x:Int):Int:=IntKind.u64.wrap (bits .and .u64 (x/2) 6148914691236517205+bits .and .u64 x 6148914691236517205)
def pB(x:Int):Int:=IntKind.u64.wrap (bits .and .u64 (x/4) 3689348814741910323+bits .and .u64 x 3689348814741910323)
def pC(x:Int):Int:=bits .and .u64 (IntKind.u64.wrap (x/16+x)) 1085102592571150095
def pD(x:Int):Int:=IntKind.u64.wrap (x+x/256)
def pE(x:Int):Int:=IntKind.u64.wrap (x+x/65536)
def pF(x:Int):Int:=IntKind.u64.wrap (x+x/4294967296)
def popE(x:Int):Int:=bits .and .i64 (wrap64 (pF (pE (pD (pC (pB (pA x))))))) 127
theorem popE_two:∀ a:Fin 65,∀ b:Fin 64,popE ((64*a.val+b.val:Nat):Int)=pop ((64*a.val+b.val:Nat):Int):=by decide +kernel
theorem many(n:Nat)(hn:n<4097)(w:World):Calls Tryd.prog 24 #[.int .i64 (n:Int)] w fun e w'=>e = .returned (.int .i64 (pop (n:Int)))∧w'=w:=by
 have hw:IntKind.u64.wrap (n:Int)=(n:Int):=by rw[IntKind.wrap_u64];omega
 have he:popE (n:Int)=pop (n:Int):=by
   have:=popE_two ⟨n/64,by omega⟩ ⟨n%64,by omega⟩
   rw[show 64*(n/64)+n%64=n by omega] at this
   exact this
 go_enter Tryd.func24,Tryd.ntmps24
 go_wp2
 go_ret
 refine⟨?_,rfl⟩
 rw[← he]
 simp[popE,pA,pB,pC,pD,pE,pF]
end Go.Proofs.YtfmiecbmikncpaaDoor.Mp

namespace Go.Proofs.YtfmiecbmikncpaaDoor
open Go.Vc
theorem okAhead:PlainOk Tryd.prog glT 37 cTurned:=by
 refine plain_of (CxOk.mk' Et_ok rfl mixed (gl:=glT) (GOk.cons okTurned Tryd.func27 (by kernel_rfl) (by kernel_rfl) GOk.nil) GoOk.nil noIt) Tryd.func37 (c:=Tryd.f37.body.getD .skip) (rvs:=[(.tmp 2,.sl I),(.tmp 3,tErr)]) (by kernel_rfl) (by kernel_rfl) (by kernel_rfl) ?_
 intro ds k ⟨hp,hk⟩ hwf
 obtain⟨l,rfl,-⟩:=dest1 hp
 refine⟨[joinAll],?_⟩
 rw[vcAhead]
 exact⟨trivial,hk⟩
theorem popN_fuel:∀ (f g a:Nat),a≤f→a≤g→popN f a=popN g a:=by
 intro f
 induction f with
 | zero =>
   intro g a h1 h2
   have:a=0:=by omega
   subst this
   cases g<;>simp[popN]
 | succ f ih =>
   intro g a h1 h2
   cases g with
   | zero =>
     have:a=0:=by omega
     subst this
     simp[popN]
   | succ g =>
     unfold popN
     by_cases h0:a=0
     · rw[if_pos h0,if_pos h0]
     · rw[if_neg h0,if_neg h0,ih g (a/2) (by omega) (by omega)]
theorem popN_le:∀ f a:Nat,popN f a≤a:=by
 intro f
 induction f with
 | zero=>intro a;exact Nat.zero_le _
 | succ f ih =>
   intro a
   unfold popN
   by_cases h0:a=0
   · rw[if_pos h0];omega
   · rw[if_neg h0]
     have:=ih (a/2)
     omega
theorem pop_pos{a:Int}(h:0<a):pop a=a.tmod 2+pop (a.tdiv 2):=by
 obtain⟨n,rfl⟩:=Int.eq_ofNat_of_zero_le (Int.le_of_lt h)
 have e1:((n:Int).tdiv 2)=((n/2:Nat):Int):=(Int.ofNat_tdiv n 2).symm
 have e2:(n:Int).tmod 2=((n%2:Nat):Int):=(Int.ofNat_tmod n 2).symm
 rw[e1,e2]
 unfold pop
 simp only[Int.toNat_natCast]
 obtain⟨m,rfl⟩:∃ m,n=m+1:=⟨n - 1,by omega⟩
 have:popN (m+1) (m+1)=(m+1)%2+popN m ((m+1)/2):=by
   rw[popN,if_neg (by omega)]
 rw[this,popN_fuel m ((m+1)/2) ((m+1)/2) (by omega) (Nat.le_refl _)]
 exact Int.natCast_add ..
theorem pop_neg{a:Int}(h:¬ 0<a):pop a=0:=by
 unfold pop
 have:a.toNat=0:=by omega
 rw[this];rfl
theorem pop_nonneg(a:Int):0≤pop a:=Int.natCast_nonneg _
theorem pop_le{a:Int}(h:inK .i64 a):pop a≤9223372036854775807:=by
 rw[inK_i64] at h
 have:=popN_le a.toNat a.toNat
 unfold pop
 omega
theorem many_vc(a:Int)(k:List Dat→Prop)(ha:inK .i64 a)(hk:k [⟨I,pop a⟩]):vcF ⟨Et,[],glT,[],[]⟩ (anMany a) (Tryd.f14.body.getD .skip) Tryd.f14.ntmps [(.tmp 2,I)] [⟨I,a⟩] k:=by
 rw[vcMany]
 have ret:∀ x:Int,pop a=x→k [⟨I,x⟩]:=by rintro _ rfl;exact hk
 have hpa:=pop_le ha
 simp only[decide_eq_true_eq,decide_eq_false_iff_not,and_true,true_and]
 refine⟨⟨(a,0),⟨(show pop a=pop a+0 by omega),Int.le_refl _,ha⟩,rfl,rfl⟩,?_⟩
 rintro⟨x,n⟩ ⟨h1,h2,h3⟩
 have h1:pop a=pop x+n:=h1
 have h2:0≤n:=h2
 have h3:inK .i64 x:=h3
 have h20:¬ (2:Int)=0:=by decide
 dsimp only
 refine⟨fun hx => ?_,fun hx=>ret _ (by rw[h1,pop_neg hx,Int.zero_add])⟩
 have hs:=pop_pos hx
 have hh:=half_in h3
 have hq:=pop_nonneg (x.tdiv 2)
 have hm:0≤x.tmod 2:=Int.tmod_nonneg 2 (by omega)
 have hlt:(x.tdiv 2).toNat<x.toNat:=by
   obtain⟨n,hn⟩:=Int.eq_ofNat_of_zero_le (Int.le_of_lt hx)
   have e1:(x.tdiv 2)=((n/2:Nat):Int):=by rw[hn];simp
   rw[e1];omega
 exact⟨h20,hh.1,inK_i64.2 (by omega),h20,hh.2,(x.tdiv 2,n+x.tmod 2),⟨(show pop a=pop (x.tdiv 2)+(n+x.tmod 2) by omega),(show 0≤n+x.tmod 2 by omega),hh.2⟩,hlt,rfl,rfl⟩
theorem okManyR:PlainOk Tryd.prog glT 14 cMany:=by
 refine plain_of (CxOk.mk' Et_ok rfl mixed (gl:=glT) GOk.nil GoOk.nil noIt) Tryd.func14 (c:=Tryd.f14.body.getD .skip) (rvs:=[(.tmp 2,I)]) (by kernel_rfl) (by kernel_rfl) (by kernel_rfl) ?_
 intro ds k ⟨hp,hk⟩ hwf
 obtain⟨a,rfl,-⟩:=dest1 hp
 have hk:k [⟨I,pop a⟩]:=hk
 exact⟨anMany a,many_vc a k (wf1 hwf) hk⟩
theorem okPop:PlainOk Tryd.prog glT 24 cPop:=by
 intro ds k hs w R0 vals hR0 hG hD
 obtain⟨hp,hk⟩:=hs
 obtain⟨n,rfl,h0,h1⟩:=dest1 hp
 have hk:k [⟨I,pop n⟩]:=hk
 obtain⟨hl,hd⟩:=hD
 match vals,hl with
 | [v],_ =>
   have hv:v = .int .i64 n:=by
     have h:Ty.okV w R0 I n v:=hd 0 ⟨I,n⟩ v rfl rfl
     unfold Ty.okV at h
     simp only[Ty.agg,Bool.false_eq_true,if_false,Ty.ok] at h
     injection h.1
   subst hv
   obtain⟨m,rfl⟩:=Int.eq_ofNat_of_zero_le h0
   refine (show Calls Tryd.prog 24 #[.int .i64 (m:Int)] w _ from Mp.many m (by omega) w).mono fun e w' ⟨he,hw⟩ => ?_
   subst hw
   refine⟨Fr.refl _ _,[⟨I,pop (m:Int)⟩],_,he,by simpa using hk,?_⟩
   have hle:=popN_le m m
   show Ty.okV _ _ I (pop (m:Int)) _
   unfold Ty.okV
   simp only[Ty.agg,Bool.false_eq_true,if_false,Ty.ok]
   refine⟨trivial,inK_i64.2 ?_⟩
   unfold pop
   rw[Int.toNat_natCast]
   omega
open Go.Vc
theorem widL_succ(c:List Int)(m:Nat):widL c (m+1)=if (decide (pop (widL c m:Int)<pop (m:Int))&&sideB c (m:Int) (bitsOf (m:Int)))=true then m else widL c m:=by
 unfold widL;rw[List.range_succ,List.foldl_append];rfl
theorem widL_lt(c:List Int)(m:Nat):widL c m<m∨widL c m=0:=by
 induction m with
 | zero=>exact .inr rfl
 | succ m ih =>
   rw[widL_succ]
   split
   · exact .inl (by omega)
   · rcases ih with h | h
     · exact .inl (by omega)
     · exact .inr h
theorem bits_zero:bitsOf 0=[]:=by
 refine List.eq_nil_iff_forall_not_mem.2 fun y hy => ?_
 obtain⟨i,_,h⟩:=(H.bitsOf_mem (N:=0) (by decide) y).1 hy
 rw[Nat.zero_testBit] at h;cases h
theorem widL_side(c:List Int)(m:Nat):sideB c (widL c m:Int) (bitsOf (widL c m:Int))=true:=by
 induction m with
 | zero =>
   show sideB c ((0:Nat):Int) (bitsOf ((0:Nat):Int))=true
   rw[show ((0:Nat):Int)=0 from rfl,bits_zero];rfl
 | succ m ih =>
   rw[widL_succ]
   split
   · rename_i h
     rw[Bool.and_eq_true] at h
     exact h.2
   · exact ih
theorem pw_le{n:Nat}(h:n≤12):2 ^ n≤4096:=by
 have h1:2 ^ n≤2 ^ 12:=Nat.pow_le_pow_right (by decide) h
 exact h1
theorem wid_vc(l:List Int)(k:List Dat→Prop)(hk:k [⟨I,if ordE l=0 then (widL (clI l) (2 ^ l.length):Int) else 0⟩,⟨tErr,ordE l⟩]) :
   vcF ⟨Et,[(4,cBehind),(24,cPop),(25,cSide)],glT,[],[]⟩ (anWid l) (Tryd.f8.body.getD .skip) Tryd.f8.ntmps [(.tmp 2,I),(.tmp 3,tErr)] [⟨.sl I,l⟩] k:=by
 rw[vcWid]
 simp only[Bool.not_eq_true',Bool.not_eq_false',decide_eq_true_eq,decide_eq_false_iff_not,true_and,and_true,eq_self]
 refine⟨fun h => ?_,fun h => ?_⟩
 · rw[if_neg h] at hk;exact hk
 rw[if_pos h,h] at hk
 obtain⟨hm,hl⟩:=ord_ok h
 have hp:=pw_le hl
 simp only[if_pos h,clI_len,Int.toNat_natCast,pw_cast]
 have hin:inK IntKind.i64 ((2 ^ l.length:Nat):Int):=by rw[← pw_cast];exact pw_in hl
 have hpc:∀ x:Nat,(x:Int)<((2 ^ l.length:Nat):Int)→(x:Int)<(2:Int) ^ l.length:=fun x hx=>by rw[Int.natCast_pow] at hx;exact hx
 generalize 2 ^ l.length=N at *
 refine⟨by omega,by omega,rfl,hin,⟨0,⟨by omega,h⟩,rfl,rfl⟩,fun x hx=>⟨fun hlt => ?_,fun hge => ?_⟩⟩
 · have hw:=widL_lt (clI l) x
   have hs:=widL_succ (clI l) x
   have hi:inK IntKind.i64 ((x:Int)+1):=inK_i64.2 ⟨by omega,by omega⟩
   refine⟨⟨by omega,by omega⟩,⟨by omega,by omega⟩,fun h1=>⟨⟨⟨clI_msk hm,hl⟩,by omega,hpc x hlt⟩,fun h2=>⟨hi,x+1,⟨by omega,h⟩,by omega,?_,by omega⟩,fun h2=>⟨hi,x+1,⟨by omega,h⟩,by omega,?_,by omega⟩⟩,fun h1=>⟨hi,x+1,⟨by omega,h⟩,by omega,?_,by omega⟩⟩
   · rw[hs,if_pos];rw[h2,decide_eq_true h1];rfl
   · rw[hs,if_neg];rw[h2,Bool.and_false];decide
   · rw[hs,if_neg];rw[decide_eq_false h1,Bool.false_and];decide
 · rw[← show x=N by omega] at hk;exact hk
theorem okWid:PlainOk Tryd.prog glT 8 cWid:=by
 refine plain_of (CxOk.mk' Et_ok rfl mixed (gl:=glT) (GOk.cons okBehind Tryd.func4 (by kernel_rfl) (by kernel_rfl) (GOk.cons okPop Tryd.func24 (by kernel_rfl) (by kernel_rfl) (GOk.cons okSide Tryd.func25 (by kernel_rfl) (by kernel_rfl) GOk.nil))) GoOk.nil noIt) Tryd.func8 (c:=Tryd.f8.body.getD .skip) (rvs:=[(.tmp 2,I),(.tmp 3,tErr)]) (by kernel_rfl) (by kernel_rfl) (by kernel_rfl) ?_
 intro ds k ⟨hp,hk⟩ hwf
 obtain⟨l,rfl,-⟩:=dest1 hp
 exact⟨anWid l,wid_vc l k hk⟩
theorem dwnN_succ(c:List Int)(m:Nat):dwnN c (m+1)=dwnN c m+if dwnB c (m:Int) (bitsOf (m:Int))=true then 1 else 0:=by
 unfold dwnN
 rw[List.range_succ,List.filter_append,List.length_append,List.filter_cons]
 cases dwnB c (m:Int) (bitsOf (m:Int))<;>rfl
theorem dwnN_le(c:List Int)(m:Nat):dwnN c m≤m:=by
 unfold dwnN
 exact Nat.le_trans (List.length_filter_le _ _) (by simp)
theorem preI_len(l:List Int):(preI l).length=l.length:=by unfold preI;rw[castL_len,tuL_len,clL_len]
theorem preI_nonneg(l:List Int)(i:Nat):0≤(preI l).getD i 0:=by unfold preI;rw[castL_at];exact Int.natCast_nonneg _
theorem down_vc(l:List Int)(k:List Dat→Prop)(hk:k [⟨I,if ordE l=0 then (dwnN (preI l) (2 ^ l.length):Int) else 0⟩,⟨tErr,ordE l⟩]) :
   vcF ⟨H.Ez,[(26,H.cBitsF),(27,cTurned)],glT,[(44,cBits)],[]⟩ (anDown l) (Tryd.f11.body.getD .skip) Tryd.f11.ntmps [(.tmp 2,I),(.tmp 3,tErr)] [⟨.sl I,l⟩] k:=by
 rw[vcDown]
 simp only[Bool.not_eq_true',Bool.not_eq_false',decide_eq_true_eq,decide_eq_false_iff_not,true_and,and_true,eq_self]
 refine⟨fun h => ?_,fun h => ?_⟩
 · rw[if_neg h] at hk;exact hk
 rw[if_pos h,h] at hk
 obtain⟨hm,hl⟩:=ord_ok h
 have hp:=pw_le hl
 simp only[if_pos h,show castL (tuL (clL (natL l)) l.length)=preI l from rfl,preI_len,Int.toNat_natCast,pw_cast,Int.natCast_eq_zero]
 have hin:inK IntKind.i64 ((2 ^ l.length:Nat):Int):=by rw[← pw_cast];exact pw_in hl
 have hpc:∀ x:Nat,(x:Int)<((2 ^ l.length:Nat):Int)→(x:Int)<(2:Int) ^ l.length:=fun x hx=>by rw[Int.natCast_pow] at hx;exact hx
 have hpn:=preI_nonneg l
 generalize preI l=c at *
 generalize 2 ^ l.length=N at *
 refine⟨by omega,by omega,rfl,hin,⟨0,⟨by omega,h⟩,rfl,rfl⟩,fun x hx=>⟨fun hlt => ?_,fun hge => ?_⟩⟩
 · have hle:=dwnN_le c x
   have hs:=dwnN_succ c x
   have hi:inK IntKind.i64 ((x:Int)+1):=inK_i64.2 ⟨by omega,by omega⟩
   refine⟨⟨[],rfl,rfl⟩,fun _ _=>trivial,fun x1 y rest hb he => ?_,fun x1 hb he => ?_⟩
   · have hy:y∈bitsOf (x:Int):=by rw[he];exact List.mem_append_right _ List.mem_cons_self
     obtain⟨y0,y1,_⟩:=bits_lt hl (by omega) (hpc x hlt) hy
     refine⟨⟨y0,y1,hpn _,by omega⟩,fun hn=>⟨hi,x+1,⟨by omega,h⟩,by omega,?_,by omega⟩,fun hz=>⟨x1++[y],?_,rfl⟩⟩
     · have e:dwnB c (x:Int) (bitsOf (x:Int))=false:=by
         cases e:dwnB c (x:Int) (bitsOf (x:Int)) with
         | false=>rfl
         | true=>exact absurd (of_decide_eq_true (List.all_eq_true.1 e y hy)) hn
       rw[hs,e];rfl
     · unfold dwnB at hb ⊢
       rw[List.all_append,hb,List.all_cons,List.all_nil,Int.toNat_natCast,decide_eq_true hz];rfl
   · rw[he] at hb
     exact⟨inK_i64.2 ⟨by omega,by omega⟩,hi,x+1,⟨by omega,h⟩,by omega,by rw[hs,if_pos hb];rfl,by omega⟩
 · rw[← show x=N by omega] at hk;exact hk
theorem okDown:PlainOk Tryd.prog glT 11 cDown:=by
 refine plain_of (CxOk.mk' H.Ez_ok rfl mixed (gl:=glT) (GOk.cons H.okBits Tryd.func26 (by kernel_rfl) (by kernel_rfl) (GOk.cons okTurned Tryd.func27 (by kernel_rfl) (by kernel_rfl) GOk.nil)) GoOk.nil H.itB) Tryd.func11 (c:=Tryd.f11.body.getD .skip) (rvs:=[(.tmp 2,I),(.tmp 3,tErr)]) (by kernel_rfl) (by kernel_rfl) (by kernel_rfl) ?_
 intro ds k ⟨hp,hk⟩ hwf
 obtain⟨l,rfl,-⟩:=dest1 hp
 exact⟨anDown l,down_vc l k hk⟩
open Go.Vc
theorem aft_64{t:Tr}(hl:t.2.1.length≤12)(i:Nat):aft t.2.1 t.2.1.length i<2 ^ 64 :=
 Nat.lt_of_lt_of_le (aft_lt _ _ _) (Nat.pow_le_pow_right (by decide) (by omega))
theorem aft_mem{t:Tr}(hl:t.2.1.length≤12)(i:Nat)(y:Int):y∈bitsOf ((aft t.2.1 t.2.1.length i:Nat):Int)↔∃ j:Nat,y=(j:Int)∧j<t.2.1.length∧(bB t.2.1 j).testBit i=true:=by
 rw[H.bitsOf_mem (aft_64 hl i)]
 constructor
 · rintro⟨j,h1,h2⟩;exact⟨j,h1,(aft_bit _ _ _ _).1 h2⟩
 · rintro⟨j,h1,h2⟩;exact⟨j,h1,(aft_bit _ _ _ _).2 h2⟩
theorem ranks_vc(t:Tr)(hc:chk t=0)(hl:t.2.1.length≤12)(k:List Dat→Prop)(hk:k [⟨.sl I,rkL t⟩,⟨tErr,(0:Int)⟩]) :
   vcF ⟨H.Ez,[(26,H.cBitsF),(4,cBehind)],glT,[(44,cBits)],[]⟩ (anRanks t) (Tryd.f9.body.getD .skip) Tryd.f9.ntmps [(.tmp 2,.sl I),(.tmp 3,tErr)] [⟨.sl I,aftI t⟩] k:=by
 have g:=good_of hc
 have ho:=ordE_aft g hl
 rw[vcRanks]
 simp only[ho,clI_aft g,aftI_len,decide_true,Bool.not_true,Bool.false_eq_true,false_implies,eq_self,ite_true,true_and,and_true,forall_const,Int.toNat_natCast,decide_eq_true_eq,decide_eq_false_iff_not,if_true]
 refine⟨by omega,by omega,by omega,⟨(0,List.replicate t.2.1.length 0),⟨by show 0≤_;omega,rk_mono rk_zero fun _ _ _ _ h=>absurd h (by show ¬ (0<0);omega)⟩,rfl,rfl⟩,?_⟩
 rintro⟨m,o⟩ ⟨hm,hP⟩
 dsimp only at hm hP ⊢
 refine⟨fun hlt=>⟨⟨(0,o),⟨by show 0≤_;omega,rk_mono hP fun a b _ _ h => ?_⟩,rfl,rfl⟩,?_⟩,fun hge => ?_⟩
 · rcases h with h | h
   · exact absurd h (by show ¬ (a<0);omega)
   · exact absurd h.2 List.not_mem_nil
 · rintro⟨i,o1⟩ ⟨hi,hQ⟩
   dsimp only at hi hQ ⊢
   refine⟨fun hlti => ?_,fun hgei => ?_⟩
   · have hil:i<t.2.1.length:=by omega
     rw[aftI_at hil]
     refine⟨by omega,by omega,⟨([],o1),hQ,rfl,rfl⟩,?_,?_,?_⟩
     · intros;trivial
     · rintro⟨x2,o2⟩ y rest hR he
       have hR:rkI t o2 i x2:=hR
       dsimp only at he ⊢
       have hy:y∈bitsOf ((aft t.2.1 t.2.1.length i:Nat):Int):=by rw[he];exact List.mem_append_right _ List.mem_cons_self
       obtain⟨j,rfl,hj,hb⟩:=(aft_mem hl i y).1 hy
       have hlen:=hR.1
       have hv:=hR.2.1 i hil
       have hpl:=pl_le t.2.1 i
       have hst:=rk_step g hR hj hb fun k hk => .inl (bB_less (good_prc' g) (good_frm' g) hil hk)
       refine⟨⟨by omega,by omega,by omega,by omega,inK_i64.2 ⟨by omega,by omega⟩,by omega,by omega⟩,(x2++[(j:Int)],_),?_,rfl,rfl⟩
       refine rk_mono hst fun a b _ _ h => ?_
       rcases h with h | ⟨h1,h2⟩
       · exact .inl (.inl h)
       · rcases List.mem_append.1 h2 with h2 | h2
         · exact .inl (.inr ⟨h1,h2⟩)
         · have:b=j:=by have:=List.mem_singleton.1 h2;omega
           exact .inr ⟨h1,this⟩
     · rintro⟨x2,o2⟩ hR he
       have hR:rkI t o2 i x2:=hR
       dsimp only at he ⊢
       refine⟨inK_i64.2 ⟨by omega,by omega⟩,(i+1,o2),⟨by show i+1≤_;omega,rk_mono hR fun a b hb hab h => ?_⟩,by show _ - (i+1)<_;omega,by show _=((i+1:Nat):Int);omega,rfl⟩
       rcases h with h | h
       · by_cases e:a=i
         · subst e
           refine .inr ⟨rfl,?_⟩
           rw[he]
           exact (aft_mem hl a _).2 ⟨b,rfl,hb,hab⟩
         · exact .inl (by have:a<i+1:=h;omega)
       · exact absurd h.2 List.not_mem_nil
   · refine⟨inK_i64.2 ⟨by omega,by omega⟩,(m+1,o1),⟨by show m+1≤_;omega,rk_mono hQ fun a b hb hab _ => .inl ?_⟩,by show _ - (m+1)<_;omega,by show _=((m+1:Nat):Int);omega,rfl⟩
     have:=bB_less (good_prc' g) (good_frm' g) hb hab
     omega
 · have e:rkL t=o:=by
     refine List.ext_getElem (by unfold rkL;rw[List.length_map,List.length_range,hP.1]) fun j h1 h2 => ?_
     have hj:j<t.2.1.length:=by rw[hP.1] at h2;exact h2
     have e1:=rk_eq g hP hj fun k hk=>(by show 0<m;omega)
     rw[List.getD_eq_getElem?_getD,List.getElem?_eq_getElem h2] at e1
     have e2:(rkL t)[j]=pl t.2.1 j - 1:=by simp only[rkL,List.getElem_map,List.getElem_range]
     exact e2.trans e1.symm
   rw[e] at hk;exact hk
theorem okRanks:PlainOk Tryd.prog glT 9 cRanks:=by
 refine plain_of (CxOk.mk' H.Ez_ok rfl mixed (gl:=glT) (GOk.cons H.okBits Tryd.func26 (by kernel_rfl) (by kernel_rfl) (GOk.cons okBehind Tryd.func4 (by kernel_rfl) (by kernel_rfl) GOk.nil)) GoOk.nil H.itB) Tryd.func9 (c:=Tryd.f9.body.getD .skip) (rvs:=[(.tmp 2,.sl I),(.tmp 3,tErr)]) (by kernel_rfl) (by kernel_rfl) (by kernel_rfl) ?_
 intro ds k hs hwf
 obtain⟨l,rfl,t,⟨hc,hl,rfl⟩,hk⟩:=gdest1 hs
 exact⟨anRanks t,ranks_vc t hc hl k hk⟩
theorem xor_sub{a s:Nat}(h:∀ j,a.testBit j=true→s.testBit j=true):a ^^^ (a &&& s)=0:=by
 refine Nat.eq_of_testBit_eq fun j => ?_
 rw[Nat.testBit_xor,Nat.testBit_and,Nat.zero_testBit]
 have:=h j
 cases h1:a.testBit j with
 | false=>rfl
 | true=>rw[this h1];rfl
theorem take_setN{r:List Int}{x:Nat}(h:x<r.length):setN (r.take (x+1))=setN (r.take x) ||| 2 ^ (r.getD x 0).toNat:=by
 rw[List.take_add_one,List.getElem?_eq_getElem h,List.getD_eq_getElem?_getD,List.getElem?_eq_getElem h]
 exact setN_app _ _
theorem isrow_vc(t:Tr)(r:List Int)(hc:chk t=0)(hl:t.2.1.length≤12)(hr:rowP t r)(k:List Dat→Prop)(hk:k [⟨.bool,true⟩,⟨tErr,(0:Int)⟩]) :
   vcF ⟨Et,[(37,cTurned),(23,cWithin),(38,H.cHas)],glT,[],[]⟩ (anIsRow t r) (Tryd.f15.body.getD .skip) Tryd.f15.ntmps [(.tmp 4,.bool),(.tmp 5,tErr)] [⟨.sl I,aftI t⟩,⟨.sl I,r⟩] k:=by
 have g:=good_of hc
 have ho:=ordE_aft g hl
 have hrl:=row_len hr
 rw[vcIsRow]
 simp only[ho,aftI_nat,clL_id (aft_tr g),aftI_len,castL_len,tuL_len,aftL_len,castL_at,hrl,decide_true,Bool.not_true,Bool.false_eq_true,false_implies,eq_self,ite_true,true_and,and_true,forall_const,Int.toNat_natCast,decide_eq_true_eq,decide_eq_false_iff_not,if_true]
 refine⟨⟨0,by omega,rfl,rfl⟩,fun x hx=>⟨fun hlt => ?_,fun hge=>hk⟩⟩
 have hxl:x<t.2.1.length:=by omega
 obtain⟨r0,r1⟩:=row_at hr hxl
 obtain⟨s1,s2⟩:=row_step hc hr hxl
 have hin:inB (r.getD x 0) 0 ((t.2.1.length:Int) - 1)=true:=by
   unfold inB
   rw[Bool.and_eq_true,decide_eq_true_eq,decide_eq_true_eq];omega
 have hj:(r.getD x 0).toNat<t.2.1.length:=by omega
 have htu:(tuL (aftL t.2.1) t.2.1.length).getD (r.getD x 0).toNat 0=bB t.2.1 (r.getD x 0).toNat:=by rw[tuL_at (by rw[aftL_len];exact hj),tuK_aft g hj]
 have hpw := @pw_in (r.getD x 0).toNat (by omega)
 have hts:=take_setN (r:=r) (x:=x) (by omega)
 rw[pw_cast] at hpw
 simp only[hin,s1,htu,xor_sub s2,pw_cast,Int.toNat_natCast,Bool.not_true,Bool.false_eq_true,false_implies,true_and,forall_const,decide_true,Int.natCast_zero,eq_self]
 refine⟨by omega,by omega,inK_i64.2 ⟨by omega,by omega⟩,⟨Int.natCast_nonneg _,by omega,by omega⟩,by omega,by omega,Int.natCast_nonneg _,Int.natCast_nonneg _,by omega,by omega,rfl,hpw,Int.natCast_nonneg _,Int.natCast_nonneg _,inK_i64.2 ⟨by omega,by omega⟩,x+1,by omega,by omega,by rw[hts],by omega⟩
theorem okIsRow:PlainOk Tryd.prog glT 15 cIsRow:=by
 refine plain_of (CxOk.mk' Et_ok rfl mixed (gl:=glT) (GOk.cons okAhead Tryd.func37 (by kernel_rfl) (by kernel_rfl) (GOk.cons (PlainOk.sub (by intro x hx;cases hx) okWithin) Tryd.func23 (by kernel_rfl) (by kernel_rfl) (GOk.cons H.okHas Tryd.func38 (by kernel_rfl) (by kernel_rfl) GOk.nil))) GoOk.nil noIt) Tryd.func15 (c:=Tryd.f15.body.getD .skip) (rvs:=[(.tmp 4,.bool),(.tmp 5,tErr)]) (by kernel_rfl) (by kernel_rfl) (by kernel_rfl) ?_
 intro ds k hs hwf
 obtain⟨l,r,rfl,t,⟨hc,hl,rfl,hr⟩,hk⟩:=gdest2 hs
 exact⟨anIsRow t r,isrow_vc t r hc hl hr k hk⟩
open Go.Vc
def ordB(t:Tr):Bool:=decide (chk t=0)&&decide (t.2.1.length≤12)
def ordO(t:Tr):List Int:=if ordB t=true then aftI t else[]
def cOrd:Ctr:=cdet [tTr] (fun _=>True) (fun (t:Tr)=>[⟨.sl I,ordO t⟩,⟨.bool,ordB t⟩])
def aftR(t:Tr)(i j:Nat):List Int:=(List.range t.2.1.length).map fun m=>((aft t.2.1 (if m<j then i+1 else i) m:Nat):Int)
def anOrd(t:Tr):Ann :=
 [joinAll,loopAt 6 Nat [] (fun st i=>{ St.at (St.only st [1,4,6]) [(7,.d I (i:Int))] with ob:=[.var 24 tTr t,.row 3 I (aftR t i 0)] }) (fun _ i=>i≤t.2.1.length∧ordB t=true) (fun i=>t.2.1.length - i),
  loopAt 9 Nat [] (fun st j=>{ St.at (St.only st [1,4,6,7]) [(8,.d I (j:Int))] with ob:=[.var 24 tTr t,.row 3 I (aftR t (st.i 7).toNat j)] }) (fun st j=>j≤(st.i 7).toNat∧True) (fun j=>t.2.1.length - j)]
end Go.Proofs.YtfmiecbmikncpaaDoor

namespace Go.Proofs.YtfmiecbmikncpaaDoor.H
open Go.Vc
theorem cut_mk{t:Tr}{c:List Int}(h1:chk t=0)(h2:(c.length:Int)=t.1)(h3:∀ p,p<c.length→0≤c.getD p 0∧c.getD p 0≤((ofT t (p:Int)).length:Int)):cutE t c=0:=by
 unfold cutE
 have:cutOk t c=true:=List.all_eq_true.2 fun p hp=>by
   have:=h3 p (List.mem_range.1 hp)
   unfold inB
   simpa using this
 rw[if_pos h1,if_pos h2,if_pos this]
theorem setN_bit(t:Tr)(c:List Int)(i:Nat):(setN t c).testBit i=true↔∃ p,p<c.length∧(i:Int)∈takeC t c p:=setK_bit t c i _
theorem take_le{c d:List Int}{t:Tr}{p:Nat}(h:c.getD p 0≤d.getD p 0){y:Int}(hy:y∈takeC t c p):y∈takeC t d p:=by
 unfold takeC at *
 exact List.mem_of_mem_take (i:=(c.getD p 0).toNat) (by rw[List.take_take,Nat.min_eq_left (by omega)];exact hy)
theorem heard_iff{l:List Ev}{N:Nat}{y:Int}:heard l N y=true↔(0≤(l.getD y.toNat (0,0,())).2.1→N.testBit (l.getD y.toNat (0,0,())).2.1.toNat=true):=by
 unfold heard
 rw[Bool.or_eq_true,decide_eq_true_eq]
 constructor
 · rintro (h | h) h0
   · omega
   · exact h
 · intro h
   by_cases h0:0≤(l.getD y.toNat (0,0,())).2.1
   · exact .inr (h h0)
   · exact .inl (by omega)
theorem whole_iff{t:Tr}(h:chk t=0)(c:List Int):wholeB t c=true↔fineP t c c.length:=by
 have g:=good_of h
 have hlt:setN t c<2 ^ 64:=Nat.lt_trans (setN_lt g c _) (by decide)
 unfold wholeB
 rw[List.all_eq_true]
 constructor
 · intro hw p hp y hy
   have hm:=takeC_mem hy
   refine hw y ((bitsOf_mem hlt y).2 ⟨y.toNat,by omega,(setN_bit t c _).2 ⟨p,hp,?_⟩⟩)
   rw[show ((y.toNat:Nat):Int)=y by omega];exact hy
 · intro hf y hy
   obtain⟨i,rfl,hi⟩:=(bitsOf_mem hlt y).1 hy
   obtain⟨p,hp,hm⟩:=(setN_bit t c i).1 hi
   exact hf p hp _ hm
theorem getD_set_eq{l:List Int}{p q:Nat}{n:Int}(hp:p<l.length):(l.set p n).getD q 0=if p=q then n else l.getD q 0:=by
 rw[List.getD_eq_getElem?_getD,List.getElem?_set]
 by_cases h:p=q
 · rw[if_pos h,if_pos h]
   subst h
   rw[if_pos hp];rfl
 · rw[if_neg h,if_neg h,List.getD_eq_getElem?_getD]
theorem sum_set:∀ (l:List Int) (p:Nat) (n:Int),p<l.length→n.toNat<(l.getD p 0).toNat→sumC (l.set p n)<sumC l:=by
 intro l
 induction l with
 | nil=>intro p n hp;cases hp
 | cons a r ih =>
   intro p n hp hn
   cases p with
   | zero =>
     have hn:n.toNat<a.toNat:=hn
     simp only[sumC,List.set_cons_zero,List.map_cons,List.sum_cons]
     omega
   | succ p =>
     have:=ih p n (by simpa using hp) hn
     simp only[sumC,List.set_cons_succ,List.map_cons,List.sum_cons] at *
     omega
theorem ofU_sorted(l:List Ev)(p:Int)(k:Nat):(ofU l p k).Pairwise (· < ·):=by
 unfold ofU
 rw[List.pairwise_map]
 exact ((List.pairwise_lt_range (n:=k)).filter _).imp fun h=>by omega
theorem ofT_has{t:Tr}{i:Nat}(hi:i<t.2.1.length):(i:Int)∈ofT t (t.2.1.getD i (0,0,())).1:=by
 unfold ofT ofU
 exact List.mem_map.2 ⟨i,List.mem_filter.2 ⟨List.mem_range.2 hi,by simp⟩,rfl⟩
theorem take_down{t:Tr}{c:List Int}{p i j:Nat}(hi:(i:Int)∈takeC t c p)(hji:j<i)(hj:(t.2.1.getD j (0,0,())).1=(t.2.1.getD i (0,0,())).1):(j:Int)∈takeC t c p:=by
 have hm:=takeC_mem hi
 have hjp:(t.2.1.getD j (0,0,())).1=(p:Int):=by rw[hj];exact hm.2.2
 have hjm:(j:Int)∈ofT t (p:Int):=by
   have:=ofT_has (t:=t) (i:=j) (by omega)
   rw[hjp] at this;exact this
 have hs:=ofU_sorted t.2.1 (p:Int) t.2.1.length
 have e:ofU t.2.1 (p:Int) t.2.1.length=takeC t c p++(ofT t (p:Int)).drop (c.getD p 0).toNat:=(List.take_append_drop _ _).symm
 have hjm':(j:Int)∈ofU t.2.1 (p:Int) t.2.1.length:=hjm
 rw[e] at hs hjm'
 rcases List.mem_append.1 hjm' with h | h
 · exact h
 · have:=(List.pairwise_append.1 hs).2.2 _ hi _ h
   omega
theorem whole_before{t:Tr}(h:chk t=0)(c:List Int)(hc:cutE t c=0) :
   wholeB t c=true↔∀ i,i<t.2.1.length→(setN t c).testBit i=true→∀ k,(bB t.2.1 i).testBit k=true→(setN t c).testBit k=true:=by
 have g:=good_of h
 rw[whole_iff h]
 constructor
 · intro hf i
   induction i using Nat.strongRecOn with
   | _ i ih =>
     intro hi hs k hk
     obtain⟨j,hj,hjk⟩:=(bB_bit (good_prc' g) (good_frm' g) hi k).1 hk
     obtain⟨p,hp,hm⟩:=(setN_bit t c i).1 hs
     have hjs:(setN t c).testBit j=true:=by
       rcases hj with ⟨hji,h1 | h1⟩
       · refine (setN_bit t c j).2 ⟨p,hp,take_down hm hji ((prc_eq (gd_of h) hi (by omega)).2 h1.1)⟩
       · have:=(heard_iff).1 (hf p hp _ hm)
         rw[Int.toNat_natCast] at this
         have h1':(t.2.1.getD i (0,0,())).2.1=(j:Int):=h1
         rw[h1',Int.toNat_natCast] at this
         exact this (by omega)
     rcases hjk with hjk | rfl
     · exact ih j hj.1 (by have:=hj.1;omega) hjs k hjk
     · exact hjs
 · intro hb p hp y hy
   have hm:=takeC_mem hy
   obtain⟨i,rfl⟩:=Int.eq_ofNat_of_zero_le hm.1
   have hil:i<t.2.1.length:=by have:=hm.2.1;omega
   rw[heard_iff,Int.toNat_natCast]
   intro h0
   have he:=g.ev i hil
   refine hb i hil ((setN_bit t c i).2 ⟨p,hp,hy⟩) _ (bB_must (good_prc' g) (good_frm' g) hil (by omega) (.inr ?_))
   show (t.2.1.getD i (0,0,())).2.1=_
   omega
open Go.Vc
def lenT(t:Tr)(p:Nat):Nat:=(ofT t (p:Int)).length
def allL(t:Tr):Nat→List Int→List (List Int)
 | 0,c=>[c]
 | d+1,c=>(List.range (lenT t c.length+1)).flatMap fun (k:Nat)=>allL t d (c++[(k:Int)])
def cutsN(t:Tr)(d:Nat)(c:List Int):Nat:=((allL t d c).filter (wholeB t)).length
def countW(t:Tr):Nat:=cutsN t t.1.toNat []
def prodL(t:Tr):Nat→Nat→Nat
 | 0,_=>1
 | d+1,p=>(lenT t p+1)*prodL t d (p+1)
theorem sum_const{α:Type}(f:α→Nat)(b:Nat):∀ l:List α,(∀ x∈l,f x=b)→(l.map f).sum=l.length*b
 | [],_=>by simp
 | x::r,h=>by
   have ih:=sum_const f b r fun y hy=>h y (List.mem_cons_of_mem _ hy)
   rw[List.map_cons,List.sum_cons,ih,h x (List.mem_cons_self ..),List.length_cons,Nat.succ_mul]
   omega
theorem allL_len(t:Tr):∀ (d:Nat) (c:List Int),(allL t d c).length=prodL t d c.length
 | 0,_=>rfl
 | d+1,c=>by
   unfold allL prodL
   rw[List.length_flatMap,sum_const _ (prodL t d (c.length+1)) _ fun k _=>by rw[allL_len t d,List.length_append];rfl,List.length_range]
theorem allL_mem(t:Tr)(x:List Int):∀ (d:Nat) (c:List Int),x∈allL t d c↔∃ y,x=c++y∧y.length=d∧∀ p,p<d→0≤y.getD p 0∧y.getD p 0≤(lenT t (c.length+p):Int)
 | 0,c=>by
   unfold allL
   rw[List.mem_singleton]
   constructor
   · rintro rfl;exact⟨[],by simp,rfl,fun p hp=>absurd hp (Nat.not_lt_zero _)⟩
   · rintro⟨y,rfl,h,_⟩
     rw[List.eq_nil_of_length_eq_zero h,List.append_nil]
 | d+1,c=>by
   unfold allL
   rw[List.mem_flatMap]
   constructor
   · rintro⟨k,hk,hx⟩
     obtain⟨y,rfl,h1,h2⟩:=(allL_mem t x d _).1 hx
     have hk:=List.mem_range.1 hk
     refine⟨(k:Int)::y,by simp,by simp[h1],fun p hp => ?_⟩
     cases p with
     | zero=>simp only[List.getD_cons_zero,Nat.add_zero];omega
     | succ p =>
       have:=h2 p (by omega)
       rw[List.length_append,List.length_singleton] at this
       rw[List.getD_cons_succ,show c.length+(p+1)=c.length+1+p by omega]
       exact this
   · rintro⟨y,rfl,h1,h2⟩
     cases y with
     | nil=>simp at h1
     | cons a y =>
       have h0:=h2 0 (by omega)
       simp only[List.getD_cons_zero,Nat.add_zero] at h0
       refine⟨a.toNat,List.mem_range.2 (by omega),(allL_mem t _ d _).2 ⟨y,?_,by simpa using h1,fun p hp => ?_⟩⟩
       · rw[show ((a.toNat:Nat):Int)=a by omega,List.append_assoc];rfl
       · have:=h2 (p+1) (by omega)
         rw[List.getD_cons_succ,show c.length+(p+1)=c.length+1+p by omega] at this
         rw[List.length_append,List.length_singleton]
         exact this
theorem allL_nodup(t:Tr):∀ (d:Nat) (c:List Int),(allL t d c).Nodup
 | 0,c=>by unfold allL;simp
 | d+1,c=>by
   unfold allL
   rw[List.nodup_iff_pairwise_ne,List.pairwise_flatMap]
   refine⟨fun k _=>List.nodup_iff_pairwise_ne.1 (allL_nodup t d _),?_⟩
   refine List.Pairwise.imp ?_ (List.nodup_iff_pairwise_ne.1 (List.nodup_range (n:=lenT t c.length+1)))
   intro k k' hne x hx y hy e
   refine hne ?_
   subst e
   obtain⟨y1,e1,_⟩:=(allL_mem t x d _).1 hx
   obtain⟨y2,e2,_⟩:=(allL_mem t x d _).1 hy
   rw[e1,List.append_assoc,List.append_assoc] at e2
   have:=List.append_cancel_left e2
   injection this with h1 h2
   omega
theorem all_iff{t:Tr}(h:chk t=0)(x:List Int):x∈allL t t.1.toNat []↔cutE t x=0:=by
 have hp:=(good_of h).procs
 rw[allL_mem]
 constructor
 · rintro⟨y,rfl,h1,h2⟩
   exact cut_mk h (by omega) fun p hpl=>by
     have:=h2 p (by omega)
     rw[List.length_nil,Nat.zero_add] at this
     exact this
 · intro hc
   obtain⟨_,h1,h2⟩:=cut_ok hc
   refine⟨x,rfl,by omega,fun p hpl => ?_⟩
   rw[List.length_nil,Nat.zero_add]
   exact h2 p (by omega)
def wholeL(t:Tr):List (List Int):=(allL t t.1.toNat []).filter (wholeB t)
theorem whole_mem{t:Tr}(h:chk t=0)(x:List Int):x∈wholeL t↔wholeP t x:=by
 unfold wholeL wholeP
 rw[List.mem_filter,all_iff h]
theorem wholeL_nodup(t:Tr):(wholeL t).Nodup:=by
 unfold wholeL
 exact List.nodup_iff_pairwise_ne.2 ((List.nodup_iff_pairwise_ne.1 (allL_nodup t _ _)).filter _)
theorem countW_eq(t:Tr):countW t=(wholeL t).length:=rfl
theorem takeC_iff{t:Tr}{c:List Int}{p:Nat}{x:Int}:x∈takeC t c p↔∃ n:Nat,n<lenT t p∧n<(c.getD p 0).toNat∧x=(ofT t (p:Int)).getD n 0:=by
 unfold takeC lenT
 constructor
 · intro hx
   obtain⟨n,hn⟩:=List.getElem?_of_mem hx
   obtain⟨hl,e⟩:=List.getElem?_eq_some_iff.1 hn
   rw[List.length_take] at hl
   refine⟨n,by omega,by omega,?_⟩
   rw[List.getElem_take] at e
   rw[List.getD_eq_getElem?_getD,List.getElem?_eq_getElem (by omega),← e];rfl
 · rintro⟨n,h1,h2,rfl⟩
   have e:(ofT t (p:Int)).getD n 0=(ofT t (p:Int))[n]:=by rw[List.getD_eq_getElem?_getD,List.getElem?_eq_getElem h1];rfl
   rw[e]
   exact List.mem_take_iff_getElem.2 ⟨n,by omega,rfl⟩
theorem ofT_mono{t:Tr}{p a b:Nat}(hab:a<b)(hb:b<lenT t p):(ofT t (p:Int)).getD a 0<(ofT t (p:Int)).getD b 0:=by
 have h:=ofU_sorted t.2.1 (p:Int) t.2.1.length
 unfold lenT at hb
 rw[List.getD_eq_getElem?_getD,List.getD_eq_getElem?_getD,List.getElem?_eq_getElem hb,List.getElem?_eq_getElem (by omega)]
 exact List.pairwise_iff_getElem.1 h a b _ _ hab
theorem last_ev{t:Tr}{x:List Int}(hx:wholeP t x)(hpos:∃ p,p<x.length∧0<x.getD p 0) :
   ∃ p n:Nat,p<x.length∧x.getD p 0=(n:Int)+1∧n<lenT t p∧∀ q,q<x.length→∀ y∈takeC t x q,y≤(ofT t (p:Int)).getD n 0:=by
 obtain⟨h0,hl,hb⟩:=cut_ok hx.1
 have key:∀ k:Nat,(∀ q,q<x.length→∀ y∈takeC t x q,y<(k:Int))→∃ p n:Nat,p<x.length∧x.getD p 0=(n:Int)+1∧n<lenT t p∧∀ q,q<x.length→∀ y∈takeC t x q,y≤(ofT t (p:Int)).getD n 0:=by
   intro k
   induction k with
   | zero =>
     intro hk
     obtain⟨p,hp,hpos⟩:=hpos
     have hbp:=hb p hp
     have hm:(ofT t (p:Int)).getD 0 0∈takeC t x p:=takeC_iff.2 ⟨0,by unfold lenT;omega,by omega,rfl⟩
     have h1:=hk p hp _ hm
     have h2:=(takeC_mem hm).1
     omega
   | succ k ih =>
     intro hk
     by_cases hh:∃ q,q<x.length∧(k:Int)∈takeC t x q
     · obtain⟨p,hp,hm⟩:=hh
       obtain⟨n,hn1,hn2,hn⟩:=takeC_iff.1 hm
       have hbp:=hb p hp
       by_cases hlast:n+1<(x.getD p 0).toNat
       · have hl2:n+1<lenT t p:=by unfold lenT;omega
         have h1:=ofT_mono (t:=t) (p:=p) (a:=n) (b:=n+1) (by omega) hl2
         have h2:=hk p hp _ (takeC_iff.2 ⟨n+1,hl2,hlast,rfl⟩)
         omega
       · refine⟨p,n,hp,by omega,hn1,fun q hq y hy => ?_⟩
         have:=hk q hq y hy
         omega
     · refine ih fun q hq y hy => ?_
       have h1:=hk q hq y hy
       have h2:y≠(k:Int):=fun e=>hh ⟨q,hq,e▸hy⟩
       omega
 refine key t.2.1.length fun q _ y hy=>(takeC_mem hy).2.1
theorem whole_less{t:Tr}{x:List Int}(hx:wholeP t x){p n:Nat}(hp:p<x.length)(hn:x.getD p 0=(n:Int)+1)(hnl:n<lenT t p)
   (hlast:∀ q,q<x.length→∀ y∈takeC t x q,y≤(ofT t (p:Int)).getD n 0):wholeP t (x.set p (n:Int)):=by
 obtain⟨h0,hl,hb⟩:=cut_ok hx.1
 have g:=good_of h0
 have hw:=(whole_iff h0 x).1 hx.2
 have hat:∀ q,(x.set p (n:Int)).getD q 0=if p=q then (n:Int) else x.getD q 0:=fun q=>getD_set_eq hp
 have hsub:∀ q y,y∈takeC t (x.set p (n:Int)) q→y∈takeC t x q:=by
   intro q y hy
   refine take_le ?_ hy
   rw[hat]
   split
   · rename_i e;subst e;omega
   · exact Int.le_refl _
 have hkeep:∀ q y,y∈takeC t x q→y≠(ofT t (p:Int)).getD n 0→y∈takeC t (x.set p (n:Int)) q:=by
   intro q y hy hne
   obtain⟨m,h1,h2,rfl⟩:=takeC_iff.1 hy
   refine takeC_iff.2 ⟨m,h1,?_,rfl⟩
   rw[hat]
   split
   · rename_i e
     subst e
     have:m≠n:=fun e=>hne (by rw[e])
     omega
   · exact h2
 refine⟨cut_mk h0 (by rw[List.length_set];exact hl) fun q hq => ?_,(whole_iff h0 _).2 fun q hq y hy => ?_⟩
 · rw[List.length_set] at hq
   have:=hb q hq
   rw[hat]
   split
   · rename_i e;subst e;unfold lenT at hnl;omega
   · exact this
 · rw[List.length_set] at hq
   have hy':=hsub q y hy
   have hwy:=hw q hq y hy'
   rw[heard_iff] at hwy ⊢
   intro hf
   have h1:=hwy hf
   obtain⟨r,hr,hm⟩:=(setN_bit t x _).1 h1
   refine (setN_bit t _ _).2 ⟨r,by rw[List.length_set];exact hr,hkeep r _ hm fun e => ?_⟩
   have hy1:=takeC_mem hy'
   have hev:=g.ev y.toNat (by omega)
   have h2:=hlast q hq y hy'
   omega
theorem reach{t:Tr}(h:chk t=0)(S:List Int→Prop)(h0:S (List.replicate t.1.toNat 0))(hc:∀ x,S x→∀ p,p<t.1.toNat→wholeP t (x.set p (x.getD p 0+1))→S (x.set p (x.getD p 0+1))) :
   ∀ (m:Nat) (x:List Int),sumC x≤m→wholeP t x→S x:=by
 intro m
 have hpr:=(good_of h).procs
 have base:∀ x:List Int,wholeP t x→(¬ ∃ p,p<x.length∧0<x.getD p 0)→S x:=by
   intro x hx hno
   obtain⟨_,hl,hb⟩:=cut_ok hx.1
   have e:x=List.replicate t.1.toNat 0:=by
     refine List.ext_getElem (by simp;omega) fun p h1 h2 => ?_
     have h3:=hb p h1
     have h4:¬ 0<x.getD p 0:=fun e=>hno ⟨p,h1,e⟩
     rw[List.getElem_replicate]
     have h5:x.getD p 0=x[p]:=by rw[List.getD_eq_getElem?_getD,List.getElem?_eq_getElem h1];rfl
     omega
   rw[e];exact h0
 induction m with
 | zero =>
   intro x hm hx
   refine base x hx ?_
   rintro⟨p,hp,hpos⟩
   have:=sum_set x p 0 hp (by omega)
   omega
 | succ m ih =>
   intro x hm hx
   by_cases hpos:∃ p,p<x.length∧0<x.getD p 0
   · obtain⟨p,n,hp,hn,hnl,hlast⟩:=last_ev hx hpos
     have hw:=whole_less hx hp hn hnl hlast
     obtain⟨_,hl,hb⟩:=cut_ok hx.1
     have hs:=sum_set x p (n:Int) hp (by omega)
     have hS:=ih _ (by omega) hw
     have e:(x.set p (n:Int)).set p ((x.set p (n:Int)).getD p 0+1)=x:=by
       rw[getD_set_eq hp,if_pos rfl,List.set_set,← hn,List.getD_eq_getElem?_getD,List.getElem?_eq_getElem hp]
       exact List.set_getElem_self hp
     have:=hc _ hS p (by omega) (by rw[e];exact hx)
     rw[e] at this
     exact this
   · exact base x hx hpos
def fiveP(t:Tr)(y:List Int):Prop:=y.length=5∧wholeP t (y.take t.1.toNat)∧∀ p,t.1.toNat≤p→p<5→y.getD p 0=0
theorem getD_take{l:List Int}{n p:Nat}(h:p<n):(l.take n).getD p 0=l.getD p 0:=by
 rw[List.getD_eq_getElem?_getD,List.getD_eq_getElem?_getD,List.getElem?_take_of_lt h]
theorem five_inj{t:Tr}{x y:List Int}(hx:fiveP t x)(hy:fiveP t y)(h:x.take t.1.toNat=y.take t.1.toNat):x=y:=by
 refine List.ext_getElem (by rw[hx.1,hy.1]) fun p h1 h2 => ?_
 have e1:x.getD p 0=x[p]:=by rw[List.getD_eq_getElem?_getD,List.getElem?_eq_getElem h1];rfl
 have e2:y.getD p 0=y[p]:=by rw[List.getD_eq_getElem?_getD,List.getElem?_eq_getElem h2];rfl
 rw[← e1,← e2]
 have l1:=hx.1
 by_cases hp:p<t.1.toNat
 · rw[← getD_take (l:=x) hp,← getD_take (l:=y) hp,h]
 · rw[hx.2.2 p (by omega) (by omega),hy.2.2 p (by omega) (by omega)]
theorem take_nodup{t:Tr}{L:List (List Int)}(hn:L.Nodup)(hL:∀ y∈L,fiveP t y):(L.map fun y=>y.take t.1.toNat).Nodup:=by
 rw[List.nodup_iff_pairwise_ne,List.pairwise_map]
 refine List.Pairwise.imp_of_mem ?_ (List.nodup_iff_pairwise_ne.1 hn)
 intro a b ha hb hne e
 exact hne (five_inj (hL a ha) (hL b hb) e)
theorem found_le{t:Tr}(h:chk t=0){L:List (List Int)}(hn:L.Nodup)(hL:∀ y∈L,fiveP t y):L.length≤countW t:=by
 have h1:=(take_nodup hn hL).length_le_of_subset (l₂:=wholeL t) fun x hx=>by
   obtain⟨y,hy,rfl⟩:=List.mem_map.1 hx
   exact (whole_mem h _).2 (hL y hy).2.1
 rw[List.length_map] at h1
 exact h1
theorem take_set{l:List Int}{n p:Nat}{v:Int}:(l.set p v).take n=(l.take n).set p v:=List.take_set
theorem found_all{t:Tr}(h:chk t=0){L:List (List Int)}(hn:L.Nodup)(hL:∀ y∈L,fiveP t y)(h0:List.replicate 5 (0:Int)∈L)
   (hc:∀ y∈L,∀ p,p<t.1.toNat→y.getD p 0+1≤(lenT t p:Int)→wholeB t ((y.set p (y.getD p 0+1)).take t.1.toNat)=true→y.set p (y.getD p 0+1)∈L):L.length=countW t:=by
 have hpr:=(good_of h).procs
 refine Nat.le_antisymm (found_le h hn hL) ?_
 have key:=(wholeL_nodup t).length_le_of_subset (l₂:=L.map fun y=>y.take t.1.toNat) fun x hx=>by
   have hx:=(whole_mem h _).1 hx
   refine reach h (fun x=>x∈L.map fun y=>y.take t.1.toNat) ?_ ?_ _ x (Nat.le_refl _) hx
   · exact List.mem_map.2 ⟨_,h0,by rw[List.take_replicate,Nat.min_eq_left (by omega)]⟩
   · intro z hz p hp hw
     obtain⟨y,hy,rfl⟩:=List.mem_map.1 hz
     have hb:=(cut_ok hw.1).2.2
     have hlen:(y.take t.1.toNat).length=t.1.toNat:=by rw[List.length_take,(hL y hy).1];omega
     have hbp:=hb p (by rw[List.length_set,hlen];exact hp)
     rw[getD_set_eq (by rw[hlen];exact hp),if_pos rfl] at hbp
     rw[getD_take hp] at hw hbp ⊢
     rw[← take_set] at hw ⊢
     exact List.mem_map.2 ⟨_,hc y hy p hp hbp.2 hw.2,rfl⟩
 rw[List.length_map] at key
 exact key
theorem five_step{t:Tr}{y:List Int}(h:fiveP t y){p:Nat}(hp:p<t.1.toNat)(hp5:t.1.toNat≤5)(hw:wholeP t ((y.set p (y.getD p 0+1)).take t.1.toNat)):fiveP t (y.set p (y.getD p 0+1)):=by
 refine⟨by rw[List.length_set];exact h.1,hw,fun q hq hq5 => ?_⟩
 rw[getD_set_eq (by rw[h.1];omega),if_neg (by omega)]
 exact h.2.2 q hq hq5
theorem lenT_le{t:Tr}(h:chk t=0)(p:Nat):lenT t p≤24:=by
 have:=ofU_len t.2.1 (p:Int) t.2.1.length
 have:=(good_of h).len
 unfold lenT ofT
 omega
theorem prodL_le{t:Tr}(h:chk t=0):∀ (d p:Nat),prodL t d p≤25 ^ d
 | 0,_=>Nat.le_refl _
 | d+1,p=>by
   have h1:=prodL_le h d (p+1)
   have h2:=lenT_le h p
   unfold prodL
   rw[Nat.pow_succ,Nat.mul_comm]
   exact Nat.mul_le_mul h1 (by omega)
theorem countW_le{t:Tr}:countW t≤prodL t t.1.toNat 0:=by
 rw[countW_eq]
 unfold wholeL
 exact Nat.le_trans (List.length_filter_le _ _) (Nat.le_of_eq (allL_len t _ _))
theorem zero_five{t:Tr}(h:chk t=0):fiveP t (List.replicate 5 0):=by
 have hpr:=(good_of h).procs
 have e:(List.replicate 5 (0:Int)).take t.1.toNat=List.replicate t.1.toNat 0:=by rw[List.take_replicate,Nat.min_eq_left (by omega)]
 have z:∀ p n:Nat,(List.replicate n (0:Int)).getD p 0=0:=fun p n=>by
   rw[List.getD_eq_getElem?_getD,List.getElem?_replicate];split<;>rfl
 refine⟨rfl,?_,fun p _ _=>z p 5⟩
 rw[e]
 refine⟨cut_mk h (by rw[List.length_replicate];omega) fun p _=>by rw[z];omega,(whole_iff h _).2 fun p _ y hy => ?_⟩
 obtain⟨n,_,h2,_⟩:=takeC_iff.1 hy
 rw[z] at h2
 exact absurd h2 (Nat.not_lt_zero _)
theorem ofU_mem{l:List Ev}{p x:Int}{m:Nat}:x∈ofU l p m↔∃ i:Nat,i<m∧(l.getD i (0,0,())).1=p∧x=(i:Int):=by
 unfold ofU
 rw[List.mem_map]
 constructor
 · rintro⟨i,hi,rfl⟩
   obtain⟨h1,h2⟩:=List.mem_filter.1 hi
   exact⟨i,List.mem_range.1 h1,of_decide_eq_true h2,rfl⟩
 · rintro⟨i,h1,h2,rfl⟩
   exact⟨i,List.mem_filter.2 ⟨List.mem_range.2 h1,decide_eq_true h2⟩,rfl⟩
end Go.Proofs.YtfmiecbmikncpaaDoor.H

namespace Go.Proofs.YtfmiecbmikncpaaDoor
open Go.Vc H
set_option linter.unusedVariables false
end Go.Proofs.YtfmiecbmikncpaaDoor

namespace Go.Proofs.YtfmiecbmikncpaaDoor.H
open Go.Vc
open Go.Vc
abbrev tK:Ty := .ar 5 I
abbrev LL:=List (List Int)
def Eq:Env:={ tys:=[(3,I),(4,.bool),(5,.int .u8),(22,.sl tEv),(24,tTr),(27,tErr),(25,.sl I),(55,tEv),(60,tK),(61,.sl (.sl I)),(64,.nm),(65,.sl tK),(67,.pr .nm (.pr (.sl tK) .un))],errT:=53,eqs:=[],els:=[(22,55),(25,3),(61,25),(65,60)],pz:=[7],sa:=[22],mps:=[(64,(60,3))] }
theorem Eq_ok:EnvOk Tryd.prog Eq:=EnvOk.of_list (by kernel_rfl) (by kernel_rfl) (by kernel_rfl)
def mpE(L:LL)(n:Nat):List (List Int×Int):=match L with
 | []=>[]
 | x::r=>(x,(n:Int))::mpE r (n+1)
def addL(L:LL)(c:List Int):LL:=if L.contains c=true then L else L++[c]
def ans2(n:Int)(b:Bool):SV := .tp [.d (.int .i64) n,.d .bool b]
def qOb(L:LL):List Ob:=[.st 67 [.os 1,.os 2],.mp 5 I (mpE L 0),.row 60 tK L]
def q0:List Ob:=[.st 67 [.d .nm Ty.nm.z,.nils]]
def oAdd:OCtr:=fun args ob k =>
 match args,ob with
 | [.ps 0,.d (.ar 5 (.int .i64)) c],[.st 67 [.os 1,.os 2],.mp 5 (.int .i64) es,.row 60 (.ar 5 (.int .i64)) L]=>es=mpE L 0∧(L:LL).length<1000000000∧∀ (n:Int) (b:Bool),k (ans2 n b) (qOb (addL L c))
 | [.ps 0,.d (.ar 5 (.int .i64)) c],[.st 67 [.d .nm _,.nils]]=>∀ (n:Int) (b:Bool),k (ans2 n b) (qOb [c])
 | _,_=>False
def oLen:OCtr:=fun args ob k =>
 match args,ob with
 | [.ps 0],[.st 67 [.os 1,.os 2],.mp 5 (.int .i64) es,.row 60 (.ar 5 (.int .i64)) L]=>es=mpE L 0∧k (.d (.int .i64) ((L:LL).length:Int)) (qOb L)
 | _,_=>False
def oAt:OCtr:=fun args ob k =>
 match args,ob with
 | [.ps 0,.d (.int .i64) i],[.st 67 [.os 1,.os 2],.mp 5 (.int .i64) es,.row 60 (.ar 5 (.int .i64)) L]=>es=mpE L 0∧(0:Int)≤i∧(i:Int)<((L:LL).length:Int)∧k (.d (.ar 5 (.int .i64)) ((L:LL).getD (i:Int).toNat (List.replicate 5 0))) (qOb L)
 | _,_=>False
structure foundP(t:Tr)(L:LL):Prop where
 nd:L.Nodup
 five:∀ y∈L,fiveP t y
 zero:List.replicate 5 (0:Int)∈L
def stepOk(t:Tr)(L:LL)(y:List Int)(p:Nat):Prop :=
 y.getD p 0+1≤(lenT t p:Int)→wholeB t ((y.set p (y.getD p 0+1)).take t.1.toNat)=true→y.set p (y.getD p 0+1)∈L
def closedTo(t:Tr)(L:LL)(n:Nat):Prop:=∀ i,i<n→∀ p,p<t.1.toNat→stepOk t L (L.getD i []) p
def closedAt(t:Tr)(L:LL)(i n:Nat):Prop:=∀ p,p<n→stepOk t L (L.getD i []) p
def cCount:Ctr:=cdet [tTr] (fun _=>True) (fun t=>[⟨I,if chk t=0 then (countW t:Int) else 0⟩,⟨tErr,chk t⟩])
def cOb(t:Tr)(L:LL):List Ob:=[.var 24 tTr t,.st 67 [.os 2,.os 3],.mp 5 I (mpE L 0),.row 60 tK L]
def anCount(t:Tr):Ann:=[joinAll,freezeAt 18 [10],
 loopAt 10 (Nat×LL) [] (fun st g=>{ St.at (St.only st [1,5]) [(7,.ps 1),(8,.d I (g.1:Int))] with ob:=cOb t g.2 }) (fun _ g=>(chk t=0∧g.1≤g.2.length)∧foundP t g.2∧closedTo t g.2 g.1) (fun g=>countW t+1 - g.1),
 loopAt 13 (Nat×LL) [] (fun st g=>{ St.at (St.only st [1,5,8,37]) [(7,.ps 1),(38,.d I (g.1:Int))] with ob:=cOb t g.2 }) (fun st g=>(g.1≤t.1.toNat∧(st.i 8).toNat<g.2.length)∧foundP t g.2∧closedTo t g.2 (st.i 8).toNat∧closedAt t g.2 (st.i 8).toNat g.1) (fun g=>t.1.toNat - g.1)]
end Go.Proofs.YtfmiecbmikncpaaDoor.H

namespace Go.Proofs.YtfmiecbmikncpaaDoor
open Go.Vc
def cRowT:Ctr:=cgen [tTr] (fun (t:Tr) k=>(chk t=0∧True)∧∀ r:List Int,rowP t r→k [⟨.sl I,r⟩,⟨tErr,(0:Int)⟩])
def anTop(t:Tr)(ts:List Int):Ann :=
 [joinAll,loopAt 19 Nat [] (fun st i=>St.at (St.only st [1,2,7,13,15,21]) [(23,.d I (i:Int))]) (fun _ i=>i≤(plain t).length∧True) (fun i=>(plain t).length - i),
  loopAt 30 Nat [] (fun st i=>St.at (St.only st [1,2,7,26]) [(28,.d I (i:Int))]) (fun _ i=>i≤(stamps t ts).length∧True) (fun i=>(stamps t ts).length - i),
  loopAt 33 Nat [] (fun st j=>St.at (St.only st [1,2,7,26,28]) [(29,.d I (j:Int))]) (fun _ j=>j≤(stamps t ts).length∧True) (fun j=>(stamps t ts).length - j)]
open Go.Vc
set_option linter.unusedVariables false
theorem vcTop(t:Tr)(ts:List Int)(k:List Dat→Prop):vcF ⟨Eh,[(4,cBehind),(5,cInts),(6,cOrd),(7,cCheck),(8,cWid),(9,cRanks),(10,cPlain),(11,cDown),(12,H.cCount),(13,cRowT),(14,cMany),(15,cIsRow),(16,cStamps),(17,cBit),(18,cLess)],glT,[],[]⟩ (anTop t ts) (Tryd.f3.body.getD .skip) Tryd.f3.ntmps [(.tmp 4,.bool)] [⟨tTr,t⟩,⟨.sl I,ts⟩] k=(
 True∧((!decide (ordE ((((List.replicate (3:Nat) (0:Int)).set (0:Nat) (2:Int)).set (1:Nat) (4:Int)).set (2:Nat) (0:Int))=(0:Int)))=true→k [Dat.mk Ty.bool false])∧((!decide (ordE ((((List.replicate (3:Nat) (0:Int)).set (0:Nat) (2:Int)).set (1:Nat) (4:Int)).set (2:Nat) (0:Int))=(0:Int)))=false→True∧((!(if ordE ((((List.replicate (3:Nat) (0:Int)).set (0:Nat) (2:Int)).set (1:Nat) (4:Int)).set (2:Nat) (0:Int))=(0:Int) then clI ((((List.replicate (3:Nat) (0:Int)).set (0:Nat) (2:Int)).set (1:Nat) (4:Int)).set (2:Nat) (0:Int)) else[])==(((List.replicate (3:Nat) (0:Int)).set (0:Nat) (6:Int)).set (1:Nat) (4:Int)).set (2:Nat) (0:Int))=true→k [Dat.mk Ty.bool false])∧((!(if ordE ((((List.replicate (3:Nat) (0:Int)).set (0:Nat) (2:Int)).set (1:Nat) (4:Int)).set (2:Nat) (0:Int))=(0:Int) then clI ((((List.replicate (3:Nat) (0:Int)).set (0:Nat) (2:Int)).set (1:Nat) (4:Int)).set (2:Nat) (0:Int)) else[])==(((List.replicate (3:Nat) (0:Int)).set (0:Nat) (6:Int)).set (1:Nat) (4:Int)).set (2:Nat) (0:Int))=false→True∧((!ordB t)=true→True∧((!decide (chk t=(0:Int)))=true→k [Dat.mk Ty.bool true])∧((!decide (chk t=(0:Int)))=false→k [Dat.mk Ty.bool (decide ((12:Int)<(↑(List.length t.snd.fst):Int)))]))∧((!ordB t)=false→True∧True∧∃ (t_1:Int×List Ev×Unit),(chk t_1=(0:Int)∧t_1.snd.fst.length≤(12:Nat)∧ordO t=aftI t_1)∧True∧True∧True∧(chk t=(0:Int)∧True)∧∀ (r:List Int),rowP t r→((!decide (ordE (ordO t)=(0:Int)))=true→k [Dat.mk Ty.bool false])∧((!decide (ordE (ordO t)=(0:Int)))=false→((!decide (ordE (ordO t)=(0:Int)))=true→k [Dat.mk Ty.bool false])∧((!decide (ordE (ordO t)=(0:Int)))=false→((!decide ((0:Int)=(0:Int)))=true→k [Dat.mk Ty.bool false])∧((!decide ((0:Int)=(0:Int)))=false→((!decide (chk t=(0:Int)))=true→k [Dat.mk Ty.bool false])∧((!decide (chk t=(0:Int)))=false→((!decide (ordE (ordO t)=(0:Int)))=true→k [Dat.mk Ty.bool false])∧((!decide (ordE (ordO t)=(0:Int)))=false→((!decide (chk t=(0:Int)))=true→k [Dat.mk Ty.bool false])∧((!decide (chk t=(0:Int)))=false→((!decide ((0:Int)=(0:Int)))=true→k [Dat.mk Ty.bool false])∧((!decide ((0:Int)=(0:Int)))=false→(True∧((!(if ordE (ordO t)=(0:Int) then clI (ordO t) else[])==ordO t)=true→True)∧((!(if ordE (ordO t)=(0:Int) then clI (ordO t) else[])==ordO t)=false→(decide ((if ordE (ordO t)=(0:Int) then (↑(widL (clI (ordO t)) ((2:Nat) ^ (ordO t).length)):Int) else (0:I.D))<(0:Int))=true→True)∧(decide ((if ordE (ordO t)=(0:Int) then (↑(widL (clI (ordO t)) ((2:Nat) ^ (ordO t).length)):Int) else (0:I.D))<(0:Int))=false→True∧(decide (t.fst<pop (if ordE (ordO t)=(0:Int) then (↑(widL (clI (ordO t)) ((2:Nat) ^ (ordO t).length)):Int) else (0:I.D)))=true→True)∧(decide (t.fst<pop (if ordE (ordO t)=(0:Int) then (↑(widL (clI (ordO t)) ((2:Nat) ^ (ordO t).length)):Int) else (0:I.D)))=false→((!decide ((↑(plain t).length:Int)=(↑(rkL t_1).length:Int)))=true→True)∧((!decide ((↑(plain t).length:Int)=(↑(rkL t_1).length:Int)))=false→True)))))∧((!(if ordE (ordO t)=(0:Int) then clI (ordO t) else[])==ordO t||(decide ((if ordE (ordO t)=(0:Int) then (↑(widL (clI (ordO t)) ((2:Nat) ^ (ordO t).length)):Int) else (0:I.D))<(0:Int))||(decide (t.fst<pop (if ordE (ordO t)=(0:Int) then (↑(widL (clI (ordO t)) ((2:Nat) ^ (ordO t).length)):Int) else (0:I.D)))||(!decide ((↑(plain t).length:Int)=(↑(rkL t_1).length:Int)) || !decide ((if ordE (ordO t)=(0:Int) then (↑(dwnN (preI (ordO t)) ((2:Nat) ^ (ordO t).length)):Int) else (0:I.D))=if chk t=(0:Int) then (↑(H.countW t):Int) else (0:I.D))))))=true→k [Dat.mk Ty.bool false])∧((!(if ordE (ordO t)=(0:Int) then clI (ordO t) else[])==ordO t||(decide ((if ordE (ordO t)=(0:Int) then (↑(widL (clI (ordO t)) ((2:Nat) ^ (ordO t).length)):Int) else (0:I.D))<(0:Int))||(decide (t.fst<pop (if ordE (ordO t)=(0:Int) then (↑(widL (clI (ordO t)) ((2:Nat) ^ (ordO t).length)):Int) else (0:I.D)))||(!decide ((↑(plain t).length:Int)=(↑(rkL t_1).length:Int)) || !decide ((if ordE (ordO t)=(0:Int) then (↑(dwnN (preI (ordO t)) ((2:Nat) ^ (ordO t).length)):Int) else (0:I.D))=if chk t=(0:Int) then (↑(H.countW t):Int) else (0:I.D))))))=false→(∃ (x:Nat),(x≤(plain t).length∧True)∧(ts=ts∧([]:List Nat)=[]∧ordO t=ordO t∧rkL t_1=rkL t_1∧plain t=plain t∧r=r∧(0:Int)=(↑x:Int)∧True)∧(((24:Nat)=(24:Nat)∧t=t)∧True)∧tabD=tabD∧True)∧∀ (x:Nat),x≤(plain t).length∧True→(decide ((↑x:Int)<(↑(plain t).length:Int))=true→((0:Int)≤(↑x:Int)∧(↑x:Int)<(↑(plain t).length:Int)∧(0:Int)≤(↑x:Int)∧(↑x:Int)<(↑(rkL t_1).length:Int)∧inK IntKind.i64 ((rkL t_1).getD (↑x:Int).toNat (0:Int)+(1:Int))∧True)∧((!decide ((plain t).getD (↑x:Int).toNat (0:Int)=(rkL t_1).getD (↑x:Int).toNat (0:Int)+(1:Int)))=true→k [Dat.mk Ty.bool false])∧((!decide ((plain t).getD (↑x:Int).toNat (0:Int)=(rkL t_1).getD (↑x:Int).toNat (0:Int)+(1:Int)))=false→inK IntKind.i64 ((↑x:Int)+(1:Int))∧∃ (x_1:Nat),(x_1≤(plain t).length∧True)∧(plain t).length - x_1<(plain t).length - x∧(ts=ts∧([]:List Nat)=[]∧ordO t=ordO t∧rkL t_1=rkL t_1∧plain t=plain t∧r=r∧(↑x:Int)+(1:Int)=(↑x_1:Int)∧True)∧(((24:Nat)=(24:Nat)∧t=t)∧True)∧tabD=tabD∧True))∧(decide ((↑x:Int)<(↑(plain t).length:Int))=false→∃ (t_2:Int×List Ev×Unit),(chk t_2=(0:Int)∧t_2.snd.fst.length≤(12:Nat)∧ordO t=aftI t_2∧rowP t_2 r)∧((!decide ((0:Int)=(0:Int)))=true→k [Dat.mk Ty.bool false])∧((!decide ((0:Int)=(0:Int)))=false→((!true)=true→k [Dat.mk Ty.bool false])∧((!true)=false→True∧((!decide (hchk t ts=(0:Int)))=true→k [Dat.mk Ty.bool true])∧((!decide (hchk t ts=(0:Int)))=false→(∃ (x:Nat),(x≤(stamps t ts).length∧True)∧(ts=ts∧([]:List Nat)=[]∧ordO t=ordO t∧stamps t ts=stamps t ts∧(0:Int)=(↑x:Int)∧True)∧(((24:Nat)=(24:Nat)∧t=t)∧True)∧tabD=tabD∧True)∧∀ (x:Nat),x≤(stamps t ts).length∧True→(decide ((↑x:Int)<(↑(stamps t ts).length:Int))=true→(decide ((↑(stamps t ts).length:Int)=(↑(ordO t).length:Int))=true→(∃ (x_1:Nat),(x_1≤(stamps t ts).length∧True)∧(ts=ts∧([]:List Nat)=[]∧ordO t=ordO t∧stamps t ts=stamps t ts∧(↑x:Int)=(↑x:Int)∧(0:Int)=(↑x_1:Int)∧True)∧(((24:Nat)=(24:Nat)∧t=t)∧True)∧tabD=tabD∧True)∧∀ (x_1:Nat),x_1≤(stamps t ts).length∧True→(decide ((↑x_1:Int)<(↑(stamps t ts).length:Int))=true→((0:Int)≤(↑x:Int)∧(↑x:Int)<(↑(ordO t).length:Int)∧True∧(bitB ((ordO t).getD (↑x:Int).toNat (0:Int)) (↑x_1:Int)=true→(0:Int)≤(↑x:Int)∧(↑x:Int)<(↑(stamps t ts).length:Int)∧(0:Int)≤(↑x_1:Int)∧(↑x_1:Int)<(↑(stamps t ts).length:Int)∧True∧True)∧(bitB ((ordO t).getD (↑x:Int).toNat (0:Int)) (↑x_1:Int)=false→True))∧((bitB ((ordO t).getD (↑x:Int).toNat (0:Int)) (↑x_1:Int) && !lessB ((stamps t ts).getD (↑x:Int).toNat ((0:Int),(0:Int),())) ((stamps t ts).getD (↑x_1:Int).toNat ((0:Int),(0:Int),())))=true→k [Dat.mk Ty.bool false])∧((bitB ((ordO t).getD (↑x:Int).toNat (0:Int)) (↑x_1:Int) && !lessB ((stamps t ts).getD (↑x:Int).toNat ((0:Int),(0:Int),())) ((stamps t ts).getD (↑x_1:Int).toNat ((0:Int),(0:Int),())))=false→inK IntKind.i64 ((↑x_1:Int)+(1:Int))∧∃ (x_2:Nat),(x_2≤(stamps t ts).length∧True)∧(stamps t ts).length - x_2<(stamps t ts).length - x_1∧(ts=ts∧([]:List Nat)=[]∧ordO t=ordO t∧stamps t ts=stamps t ts∧(↑x:Int)=(↑x:Int)∧(↑x_1:Int)+(1:Int)=(↑x_2:Int)∧True)∧(((24:Nat)=(24:Nat)∧t=t)∧True)∧tabD=tabD∧True))∧(decide ((↑x_1:Int)<(↑(stamps t ts).length:Int))=false→inK IntKind.i64 ((↑x:Int)+(1:Int))∧∃ (x_2:Nat),(x_2≤(stamps t ts).length∧True)∧(stamps t ts).length - x_2<(stamps t ts).length - x∧(ts=ts∧([]:List Nat)=[]∧ordO t=ordO t∧stamps t ts=stamps t ts∧(↑x:Int)+(1:Int)=(↑x_2:Int)∧True)∧(((24:Nat)=(24:Nat)∧t=t)∧True)∧tabD=tabD∧True))∧(decide ((↑(stamps t ts).length:Int)=(↑(ordO t).length:Int))=false→k [Dat.mk Ty.bool (decide ((↑(stamps t ts).length:Int)=(↑(ordO t).length:Int)))]))∧(decide ((↑x:Int)<(↑(stamps t ts).length:Int))=false→k [Dat.mk Ty.bool (decide ((↑(stamps t ts).length:Int)=(↑(ordO t).length:Int)))]))))))))))))))))):=by kernel_rfl
open Go.Vc
set_option linter.unusedVariables false
theorem vcOrd(t:Tr)(k:List Dat→Prop):vcF ⟨Et,[(21,cBefore),(17,cBit),(22,H.cWith)],glT,[],[]⟩ (anOrd t) (Tryd.f6.body.getD .skip) Tryd.f6.ntmps [(.tmp 2,.sl I),(.tmp 3,.bool)] [⟨tTr,t⟩] k=(
 True∧((!decide (chk t=(0:Int)))=true→k [Dat.mk (I).sl [],Dat.mk Ty.bool false])∧((!decide (chk t=(0:Int)))=false→((!decide ((↑(bef t).length:Int)=(↑(List.length t.snd.fst):Int)))=true→k [Dat.mk (I).sl [],Dat.mk Ty.bool false])∧((!decide ((↑(bef t).length:Int)=(↑(List.length t.snd.fst):Int)))=false→(decide ((12:Int)<(↑(bef t).length:Int))=true→k [Dat.mk (I).sl [],Dat.mk Ty.bool false])∧(decide ((12:Int)<(↑(bef t).length:Int))=false→(0:Int)≤(↑(bef t).length:Int)∧(↑(bef t).length:Int)≤(↑(bef t).length:Int)∧(↑(bef t).length:Int)≤(1000000000:Int)∧(∃ (x:Nat),(x≤t.snd.fst.length∧ordB t=true)∧(([]:List Nat)=[]∧bef t=bef t∧True∧(0:Int)=(↑x:Int)∧True)∧(((24:Nat)=(24:Nat)∧t=t)∧((3:Nat)=(3:Nat)∧List.replicate (↑(bef t).length:Int).toNat (0:Int)=aftR t x (0:Nat))∧True)∧tabD=tabD∧True)∧∀ (x:Nat),x≤t.snd.fst.length∧ordB t=true→(decide ((↑x:Int)<(↑(bef t).length:Int))=true→(∃ (x_1:Nat),(x_1≤(↑x:Int).toNat∧True)∧(([]:List Nat)=[]∧bef t=bef t∧True∧(↑x:Int)=(↑x:Int)∧(0:Int)=(↑x_1:Int)∧True)∧(((24:Nat)=(24:Nat)∧t=t)∧((3:Nat)=(3:Nat)∧aftR t x (0:Nat)=aftR t (↑x:Int).toNat x_1)∧True)∧tabD=tabD∧True)∧∀ (x_1:Nat),x_1≤(↑x:Int).toNat∧True→(decide ((↑x_1:Int)<(↑x:Int))=true→(0:Int)≤(↑x:Int)∧(↑x:Int)<(↑(bef t).length:Int)∧True∧(bitB ((bef t).getD (↑x:Int).toNat (0:Int)) (↑x_1:Int)=true→(0:Int)≤(↑x_1:Int)∧(↑x_1:Int)<(↑(aftR t (↑x:Int).toNat x_1).length:Int)∧(H.setP ((aftR t (↑x:Int).toNat x_1).getD (↑x_1:Int).toNat (0:Int))∧(0:Int)≤(↑x:Int)∧(↑x:Int)≤(59:Int))∧(0:Int)≤(↑x_1:Int)∧(↑x_1:Int)<(↑(aftR t (↑x:Int).toNat x_1).length:Int)∧inK IntKind.i64 ((↑x_1:Int)+(1:Int))∧∃ (x_2:Nat),(x_2≤(↑x:Int).toNat∧True)∧t.snd.fst.length - x_2<t.snd.fst.length - x_1∧(([]:List Nat)=[]∧bef t=bef t∧True∧(↑x:Int)=(↑x:Int)∧(↑x_1:Int)+(1:Int)=(↑x_2:Int)∧True)∧(((24:Nat)=(24:Nat)∧t=t)∧((3:Nat)=(3:Nat)∧(aftR t (↑x:Int).toNat x_1).set (↑x_1:Int).toNat (↑(((aftR t (↑x:Int).toNat x_1).getD (↑x_1:Int).toNat (0:Int)).toNat ||| (2:Nat) ^ (↑x:Int).toNat):Int)=aftR t (↑x:Int).toNat x_2)∧True)∧tabD=tabD∧True)∧(bitB ((bef t).getD (↑x:Int).toNat (0:Int)) (↑x_1:Int)=false→inK IntKind.i64 ((↑x_1:Int)+(1:Int))∧∃ (x_2:Nat),(x_2≤(↑x:Int).toNat∧True)∧t.snd.fst.length - x_2<t.snd.fst.length - x_1∧(([]:List Nat)=[]∧bef t=bef t∧True∧(↑x:Int)=(↑x:Int)∧(↑x_1:Int)+(1:Int)=(↑x_2:Int)∧True)∧(((24:Nat)=(24:Nat)∧t=t)∧((3:Nat)=(3:Nat)∧aftR t (↑x:Int).toNat x_1=aftR t (↑x:Int).toNat x_2)∧True)∧tabD=tabD∧True))∧(decide ((↑x_1:Int)<(↑x:Int))=false→inK IntKind.i64 ((↑x:Int)+(1:Int))∧∃ (x_2:Nat),(x_2≤t.snd.fst.length∧ordB t=true)∧t.snd.fst.length - x_2<t.snd.fst.length - x∧(([]:List Nat)=[]∧bef t=bef t∧True∧(↑x:Int)+(1:Int)=(↑x_2:Int)∧True)∧(((24:Nat)=(24:Nat)∧t=t)∧((3:Nat)=(3:Nat)∧aftR t (↑x:Int).toNat x_1=aftR t x_2 (0:Nat))∧True)∧tabD=tabD∧True))∧(decide ((↑x:Int)<(↑(bef t).length:Int))=false→k [Dat.mk (I).sl (aftR t x (0:Nat)),Dat.mk Ty.bool true]))))):=by kernel_rfl
open Go.Vc
theorem aftR_len(t:Tr)(i j:Nat):(aftR t i j).length=t.2.1.length:=by simp[aftR]
theorem aftR_at{t:Tr}{i j m:Nat}(h:m<t.2.1.length):(aftR t i j).getD m 0=((aft t.2.1 (if m<j then i+1 else i) m:Nat):Int):=by
 unfold aftR
 rw[List.getD_eq_getElem?_getD,List.getElem?_map,List.getElem?_range h];rfl
theorem ext_n{n:Nat}{a b:List Int}(ha:a.length=n)(hb:b.length=n)(h:∀ m,m<n→a.getD m 0=b.getD m 0):a=b:=by
 refine List.ext_getElem (by omega) fun m h1 h2 => ?_
 have:=h m (by omega)
 rw[List.getD_eq_getElem?_getD,List.getElem?_eq_getElem h1,List.getD_eq_getElem?_getD,List.getElem?_eq_getElem h2] at this
 exact this
theorem aft_same{l:List Ev}{i m:Nat}(h:(bB l i).testBit m=false):aft l (i+1) m=aft l i m:=by
 rw[aft_succ,if_neg (by rw[h];decide)]
theorem aftR_zero(t:Tr):List.replicate t.2.1.length (0:Int)=aftR t 0 0:=by
 refine ext_n List.length_replicate (aftR_len _ _ _) fun m hm => ?_
 rw[aftR_at hm,List.getD_eq_getElem?_getD,List.getElem?_replicate,if_pos hm];rfl
theorem aftR_old{t:Tr}{i j:Nat}(h:(bB t.2.1 i).testBit j=false):aftR t i j=aftR t i (j+1):=by
 refine ext_n (aftR_len _ _ _) (aftR_len _ _ _) fun m hm => ?_
 rw[aftR_at hm,aftR_at hm]
 by_cases e:m=j
 · subst e
   rw[if_neg (by omega),if_pos (by omega),aft_same h]
 · by_cases e2:m<j
   · rw[if_pos e2,if_pos (by omega)]
   · rw[if_neg e2,if_neg (by omega)]
theorem aftR_new{t:Tr}{i j:Nat}(hj:j<t.2.1.length)(h:(bB t.2.1 i).testBit j=true):(aftR t i j).set j (((aft t.2.1 i j ||| 2 ^ i:Nat)):Int)=aftR t i (j+1):=by
 refine ext_n (by rw[List.length_set,aftR_len]) (aftR_len _ _ _) fun m hm => ?_
 rw[aftR_at hm,List.getD_eq_getElem?_getD,List.getElem?_set]
 by_cases e:j=m
 · subst e
   rw[if_pos rfl,if_pos (by rw[aftR_len];exact hm),if_pos (by omega),aft_succ,if_pos h];rfl
 · rw[if_neg e,← List.getD_eq_getElem?_getD,aftR_at hm]
   by_cases e2:m<j
   · rw[if_pos e2,if_pos (by omega)]
   · rw[if_neg e2,if_neg (by omega)]
theorem aftR_end{t:Tr}(g:Good t){i:Nat}(hi:i<t.2.1.length):aftR t i i=aftR t (i+1) 0:=by
 refine ext_n (aftR_len _ _ _) (aftR_len _ _ _) fun m hm => ?_
 rw[aftR_at hm,aftR_at hm,if_neg (by omega:¬ m<0)]
 by_cases e:m<i
 · rw[if_pos e]
 · rw[if_neg e,aft_same]
   cases h:(bB t.2.1 i).testBit m with
   | false=>rfl
   | true=>have:=bB_less (good_prc' g) (good_frm' g) hi h;omega
theorem aftR_all(t:Tr):aftR t t.2.1.length 0=aftI t:=by
 refine ext_n (aftR_len _ _ _) (aftI_len t) fun m hm => ?_
 rw[aftR_at hm,aftI_at hm,if_neg (by omega)]
theorem ord_vc(t:Tr)(k:List Dat→Prop)(hk:k [⟨.sl I,ordO t⟩,⟨.bool,ordB t⟩]) :
   vcF ⟨Et,[(21,cBefore),(17,cBit),(22,H.cWith)],glT,[],[]⟩ (anOrd t) (Tryd.f6.body.getD .skip) Tryd.f6.ntmps [(.tmp 2,.sl I),(.tmp 3,.bool)] [⟨tTr,t⟩] k:=by
 rw[vcOrd]
 have no:ordB t=false→k [⟨.sl I,[]⟩,⟨.bool,false⟩]:=fun h=>by
   have hk:=hk
   unfold ordO at hk
   rw[h,if_neg (by decide)] at hk
   exact hk
 simp only[Bool.not_eq_true',Bool.not_eq_false',decide_eq_true_eq,decide_eq_false_iff_not,true_and,and_true,eq_self,Int.toNat_natCast,aftR_len]
 refine⟨fun h=>no (by unfold ordB;rw[decide_eq_false h];rfl),fun hc => ?_⟩
 have g:=good_of hc
 have hbl:=bef_len hc
 simp only[hbl]
 refine⟨fun h=>absurd trivial h,fun _=>⟨fun h=>no (by unfold ordB;rw[decide_eq_false (by omega:¬ t.2.1.length≤12),Bool.and_false]),fun h => ?_⟩⟩
 have hB:ordB t=true:=by unfold ordB;rw[decide_eq_true hc,decide_eq_true (by omega)];rfl
 refine⟨by omega,by omega,by omega,⟨0,⟨by omega,hB⟩,rfl,aftR_zero t⟩,fun i hi=>⟨fun hlt=>⟨⟨0,by omega,rfl,rfl⟩,fun j hj=>⟨fun hlj => ?_,fun hge => ?_⟩⟩,fun hge => ?_⟩⟩
 · have hil:i<t.2.1.length:=by omega
   have hjl:j<t.2.1.length:=by omega
   have hat := @aftR_at t i j j hjl
   rw[if_neg (by omega)] at hat
   have hal:=aft_lt t.2.1 i j
   have hap:2 ^ i≤2 ^ 12:=Nat.pow_le_pow_right (by decide) (by omega)
   have hin:inK IntKind.i64 ((j:Int)+1):=inK_i64.2 ⟨by omega,by omega⟩
   rw[bef_at hc hil,hat,Int.toNat_natCast]
   have hbb:bitB ((bB t.2.1 i:Nat):Int) (j:Int)=(bB t.2.1 i).testBit j:=by
     unfold bitB
     rw[decide_eq_true (Int.natCast_nonneg _),Int.toNat_natCast,Int.toNat_natCast];rfl
   rw[hbb]
   refine⟨by omega,by omega,fun hb=>⟨by omega,by omega,⟨⟨Int.natCast_nonneg _,by generalize 2 ^ i=p at *;omega⟩,by omega,by omega⟩,by omega,by omega,hin,j+1,by omega,by omega,by omega,aftR_new hjl hb⟩,fun hb=>⟨hin,j+1,by omega,by omega,by omega,aftR_old hb⟩⟩
 · refine⟨inK_i64.2 ⟨by omega,by omega⟩,i+1,⟨by omega,hB⟩,by omega,by omega,?_⟩
   rw[show j=i by omega]
   exact aftR_end g (by omega)
 · rw[show i=t.2.1.length by omega,aftR_all]
   unfold ordO at hk
   rw[hB,if_pos rfl] at hk
   exact hk
theorem okOrd:PlainOk Tryd.prog glT 6 cOrd:=by
 refine plain_of (CxOk.mk' Et_ok rfl mixed (gl:=glT) (GOk.cons (PlainOk.sub (by intro x hx;cases hx) okBefore) Tryd.func21 (by kernel_rfl) (by kernel_rfl) (GOk.cons (PlainOk.sub (by intro x hx;cases hx) okBit) Tryd.func17 (by kernel_rfl) (by kernel_rfl) (GOk.cons (PlainOk.sub (by intro x hx;cases hx) H.okWith) Tryd.func22 (by kernel_rfl) (by kernel_rfl) GOk.nil))) GoOk.nil noIt) Tryd.func6 (c:=Tryd.f6.body.getD .skip) (rvs:=[(.tmp 2,.sl I),(.tmp 3,.bool)]) (by kernel_rfl) (by kernel_rfl) (by kernel_rfl) ?_
 intro ds k ⟨hp,hk⟩ hwf
 obtain⟨t,rfl,-⟩:=dest1 hp
 exact⟨anOrd t,ord_vc t k hk⟩
end Go.Proofs.YtfmiecbmikncpaaDoor

namespace Go.Proofs.YtfmiecbmikncpaaDoor.H
open Go.Vc
def downP(t:Tr)(s:Nat):Prop:=∀ i,i<t.2.1.length→s.testBit i=true→∀ k,(bB t.2.1 i).testBit k=true→s.testBit k=true
theorem take_filter{q:Int→Bool}:∀ l:List Int,l.Pairwise (· < ·)→(∀ x∈l,∀ y∈l,x<y→q y=true→q x=true)→l.take (l.filter q).length=l.filter q:=by
 intro l
 induction l with
 | nil=>intro _ _;rfl
 | cons x r ih =>
   intro hp hq
   obtain⟨h1,h2⟩:=List.pairwise_cons.1 hp
   by_cases hx:q x=true
   · rw[List.filter_cons_of_pos hx,List.length_cons,List.take_succ_cons,ih h2 fun a ha b hb=>hq a (List.mem_cons_of_mem _ ha) b (List.mem_cons_of_mem _ hb)]
   · have e:r.filter q=[]:=List.filter_eq_nil_iff.2 fun y hy hqy=>hx (hq x List.mem_cons_self y (List.mem_cons_of_mem _ hy) (h1 y hy) hqy)
     rw[List.filter_cons_of_neg hx,e];rfl
def cutS(t:Tr)(s:Nat):List Int:=(List.range t.1.toNat).map fun (p:Nat)=>(((ofT t (p:Int)).filter fun y=>s.testBit y.toNat).length:Int)
theorem cutS_len(t:Tr)(s:Nat):(cutS t s).length=t.1.toNat:=by simp[cutS]
theorem cutS_at{t:Tr}{s p:Nat}(h:p<t.1.toNat):(cutS t s).getD p 0=(((ofT t (p:Int)).filter fun y=>s.testBit y.toNat).length:Int):=by
 unfold cutS
 rw[List.getD_eq_getElem?_getD,List.getElem?_map,List.getElem?_range h];rfl
theorem cutS_take{t:Tr}{s p:Nat}(hc:chk t=0)(hs:downP t s)(h:p<t.1.toNat):takeC t (cutS t s) p=(ofT t (p:Int)).filter fun y=>s.testBit y.toNat:=by
 have g:=good_of hc
 unfold takeC
 rw[cutS_at h,Int.toNat_natCast]
 refine take_filter _ (ofU_sorted _ _ _) fun x hx y hy hxy hq => ?_
 obtain⟨x0,x1,x2⟩:=ofT_mem hx
 obtain⟨y0,y1,y2⟩:=ofT_mem hy
 refine hs y.toNat (by omega) hq x.toNat (bB_must (good_prc' g) (good_frm' g) (by omega) (by omega) (.inl ?_))
 unfold prc
 rw[x2,y2]
theorem cutS_set{t:Tr}{s:Nat}(hc:chk t=0)(hs:downP t s)(hl:s<2 ^ t.2.1.length):setN t (cutS t s)=s:=by
 have g:=good_of hc
 refine Nat.eq_of_testBit_eq fun i => ?_
 rw[Bool.eq_iff_iff,setN_bit]
 constructor
 · rintro⟨p,hp,hi⟩
   rw[cutS_len] at hp
   rw[cutS_take hc hs hp] at hi
   have:=(List.mem_filter.1 hi).2
   rwa [Int.toNat_natCast] at this
 · intro hi
   have hil:i<t.2.1.length:=by
     refine Nat.lt_of_not_le fun hle => ?_
     rw[Nat.testBit_lt_two_pow (Nat.lt_of_lt_of_le hl (Nat.pow_le_pow_right (by decide) hle))] at hi
     cases hi
   have hev:=g.ev i hil
   have hp:(t.2.1.getD i (0,0,())).1.toNat<t.1.toNat:=by omega
   refine⟨_,by rw[cutS_len];exact hp,?_⟩
   rw[cutS_take hc hs hp]
   exact List.mem_filter.2 ⟨ofU_mem.2 ⟨i,hil,by omega,rfl⟩,by rw[Int.toNat_natCast];exact hi⟩
theorem cutS_whole{t:Tr}{s:Nat}(hc:chk t=0)(hs:downP t s)(hl:s<2 ^ t.2.1.length):wholeP t (cutS t s):=by
 have g:=good_of hc
 have hcut:cutE t (cutS t s)=0:=cut_mk hc (by rw[cutS_len];have:=g.procs;omega) fun p hp=>by
   rw[cutS_len] at hp
   rw[cutS_at hp]
   have:=List.length_filter_le (fun y:Int=>s.testBit y.toNat) (ofT t (p:Int))
   omega
 refine⟨hcut,(whole_before hc _ hcut).2 ?_⟩
 rw[cutS_set hc hs hl]
 exact hs
theorem setN_lt'{t:Tr}(c:List Int):setN t c<2 ^ t.2.1.length:=by
 refine Nat.lt_pow_two_of_testBit _ fun i hi => ?_
 cases h:(setN t c).testBit i with
 | false=>rfl
 | true =>
   obtain⟨p,_,hm⟩:=(setN_bit t c i).1 h
   have:=(takeC_mem hm).2.1
   omega
theorem takeC_sorted(t:Tr)(c:List Int)(p:Nat):(takeC t c p).Pairwise (· < ·):=(ofU_sorted _ _ _).sublist (List.take_sublist _ _)
theorem setN_sub{t:Tr}{x y:List Int}(he:setN t x=setN t y){p:Nat}(hp:p<x.length){i:Int}(hi:i∈takeC t x p):i∈takeC t y p:=by
 have hm:=takeC_mem hi
 have hx:=(setN_bit t x i.toNat).2 ⟨p,hp,by rw[show ((i.toNat:Nat):Int)=i by omega];exact hi⟩
 rw[he] at hx
 obtain⟨q,hq,hy⟩:=(setN_bit t y i.toNat).1 hx
 rw[show ((i.toNat:Nat):Int)=i by omega] at hy
 have e:p=q:=by have:=(takeC_mem hy).2.2;rw[hm.2.2] at this;omega
 rw[e];exact hy
theorem setN_inj{t:Tr}{x y:List Int}(hx:cutE t x=0)(hy:cutE t y=0)(he:setN t x=setN t y):x=y:=by
 obtain⟨_,x1,x2⟩:=cut_ok hx
 obtain⟨_,y1,y2⟩:=cut_ok hy
 have hl:x.length=y.length:=by omega
 refine List.ext_getElem hl fun p hpx hpy => ?_
 have nd (c:List Int):(takeC t c p).Nodup:=List.nodup_iff_pairwise_ne.2 ((takeC_sorted t c p).imp fun h=>by omega)
 have h1:=List.Nodup.length_le_of_subset (nd x) fun i hi=>setN_sub he hpx hi
 have h2:=List.Nodup.length_le_of_subset (nd y) fun i hi=>setN_sub he.symm hpy hi
 have a:=x2 p hpx
 have b:=y2 p hpy
 unfold takeC at h1 h2
 rw[List.length_take,List.length_take] at h1 h2
 have e1:x.getD p 0=x[p]:=by rw[List.getD_eq_getElem?_getD,List.getElem?_eq_getElem hpx];rfl
 have e2:y.getD p 0=y[p]:=by rw[List.getD_eq_getElem?_getD,List.getElem?_eq_getElem hpy];rfl
 rw[← e1,← e2]
 omega
theorem down_count{t:Tr}(hc:chk t=0)(q:Nat→Bool)(hq:∀ s,s<2 ^ t.2.1.length→(q s=true↔downP t s)):((List.range (2 ^ t.2.1.length)).filter q).length=countW t:=by
 rw[countW_eq]
 refine Nat.le_antisymm ?_ ?_
 · have key:=List.Nodup.length_le_of_subset (l₁:=((List.range (2 ^ t.2.1.length)).filter q).map (cutS t)) (l₂:=wholeL t) ?_ fun x hx => ?_
   · rw[List.length_map] at key;exact key
   · rw[List.nodup_iff_pairwise_ne,List.pairwise_map]
     refine List.Pairwise.imp_of_mem ?_ (List.nodup_iff_pairwise_ne.1 ((List.nodup_range).filter _))
     intro a b ha hb hne e
     obtain⟨a1,a2⟩:=List.mem_filter.1 ha
     obtain⟨b1,b2⟩:=List.mem_filter.1 hb
     have a1:=List.mem_range.1 a1
     have b1:=List.mem_range.1 b1
     refine hne ?_
     rw[← cutS_set hc ((hq a a1).1 a2) a1,e,cutS_set hc ((hq b b1).1 b2) b1]
   · obtain⟨s,hs,rfl⟩:=List.mem_map.1 hx
     obtain⟨s1,s2⟩:=List.mem_filter.1 hs
     have s1:=List.mem_range.1 s1
     exact (whole_mem hc _).2 (cutS_whole hc ((hq s s1).1 s2) s1)
 · have key:=List.Nodup.length_le_of_subset (l₁:=(wholeL t).map (setN t)) (l₂:=(List.range (2 ^ t.2.1.length)).filter q) ?_ fun s hs => ?_
   · rw[List.length_map] at key;exact key
   · rw[List.nodup_iff_pairwise_ne,List.pairwise_map]
     refine List.Pairwise.imp_of_mem ?_ (List.nodup_iff_pairwise_ne.1 (wholeL_nodup t))
     intro a b ha hb hne e
     exact hne (setN_inj ((whole_mem hc a).1 ha).1 ((whole_mem hc b).1 hb).1 e)
   · obtain⟨x,hx,rfl⟩:=List.mem_map.1 hs
     have hw:=(whole_mem hc x).1 hx
     exact List.mem_filter.2 ⟨List.mem_range.2 (setN_lt' x),(hq _ (setN_lt' x)).2 ((whole_before hc x hw.1).1 hw.2)⟩
end Go.Proofs.YtfmiecbmikncpaaDoor.H

namespace Go.Proofs.YtfmiecbmikncpaaDoor
open Go.Vc
set_option linter.unusedVariables false
theorem vcHChk(t:Tr)(ts:List Int)(k:List Dat→Prop):vcF ⟨Eh,[(7,cCheck),(23,cWithin)],[],[],[]⟩ (anHChk t ts) (Tryd.f39.body.getD .skip) Tryd.f39.ntmps [(.tmp 4,tErr)] [⟨tTr,t⟩,⟨.sl I,ts⟩] k=(
 True∧((!decide (chk t=(0:Int)))=true→k [Dat.mk (Ty.err (53:Nat)) (chk t)])∧((!decide (chk t=(0:Int)))=false→((!decide ((↑ts.length:Int)=(↑(List.length t.snd.fst):Int)))=true→(3:Int)≠(0:Int)∧k [Dat.mk (Ty.err (53:Nat)) (3:Int)])∧((!decide ((↑ts.length:Int)=(↑(List.length t.snd.fst):Int)))=false→(∃ (x:Nat),(x≤ts.length∧(List.take x ts).all timeB=true)∧(t=t∧ts=ts∧([]:List Nat)=[]∧(0:Int)=(0:Int)∧chk t=chk t∧t=t∧chk t=chk t∧chk t=chk t∧(!decide (chk t=(0:Int))) = !decide (chk t=(0:Int))∧ts=ts∧(↑ts.length:Int)=(↑ts.length:Int)∧[]++[(1:Nat)]=[]++[(1:Nat)]∧t.snd.fst=t.snd.fst∧(↑(List.length t.snd.fst):Int)=(↑(List.length t.snd.fst):Int)∧(!decide ((↑ts.length:Int)=(↑(List.length t.snd.fst):Int))) = !decide ((↑ts.length:Int)=(↑(List.length t.snd.fst):Int))∧ts=ts∧(↑ts.length:Int)=(↑ts.length:Int)∧(0:Int)=(↑x:Int)∧True)∧(((24:Nat)=(24:Nat)∧t=t)∧True)∧True)∧∀ (x:Nat),x≤ts.length∧(List.take x ts).all timeB=true→(decide ((↑x:Int)<(↑ts.length:Int))=true→(0:Int)≤(↑x:Int)∧(↑x:Int)<(↑ts.length:Int)∧True∧((!inB (ts.getD (↑x:Int).toNat (0:Int)) (0:Int) (1000000:Int))=true→(1:Int)≠(0:Int)∧k [Dat.mk (Ty.err (53:Nat)) (1:Int)])∧((!inB (ts.getD (↑x:Int).toNat (0:Int)) (0:Int) (1000000:Int))=false→inK IntKind.i64 ((↑x:Int)+(1:Int))∧∃ (x_1:Nat),(x_1≤ts.length∧(List.take x_1 ts).all timeB=true)∧ts.length - x_1<ts.length - x∧(t=t∧ts=ts∧([]:List Nat)=[]∧(0:Int)=(0:Int)∧chk t=chk t∧t=t∧chk t=chk t∧chk t=chk t∧(!decide (chk t=(0:Int))) = !decide (chk t=(0:Int))∧ts=ts∧(↑ts.length:Int)=(↑ts.length:Int)∧[]++[(1:Nat)]=[]++[(1:Nat)]∧t.snd.fst=t.snd.fst∧(↑(List.length t.snd.fst):Int)=(↑(List.length t.snd.fst):Int)∧(!decide ((↑ts.length:Int)=(↑(List.length t.snd.fst):Int))) = !decide ((↑ts.length:Int)=(↑(List.length t.snd.fst):Int))∧ts=ts∧(↑ts.length:Int)=(↑ts.length:Int)∧(↑x:Int)+(1:Int)=(↑x_1:Int)∧True)∧(((24:Nat)=(24:Nat)∧t=t)∧True)∧True))∧(decide ((↑x:Int)<(↑ts.length:Int))=false→k [Dat.mk (Ty.err (53:Nat)) (0:Int)])))):=by kernel_rfl
theorem vcNext(a b:Stp)(n:Int)(k:List Dat→Prop):vcF ⟨Eh,[],[],[],[]⟩ [] (Tryd.f40.body.getD .skip) Tryd.f40.ntmps [(.cell 6 47,tSt)] [⟨tSt,a⟩,⟨tSt,b⟩,⟨I,n⟩] k=(
 (decide (max (max a.fst b.fst) n=a.fst)=true→inK IntKind.i64 (a.snd.fst+(1:Int))∧(decide (max (max a.fst b.fst) n=b.fst)=true→inK IntKind.i64 (b.snd.fst+(1:Int))∧k [Dat.mk (tEv) (max (max a.fst b.fst) n,max (a.snd.fst+(1:Int)) (b.snd.fst+(1:Int)),())])∧(decide (max (max a.fst b.fst) n=b.fst)=false→k [Dat.mk (tEv) (max (max a.fst b.fst) n,a.snd.fst+(1:Int),())]))∧(decide (max (max a.fst b.fst) n=a.fst)=false→(decide (max (max a.fst b.fst) n=b.fst)=true→inK IntKind.i64 (b.snd.fst+(1:Int))∧k [Dat.mk (tEv) (max (max a.fst b.fst) n,max (0:Int) (b.snd.fst+(1:Int)),())])∧(decide (max (max a.fst b.fst) n=b.fst)=false→k [Dat.mk (tEv) (max (max a.fst b.fst) n,(0:Int),())]))):=by kernel_rfl
theorem vcStamps(t:Tr)(ts:List Int)(k:List Dat→Prop):vcF ⟨Eh,[(39,cHChk),(40,cNext)],[],[],[]⟩ (anStamps t ts) (Tryd.f16.body.getD .skip) Tryd.f16.ntmps [(.tmp 4,.sl tSt),(.tmp 5,tErr)] [⟨tTr,t⟩,⟨.sl I,ts⟩] k=(
 True∧((!decide (hchk t ts=(0:Int)))=true→k [Dat.mk (tEv).sl [],Dat.mk (Ty.err (53:Nat)) (hchk t ts)])∧((!decide (hchk t ts=(0:Int)))=false→(∃ (x:Nat),(x≤(5:Nat)∧True)∧(t=t∧ts=ts∧([]:List Nat)=[]∧True∧(0:Int)=(0:Int)∧hchk t ts=hchk t ts∧([]:List Nat)=[]∧t=t∧ts=ts∧hchk t ts=hchk t ts∧hchk t ts=hchk t ts∧(!decide (hchk t ts=(0:Int))) = !decide (hchk t ts=(0:Int))∧(0:Int)=(↑x:Int)∧True)∧(((24:Nat)=(24:Nat)∧t=t)∧((76:Nat)=(76:Nat)∧List.replicate (5:Nat) ((0:Int),(0:Int),())=List.replicate x noS++List.replicate ((5:Nat) - x) ((0:Int),(0:Int),()))∧True)∧True)∧∀ (x:Nat),x≤(5:Nat)∧True→(decide ((↑x:Int)<(5:Int))=true→(0:Int)≤(↑x:Int)∧(↑x:Int)<(↑(5:Nat):Int)∧inK IntKind.i64 ((↑x:Int)+(1:Int))∧∃ (x_1:Nat),(x_1≤(5:Nat)∧True)∧(5:Nat) - x_1<(5:Nat) - x∧(t=t∧ts=ts∧([]:List Nat)=[]∧True∧(0:Int)=(0:Int)∧hchk t ts=hchk t ts∧([]:List Nat)=[]∧t=t∧ts=ts∧hchk t ts=hchk t ts∧hchk t ts=hchk t ts∧(!decide (hchk t ts=(0:Int))) = !decide (hchk t ts=(0:Int))∧(↑x:Int)+(1:Int)=(↑x_1:Int)∧True)∧(((24:Nat)=(24:Nat)∧t=t)∧((76:Nat)=(76:Nat)∧(List.replicate x noS++List.replicate ((5:Nat) - x) ((0:Int),(0:Int),())).set (↑x:Int).toNat ((-1:Int),(0:Int),())=List.replicate x_1 noS++List.replicate ((5:Nat) - x_1) ((0:Int),(0:Int),()))∧True)∧True)∧(decide ((↑x:Int)<(5:Int))=false→(∃ (x_1:Nat),(x_1≤t.snd.fst.length∧True)∧(t=t∧ts=ts∧([]:List Nat)=[]∧True∧(0:Int)=(0:Int)∧hchk t ts=hchk t ts∧([]:List Nat)=[]∧True∧t=t∧ts=ts∧hchk t ts=hchk t ts∧hchk t ts=hchk t ts∧(!decide (hchk t ts=(0:Int))) = !decide (hchk t ts=(0:Int))∧(↑x:Int)=(↑x:Int)∧decide ((↑x:Int)<(5:Int))=decide ((↑x:Int)<(5:Int))∧[]++[(1:Nat)]=[]++[(1:Nat)]∧t.snd.fst=t.snd.fst∧(↑(List.length t.snd.fst):Int)=(↑(List.length t.snd.fst):Int)∧(0:Int)=(↑x_1:Int)∧True)∧(((24:Nat)=(24:Nat)∧t=t)∧((76:Nat)=(76:Nat)∧List.replicate x noS++List.replicate ((5:Nat) - x) ((0:Int),(0:Int),())=(sst t.snd.fst ts x_1).snd)∧((47:Nat)=(47:Nat)∧[]=(sst t.snd.fst ts x_1).fst)∧True)∧True)∧∀ (x_1:Nat),x_1≤t.snd.fst.length∧True→(decide ((↑x_1:Int)<(↑(List.length t.snd.fst):Int))=true→(0:Int)≤(↑x_1:Int)∧(↑x_1:Int)<(↑(List.length t.snd.fst):Int)∧(decide ((0:Int)≤(List.getD t.snd.fst (↑x_1:Int).toNat ((0:Int),(0:Int),())).snd.fst)=true→(0:Int)≤(List.getD t.snd.fst (↑x_1:Int).toNat ((0:Int),(0:Int),())).snd.fst∧(List.getD t.snd.fst (↑x_1:Int).toNat ((0:Int),(0:Int),())).snd.fst<(↑(sst t.snd.fst ts x_1).fst.length:Int)∧(0:Int)≤(List.getD t.snd.fst (↑x_1:Int).toNat ((0:Int),(0:Int),())).fst∧(List.getD t.snd.fst (↑x_1:Int).toNat ((0:Int),(0:Int),())).fst<(↑(5:Nat):Int)∧(0:Int)≤(↑x_1:Int)∧(↑x_1:Int)<(↑ts.length:Int)∧(small ((sst t.snd.fst ts x_1).snd.getD (Int.toNat (List.getD t.snd.fst (↑x_1:Int).toNat ((0:Int),(0:Int),())).fst) ((0:Int),(0:Int),())).snd.fst∧small ((sst t.snd.fst ts x_1).fst.getD (Int.toNat (List.getD t.snd.fst (↑x_1:Int).toNat ((0:Int),(0:Int),())).snd.fst) ((0:Int),(0:Int),())).snd.fst∧True)∧(0:Int)≤(List.getD t.snd.fst (↑x_1:Int).toNat ((0:Int),(0:Int),())).fst∧(List.getD t.snd.fst (↑x_1:Int).toNat ((0:Int),(0:Int),())).fst<(↑(5:Nat):Int)∧(0:Int)≤(List.getD t.snd.fst (↑x_1:Int).toNat ((0:Int),(0:Int),())).fst∧(List.getD t.snd.fst (↑x_1:Int).toNat ((0:Int),(0:Int),())).fst<(↑(5:Nat):Int)∧(sst t.snd.fst ts x_1).fst.length+((List.replicate (1:Nat) ((0:Int),(0:Int),())).set (0:Nat) (((sst t.snd.fst ts x_1).snd.set (Int.toNat (List.getD t.snd.fst (↑x_1:Int).toNat ((0:Int),(0:Int),())).fst) (nextS ((sst t.snd.fst ts x_1).snd.getD (Int.toNat (List.getD t.snd.fst (↑x_1:Int).toNat ((0:Int),(0:Int),())).fst) ((0:Int),(0:Int),())) ((sst t.snd.fst ts x_1).fst.getD (Int.toNat (List.getD t.snd.fst (↑x_1:Int).toNat ((0:Int),(0:Int),())).snd.fst) ((0:Int),(0:Int),())) (ts.getD (↑x_1:Int).toNat (0:Int)))).getD (Int.toNat (List.getD t.snd.fst (↑x_1:Int).toNat ((0:Int),(0:Int),())).fst) ((0:Int),(0:Int),()))).length≤(1000000000:Nat)∧inK IntKind.i64 ((↑x_1:Int)+(1:Int))∧∃ (x_2:Nat),(x_2≤t.snd.fst.length∧True)∧t.snd.fst.length - x_2<t.snd.fst.length - x_1∧(t=t∧ts=ts∧([]:List Nat)=[]∧True∧(0:Int)=(0:Int)∧hchk t ts=hchk t ts∧([]:List Nat)=[]∧True∧t=t∧ts=ts∧hchk t ts=hchk t ts∧hchk t ts=hchk t ts∧(!decide (hchk t ts=(0:Int))) = !decide (hchk t ts=(0:Int))∧(↑x:Int)=(↑x:Int)∧decide ((↑x:Int)<(5:Int))=decide ((↑x:Int)<(5:Int))∧[]++[(1:Nat)]=[]++[(1:Nat)]∧t.snd.fst=t.snd.fst∧(↑(List.length t.snd.fst):Int)=(↑(List.length t.snd.fst):Int)∧(↑x_1:Int)+(1:Int)=(↑x_2:Int)∧True)∧(((24:Nat)=(24:Nat)∧t=t)∧((76:Nat)=(76:Nat)∧(sst t.snd.fst ts x_1).snd.set (Int.toNat (List.getD t.snd.fst (↑x_1:Int).toNat ((0:Int),(0:Int),())).fst) (nextS ((sst t.snd.fst ts x_1).snd.getD (Int.toNat (List.getD t.snd.fst (↑x_1:Int).toNat ((0:Int),(0:Int),())).fst) ((0:Int),(0:Int),())) ((sst t.snd.fst ts x_1).fst.getD (Int.toNat (List.getD t.snd.fst (↑x_1:Int).toNat ((0:Int),(0:Int),())).snd.fst) ((0:Int),(0:Int),())) (ts.getD (↑x_1:Int).toNat (0:Int)))=(sst t.snd.fst ts x_2).snd)∧((47:Nat)=(47:Nat)∧(sst t.snd.fst ts x_1).fst.append ((List.replicate (1:Nat) ((0:Int),(0:Int),())).set (0:Nat) (((sst t.snd.fst ts x_1).snd.set (Int.toNat (List.getD t.snd.fst (↑x_1:Int).toNat ((0:Int),(0:Int),())).fst) (nextS ((sst t.snd.fst ts x_1).snd.getD (Int.toNat (List.getD t.snd.fst (↑x_1:Int).toNat ((0:Int),(0:Int),())).fst) ((0:Int),(0:Int),())) ((sst t.snd.fst ts x_1).fst.getD (Int.toNat (List.getD t.snd.fst (↑x_1:Int).toNat ((0:Int),(0:Int),())).snd.fst) ((0:Int),(0:Int),())) (ts.getD (↑x_1:Int).toNat (0:Int)))).getD (Int.toNat (List.getD t.snd.fst (↑x_1:Int).toNat ((0:Int),(0:Int),())).fst) ((0:Int),(0:Int),())))=(sst t.snd.fst ts x_2).fst)∧True)∧True)∧(decide ((0:Int)≤(List.getD t.snd.fst (↑x_1:Int).toNat ((0:Int),(0:Int),())).snd.fst)=false→(0:Int)≤(List.getD t.snd.fst (↑x_1:Int).toNat ((0:Int),(0:Int),())).fst∧(List.getD t.snd.fst (↑x_1:Int).toNat ((0:Int),(0:Int),())).fst<(↑(5:Nat):Int)∧(0:Int)≤(↑x_1:Int)∧(↑x_1:Int)<(↑ts.length:Int)∧(small ((sst t.snd.fst ts x_1).snd.getD (Int.toNat (List.getD t.snd.fst (↑x_1:Int).toNat ((0:Int),(0:Int),())).fst) ((0:Int),(0:Int),())).snd.fst∧small (0:Int)∧True)∧(0:Int)≤(List.getD t.snd.fst (↑x_1:Int).toNat ((0:Int),(0:Int),())).fst∧(List.getD t.snd.fst (↑x_1:Int).toNat ((0:Int),(0:Int),())).fst<(↑(5:Nat):Int)∧(0:Int)≤(List.getD t.snd.fst (↑x_1:Int).toNat ((0:Int),(0:Int),())).fst∧(List.getD t.snd.fst (↑x_1:Int).toNat ((0:Int),(0:Int),())).fst<(↑(5:Nat):Int)∧(sst t.snd.fst ts x_1).fst.length+((List.replicate (1:Nat) ((0:Int),(0:Int),())).set (0:Nat) (((sst t.snd.fst ts x_1).snd.set (Int.toNat (List.getD t.snd.fst (↑x_1:Int).toNat ((0:Int),(0:Int),())).fst) (nextS ((sst t.snd.fst ts x_1).snd.getD (Int.toNat (List.getD t.snd.fst (↑x_1:Int).toNat ((0:Int),(0:Int),())).fst) ((0:Int),(0:Int),())) ((-1:Int),(0:Int),()) (ts.getD (↑x_1:Int).toNat (0:Int)))).getD (Int.toNat (List.getD t.snd.fst (↑x_1:Int).toNat ((0:Int),(0:Int),())).fst) ((0:Int),(0:Int),()))).length≤(1000000000:Nat)∧inK IntKind.i64 ((↑x_1:Int)+(1:Int))∧∃ (x_2:Nat),(x_2≤t.snd.fst.length∧True)∧t.snd.fst.length - x_2<t.snd.fst.length - x_1∧(t=t∧ts=ts∧([]:List Nat)=[]∧True∧(0:Int)=(0:Int)∧hchk t ts=hchk t ts∧([]:List Nat)=[]∧True∧t=t∧ts=ts∧hchk t ts=hchk t ts∧hchk t ts=hchk t ts∧(!decide (hchk t ts=(0:Int))) = !decide (hchk t ts=(0:Int))∧(↑x:Int)=(↑x:Int)∧decide ((↑x:Int)<(5:Int))=decide ((↑x:Int)<(5:Int))∧[]++[(1:Nat)]=[]++[(1:Nat)]∧t.snd.fst=t.snd.fst∧(↑(List.length t.snd.fst):Int)=(↑(List.length t.snd.fst):Int)∧(↑x_1:Int)+(1:Int)=(↑x_2:Int)∧True)∧(((24:Nat)=(24:Nat)∧t=t)∧((76:Nat)=(76:Nat)∧(sst t.snd.fst ts x_1).snd.set (Int.toNat (List.getD t.snd.fst (↑x_1:Int).toNat ((0:Int),(0:Int),())).fst) (nextS ((sst t.snd.fst ts x_1).snd.getD (Int.toNat (List.getD t.snd.fst (↑x_1:Int).toNat ((0:Int),(0:Int),())).fst) ((0:Int),(0:Int),())) ((-1:Int),(0:Int),()) (ts.getD (↑x_1:Int).toNat (0:Int)))=(sst t.snd.fst ts x_2).snd)∧((47:Nat)=(47:Nat)∧(sst t.snd.fst ts x_1).fst.append ((List.replicate (1:Nat) ((0:Int),(0:Int),())).set (0:Nat) (((sst t.snd.fst ts x_1).snd.set (Int.toNat (List.getD t.snd.fst (↑x_1:Int).toNat ((0:Int),(0:Int),())).fst) (nextS ((sst t.snd.fst ts x_1).snd.getD (Int.toNat (List.getD t.snd.fst (↑x_1:Int).toNat ((0:Int),(0:Int),())).fst) ((0:Int),(0:Int),())) ((-1:Int),(0:Int),()) (ts.getD (↑x_1:Int).toNat (0:Int)))).getD (Int.toNat (List.getD t.snd.fst (↑x_1:Int).toNat ((0:Int),(0:Int),())).fst) ((0:Int),(0:Int),())))=(sst t.snd.fst ts x_2).fst)∧True)∧True))∧(decide ((↑x_1:Int)<(↑(List.length t.snd.fst):Int))=false→k [Dat.mk (tEv).sl (sst t.snd.fst ts x_1).fst,Dat.mk (Ty.err (53:Nat)) (0:Int)])))):=by kernel_rfl
open Go.Vc
theorem take_all{α:Type}{p:α→Bool}{l:List α}{z:α}{x:Nat}(h:(l.take x).all p=true)(hp:p (l.getD x z)=true):(l.take (x+1)).all p=true:=by
 by_cases hx:x<l.length
 · rw[List.take_add_one,List.all_append,h,List.getElem?_eq_getElem hx]
   rw[List.getD_eq_getElem?_getD,List.getElem?_eq_getElem hx] at hp
   simpa using hp
 · rw[List.take_of_length_le (by omega)]
   rwa [List.take_of_length_le (by omega)] at h
theorem hchk_vc(t:Tr)(ts:List Int)(k:List Dat→Prop)(hl:ts.length≤maxLen)(hk:k [⟨tErr,hchk t ts⟩]):vcF ⟨Eh,[(7,cCheck),(23,cWithin)],[],[],[]⟩ (anHChk t ts) (Tryd.f39.body.getD .skip) Tryd.f39.ntmps [(.tmp 4,tErr)] [⟨tTr,t⟩,⟨.sl I,ts⟩] k:=by
 rw[vcHChk]
 have hml:maxLen≤9223372036854775807:=by decide
 have ret:∀ x:Int,hchk t ts=x→k [⟨tErr,x⟩]:=by rintro _ rfl;exact hk
 simp only[decide_eq_true_eq,decide_eq_false_iff_not,and_true,true_and,Bool.not_eq_true',Bool.not_eq_false',Int.toNat_natCast,eq_self,inK_i64]
 refine⟨fun h=>ret _ (by unfold hchk;rw[if_neg h]),fun h=>⟨fun g=>⟨by decide,ret _ ?_⟩,fun g=>⟨⟨0,⟨Nat.zero_le _,rfl⟩,rfl⟩,fun x ⟨hx,ha⟩=>⟨fun hlt=>⟨by omega,by omega,fun hb=>⟨by decide,ret _ ?_⟩,fun hb=>⟨by omega,x+1,⟨by omega,take_all ha hb⟩,by omega,by omega⟩⟩,fun hge=>ret _ ?_⟩⟩⟩⟩
 · unfold hchk;rw[if_pos h,if_neg (by omega)]
 · unfold hchk
   rw[if_pos h,if_pos (by omega),if_neg]
   intro hall
   rw[List.all_eq_true] at hall
   have hx':x<ts.length:=by omega
   have:=hall (ts.getD x 0) (by rw[List.getD_eq_getElem?_getD,List.getElem?_eq_getElem hx'];exact List.getElem_mem hx')
   unfold timeB at this
   rw[hb] at this;cases this
 · unfold hchk
   have:x=ts.length:=by omega
   rw[this,List.take_length] at ha
   rw[if_pos h,if_pos (by omega),if_pos ha]
theorem okHChk:PlainOk Tryd.prog [] 39 cHChk:=by
 refine plain_of (CxOk.mk' Eh_ok (by kernel_rfl) mixed (gl:=[]) (GOk.cons okCheck Tryd.func7 (by kernel_rfl) (by kernel_rfl) (GOk.cons okWithin Tryd.func23 (by kernel_rfl) (by kernel_rfl) GOk.nil)) GoOk.nil noIt) Tryd.func39 (c:=Tryd.f39.body.getD .skip) (rvs:=[(.tmp 4,tErr)]) (by kernel_rfl) (by kernel_rfl) (by kernel_rfl) ?_
 intro ds k ⟨hp,hk⟩ hwf
 obtain⟨t,ts,rfl,-⟩:=dest2 hp
 exact⟨anHChk t ts,hchk_vc t ts k (wf2 hwf).2.1 hk⟩
theorem okNext:PlainOk Tryd.prog [] 40 cNext:=by
 refine plain_of (CxOk.mk' Eh_ok (by kernel_rfl) mixed (gl:=[]) GOk.nil GoOk.nil noIt) Tryd.func40 (c:=Tryd.f40.body.getD .skip) (rvs:=[(.cell 6 47,tSt)]) (by kernel_rfl) (by kernel_rfl) (by kernel_rfl) ?_
 intro ds k ⟨hp,hk⟩ hwf
 obtain⟨a,b,n,rfl,hab⟩:=dest3 hp
 refine⟨[],?_⟩
 clear hp hwf
 revert hk hab
 revert a b n
 intro (a:Stp) (b:Stp) (n:Int) hab hk
 have hk:k [⟨tSt,nextS a b n⟩]:=hk
 obtain⟨ha,hb,_⟩:=hab
 rw[vcNext]
 have ret:∀ x:Stp,nextS a b n=x→k [⟨tSt,x⟩]:=by rintro _ rfl;exact hk
 unfold small at ha hb
 simp only[decide_eq_true_eq,decide_eq_false_iff_not,inK_i64]
 refine⟨fun h1=>⟨by omega,fun h2=>⟨by omega,ret _ ?_⟩,fun h2=>ret _ ?_⟩,fun h1=>⟨fun h2=>⟨by omega,ret _ ?_⟩,fun h2=>ret _ ?_⟩⟩
 · unfold nextS;rw[if_pos h2,if_pos h1]
 · unfold nextS;rw[if_neg h2,if_pos h1]
 · unfold nextS;rw[if_pos h2,if_neg h1]
 · unfold nextS;rw[if_neg h2,if_neg h1]
theorem nextS_count(a b:Stp)(n:Int){m:Int}(ha:0≤a.2.1∧a.2.1≤m)(hb:0≤b.2.1∧b.2.1≤m):0≤(nextS a b n).2.1∧(nextS a b n).2.1≤m+1:=by
 unfold nextS
 dsimp only
 split<;>split<;>omega
theorem sst_len(l:List Ev)(ts:List Int):∀ i,(sst l ts i).1.length=i∧(sst l ts i).2.length=5
 | 0=>by simp[sst]
 | i+1=>by
   have:=sst_len l ts i
   simp[sst,this.1,this.2]
theorem sst_count(l:List Ev)(ts:List Int):∀ i j,(0≤((sst l ts i).1.getD j (0,0,())).2.1∧((sst l ts i).1.getD j (0,0,())).2.1≤(i:Int))∧(0≤((sst l ts i).2.getD j (0,0,())).2.1∧((sst l ts i).2.getD j (0,0,())).2.1≤(i:Int)):=by
 intro i
 induction i with
 | zero =>
   intro j
   simp only[sst,List.getD_eq_getElem?_getD,List.getElem?_replicate,List.getElem?_nil,Option.getD_none]
   refine⟨by omega,?_⟩
   split
   · simp[noS]
   · simp
 | succ i ih =>
   intro j
   have hn:∀ b:Stp,(0≤b.2.1∧b.2.1≤(i:Int))→0≤(nextS ((sst l ts i).2.getD (l.getD i (0,0,())).1.toNat (0,0,())) b (ts.getD i 0)).2.1∧(nextS ((sst l ts i).2.getD (l.getD i (0,0,())).1.toNat (0,0,())) b (ts.getD i 0)).2.1≤(i:Int)+1:=fun b hb =>
     nextS_count _ _ _ (ih _).2 hb
   have hb:(0:Int)≤(if 0≤(l.getD i (0,0,())).2.1 then (sst l ts i).1.getD (l.getD i (0,0,())).2.1.toNat (0,0,()) else noS).2.1∧(if 0≤(l.getD i (0,0,())).2.1 then (sst l ts i).1.getD (l.getD i (0,0,())).2.1.toNat (0,0,()) else noS).2.1≤(i:Int):=by
     split
     · exact (ih _).1
     · simp[noS]
   have h1:=hn _ hb
   have h2:=ih j
   simp only[sst,getD_app,getD_set']
   refine⟨?_,?_⟩
   · split
     · omega
     · omega
   · split
     · omega
     · omega
theorem rep_set{α:Type}(a z:α){x m:Nat}(h:x<m):(List.replicate x a++List.replicate (m - x) z).set x a=List.replicate (x+1) a++List.replicate (m - (x+1)) z:=by
 rw[List.set_append,if_neg (by simp)]
 rw[show m - x=(m - (x+1))+1 by omega,List.replicate_succ]
 simp only[List.length_replicate,Nat.sub_self,List.set_cons_zero]
 rw[List.replicate_succ',List.append_assoc]
 rfl
theorem stamps_vc(t:Tr)(ts:List Int)(k:List Dat→Prop)(hk:k [⟨.sl tSt,stamps t ts⟩,⟨tErr,hchk t ts⟩]):vcF ⟨Eh,[(39,cHChk),(40,cNext)],[],[],[]⟩ (anStamps t ts) (Tryd.f16.body.getD .skip) Tryd.f16.ntmps [(.tmp 4,.sl tSt),(.tmp 5,tErr)] [⟨tTr,t⟩,⟨.sl I,ts⟩] k:=by
 rw[vcStamps]
 simp only[decide_eq_true_eq,decide_eq_false_iff_not,and_true,true_and,Bool.not_eq_true',Bool.not_eq_false',Int.toNat_natCast,eq_self,inK_i64,List.replicate,List.set_cons_zero,List.length_cons,List.length_nil]
 have set1:∀ (l:List Stp) (j:Nat) (s:Stp),j<l.length→(l.set j s).getD j (0,0,())=s:=fun l j s h=>by rw[getD_set',if_pos ⟨rfl,h⟩]
 refine⟨fun h => ?_,fun h=>⟨⟨0,⟨Nat.zero_le _,rfl,rfl⟩⟩,fun x hx=>⟨fun hlt=>⟨by omega,by omega,by omega,x+1,by omega,by omega,by omega,rep_set noS _ (by omega)⟩,fun hge => ?_⟩⟩⟩
 · have:stamps t ts=[]:=by unfold stamps;rw[if_neg h]
   rw[← this];exact hk
 · have hx5:x=5:=by omega
   subst hx5
   have hc:chk t=0∧ts.length=t.2.1.length:=by
     unfold hchk at h
     split at h
     · rename_i h1
       split at h
       · rename_i h2;exact⟨h1,h2⟩
       · cases h
     · rename_i h1;exact absurd h h1
   have g:=good_of hc.1
   have hlen:=g.len
   have hpr:=g.procs
   refine⟨⟨0,Nat.zero_le _,rfl,rfl,rfl⟩,fun y hy=>⟨fun hlt => ?_,fun hge2 => ?_⟩⟩
   · have hyl:y<t.2.1.length:=by omega
     obtain⟨p0,p1,f0,f1,_⟩:=g.ev y hyl
     obtain⟨l1,l2⟩:=sst_len t.2.1 ts y
     have hcn:=sst_count t.2.1 ts y
     have hS:∀ j,small ((sst t.2.1 ts y).2.getD j (0,0,())).2.1∧small ((sst t.2.1 ts y).1.getD j (0,0,())).2.1:=fun j=>by
       have:=hcn j
       unfold small
       omega
     refine⟨by omega,hlt,fun hf => ?_,fun hf => ?_⟩
     · refine⟨hf,by omega,p0,by omega,by omega,by omega,⟨(hS _).1,(hS _).2⟩,p0,by omega,p0,by omega,by omega,by omega,y+1,by omega,by omega,by omega,?_,?_⟩
       · simp only[sst,if_pos hf]
       · rw[set1 _ _ _ (by omega)]
         simp only[sst,if_pos hf]
         rfl
     · refine⟨p0,by omega,by omega,by omega,⟨(hS _).1,(by unfold small;omega)⟩,p0,by omega,p0,by omega,by omega,by omega,y+1,by omega,by omega,by omega,?_,?_⟩
       · simp only[sst,if_neg hf]
         rfl
       · rw[set1 _ _ _ (by omega)]
         simp only[sst,if_neg hf]
         rfl
   · have hy2:y=t.2.1.length:=by omega
     subst hy2
     have:stamps t ts=(sst t.2.1 ts t.2.1.length).1:=by unfold stamps;rw[if_pos h]
     rw[← this]
     rw[h] at hk
     exact hk
theorem okStamps:PlainOk Tryd.prog [] 16 cStamps:=by
 refine plain_of (CxOk.mk' Eh_ok (by kernel_rfl) mixed (gl:=[]) (GOk.cons okHChk Tryd.func39 (by kernel_rfl) (by kernel_rfl) (GOk.cons okNext Tryd.func40 (by kernel_rfl) (by kernel_rfl) GOk.nil)) GoOk.nil noIt) Tryd.func16 (c:=Tryd.f16.body.getD .skip) (rvs:=[(.tmp 4,.sl tSt),(.tmp 5,tErr)]) (by kernel_rfl) (by kernel_rfl) (by kernel_rfl) ?_
 intro ds k ⟨hp,hk⟩ hwf
 obtain⟨t,ts,rfl,-⟩:=dest2 hp
 exact⟨anStamps t ts,stamps_vc t ts k hk⟩
open Go.Vc
def stp(l:List Ev)(ts:List Int)(i:Nat):Stp:=(sst l ts (i+1)).1.getD i (0,0,())
theorem sst_keep(l:List Ev)(ts:List Int){i:Nat}:∀ m,i<m→(sst l ts m).1.getD i (0,0,())=stp l ts i:=by
 intro m
 induction m with
 | zero=>intro h;omega
 | succ m ih =>
   intro h
   by_cases hm:i=m
   · subst hm;rfl
   · rw[← ih (by omega)]
     simp only[sst,getD_app,(sst_len l ts m).1]
     rw[if_neg hm]
theorem sst_last(l:List Ev)(ts:List Int)(hp:∀ i,i<l.length→prc l i<5):∀ m,m≤l.length→∀ p,p<5 →
   ((sst l ts m).2.getD p (0,0,())=noS∧∀ j,j<m→prc l j≠p)∨∃ j,j<m∧prc l j=p∧(∀ j',j<j'→j'<m→prc l j'≠p)∧(sst l ts m).2.getD p (0,0,())=stp l ts j:=by
 intro m
 induction m with
 | zero =>
   intro _ p hp5
   refine .inl ⟨?_,fun j hj=>by omega⟩
   simp only[sst,List.getD_eq_getElem?_getD,List.getElem?_replicate,if_pos hp5]
   rfl
 | succ m ih =>
   intro hm p hp5
   have hl:=sst_len l ts m
   have hstep:(sst l ts (m+1)).2=(sst l ts m).2.set (prc l m) (stp l ts m):=by
     have:stp l ts m=nextS ((sst l ts m).2.getD (l.getD m (0,0,())).1.toNat (0,0,())) (if 0≤(l.getD m (0,0,())).2.1 then (sst l ts m).1.getD (l.getD m (0,0,())).2.1.toNat (0,0,()) else noS) (ts.getD m 0):=by
       unfold stp
       simp only[sst,getD_app,hl.1,if_true]
     rw[this];rfl
   rw[hstep,getD_set',hl.2]
   by_cases h:prc l m=p
   · rw[if_pos ⟨h,by rw[h];exact hp5⟩]
     exact .inr ⟨m,by omega,h,fun j' h1 h2=>by omega,rfl⟩
   · rw[if_neg (fun e=>h e.1)]
     rcases ih (by omega) p hp5 with ⟨h1,h2⟩ | ⟨j,h1,h2,h3,h4⟩
     · refine .inl ⟨h1,fun j hj => ?_⟩
       by_cases hjm:j=m
       · rw[hjm];exact h
       · exact h2 j (by omega)
     · refine .inr ⟨j,by omega,h2,fun j' hj1 hj2 => ?_,h4⟩
       by_cases hjm:j'=m
       · rw[hjm];exact h
       · exact h3 j' hj1 (by omega)
theorem stp_rec{l:List Ev}{ts:List Int}(hp:∀ i,i<l.length→prc l i<5)(hf:∀ i,i<l.length→frm l i<(i:Int)){i:Nat}(hi:i<l.length) :
   ∃ a b,stp l ts i=nextS a b (ts.getD i 0)∧(a=noS∨∃ j,justB l i j∧a=stp l ts j)∧(b=noS∨∃ j,justB l i j∧b=stp l ts j)∧∀ j,justB l i j→a=stp l ts j∨b=stp l ts j:=by
 have hl:=sst_len l ts i
 have hS:stp l ts i=nextS ((sst l ts i).2.getD (prc l i) (0,0,())) (if 0≤frm l i then (sst l ts i).1.getD (frm l i).toNat (0,0,()) else noS) (ts.getD i 0):=by
   unfold stp
   simp only[sst,getD_app,hl.1,if_true]
   rfl
 have hlast:=sst_last l ts hp i (by omega) (prc l i) (hp i hi)
 refine⟨_,_,hS,?_,?_,?_⟩
 · rcases hlast with ⟨h1,_⟩ | ⟨j,h1,h2,h3,h4⟩
   · exact .inl h1
   · exact .inr ⟨j,⟨h1,.inl ⟨h2,h3⟩⟩,h4⟩
 · split
   · rename_i h0
     have:=hf i hi
     refine .inr ⟨(frm l i).toNat,⟨by omega,.inr (by omega)⟩,sst_keep l ts i (by omega)⟩
   · exact .inl rfl
 · intro j hj
   rcases hj with ⟨hji,⟨h1,h2⟩ | h1⟩
   · left
     rcases hlast with ⟨_,k2⟩ | ⟨j',k1,k2,k3,k4⟩
     · exact absurd h1 (k2 j hji)
     · have:j=j':=by
         rcases Nat.lt_trichotomy j j' with h | h | h
         · exact absurd k2 (h2 j' h k1)
         · exact h
         · exact absurd h1 (k3 j h hji)
       rw[this];exact k4
   · right
     rw[if_pos (by omega),sst_keep l ts i (by omega)]
     congr 1
     omega
open Go.Vc
def lexP(a b:Stp):Prop:=a.1<b.1∨(a.1=b.1∧a.2.1<b.2.1)
theorem lexP.trans{a b c:Stp}(h:lexP a b)(k:lexP b c):lexP a c:=by
 unfold lexP at *
 omega
theorem nextS_l(a b:Stp)(n:Int):lexP a (nextS a b n):=by
 unfold lexP nextS
 dsimp only
 by_cases h:max (max a.1 b.1) n=a.1
 · right
   refine⟨h.symm,?_⟩
   rw[if_pos h]
   split<;>omega
 · left;omega
theorem nextS_r(a b:Stp)(n:Int):lexP b (nextS a b n):=by
 unfold lexP nextS
 dsimp only
 by_cases h:max (max a.1 b.1) n=b.1
 · right
   refine⟨h.symm,?_⟩
   rw[if_pos h]
   omega
 · left;omega
section
variable {l:List Ev} {ts:List Int} (hp:∀ i,i<l.length→prc l i<5) (hf:∀ i,i<l.length→frm l i<(i:Int))
include hp hf
theorem stp_just{i j:Nat}(hi:i<l.length)(h:justB l i j):lexP (stp l ts j) (stp l ts i):=by
 obtain⟨a,b,hS,_,_,hj⟩:=stp_rec (ts:=ts) hp hf hi
 rw[hS]
 rcases hj j h with e | e
 · rw[← e];exact nextS_l _ _ _
 · rw[← e];exact nextS_r _ _ _
theorem stp_less{i k:Nat}(hi:i<l.length)(h:(bB l i).testBit k=true):lexP (stp l ts k) (stp l ts i):=by
 induction i using Nat.strongRecOn with
 | _ i ih =>
   obtain⟨j,hj,hk⟩:=(bB_bit hp hf hi k).1 h
   have h1:=stp_just (ts:=ts) hp hf hi hj
   rcases hk with hk | hk
   · exact (ih j hj.1 (by have:=hj.1;omega) hk).trans h1
   · rw[hk];exact h1
end
open Go.Vc
theorem wide_procs{t:Tr}(g:Good t)(hl:t.2.1.length≤12):pop (widL (aftI t) (2 ^ t.2.1.length):Int)≤t.1:=by
 have h1:=widL_lt (aftI t) (2 ^ t.2.1.length)
 have h2:=widL_side (aftI t) (2 ^ t.2.1.length)
 have hw:widL (aftI t) (2 ^ t.2.1.length)<2 ^ t.2.1.length:=by
   rcases h1 with h | h
   · exact h
   · rw[h];exact Nat.two_pow_pos _
 clear h1
 generalize widL (aftI t) (2 ^ t.2.1.length)=w at *
 have h64:w<2 ^ 64:=Nat.lt_of_lt_of_le hw (Nat.pow_le_pow_right (by decide) (by omega))
 refine side_procs g hw fun i hi j hj => ?_
 have hil:i<t.2.1.length:=by
   refine Nat.lt_of_not_le fun hle => ?_
   rw[Nat.testBit_lt_two_pow (Nat.lt_of_lt_of_le hw (Nat.pow_le_pow_right (by decide) hle))] at hi
   cases hi
 unfold sideB at h2
 have h3:=of_decide_eq_true (List.all_eq_true.1 h2 (i:Int) ((H.bitsOf_mem h64 _).2 ⟨i,rfl,hi⟩))
 rw[Int.toNat_natCast,Int.toNat_natCast,aftI_at hil,Int.toNat_natCast] at h3
 cases h:w.testBit j with
 | false=>rfl
 | true =>
   have h4:(aft t.2.1 t.2.1.length i &&& w).testBit j=true:=by rw[Nat.testBit_and,hj,h];rfl
   rw[h3,Nat.zero_testBit] at h4
   cases h4
theorem xor_iff{a s:Nat}:a ^^^ (a &&& s)=0↔∀ j,a.testBit j=true→s.testBit j=true:=by
 constructor
 · intro h j hj
   have h1:(a ^^^ (a &&& s)).testBit j=false:=by rw[h,Nat.zero_testBit]
   rw[Nat.testBit_xor,Nat.testBit_and,hj] at h1
   cases h2:s.testBit j with
   | true=>rfl
   | false=>rw[h2] at h1;cases h1
 · exact xor_sub
theorem pre_at{t:Tr}(g:Good t){i:Nat}(hi:i<t.2.1.length):(preI (aftI t)).getD i 0=((bB t.2.1 i:Nat):Int):=by
 unfold preI
 rw[castL_at,aftI_nat,clL_id (aft_tr g),aftI_len,tuL_at (by rw[aftL_len];exact hi),tuK_aft g hi]
theorem down_all{t:Tr}(hc:chk t=0)(hl:t.2.1.length≤12):dwnN (preI (aftI t)) (2 ^ t.2.1.length)=H.countW t:=by
 have g:=good_of hc
 unfold dwnN
 refine H.down_count hc _ fun s hs => ?_
 have h64:s<2 ^ 64:=Nat.lt_of_lt_of_le hs (Nat.pow_le_pow_right (by decide) (by omega))
 unfold dwnB
 rw[List.all_eq_true]
 constructor
 · intro h i hi hb
   have h1:=of_decide_eq_true (h (i:Int) ((H.bitsOf_mem h64 _).2 ⟨i,rfl,hb⟩))
   rw[Int.toNat_natCast,Int.toNat_natCast,pre_at g hi,Int.toNat_natCast] at h1
   exact xor_iff.1 h1
 · intro h y hy
   obtain⟨i,rfl,hb⟩:=(H.bitsOf_mem h64 _).1 hy
   have hi:i<t.2.1.length:=by
     refine Nat.lt_of_not_le fun hle => ?_
     rw[Nat.testBit_lt_two_pow (Nat.lt_of_lt_of_le hs (Nat.pow_le_pow_right (by decide) hle))] at hb
     cases hb
   rw[decide_eq_true_eq,Int.toNat_natCast,Int.toNat_natCast,pre_at g hi,Int.toNat_natCast]
   exact xor_iff.2 (h i hi hb)
theorem rkL_len(t:Tr):(rkL t).length=t.2.1.length:=by simp[rkL]
theorem rkL_at{t:Tr}{i:Nat}(hi:i<t.2.1.length):(rkL t).getD i 0=pl t.2.1 i - 1:=by
 unfold rkL
 rw[List.getD_eq_getElem?_getD,List.getElem?_map,List.getElem?_range hi];rfl
theorem lessB_iff(a b:Stp):lessB a b=true↔lexP a b:=by
 simp[lessB,lexP]
theorem hchk_zero{t:Tr}{ts:List Int}(h:hchk t ts=0):stamps t ts=(sst t.2.1 ts t.2.1.length).1:=by
 unfold stamps;rw[if_pos h]
theorem stamps_less{t:Tr}{ts:List Int}(g:Good t)(h:hchk t ts=0){i j:Nat}(hi:i<t.2.1.length)(hb:(aft t.2.1 t.2.1.length i).testBit j=true) :
   lessB ((stamps t ts).getD i (0,0,())) ((stamps t ts).getD j (0,0,()))=true:=by
 obtain⟨hj,hb⟩:=(aft_bit _ _ _ _).1 hb
 rw[hchk_zero h,sst_keep _ _ _ hi,sst_keep _ _ _ hj,lessB_iff]
 exact stp_less (good_prc' g) (good_frm' g) hj hb
open Go.Vc H
set_option linter.unusedVariables false
theorem vcAdd0(c:List Int)(k:SV→List Ob→Prop):vcO ⟨Eq,[],glT,[],[]⟩ [joinAll] (Tryd.f29.body.getD .skip) Tryd.f29.ntmps [(.tmp 4,I),(.tmp 5,.bool)] [.ps 0,.d tK c] q0 k=(
 ((mpGet ([]:List (List Int×Int)) c).isSome=true→k (SV.tp [SV.d (I) (0:Int),SV.d Ty.bool false]) [Ob.st (67:Nat) [SV.os (1:Nat),SV.nils],Ob.mp (5:Nat) (I) []])∧((mpGet ([]:List (List Int×Int)) c).isSome=false→True∧True∧((List.replicate (1:Nat) (List.replicate (5:Nat) (0:Int))).set (0:Nat) c).length≤(1000000000:Nat)∧inK IntKind.i64 ((↑((List.replicate (1:Nat) (List.replicate (5:Nat) (0:Int))).set (0:Nat) c).length:Int) - (1:Int))∧k (SV.tp [SV.d (I) ((↑((List.replicate (1:Nat) (List.replicate (5:Nat) (0:Int))).set (0:Nat) c).length:Int) - (1:Int)),SV.d Ty.bool true]) [Ob.st (67:Nat) [SV.os (1:Nat),SV.os (2:Nat)],Ob.mp (5:Nat) (I) (mpPut [] c (0:Int)),Ob.row (60:Nat) (Ty.ar (5:Nat) (I)) ((List.replicate (1:Nat) (List.replicate (5:Nat) (0:Int))).set (0:Nat) c)])):=by kernel_rfl
theorem vcAdd1(c:List Int)(L:LL)(k:SV→List Ob→Prop):vcO ⟨Eq,[],glT,[],[]⟩ [joinAll] (Tryd.f29.body.getD .skip) Tryd.f29.ntmps [(.tmp 4,I),(.tmp 5,.bool)] [.ps 0,.d tK c] (qOb L) k=(
 ((mpGet (mpE L (0:Nat)) c).isSome=true→k (SV.tp [SV.d (I) (match mpGet (mpE L (0:Nat)) c with | some x=>x | none=>(0:Int)),SV.d Ty.bool false]) [Ob.st (67:Nat) [SV.os (1:Nat),SV.os (2:Nat)],Ob.mp (5:Nat) (I) (mpE L (0:Nat)),Ob.row (60:Nat) (Ty.ar (5:Nat) (I)) L])∧((mpGet (mpE L (0:Nat)) c).isSome=false→True∧True∧List.length L+((List.replicate (1:Nat) (List.replicate (5:Nat) (0:Int))).set (0:Nat) c).length≤(1000000000:Nat)∧inK IntKind.i64 ((↑(List.append L ((List.replicate (1:Nat) (List.replicate (5:Nat) (0:Int))).set (0:Nat) c)).length:Int) - (1:Int))∧k (SV.tp [SV.d (I) ((↑(List.append L ((List.replicate (1:Nat) (List.replicate (5:Nat) (0:Int))).set (0:Nat) c)).length:Int) - (1:Int)),SV.d Ty.bool true]) [Ob.st (67:Nat) [SV.os (1:Nat),SV.os (2:Nat)],Ob.mp (5:Nat) (I) (mpPut (mpE L (0:Nat)) c (↑(List.length L):Int)),Ob.row (60:Nat) (Ty.ar (5:Nat) (I)) (List.append L ((List.replicate (1:Nat) (List.replicate (5:Nat) (0:Int))).set (0:Nat) c))])):=by kernel_rfl
theorem vcLen(L:LL)(k:SV→List Ob→Prop):vcO ⟨Eq,[],glT,[],[]⟩ [joinAll] (Tryd.f30.body.getD .skip) Tryd.f30.ntmps [(.tmp 2,I)] [.ps 0] (qOb L) k=(
 k (SV.d (I) (↑(List.length L):Int)) [Ob.st (67:Nat) [SV.os (1:Nat),SV.os (2:Nat)],Ob.mp (5:Nat) (I) (mpE L (0:Nat)),Ob.row (60:Nat) (Ty.ar (5:Nat) (I)) L]):=by kernel_rfl
theorem vcAt(L:LL)(i:Int)(k:SV→List Ob→Prop):vcO ⟨Eq,[],glT,[],[]⟩ [joinAll] (Tryd.f31.body.getD .skip) Tryd.f31.ntmps [(.cell 4 60,tK)] [.ps 0,.d I i] (qOb L) k=(
 (0:Int)≤i∧i<(↑(List.length L):Int)∧k (SV.d (Ty.ar (5:Nat) (I)) (List.getD L i.toNat (List.replicate (5:Nat) (0:Int)))) [Ob.st (67:Nat) [SV.os (1:Nat),SV.os (2:Nat)],Ob.mp (5:Nat) (I) (mpE L (0:Nat)),Ob.row (60:Nat) (Ty.ar (5:Nat) (I)) L]):=by kernel_rfl
open Go.Vc H
set_option linter.unusedVariables false
theorem vcCount(t:Tr)(k:List Dat→Prop):vcF ⟨Eq,[(7,cCheck),(28,cOfs),(32,cIs)],glT,[],[(29,oAdd),(30,oLen),(31,oAt)]⟩ (anCount t) (Tryd.f12.body.getD .skip) Tryd.f12.ntmps [(.tmp 2,I),(.tmp 3,tErr)] [⟨tTr,t⟩] k=(
 True∧((!decide (chk t=(0:Int)))=true→k [Dat.mk (I) (0:Int),Dat.mk (Ty.err (53:Nat)) (chk t)])∧((!decide (chk t=(0:Int)))=false→((0:Int)≤t.fst∧t.fst≤t.fst∧t.fst≤(1000000000:Int)∧True∧True)∧((!decide (cutE t (List.replicate (Int.toNat t.fst) (0:Int))=(0:Int)))=true→k [Dat.mk (I) (0:Int),Dat.mk (Ty.err (53:Nat)) (cutE t (List.replicate (Int.toNat t.fst) (0:Int)))])∧((!decide (cutE t (List.replicate (Int.toNat t.fst) (0:Int))=(0:Int)))=false→∀ (n:Int) (b:Bool),(∃ (x:Nat×LL),((chk t=(0:Int)∧x.fst≤List.length x.snd)∧foundP t x.snd∧closedTo t x.snd x.fst)∧(([]:List Nat)=[]∧((if cutE t (List.replicate (Int.toNat t.fst) (0:Int))=(0:Int) then rowsT t (Int.toNat t.fst) else[])=if cutE t (List.replicate (Int.toNat t.fst) (0:Int))=(0:Int) then rowsT t (Int.toNat t.fst) else[])∧True∧(0:Int)=(↑x.fst:Int)∧True)∧(((24:Nat)=(24:Nat)∧t=t)∧(True∧True∧True)∧((5:Nat)=(5:Nat)∧mpE [List.replicate (5:Nat) (0:Int)] (0:Nat)=mpE x.snd (0:Nat))∧((60:Nat)=(60:Nat)∧[List.replicate (5:Nat) (0:Int)]=x.snd)∧True)∧tabD=tabD∧True)∧∀ (x:Nat×LL),(chk t=(0:Int)∧x.fst≤List.length x.snd)∧foundP t x.snd∧closedTo t x.snd x.fst→mpE x.snd (0:Nat)=mpE x.snd (0:Nat)∧(decide ((↑x.fst:Int)<(↑(List.length x.snd):Int))=true→(∃ (x_1:Nat×LL),((x_1.fst≤t.fst.toNat∧(↑x.fst:Int).toNat<List.length x_1.snd)∧foundP t x_1.snd∧closedTo t x_1.snd (↑x.fst:Int).toNat∧closedAt t x_1.snd (↑x.fst:Int).toNat x_1.fst)∧(([]:List Nat)=[]∧((if cutE t (List.replicate (Int.toNat t.fst) (0:Int))=(0:Int) then rowsT t (Int.toNat t.fst) else[])=if cutE t (List.replicate (Int.toNat t.fst) (0:Int))=(0:Int) then rowsT t (Int.toNat t.fst) else[])∧True∧(↑x.fst:Int)=(↑x.fst:Int)∧t.fst=t.fst∧(0:Int)=(↑x_1.fst:Int)∧True)∧(((24:Nat)=(24:Nat)∧t=t)∧(True∧True∧True)∧((5:Nat)=(5:Nat)∧mpE x.snd (0:Nat)=mpE x_1.snd (0:Nat))∧((60:Nat)=(60:Nat)∧x.snd=x_1.snd)∧True)∧tabD=tabD∧True)∧∀ (x_1:Nat×LL),(x_1.fst≤t.fst.toNat∧(↑x.fst:Int).toNat<List.length x_1.snd)∧foundP t x_1.snd∧closedTo t x_1.snd (↑x.fst:Int).toNat∧closedAt t x_1.snd (↑x.fst:Int).toNat x_1.fst→(decide ((↑x_1.fst:Int)<t.fst)=true→mpE x_1.snd (0:Nat)=mpE x_1.snd (0:Nat)∧(0:Int)≤(↑x.fst:Int)∧(↑x.fst:Int)<(↑(List.length x_1.snd):Int)∧(0:Int)≤(↑x_1.fst:Int)∧(↑x_1.fst:Int)<(↑(5:Nat):Int)∧inK IntKind.i64 ((List.getD x_1.snd (↑x.fst:Int).toNat (List.replicate (5:Nat) (0:Int))).getD (↑x_1.fst:Int).toNat (0:Int)+(1:Int))∧(0:Int)≤(↑x_1.fst:Int)∧(↑x_1.fst:Int)<(↑(5:Nat):Int)∧((0:Int)≤(↑x_1.fst:Int)∧(↑x_1.fst:Int)<(↑(5:Nat):Int)∧(0:Int)≤(↑x_1.fst:Int)∧(↑x_1.fst:Int)<(↑(if cutE t (List.replicate (Int.toNat t.fst) (0:Int))=(0:Int) then rowsT t (Int.toNat t.fst) else[]).length:Int)∧True)∧(decide ((↑((if cutE t (List.replicate (Int.toNat t.fst) (0:Int))=(0:Int) then rowsT t (Int.toNat t.fst) else[]).getD (↑x_1.fst:Int).toNat []).length:Int)<((List.getD x_1.snd (↑x.fst:Int).toNat (List.replicate (5:Nat) (0:Int))).set (↑x_1.fst:Int).toNat ((List.getD x_1.snd (↑x.fst:Int).toNat (List.replicate (5:Nat) (0:Int))).getD (↑x_1.fst:Int).toNat (0:Int)+(1:Int))).getD (↑x_1.fst:Int).toNat (0:Int))=true→inK IntKind.i64 ((↑x_1.fst:Int)+(1:Int))∧∃ (x_2:Nat×LL),((x_2.fst≤t.fst.toNat∧(↑x.fst:Int).toNat<List.length x_2.snd)∧foundP t x_2.snd∧closedTo t x_2.snd (↑x.fst:Int).toNat∧closedAt t x_2.snd (↑x.fst:Int).toNat x_2.fst)∧t.fst.toNat - x_2.fst<t.fst.toNat - x_1.fst∧(([]:List Nat)=[]∧((if cutE t (List.replicate (Int.toNat t.fst) (0:Int))=(0:Int) then rowsT t (Int.toNat t.fst) else[])=if cutE t (List.replicate (Int.toNat t.fst) (0:Int))=(0:Int) then rowsT t (Int.toNat t.fst) else[])∧True∧(↑x.fst:Int)=(↑x.fst:Int)∧t.fst=t.fst∧(↑x_1.fst:Int)+(1:Int)=(↑x_2.fst:Int)∧True)∧(((24:Nat)=(24:Nat)∧t=t)∧(True∧True∧True)∧((5:Nat)=(5:Nat)∧mpE x_1.snd (0:Nat)=mpE x_2.snd (0:Nat))∧((60:Nat)=(60:Nat)∧x_1.snd=x_2.snd)∧True)∧tabD=tabD∧True)∧(decide ((↑((if cutE t (List.replicate (Int.toNat t.fst) (0:Int))=(0:Int) then rowsT t (Int.toNat t.fst) else[]).getD (↑x_1.fst:Int).toNat []).length:Int)<((List.getD x_1.snd (↑x.fst:Int).toNat (List.replicate (5:Nat) (0:Int))).set (↑x_1.fst:Int).toNat ((List.getD x_1.snd (↑x.fst:Int).toNat (List.replicate (5:Nat) (0:Int))).getD (↑x_1.fst:Int).toNat (0:Int)+(1:Int))).getD (↑x_1.fst:Int).toNat (0:Int))=false→((0:Int)≤(0:Int)∧(0:Int)≤t.fst∧t.fst≤(↑(5:Nat):Int)∧True∧True)∧((!decide (cutE t (List.drop (Int.toNat (0:Int)) (List.take (Int.toNat t.fst) ((List.getD x_1.snd (↑x.fst:Int).toNat (List.replicate (5:Nat) (0:Int))).set (↑x_1.fst:Int).toNat ((List.getD x_1.snd (↑x.fst:Int).toNat (List.replicate (5:Nat) (0:Int))).getD (↑x_1.fst:Int).toNat (0:Int)+(1:Int)))))=(0:Int)))=true→k [Dat.mk (I) (0:Int),Dat.mk (Ty.err (53:Nat)) (cutE t (List.drop (Int.toNat (0:Int)) (List.take (Int.toNat t.fst) ((List.getD x_1.snd (↑x.fst:Int).toNat (List.replicate (5:Nat) (0:Int))).set (↑x_1.fst:Int).toNat ((List.getD x_1.snd (↑x.fst:Int).toNat (List.replicate (5:Nat) (0:Int))).getD (↑x_1.fst:Int).toNat (0:Int)+(1:Int))))))])∧((!decide (cutE t (List.drop (Int.toNat (0:Int)) (List.take (Int.toNat t.fst) ((List.getD x_1.snd (↑x.fst:Int).toNat (List.replicate (5:Nat) (0:Int))).set (↑x_1.fst:Int).toNat ((List.getD x_1.snd (↑x.fst:Int).toNat (List.replicate (5:Nat) (0:Int))).getD (↑x_1.fst:Int).toNat (0:Int)+(1:Int)))))=(0:Int)))=false→((if cutE t (List.drop (Int.toNat (0:Int)) (List.take (Int.toNat t.fst) ((List.getD x_1.snd (↑x.fst:Int).toNat (List.replicate (5:Nat) (0:Int))).set (↑x_1.fst:Int).toNat ((List.getD x_1.snd (↑x.fst:Int).toNat (List.replicate (5:Nat) (0:Int))).getD (↑x_1.fst:Int).toNat (0:Int)+(1:Int)))))=(0:Int) then wholeB t (List.drop (Int.toNat (0:Int)) (List.take (Int.toNat t.fst) ((List.getD x_1.snd (↑x.fst:Int).toNat (List.replicate (5:Nat) (0:Int))).set (↑x_1.fst:Int).toNat ((List.getD x_1.snd (↑x.fst:Int).toNat (List.replicate (5:Nat) (0:Int))).getD (↑x_1.fst:Int).toNat (0:Int)+(1:Int))))) else false)=true→mpE x_1.snd (0:Nat)=mpE x_1.snd (0:Nat)∧List.length x_1.snd<(1000000000:Nat)∧∀ (n:Int) (b:Bool),inK IntKind.i64 ((↑x_1.fst:Int)+(1:Int))∧∃ (x_2:Nat×LL),((x_2.fst≤t.fst.toNat∧(↑x.fst:Int).toNat<List.length x_2.snd)∧foundP t x_2.snd∧closedTo t x_2.snd (↑x.fst:Int).toNat∧closedAt t x_2.snd (↑x.fst:Int).toNat x_2.fst)∧t.fst.toNat - x_2.fst<t.fst.toNat - x_1.fst∧(([]:List Nat)=[]∧((if cutE t (List.replicate (Int.toNat t.fst) (0:Int))=(0:Int) then rowsT t (Int.toNat t.fst) else[])=if cutE t (List.replicate (Int.toNat t.fst) (0:Int))=(0:Int) then rowsT t (Int.toNat t.fst) else[])∧True∧(↑x.fst:Int)=(↑x.fst:Int)∧t.fst=t.fst∧(↑x_1.fst:Int)+(1:Int)=(↑x_2.fst:Int)∧True)∧(((24:Nat)=(24:Nat)∧t=t)∧(True∧True∧True)∧((5:Nat)=(5:Nat)∧mpE (addL x_1.snd ((List.getD x_1.snd (↑x.fst:Int).toNat (List.replicate (5:Nat) (0:Int))).set (↑x_1.fst:Int).toNat ((List.getD x_1.snd (↑x.fst:Int).toNat (List.replicate (5:Nat) (0:Int))).getD (↑x_1.fst:Int).toNat (0:Int)+(1:Int)))) (0:Nat)=mpE x_2.snd (0:Nat))∧((60:Nat)=(60:Nat)∧addL x_1.snd ((List.getD x_1.snd (↑x.fst:Int).toNat (List.replicate (5:Nat) (0:Int))).set (↑x_1.fst:Int).toNat ((List.getD x_1.snd (↑x.fst:Int).toNat (List.replicate (5:Nat) (0:Int))).getD (↑x_1.fst:Int).toNat (0:Int)+(1:Int)))=x_2.snd)∧True)∧tabD=tabD∧True)∧((if cutE t (List.drop (Int.toNat (0:Int)) (List.take (Int.toNat t.fst) ((List.getD x_1.snd (↑x.fst:Int).toNat (List.replicate (5:Nat) (0:Int))).set (↑x_1.fst:Int).toNat ((List.getD x_1.snd (↑x.fst:Int).toNat (List.replicate (5:Nat) (0:Int))).getD (↑x_1.fst:Int).toNat (0:Int)+(1:Int)))))=(0:Int) then wholeB t (List.drop (Int.toNat (0:Int)) (List.take (Int.toNat t.fst) ((List.getD x_1.snd (↑x.fst:Int).toNat (List.replicate (5:Nat) (0:Int))).set (↑x_1.fst:Int).toNat ((List.getD x_1.snd (↑x.fst:Int).toNat (List.replicate (5:Nat) (0:Int))).getD (↑x_1.fst:Int).toNat (0:Int)+(1:Int))))) else false)=false→inK IntKind.i64 ((↑x_1.fst:Int)+(1:Int))∧∃ (x_2:Nat×LL),((x_2.fst≤t.fst.toNat∧(↑x.fst:Int).toNat<List.length x_2.snd)∧foundP t x_2.snd∧closedTo t x_2.snd (↑x.fst:Int).toNat∧closedAt t x_2.snd (↑x.fst:Int).toNat x_2.fst)∧t.fst.toNat - x_2.fst<t.fst.toNat - x_1.fst∧(([]:List Nat)=[]∧((if cutE t (List.replicate (Int.toNat t.fst) (0:Int))=(0:Int) then rowsT t (Int.toNat t.fst) else[])=if cutE t (List.replicate (Int.toNat t.fst) (0:Int))=(0:Int) then rowsT t (Int.toNat t.fst) else[])∧True∧(↑x.fst:Int)=(↑x.fst:Int)∧t.fst=t.fst∧(↑x_1.fst:Int)+(1:Int)=(↑x_2.fst:Int)∧True)∧(((24:Nat)=(24:Nat)∧t=t)∧(True∧True∧True)∧((5:Nat)=(5:Nat)∧mpE x_1.snd (0:Nat)=mpE x_2.snd (0:Nat))∧((60:Nat)=(60:Nat)∧x_1.snd=x_2.snd)∧True)∧tabD=tabD∧True))))∧(decide ((↑x_1.fst:Int)<t.fst)=false→inK IntKind.i64 ((↑x.fst:Int)+(1:Int))∧∃ (x_2:Nat×LL),((chk t=(0:Int)∧x_2.fst≤List.length x_2.snd)∧foundP t x_2.snd∧closedTo t x_2.snd x_2.fst)∧countW t+(1:Nat) - x_2.fst<countW t+(1:Nat) - x.fst∧(([]:List Nat)=[]∧((if cutE t (List.replicate (Int.toNat t.fst) (0:Int))=(0:Int) then rowsT t (Int.toNat t.fst) else[])=if cutE t (List.replicate (Int.toNat t.fst) (0:Int))=(0:Int) then rowsT t (Int.toNat t.fst) else[])∧True∧(↑x.fst:Int)+(1:Int)=(↑x_2.fst:Int)∧True)∧(((24:Nat)=(24:Nat)∧t=t)∧(True∧True∧True)∧((5:Nat)=(5:Nat)∧mpE x_1.snd (0:Nat)=mpE x_2.snd (0:Nat))∧((60:Nat)=(60:Nat)∧x_1.snd=x_2.snd)∧True)∧tabD=tabD∧True))∧(decide ((↑x.fst:Int)<(↑(List.length x.snd):Int))=false→mpE x.snd (0:Nat)=mpE x.snd (0:Nat)∧k [Dat.mk (I) (↑(List.length x.snd):Int),Dat.mk (Ty.err (53:Nat)) (0:Int)])))):=by kernel_rfl
end Go.Proofs.YtfmiecbmikncpaaDoor

namespace Go.Proofs.YtfmiecbmikncpaaDoor.H
open Go.Vc
theorem mpE_some:∀ (L:LL) (n:Nat) (c:List Int),(mpGet (mpE L n) c).isSome=true↔c∈L
 | [],n,c=>by simp[mpE,mpGet]
 | x::r,n,c=>by
   have ih:=mpE_some r (n+1) c
   simp only[mpE,mpGet,List.mem_cons]
   by_cases h:x=c
   · simp[h]
   · rw[if_neg h,ih]
     constructor
     · exact .inr
     · rintro (e | e)
       · exact absurd e.symm h
       · exact e
theorem mpE_put:∀ (L:LL) (n:Nat) (c:List Int),c∉L→mpPut (mpE L n) c ((n+L.length:Nat):Int)=mpE (L++[c]) n
 | [],n,c,_=>by simp[mpE,mpPut]
 | x::r,n,c,h=>by
   have ih:=mpE_put r (n+1) c fun e=>h (List.mem_cons_of_mem _ e)
   have hx:x≠c:=fun e=>h (e▸List.mem_cons_self ..)
   simp only[mpE,mpPut,List.cons_append]
   rw[if_neg hx]
   rw[show n+(x::r).length=n+1+r.length by simp;omega,ih]
theorem addL_in{L:LL}{c:List Int}(h:c∈L):addL L c=L:=by unfold addL;rw[if_pos (List.contains_iff_mem.2 h)]
theorem addL_out{L:LL}{c:List Int}(h:c∉L):addL L c=L++[c]:=by unfold addL;rw[if_neg (fun e=>h (List.contains_iff_mem.1 e))]
theorem addL_mem{L:LL}{c x:List Int}:x∈addL L c↔x∈L∨x=c:=by
 by_cases h:c∈L
 · rw[addL_in h]
   constructor
   · exact .inl
   · rintro (e | e)
     · exact e
     · rw[e];exact h
 · rw[addL_out h];simp
theorem addL_nodup{L:LL}(hL:L.Nodup)(c:List Int):(addL L c).Nodup:=by
 by_cases h:c∈L
 · rw[addL_in h];exact hL
 · rw[addL_out h,List.nodup_iff_pairwise_ne,List.pairwise_append]
   refine⟨List.nodup_iff_pairwise_ne.1 hL,by simp,fun a ha b hb e => ?_⟩
   rw[List.mem_singleton] at hb
   subst hb;subst e;exact h ha
theorem addL_at{L:LL}{c:List Int}{i:Nat}(h:i<L.length)(z:List Int):(addL L c).getD i z=L.getD i z:=by
 by_cases hc:c∈L
 · rw[addL_in hc]
 · rw[addL_out hc,List.getD_eq_getElem?_getD,List.getD_eq_getElem?_getD,List.getElem?_append_left h]
theorem addL_len(L:LL)(c:List Int):L.length≤(addL L c).length:=by
 by_cases hc:c∈L
 · rw[addL_in hc];exact Nat.le_refl _
 · rw[addL_out hc,List.length_append];omega
theorem add0_vc(c:List Int)(k:SV→List Ob→Prop)(hk:∀ (n:Int) (b:Bool),k (ans2 n b) (qOb [c])):vcO ⟨Eq,[],glT,[],[]⟩ [joinAll] (Tryd.f29.body.getD .skip) Tryd.f29.ntmps [(.tmp 4,I),(.tmp 5,.bool)] [.ps 0,.d tK c] q0 k:=by
 rw[vcAdd0]
 refine⟨fun h=>(by cases h),fun _=>⟨trivial,trivial,by simp,by rw[inK_i64];simp,?_⟩⟩
 exact hk 0 true
theorem add1_vc(c:List Int)(L:LL)(hl:L.length<1000000000)(k:SV→List Ob→Prop)(hk:∀ (n:Int) (b:Bool),k (ans2 n b) (qOb (addL L c))):vcO ⟨Eq,[],glT,[],[]⟩ [joinAll] (Tryd.f29.body.getD .skip) Tryd.f29.ntmps [(.tmp 4,I),(.tmp 5,.bool)] [.ps 0,.d tK c] (qOb L) k:=by
 rw[vcAdd1]
 refine⟨fun h => ?_,fun h=>⟨trivial,trivial,?_,?_,?_⟩⟩
 · have h1:=(mpE_some L 0 c).1 h
   rw[addL_in h1] at hk
   exact hk _ _
 · simp;omega
 · rw[inK_i64];simp;omega
 · have h1:c∉L:=fun e=>by rw[(mpE_some L 0 c).2 e] at h;cases h
   rw[addL_out h1] at hk
   have h2:=mpE_put L 0 c h1
   rw[Nat.zero_add] at h2
   rw[h2]
   exact hk _ _
theorem ownAdd:OwnOk Tryd.prog glT 29 oAdd:=by
 refine own_of (CxOk.mk' Eq_ok (by kernel_rfl) mixed (gl:=glT) GOk.nil GoOk.nil noIt) Tryd.func29 (c:=Tryd.f29.body.getD .skip) (rvs:=[(.tmp 4,I),(.tmp 5,.bool)]) (by kernel_rfl) (by kernel_rfl) (by kernel_rfl) ?_
 intro args ob k h w1 w2
 clear w1 w2
 unfold oAdd at h
 split at h
 · rename_i c es L
   obtain⟨rfl,hl,hk⟩:=h
   exact⟨[joinAll],add1_vc c L hl k hk⟩
 · rename_i c u
   exact⟨[joinAll],add0_vc c k h⟩
 · exact h.elim
theorem ownLen:OwnOk Tryd.prog glT 30 oLen:=by
 refine own_of (CxOk.mk' Eq_ok (by kernel_rfl) mixed (gl:=glT) GOk.nil GoOk.nil noIt) Tryd.func30 (c:=Tryd.f30.body.getD .skip) (rvs:=[(.tmp 2,I)]) (by kernel_rfl) (by kernel_rfl) (by kernel_rfl) ?_
 intro args ob k h w1 w2
 clear w1 w2
 unfold oLen at h
 split at h
 · rename_i es L
   obtain⟨rfl,hk⟩:=h
   refine⟨[joinAll],?_⟩
   have e:=vcLen L k
   exact e.symm▸hk
 · exact h.elim
theorem ownAt:OwnOk Tryd.prog glT 31 oAt:=by
 refine own_of (CxOk.mk' Eq_ok (by kernel_rfl) mixed (gl:=glT) GOk.nil GoOk.nil noIt) Tryd.func31 (c:=Tryd.f31.body.getD .skip) (rvs:=[(.cell 4 60,tK)]) (by kernel_rfl) (by kernel_rfl) (by kernel_rfl) ?_
 intro args ob k h w1 w2
 clear w1 w2
 unfold oAt at h
 split at h
 · rename_i i es L
   obtain⟨rfl,h1,h2,hk⟩:=h
   refine⟨[joinAll],?_⟩
   have e:=vcAt L i k
   exact e.symm▸⟨h1,h2,hk⟩
 · exact h.elim
theorem rowsT_at{t:Tr}{p:Nat}(h:p<t.1.toNat):(rowsT t t.1.toNat).getD p []=ofT t (p:Int):=rowsT_getD t h
theorem zero_cut{t:Tr}(h:chk t=0):cutE t (List.replicate t.1.toNat 0)=0:=by
 have:=(zero_five h).2.1.1
 have hpr:=(good_of h).procs
 rw[List.take_replicate,Nat.min_eq_left (by omega)] at this
 exact this
theorem stepOk_mono{t:Tr}{L:LL}{c y:List Int}{p:Nat}(h:stepOk t L y p):stepOk t (addL L c) y p:=fun h1 h2=>addL_mem.2 (.inl (h h1 h2))
theorem count_vc(t:Tr)(k:List Dat→Prop)(hk:k [⟨I,if chk t=0 then (countW t:Int) else 0⟩,⟨tErr,chk t⟩]) :
   vcF ⟨Eq,[(7,cCheck),(28,cOfs),(32,cIs)],glT,[],[(29,oAdd),(30,oLen),(31,oAt)]⟩ (anCount t) (Tryd.f12.body.getD .skip) Tryd.f12.ntmps [(.tmp 2,I),(.tmp 3,tErr)] [⟨tTr,t⟩] k:=by
 rw[vcCount]
 by_cases h:chk t=0
 · have hpr:=(good_of h).procs
   have hz:=zero_cut h
   rw[if_pos h,h] at hk
   have hcw:countW t≤25 ^ 5:=by
     refine Nat.le_trans countW_le (Nat.le_trans (prodL_le h _ _) ?_)
     exact Nat.pow_le_pow_right (by decide) (by omega)
   have hcw:countW t≤9765625:=hcw
   have ht1:((t.1.toNat:Nat):Int)=t.1:=by omega
   have ht5:t.1.toNat≤5:=by omega
   simp only[hz,if_true,decide_true,Bool.not_true,Bool.not_false,Bool.false_eq_true,Bool.true_eq_false,false_implies,forall_const,true_and,and_true,h,decide_eq_true_eq,decide_eq_false_iff_not,Int.toNat_natCast,inK_i64,Int.toNat_zero,List.drop_zero,rowsT_len,Bool.not_eq_true',Bool.not_eq_false']
   have z5:=zero_five h
   refine⟨by omega,⟨(0,[List.replicate 5 0]),⟨Nat.zero_le _,⟨by simp,fun y hy=>by rw[List.mem_singleton] at hy;rw[hy];exact z5,List.mem_singleton.2 rfl⟩,fun i hi=>absurd hi (Nat.not_lt_zero _)⟩,rfl,rfl,rfl⟩,?_⟩
   rintro⟨a,L⟩ ⟨ha,hF,hC⟩
   dsimp only at ha hF hC ⊢
   refine⟨fun hlt=>⟨⟨(0,L),⟨⟨Nat.zero_le _,by show a<L.length;omega⟩,hF,hC,fun p hp=>absurd hp (Nat.not_lt_zero _)⟩,rfl,rfl,rfl⟩,?_⟩,fun hge => ?_⟩
   · clear hF hC hlt ha
     rintro⟨p,M⟩ ⟨⟨hp,ham⟩,hF,hC,hA⟩
     dsimp only at hp ham hF hC hA ⊢
     refine⟨fun hpl => ?_,fun hpl => ?_⟩
     · have hpn:p<t.1.toNat:=by omega
       have hMl:=found_le h hF.nd hF.five
       have ey:M.getD a (List.replicate 5 0)=M.getD a []:=by
         rw[List.getD_eq_getElem?_getD,List.getD_eq_getElem?_getD,List.getElem?_eq_getElem ham];rfl
       rw[ey,rowsT_at hpn]
       have hym:M.getD a []∈M:=by rw[List.getD_eq_getElem?_getD,List.getElem?_eq_getElem ham];exact List.getElem_mem ham
       generalize hY:M.getD a []=y at hym
       have hy:=hF.five y hym
       obtain⟨_,hcl,hcb⟩:=cut_ok hy.2.1.1
       have hb:=hcb p (by omega)
       rw[getD_take hpn] at hb
       have hl24:=lenT_le h p
       have hl24':(ofT t (p:Int)).length≤24:=hl24
       have e1:(y.set p (y.getD p 0+1)).getD p 0=y.getD p 0+1:=by rw[getD_set_eq (by rw[hy.1];omega),if_pos rfl]
       rw[e1]
       refine⟨by omega,by omega,by omega,by omega,by omega,by omega,by omega,by omega,fun hbig=>⟨by omega,(p+1,M),⟨⟨hpn,ham⟩,hF,hC,fun q hq => ?_⟩,by show t.1.toNat - (p+1)<_;omega,rfl,rfl,rfl⟩,fun hsm=>⟨by omega,?_⟩⟩
       · by_cases hqp:q=p
         · subst hqp
           rw[hY]
           intro h1 _
           have h1:y.getD q 0+1≤((ofT t (q:Int)).length:Int):=h1
           omega
         · exact hA q (by omega)
       · have hcz:cutE t ((y.set p (y.getD p 0+1)).take t.1.toNat)=0:=by
           refine cut_mk h (by rw[List.length_take,List.length_set,hy.1];omega) fun q hq => ?_
           rw[List.length_take,List.length_set,hy.1] at hq
           rw[getD_take (by omega),getD_set_eq (by rw[hy.1];omega)]
           split
           · rename_i e;subst e;omega
           · have:=hcb q (by omega)
             rw[getD_take (by omega)] at this
             exact this
         simp only[hcz,if_true,not_true_eq_false,false_implies,forall_const,true_and]
         refine⟨fun hw=>⟨by omega,by omega,(p+1,addL M (y.set p (y.getD p 0+1))),⟨⟨hpn,?_⟩,⟨addL_nodup hF.nd _,fun x hx => ?_,addL_mem.2 (.inl hF.zero)⟩,fun i hi q hq => ?_,fun q hq => ?_⟩,by show t.1.toNat - (p+1)<_;omega,rfl,rfl,rfl⟩,
           fun hw=>⟨by omega,(p+1,M),⟨⟨hpn,ham⟩,hF,hC,fun q hq => ?_⟩,by show t.1.toNat - (p+1)<_;omega,rfl,rfl,rfl⟩⟩
         · exact Nat.lt_of_lt_of_le ham (addL_len _ _)
         · rcases addL_mem.1 hx with hx | hx
           · exact hF.five x hx
           · rw[hx];exact five_step hy hpn ht5 ⟨hcz,hw⟩
         · rw[addL_at (by omega)]
           exact stepOk_mono (hC i hi q hq)
         · rw[addL_at ham]
           by_cases hqp:q=p
           · subst hqp
             rw[hY]
             exact fun _ _=>addL_mem.2 (.inr rfl)
           · exact stepOk_mono (hA q (by omega))
         · by_cases hqp:q=p
           · subst hqp
             rw[hY]
             intro _ h2
             rw[hw] at h2;cases h2
           · exact hA q (by omega)
     · have hpe:p=t.1.toNat:=by omega
       have hMl:=found_le h hF.nd hF.five
       refine⟨by omega,(a+1,M),⟨ham,hF,fun i hi q hq => ?_⟩,by show countW t+1 - (a+1)<_;omega,rfl,rfl,rfl⟩
       by_cases hia:i=a
       · subst hia;exact hA q (by omega)
       · exact hC i (by omega) q hq
   · have hal:a=L.length:=by omega
     rw[found_all h hF.nd hF.five hF.zero fun y hy p hp h1 h2=>by
       obtain⟨i,hi⟩:=List.getElem?_of_mem hy
       have hil:=(List.getElem?_eq_some_iff.1 hi).1
       have:=hC i (by omega) p hp
       rw[List.getD_eq_getElem?_getD,hi] at this
       exact this h1 h2]
     exact hk
 · rw[if_neg h] at hk
   refine⟨trivial,fun _=>hk,fun e => ?_⟩
   rw[decide_eq_false h] at e
   cases e
theorem okCount:PlainOk Tryd.prog glT 12 cCount:=by
 refine plain_of (CxOk.mk' Eq_ok (by kernel_rfl) mixed (gl:=glT) (GOk.cons (lift okCheck) Tryd.func7 (by kernel_rfl) (by kernel_rfl) (GOk.cons okOfs Tryd.func28 (by kernel_rfl) (by kernel_rfl) (GOk.cons okIs Tryd.func32 (by kernel_rfl) (by kernel_rfl) GOk.nil))) (GoOk.cons ownAdd Tryd.func29 (by kernel_rfl) (by kernel_rfl) (GoOk.cons ownLen Tryd.func30 (by kernel_rfl) (by kernel_rfl) (GoOk.cons ownAt Tryd.func31 (by kernel_rfl) (by kernel_rfl) GoOk.nil))) noIt) Tryd.func12 (c:=Tryd.f12.body.getD .skip) (rvs:=[(.tmp 2,I),(.tmp 3,tErr)]) (by kernel_rfl) (by kernel_rfl) (by kernel_rfl) ?_
 intro ds k ⟨hp,hk⟩ hwf
 obtain⟨t,rfl,-⟩:=dest1 hp
 exact⟨anCount t,count_vc t k hk⟩
end Go.Proofs.YtfmiecbmikncpaaDoor.H

namespace Go.Proofs.YtfmiecbmikncpaaDoor
open Go.Vc
set_option linter.unusedVariables false
theorem vcRow(t:Tr)(k:List Dat→Prop):vcF ⟨Erw,[(10,cPlain)],[],[],[(33,oSort)]⟩ (anRow t) (Tryd.f13.body.getD .skip) Tryd.f13.ntmps [(.tmp 2,.sl I),(.tmp 3,tErr)] [⟨tTr,t⟩] k=(
 True∧((!decide (chk t=(0:Int)))=true→k [Dat.mk (I).sl [],Dat.mk (Ty.err (53:Nat)) (chk t)])∧((!decide (chk t=(0:Int)))=false→(∃ (x:Nat),(x≤(plain t).length∧True)∧(([]:List Nat)=[]∧([]:List Nat)=[]∧True∧(↑(plain t).length:Int)=(↑(plain t).length:Int)∧(0:Int)=(↑x:Int)∧True)∧(((24:Nat)=(24:Nat)∧t=t)∧((25:Nat)=(25:Nat)∧plain t=plain t)∧((3:Nat)=(3:Nat)∧[]=iota x)∧True)∧True)∧∀ (x:Nat),x≤(plain t).length∧True→(decide ((↑x:Int)<(↑(plain t).length:Int))=true→(iota x).length+((List.replicate (1:Nat) (0:Int)).set (0:Nat) (↑x:Int)).length≤(1000000000:Nat)∧inK IntKind.i64 ((↑x:Int)+(1:Int))∧∃ (x_1:Nat),(x_1≤(plain t).length∧True)∧(plain t).length - x_1<(plain t).length - x∧(([]:List Nat)=[]∧([]:List Nat)=[]∧True∧(↑(plain t).length:Int)=(↑(plain t).length:Int)∧(↑x:Int)+(1:Int)=(↑x_1:Int)∧True)∧(((24:Nat)=(24:Nat)∧t=t)∧((25:Nat)=(25:Nat)∧plain t=plain t)∧((3:Nat)=(3:Nat)∧(iota x).append ((List.replicate (1:Nat) (0:Int)).set (0:Nat) (↑x:Int))=iota x_1)∧True)∧True)∧(decide ((↑x:Int)<(↑(plain t).length:Int))=false→(∀ (x_1:Int),x_1∈iota x→inR (plain t) t x_1)∧(iota x).length≤(1000000000:Nat)∧∀ (ys:List Int),srtP (plain t) t (iota x) ys→k [Dat.mk (I).sl ys,Dat.mk (Ty.err (53:Nat)) (0:Int)]))):=by kernel_rfl
open Go.Vc
set_option linter.unusedVariables false
theorem vcNaN(a:Int)(k:List Dat→Prop):vcF ⟨Ec,[],[],[],[]⟩ [] (Tryd.f50.body.getD .skip) Tryd.f50.ntmps [(.tmp 2,.bool)] [⟨I,a⟩] k=(
 k [Dat.mk Ty.bool !decide (a=a)]):=by kernel_rfl
theorem vcCmp(a b:Int)(k:List Dat→Prop):vcF ⟨Ec,[(50,cNaN)],[],[],[]⟩ [joinAll] (Tryd.f36.body.getD .skip) Tryd.f36.ntmps [(.tmp 4,I)] [⟨I,a⟩,⟨I,b⟩] k=(
 True∧True∧(false=true→(false=true→k [Dat.mk (I) (0:Int)])∧(false=false→k [Dat.mk (I) (-1:Int)]))∧(false=false→(false=true→k [Dat.mk (I) (1:Int)])∧(false=false→(decide (a<b)=true→k [Dat.mk (I) (-1:Int)])∧(decide (a<b)=false→(decide (b<a)=true→k [Dat.mk (I) (1:Int)])∧(decide (b<a)=false→k [Dat.mk (I) (0:Int)]))))):=by kernel_rfl
theorem vcOr(l:List Int)(k:List Dat→Prop):vcF ⟨Ec,[],[],[],[]⟩ (anOr l) (Tryd.f35.body.getD .skip) Tryd.f35.ntmps [(.tmp 2,I)] [⟨.sl I,l⟩] k=(
 (∃ (x:Nat),(x≤l.length∧orI l=orI (List.drop x l))∧((0:Int)=(0:Int)∧l=l∧(↑l.length:Int)=(↑l.length:Int)∧(0:Int)=(↑x:Int)∧True)∧True∧True)∧∀ (x:Nat),x≤l.length∧orI l=orI (List.drop x l)→(decide ((↑x:Int)<(↑l.length:Int))=true→(0:Int)≤(↑x:Int)∧(↑x:Int)<(↑l.length:Int)∧((!decide (l.getD (↑x:Int).toNat (0:Int)=(0:Int)))=true→k [Dat.mk (I) (l.getD (↑x:Int).toNat (0:Int))])∧((!decide (l.getD (↑x:Int).toNat (0:Int)=(0:Int)))=false→inK IntKind.i64 ((↑x:Int)+(1:Int))∧∃ (x_1:Nat),(x_1≤l.length∧orI l=orI (List.drop x_1 l))∧l.length - x_1<l.length - x∧((0:Int)=(0:Int)∧l=l∧(↑l.length:Int)=(↑l.length:Int)∧(↑x:Int)+(1:Int)=(↑x_1:Int)∧True)∧True∧True))∧(decide ((↑x:Int)<(↑l.length:Int))=false→k [Dat.mk (I) (0:Int)])):=by kernel_rfl
theorem vcCls(i j:Int)(l:List Int)(t:Tr)(k:List Dat→Prop):vcF ⟨Ec,[(36,cCmp),(35,cOr)],[],[],[]⟩ [joinAll] (Tryd.f34.body.getD .skip) Tryd.f34.ntmps [(.tmp 6,I)] [⟨I,i⟩,⟨I,j⟩,⟨.ptr (.sl I),some l⟩,⟨.ptr tTr,some t⟩] k=(
 ((0:Int)≤i∧i<(↑l.length:Int)∧(0:Int)≤j∧j<(↑l.length:Int)∧True∧(0:Int)≤i∧i<(↑(List.length t.snd.fst):Int)∧(0:Int)≤j∧j<(↑(List.length t.snd.fst):Int)∧True∧True∧True)∧k [Dat.mk (I) (orI (((List.replicate (2:Nat) (0:Int)).set (0:Nat) (cmpI (l.getD i.toNat (0:Int)) (l.getD j.toNat (0:Int)))).set (1:Nat) (cmpI (List.getD t.snd.fst i.toNat ((0:Int),(0:Int),())).fst (List.getD t.snd.fst j.toNat ((0:Int),(0:Int),())).fst)))]):=by kernel_rfl
open Go.Vc
theorem okNaN[Dn]:PlainOk Tryd.prog [] 50 cNaN:=by
 refine plain_of (CxOk.mk' Ec_ok (by kernel_rfl) mixed (gl:=[]) GOk.nil GoOk.nil noIt) Tryd.func50 (c:=Tryd.f50.body.getD .skip) (rvs:=[(.tmp 2,.bool)]) (by kernel_rfl) (by kernel_rfl) (by kernel_rfl) ?_
 intro ds k ⟨hp,hk⟩ hwf
 obtain⟨a,rfl,-⟩:=dest1 hp
 refine⟨[],?_⟩
 rw[vcNaN]
 have hk:k [⟨.bool,false⟩]:=hk
 simpa using hk
theorem okCmp[Dn]:PlainOk Tryd.prog [] 36 cCmp:=by
 refine plain_of (CxOk.mk' Ec_ok (by kernel_rfl) mixed (gl:=[]) (GOk.cons okNaN Tryd.func50 (by kernel_rfl) (by kernel_rfl) GOk.nil) GoOk.nil noIt) Tryd.func36 (c:=Tryd.f36.body.getD .skip) (rvs:=[(.tmp 4,I)]) (by kernel_rfl) (by kernel_rfl) (by kernel_rfl) ?_
 intro ds k ⟨hp,hk⟩ hwf
 obtain⟨a,b,rfl,-⟩:=dest2 hp
 refine⟨[joinAll],?_⟩
 rw[vcCmp]
 have ret:∀ x:Int,cmpI a b=x→k [⟨I,x⟩]:=by rintro _ rfl;exact hk
 simp only[decide_eq_true_eq,decide_eq_false_iff_not,true_and,forall_const,reduceCtorEq,false_implies]
 refine⟨fun h=>ret _ (by unfold cmpI;rw[if_pos h]),fun h=>⟨fun h2=>ret _ (by unfold cmpI;rw[if_neg h,if_pos h2]),fun h2=>ret _ (by unfold cmpI;rw[if_neg h,if_neg h2])⟩⟩
theorem or_vc(l:List Int)(hl:l.length≤maxLen)(k:List Dat→Prop)(hk:k [⟨I,orI l⟩]):vcF ⟨Ec,[],[],[],[]⟩ (anOr l) (Tryd.f35.body.getD .skip) Tryd.f35.ntmps [(.tmp 2,I)] [⟨.sl I,l⟩] k:=by
 rw[vcOr]
 have hml:maxLen≤9223372036854775807:=by decide
 have ret:∀ x:Int,orI l=x→k [⟨I,x⟩]:=by rintro _ rfl;exact hk
 simp only[decide_eq_true_eq,decide_eq_false_iff_not,true_and,and_true,Bool.not_eq_true',Bool.not_eq_false',Int.toNat_natCast,inK_i64]
 refine⟨⟨0,⟨Nat.zero_le _,by rw[List.drop_zero]⟩,rfl⟩,fun x ⟨hx,ho⟩=>⟨fun hlt => ?_,fun hge=>ret _ ?_⟩⟩
 · have hxl:x<l.length:=by omega
   have hd:orI (l.drop x)=if l.getD x 0=0 then orI (l.drop (x+1)) else l.getD x 0:=by
     rw[List.drop_eq_getElem_cons hxl,List.getD_eq_getElem?_getD,List.getElem?_eq_getElem hxl];rfl
   refine⟨by omega,hlt,fun hne=>ret _ ?_,fun he=>⟨by omega,x+1,⟨by omega,?_⟩,by omega,by omega⟩⟩
   · rw[ho,hd,if_neg hne]
   · rw[ho,hd,if_pos he]
 · rw[ho,List.drop_of_length_le (by omega)];rfl
theorem okOr[Dn]:PlainOk Tryd.prog [] 35 cOr:=by
 refine plain_of (CxOk.mk' Ec_ok (by kernel_rfl) mixed (gl:=[]) GOk.nil GoOk.nil noIt) Tryd.func35 (c:=Tryd.f35.body.getD .skip) (rvs:=[(.tmp 2,I)]) (by kernel_rfl) (by kernel_rfl) (by kernel_rfl) ?_
 intro ds k ⟨hp,hk⟩ hwf
 obtain⟨l,rfl,-⟩:=dest1 hp
 exact⟨anOr l,or_vc l (wf1 hwf).1 k hk⟩
theorem okCls[Dn]:PlainOk Tryd.prog [] 34 cCls:=by
 refine plain_of (CxOk.mk' Ec_ok (by kernel_rfl) mixed (gl:=[]) (GOk.cons okCmp Tryd.func36 (by kernel_rfl) (by kernel_rfl) (GOk.cons okOr Tryd.func35 (by kernel_rfl) (by kernel_rfl) GOk.nil)) GoOk.nil noIt) Tryd.func34 (c:=Tryd.f34.body.getD .skip) (rvs:=[(.tmp 6,I)]) (by kernel_rfl) (by kernel_rfl) (by kernel_rfl) ?_
 intro ds k hk hwf
 obtain⟨i,j,l,t,rfl,hk⟩:=gdest4 hk
 refine⟨[joinAll],?_⟩
 cases l with
 | none=>exact hk.elim
 | some l =>
   cases t with
   | none=>exact hk.elim
   | some t =>
     obtain⟨hi,hj,hk⟩:=hk
     rw[vcCls]
     obtain⟨h1,h2,h3⟩:=hi
     obtain⟨g1,g2,g3⟩:=hj
     exact⟨⟨h1,h2,g1,g2,trivial,h1,h3,g1,g3,trivial,trivial,trivial⟩,hk⟩
open Go.Shelf Go.Proofs
def laidRen:Go.Shelf.Ren:=⟨fun | 6=>33 | 15=>49 | 14=>48 | 28=>63 | 29=>64 | 20=>55 | 21=>56 | 22=>57 | 23=>58 | 24=>59 | 25=>60 | 26=>61 | 27=>62 | 46=>65 | 47=>66 | 48=>67 | 49=>68 | 50=>69 | 57=>70 | n=>n,fun | 22=>25 | 24=>3 | 25=>51 | 3=>3 | 39=>79 | 0=>0 | 53=>86 | 55=>88 | 4=>4 | 46=>91 | 45=>90 | 50=>68 | 5=>5 | 9=>9 | 66=>98 | 70=>102 | 76=>104 | 77=>105 | n=>n,fun | n=>n⟩
theorem laidSort:Go.Proofs.SlLaysF.n6 Tryd.prog laidRen where
 mixed:=by kernel_rfl
 f6:=⟨ "slices.SortFunc[[]int,int]",by decide,Tryd.func33.trans (congrArg some (by kernel_rfl))⟩
 f14:=⟨ "slices.pdqsortCmpFunc[int]",by decide,Tryd.func48.trans (congrArg some (by kernel_rfl))⟩
 f15:=Tryd.func49.trans (congrArg some (by kernel_rfl))
 f20:=⟨ "slices.insertionSortCmpFunc[int]",by decide,Tryd.func55.trans (congrArg some (by kernel_rfl))⟩
 f21:=⟨ "slices.heapSortCmpFunc[int]",by decide,Tryd.func56.trans (congrArg some (by kernel_rfl))⟩
 f22:=⟨ "slices.breakPatternsCmpFunc[int]",by decide,Tryd.func57.trans (congrArg some (by kernel_rfl))⟩
 f23:=⟨ "slices.choosePivotCmpFunc[int]",by decide,Tryd.func58.trans (congrArg some (by kernel_rfl))⟩
 f24:=⟨ "slices.reverseRangeCmpFunc[int]",by decide,Tryd.func59.trans (congrArg some (by kernel_rfl))⟩
 f25:=⟨ "slices.partialInsertionSortCmpFunc[int]",by decide,Tryd.func60.trans (congrArg some (by kernel_rfl))⟩
 f26:=⟨ "slices.partitionEqualCmpFunc[int]",by decide,Tryd.func61.trans (congrArg some (by kernel_rfl))⟩
 f27:=⟨ "slices.partitionCmpFunc[int]",by decide,Tryd.func62.trans (congrArg some (by kernel_rfl))⟩
 f28:=Tryd.func63.trans (congrArg some (by kernel_rfl))
 f29:=Tryd.func64.trans (congrArg some (by kernel_rfl))
 f46:=⟨ "slices.siftDownCmpFunc[int]",by decide,Tryd.func65.trans (congrArg some (by kernel_rfl))⟩
 f47:=Tryd.func66.trans (congrArg some (by kernel_rfl))
 f48:=Tryd.func67.trans (congrArg some (by kernel_rfl))
 f49:=⟨ "slices.medianAdjacentCmpFunc[int]",by decide,Tryd.func68.trans (congrArg some (by kernel_rfl))⟩
 f50:=⟨ "slices.medianCmpFunc[int]",by decide,Tryd.func69.trans (congrArg some (by kernel_rfl))⟩
 f57:=⟨ "slices.order2CmpFunc[int]",by decide,Tryd.func70.trans (congrArg some (by kernel_rfl))⟩
 t0:=Tryd.underlying0
 a0:=Tryd.isAgg0
 z0:=Tryd.sizeOf0
 v0:=Tryd.zeroValue0
 t3:=Tryd.underlying3
 a3:=Tryd.isAgg3
 z3:=Tryd.sizeOf3
 v3:=Tryd.zeroValue3
 t4:=Tryd.underlying4
 a4:=Tryd.isAgg4
 z4:=Tryd.sizeOf4
 v4:=Tryd.zeroValue4
 t5:=Tryd.underlying5
 a5:=Tryd.isAgg5
 z5:=Tryd.sizeOf5
 v5:=Tryd.zeroValue5
 t9:=Tryd.underlying9
 a9:=Tryd.isAgg9
 z9:=Tryd.sizeOf9
 v9:=Tryd.zeroValue9
 t22:=Tryd.underlying25
 a22:=Tryd.isAgg25
 z22:=Tryd.sizeOf25
 v22:=Tryd.zeroValue25
 a24:=Tryd.isAgg3
 z24:=Tryd.sizeOf3
 t25:=Tryd.underlying51
 a25:=Tryd.isAgg51
 z25:=Tryd.sizeOf51
 v25:=Tryd.zeroValue51
 t39:=Tryd.underlying79
 a39:=Tryd.isAgg79
 z39:=Tryd.sizeOf79
 v39:=Tryd.zeroValue79
 t45:=Tryd.underlying90
 a45:=Tryd.isAgg90
 z45:=Tryd.sizeOf90
 v45:=Tryd.zeroValue90
 t46:=Tryd.underlying91
 a46:=Tryd.isAgg91
 z46:=Tryd.sizeOf91
 v46:=Tryd.zeroValue91
 t50:=Tryd.underlying68
 a50:=Tryd.isAgg68
 z50:=Tryd.sizeOf68
 v50:=Tryd.zeroValue68
 t53:=Tryd.underlying86
 a53:=Tryd.isAgg86
 z53:=Tryd.sizeOf86
 v53:=Tryd.zeroValue86
 t55:=Tryd.underlying88
 a55:=Tryd.isAgg88
 z55:=Tryd.sizeOf88
 v55:=Tryd.zeroValue88
 t66:=Tryd.underlying98
 a66:=Tryd.isAgg98
 z66:=Tryd.sizeOf98
 v66:=Tryd.zeroValue98
 t70:=Tryd.underlying102
 a70:=Tryd.isAgg102
 z70:=Tryd.sizeOf102
 v70:=Tryd.zeroValue102
 t76:=Tryd.underlying104
 a76:=Tryd.isAgg104
 z76:=Tryd.sizeOf104
 v76:=Tryd.zeroValue104
 t77:=Tryd.underlying105
 a77:=Tryd.isAgg105
 z77:=Tryd.sizeOf105
 v77:=Tryd.zeroValue105
open Go.Vc
theorem cmpR_iff(l:List Int)(t:Tr)(i j:Int):cmpR l t i j<0↔l.getD i.toNat 0<l.getD j.toNat 0∨l.getD i.toNat 0=l.getD j.toNat 0∧(t.2.1.getD i.toNat (0,0,())).1<(t.2.1.getD j.toNat (0,0,())).1:=by
 unfold cmpR cmpI
 generalize l.getD i.toNat 0=a
 generalize l.getD j.toNat 0=b
 generalize (t.2.1.getD i.toNat (0,0,())).1=p
 generalize (t.2.1.getD j.toNat (0,0,())).1=q
 simp only[orI]
 by_cases h1:a<b
 · simp[h1]
 · by_cases h2:b<a
   · simp[h1,h2];omega
   · have:a=b:=by omega
     subst this
     by_cases h3:p<q
     · simp[h3]
     · by_cases h4:q<p
       · simp[h3,h4]
       · simp[h3,h4]
theorem cmpR_swo(l:List Int)(t:Tr):SWOn (inR l t) (cmpR l t):=by
 refine⟨fun x _ => ?_,fun x y z _ _ _ => ?_,fun x y z _ _ _ => ?_⟩<;>simp only[cmpR_iff]<;>omega
theorem ownSort:OwnOk Tryd.prog [] 33 oSort:=by
 refine own_sort1 laidSort (e:=3) (t:=I) rfl (g:=34) ⟨_,Tryd.func34,by kernel_rfl,by kernel_rfl⟩ (tc:=tCa) rfl (c:=cCls) (@okCls ⟨true⟩)
   (va:=fun v x=>match v with
     | (some l,some t,_)=>inR l t x
     | _=>False)
   (cmp:=fun v x y=>match v with
     | (some l,some t,_)=>cmpR l t x y
     | _=>0) ?_ ?_
 · rintro⟨l,t,u⟩ x y hx hy k hk
   cases l with
   | none=>exact hx.elim
   | some l =>
     cases t with
     | none=>exact hx.elim
     | some t=>exact⟨hx,hy,hk⟩
 · intro args ob k h
   unfold oSort at h
   split at h
   · rename_i l t u xs
     obtain⟨h1,h2,h3⟩:=h
     exact⟨(some l,some t,u),xs,rfl,rfl,h1,cmpR_swo l t,h2,fun ys p q=>h3 ys ⟨p,q⟩⟩
   · exact h.elim
theorem row_vc(t:Tr)(k:List Dat→Prop)(h1:chk t≠0→∀ r:List Int,r=[]→k [⟨.sl I,r⟩,⟨tErr,chk t⟩])(h2:chk t=0→∀ r:List Int,rowP t r→k [⟨.sl I,r⟩,⟨tErr,(0:Int)⟩]):vcF ⟨Erw,[(10,cPlain)],[],[],[(33,oSort)]⟩ (anRow t) (Tryd.f13.body.getD .skip) Tryd.f13.ntmps [(.tmp 2,.sl I),(.tmp 3,tErr)] [⟨tTr,t⟩] k:=by
 rw[vcRow]
 simp only[decide_eq_true_eq,decide_eq_false_iff_not,true_and,and_true,Bool.not_eq_true',Bool.not_eq_false',Int.toNat_natCast,inK_i64,eq_self,List.length_set,List.length_replicate]
 refine⟨fun h=>h1 h [] rfl,fun h => ?_⟩
 have g:=good_of h
 have hlen:=g.len
 have hpl:=plain_len h
 have hil:=iota_len
 refine⟨⟨0,Nat.zero_le _,rfl,rfl⟩,fun x hx=>⟨fun hlt=>⟨by rw[hil];omega,by omega,x+1,by omega,by omega,by omega,(iota_succ x).symm⟩,fun hge=>⟨fun y hy => ?_,by rw[hil];omega,fun ys hys => ?_⟩⟩⟩
 · obtain⟨a,b⟩:=iota_mem.1 hy
   exact⟨a,by omega,by omega⟩
 · have hxe:x=t.2.1.length:=by omega
   subst hxe
   exact h2 h ys hys
theorem okRow:PlainOk Tryd.prog [] 13 cRow:=by
 refine plain_of (CxOk.mk' Erw_ok (by kernel_rfl) mixed (gl:=[]) (GOk.cons okPlain Tryd.func10 (by kernel_rfl) (by kernel_rfl) GOk.nil) (GoOk.cons ownSort Tryd.func33 (by kernel_rfl) (by kernel_rfl) GoOk.nil) noIt) Tryd.func13 (c:=Tryd.f13.body.getD .skip) (rvs:=[(.tmp 2,.sl I),(.tmp 3,tErr)]) (by kernel_rfl) (by kernel_rfl) (by kernel_rfl) ?_
 intro ds k hk hwf
 obtain⟨t,rfl,h1,h2⟩:=gdest1 hk
 exact⟨anRow t,row_vc t k h1 h2⟩
open Go.Vc
set_option linter.unusedVariables false
theorem vcLess(a b:Stp)(k:List Dat→Prop):vcF ⟨Eh,[],[],[],[]⟩ [joinAll] (Tryd.f18.body.getD .skip) Tryd.f18.ntmps [(.tmp 4,.bool)] [⟨tSt,a⟩,⟨tSt,b⟩] k=(
 (decide (a.fst<b.fst)=true→k [Dat.mk Ty.bool true])∧(decide (a.fst<b.fst)=false→(decide (a.fst=b.fst)=true→k [Dat.mk Ty.bool (decide (a.snd.fst<b.snd.fst))])∧(decide (a.fst=b.fst)=false→k [Dat.mk Ty.bool false]))):=by kernel_rfl
open Go.Vc
theorem okLess:PlainOk Tryd.prog [] 18 cLess:=by
 refine plain_of (CxOk.mk' Eh_ok (by kernel_rfl) mixed (gl:=[]) GOk.nil GoOk.nil noIt) Tryd.func18 (c:=Tryd.f18.body.getD .skip) (rvs:=[(.tmp 4,.bool)]) (by kernel_rfl) (by kernel_rfl) (by kernel_rfl) ?_
 intro ds k ⟨hp,hk⟩ hwf
 obtain⟨a,b,rfl,-⟩:=dest2 hp
 have hk:k [⟨.bool,lessB a b⟩]:=hk
 refine⟨[joinAll],?_⟩
 rw[vcLess]
 unfold lessB at hk
 refine⟨fun h => ?_,fun h=>⟨fun h2 => ?_,fun h2 => ?_⟩⟩
 · rw[h] at hk;exact hk
 · rw[h,h2] at hk;exact hk
 · rw[h,h2] at hk;exact hk
open Go.Vc
theorem top_vc(t:Tr)(ts:List Int)(k:List Dat→Prop)(hk:k [⟨.bool,true⟩]) :
   vcF ⟨Eh,[(4,cBehind),(5,cInts),(6,cOrd),(7,cCheck),(8,cWid),(9,cRanks),(10,cPlain),(11,cDown),(12,H.cCount),(13,cRowT),(14,cMany),(15,cIsRow),(16,cStamps),(17,cBit),(18,cLess)],glT,[],[]⟩ (anTop t ts) (Tryd.f3.body.getD .skip) Tryd.f3.ntmps [(.tmp 4,.bool)] [⟨tTr,t⟩,⟨.sl I,ts⟩] k:=by
 rw[vcTop]
 have e1:(((List.replicate 3 (0:Int)).set 0 2).set 1 4).set 2 0=[2,4,0]:=rfl
 have e2:(((List.replicate 3 (0:Int)).set 0 6).set 1 4).set 2 0=[6,4,0]:=rfl
 simp only[e1,e2,one_fact.1,one_fact.2,decide_true,Bool.not_true,Bool.false_eq_true,false_implies,true_and,and_true,eq_self,ite_true,beq_self_eq_true,forall_const,if_true,implies_true]
 cases hB:ordB t with
 | false =>
   unfold ordB at hB
   refine⟨fun _=>⟨fun _=>hk,fun hc => ?_⟩,fun h=>by cases h⟩
   rw[Bool.not_eq_false',decide_eq_true_eq] at hc
   rw[decide_eq_true hc,Bool.true_and,decide_eq_false_iff_not] at hB
   rw[decide_eq_true (by omega)]
   exact hk
 | true =>
   have hO:ordO t=aftI t:=by unfold ordO;rw[if_pos hB]
   unfold ordB at hB
   rw[Bool.and_eq_true,decide_eq_true_eq,decide_eq_true_eq] at hB
   obtain⟨hc,hl⟩:=hB
   have g:=good_of hc
   have ho:=ordE_aft g hl
   have hw:=wide_procs g hl
   have hd:=down_all hc hl
   have hpl:=plain_len hc
   have hrl:=rkL_len t
   have hal:=aftI_len t
   refine⟨fun h=>(by cases h),fun _=>⟨t,⟨hc,hl,hO⟩,hc,fun r hr => ?_⟩⟩
   have d1:decide (((widL (aftI t) (2 ^ t.2.1.length):Nat):Int)<0)=false:=decide_eq_false (by omega)
   have d2:decide (t.1<pop ((widL (aftI t) (2 ^ t.2.1.length):Nat):Int))=false:=decide_eq_false (by omega)
   simp only[hO,ho,clI_aft g,hal,hrl,hpl,hc,hd,d1,d2,Bool.or_false,Bool.false_or,decide_true,Bool.not_true,Bool.false_eq_true,false_implies,true_and,and_true,eq_self,ite_true,beq_self_eq_true,forall_const,if_true,implies_true,Int.toNat_natCast,decide_eq_true_eq,decide_eq_false_iff_not,Bool.not_eq_true',Bool.not_eq_false']
   refine⟨⟨0,by omega,rfl⟩,fun x hx=>⟨fun hlt => ?_,fun hge=>⟨t,⟨hc,hl,rfl,hr⟩,fun _=>hk,fun h => ?_⟩⟩⟩
   · have hxl:x<t.2.1.length:=by omega
     have h1:=plain_at hc hxl
     have h2:=rkL_at hxl
     have h3:=pl_le t.2.1 x
     have h4:=pl_pos t.2.1 x
     refine⟨⟨by omega,by omega,by omega,by omega,inK_i64.2 ⟨by omega,by omega⟩⟩,fun hne=>absurd (by omega) hne,fun _=>⟨inK_i64.2 ⟨by omega,by omega⟩,x+1,by omega,by omega,by omega⟩⟩
   · have hs:(stamps t ts).length=t.2.1.length:=by rw[hchk_zero h,(sst_len _ _ _).1]
     have hq:k [⟨.bool,decide (((stamps t ts).length:Int)=(t.2.1.length:Int))⟩]:=by rw[hs,decide_eq_true rfl];exact hk
     refine⟨⟨0,by omega,rfl⟩,fun i hi=>⟨fun hlt=>⟨fun _=>⟨⟨0,by omega,rfl⟩,fun j hj=>⟨fun hltj => ?_,fun _=>⟨inK_i64.2 ⟨by omega,by omega⟩,i+1,by omega,by omega,by omega⟩⟩⟩,fun _=>hq⟩,fun _=>hq⟩⟩
     have hil:i<t.2.1.length:=by omega
     have hbb:bitB ((aftI t).getD i 0) (j:Int)=(aft t.2.1 t.2.1.length i).testBit j:=by
       rw[aftI_at hil]
       unfold bitB
       rw[decide_eq_true (Int.natCast_nonneg _),Int.toNat_natCast,Int.toNat_natCast];rfl
     have hno:(bitB ((aftI t).getD i 0) (j:Int) && !lessB ((stamps t ts).getD i (0,0,())) ((stamps t ts).getD j (0,0,())))=false:=by
       rw[hbb]
       cases hb:(aft t.2.1 t.2.1.length i).testBit j with
       | false=>rfl
       | true=>rw[stamps_less g h hil hb];rfl
     refine⟨⟨by omega,by omega,fun _=>⟨by omega,by omega,by omega,by omega⟩⟩,fun hbad => ?_,fun _=>⟨inK_i64.2 ⟨by omega,by omega⟩,j+1,by omega,by omega,by omega⟩⟩
     rw[hno] at hbad;cases hbad
theorem okRowT:PlainOk Tryd.prog glT 13 cRowT:=by
 intro ds k hs
 refine PlainOk.sub (by intro x hx;cases hx) okRow ds k ?_
 obtain⟨t,rfl,⟨hc,-⟩,h⟩:=gdest1 hs
 show (chk t≠0→∀ r:List Int,r=[]→k [⟨.sl I,r⟩,⟨tErr,chk t⟩])∧(chk t=0→∀ r:List Int,rowP t r→k [⟨.sl I,r⟩,⟨tErr,(0:Int)⟩])
 exact⟨fun hn=>absurd hc hn,fun _=>h⟩
theorem okLawTO:PlainOk Tryd.prog glT 3 (cdet [tTr,.sl I] (fun _ _=>True) (fun _ _=>[⟨.bool,true⟩])):=by
 refine plain_of (CxOk.mk' Eh_ok (by kernel_rfl) mixed (gl:=glT) (GOk.cons okBehind Tryd.func4 (by kernel_rfl) (by kernel_rfl) (GOk.cons (PlainOk.sub (by intro x hx;cases hx) okInts) Tryd.func5 (by kernel_rfl) (by kernel_rfl) (GOk.cons okOrd Tryd.func6 (by kernel_rfl) (by kernel_rfl) (GOk.cons (PlainOk.sub (by intro x hx;cases hx) okCheck) Tryd.func7 (by kernel_rfl) (by kernel_rfl) (GOk.cons okWid Tryd.func8 (by kernel_rfl) (by kernel_rfl) (GOk.cons okRanks Tryd.func9 (by kernel_rfl) (by kernel_rfl) (GOk.cons (PlainOk.sub (by intro x hx;cases hx) okPlain) Tryd.func10 (by kernel_rfl) (by kernel_rfl) (GOk.cons okDown Tryd.func11 (by kernel_rfl) (by kernel_rfl) (GOk.cons H.okCount Tryd.func12 (by kernel_rfl) (by kernel_rfl) (GOk.cons okRowT Tryd.func13 (by kernel_rfl) (by kernel_rfl) (GOk.cons okManyR Tryd.func14 (by kernel_rfl) (by kernel_rfl) (GOk.cons okIsRow Tryd.func15 (by kernel_rfl) (by kernel_rfl) (GOk.cons (PlainOk.sub (by intro x hx;cases hx) okStamps) Tryd.func16 (by kernel_rfl) (by kernel_rfl) (GOk.cons (PlainOk.sub (by intro x hx;cases hx) okBit) Tryd.func17 (by kernel_rfl) (by kernel_rfl) (GOk.cons (PlainOk.sub (by intro x hx;cases hx) okLess) Tryd.func18 (by kernel_rfl) (by kernel_rfl) GOk.nil))))))))))))))) GoOk.nil noIt) Tryd.func3 (c:=Tryd.f3.body.getD .skip) (rvs:=[(.tmp 4,.bool)]) (by kernel_rfl) (by kernel_rfl) (by kernel_rfl) ?_
 intro ds k ⟨hp,hk⟩ hwf
 obtain⟨t,ts,rfl,-⟩:=dest2 hp
 exact⟨anTop t ts,top_vc t ts k hk⟩
open Go.Vc
def Eg:Env:={ tys:=[(97,.ar 64 (.int .u8))],errT:=53,eqs:=[],els:=[] }
theorem Eg_ok:EnvOk Tryd.prog Eg:=EnvOk.of_list (by kernel_rfl) (by kernel_rfl) (by kernel_rfl)
theorem glOkTO{W:World}(h:laidMetH Tryd.prog Rows.topOrderRow.laid W):GlOk glT W fun b=>b<W.heap.size :=
 gl_of_laidM Eg_ok (n := "math/bits.deBruijn64tab") (T:=97) h (.tail _ (.head _)) (by kernel_rfl) (by kernel_rfl) (by kernel_rfl) (by kernel_rfl) (by decide)
end Go.Proofs.YtfmiecbmikncpaaDoor
