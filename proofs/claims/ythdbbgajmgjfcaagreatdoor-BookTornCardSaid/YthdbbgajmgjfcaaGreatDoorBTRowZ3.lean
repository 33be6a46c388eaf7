/- Own texts, merged and cut: BkLt, KV12, BkLu, BkSh, BkGz. -/
import Derived.Test.YthdbbgajmgjfcaaGreatDoorBTRowZ2
import Derived.Stop.LaidErr
import Derived.HandedShaped
import Derived.RowKit
import Derived.Handed
import Derived.Test.YthdbbgajmgjfcaaGreatDoorRows
namespace Go.Proofs.YthdbbgajmgjfcaaGreatDoor
open Go.Vc Go.Proofs Go.RowKit
def cFact : Ctr:=cdet [] True [⟨.bool,true⟩]
def Ef : Env:={ Elr with sa:=[4,5] }
theorem Ef_ok : EnvOk Tryz.prog Ef:=⟨Elr_ok.ty,Elr_ok.err,Elr_ok.el,Elr_ok.mp⟩
def cLawT : Ctr:=cdet [I,.sl (.sl I),I] (fun _ _ _=>True) (fun _ _ _=>[⟨.bool,true⟩])
def txtT (n : Int) (s : List (List Int)) : List UInt8:=(playB n.toNat s (min s.length 70)).2.1
def linT (n : Int) (s : List (List Int)) (k : Nat) : Nat:=((txtT n s).take k).count 10
def bookT (n : Int) (s : List (List Int)) (k : Nat) : BS:=playB n.toNat (sucL n.toNat s (min s.length 70)) (linT n s k)
def hadT (n : Int) (s : List (List Int)) (i : Nat) : Int:=((sucL n.toNat s i).length : Int)
def midH (n : Int) (s : List (List Int)) (i : Nat) : Int:=if (s.getD i []).length=3 then hadT n s (i+1) else hadT n s i
structure TornSt (n : Int) (s : List (List Int)) (k : Int) (i : Nat) : Prop where
 b : inB n 1 5=true
 le : i≤s.length∧i≤70
 had : hadT n s i≤(linT n s k.toNat : Int)
 k0 : 0≤k∧k≤((txtT n s).length : Int)
structure TornMid (n : Int) (s : List (List Int)) (k : Int) (i : Nat) : Prop where
 b : inB n 1 5=true
 le : i < s.length∧i < 70
 had : hadT n s i < (linT n s k.toNat : Int)
structure TornCt (n : Int) (s : List (List Int)) (k : Int) (i : Nat) : Prop where
 b : inB n 1 5=true
 k0 : 0≤k∧k≤((txtT n s).length : Int)
 le : (i : Int)≤k
def anTorn (n : Int) (s : List (List Int)) (k : Int) : Ann:=[joinAll,forkAt 25,forkAt 27,
 loopAt 12 Nat [] (fun st i=>St.at (St.only st [0,1,2,8,10]) [(11,.d I ((linT n s i : Nat) : Int)),(12,.d I (i : Int))]) (fun _ i=>TornCt n s k i) (fun i=>k.toNat - i),
 loopAt 22 Nat [] (fun st i=>{ St.at (St.only st [0,1,11]) [(13,.ps 0),(16,.ps 1),(18,.d I (hadT n s i)),(19,.d I (i : Int))] with ob:=ob2 (bookT n s k.toNat) (playB n.toNat s i) }) (fun _ i=>TornSt n s k i) (fun i=>100 - i),
 meetAt 17 Unit [] (fun st _=>{ St.at (St.only st [0,1]) [(11,.d I ((linT n s k.toNat : Nat) : Int)),(13,.ps 0),(14,.d I ((linT n s k.toNat : Nat) : Int)),(15,.d tErr (0 : Int))] with ob:=obB (bookT n s k.toNat) }) (fun _ _=>TornSt n s k 0),
 meetAt 20 Unit [] (fun st _=>{ St.at (St.only st [0,1,11]) [(13,.ps 0),(16,.ps 1)] with ob:=ob2 (bookT n s k.toNat) (playB n.toNat s 0) }) (fun _ _=>TornSt n s k 0),
 meetAt 27 Nat [] (fun st i=>{ St.at (St.only st [0,1,11]) [(13,.ps 0),(16,.ps 1),(18,.d I (midH n s i)),(19,.d I (i : Int)),(20,.d (.sl I) (s.getD i []))] with ob:=ob2 (bookT n s k.toNat) (midB n.toNat s i) }) (fun st i=>TornMid n s k i∧st.i 19=(i : Int)),
 meetAt 23 Nat [] (fun st i=>{ St.at (St.only st [0,1,11]) [(13,.ps 0),(16,.ps 1),(18,.d I (hadT n s (i+1))),(19,.d I (i : Int))] with ob:=ob2 (bookT n s k.toNat) (playB n.toNat s (i+1)) }) (fun st i=>TornMid n s k i∧st.i 19=(i : Int))]
open Go.Vc
set_option linter.unusedVariables false
theorem vcFact (v : GV) (k : List Dat→Prop) : vcF ⟨Ef,[],glO v,[],[(13,oToldN),(14,oBTxt)]⟩ [joinAll] (Tryz.f12.body.getD .skip) Tryz.f12.ntmps [(.tmp 0,.bool)] [] k=(
 StepsOk ((List.replicate (1 : Nat) []).set (0 : Nat) (((List.replicate (2 : Nat) (0 : Int)).set (0 : Nat) (0 : Int)).set (1 : Nat) (1 : Int)))∧(inB (2 : Int) (1 : Int) (5 : Int)=false→(false=true→False)∧(false=false→k [Dat.mk Ty.bool false]))∧(inB (2 : Int) (1 : Int) (5 : Int)=true→(true=true→(lineF [(115 : UInt8)] [(((List.replicate (1 : Nat) []).set (0 : Nat) (((List.replicate (2 : Nat) (0 : Int)).set (0 : Nat) (0 : Int)).set (1 : Nat) (1 : Int))).getD (0 : Nat) []).getD (0 : Nat) (0 : Int),(((List.replicate (1 : Nat) []).set (0 : Nat) (((List.replicate (2 : Nat) (0 : Int)).set (0 : Nat) (0 : Int)).set (1 : Nat) (1 : Int))).getD (0 : Nat) []).getD (1 : Nat) (0 : Int)]).length≤(1000000000 : Nat)∧k [Dat.mk Ty.bool (lineF [(115 : UInt8)] [(((List.replicate (1 : Nat) []).set (0 : Nat) (((List.replicate (2 : Nat) (0 : Int)).set (0 : Nat) (0 : Int)).set (1 : Nat) (1 : Int))).getD (0 : Nat) []).getD (0 : Nat) (0 : Int),(((List.replicate (1 : Nat) []).set (0 : Nat) (((List.replicate (2 : Nat) (0 : Int)).set (0 : Nat) (0 : Int)).set (1 : Nat) (1 : Int))).getD (0 : Nat) []).getD (1 : Nat) (0 : Int)]==[(115 : UInt8),(32 : UInt8),(48 : UInt8),(32 : UInt8),(49 : UInt8),(32 : UInt8),(54 : UInt8),(57 : UInt8),(54 : UInt8),(10 : UInt8)])])∧(true=false→k [Dat.mk Ty.bool false]))):=by kernel_rfl
theorem vcTorn (v : GV) (n : Int) (s : List (List Int)) (k : Int) (kk : List Dat→Prop) : vcF ⟨Elr,[(12,cFact)],glO v,[],[(13,oToldN),(14,oBTxt),(15,oBOpen),(16,oBW),(17,oBS),(18,oAlike)]⟩ (anTorn n s k) (Tryz.f3.body.getD .skip) Tryz.f3.ntmps [(.tmp 6,.bool)] [⟨I,n⟩,⟨.sl (.sl I),s⟩,⟨I,k⟩] kk=(
 True∧((!true)=true→kk [Dat.mk Ty.bool false])∧((!true)=false→StepsOk s∧(inB n (1 : Int) (5 : Int)=false→((!false)=true→(decide (n < (1 : Int))=true→kk [Dat.mk Ty.bool true])∧(decide (n < (1 : Int))=false→kk [Dat.mk Ty.bool (decide ((5 : Int) < n))]))∧((!false)=false→False))∧(inB n (1 : Int) (5 : Int)=true→((!true)=true→(decide (n < (1 : Int))=true→kk [Dat.mk Ty.bool true])∧(decide (n < (1 : Int))=false→kk [Dat.mk Ty.bool (decide ((5 : Int) < n))]))∧((!true)=false→(playB n.toNat s (min s.length (70 : Nat))).snd.fst.length≤(1000000000 : Nat)∧(decide (k < (0 : Int))=true→kk [Dat.mk Ty.bool true])∧(decide (k < (0 : Int))=false→(decide ((↑(playB n.toNat s (min s.length (70 : Nat))).snd.fst.length : Int) < k)=true→kk [Dat.mk Ty.bool true])∧(decide ((↑(playB n.toNat s (min s.length (70 : Nat))).snd.fst.length : Int) < k)=false→(∃ (x : Nat),TornCt n s k x∧(n=n∧s=s∧k=k∧True∧(playB n.toNat s (min s.length (70 : Nat))).snd.fst=(playB n.toNat s (min s.length (70 : Nat))).snd.fst∧(0 : Int)=(↑(linT n s x) : Int)∧(0 : Int)=(↑x : Int)∧True)∧((True∧True∧True∧(playB n.toNat s (min s.length (70 : Nat))).snd.snd=(playB n.toNat s (min s.length (70 : Nat))).snd.snd∧True)∧(True∧True∧True)∧(playB n.toNat s (min s.length (70 : Nat))).snd.fst=(playB n.toNat s (min s.length (70 : Nat))).snd.fst∧((98 : Nat)=(98 : Nat)∧(playB n.toNat s (min s.length (70 : Nat))).fst.fst=(playB n.toNat s (min s.length (70 : Nat))).fst.fst)∧((3 : Nat)=(3 : Nat)∧(playB n.toNat s (min s.length (70 : Nat))).fst.snd.fst=(playB n.toNat s (min s.length (70 : Nat))).fst.snd.fst)∧True)∧Lib.pow10Tab=Lib.pow10Tab∧Value.int IntKind.i64 v.m=Value.int IntKind.i64 v.m∧Value.iface v.t1 v.p1=Value.iface v.t1 v.p1∧Value.iface v.t2 v.p2=Value.iface v.t2 v.p2∧True)∧∀ (x : Nat),TornCt n s k x→(decide ((↑x : Int) < k)=true→(0 : Int)≤(↑x : Int)∧(↑x : Int) < (↑(playB n.toNat s (min s.length (70 : Nat))).snd.fst.length : Int)∧(decide ((↑((playB n.toNat s (min s.length (70 : Nat))).snd.fst.getD (↑x : Int).toNat (0 : UInt8)).toNat : Int)=(10 : Int))=true→inK IntKind.i64 ((↑(linT n s x) : Int)+(1 : Int))∧inK IntKind.i64 ((↑x : Int)+(1 : Int))∧∃ (x_1 : Nat),TornCt n s k x_1∧k.toNat - x_1 < k.toNat - x∧(n=n∧s=s∧k=k∧True∧(playB n.toNat s (min s.length (70 : Nat))).snd.fst=(playB n.toNat s (min s.length (70 : Nat))).snd.fst∧(↑(linT n s x) : Int)+(1 : Int)=(↑(linT n s x_1) : Int)∧(↑x : Int)+(1 : Int)=(↑x_1 : Int)∧True)∧((True∧True∧True∧(playB n.toNat s (min s.length (70 : Nat))).snd.snd=(playB n.toNat s (min s.length (70 : Nat))).snd.snd∧True)∧(True∧True∧True)∧(playB n.toNat s (min s.length (70 : Nat))).snd.fst=(playB n.toNat s (min s.length (70 : Nat))).snd.fst∧((98 : Nat)=(98 : Nat)∧(playB n.toNat s (min s.length (70 : Nat))).fst.fst=(playB n.toNat s (min s.length (70 : Nat))).fst.fst)∧((3 : Nat)=(3 : Nat)∧(playB n.toNat s (min s.length (70 : Nat))).fst.snd.fst=(playB n.toNat s (min s.length (70 : Nat))).fst.snd.fst)∧True)∧Lib.pow10Tab=Lib.pow10Tab∧Value.int IntKind.i64 v.m=Value.int IntKind.i64 v.m∧Value.iface v.t1 v.p1=Value.iface v.t1 v.p1∧Value.iface v.t2 v.p2=Value.iface v.t2 v.p2∧True)∧(decide ((↑((playB n.toNat s (min s.length (70 : Nat))).snd.fst.getD (↑x : Int).toNat (0 : UInt8)).toNat : Int)=(10 : Int))=false→inK IntKind.i64 ((↑x : Int)+(1 : Int))∧∃ (x_1 : Nat),TornCt n s k x_1∧k.toNat - x_1 < k.toNat - x∧(n=n∧s=s∧k=k∧True∧(playB n.toNat s (min s.length (70 : Nat))).snd.fst=(playB n.toNat s (min s.length (70 : Nat))).snd.fst∧(↑(linT n s x) : Int)=(↑(linT n s x_1) : Int)∧(↑x : Int)+(1 : Int)=(↑x_1 : Int)∧True)∧((True∧True∧True∧(playB n.toNat s (min s.length (70 : Nat))).snd.snd=(playB n.toNat s (min s.length (70 : Nat))).snd.snd∧True)∧(True∧True∧True)∧(playB n.toNat s (min s.length (70 : Nat))).snd.fst=(playB n.toNat s (min s.length (70 : Nat))).snd.fst∧((98 : Nat)=(98 : Nat)∧(playB n.toNat s (min s.length (70 : Nat))).fst.fst=(playB n.toNat s (min s.length (70 : Nat))).fst.fst)∧((3 : Nat)=(3 : Nat)∧(playB n.toNat s (min s.length (70 : Nat))).fst.snd.fst=(playB n.toNat s (min s.length (70 : Nat))).fst.snd.fst)∧True)∧Lib.pow10Tab=Lib.pow10Tab∧Value.int IntKind.i64 v.m=Value.int IntKind.i64 v.m∧Value.iface v.t1 v.p1=Value.iface v.t1 v.p1∧Value.iface v.t2 v.p2=Value.iface v.t2 v.p2∧True))∧(decide ((↑x : Int) < k)=false→((0 : Int)≤(0 : Int)∧(0 : Int)≤k∧k≤(↑(playB n.toNat s (min s.length (70 : Nat))).snd.fst.length : Int)∧(List.drop (Int.toNat (0 : Int)) (List.take k.toNat (playB n.toNat s (min s.length (70 : Nat))).snd.fst)).length≤(1100000 : Nat)∧(inB n (1 : Int) (5 : Int)=false→∃ (x_1 : Unit),TornSt n s k (0 : Nat)∧(n=n∧s=s∧(↑(linT n s x) : Int)=(↑(linT n s k.toNat) : Int)∧False∧(0 : Int)=(↑(linT n s k.toNat) : Int)∧(1 : Int)=(0 : Int)∧True)∧((True∧True∧True∧(playB n.toNat s (min s.length (70 : Nat))).snd.snd=(bookT n s k.toNat).snd.snd∧True)∧(True∧True∧True)∧(playB n.toNat s (min s.length (70 : Nat))).snd.fst=(bookT n s k.toNat).snd.fst∧((98 : Nat)=(98 : Nat)∧(playB n.toNat s (min s.length (70 : Nat))).fst.fst=(bookT n s k.toNat).fst.fst)∧((3 : Nat)=(3 : Nat)∧(playB n.toNat s (min s.length (70 : Nat))).fst.snd.fst=(bookT n s k.toNat).fst.snd.fst)∧True)∧Lib.pow10Tab=Lib.pow10Tab∧Value.int IntKind.i64 v.m=Value.int IntKind.i64 v.m∧Value.iface v.t1 v.p1=Value.iface v.t1 v.p1∧Value.iface v.t2 v.p2=Value.iface v.t2 v.p2∧True)∧(inB n (1 : Int) (5 : Int)=true→POpenOk n (List.drop (Int.toNat (0 : Int)) (List.take k.toNat (playB n.toNat s (min s.length (70 : Nat))).snd.fst))∧((poR n (List.drop (Int.toNat (0 : Int)) (List.take k.toNat (playB n.toNat s (min s.length (70 : Nat))).snd.fst))).snd.snd=(0 : Int)→∃ (x_1 : Unit),TornSt n s k (0 : Nat)∧(n=n∧s=s∧(↑(linT n s x) : Int)=(↑(linT n s k.toNat) : Int)∧True∧(poR n (List.drop (Int.toNat (0 : Int)) (List.take k.toNat (playB n.toNat s (min s.length (70 : Nat))).snd.fst))).snd.fst=(↑(linT n s k.toNat) : Int)∧(0 : Int)=(0 : Int)∧True)∧((True∧True∧True∧(poR n (List.drop (Int.toNat (0 : Int)) (List.take k.toNat (playB n.toNat s (min s.length (70 : Nat))).snd.fst))).fst.snd.snd=(bookT n s k.toNat).snd.snd∧True)∧(True∧True∧True)∧(poR n (List.drop (Int.toNat (0 : Int)) (List.take k.toNat (playB n.toNat s (min s.length (70 : Nat))).snd.fst))).fst.snd.fst=(bookT n s k.toNat).snd.fst∧((98 : Nat)=(98 : Nat)∧(poR n (List.drop (Int.toNat (0 : Int)) (List.take k.toNat (playB n.toNat s (min s.length (70 : Nat))).snd.fst))).fst.fst.fst=(bookT n s k.toNat).fst.fst)∧((3 : Nat)=(3 : Nat)∧(poR n (List.drop (Int.toNat (0 : Int)) (List.take k.toNat (playB n.toNat s (min s.length (70 : Nat))).snd.fst))).fst.fst.snd.fst=(bookT n s k.toNat).fst.snd.fst)∧True)∧Lib.pow10Tab=Lib.pow10Tab∧Value.int IntKind.i64 v.m=Value.int IntKind.i64 v.m∧Value.iface v.t1 v.p1=Value.iface v.t1 v.p1∧Value.iface v.t2 v.p2=Value.iface v.t2 v.p2∧True)∧((poR n (List.drop (Int.toNat (0 : Int)) (List.take k.toNat (playB n.toNat s (min s.length (70 : Nat))).snd.fst))).snd.snd≠(0 : Int)→∃ (x_1 : Unit),TornSt n s k (0 : Nat)∧(n=n∧s=s∧(↑(linT n s x) : Int)=(↑(linT n s k.toNat) : Int)∧False∧(poR n (List.drop (Int.toNat (0 : Int)) (List.take k.toNat (playB n.toNat s (min s.length (70 : Nat))).snd.fst))).snd.fst=(↑(linT n s k.toNat) : Int)∧(poR n (List.drop (Int.toNat (0 : Int)) (List.take k.toNat (playB n.toNat s (min s.length (70 : Nat))).snd.fst))).snd.snd=(0 : Int)∧True)∧((True∧True∧True∧(playB n.toNat s (min s.length (70 : Nat))).snd.snd=(bookT n s k.toNat).snd.snd∧True)∧(True∧True∧True)∧(playB n.toNat s (min s.length (70 : Nat))).snd.fst=(bookT n s k.toNat).snd.fst∧((98 : Nat)=(98 : Nat)∧(playB n.toNat s (min s.length (70 : Nat))).fst.fst=(bookT n s k.toNat).fst.fst)∧((3 : Nat)=(3 : Nat)∧(playB n.toNat s (min s.length (70 : Nat))).fst.snd.fst=(bookT n s k.toNat).fst.snd.fst)∧True)∧Lib.pow10Tab=Lib.pow10Tab∧Value.int IntKind.i64 v.m=Value.int IntKind.i64 v.m∧Value.iface v.t1 v.p1=Value.iface v.t1 v.p1∧Value.iface v.t2 v.p2=Value.iface v.t2 v.p2∧True)))∧∀ (x : Unit),TornSt n s k (0 : Nat)→((!decide ((0 : Int)=(0 : Int)))=true→kk [Dat.mk Ty.bool false])∧((!decide ((0 : Int)=(0 : Int)))=false→((!decide ((↑(linT n s k.toNat) : Int)=(↑(linT n s k.toNat) : Int)))=true→kk [Dat.mk Ty.bool false])∧((!decide ((↑(linT n s k.toNat) : Int)=(↑(linT n s k.toNat) : Int)))=false→((inB n (1 : Int) (5 : Int)=false→∃ (x : Unit),TornSt n s k (0 : Nat)∧False)∧(inB n (1 : Int) (5 : Int)=true→∃ (x : Unit),TornSt n s k (0 : Nat)∧(n=n∧s=s∧(↑(linT n s k.toNat) : Int)=(↑(linT n s k.toNat) : Int)∧True∧True∧True)∧((True∧True∧True∧(bookT n s k.toNat).snd.snd=(bookT n s k.toNat).snd.snd∧True)∧(True∧True∧True∧(0 : Int)=(0 : Int)∧True)∧(True∧True∧True)∧(bookT n s k.toNat).snd.fst=(bookT n s k.toNat).snd.fst∧(True∧True∧True)∧([] : List UInt8)=[]∧((98 : Nat)=(98 : Nat)∧(bookT n s k.toNat).fst.fst=(bookT n s k.toNat).fst.fst)∧((3 : Nat)=(3 : Nat)∧(bookT n s k.toNat).fst.snd.fst=(bookT n s k.toNat).fst.snd.fst)∧((98 : Nat)=(98 : Nat)∧List.replicate n.toNat (List.replicate (4 : Nat) ([] : List Va))=List.replicate n.toNat (List.replicate (4 : Nat) ([] : List Va)))∧((3 : Nat)=(3 : Nat)∧List.replicate n.toNat (0 : Int)=List.replicate n.toNat (0 : Int))∧True)∧Lib.pow10Tab=Lib.pow10Tab∧Value.int IntKind.i64 v.m=Value.int IntKind.i64 v.m∧Value.iface v.t1 v.p1=Value.iface v.t1 v.p1∧Value.iface v.t2 v.p2=Value.iface v.t2 v.p2∧True))∧∀ (x : Unit),TornSt n s k (0 : Nat)→(∃ (x : Nat),TornSt n s k x∧(n=n∧s=s∧(↑(linT n s k.toNat) : Int)=(↑(linT n s k.toNat) : Int)∧True∧True∧(0 : Int)=hadT n s x∧(0 : Int)=(↑x : Int)∧True)∧((True∧True∧True∧(bookT n s k.toNat).snd.snd=(bookT n s k.toNat).snd.snd∧True)∧(True∧True∧True∧(0 : Int)=(playB n.toNat s x).snd.snd∧True)∧(True∧True∧True)∧(bookT n s k.toNat).snd.fst=(bookT n s k.toNat).snd.fst∧(True∧True∧True)∧[]=(playB n.toNat s x).snd.fst∧((98 : Nat)=(98 : Nat)∧(bookT n s k.toNat).fst.fst=(bookT n s k.toNat).fst.fst)∧((3 : Nat)=(3 : Nat)∧(bookT n s k.toNat).fst.snd.fst=(bookT n s k.toNat).fst.snd.fst)∧((98 : Nat)=(98 : Nat)∧List.replicate n.toNat (List.replicate (4 : Nat) ([] : List Va))=(playB n.toNat s x).fst.fst)∧((3 : Nat)=(3 : Nat)∧List.replicate n.toNat (0 : Int)=(playB n.toNat s x).fst.snd.fst)∧True)∧Lib.pow10Tab=Lib.pow10Tab∧Value.int IntKind.i64 v.m=Value.int IntKind.i64 v.m∧Value.iface v.t1 v.p1=Value.iface v.t1 v.p1∧Value.iface v.t2 v.p2=Value.iface v.t2 v.p2∧True)∧∀ (x : Nat),TornSt n s k x→(decide ((↑x : Int) < (↑s.length : Int))=true→(decide ((↑x : Int) < (70 : Int))=true→(decide (hadT n s x < (↑(linT n s k.toNat) : Int))=true→((0 : Int)≤(↑x : Int)∧(↑x : Int) < (↑s.length : Int)∧((decide ((↑(s.getD (↑x : Int).toNat []).length : Int)=(3 : Int))=true→(0 : Int)≤(0 : Int)∧(0 : Int) < (↑(s.getD (↑x : Int).toNat []).length : Int)∧(0 : Int)≤(1 : Int)∧(1 : Int) < (↑(s.getD (↑x : Int).toNat []).length : Int)∧(0 : Int)≤(2 : Int)∧(2 : Int) < (↑(s.getD (↑x : Int).toNat []).length : Int)∧(NetSh ((playB n.toNat s x).fst.fst,(playB n.toNat s x).fst.snd.fst,())∧(playB n.toNat s x).snd.fst.length≤(900000000 : Nat)∧(0 : Int)≤(playB n.toNat s x).snd.snd∧(playB n.toNat s x).snd.snd≤(60 : Int))∧(decide (bkE (playB n.toNat s x).snd.snd (writeE ((playB n.toNat s x).fst.fst,(playB n.toNat s x).fst.snd.fst,()) ((s.getD (↑x : Int).toNat []).getD (Int.toNat (0 : Int)) (0 : Int)) ((s.getD (↑x : Int).toNat []).getD (Int.toNat (1 : Int)) (0 : Int)) ((s.getD (↑x : Int).toNat []).getD (Int.toNat (2 : Int)) (0 : Int)))=(0 : Int))=true→inK IntKind.i64 (hadT n s x+(1 : Int))∧∃ (x_1 : Nat),(TornMid n s k x_1∧(↑x : Int)=(↑x_1 : Int))∧(n=n∧s=s∧(↑(linT n s k.toNat) : Int)=(↑(linT n s k.toNat) : Int)∧True∧True∧hadT n s x+(1 : Int)=midH n s x_1∧(↑x : Int)=(↑x_1 : Int)∧s.getD (↑x : Int).toNat []=s.getD x_1 []∧True)∧((True∧True∧True∧(bookT n s k.toNat).snd.snd=(bookT n s k.toNat).snd.snd∧True)∧(True∧True∧True∧(bkT ((playB n.toNat s x).fst.fst,(playB n.toNat s x).fst.snd.fst,()) (playB n.toNat s x).snd.fst (playB n.toNat s x).snd.snd (writeE ((playB n.toNat s x).fst.fst,(playB n.toNat s x).fst.snd.fst,()) ((s.getD (↑x : Int).toNat []).getD (Int.toNat (0 : Int)) (0 : Int)) ((s.getD (↑x : Int).toNat []).getD (Int.toNat (1 : Int)) (0 : Int)) ((s.getD (↑x : Int).toNat []).getD (Int.toNat (2 : Int)) (0 : Int))) (writeT ((playB n.toNat s x).fst.fst,(playB n.toNat s x).fst.snd.fst,()) ((s.getD (↑x : Int).toNat []).getD (Int.toNat (0 : Int)) (0 : Int)) ((s.getD (↑x : Int).toNat []).getD (Int.toNat (1 : Int)) (0 : Int)) ((s.getD (↑x : Int).toNat []).getD (Int.toNat (2 : Int)) (0 : Int))) (lineF [(119 : UInt8)] [(s.getD (↑x : Int).toNat []).getD (Int.toNat (0 : Int)) (0 : Int),(s.getD (↑x : Int).toNat []).getD (Int.toNat (1 : Int)) (0 : Int),(s.getD (↑x : Int).toNat []).getD (Int.toNat (2 : Int)) (0 : Int)])).snd.snd=(midB n.toNat s x_1).snd.snd∧True)∧(True∧True∧True)∧(bookT n s k.toNat).snd.fst=(bookT n s k.toNat).snd.fst∧(True∧True∧True)∧(bkT ((playB n.toNat s x).fst.fst,(playB n.toNat s x).fst.snd.fst,()) (playB n.toNat s x).snd.fst (playB n.toNat s x).snd.snd (writeE ((playB n.toNat s x).fst.fst,(playB n.toNat s x).fst.snd.fst,()) ((s.getD (↑x : Int).toNat []).getD (Int.toNat (0 : Int)) (0 : Int)) ((s.getD (↑x : Int).toNat []).getD (Int.toNat (1 : Int)) (0 : Int)) ((s.getD (↑x : Int).toNat []).getD (Int.toNat (2 : Int)) (0 : Int))) (writeT ((playB n.toNat s x).fst.fst,(playB n.toNat s x).fst.snd.fst,()) ((s.getD (↑x : Int).toNat []).getD (Int.toNat (0 : Int)) (0 : Int)) ((s.getD (↑x : Int).toNat []).getD (Int.toNat (1 : Int)) (0 : Int)) ((s.getD (↑x : Int).toNat []).getD (Int.toNat (2 : Int)) (0 : Int))) (lineF [(119 : UInt8)] [(s.getD (↑x : Int).toNat []).getD (Int.toNat (0 : Int)) (0 : Int),(s.getD (↑x : Int).toNat []).getD (Int.toNat (1 : Int)) (0 : Int),(s.getD (↑x : Int).toNat []).getD (Int.toNat (2 : Int)) (0 : Int)])).snd.fst=(midB n.toNat s x_1).snd.fst∧((98 : Nat)=(98 : Nat)∧(bookT n s k.toNat).fst.fst=(bookT n s k.toNat).fst.fst)∧((3 : Nat)=(3 : Nat)∧(bookT n s k.toNat).fst.snd.fst=(bookT n s k.toNat).fst.snd.fst)∧((98 : Nat)=(98 : Nat)∧(bkT ((playB n.toNat s x).fst.fst,(playB n.toNat s x).fst.snd.fst,()) (playB n.toNat s x).snd.fst (playB n.toNat s x).snd.snd (writeE ((playB n.toNat s x).fst.fst,(playB n.toNat s x).fst.snd.fst,()) ((s.getD (↑x : Int).toNat []).getD (Int.toNat (0 : Int)) (0 : Int)) ((s.getD (↑x : Int).toNat []).getD (Int.toNat (1 : Int)) (0 : Int)) ((s.getD (↑x : Int).toNat []).getD (Int.toNat (2 : Int)) (0 : Int))) (writeT ((playB n.toNat s x).fst.fst,(playB n.toNat s x).fst.snd.fst,()) ((s.getD (↑x : Int).toNat []).getD (Int.toNat (0 : Int)) (0 : Int)) ((s.getD (↑x : Int).toNat []).getD (Int.toNat (1 : Int)) (0 : Int)) ((s.getD (↑x : Int).toNat []).getD (Int.toNat (2 : Int)) (0 : Int))) (lineF [(119 : UInt8)] [(s.getD (↑x : Int).toNat []).getD (Int.toNat (0 : Int)) (0 : Int),(s.getD (↑x : Int).toNat []).getD (Int.toNat (1 : Int)) (0 : Int),(s.getD (↑x : Int).toNat []).getD (Int.toNat (2 : Int)) (0 : Int)])).fst.fst=(midB n.toNat s x_1).fst.fst)∧((3 : Nat)=(3 : Nat)∧(bkT ((playB n.toNat s x).fst.fst,(playB n.toNat s x).fst.snd.fst,()) (playB n.toNat s x).snd.fst (playB n.toNat s x).snd.snd (writeE ((playB n.toNat s x).fst.fst,(playB n.toNat s x).fst.snd.fst,()) ((s.getD (↑x : Int).toNat []).getD (Int.toNat (0 : Int)) (0 : Int)) ((s.getD (↑x : Int).toNat []).getD (Int.toNat (1 : Int)) (0 : Int)) ((s.getD (↑x : Int).toNat []).getD (Int.toNat (2 : Int)) (0 : Int))) (writeT ((playB n.toNat s x).fst.fst,(playB n.toNat s x).fst.snd.fst,()) ((s.getD (↑x : Int).toNat []).getD (Int.toNat (0 : Int)) (0 : Int)) ((s.getD (↑x : Int).toNat []).getD (Int.toNat (1 : Int)) (0 : Int)) ((s.getD (↑x : Int).toNat []).getD (Int.toNat (2 : Int)) (0 : Int))) (lineF [(119 : UInt8)] [(s.getD (↑x : Int).toNat []).getD (Int.toNat (0 : Int)) (0 : Int),(s.getD (↑x : Int).toNat []).getD (Int.toNat (1 : Int)) (0 : Int),(s.getD (↑x : Int).toNat []).getD (Int.toNat (2 : Int)) (0 : Int)])).fst.snd.fst=(midB n.toNat s x_1).fst.snd.fst)∧True)∧Lib.pow10Tab=Lib.pow10Tab∧Value.int IntKind.i64 v.m=Value.int IntKind.i64 v.m∧Value.iface v.t1 v.p1=Value.iface v.t1 v.p1∧Value.iface v.t2 v.p2=Value.iface v.t2 v.p2∧True)∧(decide (bkE (playB n.toNat s x).snd.snd (writeE ((playB n.toNat s x).fst.fst,(playB n.toNat s x).fst.snd.fst,()) ((s.getD (↑x : Int).toNat []).getD (Int.toNat (0 : Int)) (0 : Int)) ((s.getD (↑x : Int).toNat []).getD (Int.toNat (1 : Int)) (0 : Int)) ((s.getD (↑x : Int).toNat []).getD (Int.toNat (2 : Int)) (0 : Int)))=(0 : Int))=false→∃ (x_1 : Nat),(TornMid n s k x_1∧(↑x : Int)=(↑x_1 : Int))∧(n=n∧s=s∧(↑(linT n s k.toNat) : Int)=(↑(linT n s k.toNat) : Int)∧True∧True∧hadT n s x=midH n s x_1∧(↑x : Int)=(↑x_1 : Int)∧s.getD (↑x : Int).toNat []=s.getD x_1 []∧True)∧((True∧True∧True∧(bookT n s k.toNat).snd.snd=(bookT n s k.toNat).snd.snd∧True)∧(True∧True∧True∧(bkT ((playB n.toNat s x).fst.fst,(playB n.toNat s x).fst.snd.fst,()) (playB n.toNat s x).snd.fst (playB n.toNat s x).snd.snd (writeE ((playB n.toNat s x).fst.fst,(playB n.toNat s x).fst.snd.fst,()) ((s.getD (↑x : Int).toNat []).getD (Int.toNat (0 : Int)) (0 : Int)) ((s.getD (↑x : Int).toNat []).getD (Int.toNat (1 : Int)) (0 : Int)) ((s.getD (↑x : Int).toNat []).getD (Int.toNat (2 : Int)) (0 : Int))) (writeT ((playB n.toNat s x).fst.fst,(playB n.toNat s x).fst.snd.fst,()) ((s.getD (↑x : Int).toNat []).getD (Int.toNat (0 : Int)) (0 : Int)) ((s.getD (↑x : Int).toNat []).getD (Int.toNat (1 : Int)) (0 : Int)) ((s.getD (↑x : Int).toNat []).getD (Int.toNat (2 : Int)) (0 : Int))) (lineF [(119 : UInt8)] [(s.getD (↑x : Int).toNat []).getD (Int.toNat (0 : Int)) (0 : Int),(s.getD (↑x : Int).toNat []).getD (Int.toNat (1 : Int)) (0 : Int),(s.getD (↑x : Int).toNat []).getD (Int.toNat (2 : Int)) (0 : Int)])).snd.snd=(midB n.toNat s x_1).snd.snd∧True)∧(True∧True∧True)∧(bookT n s k.toNat).snd.fst=(bookT n s k.toNat).snd.fst∧(True∧True∧True)∧(bkT ((playB n.toNat s x).fst.fst,(playB n.toNat s x).fst.snd.fst,()) (playB n.toNat s x).snd.fst (playB n.toNat s x).snd.snd (writeE ((playB n.toNat s x).fst.fst,(playB n.toNat s x).fst.snd.fst,()) ((s.getD (↑x : Int).toNat []).getD (Int.toNat (0 : Int)) (0 : Int)) ((s.getD (↑x : Int).toNat []).getD (Int.toNat (1 : Int)) (0 : Int)) ((s.getD (↑x : Int).toNat []).getD (Int.toNat (2 : Int)) (0 : Int))) (writeT ((playB n.toNat s x).fst.fst,(playB n.toNat s x).fst.snd.fst,()) ((s.getD (↑x : Int).toNat []).getD (Int.toNat (0 : Int)) (0 : Int)) ((s.getD (↑x : Int).toNat []).getD (Int.toNat (1 : Int)) (0 : Int)) ((s.getD (↑x : Int).toNat []).getD (Int.toNat (2 : Int)) (0 : Int))) (lineF [(119 : UInt8)] [(s.getD (↑x : Int).toNat []).getD (Int.toNat (0 : Int)) (0 : Int),(s.getD (↑x : Int).toNat []).getD (Int.toNat (1 : Int)) (0 : Int),(s.getD (↑x : Int).toNat []).getD (Int.toNat (2 : Int)) (0 : Int)])).snd.fst=(midB n.toNat s x_1).snd.fst∧((98 : Nat)=(98 : Nat)∧(bookT n s k.toNat).fst.fst=(bookT n s k.toNat).fst.fst)∧((3 : Nat)=(3 : Nat)∧(bookT n s k.toNat).fst.snd.fst=(bookT n s k.toNat).fst.snd.fst)∧((98 : Nat)=(98 : Nat)∧(bkT ((playB n.toNat s x).fst.fst,(playB n.toNat s x).fst.snd.fst,()) (playB n.toNat s x).snd.fst (playB n.toNat s x).snd.snd (writeE ((playB n.toNat s x).fst.fst,(playB n.toNat s x).fst.snd.fst,()) ((s.getD (↑x : Int).toNat []).getD (Int.toNat (0 : Int)) (0 : Int)) ((s.getD (↑x : Int).toNat []).getD (Int.toNat (1 : Int)) (0 : Int)) ((s.getD (↑x : Int).toNat []).getD (Int.toNat (2 : Int)) (0 : Int))) (writeT ((playB n.toNat s x).fst.fst,(playB n.toNat s x).fst.snd.fst,()) ((s.getD (↑x : Int).toNat []).getD (Int.toNat (0 : Int)) (0 : Int)) ((s.getD (↑x : Int).toNat []).getD (Int.toNat (1 : Int)) (0 : Int)) ((s.getD (↑x : Int).toNat []).getD (Int.toNat (2 : Int)) (0 : Int))) (lineF [(119 : UInt8)] [(s.getD (↑x : Int).toNat []).getD (Int.toNat (0 : Int)) (0 : Int),(s.getD (↑x : Int).toNat []).getD (Int.toNat (1 : Int)) (0 : Int),(s.getD (↑x : Int).toNat []).getD (Int.toNat (2 : Int)) (0 : Int)])).fst.fst=(midB n.toNat s x_1).fst.fst)∧((3 : Nat)=(3 : Nat)∧(bkT ((playB n.toNat s x).fst.fst,(playB n.toNat s x).fst.snd.fst,()) (playB n.toNat s x).snd.fst (playB n.toNat s x).snd.snd (writeE ((playB n.toNat s x).fst.fst,(playB n.toNat s x).fst.snd.fst,()) ((s.getD (↑x : Int).toNat []).getD (Int.toNat (0 : Int)) (0 : Int)) ((s.getD (↑x : Int).toNat []).getD (Int.toNat (1 : Int)) (0 : Int)) ((s.getD (↑x : Int).toNat []).getD (Int.toNat (2 : Int)) (0 : Int))) (writeT ((playB n.toNat s x).fst.fst,(playB n.toNat s x).fst.snd.fst,()) ((s.getD (↑x : Int).toNat []).getD (Int.toNat (0 : Int)) (0 : Int)) ((s.getD (↑x : Int).toNat []).getD (Int.toNat (1 : Int)) (0 : Int)) ((s.getD (↑x : Int).toNat []).getD (Int.toNat (2 : Int)) (0 : Int))) (lineF [(119 : UInt8)] [(s.getD (↑x : Int).toNat []).getD (Int.toNat (0 : Int)) (0 : Int),(s.getD (↑x : Int).toNat []).getD (Int.toNat (1 : Int)) (0 : Int),(s.getD (↑x : Int).toNat []).getD (Int.toNat (2 : Int)) (0 : Int)])).fst.snd.fst=(midB n.toNat s x_1).fst.snd.fst)∧True)∧Lib.pow10Tab=Lib.pow10Tab∧Value.int IntKind.i64 v.m=Value.int IntKind.i64 v.m∧Value.iface v.t1 v.p1=Value.iface v.t1 v.p1∧Value.iface v.t2 v.p2=Value.iface v.t2 v.p2∧True))∧(decide ((↑(s.getD (↑x : Int).toNat []).length : Int)=(3 : Int))=false→∃ (x_1 : Nat),(TornMid n s k x_1∧(↑x : Int)=(↑x_1 : Int))∧(n=n∧s=s∧(↑(linT n s k.toNat) : Int)=(↑(linT n s k.toNat) : Int)∧True∧True∧hadT n s x=midH n s x_1∧(↑x : Int)=(↑x_1 : Int)∧s.getD (↑x : Int).toNat []=s.getD x_1 []∧True)∧((True∧True∧True∧(bookT n s k.toNat).snd.snd=(bookT n s k.toNat).snd.snd∧True)∧(True∧True∧True∧(playB n.toNat s x).snd.snd=(midB n.toNat s x_1).snd.snd∧True)∧(True∧True∧True)∧(bookT n s k.toNat).snd.fst=(bookT n s k.toNat).snd.fst∧(True∧True∧True)∧(playB n.toNat s x).snd.fst=(midB n.toNat s x_1).snd.fst∧((98 : Nat)=(98 : Nat)∧(bookT n s k.toNat).fst.fst=(bookT n s k.toNat).fst.fst)∧((3 : Nat)=(3 : Nat)∧(bookT n s k.toNat).fst.snd.fst=(bookT n s k.toNat).fst.snd.fst)∧((98 : Nat)=(98 : Nat)∧(playB n.toNat s x).fst.fst=(midB n.toNat s x_1).fst.fst)∧((3 : Nat)=(3 : Nat)∧(playB n.toNat s x).fst.snd.fst=(midB n.toNat s x_1).fst.snd.fst)∧True)∧Lib.pow10Tab=Lib.pow10Tab∧Value.int IntKind.i64 v.m=Value.int IntKind.i64 v.m∧Value.iface v.t1 v.p1=Value.iface v.t1 v.p1∧Value.iface v.t2 v.p2=Value.iface v.t2 v.p2∧True))∧∀ (x_1 : Nat),TornMid n s k x_1∧(↑x : Int)=(↑x_1 : Int)→(decide ((↑(s.getD x_1 []).length : Int)=(2 : Int))=true→(0 : Int)≤(0 : Int)∧(0 : Int) < (↑(s.getD x_1 []).length : Int)∧(0 : Int)≤(1 : Int)∧(1 : Int) < (↑(s.getD x_1 []).length : Int)∧(NetSh ((midB n.toNat s x_1).fst.fst,(midB n.toNat s x_1).fst.snd.fst,())∧(midB n.toNat s x_1).snd.fst.length≤(900000000 : Nat)∧(0 : Int)≤(midB n.toNat s x_1).snd.snd∧(midB n.toNat s x_1).snd.snd≤(60 : Int))∧(decide (bkE (midB n.toNat s x_1).snd.snd (syncE ((midB n.toNat s x_1).fst.fst,(midB n.toNat s x_1).fst.snd.fst,()) ((s.getD x_1 []).getD (Int.toNat (0 : Int)) (0 : Int)) ((s.getD x_1 []).getD (Int.toNat (1 : Int)) (0 : Int)))=(0 : Int))=true→inK IntKind.i64 (midH n s x_1+(1 : Int))∧∃ (x_2 : Nat),(TornMid n s k x_2∧(↑x : Int)=(↑x_2 : Int))∧(n=n∧s=s∧(↑(linT n s k.toNat) : Int)=(↑(linT n s k.toNat) : Int)∧True∧True∧midH n s x_1+(1 : Int)=hadT n s (x_2+(1 : Nat))∧(↑x_1 : Int)=(↑x_2 : Int)∧True)∧((True∧True∧True∧(bookT n s k.toNat).snd.snd=(bookT n s k.toNat).snd.snd∧True)∧(True∧True∧True∧(bkT ((midB n.toNat s x_1).fst.fst,(midB n.toNat s x_1).fst.snd.fst,()) (midB n.toNat s x_1).snd.fst (midB n.toNat s x_1).snd.snd (syncE ((midB n.toNat s x_1).fst.fst,(midB n.toNat s x_1).fst.snd.fst,()) ((s.getD x_1 []).getD (Int.toNat (0 : Int)) (0 : Int)) ((s.getD x_1 []).getD (Int.toNat (1 : Int)) (0 : Int))) (syncT ((midB n.toNat s x_1).fst.fst,(midB n.toNat s x_1).fst.snd.fst,()) ((s.getD x_1 []).getD (Int.toNat (0 : Int)) (0 : Int)) ((s.getD x_1 []).getD (Int.toNat (1 : Int)) (0 : Int))) (lineF [(115 : UInt8)] [(s.getD x_1 []).getD (Int.toNat (0 : Int)) (0 : Int),(s.getD x_1 []).getD (Int.toNat (1 : Int)) (0 : Int)])).snd.snd=(playB n.toNat s (x_2+(1 : Nat))).snd.snd∧True)∧(True∧True∧True)∧(bookT n s k.toNat).snd.fst=(bookT n s k.toNat).snd.fst∧(True∧True∧True)∧(bkT ((midB n.toNat s x_1).fst.fst,(midB n.toNat s x_1).fst.snd.fst,()) (midB n.toNat s x_1).snd.fst (midB n.toNat s x_1).snd.snd (syncE ((midB n.toNat s x_1).fst.fst,(midB n.toNat s x_1).fst.snd.fst,()) ((s.getD x_1 []).getD (Int.toNat (0 : Int)) (0 : Int)) ((s.getD x_1 []).getD (Int.toNat (1 : Int)) (0 : Int))) (syncT ((midB n.toNat s x_1).fst.fst,(midB n.toNat s x_1).fst.snd.fst,()) ((s.getD x_1 []).getD (Int.toNat (0 : Int)) (0 : Int)) ((s.getD x_1 []).getD (Int.toNat (1 : Int)) (0 : Int))) (lineF [(115 : UInt8)] [(s.getD x_1 []).getD (Int.toNat (0 : Int)) (0 : Int),(s.getD x_1 []).getD (Int.toNat (1 : Int)) (0 : Int)])).snd.fst=(playB n.toNat s (x_2+(1 : Nat))).snd.fst∧((98 : Nat)=(98 : Nat)∧(bookT n s k.toNat).fst.fst=(bookT n s k.toNat).fst.fst)∧((3 : Nat)=(3 : Nat)∧(bookT n s k.toNat).fst.snd.fst=(bookT n s k.toNat).fst.snd.fst)∧((98 : Nat)=(98 : Nat)∧(bkT ((midB n.toNat s x_1).fst.fst,(midB n.toNat s x_1).fst.snd.fst,()) (midB n.toNat s x_1).snd.fst (midB n.toNat s x_1).snd.snd (syncE ((midB n.toNat s x_1).fst.fst,(midB n.toNat s x_1).fst.snd.fst,()) ((s.getD x_1 []).getD (Int.toNat (0 : Int)) (0 : Int)) ((s.getD x_1 []).getD (Int.toNat (1 : Int)) (0 : Int))) (syncT ((midB n.toNat s x_1).fst.fst,(midB n.toNat s x_1).fst.snd.fst,()) ((s.getD x_1 []).getD (Int.toNat (0 : Int)) (0 : Int)) ((s.getD x_1 []).getD (Int.toNat (1 : Int)) (0 : Int))) (lineF [(115 : UInt8)] [(s.getD x_1 []).getD (Int.toNat (0 : Int)) (0 : Int),(s.getD x_1 []).getD (Int.toNat (1 : Int)) (0 : Int)])).fst.fst=(playB n.toNat s (x_2+(1 : Nat))).fst.fst)∧((3 : Nat)=(3 : Nat)∧(bkT ((midB n.toNat s x_1).fst.fst,(midB n.toNat s x_1).fst.snd.fst,()) (midB n.toNat s x_1).snd.fst (midB n.toNat s x_1).snd.snd (syncE ((midB n.toNat s x_1).fst.fst,(midB n.toNat s x_1).fst.snd.fst,()) ((s.getD x_1 []).getD (Int.toNat (0 : Int)) (0 : Int)) ((s.getD x_1 []).getD (Int.toNat (1 : Int)) (0 : Int))) (syncT ((midB n.toNat s x_1).fst.fst,(midB n.toNat s x_1).fst.snd.fst,()) ((s.getD x_1 []).getD (Int.toNat (0 : Int)) (0 : Int)) ((s.getD x_1 []).getD (Int.toNat (1 : Int)) (0 : Int))) (lineF [(115 : UInt8)] [(s.getD x_1 []).getD (Int.toNat (0 : Int)) (0 : Int),(s.getD x_1 []).getD (Int.toNat (1 : Int)) (0 : Int)])).fst.snd.fst=(playB n.toNat s (x_2+(1 : Nat))).fst.snd.fst)∧True)∧Lib.pow10Tab=Lib.pow10Tab∧Value.int IntKind.i64 v.m=Value.int IntKind.i64 v.m∧Value.iface v.t1 v.p1=Value.iface v.t1 v.p1∧Value.iface v.t2 v.p2=Value.iface v.t2 v.p2∧True)∧(decide (bkE (midB n.toNat s x_1).snd.snd (syncE ((midB n.toNat s x_1).fst.fst,(midB n.toNat s x_1).fst.snd.fst,()) ((s.getD x_1 []).getD (Int.toNat (0 : Int)) (0 : Int)) ((s.getD x_1 []).getD (Int.toNat (1 : Int)) (0 : Int)))=(0 : Int))=false→∃ (x_2 : Nat),(TornMid n s k x_2∧(↑x : Int)=(↑x_2 : Int))∧(n=n∧s=s∧(↑(linT n s k.toNat) : Int)=(↑(linT n s k.toNat) : Int)∧True∧True∧midH n s x_1=hadT n s (x_2+(1 : Nat))∧(↑x_1 : Int)=(↑x_2 : Int)∧True)∧((True∧True∧True∧(bookT n s k.toNat).snd.snd=(bookT n s k.toNat).snd.snd∧True)∧(True∧True∧True∧(bkT ((midB n.toNat s x_1).fst.fst,(midB n.toNat s x_1).fst.snd.fst,()) (midB n.toNat s x_1).snd.fst (midB n.toNat s x_1).snd.snd (syncE ((midB n.toNat s x_1).fst.fst,(midB n.toNat s x_1).fst.snd.fst,()) ((s.getD x_1 []).getD (Int.toNat (0 : Int)) (0 : Int)) ((s.getD x_1 []).getD (Int.toNat (1 : Int)) (0 : Int))) (syncT ((midB n.toNat s x_1).fst.fst,(midB n.toNat s x_1).fst.snd.fst,()) ((s.getD x_1 []).getD (Int.toNat (0 : Int)) (0 : Int)) ((s.getD x_1 []).getD (Int.toNat (1 : Int)) (0 : Int))) (lineF [(115 : UInt8)] [(s.getD x_1 []).getD (Int.toNat (0 : Int)) (0 : Int),(s.getD x_1 []).getD (Int.toNat (1 : Int)) (0 : Int)])).snd.snd=(playB n.toNat s (x_2+(1 : Nat))).snd.snd∧True)∧(True∧True∧True)∧(bookT n s k.toNat).snd.fst=(bookT n s k.toNat).snd.fst∧(True∧True∧True)∧(bkT ((midB n.toNat s x_1).fst.fst,(midB n.toNat s x_1).fst.snd.fst,()) (midB n.toNat s x_1).snd.fst (midB n.toNat s x_1).snd.snd (syncE ((midB n.toNat s x_1).fst.fst,(midB n.toNat s x_1).fst.snd.fst,()) ((s.getD x_1 []).getD (Int.toNat (0 : Int)) (0 : Int)) ((s.getD x_1 []).getD (Int.toNat (1 : Int)) (0 : Int))) (syncT ((midB n.toNat s x_1).fst.fst,(midB n.toNat s x_1).fst.snd.fst,()) ((s.getD x_1 []).getD (Int.toNat (0 : Int)) (0 : Int)) ((s.getD x_1 []).getD (Int.toNat (1 : Int)) (0 : Int))) (lineF [(115 : UInt8)] [(s.getD x_1 []).getD (Int.toNat (0 : Int)) (0 : Int),(s.getD x_1 []).getD (Int.toNat (1 : Int)) (0 : Int)])).snd.fst=(playB n.toNat s (x_2+(1 : Nat))).snd.fst∧((98 : Nat)=(98 : Nat)∧(bookT n s k.toNat).fst.fst=(bookT n s k.toNat).fst.fst)∧((3 : Nat)=(3 : Nat)∧(bookT n s k.toNat).fst.snd.fst=(bookT n s k.toNat).fst.snd.fst)∧((98 : Nat)=(98 : Nat)∧(bkT ((midB n.toNat s x_1).fst.fst,(midB n.toNat s x_1).fst.snd.fst,()) (midB n.toNat s x_1).snd.fst (midB n.toNat s x_1).snd.snd (syncE ((midB n.toNat s x_1).fst.fst,(midB n.toNat s x_1).fst.snd.fst,()) ((s.getD x_1 []).getD (Int.toNat (0 : Int)) (0 : Int)) ((s.getD x_1 []).getD (Int.toNat (1 : Int)) (0 : Int))) (syncT ((midB n.toNat s x_1).fst.fst,(midB n.toNat s x_1).fst.snd.fst,()) ((s.getD x_1 []).getD (Int.toNat (0 : Int)) (0 : Int)) ((s.getD x_1 []).getD (Int.toNat (1 : Int)) (0 : Int))) (lineF [(115 : UInt8)] [(s.getD x_1 []).getD (Int.toNat (0 : Int)) (0 : Int),(s.getD x_1 []).getD (Int.toNat (1 : Int)) (0 : Int)])).fst.fst=(playB n.toNat s (x_2+(1 : Nat))).fst.fst)∧((3 : Nat)=(3 : Nat)∧(bkT ((midB n.toNat s x_1).fst.fst,(midB n.toNat s x_1).fst.snd.fst,()) (midB n.toNat s x_1).snd.fst (midB n.toNat s x_1).snd.snd (syncE ((midB n.toNat s x_1).fst.fst,(midB n.toNat s x_1).fst.snd.fst,()) ((s.getD x_1 []).getD (Int.toNat (0 : Int)) (0 : Int)) ((s.getD x_1 []).getD (Int.toNat (1 : Int)) (0 : Int))) (syncT ((midB n.toNat s x_1).fst.fst,(midB n.toNat s x_1).fst.snd.fst,()) ((s.getD x_1 []).getD (Int.toNat (0 : Int)) (0 : Int)) ((s.getD x_1 []).getD (Int.toNat (1 : Int)) (0 : Int))) (lineF [(115 : UInt8)] [(s.getD x_1 []).getD (Int.toNat (0 : Int)) (0 : Int),(s.getD x_1 []).getD (Int.toNat (1 : Int)) (0 : Int)])).fst.snd.fst=(playB n.toNat s (x_2+(1 : Nat))).fst.snd.fst)∧True)∧Lib.pow10Tab=Lib.pow10Tab∧Value.int IntKind.i64 v.m=Value.int IntKind.i64 v.m∧Value.iface v.t1 v.p1=Value.iface v.t1 v.p1∧Value.iface v.t2 v.p2=Value.iface v.t2 v.p2∧True))∧(decide ((↑(s.getD x_1 []).length : Int)=(2 : Int))=false→∃ (x_2 : Nat),(TornMid n s k x_2∧(↑x : Int)=(↑x_2 : Int))∧(n=n∧s=s∧(↑(linT n s k.toNat) : Int)=(↑(linT n s k.toNat) : Int)∧True∧True∧midH n s x_1=hadT n s (x_2+(1 : Nat))∧(↑x_1 : Int)=(↑x_2 : Int)∧True)∧((True∧True∧True∧(bookT n s k.toNat).snd.snd=(bookT n s k.toNat).snd.snd∧True)∧(True∧True∧True∧(midB n.toNat s x_1).snd.snd=(playB n.toNat s (x_2+(1 : Nat))).snd.snd∧True)∧(True∧True∧True)∧(bookT n s k.toNat).snd.fst=(bookT n s k.toNat).snd.fst∧(True∧True∧True)∧(midB n.toNat s x_1).snd.fst=(playB n.toNat s (x_2+(1 : Nat))).snd.fst∧((98 : Nat)=(98 : Nat)∧(bookT n s k.toNat).fst.fst=(bookT n s k.toNat).fst.fst)∧((3 : Nat)=(3 : Nat)∧(bookT n s k.toNat).fst.snd.fst=(bookT n s k.toNat).fst.snd.fst)∧((98 : Nat)=(98 : Nat)∧(midB n.toNat s x_1).fst.fst=(playB n.toNat s (x_2+(1 : Nat))).fst.fst)∧((3 : Nat)=(3 : Nat)∧(midB n.toNat s x_1).fst.snd.fst=(playB n.toNat s (x_2+(1 : Nat))).fst.snd.fst)∧True)∧Lib.pow10Tab=Lib.pow10Tab∧Value.int IntKind.i64 v.m=Value.int IntKind.i64 v.m∧Value.iface v.t1 v.p1=Value.iface v.t1 v.p1∧Value.iface v.t2 v.p2=Value.iface v.t2 v.p2∧True))∧∀ (x_1 : Nat),TornMid n s k x_1∧(↑x : Int)=(↑x_1 : Int)→inK IntKind.i64 ((↑x_1 : Int)+(1 : Int))∧∃ (x_2 : Nat),TornSt n s k x_2∧(100 : Nat) - x_2 < (100 : Nat) - x∧(n=n∧s=s∧(↑(linT n s k.toNat) : Int)=(↑(linT n s k.toNat) : Int)∧True∧True∧hadT n s (x_1+(1 : Nat))=hadT n s x_2∧(↑x_1 : Int)+(1 : Int)=(↑x_2 : Int)∧True)∧((True∧True∧True∧(bookT n s k.toNat).snd.snd=(bookT n s k.toNat).snd.snd∧True)∧(True∧True∧True∧(playB n.toNat s (x_1+(1 : Nat))).snd.snd=(playB n.toNat s x_2).snd.snd∧True)∧(True∧True∧True)∧(bookT n s k.toNat).snd.fst=(bookT n s k.toNat).snd.fst∧(True∧True∧True)∧(playB n.toNat s (x_1+(1 : Nat))).snd.fst=(playB n.toNat s x_2).snd.fst∧((98 : Nat)=(98 : Nat)∧(bookT n s k.toNat).fst.fst=(bookT n s k.toNat).fst.fst)∧((3 : Nat)=(3 : Nat)∧(bookT n s k.toNat).fst.snd.fst=(bookT n s k.toNat).fst.snd.fst)∧((98 : Nat)=(98 : Nat)∧(playB n.toNat s (x_1+(1 : Nat))).fst.fst=(playB n.toNat s x_2).fst.fst)∧((3 : Nat)=(3 : Nat)∧(playB n.toNat s (x_1+(1 : Nat))).fst.snd.fst=(playB n.toNat s x_2).fst.snd.fst)∧True)∧Lib.pow10Tab=Lib.pow10Tab∧Value.int IntKind.i64 v.m=Value.int IntKind.i64 v.m∧Value.iface v.t1 v.p1=Value.iface v.t1 v.p1∧Value.iface v.t2 v.p2=Value.iface v.t2 v.p2∧True)∧(decide (hadT n s x < (↑(linT n s k.toNat) : Int))=false→(decide (hadT n s x=(↑(linT n s k.toNat) : Int))=true→AlikeOk (((bookT n s k.toNat).fst.fst,(bookT n s k.toNat).fst.snd.fst,()),(bookT n s k.toNat).snd.fst,(bookT n s k.toNat).snd.snd) (((playB n.toNat s x).fst.fst,(playB n.toNat s x).fst.snd.fst,()),(playB n.toNat s x).snd.fst,(playB n.toNat s x).snd.snd)∧inK IntKind.i64 n∧kk [Dat.mk Ty.bool true])∧(decide (hadT n s x=(↑(linT n s k.toNat) : Int))=false→kk [Dat.mk Ty.bool false])))∧(decide ((↑x : Int) < (70 : Int))=false→(decide (hadT n s x=(↑(linT n s k.toNat) : Int))=true→AlikeOk (((bookT n s k.toNat).fst.fst,(bookT n s k.toNat).fst.snd.fst,()),(bookT n s k.toNat).snd.fst,(bookT n s k.toNat).snd.snd) (((playB n.toNat s x).fst.fst,(playB n.toNat s x).fst.snd.fst,()),(playB n.toNat s x).snd.fst,(playB n.toNat s x).snd.snd)∧inK IntKind.i64 n∧kk [Dat.mk Ty.bool true])∧(decide (hadT n s x=(↑(linT n s k.toNat) : Int))=false→kk [Dat.mk Ty.bool false])))∧(decide ((↑x : Int) < (↑s.length : Int))=false→(decide (hadT n s x=(↑(linT n s k.toNat) : Int))=true→AlikeOk (((bookT n s k.toNat).fst.fst,(bookT n s k.toNat).fst.snd.fst,()),(bookT n s k.toNat).snd.fst,(bookT n s k.toNat).snd.snd) (((playB n.toNat s x).fst.fst,(playB n.toNat s x).fst.snd.fst,()),(playB n.toNat s x).snd.fst,(playB n.toNat s x).snd.snd)∧inK IntKind.i64 n∧kk [Dat.mk Ty.bool true])∧(decide (hadT n s x=(↑(linT n s k.toNat) : Int))=false→kk [Dat.mk Ty.bool false]))))))))))):=by kernel_rfl
open Go.Vc Go.Proofs Go.RowKit
theorem okFact (v : GV) : PlainOk Tryz.prog (glO v) 12 cFact:=by
 refine plain_of (CxOk.mk' Ef_ok (by kernel_rfl) mixed (gl:=glO v) GOk.nil (GoOk.cons (ownToldN v) Tryz.func13 (by kernel_rfl) (by kernel_rfl) (GoOk.cons ownBTxt.lift Tryz.func14 (by kernel_rfl) (by kernel_rfl) GoOk.nil)) noIt) Tryz.func12 (c:=Tryz.f12.body.getD .skip) (rvs:=[(.tmp 0,.bool)]) (by kernel_rfl) (by kernel_rfl) (by kernel_rfl) ?_
 intro ds k ⟨hp,hk⟩ hwf
 obtain ⟨rfl,-⟩:=dest0 hp
 have hk : k [⟨.bool,true⟩]:=hk
 refine ⟨[joinAll],?_⟩
 rw [vcFact]
 have hl : lineF [115] [0,1]=[115,32,48,32,49,32,54,57,54,10]:=by decide +kernel
 refine ⟨⟨fun l h1 x h2 => ?_⟩,fun hb=>absurd hb (by decide),fun _=>⟨fun _=>⟨?_,?_⟩,fun h=>by cases h⟩⟩
 · have h1 : l=[0,1]:=List.mem_singleton.1 h1
   subst h1
   simp only [List.mem_cons,List.not_mem_nil,or_false] at h2
   rcases h2 with rfl | rfl<;>exact inK_i64.2 ⟨by decide,by decide⟩
 · show (lineF [115] [0,1]).length≤1000000000
   rw [hl]; decide
 · have e : (lineF [115] [0,1]==[115,32,48,32,49,32,54,57,54,10])=true:=by rw [hl]; decide
   show k [⟨.bool,lineF [115] [0,1]==[115,32,48,32,49,32,54,57,54,10]⟩]
   rw [e]; exact hk
theorem lin_succ (n : Int) (s : List (List Int)) {x : Nat} (hx : x < (txtT n s).length) : linT n s (x+1)=linT n s x+if (txtT n s).getD x 0=10 then 1 else 0:=by
 have e : (txtT n s).getD x 0=(txtT n s)[x]:=by rw [List.getD_eq_getElem?_getD,List.getElem?_eq_getElem hx]; rfl
 unfold linT
 rw [List.take_succ_eq_append_getElem hx,List.count_append,e]
 congr 1
 rw [List.count_singleton]
 by_cases h : (txtT n s)[x]=10
 · rw [if_pos h,if_pos (by rw [h]; rfl)]
 · rw [if_neg h,if_neg (by simpa using h)]
theorem lin_le (n : Int) (s : List (List Int)) (k : Nat) : linT n s k≤k:=by
 unfold linT
 refine Nat.le_trans List.count_le_length ?_
 rw [List.length_take]; omega
theorem sucL_k {n : Nat} {s : List (List Int)} (hs : ∀ l∈s,∀ v∈l,inK .i64 v) (i : Nat) : ∀ l∈sucL n s i,∀ v∈l,inK .i64 v:=by
 intro l hl v hv
 obtain ⟨m,e⟩:=suc_mem n s i l hl
 rw [e] at hv
 exact getD_inK hs m v hv
theorem bookT_inv {n : Int} {s : List (List Int)} (hb : inB n 1 5=true) (hs : ∀ l∈s,∀ v∈l,inK .i64 v) (k : Nat) : BInv n.toNat (bookT n s k):=BInv.play hb (sucL_k hs _) _
theorem torn_open {n : Int} {s : List (List Int)} (hs : ∀ l∈s,∀ v∈l,inK .i64 v) (k : Nat) : poR n ((txtT n s).take k)=(bookT n s k,((linT n s k : Nat) : Int),0)∧linT n s k≤(sucL n.toNat s (min s.length 70)).length:=open_torn hs _ k
theorem torn_end {n : Int} {s : List (List Int)} {k : Nat} {x : Nat} (hx : x≤min s.length 70) (he : (sucL n.toNat s x).length=linT n s k) : playB n.toNat s x=bookT n s k:=by
 obtain ⟨t,e⟩:=suc_pre n.toNat s x (min s.length 70 - x)
 rw [show x+(min s.length 70 - x)=min s.length 70 by omega] at e
 unfold bookT
 rw [e,← he,playB_app _ _ _ _ (Nat.le_refl _),suc_play]
theorem had_mono (n : Int) (s : List (List Int)) (i : Nat) : hadT n s (i+1)=hadT n s i+if okS (playB n.toNat s i) (s.getD i [])=true then 1 else 0:=by
 unfold hadT
 show (((if okS (playB n.toNat s i) (s.getD i [])=true then sucL n.toNat s i++[s.getD i []] else sucL n.toNat s i).length : Nat) : Int)=_
 split
 · rw [List.length_append,List.length_singleton]; omega
 · omega
theorem okS3 {b : BS} {l : List Int} (h : l.length=3) : okS b l=decide (bkE b.2.2 (writeE b.1 (l.getD 0 0) (l.getD 1 0) (l.getD 2 0))=0):=by
 unfold okS pE; rw [if_pos h,h]; rfl
theorem okS2 {b : BS} {l : List Int} (h : l.length=2) : okS b l=decide (bkE b.2.2 (syncE b.1 (l.getD 0 0) (l.getD 1 0))=0):=by
 unfold okS pE; rw [if_neg (by omega),h]; rfl
theorem okS0 {b : BS} {l : List Int} (h3 : ¬ l.length=3) (h2 : ¬ l.length=2) : okS b l=false:=by
 unfold okS; rw [decide_eq_false h3,decide_eq_false h2]; rfl
theorem torn_vc (v : GV) (n : Int) (s : List (List Int)) (k : Int) (hn : inK .i64 n) (hk64 : inK .i64 k) (hs : ∀ l∈s,∀ v∈l,inK .i64 v) (kk : List Dat→Prop) (hk : kk [⟨.bool,true⟩]) :
   vcF ⟨Elr,[(12,cFact)],glO v,[],[(13,oToldN),(14,oBTxt),(15,oBOpen),(16,oBW),(17,oBS),(18,oAlike)]⟩ (anTorn n s k) (Tryz.f3.body.getD .skip) Tryz.f3.ntmps [(.tmp 6,.bool)] [⟨I,n⟩,⟨.sl (.sl I),s⟩,⟨I,k⟩] kk:=by
 rw [vcTorn]
 have ret : ∀ x : Bool,x=true→kk [⟨.bool,x⟩]:=by rintro _ rfl; exact hk
 have i0 : Int.toNat 0=0:=rfl
 have i1 : Int.toNat 1=1:=rfl
 have i2 : Int.toNat 2=2:=rfl
 have hn':=inK_i64.1 hn
 refine ⟨trivial,fun h=>(by cases h),fun _=>⟨⟨hs⟩,fun hb=>⟨fun _=>⟨fun _=>hk,fun h1=>ret _ ?_⟩,fun h=>(by cases h)⟩,fun hb=>⟨fun h=>(by cases h),fun _ => ?_⟩⟩⟩
 · have hb' : ¬ (1≤n∧n≤5):=fun h=>by rw [inB_iff.2 h] at hb; cases hb
   have h1 : ¬ n < 1:=by simpa using h1
   simp only [decide_eq_true_eq]; omega
 · have hB:=fun i=>BInv.play hb hs i
   have hT : txtT n s=(playB n.toNat s (min s.length 70)).2.1:=rfl
   have htl : (txtT n s).length≤24000:=(hB _).txt
   obtain ⟨hop,hlin⟩:=torn_open (n:=n) hs k.toNat
   have hbt:=bookT_inv hb hs k.toNat
   simp only [← hT,i0,i1,i2,net_eta,decide_eq_true_eq,decide_eq_false_iff_not,Int.toNat_natCast,inK_i64,true_and,and_true,List.drop_zero,Bool.not_eq_true',Bool.not_eq_false',hop]
   refine ⟨by omega,fun _=>hk,fun hk0=>⟨fun _=>hk,fun hkl=>⟨?A,fun x hx=>⟨fun hlt => ?B,fun hge => ?C⟩⟩⟩⟩
   case A=>exact ⟨0,⟨hb,⟨by omega,by omega⟩,by omega⟩,rfl,rfl⟩
   case B =>
     have hxl : x < (txtT n s).length:=by have:=hx.k0; omega
     have hls:=lin_succ n s hxl
     have hll:=lin_le n s x
     have h10 : (((txtT n s).getD x 0).toNat : Int)=10↔(txtT n s).getD x 0=10:=by
       constructor
       · intro h
         apply UInt8.toNat_inj.1
         have : (10 : UInt8).toNat=10:=rfl
         omega
       · intro h; rw [h]; rfl
     refine ⟨by omega,by omega,fun h=>⟨by omega,by omega,x+1,⟨hb,hx.k0,by omega⟩,by omega,?_,by omega⟩,fun h=>⟨by omega,x+1,⟨hb,hx.k0,by omega⟩,by omega,?_,by omega⟩⟩
     · rw [hls,if_pos (h10.1 h)]; omega
     · rw [hls,if_neg (fun e=>h (h10.2 e))]; omega
   case C =>
     have hxk : x=k.toNat:=by have:=hx.le; omega
     subst hxk
     have hlk:=lin_le n s k.toNat
     have h0 : TornSt n s k 0:=⟨hb,⟨Nat.zero_le _,Nat.zero_le _⟩,by show (0 : Int)≤_; omega,by omega,by omega⟩
     have hwk : (wholeL ((txtT n s).take k.toNat)).length=linT n s k.toNat:=by
       have:=splL_len 10 ((txtT n s).take k.toNat)
       unfold wholeL linT
       rw [List.length_dropLast]; omega
     have hP : POpenOk n ((txtT n s).take k.toNat):=⟨by rw [List.length_take]; omega,fun i _ _=>(BInv.lines hb _ i).ok⟩
     refine ⟨⟨Int.le_refl _,by omega,by omega,by rw [List.length_take]; omega,fun h=>absurd (hb.symm.trans h) (by decide),fun _=>⟨hP,fun _=>⟨(),h0,rfl⟩,fun h=>absurd rfl h⟩⟩,fun _ _=>⟨fun h=>absurd trivial h,fun _=>⟨fun h=>absurd trivial h,fun _=>⟨⟨fun h=>absurd (hb.symm.trans h) (by decide),fun _=>⟨(),h0⟩⟩,fun _ _=>⟨⟨0,h0,⟨rfl,rfl⟩,rfl,rfl,rfl,rfl⟩,fun x hx => ?_⟩⟩⟩⟩⟩
     rename_i hx0
     obtain ⟨hx1,hx70⟩:=hx.le
     have hhad:=hx.had
     have hend : (x=min s.length 70∨¬ hadT n s x < (linT n s k.toNat : Int))→(hadT n s x=(linT n s k.toNat : Int)→AlikeOk (bookT n s k.toNat) (playB n.toNat s x)∧(-9223372036854775808≤n∧n≤9223372036854775807)∧kk [⟨.bool,true⟩])∧(¬ hadT n s x=(linT n s k.toNat : Int)→kk [⟨.bool,false⟩]):=by
       intro h
       have he : hadT n s x=(linT n s k.toNat : Int):=by
         rcases h with h | h
         · have : hadT n s x=((sucL n.toNat s (min s.length 70)).length : Int):=by rw [h]; rfl
           omega
         · omega
       refine ⟨fun _=>⟨⟨hbt.nlen,by have:=hbt.txt; omega,?_⟩,hn',hk⟩,fun h=>absurd he h⟩
       refine torn_end (by omega) ?_
       have : ((sucL n.toNat s x).length : Int)=_:=he
       omega
     have hln : ∀ i,hadT n s i≤i:=fun i=>by have:=suc_len n.toNat s i; unfold hadT; omega
     have hh0 : 0≤hadT n s x:=by unfold hadT; omega
     refine ⟨fun hlt=>⟨fun h70=>⟨fun hhl=>⟨⟨by omega,hlt,⟨fun h3 => ?D,fun h3 => ?E⟩,?F⟩,?G⟩,fun hhl=>hend (.inr hhl)⟩,fun h70=>hend (.inl (by omega))⟩,fun hge=>hend (.inl (by omega))⟩
     case D =>
       have h3' : (s.getD x []).length=3:=by omega
       have em : midB n.toNat s x=_:=(show midB n.toNat s x=playB n.toNat s (x+1) by unfold midB; rw [if_pos h3']).trans ((playB_succ ..).trans (stepB3 h3'))
       have eh : midH n s x=hadT n s (x+1):=by unfold midH; rw [if_pos h3']
       have ho:=okS3 (b:=playB n.toNat s x) h3'
       have hm:=had_mono n s x
       have hB1:=(hB x).ok
       have hmid : TornMid n s k x:=⟨hb,⟨by omega,by omega⟩,hhl⟩
       refine ⟨by omega,by omega,by omega,by omega,by omega,by omega,⟨hB1.sh,hB1.txt,hB1.lo,hB1.hi⟩,fun he=>⟨by have:=hln x; omega,x,⟨hmid,rfl⟩,⟨?_,rfl,rfl⟩,?_⟩,fun he=>⟨x,⟨hmid,rfl⟩,⟨?_,rfl,rfl⟩,?_⟩⟩
       · rw [eh,hm,ho,decide_eq_true he,if_pos rfl]
       · rw [em]; exact ⟨rfl,rfl,rfl,rfl⟩
       · rw [eh,hm,ho,decide_eq_false he,if_neg (by decide)]; omega
       · rw [em]; exact ⟨rfl,rfl,rfl,rfl⟩
     case E =>
       have em : midB n.toNat s x=playB n.toNat s x:=by unfold midB; rw [if_neg (by omega)]
       have eh : midH n s x=hadT n s x:=by unfold midH; rw [if_neg (by omega)]
       exact ⟨x,⟨⟨hb,⟨by omega,by omega⟩,hhl⟩,rfl⟩,⟨eh.symm,rfl,rfl⟩,by rw [em],by rw [em],by rw [em],by rw [em]⟩
     case F =>
       intro y ⟨hy,hxy⟩
       have hyx : y=x:=by omega
       subst hyx
       have hm:=had_mono n s y
       have hB1:=(hB y).ok
       refine ⟨fun h2 => ?_,fun h2 => ?_⟩
       · have h2' : (s.getD y []).length=2:=by omega
         have em : midB n.toNat s y=playB n.toNat s y:=by unfold midB; rw [if_neg (by omega)]
         have eh : midH n s y=hadT n s y:=by unfold midH; rw [if_neg (by omega)]
         have e : playB n.toNat s (y+1)=_:=(playB_succ ..).trans (stepB2 h2')
         have ho:=okS2 (b:=playB n.toNat s y) h2'
         rw [em,eh]
         refine ⟨by omega,by omega,by omega,by omega,⟨hB1.sh,hB1.txt,hB1.lo,hB1.hi⟩,fun he=>⟨by have:=hln y; omega,y,⟨hy,rfl⟩,⟨?_,rfl⟩,?_⟩,fun he=>⟨y,⟨hy,rfl⟩,⟨?_,rfl⟩,?_⟩⟩
         · rw [hm,ho,decide_eq_true he,if_pos rfl]
         · rw [e]; exact ⟨rfl,rfl,rfl,rfl⟩
         · rw [hm,ho,decide_eq_false he,if_neg (by decide)]; omega
         · rw [e]; exact ⟨rfl,rfl,rfl,rfl⟩
       · have em : midB n.toNat s y=playB n.toNat s (y+1)∧midH n s y=hadT n s (y+1):=by
           unfold midB midH
           by_cases h3 : (s.getD y []).length=3
           · rw [if_pos h3,if_pos h3]; exact ⟨rfl,rfl⟩
           · rw [if_neg h3,if_neg h3,playB_succ,stepB0 h3 (by omega),hm,okS0 h3 (by omega),if_neg (by decide)]
             exact ⟨rfl,by omega⟩
         exact ⟨y,⟨hy,rfl⟩,⟨em.2,rfl⟩,by rw [em.1],by rw [em.1],by rw [em.1],by rw [em.1]⟩
     case G =>
       intro y ⟨hy,hxy⟩
       have hyx : y=x:=by omega
       subst hyx
       have hm:=had_mono n s y
       have : hadT n s (y+1)≤(linT n s k.toNat : Int):=by
         rw [hm]; split<;>omega
       exact ⟨by omega,y+1,⟨hb,⟨by omega,by omega⟩,this,hx.k0⟩,by omega,⟨rfl,by omega⟩,rfl,rfl,rfl,rfl⟩
theorem okLawT (v : GV) : PlainOk Tryz.prog (glO v) 3 cLawT:=by
 refine plain_of (CxOk.mk' Elr_ok (by kernel_rfl) mixed (gl:=glO v) (GOk.cons (okFact v) Tryz.func12 (by kernel_rfl) (by kernel_rfl) GOk.nil) (GoOk.cons (ownToldN v) Tryz.func13 (by kernel_rfl) (by kernel_rfl) (GoOk.cons ownBTxt.lift Tryz.func14 (by kernel_rfl) (by kernel_rfl) (GoOk.cons (ownBOpen v) Tryz.func15 (by kernel_rfl) (by kernel_rfl) (GoOk.cons (OwnOk.sub glO_T ownBW) Tryz.func16 (by kernel_rfl) (by kernel_rfl) (GoOk.cons (OwnOk.sub glO_T ownBS) Tryz.func17 (by kernel_rfl) (by kernel_rfl) (GoOk.cons ownAlike.lift Tryz.func18 (by kernel_rfl) (by kernel_rfl) GoOk.nil)))))) noIt) Tryz.func3 (c:=Tryz.f3.body.getD .skip) (rvs:=[(.tmp 6,.bool)]) (by kernel_rfl) (by kernel_rfl) (by kernel_rfl) ?_
 intro ds k ⟨hp,hk⟩ hwf
 obtain ⟨n,s,x,rfl,-⟩:=dest3 hp
 have hk : k [⟨.bool,true⟩]:=hk
 have h1 : inK .i64 n:=hwf ⟨I,n⟩ (List.mem_cons_self ..)
 have h2 : (Ty.sl (.sl I)).wf s:=hwf ⟨.sl (.sl I),s⟩ (List.mem_cons_of_mem _ (List.mem_cons_self ..))
 have h3 : inK .i64 x:=hwf ⟨I,x⟩ (List.mem_cons_of_mem _ (List.mem_cons_of_mem _ (List.mem_cons_self ..)))
 exact ⟨anTorn n s x,torn_vc v n s x h1 h3 (fun l hl y hy=>(h2.2 l hl).2 y hy) k hk⟩
end Go.Proofs.YthdbbgajmgjfcaaGreatDoor

namespace Go.Vc
open Go.RowKit Go.ChangeShapes Go.WideShapes Go.Deep
theorem returnsInHanded_of_shape {H : Type} {enc : TypeId×Value→H} {a : Assume} {C : Checked} {os : Os} {f : FuncId} {fn : Func} {s : ChangeSpec} {conds : List PathCond} {apart fresh handsOn again : Bool} {X : World→Array Value→Prop}
   (hX : ∀ (w w' : World) (args : Array Value),w.heap=w'.heap→X w args→X w' args)
   (own : ownKnob C.prog.godebug=none) (started : os.Started) (noInit : C.prog.inits.idxOf? f=none) (hfn : C.prog.funcs[f]? = some fn)
   (witness : ∃ (w : World) (tape : Tape) (i : Input),w.os=os∧(w.forCall tape i).Shaped C.prog∧i.vars=[]∧Input.okWide C.prog (w.forCall tape i) .any w.heap.size f i ∧
     ((s.pre enc C.prog fn conds apart (w.forCall tape i).memory i.args∧X (w.forCall tape i).memory i.args)∧sizedMet enc C.prog fn (OpenSpec.ofChange s) apart (w.forCall tape i).memory i.args)∧a.holds C.prog (lone (Frame.enter C.prog f i.args .normal) [] (w.forCall tape i)))
   (contract : ∀ (W : World) (base : Nat) (args : Array Value) (ds gs : List (DataW H)) (before : List MemPlace),
     (∀ (j : Nat) t v,fn.params[j]? = some t→args[j]? = some v→Value.okWide C.prog W .any base t v) →
     DataW.Whole enc C.prog fn.params.toList s.vars apart W args.toList ds gs before→X W args→W.ShapedOpen C.prog →
     Calls C.prog f args W fun e W'=>∃ v,e = .returned v∧s.post enc C.prog fn apart fresh handsOn again W args v W') :
   ReturnsInHanded a C os f .any (fun w args=>(s.pre enc C.prog fn conds apart w args∧X w args)∧sizedMet enc C.prog fn (OpenSpec.ofChange s) apart w args) (s.post enc C.prog fn apart fresh handsOn again):=by
 refine returnsInHanded_of_calls own started noInit witness ?_
 intro w tape i _ hsh _ hok hpre hholds
 obtain ⟨_,_,_,fn',hfn',_,_,_,_,hval⟩:=hok
 have e : fn'=fn:=Option.some.inj (hfn'.symm.trans hfn)
 subst e
 obtain ⟨⟨⟨ds,gs,before,hw,hc⟩,hx⟩,hz⟩:=hpre
 have hw':=DataW.Whole.of_heap (w':=w.forCall tape i) (by rfl) hw
 refine (contract (w.forCall tape i) w.heap.size i.args ds gs before hval hw' (hX _ _ _ (by rfl) hx) hsh).mono fun e W' ⟨v,he,hp⟩ => ?_
 subst he
 exact ChangeSpec.post_blind hp
theorem gl_of_shape {P : Program} {w : World} {g : Nat} {t : TypeId} {zero : Array Value} {k : IntKind} (h : w.ShapedOpen P) (hg : g < P.globals.size)
   (h0 : ((begin P (fun _ _=>0) default).world.heap[g]?).bind Obj.row? = some (zero,t)) (hz : zero.size=1) (hc : ∃ m,w.cell? ⟨g,0,none⟩=some (.int k m)) :
   ∃ m,GlOk [(g,⟨.raw,Value.int k m⟩)] w fun b=>b < w.heap.size:=by
 obtain ⟨m,hm⟩:=hc
 obtain ⟨cs,hh,hs,_⟩:=h.1 g zero t hg h0
 refine ⟨m,fun g2 d2 hm2 => ?_⟩
 obtain ⟨e1,e2⟩:=Prod.mk.inj (List.mem_singleton.1 hm2)
 subst e1; subst e2
 refine ⟨⟨World.block_lt_of_cell? w ⟨g2,0,none⟩ hm,cs,t,_,hh,by rw [hs,hz]; rfl⟩,[.int k m],fun j u hj => ?_,rfl,rfl⟩
 match j with
 | 0=>simp at hj; subst hj; exact hm
 | j+1=>simp at hj
theorem gl_of_raw {P : Program} {w : World} {n : String} {g : Nat} {v : Value} (hg : P.globalNamed n=some g) (h : w.var? P n=some #[v]) (h1 : v.oneCell'=true) : GlOk [(g,⟨.raw,v⟩)] w fun b=>b < w.heap.size:=by
 intro g2 d2 hm2
 obtain ⟨ea,eb⟩:=Prod.mk.inj (List.mem_singleton.1 hm2)
 subst ea; subst eb
 have hcell:=World.var?_cell hg h
 obtain ⟨e0,q0,hblk⟩:=var_block hg h
 refine ⟨⟨?_,#[v],e0,q0,hblk,rfl⟩,[v],fun j u hj => ?_,rfl,h1⟩
 · refine World.block_lt_of_cell? w ⟨g2,0,none⟩ (u:=v) ?_
   rw [hcell 0]; rfl
 · rw [hcell j,← hj]; simp
end Go.Vc
namespace Go.Proofs.YthdbbgajmgjfcaaGreatDoor
open Go.Vc Go.Proofs Go.RowKit
theorem rowEs (u : TypeId) (h : Tryz.prog.typeName? 3 u=some "*errors.errorString") : u=210 :=
 typeName_ptr_named (nm := "errors.errorString") (by rw [show "*" ++ "errors.errorString" = "*errors.errorString" by decide]; kernel_rfl) (by kernel_rfl) (by decide) u (by rw [show "*" ++ "errors.errorString" = "*errors.errorString" by decide]; exact h)
def Eg10 : Env:={ tys:=[(207,.ar 20 (.int .u64))],errT:=73,eqs:=[],els:=[] }
theorem Eg10_ok : EnvOk Tryz.prog Eg10:=EnvOk.of_list (by kernel_rfl) (by kernel_rfl) (by kernel_rfl)
theorem gv_of {W : World} (hsh : W.ShapedOpen Tryz.prog) {r : List (String×DataW Unit)} (h : laidMet Tryz.prog (("strconv.ErrRange",Rows.laid_strconv_ErrRange)::("strconv.ErrSyntax",Rows.laid_strconv_ErrSyntax)::r) W) : ∃ v,GlOk (glM v) W fun b=>b < W.heap.size:=by
 obtain ⟨m,h1⟩:=gl_of_shape (zero:=#[.int .i64 0]) (t:=3) (k := .i64) (g:=1) hsh (of_decide_eq_true (by kernel_rfl)) (by kernel_rfl) rfl (laidSplit.s1_3 W hsh)
 obtain ⟨a2,_,h2,_⟩:=laid_sentinel (g:=3) h (by kernel_rfl) (by kernel_rfl) (ti:=29) Tryz.underlying29 rowEs Tryz.underlying210 Tryz.underlying212 rfl rfl Tryz.underlying9 (by kernel_rfl) (by kernel_rfl)
 obtain ⟨a3,_,h3,_⟩:=laid_sentinel (g:=2) h.tail (by kernel_rfl) (by kernel_rfl) (ti:=29) Tryz.underlying29 rowEs Tryz.underlying210 Tryz.underlying212 rfl rfl Tryz.underlying9 (by kernel_rfl) (by kernel_rfl)
 refine ⟨⟨m,_,_,_,_⟩,GlOk.append h1 (GlOk.append (gl_of_raw (by kernel_rfl) h3 rfl) (gl_of_raw (by kernel_rfl) h2 rfl))⟩
open Go.Vc Go.Proofs Go.RowKit
theorem glO_laid {laid : List (String×DataW Unit)} {W : World} (hsh : W.ShapedOpen Tryz.prog) (hL : laidMetH Tryz.prog laid W) {a b d : String×DataW Unit} {f : List (String×DataW Unit)}
   (he : (laid.filter fun x=>x.2.handleName?.isNone)=a::b::("internal/strconv.uint64pow10",Rows.laid_internal_strconv_uint64pow10)::d::("strconv.ErrRange",Rows.laid_strconv_ErrRange)::("strconv.ErrSyntax",Rows.laid_strconv_ErrSyntax)::f)
   (hm : ("internal/strconv.uint64pow10",Rows.laid_internal_strconv_uint64pow10)∈laid) : ∃ v,GlOk (glO v) W fun b=>b < W.heap.size:=by
 have h1:=(laidMetH_iff.1 hL).1
 rw [he] at h1
 obtain ⟨v,hv⟩:=gv_of hsh h1.tail.tail.tail.tail
 exact ⟨v,GlOk.append (gl_of_laidM Eg10_ok (n := "internal/strconv.uint64pow10") (T:=207) (xs:=Lib.pow10Tab) hL hm (by kernel_rfl) (by kernel_rfl) (by kernel_rfl) (by kernel_rfl) (by decide)) hv⟩
theorem glTorn {W : World} (hsh : W.ShapedOpen Tryz.prog) (hL : laidMetH Tryz.prog Rows.bookTornRow.laid W) : ∃ v,GlOk (glO v) W fun b=>b < W.heap.size:=glO_laid (a:=("math/bits.deBruijn32tab",Rows.laid_math_bits_deBruijn32tab)) (b:=("math/bits.deBruijn64tab",Rows.laid_math_bits_deBruijn64tab)) (d:=("unicode/utf8.acceptRanges",Rows.laid_unicode_utf8_acceptRanges)) (f:=[("unicode/utf8.first",Rows.laid_unicode_utf8_first)]) hsh hL (by kernel_rfl) (.tail _ (.tail _ (.head _)))
end Go.Proofs.YthdbbgajmgjfcaaGreatDoor
