/- Own texts, merged and cut: Er, GDef, GV, GOk, GDef2, GDef3, KDef, KV, KOk, GOk2, GV2, GOk3, GV3, GOk4, GDef4, GM, GM2, GM3, KOk2, KM, SDef, SM, GDef5, GDef6, TP2, TP3, SV, SOk, HDef, HM, HV, HOk, HOk2, Tz, Bt, ZDef, ODef, OV2, OV1, Om, ZV1, ZOk1, ZV2, ZOk2, OOk, ODef2, OV3, OOk2, ODef3, OV4, OOk3, ODef4, OV5, OOk4, OOk5, CDef, RDef, KOk3, RM, ODef5. -/
import Derived.Test.YtfmiecbmikncpaaDoorTORowVQ
import Derived.Test.YtfmiecbmikncpaaDoorTORowVPA
import Derived.Test.YtfmiecbmikncpaaDoorRows
import Derived.Test.YtfmiecbmikncpaaDoorChecked
import Derived.Shelf.Spec.TrailingZeros
import Derived.RangeFuncNested
import Derived.RangeFuncBound
import Derived.RangeFuncCalls
import Derived.RangeFuncLeaves
import Derived.Shelf.Abstract
import Derived.Shelf.RegionOpen
import Derived.WalkKit
import Derived.OwnWalkIn
import Derived.TacticsInMore
import Derived.LoopNIn
import Derived.LoopIn
namespace Go.Proofs.YtfmiecbmikncpaaDoor
open Go.RowKit Go.Vc
abbrev I:Ty := .int .i64
abbrev tErr:Ty := .err 53
theorem PlainOk.sub{P:Program}{gl gl':List (Nat×Dat)}{f:FuncId}{c:Ctr}(hs:∀ x∈gl,x∈gl')(h:PlainOk P gl f c):PlainOk P gl' f c :=
 fun ds k hk w R0 vals hR0 hG hD=>h ds k hk w R0 vals hR0 (fun g d hg=>hG g d (hs _ hg)) hD
open Go.Vc
abbrev tEv:Ty := .pr I (.pr I .un)
abbrev tTr:Ty := .pr I (.pr (.sl tEv) .un)
abbrev Ev:=Int×Int×Unit
abbrev Tr:=Int×List Ev×Unit
def Et:Env:={ tys:=[(3,I),(4,.bool),(5,.int .u8),(22,.sl tEv),(24,tTr),(27,tErr),(25,.sl I),(55,tEv),(60,.ar 5 I),(61,.sl (.sl I))],errT:=53,eqs:=[],els:=[(22,55),(25,3),(61,25)] }
def an1(α:Type)(r:Nat)(st:St→α→St)(ok:α→Prop)(mu:α→Nat):Ann:=[loopAt r α [] st (fun _=>ok) mu]
theorem Et_ok:EnvOk Tryd.prog Et:=EnvOk.of_list (by kernel_rfl) (by kernel_rfl) (by kernel_rfl)
def inB(n lo hi:Int):Bool:=decide (lo≤n)&&decide (n≤hi)
def cWithin:Ctr:=cdet [I,I,I] (fun _ _ _=>True) (fun a b c=>[⟨.bool,inB a b c⟩])
def cPow2:Ctr:=cdet [I] (fun (n:Int)=>n≤61∧True) (fun (n:Int)=>[⟨I,(2:Int) ^ n.toNat⟩])
def bitB(s i:Int):Bool:=decide (0≤s)&&s.toNat.testBit i.toNat
def cBit:Ctr:=cdet [I,I] (fun _ _=>True) (fun s i=>[⟨.bool,bitB s i⟩])
def evErr(p:Int)(l:List Ev)(i:Nat):Int :=
 if (inB (l.getD i (0,0,())).1 0 (p - 1)&&inB (l.getD i (0,0,())).2.1 (-1) ((i:Int) - 1))=false then 1
 else if 0≤(l.getD i (0,0,())).2.1∧(l.getD (l.getD i (0,0,())).2.1.toNat (0,0,())).1=(l.getD i (0,0,())).1 then 6 else 0
def evsErr(p:Int)(l:List Ev):Nat→Nat→Int
 | 0,_=>0
 | f+1,i=>if evErr p l i=0 then evsErr p l f (i+1) else evErr p l i
def chk(t:Tr):Int:=if inB t.1 1 5=false then 1 else if 24<t.2.1.length then 4 else evsErr t.1 t.2.1 t.2.1.length 0
def cCheck:Ctr:=cdet [tTr] (fun _=>True) (fun t=>[⟨tErr,chk t⟩])
def anPow2(n:Int):Ann:=an1 Nat 3 (fun st i=>St.at st [(3,.d I ((2:Int) ^ i)),(4,.d I (i:Int))]) (fun i=>i≤n.toNat∧True) (fun i=>n.toNat - i)
def anBit(s i:Int):Ann:=an1 Nat 2 (fun st k=>St.at st [(0,.d I (s.tdiv (2 ^ k))),(5,.d I (k:Int))]) (fun k=>k≤i.toNat∧True) (fun k=>i.toNat - k)
def anCheck(t:Tr):Ann:=an1 Nat 6 (fun st i=>St.at st [(18,.d I (i:Int)),(3,.any),(4,.any)]) (fun i=>chk t=evsErr t.1 t.2.1 (t.2.1.length - i) i∧i≤t.2.1.length) (fun i=>t.2.1.length - i)
open Go.Vc
set_option linter.unusedVariables false
theorem vcWithin(a b c:Int)(k:List Dat→Prop):vcF ⟨Et,[],[],[],[]⟩ [] (Tryd.f23.body.getD .skip) Tryd.f23.ntmps [(.tmp 6,.bool)] [⟨I,a⟩,⟨I,b⟩,⟨I,c⟩] k=(
 (decide (b≤a)=true→k [Dat.mk Ty.bool (decide (a≤c))])∧(decide (b≤a)=false→k [Dat.mk Ty.bool false])):=by kernel_rfl
theorem vcPow2(n:Int)(k:List Dat→Prop):vcF ⟨Et,[],[],[],[]⟩ (anPow2 n) (Tryd.f42.body.getD .skip) Tryd.f42.ntmps [(.tmp 2,I)] [⟨I,n⟩] k=(
 (∃ (x:Nat),(x≤n.toNat∧True)∧(n=n∧(0:Int)=(0:Int)∧(1:Int)=(2:Int) ^ x∧(0:Int)=(↑x:Int)∧True)∧True∧True)∧∀ (x:Nat),x≤n.toNat∧True→(decide ((↑x:Int)<n)=true→inK IntKind.i64 ((2:Int) ^ x*(2:Int))∧inK IntKind.i64 ((↑x:Int)+(1:Int))∧∃ (x_1:Nat),(x_1≤n.toNat∧True)∧n.toNat - x_1<n.toNat - x∧(n=n∧(0:Int)=(0:Int)∧(2:Int) ^ x*(2:Int)=(2:Int) ^ x_1∧(↑x:Int)+(1:Int)=(↑x_1:Int)∧True)∧True∧True)∧(decide ((↑x:Int)<n)=false→k [Dat.mk (I) ((2:Int) ^ x)])):=by kernel_rfl
theorem vcBit(s i:Int)(k:List Dat→Prop):vcF ⟨Et,[],[],[],[]⟩ (anBit s i) (Tryd.f17.body.getD .skip) Tryd.f17.ntmps [(.tmp 4,.bool)] [⟨I,s⟩,⟨I,i⟩] k=(
 (∃ (x:Nat),(x≤i.toNat∧True)∧(s=s.tdiv ((2:Int) ^ x)∧i=i∧false=false∧(0:Int)=(↑x:Int)∧True)∧True∧True)∧∀ (x:Nat),x≤i.toNat∧True→(decide ((↑x:Int)<i)=true→((!decide (s.tdiv ((2:Int) ^ x)=(0:Int)))=true→(2:Int)≠(0:Int)∧inK IntKind.i64 ((s.tdiv ((2:Int) ^ x)).tdiv (2:Int))∧inK IntKind.i64 ((↑x:Int)+(1:Int))∧∃ (x_1:Nat),(x_1≤i.toNat∧True)∧i.toNat - x_1<i.toNat - x∧((s.tdiv ((2:Int) ^ x)).tdiv (2:Int)=s.tdiv ((2:Int) ^ x_1)∧i=i∧false=false∧(↑x:Int)+(1:Int)=(↑x_1:Int)∧True)∧True∧True)∧((!decide (s.tdiv ((2:Int) ^ x)=(0:Int)))=false→(2:Int)≠(0:Int)∧inK IntKind.i64 ((s.tdiv ((2:Int) ^ x)).tmod (2:Int))∧k [Dat.mk Ty.bool (decide ((s.tdiv ((2:Int) ^ x)).tmod (2:Int)=(1:Int)))]))∧(decide ((↑x:Int)<i)=false→(2:Int)≠(0:Int)∧inK IntKind.i64 ((s.tdiv ((2:Int) ^ x)).tmod (2:Int))∧k [Dat.mk Ty.bool (decide ((s.tdiv ((2:Int) ^ x)).tmod (2:Int)=(1:Int)))])):=by kernel_rfl
theorem vcCheck(t:Tr)(k:List Dat→Prop):vcF ⟨Et,[(23,cWithin)],[],[],[]⟩ (anCheck t) (Tryd.f7.body.getD .skip) Tryd.f7.ntmps [(.tmp 2,tErr)] [⟨tTr,t⟩] k=(
 True∧((!inB t.fst (1:Int) (5:Int))=true→(1:Int)≠(0:Int)∧k [Dat.mk (Ty.err (53:Nat)) (1:Int)])∧((!inB t.fst (1:Int) (5:Int))=false→(decide ((24:Int)<(↑(List.length t.snd.fst):Int))=true→(4:Int)≠(0:Int)∧k [Dat.mk (Ty.err (53:Nat)) (4:Int)])∧(decide ((24:Int)<(↑(List.length t.snd.fst):Int))=false→(∃ (x:Nat),(chk t=evsErr t.fst t.snd.fst (t.snd.fst.length - x) x∧x≤t.snd.fst.length)∧(t=t∧([]:List Nat)=[]∧(0:Int)=(0:Int)∧[]++[(0:Nat)]=[]++[(0:Nat)]∧t.fst=t.fst∧inB t.fst (1:Int) (5:Int)=inB t.fst (1:Int) (5:Int)∧(!inB t.fst (1:Int) (5:Int)) = !inB t.fst (1:Int) (5:Int)∧[]++[(1:Nat)]=[]++[(1:Nat)]∧t.snd.fst=t.snd.fst∧(↑(List.length t.snd.fst):Int)=(↑(List.length t.snd.fst):Int)∧decide ((24:Int)<(↑(List.length t.snd.fst):Int))=decide ((24:Int)<(↑(List.length t.snd.fst):Int))∧[]++[(1:Nat)]=[]++[(1:Nat)]∧t.snd.fst=t.snd.fst∧(↑(List.length t.snd.fst):Int)=(↑(List.length t.snd.fst):Int)∧(0:Int)=(↑x:Int)∧True)∧(((24:Nat)=(24:Nat)∧t=t)∧True)∧True)∧∀ (x:Nat),chk t=evsErr t.fst t.snd.fst (t.snd.fst.length - x) x∧x≤t.snd.fst.length→(decide ((↑x:Int)<(↑(List.length t.snd.fst):Int))=true→(0:Int)≤(↑x:Int)∧(↑x:Int)<(↑(List.length t.snd.fst):Int)∧inK IntKind.i64 (t.fst - (1:Int))∧True∧((!inB (List.getD t.snd.fst (↑x:Int).toNat ((0:Int),(0:Int),())).fst (0:Int) (t.fst - (1:Int)))=true→(1:Int)≠(0:Int)∧k [Dat.mk (Ty.err (53:Nat)) (1:Int)])∧((!inB (List.getD t.snd.fst (↑x:Int).toNat ((0:Int),(0:Int),())).fst (0:Int) (t.fst - (1:Int)))=false→inK IntKind.i64 ((↑x:Int) - (1:Int))∧True∧((!inB (List.getD t.snd.fst (↑x:Int).toNat ((0:Int),(0:Int),())).snd.fst (-1:Int) ((↑x:Int) - (1:Int)))=true→(1:Int)≠(0:Int)∧k [Dat.mk (Ty.err (53:Nat)) (1:Int)])∧((!inB (List.getD t.snd.fst (↑x:Int).toNat ((0:Int),(0:Int),())).snd.fst (-1:Int) ((↑x:Int) - (1:Int)))=false→(decide ((0:Int)≤(List.getD t.snd.fst (↑x:Int).toNat ((0:Int),(0:Int),())).snd.fst)=true→(0:Int)≤(List.getD t.snd.fst (↑x:Int).toNat ((0:Int),(0:Int),())).snd.fst∧(List.getD t.snd.fst (↑x:Int).toNat ((0:Int),(0:Int),())).snd.fst<(↑(List.length t.snd.fst):Int)∧(decide ((List.getD t.snd.fst (Int.toNat (List.getD t.snd.fst (↑x:Int).toNat ((0:Int),(0:Int),())).snd.fst) ((0:Int),(0:Int),())).fst=(List.getD t.snd.fst (↑x:Int).toNat ((0:Int),(0:Int),())).fst)=true→(6:Int)≠(0:Int)∧k [Dat.mk (Ty.err (53:Nat)) (6:Int)])∧(decide ((List.getD t.snd.fst (Int.toNat (List.getD t.snd.fst (↑x:Int).toNat ((0:Int),(0:Int),())).snd.fst) ((0:Int),(0:Int),())).fst=(List.getD t.snd.fst (↑x:Int).toNat ((0:Int),(0:Int),())).fst)=false→inK IntKind.i64 ((↑x:Int)+(1:Int))∧∃ (x_1:Nat),(chk t=evsErr t.fst t.snd.fst (t.snd.fst.length - x_1) x_1∧x_1≤t.snd.fst.length)∧t.snd.fst.length - x_1<t.snd.fst.length - x∧(t=t∧([]:List Nat)=[]∧(0:Int)=(0:Int)∧[]++[(0:Nat)]=[]++[(0:Nat)]∧t.fst=t.fst∧inB t.fst (1:Int) (5:Int)=inB t.fst (1:Int) (5:Int)∧(!inB t.fst (1:Int) (5:Int)) = !inB t.fst (1:Int) (5:Int)∧[]++[(1:Nat)]=[]++[(1:Nat)]∧t.snd.fst=t.snd.fst∧(↑(List.length t.snd.fst):Int)=(↑(List.length t.snd.fst):Int)∧decide ((24:Int)<(↑(List.length t.snd.fst):Int))=decide ((24:Int)<(↑(List.length t.snd.fst):Int))∧[]++[(1:Nat)]=[]++[(1:Nat)]∧t.snd.fst=t.snd.fst∧(↑(List.length t.snd.fst):Int)=(↑(List.length t.snd.fst):Int)∧(↑x:Int)+(1:Int)=(↑x_1:Int)∧True)∧(((24:Nat)=(24:Nat)∧t=t)∧True)∧True))∧(decide ((0:Int)≤(List.getD t.snd.fst (↑x:Int).toNat ((0:Int),(0:Int),())).snd.fst)=false→inK IntKind.i64 ((↑x:Int)+(1:Int))∧∃ (x_1:Nat),(chk t=evsErr t.fst t.snd.fst (t.snd.fst.length - x_1) x_1∧x_1≤t.snd.fst.length)∧t.snd.fst.length - x_1<t.snd.fst.length - x∧(t=t∧([]:List Nat)=[]∧(0:Int)=(0:Int)∧[]++[(0:Nat)]=[]++[(0:Nat)]∧t.fst=t.fst∧inB t.fst (1:Int) (5:Int)=inB t.fst (1:Int) (5:Int)∧(!inB t.fst (1:Int) (5:Int)) = !inB t.fst (1:Int) (5:Int)∧[]++[(1:Nat)]=[]++[(1:Nat)]∧t.snd.fst=t.snd.fst∧(↑(List.length t.snd.fst):Int)=(↑(List.length t.snd.fst):Int)∧decide ((24:Int)<(↑(List.length t.snd.fst):Int))=decide ((24:Int)<(↑(List.length t.snd.fst):Int))∧[]++[(1:Nat)]=[]++[(1:Nat)]∧t.snd.fst=t.snd.fst∧(↑(List.length t.snd.fst):Int)=(↑(List.length t.snd.fst):Int)∧(↑x:Int)+(1:Int)=(↑x_1:Int)∧True)∧(((24:Nat)=(24:Nat)∧t=t)∧True)∧True))))∧(decide ((↑x:Int)<(↑(List.length t.snd.fst):Int))=false→k [Dat.mk (Ty.err (53:Nat)) (0:Int)])))):=by kernel_rfl
open Go.Vc
theorem mixed:Tryd.prog.follows .mixedOrders=true:=by kernel_rfl
theorem okWithin:PlainOk Tryd.prog [] 23 cWithin:=by
 refine plain_of (CxOk.mk' Et_ok rfl mixed (gl:=[]) GOk.nil GoOk.nil noIt) Tryd.func23 (c:=Tryd.f23.body.getD .skip) (rvs:=[(.tmp 6,.bool)]) (by kernel_rfl) (by kernel_rfl) (by kernel_rfl) ?_
 intro ds k ⟨hp,hk⟩ hwf
 obtain⟨a,b,c,rfl,-⟩:=dest3 hp
 have hk:k [⟨.bool,inB a b c⟩]:=hk
 refine⟨[],?_⟩
 rw[vcWithin]
 unfold inB at hk
 refine⟨fun h => ?_,fun h => ?_⟩<;>simpa [h] using hk
theorem two_pow_le{n:Nat}(h:n≤62):(2:Int) ^ n≤4611686018427387904:=by
 have:2 ^ n≤2 ^ 62:=Nat.pow_le_pow_right (by decide) h
 have h2:((2 ^ n:Nat):Int)≤((2 ^ 62:Nat):Int):=Int.ofNat_le.2 this
 rw[Int.natCast_pow] at h2
 exact h2
theorem two_pow_pos(n:Nat):(0:Int)<(2:Int) ^ n:=Int.pow_pos (by decide)
theorem okPow2:PlainOk Tryd.prog [] 42 cPow2:=by
 refine plain_of (CxOk.mk' Et_ok rfl mixed (gl:=[]) GOk.nil GoOk.nil noIt) Tryd.func42 (c:=Tryd.f42.body.getD .skip) (rvs:=[(.tmp 2,I)]) (by kernel_rfl) (by kernel_rfl) (by kernel_rfl) ?_
 intro ds k ⟨hp,hk⟩ hwf
 obtain⟨n,rfl,hn,-⟩:=dest1 hp
 have hk:k [⟨I,(2:Int) ^ n.toNat⟩]:=hk
 refine⟨anPow2 n,?_⟩
 rw[vcPow2]
 simp only[decide_eq_true_eq,decide_eq_false_iff_not,inK_i64,and_true,true_and]
 refine⟨⟨0,by omega,rfl,rfl⟩,fun x hx=>⟨fun h => ?_,fun h => ?_⟩⟩
 · have h1:=two_pow_le (n:=x+1) (by omega)
   have h2:=two_pow_pos (x+1)
   rw[Int.pow_succ] at h1 h2
   refine⟨by omega,by omega,x+1,by omega,by omega,by rw[Int.pow_succ],by omega⟩
 · have:x=n.toNat:=by omega
   rw[this];exact hk
theorem tdivN(n x:Nat):(n:Int).tdiv ((2:Int) ^ x)=((n/2 ^ x:Nat):Int):=by
 rw[show (2:Int) ^ x=((2 ^ x:Nat):Int) by rw[Int.natCast_pow];rfl,← Int.ofNat_tdiv]
theorem tdiv_pow(s:Int)(x:Nat):(s.tdiv ((2:Int) ^ x)).tdiv 2=s.tdiv ((2:Int) ^ (x+1)):=by
 have key:∀ n:Nat,((n:Int).tdiv ((2:Int) ^ x)).tdiv 2=(n:Int).tdiv ((2:Int) ^ (x+1)):=by
   intro n
   rw[tdivN,tdivN,Nat.pow_succ,← Nat.div_div_eq_div_mul]
   have:=tdivN (n/2 ^ x) 1
   simpa using this
 rcases Int.le_total 0 s with h | h
 · obtain⟨n,rfl⟩:=Int.eq_ofNat_of_zero_le h
   exact key n
 · obtain⟨n,hn⟩:=Int.eq_ofNat_of_zero_le (show 0 ≤ -s by omega)
   have e:s = -(n:Int):=by omega
   rw[e,Int.neg_tdiv,Int.neg_tdiv,Int.neg_tdiv,key]
theorem bit_of{s:Int}{x:Nat}:decide ((s.tdiv ((2:Int) ^ x)).tmod 2=1)=bitB s x:=by
 unfold bitB
 by_cases h:0≤s
 · obtain⟨n,rfl⟩:=Int.eq_ofNat_of_zero_le h
   have e:((n:Int).tdiv ((2:Int) ^ x)).tmod 2=((n/2 ^ x%2:Nat):Int):=by
     rw[show (2:Int) ^ x=((2 ^ x:Nat):Int) by rw[Int.natCast_pow];rfl,← Int.ofNat_tdiv]
     exact (Int.ofNat_tmod _ 2).symm
   rw[e]
   simp only[h,decide_true,Bool.true_and,Int.toNat_natCast]
   rw[Nat.testBit_eq_decide_div_mod_eq]
   apply decide_eq_decide.2
   exact⟨fun h=>by exact_mod_cast h,fun h=>by exact_mod_cast h⟩
 · have hd:decide (0≤s)=false:=by simpa using h
   rw[hd,Bool.false_and]
   have hle:s.tdiv ((2:Int) ^ x)≤0:=by
     have:=Int.tdiv_nonneg (a := -s) (b:=(2:Int) ^ x) (by omega) (Int.le_of_lt (two_pow_pos x))
     rw[Int.neg_tdiv] at this;omega
   simp only[decide_eq_false_iff_not]
   intro hc
   have h2:=Int.tmod_nonneg (a := -(s.tdiv ((2:Int) ^ x))) 2 (by omega)
   rw[Int.neg_tmod] at h2
   omega
theorem tdiv_in{s:Int}(h:inK .i64 s)(x:Nat):inK .i64 (s.tdiv ((2:Int) ^ x))∧inK .i64 ((s.tdiv ((2:Int) ^ x)).tmod 2):=by
 rw[inK_i64] at h
 have key:∀ n:Nat,((n:Int).tdiv ((2:Int) ^ x))≤n∧0≤((n:Int).tdiv ((2:Int) ^ x)):=by
   intro n
   rw[tdivN]
   have h:=Nat.div_le_self n (2 ^ x)
   generalize n/2 ^ x=q at h
   omega
 have hb : -9223372036854775808≤s.tdiv ((2:Int) ^ x)∧s.tdiv ((2:Int) ^ x)≤9223372036854775807:=by
   rcases Int.le_total 0 s with h0 | h0
   · obtain⟨n,rfl⟩:=Int.eq_ofNat_of_zero_le h0
     have:=key n;omega
   · obtain⟨n,hn⟩:=Int.eq_ofNat_of_zero_le (show 0 ≤ -s by omega)
     have e:s = -(n:Int):=by omega
     have:=key n
     rw[e,Int.neg_tdiv];omega
 refine⟨inK_i64.2 hb,inK_i64.2 ?_⟩
 generalize s.tdiv ((2:Int) ^ x)=q at hb
 have:=Int.tmod_two_eq q
 omega
theorem okBit:PlainOk Tryd.prog [] 17 cBit:=by
 refine plain_of (CxOk.mk' Et_ok rfl mixed (gl:=[]) GOk.nil GoOk.nil noIt) Tryd.func17 (c:=Tryd.f17.body.getD .skip) (rvs:=[(.tmp 4,.bool)]) (by kernel_rfl) (by kernel_rfl) (by kernel_rfl) ?_
 intro ds k ⟨hp,hk⟩ hwf
 obtain⟨s,i,rfl,-⟩:=dest2 hp
 have hk:k [⟨.bool,bitB s i⟩]:=hk
 have hs:inK .i64 s:=(wf2 hwf).1
 have hi:=inK_i64.1 ((wf2 hwf).2:inK .i64 i)
 refine⟨anBit s i,?_⟩
 rw[vcBit]
 simp only[decide_eq_true_eq,decide_eq_false_iff_not,and_true,true_and,Bool.not_eq_true',Bool.not_eq_false',ne_eq]
 have ret:∀ x:Nat,bitB s x=bitB s i→k [⟨.bool,decide ((s.tdiv ((2:Int) ^ x)).tmod 2=1)⟩]:=by
   intro x hx;rw[bit_of,hx];exact hk
 refine⟨⟨0,by omega,by simp,rfl⟩,fun x hx=>⟨fun h=>⟨fun h0=>⟨by decide,?_,by rw[inK_i64];omega,x+1,by omega,by omega,tdiv_pow s x,by omega⟩,fun h0=>⟨by decide,(tdiv_in hs x).2,ret x ?_⟩⟩,fun h=>⟨by decide,(tdiv_in hs x).2,ret x ?_⟩⟩⟩
 · rw[tdiv_pow];exact (tdiv_in hs (x+1)).1
 · unfold bitB
   by_cases hs0:0≤s
   · obtain⟨n,hn⟩:=Int.eq_ofNat_of_zero_le hs0
     rw[hn,tdivN] at h0
     have h0':n/2 ^ x=0:=by exact_mod_cast h0
     have hlt:n<2 ^ x:=by
       rcases Nat.lt_or_ge n (2 ^ x) with h | h
       · exact h
       · have:=Nat.div_pos h (Nat.two_pow_pos x);omega
     have hf:∀ j,x≤j→n.testBit j=false:=fun j hj=>Nat.testBit_lt_two_pow (Nat.lt_of_lt_of_le hlt (Nat.pow_le_pow_right (by decide) hj))
     have e1:s.toNat=n:=by rw[hn];rfl
     rw[e1,hf _ (by rw[Int.toNat_natCast];exact Nat.le_refl _),hf _ (by omega)]
   · have:decide (0≤s)=false:=by simpa using hs0
     rw[this];rfl
 · have:(x:Int).toNat=i.toNat:=by omega
   unfold bitB;rw[this]
open Go.Vc
def bst(l:List Ev):Nat→List Nat×List Nat
 | 0=>(List.replicate l.length 0,List.replicate 5 0)
 | i+1 =>
   ((bst l i).1.set i (if 0≤(l.getD i (0,0,())).2.1 then (bst l i).2.getD (l.getD i (0,0,())).1.toNat 0 ||| ((bst l i).1.getD (l.getD i (0,0,())).2.1.toNat 0 ||| 2 ^ (l.getD i (0,0,())).2.1.toNat) else (bst l i).2.getD (l.getD i (0,0,())).1.toNat 0),
    (bst l i).2.set (l.getD i (0,0,())).1.toNat ((if 0≤(l.getD i (0,0,())).2.1 then (bst l i).2.getD (l.getD i (0,0,())).1.toNat 0 ||| ((bst l i).1.getD (l.getD i (0,0,())).2.1.toNat 0 ||| 2 ^ (l.getD i (0,0,())).2.1.toNat) else (bst l i).2.getD (l.getD i (0,0,())).1.toNat 0) ||| 2 ^ i))
def ints(l:List Nat):List Int:=l.map fun (n:Nat)=>(n:Int)
def befN(t:Tr):List Nat:=(bst t.2.1 t.2.1.length).1
def bef(t:Tr):List Int:=if chk t=0 then ints (befN t) else[]
def cBefore:Ctr:=cdet [tTr] (fun _=>True) (fun t=>[⟨.sl I,bef t⟩,⟨tErr,chk t⟩])
def anBefore(t:Tr):Ann:=an1 Nat 7 (fun st i=>{ St.at st [(21,.d I (i:Int)),(7,.any),(8,.any)] with ob:=(st.ob.set 1 (.row 3 I (ints (bst t.2.1 i).1))).set 2 (.var 60 (.ar 5 I) (ints (bst t.2.1 i).2)) }) (fun i=>i≤t.2.1.length∧chk t=0) (fun i=>t.2.1.length - i)
open Go.Vc
def cInts:Ctr:=cdet [.sl I,.sl I] (fun _ _=>True) (fun (a b:List Int)=>[⟨.bool,a==b⟩])
def anInts(a b:List Int):Ann:=an1 Nat 4 (fun st i=>St.at st [(5,.d I (i:Int))]) (fun i=>i≤a.length∧a.take i=b.take i) (fun i=>a.length - i)
open Go.Vc
def Ev5:Env:={ tys:=[(3,I),(4,.bool),(5,.int .u8),(9,.str),(22,.sl tEv),(24,tTr),(25,.sl I),(27,tErr),(55,tEv),(61,.sl (.sl I)),(60,.ar 5 I),(65,.sl (.ar 5 I))],errT:=53,eqs:=[],els:=[(22,55),(25,3),(61,25),(65,60)] }
theorem Ev5_ok:EnvOk Tryd.prog Ev5:=EnvOk.of_list (by kernel_rfl) (by kernel_rfl) (by kernel_rfl)
def plst(l:List Ev):Nat→List Int×List Int
 | 0=>([],List.replicate 5 0)
 | i+1 =>
   ((plst l i).1++[(if 0≤(l.getD i (0,0,())).2.1 then max ((plst l i).2.getD (l.getD i (0,0,())).1.toNat 0) ((plst l i).1.getD (l.getD i (0,0,())).2.1.toNat 0) else (plst l i).2.getD (l.getD i (0,0,())).1.toNat 0)+1],
    (plst l i).2.set (l.getD i (0,0,())).1.toNat ((if 0≤(l.getD i (0,0,())).2.1 then max ((plst l i).2.getD (l.getD i (0,0,())).1.toNat 0) ((plst l i).1.getD (l.getD i (0,0,())).2.1.toNat 0) else (plst l i).2.getD (l.getD i (0,0,())).1.toNat 0)+1))
def plain(t:Tr):List Int:=if chk t=0 then (plst t.2.1 t.2.1.length).1 else[]
def cPlain:Ctr:=cdet [tTr] (fun _=>True) (fun t=>[⟨.sl I,plain t⟩,⟨tErr,chk t⟩])
def anPlain(t:Tr):Ann :=
 [loopAt 7 Nat [(6,3,I)] (fun st i=>{ St.at st [(18,.d I (i:Int)),(8,.any),(9,.any)] with ob:=(st.ob.set 1 (.var 60 (.ar 5 I) (plst t.2.1 i).2)).set 2 (.row 3 I (plst t.2.1 i).1) }) (fun _ i=>i≤t.2.1.length∧True) (fun i=>t.2.1.length - i)]
open Go.Vc
set_option linter.unusedVariables false
theorem vcPlain(t:Tr)(k:List Dat→Prop):vcF ⟨Ev5,[(7,cCheck)],[],[],[]⟩ (anPlain t) (Tryd.f10.body.getD .skip) Tryd.f10.ntmps [(.tmp 2,.sl I),(.tmp 3,tErr)] [⟨tTr,t⟩] k=(
 True∧((!decide (chk t=(0:Int)))=true→k [Dat.mk (I).sl [],Dat.mk (Ty.err (53:Nat)) (chk t)])∧((!decide (chk t=(0:Int)))=false→(∃ (x:Nat),(x≤t.snd.fst.length∧True)∧(t=t∧([]:List Nat)=[]∧True∧(0:Int)=(0:Int)∧chk t=chk t∧([]:List Nat)=[]∧True∧t=t∧chk t=chk t∧chk t=chk t∧(!decide (chk t=(0:Int))) = !decide (chk t=(0:Int))∧[]++[(1:Nat)]=[]++[(1:Nat)]∧t.snd.fst=t.snd.fst∧(↑(List.length t.snd.fst):Int)=(↑(List.length t.snd.fst):Int)∧(0:Int)=(↑x:Int)∧True)∧(((24:Nat)=(24:Nat)∧t=t)∧((60:Nat)=(60:Nat)∧List.replicate (5:Nat) (0:Int)=(plst t.snd.fst x).snd)∧((3:Nat)=(3:Nat)∧[]=(plst t.snd.fst x).fst)∧True)∧True)∧∀ (x:Nat),x≤t.snd.fst.length∧True→(decide ((↑x:Int)<(↑(List.length t.snd.fst):Int))=true→(0:Int)≤(↑x:Int)∧(↑x:Int)<(↑(List.length t.snd.fst):Int)∧(0:Int)≤(List.getD t.snd.fst (↑x:Int).toNat ((0:Int),(0:Int),())).fst∧(List.getD t.snd.fst (↑x:Int).toNat ((0:Int),(0:Int),())).fst<(↑(5:Nat):Int)∧(decide ((0:Int)≤(List.getD t.snd.fst (↑x:Int).toNat ((0:Int),(0:Int),())).snd.fst)=true→(0:Int)≤(List.getD t.snd.fst (↑x:Int).toNat ((0:Int),(0:Int),())).snd.fst∧(List.getD t.snd.fst (↑x:Int).toNat ((0:Int),(0:Int),())).snd.fst<(↑(plst t.snd.fst x).fst.length:Int)∧inK IntKind.i64 (max ((plst t.snd.fst x).snd.getD (Int.toNat (List.getD t.snd.fst (↑x:Int).toNat ((0:Int),(0:Int),())).fst) (0:Int)) ((plst t.snd.fst x).fst.getD (Int.toNat (List.getD t.snd.fst (↑x:Int).toNat ((0:Int),(0:Int),())).snd.fst) (0:Int))+(1:Int))∧(plst t.snd.fst x).fst.length+((List.replicate (1:Nat) (0:Int)).set (0:Nat) (max ((plst t.snd.fst x).snd.getD (Int.toNat (List.getD t.snd.fst (↑x:Int).toNat ((0:Int),(0:Int),())).fst) (0:Int)) ((plst t.snd.fst x).fst.getD (Int.toNat (List.getD t.snd.fst (↑x:Int).toNat ((0:Int),(0:Int),())).snd.fst) (0:Int))+(1:Int))).length≤(1000000000:Nat)∧inK IntKind.i64 (max ((plst t.snd.fst x).snd.getD (Int.toNat (List.getD t.snd.fst (↑x:Int).toNat ((0:Int),(0:Int),())).fst) (0:Int)) ((plst t.snd.fst x).fst.getD (Int.toNat (List.getD t.snd.fst (↑x:Int).toNat ((0:Int),(0:Int),())).snd.fst) (0:Int))+(1:Int))∧(0:Int)≤(List.getD t.snd.fst (↑x:Int).toNat ((0:Int),(0:Int),())).fst∧(List.getD t.snd.fst (↑x:Int).toNat ((0:Int),(0:Int),())).fst<(↑(5:Nat):Int)∧inK IntKind.i64 ((↑x:Int)+(1:Int))∧∃ (x_1:Nat),(x_1≤t.snd.fst.length∧True)∧t.snd.fst.length - x_1<t.snd.fst.length - x∧(t=t∧([]:List Nat)=[]∧True∧(0:Int)=(0:Int)∧chk t=chk t∧([]:List Nat)=[]∧True∧t=t∧chk t=chk t∧chk t=chk t∧(!decide (chk t=(0:Int))) = !decide (chk t=(0:Int))∧[]++[(1:Nat)]=[]++[(1:Nat)]∧t.snd.fst=t.snd.fst∧(↑(List.length t.snd.fst):Int)=(↑(List.length t.snd.fst):Int)∧(↑x:Int)+(1:Int)=(↑x_1:Int)∧True)∧(((24:Nat)=(24:Nat)∧t=t)∧((60:Nat)=(60:Nat)∧(plst t.snd.fst x).snd.set (Int.toNat (List.getD t.snd.fst (↑x:Int).toNat ((0:Int),(0:Int),())).fst) (max ((plst t.snd.fst x).snd.getD (Int.toNat (List.getD t.snd.fst (↑x:Int).toNat ((0:Int),(0:Int),())).fst) (0:Int)) ((plst t.snd.fst x).fst.getD (Int.toNat (List.getD t.snd.fst (↑x:Int).toNat ((0:Int),(0:Int),())).snd.fst) (0:Int))+(1:Int))=(plst t.snd.fst x_1).snd)∧((3:Nat)=(3:Nat)∧(plst t.snd.fst x).fst.append ((List.replicate (1:Nat) (0:Int)).set (0:Nat) (max ((plst t.snd.fst x).snd.getD (Int.toNat (List.getD t.snd.fst (↑x:Int).toNat ((0:Int),(0:Int),())).fst) (0:Int)) ((plst t.snd.fst x).fst.getD (Int.toNat (List.getD t.snd.fst (↑x:Int).toNat ((0:Int),(0:Int),())).snd.fst) (0:Int))+(1:Int)))=(plst t.snd.fst x_1).fst)∧True)∧True)∧(decide ((0:Int)≤(List.getD t.snd.fst (↑x:Int).toNat ((0:Int),(0:Int),())).snd.fst)=false→inK IntKind.i64 ((plst t.snd.fst x).snd.getD (Int.toNat (List.getD t.snd.fst (↑x:Int).toNat ((0:Int),(0:Int),())).fst) (0:Int)+(1:Int))∧(plst t.snd.fst x).fst.length+((List.replicate (1:Nat) (0:Int)).set (0:Nat) ((plst t.snd.fst x).snd.getD (Int.toNat (List.getD t.snd.fst (↑x:Int).toNat ((0:Int),(0:Int),())).fst) (0:Int)+(1:Int))).length≤(1000000000:Nat)∧inK IntKind.i64 ((plst t.snd.fst x).snd.getD (Int.toNat (List.getD t.snd.fst (↑x:Int).toNat ((0:Int),(0:Int),())).fst) (0:Int)+(1:Int))∧(0:Int)≤(List.getD t.snd.fst (↑x:Int).toNat ((0:Int),(0:Int),())).fst∧(List.getD t.snd.fst (↑x:Int).toNat ((0:Int),(0:Int),())).fst<(↑(5:Nat):Int)∧inK IntKind.i64 ((↑x:Int)+(1:Int))∧∃ (x_1:Nat),(x_1≤t.snd.fst.length∧True)∧t.snd.fst.length - x_1<t.snd.fst.length - x∧(t=t∧([]:List Nat)=[]∧True∧(0:Int)=(0:Int)∧chk t=chk t∧([]:List Nat)=[]∧True∧t=t∧chk t=chk t∧chk t=chk t∧(!decide (chk t=(0:Int))) = !decide (chk t=(0:Int))∧[]++[(1:Nat)]=[]++[(1:Nat)]∧t.snd.fst=t.snd.fst∧(↑(List.length t.snd.fst):Int)=(↑(List.length t.snd.fst):Int)∧(↑x:Int)+(1:Int)=(↑x_1:Int)∧True)∧(((24:Nat)=(24:Nat)∧t=t)∧((60:Nat)=(60:Nat)∧(plst t.snd.fst x).snd.set (Int.toNat (List.getD t.snd.fst (↑x:Int).toNat ((0:Int),(0:Int),())).fst) ((plst t.snd.fst x).snd.getD (Int.toNat (List.getD t.snd.fst (↑x:Int).toNat ((0:Int),(0:Int),())).fst) (0:Int)+(1:Int))=(plst t.snd.fst x_1).snd)∧((3:Nat)=(3:Nat)∧(plst t.snd.fst x).fst.append ((List.replicate (1:Nat) (0:Int)).set (0:Nat) ((plst t.snd.fst x).snd.getD (Int.toNat (List.getD t.snd.fst (↑x:Int).toNat ((0:Int),(0:Int),())).fst) (0:Int)+(1:Int)))=(plst t.snd.fst x_1).fst)∧True)∧True))∧(decide ((↑x:Int)<(↑(List.length t.snd.fst):Int))=false→k [Dat.mk (I).sl (plst t.snd.fst x).fst,Dat.mk (Ty.err (53:Nat)) (0:Int)]))):=by kernel_rfl
open Go.Vc
theorem getD_app{α:Type}(l:List α)(s z:α)(j:Nat):(l++[s]).getD j z=if j=l.length then s else l.getD j z:=by
 rw[List.getD_eq_getElem?_getD,List.getD_eq_getElem?_getD]
 split
 · rename_i h;subst h;simp
 · rename_i h
   by_cases hj:j<l.length
   · rw[List.getElem?_append_left hj]
   · rw[List.getElem?_eq_none (by simp;omega),List.getElem?_eq_none (by omega)]
theorem getD_set'{α:Type}(l:List α)(s z:α)(i j:Nat):(l.set i s).getD j z=if i=j∧i<l.length then s else l.getD j z:=by
 rw[List.getD_eq_getElem?_getD,List.getD_eq_getElem?_getD,List.getElem?_set]
 split
 · rename_i h;subst h
   split
   · rename_i h;rw[if_pos ⟨rfl,h⟩];rfl
   · rename_i h;rw[if_neg (by omega),List.getElem?_eq_none (by omega)]
 · rename_i h;rw[if_neg (by omega)]
open Go.Vc
theorem half_in{q:Int}(h:inK .i64 q):inK .i64 (q.tmod 2)∧inK .i64 (q.tdiv 2):=by
 have h1:=tdiv_in h 0
 have h2:=tdiv_in h 1
 simp only[Int.pow_zero,Int.tdiv_one] at h1
 rw[Int.pow_succ,Int.pow_zero,Int.one_mul] at h2
 exact⟨h1.2,h2.1⟩
theorem okCheck:PlainOk Tryd.prog [] 7 cCheck:=by
 refine plain_of (CxOk.mk' Et_ok rfl mixed (gl:=[]) (GOk.cons okWithin Tryd.func23 (by kernel_rfl) (by kernel_rfl) GOk.nil) GoOk.nil noIt) Tryd.func7 (c:=Tryd.f7.body.getD .skip) (rvs:=[(.tmp 2,tErr)]) (by kernel_rfl) (by kernel_rfl) (by kernel_rfl) ?_
 intro ds k ⟨hp,hk⟩ hwf
 obtain⟨t,rfl,-⟩:=dest1 hp
 revert hk hwf
 revert t
 intro (t:Tr) _ hk hwf
 have hk:k [⟨tErr,chk t⟩]:=hk
 have ht:inK .i64 t.1:=(wf1 hwf).1
 refine⟨anCheck t,?_⟩
 rw[vcCheck]
 have ret:∀ x:Int,chk t=x→k [⟨tErr,x⟩]:=by rintro _ rfl;exact hk
 simp only[decide_eq_true_eq,decide_eq_false_iff_not,and_true,true_and,ne_eq,Bool.not_eq_true',Bool.not_eq_false',Int.toNat_natCast]
 have h10:¬ (1:Int)=0:=by decide
 have h40:¬ (4:Int)=0:=by decide
 have h60:¬ (6:Int)=0:=by decide
 refine⟨fun h=>⟨h10,ret _ (by unfold chk;rw[if_pos h])⟩,fun h=>⟨fun g=>⟨h40,ret _ (by unfold chk;rw[if_neg (by rw[h];decide),if_pos (by omega)])⟩,fun g => ?_⟩⟩
 have hp:1≤t.1∧t.1≤5:=by simpa [inB] using h
 have hlen:t.2.1.length≤24:=by omega
 have hc0:chk t=evsErr t.1 t.2.1 t.2.1.length 0:=by
   unfold chk;rw[if_neg (by rw[h];decide),if_neg (by omega)]
 have hstep:∀ x,x<t.2.1.length→evsErr t.1 t.2.1 (t.2.1.length - x) x=if evErr t.1 t.2.1 x=0 then evsErr t.1 t.2.1 (t.2.1.length - (x+1)) (x+1) else evErr t.1 t.2.1 x:=by
   intro x hx
   rw[show t.2.1.length - x=(t.2.1.length - (x+1))+1 by omega]
   rfl
 refine⟨⟨0,⟨hc0,Nat.zero_le _⟩,rfl⟩,fun x ⟨hx,hxl⟩=>⟨fun hlt => ?_,fun hge=>ret _ ?_⟩⟩
 · have hst:=hstep x (by omega)
   have bad:∀ n,evErr t.1 t.2.1 x=n→n≠0→k [⟨tErr,n⟩]:=fun n h1 h2=>ret n (by rw[hx,hst,if_neg (by rw[h1];exact h2),h1])
   have good:evErr t.1 t.2.1 x=0→inK IntKind.i64 ((x:Int)+1)∧∃ x',(chk t=evsErr t.1 t.2.1 (t.2.1.length - x') x'∧x'≤t.2.1.length)∧t.2.1.length - x'<t.2.1.length - x∧(x:Int)+1=(x':Int):=fun h1 =>
     ⟨inK_i64.2 (by omega),x+1,⟨by rw[hx,hst,if_pos h1],by omega⟩,by omega,by omega⟩
   refine⟨by omega,hlt,inK_i64.2 (by omega),fun h1=>⟨h10,bad 1 ?_ h10⟩,fun h1=>⟨inK_i64.2 (by omega),fun h2=>⟨h10,bad 1 ?_ h10⟩,fun h2=>⟨fun h3=>⟨h3,?_,fun h4=>⟨h60,bad 6 ?_ h60⟩,fun h4=>good ?_⟩,fun h3=>good ?_⟩⟩⟩
   · unfold evErr;rw[if_pos (by rw[h1];rfl)]
   · unfold evErr;rw[if_pos (by rw[h1,h2];rfl)]
   · have:(t.2.1.getD x (0,0,())).2.1≤(x:Int) - 1:=by
       simp only[inB,Bool.and_eq_true,decide_eq_true_eq] at h2;exact h2.2
     omega
   · unfold evErr;rw[if_neg (by rw[h1,h2];decide),if_pos ⟨h3,h4⟩]
   · unfold evErr;rw[if_neg (by rw[h1,h2];decide),if_neg (fun h=>h4 h.2)]
   · unfold evErr;rw[if_neg (by rw[h1,h2];decide),if_neg (fun h=>h3 h.1)]
 · have:x=t.2.1.length:=by omega
   rw[hx,this,Nat.sub_self];rfl
open Go.Vc
set_option linter.unusedVariables false
theorem vcBefore(t:Tr)(k:List Dat→Prop):vcF ⟨Et,[(7,cCheck)],[],[],[]⟩ (anBefore t) (Tryd.f21.body.getD .skip) Tryd.f21.ntmps [(.tmp 2,.sl I),(.tmp 3,tErr)] [⟨tTr,t⟩] k=(
 True∧((!decide (chk t=(0:Int)))=true→k [Dat.mk (I).sl [],Dat.mk (Ty.err (53:Nat)) (chk t)])∧((!decide (chk t=(0:Int)))=false→(0:Int)≤(↑(List.length t.snd.fst):Int)∧(↑(List.length t.snd.fst):Int)≤(↑(List.length t.snd.fst):Int)∧(↑(List.length t.snd.fst):Int)≤(1000000000:Int)∧(∃ (x:Nat),(x≤t.snd.fst.length∧chk t=(0:Int))∧(t=t∧([]:List Nat)=[]∧True∧(0:Int)=(0:Int)∧chk t=chk t∧True∧([]:List Nat)=[]∧t=t∧chk t=chk t∧chk t=chk t∧(!decide (chk t=(0:Int))) = !decide (chk t=(0:Int))∧[]++[(1:Nat)]=[]++[(1:Nat)]∧t.snd.fst=t.snd.fst∧(↑(List.length t.snd.fst):Int)=(↑(List.length t.snd.fst):Int)∧True∧[]++[(1:Nat)]=[]++[(1:Nat)]∧t.snd.fst=t.snd.fst∧(↑(List.length t.snd.fst):Int)=(↑(List.length t.snd.fst):Int)∧(0:Int)=(↑x:Int)∧True)∧(((24:Nat)=(24:Nat)∧t=t)∧((3:Nat)=(3:Nat)∧List.replicate (↑(List.length t.snd.fst):Int).toNat (0:Int)=ints (bst t.snd.fst x).fst)∧((60:Nat)=(60:Nat)∧List.replicate (5:Nat) (0:Int)=ints (bst t.snd.fst x).snd)∧True)∧True)∧∀ (x:Nat),x≤t.snd.fst.length∧chk t=(0:Int)→(decide ((↑x:Int)<(↑(List.length t.snd.fst):Int))=true→(0:Int)≤(↑x:Int)∧(↑x:Int)<(↑(List.length t.snd.fst):Int)∧(0:Int)≤(List.getD t.snd.fst (↑x:Int).toNat ((0:Int),(0:Int),())).fst∧(List.getD t.snd.fst (↑x:Int).toNat ((0:Int),(0:Int),())).fst<(↑(5:Nat):Int)∧(0:Int)≤(↑x:Int)∧(↑x:Int)<(↑(ints (bst t.snd.fst x).fst).length:Int)∧(decide ((0:Int)≤(List.getD t.snd.fst (↑x:Int).toNat ((0:Int),(0:Int),())).snd.fst)=true→(0:Int)≤(↑x:Int)∧(↑x:Int)<(↑((ints (bst t.snd.fst x).fst).set (↑x:Int).toNat ((ints (bst t.snd.fst x).snd).getD (Int.toNat (List.getD t.snd.fst (↑x:Int).toNat ((0:Int),(0:Int),())).fst) (0:Int))).length:Int)∧(0:Int)≤(List.getD t.snd.fst (↑x:Int).toNat ((0:Int),(0:Int),())).snd.fst∧(List.getD t.snd.fst (↑x:Int).toNat ((0:Int),(0:Int),())).snd.fst<(↑((ints (bst t.snd.fst x).fst).set (↑x:Int).toNat ((ints (bst t.snd.fst x).snd).getD (Int.toNat (List.getD t.snd.fst (↑x:Int).toNat ((0:Int),(0:Int),())).fst) (0:Int))).length:Int)∧(0:Int)≤(List.getD t.snd.fst (↑x:Int).toNat ((0:Int),(0:Int),())).snd.fst∧(List.getD t.snd.fst (↑x:Int).toNat ((0:Int),(0:Int),())).snd.fst<(64:Int)∧IntKind.i64.bits=(64:Nat)∧inK IntKind.i64 ((1:Int)*(2:Int) ^ Int.toNat (List.getD t.snd.fst (↑x:Int).toNat ((0:Int),(0:Int),())).snd.fst)∧(0:Int)≤((ints (bst t.snd.fst x).fst).set (↑x:Int).toNat ((ints (bst t.snd.fst x).snd).getD (Int.toNat (List.getD t.snd.fst (↑x:Int).toNat ((0:Int),(0:Int),())).fst) (0:Int))).getD (Int.toNat (List.getD t.snd.fst (↑x:Int).toNat ((0:Int),(0:Int),())).snd.fst) (0:Int)∧(0:Int)≤(1:Int)*(2:Int) ^ Int.toNat (List.getD t.snd.fst (↑x:Int).toNat ((0:Int),(0:Int),())).snd.fst∧(0:Int)≤((ints (bst t.snd.fst x).fst).set (↑x:Int).toNat ((ints (bst t.snd.fst x).snd).getD (Int.toNat (List.getD t.snd.fst (↑x:Int).toNat ((0:Int),(0:Int),())).fst) (0:Int))).getD (↑x:Int).toNat (0:Int)∧(0:Int)≤(↑((((ints (bst t.snd.fst x).fst).set (↑x:Int).toNat ((ints (bst t.snd.fst x).snd).getD (Int.toNat (List.getD t.snd.fst (↑x:Int).toNat ((0:Int),(0:Int),())).fst) (0:Int))).getD (Int.toNat (List.getD t.snd.fst (↑x:Int).toNat ((0:Int),(0:Int),())).snd.fst) (0:Int)).toNat ||| ((1:Int)*(2:Int) ^ Int.toNat (List.getD t.snd.fst (↑x:Int).toNat ((0:Int),(0:Int),())).snd.fst).toNat):Int)∧(0:Int)≤(↑x:Int)∧(↑x:Int)<(↑((ints (bst t.snd.fst x).fst).set (↑x:Int).toNat ((ints (bst t.snd.fst x).snd).getD (Int.toNat (List.getD t.snd.fst (↑x:Int).toNat ((0:Int),(0:Int),())).fst) (0:Int))).length:Int)∧(0:Int)≤(↑x:Int)∧(↑x:Int)<(↑(((ints (bst t.snd.fst x).fst).set (↑x:Int).toNat ((ints (bst t.snd.fst x).snd).getD (Int.toNat (List.getD t.snd.fst (↑x:Int).toNat ((0:Int),(0:Int),())).fst) (0:Int))).set (↑x:Int).toNat (↑((((ints (bst t.snd.fst x).fst).set (↑x:Int).toNat ((ints (bst t.snd.fst x).snd).getD (Int.toNat (List.getD t.snd.fst (↑x:Int).toNat ((0:Int),(0:Int),())).fst) (0:Int))).getD (↑x:Int).toNat (0:Int)).toNat ||| (↑((((ints (bst t.snd.fst x).fst).set (↑x:Int).toNat ((ints (bst t.snd.fst x).snd).getD (Int.toNat (List.getD t.snd.fst (↑x:Int).toNat ((0:Int),(0:Int),())).fst) (0:Int))).getD (Int.toNat (List.getD t.snd.fst (↑x:Int).toNat ((0:Int),(0:Int),())).snd.fst) (0:Int)).toNat ||| ((1:Int)*(2:Int) ^ Int.toNat (List.getD t.snd.fst (↑x:Int).toNat ((0:Int),(0:Int),())).snd.fst).toNat):Int).toNat):Int)).length:Int)∧(0:Int)≤(↑x:Int)∧(↑x:Int)<(64:Int)∧IntKind.i64.bits=(64:Nat)∧inK IntKind.i64 ((1:Int)*(2:Int) ^ (↑x:Int).toNat)∧(0:Int)≤(((ints (bst t.snd.fst x).fst).set (↑x:Int).toNat ((ints (bst t.snd.fst x).snd).getD (Int.toNat (List.getD t.snd.fst (↑x:Int).toNat ((0:Int),(0:Int),())).fst) (0:Int))).set (↑x:Int).toNat (↑((((ints (bst t.snd.fst x).fst).set (↑x:Int).toNat ((ints (bst t.snd.fst x).snd).getD (Int.toNat (List.getD t.snd.fst (↑x:Int).toNat ((0:Int),(0:Int),())).fst) (0:Int))).getD (↑x:Int).toNat (0:Int)).toNat ||| (↑((((ints (bst t.snd.fst x).fst).set (↑x:Int).toNat ((ints (bst t.snd.fst x).snd).getD (Int.toNat (List.getD t.snd.fst (↑x:Int).toNat ((0:Int),(0:Int),())).fst) (0:Int))).getD (Int.toNat (List.getD t.snd.fst (↑x:Int).toNat ((0:Int),(0:Int),())).snd.fst) (0:Int)).toNat ||| ((1:Int)*(2:Int) ^ Int.toNat (List.getD t.snd.fst (↑x:Int).toNat ((0:Int),(0:Int),())).snd.fst).toNat):Int).toNat):Int)).getD (↑x:Int).toNat (0:Int)∧(0:Int)≤(1:Int)*(2:Int) ^ (↑x:Int).toNat∧(0:Int)≤(List.getD t.snd.fst (↑x:Int).toNat ((0:Int),(0:Int),())).fst∧(List.getD t.snd.fst (↑x:Int).toNat ((0:Int),(0:Int),())).fst<(↑(5:Nat):Int)∧inK IntKind.i64 ((↑x:Int)+(1:Int))∧∃ (x_1:Nat),(x_1≤t.snd.fst.length∧chk t=(0:Int))∧t.snd.fst.length - x_1<t.snd.fst.length - x∧(t=t∧([]:List Nat)=[]∧True∧(0:Int)=(0:Int)∧chk t=chk t∧True∧([]:List Nat)=[]∧t=t∧chk t=chk t∧chk t=chk t∧(!decide (chk t=(0:Int))) = !decide (chk t=(0:Int))∧[]++[(1:Nat)]=[]++[(1:Nat)]∧t.snd.fst=t.snd.fst∧(↑(List.length t.snd.fst):Int)=(↑(List.length t.snd.fst):Int)∧True∧[]++[(1:Nat)]=[]++[(1:Nat)]∧t.snd.fst=t.snd.fst∧(↑(List.length t.snd.fst):Int)=(↑(List.length t.snd.fst):Int)∧(↑x:Int)+(1:Int)=(↑x_1:Int)∧True)∧(((24:Nat)=(24:Nat)∧t=t)∧((3:Nat)=(3:Nat)∧((ints (bst t.snd.fst x).fst).set (↑x:Int).toNat ((ints (bst t.snd.fst x).snd).getD (Int.toNat (List.getD t.snd.fst (↑x:Int).toNat ((0:Int),(0:Int),())).fst) (0:Int))).set (↑x:Int).toNat (↑((((ints (bst t.snd.fst x).fst).set (↑x:Int).toNat ((ints (bst t.snd.fst x).snd).getD (Int.toNat (List.getD t.snd.fst (↑x:Int).toNat ((0:Int),(0:Int),())).fst) (0:Int))).getD (↑x:Int).toNat (0:Int)).toNat ||| (↑((((ints (bst t.snd.fst x).fst).set (↑x:Int).toNat ((ints (bst t.snd.fst x).snd).getD (Int.toNat (List.getD t.snd.fst (↑x:Int).toNat ((0:Int),(0:Int),())).fst) (0:Int))).getD (Int.toNat (List.getD t.snd.fst (↑x:Int).toNat ((0:Int),(0:Int),())).snd.fst) (0:Int)).toNat ||| ((1:Int)*(2:Int) ^ Int.toNat (List.getD t.snd.fst (↑x:Int).toNat ((0:Int),(0:Int),())).snd.fst).toNat):Int).toNat):Int)=ints (bst t.snd.fst x_1).fst)∧((60:Nat)=(60:Nat)∧(ints (bst t.snd.fst x).snd).set (Int.toNat (List.getD t.snd.fst (↑x:Int).toNat ((0:Int),(0:Int),())).fst) (↑(((((ints (bst t.snd.fst x).fst).set (↑x:Int).toNat ((ints (bst t.snd.fst x).snd).getD (Int.toNat (List.getD t.snd.fst (↑x:Int).toNat ((0:Int),(0:Int),())).fst) (0:Int))).set (↑x:Int).toNat (↑((((ints (bst t.snd.fst x).fst).set (↑x:Int).toNat ((ints (bst t.snd.fst x).snd).getD (Int.toNat (List.getD t.snd.fst (↑x:Int).toNat ((0:Int),(0:Int),())).fst) (0:Int))).getD (↑x:Int).toNat (0:Int)).toNat ||| (↑((((ints (bst t.snd.fst x).fst).set (↑x:Int).toNat ((ints (bst t.snd.fst x).snd).getD (Int.toNat (List.getD t.snd.fst (↑x:Int).toNat ((0:Int),(0:Int),())).fst) (0:Int))).getD (Int.toNat (List.getD t.snd.fst (↑x:Int).toNat ((0:Int),(0:Int),())).snd.fst) (0:Int)).toNat ||| ((1:Int)*(2:Int) ^ Int.toNat (List.getD t.snd.fst (↑x:Int).toNat ((0:Int),(0:Int),())).snd.fst).toNat):Int).toNat):Int)).getD (↑x:Int).toNat (0:Int)).toNat ||| ((1:Int)*(2:Int) ^ (↑x:Int).toNat).toNat):Int)=ints (bst t.snd.fst x_1).snd)∧True)∧True)∧(decide ((0:Int)≤(List.getD t.snd.fst (↑x:Int).toNat ((0:Int),(0:Int),())).snd.fst)=false→(0:Int)≤(↑x:Int)∧(↑x:Int)<(↑((ints (bst t.snd.fst x).fst).set (↑x:Int).toNat ((ints (bst t.snd.fst x).snd).getD (Int.toNat (List.getD t.snd.fst (↑x:Int).toNat ((0:Int),(0:Int),())).fst) (0:Int))).length:Int)∧(0:Int)≤(↑x:Int)∧(↑x:Int)<(64:Int)∧IntKind.i64.bits=(64:Nat)∧inK IntKind.i64 ((1:Int)*(2:Int) ^ (↑x:Int).toNat)∧(0:Int)≤((ints (bst t.snd.fst x).fst).set (↑x:Int).toNat ((ints (bst t.snd.fst x).snd).getD (Int.toNat (List.getD t.snd.fst (↑x:Int).toNat ((0:Int),(0:Int),())).fst) (0:Int))).getD (↑x:Int).toNat (0:Int)∧(0:Int)≤(1:Int)*(2:Int) ^ (↑x:Int).toNat∧(0:Int)≤(List.getD t.snd.fst (↑x:Int).toNat ((0:Int),(0:Int),())).fst∧(List.getD t.snd.fst (↑x:Int).toNat ((0:Int),(0:Int),())).fst<(↑(5:Nat):Int)∧inK IntKind.i64 ((↑x:Int)+(1:Int))∧∃ (x_1:Nat),(x_1≤t.snd.fst.length∧chk t=(0:Int))∧t.snd.fst.length - x_1<t.snd.fst.length - x∧(t=t∧([]:List Nat)=[]∧True∧(0:Int)=(0:Int)∧chk t=chk t∧True∧([]:List Nat)=[]∧t=t∧chk t=chk t∧chk t=chk t∧(!decide (chk t=(0:Int))) = !decide (chk t=(0:Int))∧[]++[(1:Nat)]=[]++[(1:Nat)]∧t.snd.fst=t.snd.fst∧(↑(List.length t.snd.fst):Int)=(↑(List.length t.snd.fst):Int)∧True∧[]++[(1:Nat)]=[]++[(1:Nat)]∧t.snd.fst=t.snd.fst∧(↑(List.length t.snd.fst):Int)=(↑(List.length t.snd.fst):Int)∧(↑x:Int)+(1:Int)=(↑x_1:Int)∧True)∧(((24:Nat)=(24:Nat)∧t=t)∧((3:Nat)=(3:Nat)∧(ints (bst t.snd.fst x).fst).set (↑x:Int).toNat ((ints (bst t.snd.fst x).snd).getD (Int.toNat (List.getD t.snd.fst (↑x:Int).toNat ((0:Int),(0:Int),())).fst) (0:Int))=ints (bst t.snd.fst x_1).fst)∧((60:Nat)=(60:Nat)∧(ints (bst t.snd.fst x).snd).set (Int.toNat (List.getD t.snd.fst (↑x:Int).toNat ((0:Int),(0:Int),())).fst) (↑((((ints (bst t.snd.fst x).fst).set (↑x:Int).toNat ((ints (bst t.snd.fst x).snd).getD (Int.toNat (List.getD t.snd.fst (↑x:Int).toNat ((0:Int),(0:Int),())).fst) (0:Int))).getD (↑x:Int).toNat (0:Int)).toNat ||| ((1:Int)*(2:Int) ^ (↑x:Int).toNat).toNat):Int)=ints (bst t.snd.fst x_1).snd)∧True)∧True))∧(decide ((↑x:Int)<(↑(List.length t.snd.fst):Int))=false→k [Dat.mk (I).sl (ints (bst t.snd.fst x).fst),Dat.mk (Ty.err (53:Nat)) (0:Int)]))):=by kernel_rfl
open Go.Vc
theorem ints_getD(l:List Nat)(j:Nat):(ints l).getD j (0:Int)=((l.getD j 0:Nat):Int):=by
 simp only[ints,List.getD_eq_getElem?_getD,List.getElem?_map]
 cases l[j]?<;>rfl
theorem ints_set(l:List Nat)(j n:Nat):(ints l).set j (n:Int)=ints (l.set j n):=by simp[ints,List.map_set]
theorem ints_len(l:List Nat):(ints l).length=l.length:=by simp[ints]
theorem ints_rep(n:Nat):List.replicate n (0:Int)=ints (List.replicate n 0):=by simp[ints]
theorem one_shl(n:Nat):(1:Int)*(2:Int) ^ n=((2 ^ n:Nat):Int):=by rw[Int.one_mul,Int.natCast_pow];rfl
structure Good(t:Tr):Prop where
 procs:1≤t.1∧t.1≤5
 len:t.2.1.length≤24
 ev:∀ i,i<t.2.1.length→0≤(t.2.1.getD i (0,0,())).1∧(t.2.1.getD i (0,0,())).1≤t.1 - 1 ∧ -1≤(t.2.1.getD i (0,0,())).2.1∧(t.2.1.getD i (0,0,())).2.1≤(i:Int) - 1 ∧
   (0≤(t.2.1.getD i (0,0,())).2.1→(t.2.1.getD (t.2.1.getD i (0,0,())).2.1.toNat (0,0,())).1≠(t.2.1.getD i (0,0,())).1)
theorem evsErr_zero{p:Int}{l:List Ev}:∀ {f i:Nat},evsErr p l f i=0→∀ j,i≤j→j<i+f→evErr p l j=0:=by
 intro f
 induction f with
 | zero=>intro i _ j h1 h2;omega
 | succ f ih =>
   intro i h j h1 h2
   unfold evsErr at h
   split at h
   · rename_i h0
     by_cases hj:j=i
     · rw[hj];exact h0
     · exact ih h j (by omega) (by omega)
   · rename_i h0;exact absurd h h0
theorem good_of{t:Tr}(h:chk t=0):Good t:=by
 unfold chk at h
 split at h
 · cases h
 · rename_i h1
   split at h
   · cases h
   · rename_i h2
     have hp:1≤t.1∧t.1≤5:=by simpa [inB] using h1
     refine⟨hp,by omega,fun i hi => ?_⟩
     have he:=evsErr_zero h i (Nat.zero_le _) (by omega)
     unfold evErr at he
     split at he
     · cases he
     · rename_i h3
       split at he
       · cases he
       · rename_i h4
         have h3':(0≤(t.2.1.getD i (0,0,())).1∧(t.2.1.getD i (0,0,())).1≤t.1 - 1) ∧ -1≤(t.2.1.getD i (0,0,())).2.1∧(t.2.1.getD i (0,0,())).2.1≤(i:Int) - 1:=by
           simpa only[inB,Bool.not_eq_false,Bool.and_eq_true,decide_eq_true_eq] using h3
         exact⟨h3'.1.1,h3'.1.2,h3'.2.1,h3'.2.2,fun h0 hc=>h4 ⟨h0,hc⟩⟩
theorem bst_len(l:List Ev):∀ i,(bst l i).1.length=l.length∧(bst l i).2.length=5
 | 0=>by simp[bst]
 | i+1=>by
   have:=bst_len l i
   simp[bst,this.1,this.2]
theorem getD_set_self{l:List Nat}{i n:Nat}(h:i<l.length):(l.set i n).getD i 0=n:=by
 simp[List.getD_eq_getElem?_getD,h]
theorem getD_set_ne{l:List Nat}{i j n:Nat}(h:i≠j):(l.set i n).getD j 0=l.getD j 0:=by
 simp[List.getD_eq_getElem?_getD,List.getElem?_set_ne h]
theorem before_vc(t:Tr)(k:List Dat→Prop)(hk:k [⟨.sl I,bef t⟩,⟨tErr,chk t⟩]):vcF ⟨Et,[(7,cCheck)],[],[],[]⟩ (anBefore t) (Tryd.f21.body.getD .skip) Tryd.f21.ntmps [(.tmp 2,.sl I),(.tmp 3,tErr)] [⟨tTr,t⟩] k:=by
 rw[vcBefore]
 simp only[decide_eq_true_eq,decide_eq_false_iff_not,and_true,true_and,Bool.not_eq_true',Bool.not_eq_false',Int.toNat_natCast,one_shl,ints_rep,ints_getD,ints_set,ints_len,List.length_set]
 refine⟨fun h => ?_,fun h => ?_⟩
 · have:bef t=[]:=by unfold bef;rw[if_neg h]
   rw[← this];exact hk
 · have g:=good_of h
   have hl:=g.len
   have hshl:∀ j:Nat,j≤61→inK .i64 ((2 ^ j:Nat):Int):=by
     intro j hj
     have h1:=two_pow_le (n:=j) (by omega)
     have h2:=two_pow_pos j
     have e:((2 ^ j:Nat):Int)=(2:Int) ^ j:=by rw[Int.natCast_pow];rfl
     rw[e,inK_i64]
     omega
   have hN:∀ n:Nat,(0:Int)≤(n:Int):=fun n=>Int.natCast_nonneg n
   have hb0:befN t=(bst t.2.1 t.2.1.length).1:=rfl
   refine⟨by omega,Int.le_refl _,by omega,⟨0,⟨by omega,h⟩,rfl,rfl,rfl⟩,fun x ⟨hx,_⟩=>⟨fun hlt => ?_,fun hge => ?_⟩⟩
   · obtain⟨b1,b2⟩:=bst_len t.2.1 x
     obtain⟨p0,p1,f0,f1,_⟩:=g.ev x (by omega)
     have hpr:=g.procs
     have h5:((5:Nat):Int)=5:=rfl
     refine⟨hN _,hlt,p0,by omega,hN _,by omega,fun h0 => ?_,fun h0 => ?_⟩
     · have hfl:(t.2.1.getD x (0,0,())).2.1.toNat<x:=by omega
       refine⟨hN _,by omega,h0,by omega,h0,by omega,rfl,hshl _ (by omega),hN _,hN _,hN _,hN _,hN _,by omega,hN _,by omega,hN _,by omega,rfl,hshl _ (by omega),hN _,hN _,p0,by omega,inK_i64.2 (by omega),x+1,⟨by omega,h⟩,by omega,by omega,?_,?_⟩
       · rw[List.set_set,getD_set_self (by omega),getD_set_ne (by omega)]
         simp only[bst,if_pos h0]
       · rw[getD_set_self (by rw[List.length_set];omega),getD_set_self (by omega),getD_set_ne (by omega)]
         simp only[bst,if_pos h0]
     · refine⟨hN _,by omega,hN _,by omega,rfl,hshl _ (by omega),hN _,hN _,p0,by omega,inK_i64.2 (by omega),x+1,⟨by omega,h⟩,by omega,by omega,?_,?_⟩
       · simp only[bst,if_neg h0]
       · rw[getD_set_self (by omega)]
         simp only[bst,if_neg h0]
   · have:x=t.2.1.length:=by omega
     rw[this]
     have e:bef t=ints (bst t.2.1 t.2.1.length).1:=by unfold bef;rw[if_pos h,hb0]
     rw[← e]
     rw[h] at hk
     exact hk
theorem okBefore:PlainOk Tryd.prog [] 21 cBefore:=by
 refine plain_of (CxOk.mk' Et_ok rfl mixed (gl:=[]) (GOk.cons okCheck Tryd.func7 (by kernel_rfl) (by kernel_rfl) GOk.nil) GoOk.nil noIt) Tryd.func21 (c:=Tryd.f21.body.getD .skip) (rvs:=[(.tmp 2,.sl I),(.tmp 3,tErr)]) (by kernel_rfl) (by kernel_rfl) (by kernel_rfl) ?_
 intro ds k ⟨hp,hk⟩ hwf
 obtain⟨t,rfl,-⟩:=dest1 hp
 exact⟨anBefore t,before_vc t k hk⟩
open Go.Vc
set_option linter.unusedVariables false
theorem vcInts(a b:List Int)(k:List Dat→Prop):vcF ⟨Et,[],[],[],[]⟩ (anInts a b) (Tryd.f5.body.getD .skip) Tryd.f5.ntmps [(.tmp 4,.bool)] [⟨.sl I,a⟩,⟨.sl I,b⟩] k=(
 ((!decide ((↑a.length:Int)=(↑b.length:Int)))=true→k [Dat.mk Ty.bool false])∧((!decide ((↑a.length:Int)=(↑b.length:Int)))=false→(∃ (x:Nat),(x≤a.length∧List.take x a=List.take x b)∧(a=a∧b=b∧false=false∧(0:Int)=(↑x:Int)∧a=a∧(↑a.length:Int)=(↑a.length:Int)∧b=b∧(↑b.length:Int)=(↑b.length:Int)∧(!decide ((↑a.length:Int)=(↑b.length:Int))) = !decide ((↑a.length:Int)=(↑b.length:Int))∧True)∧True∧True)∧∀ (x:Nat),x≤a.length∧List.take x a=List.take x b→(decide ((↑x:Int)<(↑a.length:Int))=true→(0:Int)≤(↑x:Int)∧(↑x:Int)<(↑a.length:Int)∧(0:Int)≤(↑x:Int)∧(↑x:Int)<(↑b.length:Int)∧((!decide (a.getD (↑x:Int).toNat (0:Int)=b.getD (↑x:Int).toNat (0:Int)))=true→k [Dat.mk Ty.bool false])∧((!decide (a.getD (↑x:Int).toNat (0:Int)=b.getD (↑x:Int).toNat (0:Int)))=false→inK IntKind.i64 ((↑x:Int)+(1:Int))∧∃ (x_1:Nat),(x_1≤a.length∧List.take x_1 a=List.take x_1 b)∧a.length - x_1<a.length - x∧(a=a∧b=b∧false=false∧(↑x:Int)+(1:Int)=(↑x_1:Int)∧a=a∧(↑a.length:Int)=(↑a.length:Int)∧b=b∧(↑b.length:Int)=(↑b.length:Int)∧(!decide ((↑a.length:Int)=(↑b.length:Int))) = !decide ((↑a.length:Int)=(↑b.length:Int))∧True)∧True∧True))∧(decide ((↑x:Int)<(↑a.length:Int))=false→k [Dat.mk Ty.bool true]))):=by kernel_rfl
open Go.Vc
theorem ints_vc(a b:List Int)(k:List Dat→Prop)(hl:a.length≤maxLen)(hk:k [⟨.bool,a==b⟩]):vcF ⟨Et,[],[],[],[]⟩ (anInts a b) (Tryd.f5.body.getD .skip) Tryd.f5.ntmps [(.tmp 4,.bool)] [⟨.sl I,a⟩,⟨.sl I,b⟩] k:=by
 rw[vcInts]
 have hml:maxLen≤9223372036854775807:=by decide
 simp only[decide_eq_true_eq,decide_eq_false_iff_not,and_true,true_and,Bool.not_eq_true',Bool.not_eq_false',Int.toNat_natCast,inK_i64]
 have ret:∀ x:Bool,(a==b)=x→k [⟨.bool,x⟩]:=by rintro _ rfl;exact hk
 refine⟨fun h=>ret _ ?_,fun h=>⟨⟨0,⟨by omega,rfl⟩,rfl⟩,fun x ⟨hx,ht⟩=>⟨fun hlt=>⟨by omega,hlt,by omega,by omega,fun hne=>ret _ ?_,fun he=>⟨by omega,x+1,⟨by omega,?_⟩,by omega,by omega⟩⟩,fun hge=>ret _ ?_⟩⟩⟩
 · simp only[beq_eq_false_iff_ne,ne_eq];intro he;exact h (by rw[he])
 · simp only[beq_eq_false_iff_ne,ne_eq];intro h;exact hne (by rw[h])
 · have h1:x<a.length:=by omega
   have h2:x<b.length:=by omega
   rw[List.take_add_one,List.take_add_one,ht]
   rw[List.getD_eq_getElem?_getD,List.getD_eq_getElem?_getD,List.getElem?_eq_getElem h1,List.getElem?_eq_getElem h2] at he
   rw[List.getElem?_eq_getElem h1,List.getElem?_eq_getElem h2]
   simp only[Option.getD_some] at he
   rw[he]
 · have h1:x=a.length:=by omega
   rw[h1,List.take_length,List.take_of_length_le (by omega)] at ht
   simp[ht]
theorem okInts:PlainOk Tryd.prog [] 5 cInts:=by
 refine plain_of (CxOk.mk' Et_ok rfl mixed (gl:=[]) GOk.nil GoOk.nil noIt) Tryd.func5 (c:=Tryd.f5.body.getD .skip) (rvs:=[(.tmp 4,.bool)]) (by kernel_rfl) (by kernel_rfl) (by kernel_rfl) ?_
 intro ds k ⟨hp,hk⟩ hwf
 obtain⟨a,b,rfl,-⟩:=dest2 hp
 exact⟨anInts a b,ints_vc a b k (wf2 hwf).1.1 hk⟩
open Go.Vc
open Go.Vc
def bB(l:List Ev)(i:Nat):Nat:=(bst l (i+1)).1.getD i 0
def prc(l:List Ev)(i:Nat):Nat:=(l.getD i (0,0,())).1.toNat
def frm(l:List Ev)(i:Nat):Int:=(l.getD i (0,0,())).2.1
theorem bst_keep(l:List Ev){i:Nat}(hi:i<l.length):∀ m,i<m→(bst l m).1.getD i 0=bB l i:=by
 intro m
 induction m with
 | zero=>intro h;omega
 | succ m ih =>
   intro h
   by_cases hm:i=m
   · subst hm;rfl
   · rw[← ih (by omega)]
     simp only[bst]
     rw[getD_set_ne (fun e=>hm e.symm)]
theorem bB_eq(l:List Ev){i:Nat}(hi:i<l.length)(hf:frm l i<(i:Int)) :
   bB l i=if 0≤frm l i then (bst l i).2.getD (prc l i) 0 ||| (bB l (frm l i).toNat ||| 2 ^ (frm l i).toNat) else (bst l i).2.getD (prc l i) 0:=by
 have hl:=(bst_len l i).1
 unfold bB
 simp only[bst]
 rw[getD_set_self (by omega)]
 show (if 0≤frm l i then _ else _)=_
 split
 · rename_i h
   rw[show (bst l i).1.getD (l.getD i (0,0,())).2.1.toNat 0=bB l (frm l i).toNat from bst_keep l (by show (frm l i).toNat<_;omega) i (by show (frm l i).toNat<_;omega)]
   rfl
 · rfl
theorem last_of(l:List Ev)(hp:∀ i,i<l.length→prc l i<5):∀ m,m≤l.length→∀ p,p<5 →
   ((bst l m).2.getD p 0=0∧∀ j,j<m→prc l j≠p)∨∃ j,j<m∧prc l j=p∧(∀ j',j<j'→j'<m→prc l j'≠p)∧(bst l m).2.getD p 0=bB l j ||| 2 ^ j:=by
 intro m
 induction m with
 | zero =>
   intro _ p hp5
   refine .inl ⟨?_,fun j hj=>by omega⟩
   simp only[bst,List.getD_eq_getElem?_getD,List.getElem?_replicate]
   split<;>rfl
 | succ m ih =>
   intro hm p hp5
   have hl:=(bst_len l m)
   have hstep:(bst l (m+1)).2=(bst l m).2.set (prc l m) (bB l m ||| 2 ^ m):=by
     have:bB l m=(if 0≤(l.getD m (0,0,())).2.1 then (bst l m).2.getD (l.getD m (0,0,())).1.toNat 0 ||| ((bst l m).1.getD (l.getD m (0,0,())).2.1.toNat 0 ||| 2 ^ (l.getD m (0,0,())).2.1.toNat) else (bst l m).2.getD (l.getD m (0,0,())).1.toNat 0):=by
       unfold bB
       simp only[bst]
       rw[getD_set_self (by omega)]
     rw[this];rfl
   rw[hstep]
   by_cases h:prc l m=p
   · refine .inr ⟨m,by omega,h,fun j' h1 h2=>by omega,?_⟩
     rw[h,getD_set_self (by omega)]
   · rw[getD_set_ne h]
     rcases ih (by omega) p hp5 with ⟨h1,h2⟩ | ⟨j,h1,h2,h3,h4⟩
     · refine .inl ⟨h1,fun j hj => ?_⟩
       by_cases hjm:j=m
       · rw[hjm];exact h
       · exact h2 j (by omega)
     · refine .inr ⟨j,by omega,h2,fun j' hj1 hj2 => ?_,h4⟩
       by_cases hjm:j'=m
       · rw[hjm];exact h
       · exact h3 j' hj1 (by omega)
def justB(l:List Ev)(i j:Nat):Prop:=j<i∧((prc l j=prc l i∧∀ j',j<j'→j'<i→prc l j'≠prc l i)∨frm l i=(j:Int))
theorem bit_or2{a j k:Nat}:(a ||| 2 ^ j).testBit k=true↔a.testBit k=true∨k=j:=by
 rw[Nat.testBit_or,Nat.testBit_two_pow,Bool.or_eq_true,decide_eq_true_eq]
 exact⟨fun h=>h.imp id Eq.symm,fun h=>h.imp id Eq.symm⟩
theorem bB_bit{l:List Ev}(hp:∀ i,i<l.length→prc l i<5)(hf:∀ i,i<l.length→frm l i<(i:Int)){i:Nat}(hi:i<l.length)(k:Nat) :
   (bB l i).testBit k=true↔∃ j,justB l i j∧((bB l j).testBit k=true∨k=j):=by
 have hlast:=last_of l hp i (by omega) (prc l i) (hp i hi)
 have hbit:((bst l i).2.getD (prc l i) 0).testBit k=true↔∃ j,(j<i∧prc l j=prc l i∧∀ j',j<j'→j'<i→prc l j'≠prc l i)∧((bB l j).testBit k=true∨k=j):=by
   rcases hlast with ⟨h1,h2⟩ | ⟨j,h1,h2,h3,h4⟩
   · rw[h1]
     constructor
     · intro h;simp at h
     · rintro⟨j,⟨h3,h4,_⟩,_⟩;exact absurd h4 (h2 j h3)
   · rw[h4,bit_or2]
     constructor
     · intro h;exact⟨j,⟨h1,h2,h3⟩,h⟩
     · rintro⟨j',⟨k1,k2,k3⟩,h⟩
       have:j'=j:=by
         rcases Nat.lt_trichotomy j' j with h | h | h
         · exact absurd h2 (k3 j h h1)
         · exact h
         · exact absurd k2 (h3 j' h k1)
       rw[this] at h;exact h
 rw[bB_eq l hi (hf i hi)]
 split
 · rename_i h0
   rw[Nat.testBit_or,Bool.or_eq_true,hbit,bit_or2]
   constructor
   · rintro (⟨j,⟨h1,h2,h3⟩,h⟩ | h)
     · exact⟨j,⟨h1,.inl ⟨h2,h3⟩⟩,h⟩
     · exact⟨(frm l i).toNat,⟨by have:=hf i hi;omega,.inr (by omega)⟩,h⟩
   · rintro⟨j,⟨h1,h2 | h2⟩,h⟩
     · exact .inl ⟨j,⟨h1,h2.1,h2.2⟩,h⟩
     · have:(frm l i).toNat=j:=by omega
       rw[this];exact .inr h
 · rename_i h0
   rw[hbit]
   constructor
   · rintro⟨j,⟨h1,h2,h3⟩,h⟩
     exact⟨j,⟨h1,.inl ⟨h2,h3⟩⟩,h⟩
   · rintro⟨j,⟨h1,h2 | h2⟩,h⟩
     · exact⟨j,⟨h1,h2.1,h2.2⟩,h⟩
     · omega
section
variable {l:List Ev} (hp:∀ i,i<l.length→prc l i<5) (hf:∀ i,i<l.length→frm l i<(i:Int))
include hp hf
theorem bB_less{i:Nat}(hi:i<l.length){k:Nat}(h:(bB l i).testBit k=true):k<i:=by
 induction i using Nat.strongRecOn with
 | _ i ih =>
   obtain⟨j,hj,h⟩:=(bB_bit hp hf hi k).1 h
   rcases h with h | h
   · have:=ih j hj.1 (by have:=hj.1;omega) h
     have:=hj.1;omega
   · have:=hj.1;omega
theorem bB_must{i j:Nat}(hi:i<l.length)(hj:j<i)(h:prc l j=prc l i∨frm l i=(j:Int)):(bB l i).testBit j=true:=by
 rcases h with h | h
 ·
   have key:∀ d j,i - j=d→j<i→prc l j=prc l i→(bB l i).testBit j=true:=by
     intro d
     induction d using Nat.strongRecOn with
     | _ d ihd =>
       intro j hd hj h
       by_cases hc:∃ j',j<j'∧j'<i∧prc l j'=prc l i
       · obtain⟨j1,h1,h2,h3⟩:=hc
         -- the first one behind j: take any;by induction on i inside
         have hb1:=ihd (i - j1) (by omega) j1 rfl h2 h3
         have hin:(bB l j1).testBit j=true:=by
           have:∀ i',i'<i→j<i'→i'<l.length→prc l j=prc l i'→(bB l i').testBit j=true:=by
             intro i'
             induction i' using Nat.strongRecOn with
             | _ i' ih' =>
               intro a1 a2 a3 a4
               by_cases hc':∃ j',j<j'∧j'<i'∧prc l j'=prc l i'∧∀ j'',j'<j''→j''<i'→prc l j''≠prc l i'
               · obtain⟨j2,b1,b2,b3,b4⟩:=hc'
                 refine (bB_bit hp hf a3 j).2 ⟨j2,⟨b2,.inl ⟨b3,b4⟩⟩,.inl (ih' j2 b2 (by omega) b1 (by omega) (by rw[b3];exact a4))⟩
               · refine (bB_bit hp hf a3 j).2 ⟨j,⟨a2,.inl ⟨a4,?_⟩⟩,.inr rfl⟩
                 intro j' c1 c2 c3
                 -- then there is a last one
                 have:∃ j',j<j'∧j'<i'∧prc l j'=prc l i'∧∀ j'',j'<j''→j''<i'→prc l j''≠prc l i':=by
                   have hmax:∀ d j',i' - j'=d→j<j'→j'<i'→prc l j'=prc l i'→∃ j',j<j'∧j'<i'∧prc l j'=prc l i'∧∀ j'',j'<j''→j''<i'→prc l j''≠prc l i':=by
                     intro d
                     induction d using Nat.strongRecOn with
                     | _ d ihm =>
                       intro j' e0 e1 e2 e3
                       by_cases hx:∃ j'',j'<j''∧j''<i'∧prc l j''=prc l i'
                       · obtain⟨j'',f1,f2,f3⟩:=hx
                         exact ihm (i' - j'') (by omega) j'' rfl (by omega) f2 f3
                       · exact⟨j',e1,e2,e3,fun j'' g1 g2 g3=>hx ⟨j'',g1,g2,g3⟩⟩
                   exact hmax _ j' rfl c1 c2 c3
                 exact hc' this
           exact this j1 h2 h1 (by omega) (by rw[h,h3])
         have trans:∀ i',i'≤i→i'<l.length→∀ k m,(bB l i').testBit k=true→(bB l k).testBit m=true→(bB l i').testBit m=true:=by
           intro i'
           induction i' using Nat.strongRecOn with
           | _ i' ih' =>
             intro a1 a2 k m hk hm
             obtain⟨q,hq,hk'⟩:=(bB_bit hp hf a2 k).1 hk
             rcases hk' with hk' | hk'
             · exact (bB_bit hp hf a2 m).2 ⟨q,hq,.inl (ih' q hq.1 (by have:=hq.1;omega) (by have:=hq.1;omega) k m hk' hm)⟩
             · subst hk'
               exact (bB_bit hp hf a2 m).2 ⟨k,hq,.inl hm⟩
         exact trans i (Nat.le_refl _) hi j1 j hb1 hin
       · exact (bB_bit hp hf hi j).2 ⟨j,⟨hj,.inl ⟨h,fun j' h1 h2 h3=>hc ⟨j',h1,h2,h3⟩⟩⟩,.inr rfl⟩
   exact key _ j rfl hj h
 · exact (bB_bit hp hf hi j).2 ⟨j,⟨hj,.inr h⟩,.inr rfl⟩
theorem bB_trans{i:Nat}(hi:i<l.length){k m:Nat}(hk:(bB l i).testBit k=true)(hm:(bB l k).testBit m=true):(bB l i).testBit m=true:=by
 induction i using Nat.strongRecOn with
 | _ i ih =>
   obtain⟨q,hq,hk'⟩:=(bB_bit hp hf hi k).1 hk
   rcases hk' with hk' | hk'
   · exact (bB_bit hp hf hi m).2 ⟨q,hq,.inl (ih q hq.1 (by have:=hq.1;omega) hk')⟩
   · subst hk'
     exact (bB_bit hp hf hi m).2 ⟨k,hq,.inl hm⟩
end
open Go.Vc
theorem bitB_nat(a k:Nat):bitB (a:Int) (k:Int)=a.testBit k:=by
 unfold bitB
 simp
open Go.Vc
theorem good_prc{t:Tr}(g:Good t):∀ i,i<t.2.1.length→prc t.2.1 i<5:=by
 intro i hi
 have:=g.ev i hi
 have:=g.procs
 unfold prc
 omega
theorem good_frm{t:Tr}(g:Good t):∀ i,i<t.2.1.length→frm t.2.1 i<(i:Int):=by
 intro i hi
 have:=g.ev i hi
 unfold frm
 omega
theorem prc_eq{t:Tr}(g:Good t){i j:Nat}(hi:i<t.2.1.length)(hj:j<t.2.1.length):prc t.2.1 j=prc t.2.1 i↔(t.2.1.getD j (0,0,())).1=(t.2.1.getD i (0,0,())).1:=by
 have h1:=g.ev i hi
 have h2:=g.ev j hj
 unfold prc
 omega
theorem befN_at{t:Tr}{i:Nat}(hi:i<t.2.1.length):(befN t).getD i 0=bB t.2.1 i:=bst_keep t.2.1 hi t.2.1.length hi
theorem bef_at{t:Tr}(h:chk t=0){i:Nat}(hi:i<t.2.1.length):(bef t).getD i (0:Int)=((bB t.2.1 i:Nat):Int):=by
 unfold bef
 rw[if_pos h,ints_getD,befN_at hi]
theorem bef_len{t:Tr}(h:chk t=0):(bef t).length=t.2.1.length:=by
 unfold bef
 rw[if_pos h,ints_len]
 exact (bst_len _ _).1
open Go.Vc
theorem plst_len(l:List Ev):∀ i,(plst l i).1.length=i∧(plst l i).2.length=5
 | 0=>⟨rfl,rfl⟩
 | i+1=>by
   obtain⟨h1,h2⟩:=plst_len l i
   simp only[plst,List.length_append,List.length_cons,List.length_nil,List.length_set]
   exact⟨by omega,h2⟩
theorem plst_bd(l:List Ev):∀ i j,(0≤(plst l i).1.getD j 0∧(plst l i).1.getD j 0≤(i:Int))∧(0≤(plst l i).2.getD j 0∧(plst l i).2.getD j 0≤(i:Int))
 | 0,j=>by
   refine⟨⟨by simp[plst],by simp[plst]⟩,?_⟩
   simp only[plst,List.getD_eq_getElem?_getD,List.getElem?_replicate]
   split<;>simp
 | i+1,j=>by
   have ih:=plst_bd l i
   have h1:=ih (l.getD i (0,0,())).1.toNat
   have h2:=ih (l.getD i (0,0,())).2.1.toNat
   have h3:=ih j
   simp only[plst,getD_app,getD_set']
   refine⟨?_,?_⟩
   · split
     · split<;>omega
     · omega
   · split
     · split<;>omega
     · omega
theorem plain_vc(t:Tr)(k:List Dat→Prop)(hk:k [⟨.sl I,plain t⟩,⟨tErr,chk t⟩]):vcF ⟨Ev5,[(7,cCheck)],[],[],[]⟩ (anPlain t) (Tryd.f10.body.getD .skip) Tryd.f10.ntmps [(.tmp 2,.sl I),(.tmp 3,tErr)] [⟨tTr,t⟩] k:=by
 rw[vcPlain]
 simp only[decide_eq_true_eq,decide_eq_false_iff_not,and_true,true_and,Bool.not_eq_true',Bool.not_eq_false',Int.toNat_natCast,eq_self,inK_i64,List.replicate,List.set_cons_zero,List.length_cons,List.length_nil]
 refine⟨fun h => ?_,fun h=>⟨⟨0,Nat.zero_le _,rfl,rfl,rfl⟩,fun x hx=>⟨fun hlt => ?_,fun hge => ?_⟩⟩⟩
 · have:plain t=[]:=by unfold plain;rw[if_neg h]
   rw[← this];exact hk
 · have g:=good_of h
   have hlen:=g.len
   have hpr:=g.procs
   have hxl:x<t.2.1.length:=by omega
   obtain⟨p0,p1,f0,f1,_⟩:=g.ev x hxl
   obtain⟨l1,l2⟩:=plst_len t.2.1 x
   have b1:=plst_bd t.2.1 x (t.2.1.getD x (0,0,())).1.toNat
   have b2:=plst_bd t.2.1 x (t.2.1.getD x (0,0,())).2.1.toNat
   refine⟨by omega,hlt,p0,by omega,fun hf => ?_,fun hf => ?_⟩
   · refine⟨hf,by omega,by omega,by omega,by omega,p0,by omega,by omega,x+1,by omega,by omega,by omega,?_,?_⟩
     · simp only[plst,if_pos hf]
     · simp only[plst,if_pos hf];rfl
   · refine⟨by omega,by omega,by omega,p0,by omega,by omega,x+1,by omega,by omega,by omega,?_,?_⟩
     · simp only[plst,if_neg hf]
     · simp only[plst,if_neg hf];rfl
 · have hy2:x=t.2.1.length:=by omega
   subst hy2
   have:plain t=(plst t.2.1 t.2.1.length).1:=by unfold plain;rw[if_pos h]
   rw[← this]
   rw[h] at hk
   exact hk
theorem okPlain:PlainOk Tryd.prog [] 10 cPlain:=by
 refine plain_of (CxOk.mk' Ev5_ok (by kernel_rfl) mixed (gl:=[]) (GOk.cons okCheck Tryd.func7 (by kernel_rfl) (by kernel_rfl) GOk.nil) GoOk.nil noIt) Tryd.func10 (c:=Tryd.f10.body.getD .skip) (rvs:=[(.tmp 2,.sl I),(.tmp 3,tErr)]) (by kernel_rfl) (by kernel_rfl) (by kernel_rfl) ?_
 intro ds k ⟨hp,hk⟩ hwf
 obtain⟨t,rfl,-⟩:=dest1 hp
 exact⟨anPlain t,plain_vc t k hk⟩
def Vok(n:Nat)(v:List Int):Prop:=v.length=5∧∀ q,0≤v.getD q 0∧v.getD q 0≤(n:Int)
theorem Vok.mono{n:Nat}{v:List Int}(hv:Vok n v):Vok (n+1) v:=⟨hv.1,fun q=>by have:=hv.2 q;omega⟩
theorem getD_any{α:Type}{l:List α}{i:Nat}{a b:α}(h:i<l.length):l.getD i a=l.getD i b:=by
 rw[List.getD_eq_getElem?_getD,List.getD_eq_getElem?_getD,List.getElem?_eq_getElem h];rfl
open Go.Vc
theorem last_gen{α:Type}(l:List Ev)(z z0:α)(val:Nat→α)(st:Nat→List α)(hp:∀ i,i<l.length→prc l i<5)(hl:∀ m,(st m).length=5)
   (h0:∀ p,p<5→(st 0).getD p z=z0) (hs:∀ m,st (m+1)=(st m).set (prc l m) (val m)):∀ m,m≤l.length→∀ p,p<5 →
   ((st m).getD p z=z0∧∀ j,j<m→prc l j≠p)∨∃ j,j<m∧prc l j=p∧(∀ j',j<j'→j'<m→prc l j'≠p)∧(st m).getD p z=val j:=by
 intro m
 induction m with
 | zero=>exact fun _ p hp5 => .inl ⟨h0 p hp5,fun j hj=>by omega⟩
 | succ m ih =>
   intro hm p hp5
   rw[hs,getD_set',hl]
   by_cases h:prc l m=p
   · rw[if_pos ⟨h,by rw[h];exact hp5⟩]
     exact .inr ⟨m,by omega,h,fun j' h1 h2=>by omega,rfl⟩
   · rw[if_neg (fun e=>h e.1)]
     rcases ih (by omega) p hp5 with ⟨h1,h2⟩ | ⟨j,h1,h2,h3,h4⟩
     · refine .inl ⟨h1,fun j hj => ?_⟩
       by_cases hjm:j=m
       · rw[hjm];exact h
       · exact h2 j (by omega)
     · refine .inr ⟨j,by omega,h2,fun j' hj1 hj2 => ?_,h4⟩
       by_cases hjm:j'=m
       · rw[hjm];exact h
       · exact h3 j' hj1 (by omega)
theorem keep_gen{α:Type}(z:α)(val:Nat→α)(st:Nat→List α)(hl:∀ m,(st m).length=m)(hs:∀ m,st (m+1)=st m++[val m]){i:Nat}:∀ m,i<m→(st m).getD i z=val i:=by
 intro m
 induction m with
 | zero=>intro h;omega
 | succ m ih =>
   intro h
   rw[hs,getD_app,hl]
   by_cases hm:i=m
   · rw[if_pos hm,hm]
   · rw[if_neg hm];exact ih (by omega)
def pl(l:List Ev)(i:Nat):Int:=(if 0≤frm l i then max ((plst l i).2.getD (prc l i) 0) ((plst l i).1.getD (frm l i).toNat 0) else (plst l i).2.getD (prc l i) 0)+1
theorem plst_succ(l:List Ev)(i:Nat):plst l (i+1)=((plst l i).1++[pl l i],(plst l i).2.set (prc l i) (pl l i)):=rfl
theorem pl_keep(l:List Ev){i m:Nat}(h:i<m):(plst l m).1.getD i 0=pl l i :=
 keep_gen 0 (pl l) (fun m=>(plst l m).1) (fun m=>(plst_len l m).1) (fun m=>by rw[plst_succ]) m h
theorem pl_rec{l:List Ev}(hp:∀ i,i<l.length→prc l i<5)(hf:∀ i,i<l.length→frm l i<(i:Int)){i:Nat}(hi:i<l.length) :
   ∃ a b,pl l i=max a b+1∧(a=0∨∃ j,justB l i j∧a=pl l j)∧(b=0∨∃ j,justB l i j∧b=pl l j)∧∀ j,justB l i j→a=pl l j∨b=pl l j:=by
 have hlast:=last_gen l (0:Int) 0 (pl l) (fun m=>(plst l m).2) hp (fun m=>(plst_len l m).2) (fun p hp5=>by
   show (List.replicate 5 (0:Int)).getD p 0=0
   rw[List.getD_eq_getElem?_getD,List.getElem?_replicate,if_pos hp5];rfl) (fun m=>by rw[plst_succ]) i (by omega) (prc l i) (hp i hi)
 have hb:=(plst_bd l i (prc l i)).2
 refine⟨(plst l i).2.getD (prc l i) 0,if 0≤frm l i then (plst l i).1.getD (frm l i).toNat 0 else 0,?_,?_,?_,?_⟩
 · unfold pl
   split
   · rfl
   · congr 1;omega
 · rcases hlast with ⟨h1,_⟩ | ⟨j,h1,h2,h3,h4⟩
   · exact .inl h1
   · exact .inr ⟨j,⟨h1,.inl ⟨h2,h3⟩⟩,h4⟩
 · split
   · rename_i h0
     have:=hf i hi
     exact .inr ⟨(frm l i).toNat,⟨by omega,.inr (by omega)⟩,pl_keep l (by omega)⟩
   · exact .inl rfl
 · intro j hj
   rcases hj with ⟨hji,⟨h1,h2⟩ | h1⟩
   · left
     rcases hlast with ⟨_,k2⟩ | ⟨j',k1,k2,k3,k4⟩
     · exact absurd h1 (k2 j hji)
     · have:j=j':=by
         rcases Nat.lt_trichotomy j j' with h | h | h
         · exact absurd k2 (h2 j' h k1)
         · exact h
         · exact absurd h1 (k3 j h hji)
       rw[this];exact k4
   · right
     rw[if_pos (by omega),show (frm l i).toNat=j by omega]
     exact pl_keep l hji
theorem pl_pos(l:List Ev)(i:Nat):1≤pl l i:=by
 have h1:=(plst_bd l i (prc l i)).2
 unfold pl
 split<;>omega
theorem pl_le(l:List Ev)(i:Nat):pl l i≤(i:Int)+1:=by
 have h1:=(plst_bd l i (prc l i)).2
 have h2:=(plst_bd l i (frm l i).toNat).1
 unfold pl
 split<;>omega
theorem pl_less{l:List Ev}(hp:∀ i,i<l.length→prc l i<5)(hf:∀ i,i<l.length→frm l i<(i:Int)){i:Nat}(hi:i<l.length){k:Nat}(hk:(bB l i).testBit k=true):pl l k<pl l i:=by
 induction i using Nat.strongRecOn with
 | _ i ih =>
   obtain⟨a,b,hS,c1,c2,hall⟩:=pl_rec hp hf hi
   clear c1 c2
   obtain⟨j,hj,hkj⟩:=(bB_bit hp hf hi k).1 hk
   have hji:=hj.1
   have h1:pl l j<pl l i:=by
     rcases hall j hj with h | h<;>omega
   rcases hkj with h | h
   · have:=ih j hji (by omega) h
     omega
   · rw[h];exact h1
theorem pl_near{l:List Ev}(hp:∀ i,i<l.length→prc l i<5)(hf:∀ i,i<l.length→frm l i<(i:Int)){i:Nat}(hi:i<l.length) :
   (∃ k,(bB l i).testBit k=true∧pl l k+1=pl l i)∨(pl l i=1∧bB l i=0):=by
 obtain⟨a,b,hS,ha,hb,hall⟩:=pl_rec hp hf hi
 have bit:∀ j,justB l i j→(bB l i).testBit j=true:=fun j hj=>(bB_bit hp hf hi j).2 ⟨j,hj,.inr rfl⟩
 have zero:a=0→b=0→pl l i=1∧bB l i=0:=by
   clear ha hb
   intro h1 h2
   refine⟨by omega,Nat.eq_of_testBit_eq fun k => ?_⟩
   rw[Nat.zero_testBit]
   cases hq:(bB l i).testBit k with
   | false=>rfl
   | true =>
     obtain⟨j,hj,_⟩:=(bB_bit hp hf hi k).1 hq
     have:=pl_pos l j
     rcases hall j hj with h | h<;>omega
 rcases ha with ha | ⟨j,hj,ha⟩<;>rcases hb with hb | ⟨j',hj',hb⟩
 · exact .inr (zero ha hb)
 · have:=pl_pos l j'
   exact .inl ⟨j',bit j' hj',by omega⟩
 · have:=pl_pos l j
   exact .inl ⟨j,bit j hj,by omega⟩
 · by_cases h:a≤b
   · exact .inl ⟨j',bit j' hj',by omega⟩
   · exact .inl ⟨j,bit j hj,by omega⟩
open Go.Vc
def Em:Env:={ tys:=[(3,I),(4,.bool),(5,.int .u8),(22,.sl tEv),(24,tTr),(27,tErr),(25,.sl I),(55,tEv),(60,.ar 5 I)],errT:=53,eqs:=[55],els:=[(22,55),(25,3)] }
theorem Em_ok:EnvOk Tryd.prog Em:=EnvOk.of_list (by kernel_rfl) (by kernel_rfl) (by kernel_rfl)
open Go.Vc
theorem good_prc'{t:Tr}(g:Good t):∀ i,i<t.2.1.length→prc t.2.1 i<5:=by
 intro i hi
 have:=g.ev i hi
 have:=g.procs
 unfold prc
 omega
theorem good_frm'{t:Tr}(g:Good t):∀ i,i<t.2.1.length→frm t.2.1 i<(i:Int):=by
 intro i hi
 have:=(g.ev i hi).2.2.2.1
 show (t.2.1.getD i (0,0,())).2.1<_
 omega
open Go.Vc
abbrev tSt:Ty := .pr I (.pr I .un)
abbrev Stp:=Int×Int×Unit
def Eh:Env:={ tys:=[(3,.int .i64),(4,.bool),(5,.int .u8),(9,.str),(22,.sl (.pr I (.pr I .un))),(24,.pr I (.pr (.sl (.pr I (.pr I .un))) .un)),(25,.sl I),(27,.err 53),(55,.pr I (.pr I .un)),(41,.sl (.pr I (.pr I .un))),(47,.pr I (.pr I .un)),(60,.ar 5 I),(76,.ar 5 (.pr I (.pr I .un)))],errT:=53,eqs:=[47],els:=[(22,55),(25,3),(41,47)] }
theorem Eh_ok:EnvOk Tryd.prog Eh:=EnvOk.of_list (by kernel_rfl) (by kernel_rfl) (by kernel_rfl)
def timeB(n:Int):Bool:=inB n 0 1000000
def hchk(t:Tr)(ts:List Int):Int:=if chk t=0 then (if ts.length=t.2.1.length then (if ts.all timeB then 0 else 1) else 3) else chk t
def cHChk:Ctr:=cdet [tTr,.sl I] (fun _ _=>True) (fun t ts=>[⟨tErr,hchk t ts⟩])
def small(n:Int):Prop:=0≤n∧n≤1000
def nextS(a b:Stp)(now:Int):Stp :=
 (max (max a.1 b.1) now,
  if max (max a.1 b.1) now=b.1 then max (if max (max a.1 b.1) now=a.1 then a.2.1+1 else 0) (b.2.1+1) else if max (max a.1 b.1) now=a.1 then a.2.1+1 else 0,())
def cNext:Ctr:=cdet [tSt,tSt,I] (fun (a b:Stp) _=>small a.2.1∧small b.2.1∧True) (fun a b (n:Int)=>[⟨tSt,nextS a b n⟩])
def noS:Stp:=(-1,0,())
def sst(l:List Ev)(ts:List Int):Nat→List Stp×List Stp
 | 0=>([],List.replicate 5 noS)
 | i+1 =>
   ((sst l ts i).1++[nextS ((sst l ts i).2.getD (l.getD i (0,0,())).1.toNat (0,0,())) (if 0≤(l.getD i (0,0,())).2.1 then (sst l ts i).1.getD (l.getD i (0,0,())).2.1.toNat (0,0,()) else noS) (ts.getD i 0)],
    (sst l ts i).2.set (l.getD i (0,0,())).1.toNat (nextS ((sst l ts i).2.getD (l.getD i (0,0,())).1.toNat (0,0,())) (if 0≤(l.getD i (0,0,())).2.1 then (sst l ts i).1.getD (l.getD i (0,0,())).2.1.toNat (0,0,()) else noS) (ts.getD i 0)))
def stamps(t:Tr)(ts:List Int):List Stp:=if hchk t ts=0 then (sst t.2.1 ts t.2.1.length).1 else[]
def cStamps:Ctr:=cdet [tTr,.sl I] (fun _ _=>True) (fun t ts=>[⟨.sl tSt,stamps t ts⟩,⟨tErr,hchk t ts⟩])
def anHChk(t:Tr)(ts:List Int):Ann:=an1 Nat 7 (fun st i=>St.at st [(22,.d I (i:Int)),(7,.any)]) (fun i=>i≤ts.length∧(ts.take i).all timeB=true) (fun i=>ts.length - i)
def anStamps(t:Tr)(ts:List Int):Ann :=
 [loopAt 6 Nat [] (fun st i=>{ St.at st [(19,.d I (i:Int)),(8,.any)] with ob:=st.ob.set 1 (.var 76 (.ar 5 tSt) (List.replicate i noS++List.replicate (5 - i) (0,0,()))) }) (fun _ i=>i≤5∧True) (fun i=>5 - i),
  loopAt 12 Nat [(9,47,tSt)] (fun st i=>{ St.at st [(29,.d I (i:Int)),(10,.any),(11,.any),(12,.any)] with ob:=(st.ob.set 1 (.var 76 (.ar 5 tSt) (sst t.2.1 ts i).2)).set 2 (.row 47 tSt (sst t.2.1 ts i).1) }) (fun _ i=>i≤t.2.1.length∧True) (fun i=>t.2.1.length - i)]
open Go.Vc
def lessB(a b:Stp):Bool:=decide (a.1<b.1)||decide (a.1=b.1)&&decide (a.2.1<b.2.1)
def cLess:Ctr:=cdet [tSt,tSt] (fun _ _=>True) (fun a b=>[⟨.bool,lessB a b⟩])
def popN:Nat→Nat→Nat
 | 0,_=>0
 | f+1,a=>if a=0 then 0 else a%2+popN f (a/2)
def pop(a:Int):Int:=((popN a.toNat a.toNat:Nat):Int)
def cMany:Ctr:=cdet [I] (fun _=>True) (fun a=>[⟨I,pop a⟩])
def anMany(a:Int):Ann:=an1 (Int×Int) 2 (fun st x=>St.at st [(0,.d I x.1),(3,.d I x.2)]) (fun x=>pop a=pop x.1+x.2∧0≤x.2∧inK .i64 x.1) (fun x=>x.1.toNat)
open Go.Vc
def aft(l:List Ev)(m j:Nat):Nat:=(List.range m).foldl (fun s i=>if (bB l i).testBit j=true then s ||| 2 ^ i else s) 0
theorem aft_succ(l:List Ev)(m j:Nat):aft l (m+1) j=if (bB l m).testBit j=true then aft l m j ||| 2 ^ m else aft l m j:=by
 unfold aft
 rw[List.range_succ,List.foldl_append];rfl
theorem aft_bit(l:List Ev)(j i:Nat):∀ m,(aft l m j).testBit i=true↔i<m∧(bB l i).testBit j=true:=by
 intro m
 induction m with
 | zero=>exact⟨fun h=>absurd h (by unfold aft;rw[List.range_zero,List.foldl_nil,Nat.zero_testBit];decide),fun h=>absurd h.1 (by omega)⟩
 | succ m ih =>
   rw[aft_succ]
   split
   · rename_i hb
     rw[bit_or2,ih]
     constructor
     · rintro (h | rfl)
       · exact⟨by omega,h.2⟩
       · exact⟨by omega,hb⟩
     · rintro⟨h1,h2⟩
       by_cases e:i=m
       · exact .inr e
       · exact .inl ⟨by omega,h2⟩
   · rename_i hb
     rw[ih]
     refine⟨fun h=>⟨by omega,h.2⟩,fun h=>⟨?_,h.2⟩⟩
     by_cases e:i=m
     · rw[e] at h;exact absurd h.2 hb
     · omega
theorem aft_lt(l:List Ev)(m j:Nat):aft l m j<2 ^ m:=by
 refine Nat.lt_pow_two_of_testBit _ fun i hi => ?_
 cases h:(aft l m j).testBit i with
 | false=>rfl
 | true=>have:=((aft_bit l j i m).1 h).1;omega
def aftL(l:List Ev):List Nat:=(List.range l.length).map (aft l l.length)
theorem aftL_len(l:List Ev):(aftL l).length=l.length:=by simp[aftL]
theorem aftL_at{l:List Ev}{j:Nat}(h:j<l.length):(aftL l).getD j 0=aft l l.length j:=by
 unfold aftL
 rw[List.getD_eq_getElem?_getD,List.getElem?_map,List.getElem?_range h];rfl
def clStep(k:Nat)(out:List Nat)(i:Nat):List Nat:=if (out.getD i 0).testBit k=true then out.set i (out.getD i 0 ||| out.getD k 0) else out
def clRow(n k:Nat)(out:List Nat):List Nat:=(List.range n).foldl (clStep k) out
def clL(l:List Nat):List Nat:=(List.range l.length).foldl (fun out k=>clRow l.length k out) l
theorem set_self{l:List Nat}{i:Nat}:l.set i (l.getD i 0)=l:=by
 refine List.ext_getElem (by rw[List.length_set]) fun j h1 h2 => ?_
 rw[List.getElem_set]
 split
 · rename_i e;subst e;rw[List.getD_eq_getElem?_getD,List.getElem?_eq_getElem h2];rfl
 · rfl
def trP(l:List Nat):Prop:=∀ i k j,(l.getD i 0).testBit k=true→(l.getD k 0).testBit j=true→(l.getD i 0).testBit j=true
theorem clStep_id{l:List Nat}(h:trP l)(k i:Nat):clStep k l i=l:=by
 unfold clStep
 split
 · rename_i hb
   have e:l.getD i 0 ||| l.getD k 0=l.getD i 0:=Nat.eq_of_testBit_eq fun j=>by
     rw[Nat.testBit_or]
     cases h1:(l.getD i 0).testBit j with
     | true=>rfl
     | false =>
       cases h2:(l.getD k 0).testBit j with
       | false=>rfl
       | true=>rw[h i k j hb h2] at h1;cases h1
   rw[e,set_self]
 · rfl
theorem clRow_id{l:List Nat}(h:trP l)(k:Nat):∀ n,clRow n k l=l:=by
 intro n
 induction n with
 | zero=>rfl
 | succ n ih =>
   unfold clRow at ih ⊢
   rw[List.range_succ,List.foldl_append,ih]
   exact clStep_id h k n
theorem clL_id{l:List Nat}(h:trP l):clL l=l:=by
 unfold clL
 generalize l.length=m
 suffices H:∀ n,(List.range n).foldl (fun out k=>clRow m k out) l=l from H m
 intro n
 induction n with
 | zero=>rfl
 | succ n ih=>rw[List.range_succ,List.foldl_append,ih];exact clRow_id h n m
theorem aft_tr{t:Tr}(g:Good t):trP (aftL t.2.1):=by
 intro i k j h1 h2
 have lt:∀ a b,((aftL t.2.1).getD a 0).testBit b=true→a<t.2.1.length:=fun a b h=>by
   refine Nat.lt_of_not_le fun hle => ?_
   rw[List.getD_eq_getElem?_getD,List.getElem?_eq_none (by rw[aftL_len];exact hle),Option.getD_none,Nat.zero_testBit] at h
   cases h
 have hi:=lt _ _ h1
 have hk:=lt _ _ h2
 rw[aftL_at hi,aft_bit] at h1
 rw[aftL_at hk,aft_bit] at h2
 rw[aftL_at hi,aft_bit]
 exact⟨h2.1,bB_trans (good_prc' g) (good_frm' g) h2.1 h2.2 h1.2⟩
theorem aft_irr{t:Tr}(g:Good t){i:Nat}(hi:i<t.2.1.length):(aft t.2.1 t.2.1.length i).testBit i=false:=by
 cases h:(aft t.2.1 t.2.1.length i).testBit i with
 | false=>rfl
 | true =>
   have:=bB_less (good_prc' g) (good_frm' g) hi ((aft_bit _ _ _ _).1 h).2
   omega
def rkP(t:Tr)(o:List Int)(done:Nat→Nat→Prop):Prop:=o.length=t.2.1.length∧(∀ j,j<t.2.1.length→0≤o.getD j 0∧o.getD j 0≤pl t.2.1 j - 1) ∧
 ∀ j,j<t.2.1.length→∀ k,(bB t.2.1 j).testBit k=true→done k j→pl t.2.1 k≤o.getD j 0
theorem rk_eq{t:Tr}(g:Good t){o:List Int}{d:Nat→Nat→Prop}(h:rkP t o d){j:Nat}(hj:j<t.2.1.length)(hd:∀ k,(bB t.2.1 j).testBit k=true→d k j):o.getD j 0=pl t.2.1 j - 1:=by
 obtain⟨_,h1,h2⟩:=h
 have a:=h1 j hj
 rcases pl_near (good_prc' g) (good_frm' g) hj with ⟨k,hk,e⟩ | ⟨e,_⟩
 · have:=h2 j hj k hk (hd k hk);omega
 · omega
theorem rk_zero{t:Tr}:rkP t (List.replicate t.2.1.length 0) fun _ _=>False:=by
 refine⟨List.length_replicate,fun j hj => ?_,fun j hj k hk h=>h.elim⟩
 have:=pl_pos t.2.1 j
 rw[List.getD_eq_getElem?_getD,List.getElem?_replicate,if_pos hj]
 exact⟨Int.le_refl 0,by show (0:Int)≤_;omega⟩
theorem rk_mono{t:Tr}{o:List Int}{d d':Nat→Nat→Prop}(h:rkP t o d)(hd:∀ k j,j<t.2.1.length→(bB t.2.1 j).testBit k=true→d' k j→d k j):rkP t o d' :=
 ⟨h.1,h.2.1,fun j hj k hk h'=>h.2.2 j hj k hk (hd k j hj hk h')⟩
theorem rk_step{t:Tr}(g:Good t){o:List Int}{d:Nat→Nat→Prop}{i j:Nat}(h:rkP t o d)(hj:j<t.2.1.length)(hb:(bB t.2.1 j).testBit i=true)(hd:∀ k,(bB t.2.1 i).testBit k=true→d k i) :
   rkP t (o.set j (max (o.getD j 0) (o.getD i 0+1))) fun k m=>d k m∨(k=i∧m=j):=by
 have hij:=bB_less (good_prc' g) (good_frm' g) hj hb
 have ei:=rk_eq g h (j:=i) (by omega) hd
 have hl:=pl_less (good_prc' g) (good_frm' g) hj hb
 obtain⟨h0,h1,h2⟩:=h
 have at':∀ m,m<t.2.1.length→(o.set j (max (o.getD j 0) (o.getD i 0+1))).getD m 0=if m=j then max (o.getD j 0) (o.getD i 0+1) else o.getD m 0:=fun m hm=>by
   rw[List.getD_eq_getElem?_getD,List.getElem?_set]
   by_cases e:j=m
   · subst e;rw[if_pos rfl,if_pos (by omega),if_pos rfl];rfl
   · rw[if_neg e,if_neg (fun e'=>e e'.symm),← List.getD_eq_getElem?_getD]
 refine⟨by rw[List.length_set,h0],fun m hm => ?_,fun m hm k hk hd' => ?_⟩
 · rw[at' m hm]
   have:=h1 m hm
   split
   · rename_i e;subst e;have:=h1 i (by omega);omega
   · exact this
 · rw[at' m hm]
   rcases hd' with h' | ⟨rfl,rfl⟩
   · have:=h2 m hm k hk h'
     split
     · rename_i e;subst e;omega
     · exact this
   · rw[if_pos rfl];omega
theorem no_bits(n:Nat):((List.range n).filter fun k=>Nat.testBit 0 k).length=0:=by
 rw[List.filter_eq_nil_iff.2 fun k _ h=>by rw[Nat.zero_testBit] at h;cases h];rfl
theorem popN_bits:∀ (n f a:Nat),a≤f→a<2 ^ n→popN f a=((List.range n).filter fun k=>a.testBit k).length:=by
 intro n
 induction n with
 | zero =>
   intro f a h1 h2
   have:a=0:=by omega
   subst this
   cases f<;>simp[popN]
 | succ n ih =>
   intro f a h1 h2
   have e:((List.range (n+1)).filter fun k=>a.testBit k).length=a%2+((List.range n).filter fun k=>(a/2).testBit k).length:=by
     rw[List.range_succ_eq_map,List.filter_cons]
     have e1:((List.map Nat.succ (List.range n)).filter fun k=>a.testBit k).length=((List.range n).filter fun k=>(a/2).testBit k).length:=by
       rw[List.filter_map,List.length_map]
       exact congrArg List.length (List.filter_congr fun k _=>Nat.testBit_succ a k)
     rcases Nat.mod_two_eq_zero_or_one a with h | h
     · rw[if_neg (by rw[Nat.testBit_zero];simp[h]),e1,h,Nat.zero_add]
     · rw[if_pos (by rw[Nat.testBit_zero];simp[h]),List.length_cons,e1,h,Nat.add_comm]
   rw[e]
   cases f with
   | zero =>
     have:a=0:=by omega
     subst this
     rw[show 0/2=0 from rfl,no_bits];rfl
   | succ f =>
     unfold popN
     by_cases h0:a=0
     · subst h0
       rw[if_pos rfl,show 0/2=0 from rfl,no_bits]
     · rw[if_neg h0,ih f (a/2) (by omega) (by rw[Nat.pow_succ] at h2;omega)]
theorem side_procs{t:Tr}(g:Good t){w:Nat}(hw:w<2 ^ t.2.1.length)(hs:∀ i,w.testBit i=true→∀ j,(aft t.2.1 t.2.1.length i).testBit j=true→w.testBit j=false):pop (w:Int)≤t.1:=by
 unfold pop
 rw[Int.toNat_natCast,popN_bits t.2.1.length w w (Nat.le_refl _) hw]
 have key:=List.Nodup.length_le_of_subset (l₁:=((List.range t.2.1.length).filter fun k=>w.testBit k).map (prc t.2.1)) (l₂:=List.range t.1.toNat) ?_ fun x hx => ?_
 · rw[List.length_map,List.length_range] at key
   have:=g.procs;omega
 · rw[List.nodup_iff_pairwise_ne,List.pairwise_map]
   refine List.Pairwise.imp_of_mem ?_ (List.pairwise_lt_range.filter _)
   intro a b ha hb hlt e
   obtain⟨a1,a2⟩:=List.mem_filter.1 ha
   obtain⟨b1,b2⟩:=List.mem_filter.1 hb
   have b1:=List.mem_range.1 b1
   have hm:=bB_must (good_prc' g) (good_frm' g) b1 hlt (.inl e)
   have:=hs a a2 b ((aft_bit _ _ _ _).2 ⟨b1,hm⟩)
   rw[b2] at this;cases this
 · obtain⟨i,hi,rfl⟩:=List.mem_map.1 hx
   have hi:=List.mem_range.1 (List.mem_filter.1 hi).1
   have hev:=g.ev i hi
   refine List.mem_range.2 ?_
   unfold prc;omega
open Go.Vc
def tuK(c:List Nat)(m j:Nat):Nat:=(List.range m).foldl (fun s i=>if (c.getD i 0).testBit j=true then s ||| 2 ^ i else s) 0
theorem tuK_succ(c:List Nat)(m j:Nat):tuK c (m+1) j=if (c.getD m 0).testBit j=true then tuK c m j ||| 2 ^ m else tuK c m j:=by
 unfold tuK
 rw[List.range_succ,List.foldl_append];rfl
theorem tuK_bit(c:List Nat)(j i:Nat):∀ m,(tuK c m j).testBit i=true↔i<m∧(c.getD i 0).testBit j=true:=by
 intro m
 induction m with
 | zero=>exact⟨fun h=>absurd h (by unfold tuK;rw[List.range_zero,List.foldl_nil,Nat.zero_testBit];decide),fun h=>absurd h.1 (by omega)⟩
 | succ m ih =>
   rw[tuK_succ]
   split
   · rename_i hb
     rw[bit_or2,ih]
     constructor
     · rintro (h | rfl)
       · exact⟨by omega,h.2⟩
       · exact⟨by omega,hb⟩
     · rintro⟨h1,h2⟩
       by_cases e:i=m
       · exact .inr e
       · exact .inl ⟨by omega,h2⟩
   · rename_i hb
     rw[ih]
     refine⟨fun h=>⟨by omega,h.2⟩,fun h=>⟨?_,h.2⟩⟩
     by_cases e:i=m
     · rw[e] at h;exact absurd h.2 hb
     · omega
theorem tuK_aft{t:Tr}(g:Good t){j:Nat}(hj:j<t.2.1.length):tuK (aftL t.2.1) t.2.1.length j=bB t.2.1 j:=by
 refine Nat.eq_of_testBit_eq fun i => ?_
 rw[Bool.eq_iff_iff,tuK_bit]
 constructor
 · rintro⟨h1,h2⟩
   rw[aftL_at h1,aft_bit] at h2
   exact h2.2
 · intro h
   have:=bB_less (good_prc' g) (good_frm' g) hj h
   refine⟨by omega,?_⟩
   rw[aftL_at (by omega),aft_bit]
   exact⟨hj,h⟩
def mskB(l:List Int):Bool:=l.all fun x=>decide (0≤x)&&decide (x<2 ^ l.length)
def natL(l:List Int):List Nat:=l.map Int.toNat
def clI(l:List Int):List Int:=(clL (natL l)).map fun (n:Nat)=>(n:Int)
def selfB(l:List Nat):Bool:=(List.range l.length).any fun i=>(l.getD i 0).testBit i
def ordE(l:List Int):Int:=if 12<l.length then 4 else if mskB l=false then 1 else if selfB (clL (natL l))=true then 6 else 0
def aftI(t:Tr):List Int:=(aftL t.2.1).map fun (n:Nat)=>(n:Int)
theorem aftI_len(t:Tr):(aftI t).length=t.2.1.length:=by unfold aftI;rw[List.length_map,aftL_len]
theorem aftI_nat(t:Tr):natL (aftI t)=aftL t.2.1:=by
 unfold natL aftI
 rw[List.map_map]
 exact (List.map_congr_left fun n _=>Int.toNat_natCast n).trans (List.map_id _)
theorem aftI_at{t:Tr}{j:Nat}(h:j<t.2.1.length):(aftI t).getD j 0=(aft t.2.1 t.2.1.length j:Int):=by
 unfold aftI
 rw[List.getD_eq_getElem?_getD,List.getElem?_map,List.getElem?_eq_getElem (by rw[aftL_len];exact h),← aftL_at h,List.getD_eq_getElem?_getD,List.getElem?_eq_getElem (by rw[aftL_len];exact h)];rfl
theorem clI_aft{t:Tr}(g:Good t):clI (aftI t)=aftI t:=by
 unfold clI
 rw[aftI_nat,clL_id (aft_tr g)];rfl
theorem ordE_aft{t:Tr}(g:Good t)(hl:t.2.1.length≤12):ordE (aftI t)=0:=by
 have hm:mskB (aftI t)=true:=by
   unfold mskB
   rw[List.all_eq_true]
   intro x hx
   unfold aftI at hx
   obtain⟨n,hn,rfl⟩:=List.mem_map.1 hx
   unfold aftL at hn
   obtain⟨j,_,rfl⟩:=List.mem_map.1 hn
   have h:=aft_lt t.2.1 t.2.1.length j
   rw[Bool.and_eq_true,decide_eq_true_eq,decide_eq_true_eq,aftI_len]
   exact⟨by omega,by exact_mod_cast h⟩
 have hs:selfB (clL (natL (aftI t)))=false:=by
   rw[aftI_nat,clL_id (aft_tr g)]
   cases h:selfB (aftL t.2.1) with
   | false=>rfl
   | true =>
     obtain⟨i,hi,hb⟩:=List.any_eq_true.1 h
     have hi:=List.mem_range.1 hi
     rw[aftL_len] at hi
     rw[aftL_at hi,aft_irr g hi] at hb
     cases hb
 unfold ordE
 rw[if_neg (by rw[aftI_len];omega),hm,hs];rfl
theorem one_fact:ordE [2,4,0]=0∧clI [2,4,0]=[6,4,0]:=by decide +kernel
open Go.Vc
set_option linter.unusedVariables false
open Go.Vc
end Go.Proofs.YtfmiecbmikncpaaDoor

namespace Go.Proofs.YtfmiecbmikncpaaDoor.H
open Go.Vc
def setP(a:Int):Prop:=0≤a∧a<1152921504606846976
def cWith:Ctr:=cdet [I,I] (fun (a i:Int)=>setP a∧0≤i∧i≤59) (fun (a i:Int)=>[⟨I,((a.toNat ||| 2 ^ i.toNat:Nat):Int)⟩])
abbrev evA(l:List Ev)(i:Nat):Ev:=l.getD i (0,0,())
def ofU(l:List Ev)(p:Int)(k:Nat):List Int:=((List.range k).filter fun i=>decide ((l.getD i (0,0,())).1=p)).map fun (i:Nat)=>(i:Int)
def ofT(t:Tr)(p:Int):List Int:=ofU t.2.1 p t.2.1.length
def ofE(t:Tr)(p:Int):Int:=if chk t=0 then (if inB p 0 (t.1 - 1)=true then 0 else 1) else chk t
def cOf:Ctr:=cdet [tTr,I] (fun _ _=>True) (fun t p=>[⟨.sl I,if ofE t p=0 then ofT t p else[]⟩,⟨tErr,ofE t p⟩])
def anOf(t:Tr)(p:Int):Ann :=
 [joinAll,loopAt 8 Nat [(7,3,I)] (fun st i=>{ St.at (St.only st [0,1,2,4,5,7,23,24]) [(25,.d I (i:Int))] with ob:=st.ob.set 1 (.row 3 I (ofU t.2.1 p i)) }) (fun _ i=>i≤t.2.1.length∧chk t=0) (fun i=>t.2.1.length - i)]
open Go.Vc
theorem or_and_add(a:Nat):∀ b:Nat,(a ||| b)+(a &&& b)=a+b:=by
 induction a using Nat.strongRecOn with
 | _ a ih =>
   intro b
   by_cases ha:a=0
   · subst ha;simp
   · have h:=ih (a/2) (by omega) (b/2)
     have h1:(a ||| b)/2=a/2 ||| b/2:=Nat.or_div_two
     have h2:(a &&& b)/2=a/2 &&& b/2:=Nat.and_div_two
     have h3:(a ||| b)%2=1↔a%2=1∨b%2=1:=Nat.or_mod_two_eq_one
     have h4:(a &&& b)%2=1↔a%2=1∧b%2=1:=Nat.and_mod_two_eq_one
     omega
theorem or_pow_in{s i:Nat}(h:s.testBit i=true):s ||| 2 ^ i=s:=by
 refine Nat.eq_of_testBit_eq fun k => ?_
 rw[Nat.testBit_or,Nat.testBit_two_pow]
 by_cases hk:i=k
 · subst hk;rw[h];rfl
 · simp[hk]
theorem or_pow_out{s i:Nat}(h:s.testBit i=false):s ||| 2 ^ i=s+2 ^ i:=by
 have h1:=or_and_add s (2 ^ i)
 have h2:s &&& 2 ^ i=0:=by
   refine Nat.eq_of_testBit_eq fun k => ?_
   rw[Nat.testBit_and,Nat.testBit_two_pow,Nat.zero_testBit]
   by_cases hk:i=k
   · subst hk;rw[h];rfl
   · simp[hk]
 omega
structure Gd(l:List Ev):Prop where
 p:∀ i,i<l.length→prc l i<5
 f:∀ i,i<l.length→frm l i<(i:Int)
 n:∀ i,i<l.length→0≤(evA l i).1
 len:l.length≤24
theorem gd_of{t:Tr}(h:chk t=0):Gd t.2.1:=by
 have g:=good_of h
 refine⟨fun i hi => ?_,fun i hi => ?_,fun i hi=>(g.ev i hi).1,g.len⟩
 · have h1:=g.ev i hi;have h2:=g.procs;unfold prc;omega
 · have h1:=g.ev i hi;unfold frm;omega
theorem prc_eq{l:List Ev}(g:Gd l){i j:Nat}(hi:i<l.length)(hj:j<l.length):(evA l j).1=(evA l i).1↔prc l j=prc l i:=by
 have h1:=g.n i hi
 have h2:=g.n j hj
 unfold prc
 unfold evA at *
 omega
theorem bef_at{t:Tr}{i:Nat}(hi:i<t.2.1.length):(ints (befN t)).getD i 0=((bB t.2.1 i:Nat):Int):=by
 rw[ints_getD];unfold befN;rw[bst_keep t.2.1 hi t.2.1.length hi]
end Go.Proofs.YtfmiecbmikncpaaDoor.H

namespace Go.Proofs.YtfmiecbmikncpaaDoor
open Go.Vc H
set_option linter.unusedVariables false
theorem vcWith(a i:Int)(k:List Dat→Prop):vcF ⟨Em,[(17,cBit),(42,cPow2)],[],[],[]⟩ [] (Tryd.f22.body.getD .skip) Tryd.f22.ntmps [(.tmp 4,I)] [⟨I,a⟩,⟨I,i⟩] k=(
 True∧(bitB a i=true→k [Dat.mk (I) a])∧(bitB a i=false→(i≤(61:Int)∧True)∧inK IntKind.i64 (a+(2:Int) ^ i.toNat)∧k [Dat.mk (I) (a+(2:Int) ^ i.toNat)])):=by kernel_rfl
theorem vcOf(t:Tr)(p:Int)(k:List Dat→Prop):vcF ⟨Em,[(7,cCheck),(23,cWithin)],[],[],[]⟩ (anOf t p) (Tryd.f46.body.getD .skip) Tryd.f46.ntmps [(.tmp 4,.sl I),(.tmp 5,tErr)] [⟨tTr,t⟩,⟨I,p⟩] k=(
 True∧((!decide (chk t=(0:Int)))=true→k [Dat.mk (I).sl [],Dat.mk (Ty.err (53:Nat)) (chk t)])∧((!decide (chk t=(0:Int)))=false→inK IntKind.i64 (t.fst - (1:Int))∧True∧((!inB p (0:Int) (t.fst - (1:Int)))=true→(1:Int)≠(0:Int)∧k [Dat.mk (I).sl [],Dat.mk (Ty.err (53:Nat)) (1:Int)])∧((!inB p (0:Int) (t.fst - (1:Int)))=false→(∃ (x:Nat),(x≤t.snd.fst.length∧chk t=(0:Int))∧(t=t∧p=p∧([]:List Nat)=[]∧True∧(0:Int)=(0:Int)∧True∧t.snd.fst=t.snd.fst∧(↑(List.length t.snd.fst):Int)=(↑(List.length t.snd.fst):Int)∧(0:Int)=(↑x:Int)∧True)∧(((24:Nat)=(24:Nat)∧t=t)∧((3:Nat)=(3:Nat)∧[]=ofU t.snd.fst p x)∧True)∧True)∧∀ (x:Nat),x≤t.snd.fst.length∧chk t=(0:Int)→(decide ((↑x:Int)<(↑(List.length t.snd.fst):Int))=true→(0:Int)≤(↑x:Int)∧(↑x:Int)<(↑(List.length t.snd.fst):Int)∧(decide ((List.getD t.snd.fst (↑x:Int).toNat ((0:Int),(0:Int),())).fst=p)=true→(ofU t.snd.fst p x).length+((List.replicate (1:Nat) (0:Int)).set (0:Nat) (↑x:Int)).length≤(1000000000:Nat)∧inK IntKind.i64 ((↑x:Int)+(1:Int))∧∃ (x_1:Nat),(x_1≤t.snd.fst.length∧chk t=(0:Int))∧t.snd.fst.length - x_1<t.snd.fst.length - x∧(t=t∧p=p∧([]:List Nat)=[]∧True∧(0:Int)=(0:Int)∧True∧t.snd.fst=t.snd.fst∧(↑(List.length t.snd.fst):Int)=(↑(List.length t.snd.fst):Int)∧(↑x:Int)+(1:Int)=(↑x_1:Int)∧True)∧(((24:Nat)=(24:Nat)∧t=t)∧((3:Nat)=(3:Nat)∧(ofU t.snd.fst p x).append ((List.replicate (1:Nat) (0:Int)).set (0:Nat) (↑x:Int))=ofU t.snd.fst p x_1)∧True)∧True)∧(decide ((List.getD t.snd.fst (↑x:Int).toNat ((0:Int),(0:Int),())).fst=p)=false→inK IntKind.i64 ((↑x:Int)+(1:Int))∧∃ (x_1:Nat),(x_1≤t.snd.fst.length∧chk t=(0:Int))∧t.snd.fst.length - x_1<t.snd.fst.length - x∧(t=t∧p=p∧([]:List Nat)=[]∧True∧(0:Int)=(0:Int)∧True∧t.snd.fst=t.snd.fst∧(↑(List.length t.snd.fst):Int)=(↑(List.length t.snd.fst):Int)∧(↑x:Int)+(1:Int)=(↑x_1:Int)∧True)∧(((24:Nat)=(24:Nat)∧t=t)∧((3:Nat)=(3:Nat)∧ofU t.snd.fst p x=ofU t.snd.fst p x_1)∧True)∧True))∧(decide ((↑x:Int)<(↑(List.length t.snd.fst):Int))=false→k [Dat.mk (I).sl (ofU t.snd.fst p x),Dat.mk (Ty.err (53:Nat)) (0:Int)])))):=by kernel_rfl
end Go.Proofs.YtfmiecbmikncpaaDoor

namespace Go.Proofs.YtfmiecbmikncpaaDoor.H
open Go.Vc
theorem bitB_nat(a k:Nat):bitB (a:Int) (k:Int)=a.testBit k:=by
 unfold bitB
 simp
theorem okWith:PlainOk Tryd.prog [] 22 cWith:=by
 refine plain_of (CxOk.mk' Em_ok (by kernel_rfl) mixed (gl:=[]) (GOk.cons okBit Tryd.func17 (by kernel_rfl) (by kernel_rfl) (GOk.cons okPow2 Tryd.func42 (by kernel_rfl) (by kernel_rfl) GOk.nil)) GoOk.nil noIt) Tryd.func22 (c:=Tryd.f22.body.getD .skip) (rvs:=[(.tmp 4,I)]) (by kernel_rfl) (by kernel_rfl) (by kernel_rfl) ?_
 intro ds k ⟨hp,hk⟩ hwf
 obtain⟨a,i,rfl,⟨ha,ha'⟩,hi,hi'⟩:=dest2 hp
 have hk:k [⟨I,((a.toNat ||| 2 ^ i.toNat:Nat):Int)⟩]:=hk
 obtain⟨m,rfl⟩:=Int.eq_ofNat_of_zero_le ha
 obtain⟨n,rfl⟩:=Int.eq_ofNat_of_zero_le hi
 simp only[Int.toNat_natCast] at hk
 refine⟨[],?_⟩
 rw[vcWith,bitB_nat]
 have h2:=two_pow_le (n:=n) (by omega)
 have h3:=two_pow_pos n
 refine⟨trivial,fun h => ?_,fun h=>⟨⟨by omega,trivial⟩,?_,?_⟩⟩
 · rw[or_pow_in h] at hk;exact hk
 · rw[Int.toNat_natCast,inK_i64];omega
 · rw[or_pow_out h,Int.natCast_add,Int.natCast_pow] at hk;exact hk
open Go.Vc
theorem ofU_succ(l:List Ev)(p:Int)(k:Nat):ofU l p (k+1)=ofU l p k++(if (l.getD k (0,0,())).1=p then[(k:Int)] else[]):=by
 unfold ofU
 rw[List.range_succ,List.filter_append,List.map_append]
 congr 1
 rw[List.filter_cons]
 by_cases h:(l.getD k (0,0,())).1=p
 · rw[if_pos (decide_eq_true h),if_pos h];rfl
 · rw[if_neg (by simpa using h),if_neg h];rfl
theorem ofU_len(l:List Ev)(p:Int)(k:Nat):(ofU l p k).length≤k:=by
 unfold ofU
 rw[List.length_map]
 exact Nat.le_trans (List.length_filter_le _ _) (by simp)
theorem of_vc(t:Tr)(p:Int)(k:List Dat→Prop)(hk:k [⟨.sl I,if ofE t p=0 then ofT t p else[]⟩,⟨tErr,ofE t p⟩]) :
   vcF ⟨Em,[(7,cCheck),(23,cWithin)],[],[],[]⟩ (anOf t p) (Tryd.f46.body.getD .skip) Tryd.f46.ntmps [(.tmp 4,.sl I),(.tmp 5,tErr)] [⟨tTr,t⟩,⟨I,p⟩] k:=by
 rw[vcOf]
 simp only[decide_eq_true_eq,decide_eq_false_iff_not,and_true,true_and,Bool.not_eq_true',Bool.not_eq_false',Int.toNat_natCast]
 refine⟨fun h => ?_,fun h => ?_⟩
 · have e:ofE t p=chk t:=by unfold ofE;rw[if_neg h]
   rw[e,if_neg h] at hk;exact hk
 · have g:=good_of h
   have hl:=g.len
   have hpr:=g.procs
   refine⟨inK_i64.2 (by omega),fun hw=>⟨by decide,?_⟩,fun hw=>⟨⟨0,⟨by omega,h⟩,rfl,rfl⟩,fun x ⟨hx,_⟩=>⟨fun hlt=>⟨by omega,hlt,fun he=>⟨?_,inK_i64.2 (by omega),x+1,⟨by omega,h⟩,by omega,rfl,?_⟩,fun he=>⟨inK_i64.2 (by omega),x+1,⟨by omega,h⟩,by omega,rfl,?_⟩⟩,fun hge => ?_⟩⟩⟩
   · have e:ofE t p=1:=by unfold ofE;rw[if_pos h,if_neg (by rw[hw];decide)]
     rw[e] at hk;exact hk
   · have:=ofU_len t.2.1 p x
     simp only[List.replicate,List.set,List.length_cons,List.length_nil]
     omega
   · rw[ofU_succ,if_pos he];rfl
   · rw[ofU_succ,if_neg he,List.append_nil]
   · have:x=t.2.1.length:=by omega
     subst this
     have e:ofE t p=0:=by unfold ofE;rw[if_pos h,if_pos hw]
     rw[e] at hk;exact hk
theorem okOf:PlainOk Tryd.prog [] 46 cOf:=by
 refine plain_of (CxOk.mk' Em_ok (by kernel_rfl) mixed (gl:=[]) (GOk.cons okCheck Tryd.func7 (by kernel_rfl) (by kernel_rfl) (GOk.cons okWithin Tryd.func23 (by kernel_rfl) (by kernel_rfl) GOk.nil)) GoOk.nil noIt) Tryd.func46 (c:=Tryd.f46.body.getD .skip) (rvs:=[(.tmp 4,.sl I),(.tmp 5,tErr)]) (by kernel_rfl) (by kernel_rfl) (by kernel_rfl) ?_
 intro ds k ⟨hp,hk⟩ hwf
 obtain⟨t,p,rfl,-⟩:=dest2 hp
 exact⟨anOf t p,of_vc t p k hk⟩
theorem lift{f:FuncId}{c:Ctr}{gl:List (Nat×Dat)}(h:PlainOk Tryd.prog [] f c):PlainOk Tryd.prog gl f c:=PlainOk.sub (fun x hx=>by cases hx) h
end Go.Proofs.YtfmiecbmikncpaaDoor.H

namespace Go.Proofs.YtfmiecbmikncpaaDoor
open Go.RowKit Go.Shelf
attribute [local go_sem] Oper.semAt_some
set_option maxHeartbeats 1000000 in
theorem tz64_core(x k idx:Nat)(w:World)(hx0:((x:Int)==0)=false)
   (key:IntKind.u64.wrap (bits BinOp.and IntKind.u64 (x:Int) (IntKind.u64.wrap (-(x:Int)))*285870213051353865)/288230376151711744=(idx:Int))
   (hi:idx<64) (hk:k<64) (hcell:w.cell? ⟨1,idx,none⟩=some (.int .u8 k)) :
   Calls Tryd.prog 54 #[.int .u64 x] w fun e w'=>e = .returned (.int .i64 k)∧w'=w:=by
 go_enter Tryd.func54,Tryd.ntmps54
 go_wp2_with (simp only[key])
 go_ret
 exact⟨rfl,rfl⟩
theorem tz64_zero(w:World):Calls Tryd.prog 54 #[.int .u64 0] w fun e w'=>e = .returned (.int .i64 64)∧w'=w:=by
 go_enter Tryd.func54,Tryd.ntmps54
 go_wp2
 go_ret
 exact⟨rfl,rfl⟩
theorem tz64(x:Nat)(hx:x<18446744073709551616)(w:World)(hT:x≠0→TabAt 1 Lib.deBruijn64tab w) :
   Calls Tryd.prog 54 #[.int .u64 x] w fun e w'=>e = .returned (.int .i64 (Lib.ctz 64 x))∧w'=w:=by
 by_cases hx0:x=0
 · subst hx0
   exact tz64_zero w
 · obtain⟨hlow,hk⟩:=Lib.lowest_bit 64 x hx0 hx
   obtain⟨hi,htab⟩:=Lib.deBruijn64_at _ hk
   have hcell:=hT hx0 _ hi
   rw[htab] at hcell
   exact tz64_core x _ _ w (by simp;omega) (tz64_key x _ hx hx0 hlow) hi hk hcell
theorem tz(x:Nat)(hx:x<18446744073709551616)(w:World)(hT:x≠0→TabAt 1 Lib.deBruijn64tab w) :
   Calls Tryd.prog 45 #[.int .u64 x] w fun e w'=>e = .returned (.int .i64 (Lib.ctz 64 x))∧w'=w:=by
 go_enter Tryd.func45,Tryd.ntmps45
 go_wp2_with (go_at_call 54;refine (tz64 x hx _ hT).mono ?_;rintro e w' ⟨rfl,rfl⟩)
 go_ret
 exact⟨rfl,rfl⟩
open Go.RowKit Go.Shelf Go.Vc
attribute [local go_sem] Oper.semAt_some
theorem ctz_facts{r:Nat}(h0:r≠0)(h:r<2 ^ 64):Lib.ctz 64 r<64∧r.testBit (Lib.ctz 64 r)=true∧(∀ i,i<Lib.ctz 64 r→r.testBit i=false)∧∀ i,(r &&& (r - 1)).testBit i=(r.testBit i && !decide (i=Lib.ctz 64 r)):=by
 have hc:Lib.ctz 64 r=Lib.ctzFrom 64 r:=by unfold Lib.ctz;rw[if_neg h0]
 obtain⟨m,hm,hlt⟩:=Lib.ctzFrom_spec 64 r (by omega) h
 rw[hc]
 generalize Lib.ctzFrom 64 r=t at *
 have hb:∀ i,r.testBit i=(decide (t≤i)&&(2*m+1).testBit (i - t)):=by
   intro i;rw[hm,Nat.testBit_two_pow_mul]
 have hpos:0<2 ^ t:=Nat.two_pow_pos t
 have hr1:r - 1=2 ^ t*(2*m)+(2 ^ t - 1):=by
   rw[hm,Nat.mul_add,Nat.mul_one];omega
 have hb1:∀ i,(r - 1).testBit i=if i<t then (2 ^ t - 1).testBit i else (2*m).testBit (i - t):=by
   intro i;rw[hr1,Nat.testBit_two_pow_mul_add _ (by omega)]
 refine⟨hlt,?_,fun i hi => ?_,fun i => ?_⟩
 · rw[hb];simp
 · rw[hb];simp;omega
 · rw[Nat.testBit_and,hb1,hb]
   by_cases h1:i<t
   · rw[if_pos h1]
     have:decide (t≤i)=false:=by simpa using h1
     rw[this];simp
   · rw[if_neg h1]
     have:decide (t≤i)=true:=by simpa using h1
     rw[this,Bool.true_and]
     by_cases h2:i=t
     · subst h2;simp
     · obtain⟨j,hj⟩:∃ j,i - t=j+1:=⟨i - t - 1,by omega⟩
       rw[hj,Nat.testBit_add_one,Nat.testBit_add_one,show (2*m+1)/2=m by omega,show 2*m/2=m by omega]
       simp[h2]
def u64Of:Value→Nat
 | .int _ n=>n.toNat
 | _=>0
def bitsN(n:Nat):List Nat:=(List.range' 0 64).filter n.testBit
theorem filter_from(f:Nat→Bool):∀ (d p t:Nat),p+d=t→t<64→(∀ i,p≤i→i<t→f i=false)→f t=true→(List.range' p (64 - p)).filter f=t::(List.range' (t+1) (64 - (t+1))).filter f:=by
 intro d
 induction d with
 | zero =>
   intro p t ht h64 _ hft
   have:p=t:=by omega
   subst this
   rw[show 64 - p=(64 - (p+1))+1 by omega,List.range'_succ,List.filter_cons,if_pos hft]
 | succ d ih =>
   intro p t ht h64 hf hft
   rw[show 64 - p=(64 - (p+1))+1 by omega,List.range'_succ,List.filter_cons,if_neg (by rw[hf p (Nat.le_refl _) (by omega)];decide)]
   exact ih (p+1) t (by omega) h64 (fun i h1 h2=>hf i (by omega) h2) hft
set_option maxRecDepth 100000 in
set_option maxHeartbeats 2000000 in
theorem bits1_in(F:Fence)(h45:F.fn 44)(h46:F.fn 45)(hro:F.round=none)(htz:∀ (m x:Nat) (w:World),x<18446744073709551616→TabAt 1 Lib.deBruijn64tab w→CallsIn F m Tryd.prog 45 #[.int .u64 x] w fun e w'=>e = .returned (.int .i64 (Lib.ctz 64 x))∧w'=w)(n l:Nat)(hn:1≤n)(b:Nat)(o:Nat)(s:Int)(hs:inK .i64 s)(J Jx:Nat→World→Prop)(W:World)
   (hR:∀ k W',J k W'→W'.cell? ⟨b,o,none⟩=some (.int .i64 s)∧TabAt 1 Lib.deBruijn64tab W')
   (hY:∀ m k x W1,((bitsN (s%18446744073709551616).toNat).map fun (i:Nat)=>Value.int .i64 (i:Int))[k]?=some x→J k W1 →
     YieldAt F m Tryd.prog l #[x] W1 fun e W'=>(e = .returned (.bool true)∧J (k+1) W')∨(e = .returned (.bool false)∧Jx (k+1) W')) (h0:J 0 W) :
   CallsIn F n Tryd.prog 44 #[.func (.yield l) #[] #[],.pointer (some ⟨b,o,none⟩)] W fun e W'=>(∃ v,e = .returned v)∧(J (bitsN (s%18446744073709551616).toNat).length W'∨∃ k,Jx k W'):=by
 obtain⟨N,hN⟩:∃ N,N=(s%18446744073709551616).toNat:=⟨_,rfl⟩
 have hN64:N<18446744073709551616:=by omega
 have hw:IntKind.u64.wrap s=(N:Int):=by rw[IntKind.wrap_u64];omega
 rw[← hN] at hY ⊢
 refine callsIn_of_wp Tryd.func44 rfl h45 ?_ hro
 simp only[Tryd.ntmps44,List.size_toArray,List.length_cons,List.length_nil,Nat.reduceAdd,Nat.reduceSub,Array.replicate_succ,Array.replicate_zero,List.push_toArray,List.append_toArray,List.nil_append,List.cons_append]
 have hc0:=(hR 0 W h0).1
 gi_wp2
 have hmx:max (s%18446744073709551616) 0=(N:Int):=by omega
 simp only[hmx]
 gi_loopw [3] (fun p wr=>∃ (r q k:Nat),p = .int .u64 (r:Int)∧r<18446744073709551616∧q≤64∧(∀ i,r.testBit i=(decide (q≤i)&&N.testBit i))∧(bitsN N).drop k=(List.range' q (64 - q)).filter N.testBit∧k≤(bitsN N).length∧J k wr)
   (fun p _=>u64Of p)
 case atStart =>
   exact⟨N,0,0,rfl,hN64,by omega,fun i=>by simp,rfl,by omega,h0⟩
 case round =>
   obtain⟨r,q,k,rfl,hr,hq,hb,hd,hk,hJ⟩:=hrel
   obtain⟨hc,hT⟩:=hR k wr hJ
   by_cases h0:r=0
   · subst h0
     have hkl:k=(bitsN N).length:=by
       have:(List.range' q (64 - q)).filter N.testBit=[]:=by
         rw[List.filter_eq_nil_iff]
         intro i hi
         have hqi:=(List.mem_range'_1.1 hi).1
         have:=hb i
         simp only[Nat.zero_testBit,decide_eq_true hqi,Bool.true_and] at this
         rw[← this];decide
       rw[this,List.drop_eq_nil_iff] at hd
       omega
     subst hkl
     gi_wp2
     go_end0
     exact⟨⟨_,rfl⟩,.inl hJ⟩
   · obtain⟨f1,f2,f3,f4⟩:=ctz_facts h0 hr
     obtain⟨t,ht⟩:∃ t,t=Lib.ctz 64 r:=⟨_,rfl⟩
     rw[← ht] at f1 f2 f3 f4
     have hqt:q≤t:=by
       have:=hb t;rw[f2] at this
       simp only[Bool.true_eq,Bool.and_eq_true,decide_eq_true_eq] at this;exact this.1
     have hNt:N.testBit t=true:=by
       have:=hb t;rw[f2] at this
       simp only[Bool.true_eq,Bool.and_eq_true,decide_eq_true_eq] at this;exact this.2
     have hd2:=filter_from N.testBit (t - q) q t (by omega) f1 (fun i h1 h2=>by
       have:=hb i;rw[f3 i h2] at this
       simpa [h1] using this.symm) hNt
     rw[hd2] at hd
     have hkl:k<(bitsN N).length:=by
       rcases Nat.lt_or_ge k (bitsN N).length with h | h
       · exact h
       · rw[List.drop_of_length_le h] at hd;cases hd
     have hxk:(bitsN N)[k]?=some t:=by
       rw[List.drop_eq_getElem_cons hkl] at hd
       injection hd with hd1 _
       rw[List.getElem?_eq_getElem hkl,hd1]
     have hdk:(bitsN N).drop (k+1)=(List.range' (t+1) (64 - (t+1))).filter N.testBit:=by
       rw[List.drop_eq_getElem_cons hkl] at hd
       injection hd
     obtain⟨fn,tmps,assign,body,hy,hRd⟩:=hY (n - 1) k (.int .i64 (t:Int)) wr (by rw[List.getElem?_map,hxk];rfl) hJ
     have hne:((r:Int)==0)=false:=by simp;omega
     have hnext:∀ W',J (k+1) W'→∃ (r' q' k':Nat),(Value.int .u64 ((r &&& (r - 1):Nat):Int):Value) = .int .u64 (r':Int)∧r'<18446744073709551616∧q'≤64∧(∀ i,r'.testBit i=(decide (q'≤i)&&N.testBit i)) ∧
         (bitsN N).drop k'=(List.range' q' (64 - q')).filter N.testBit∧k'≤(bitsN N).length∧J k' W':=by
       intro W' hJ'
       refine⟨r &&& (r - 1),t+1,k+1,rfl,Nat.lt_of_le_of_lt Nat.and_le_left hr,f1,fun i => ?_,hdk,hkl,hJ'⟩
       rw[f4,hb]
       by_cases h1:i=t
       · have hni:decide (t+1≤i)=false:=decide_eq_false (by omega)
         rw[hni,decide_eq_true h1];simp
       · by_cases h2:q≤i
         · by_cases h3:t+1≤i
           · simp[h1,h2,h3]
           · have:=hb i;rw[f3 i (by omega)] at this
             simp only[h2,decide_true,Bool.true_and] at this
             rw[← this];simp
         · have h3:¬ t+1≤i:=by omega
           simp[h2,h3]
     have hmeas:u64Of (.int .u64 ((r &&& (r - 1):Nat):Int))<r:=by
       show ((r &&& (r - 1):Nat):Int).toNat<r
       rw[Int.toNat_natCast]
       have:r &&& (r - 1)≤r - 1:=Nat.and_le_right
       omega
     have hand:∀ (x:Int),x=(r:Int) - 1→bits .and .u64 (r:Int) x=((r &&& (r - 1):Nat):Int):=by
       intro x hx
       rw[hx,show (r:Int) - 1=((r - 1:Nat):Int) by omega,bits_and_u64_nat r _ hr (by omega)]
     have htz':=htz
     clear hb hd hdk hd2 f1 f2 f3 f4 hNt hqt hxk hkl hY hR hmx hw hN hN64 hq hk
     subst ht
     gi_wp2_with (gi_at_call 45;refine (htz _ r _ hr hT).mono ?_;rintro e w' ⟨rfl,rfl⟩)
     refine hRd.mono ?_
     rintro e W' (⟨rfl,hJ'⟩ | ⟨rfl,hJx'⟩)
     · have hsub:IntKind.u64.wrap ((r:Int) - 1)=(r:Int) - 1:=by rw[IntKind.wrap_u64];omega
       have hand':=hand _ rfl
       gi_wp2
       exact⟨hnext _ hJ',by show _<((r:Int)).toNat;rw[Int.toNat_natCast];exact hmeas⟩
     · gi_wp2
       refine bodyPost_ret (results_none rfl _ _ _) rfl ?_
       exact⟨⟨_,rfl⟩,.inr ⟨_,hJx'⟩⟩
abbrev tabD:List Int:=[0,1,56,2,57,49,28,3,61,58,42,50,38,29,17,4,62,47,59,36,45,43,51,22,53,39,33,30,24,18,12,5,
 63,55,48,27,60,41,37,16,46,35,44,21,52,32,23,11,54,26,40,15,34,20,31,10,25,14,19,9,13,8,7,6]
def glT:List (Nat×Dat):=[(1,⟨.ar 64 (.int .u8),tabD⟩)]
theorem tab_of{w:World}{ro:Nat→Prop}(h:GlOk glT w ro):TabAt 1 Lib.deBruijn64tab w:=by
 obtain⟨_,us,h1,hn,css,hcs,hok⟩:=h 1 _ (List.mem_singleton.2 rfl)
 have hlen:css.length=64:=hok.1
 have hflat:∀ (xs:List Int) (css:List (List Value)),css.length=xs.length→(∀ (i:Nat) x u,xs[i]?=some x→css[i]?=some u→u=[Value.int .u8 x])→css.flatten=xs.map (Value.int .u8):=by
   intro xs
   induction xs with
   | nil=>intro css h _;cases css with
     | nil=>rfl
     | cons=>cases h
   | cons x r ih =>
     intro css h hx
     cases css with
     | nil=>cases h
     | cons c cs =>
       rw[List.flatten_cons,hx 0 x c rfl rfl,ih cs (by simpa using h) (fun i x u h1 h2=>hx (i+1) x u (by simpa using h1) (by simpa using h2))]
       rfl
 have hus:us=tabD.map (Value.int .u8):=by
   rw[hcs]
   exact hflat tabD css hok.1 fun i x u h1 h2=>(hok.2 i x u h1 h2).2.1
 intro j hj
 apply h1
 rw[hus,List.getElem?_map]
 have hj':j<64:=hj
 have:∀ j:Fin 64,tabD[j.1]?=some ((Lib.deBruijn64tab.getD j.1 0:Nat):Int):=by decide
 rw[this ⟨j,hj'⟩];rfl
def bitsOf(s:Int):List Int:=(bitsN (s%18446744073709551616).toNat).map fun (i:Nat)=>(i:Int)
def cBits:ItC:=⟨.pr (.ptr (.int .i64)) .un,.int .i64,fun x=>match x.1 with
 | some s=>some (bitsOf s)
 | none=>none⟩
theorem itBits:ItOk Tryd.prog glT 44 cBits:=by
 refine⟨⟨_,Tryd.func44,rfl,rfl⟩,fun y xs hy => ?_⟩
 obtain⟨y1,y2⟩:=y
 cases y1 with
 | none=>cases hy
 | some s =>
   have hy:some (bitsOf s)=some xs:=hy
   injection hy with hy;subst hy
   refine⟨fun x hx w ro => ?_,fun caps n l J Jx W hJ hJx hG hY h0 => ?_⟩
   · unfold bitsOf at hx
     obtain⟨i,hi,rfl⟩:=List.mem_map.1 hx
     have:=(List.mem_range'_1.1 (List.mem_filter.1 hi).1).2
     exact⟨rfl,inK_i64.2 ⟨by omega,by omega⟩⟩
   · have hR0:=(hG 0 W h0).2
     obtain⟨c1,c2,hcs,⟨ad,us,hc1,hsp,hblk,hcell,hus,hin⟩,hc2⟩:=hR0
     have hc2':c2=[]:=hc2
     have hcaps:caps=#[.pointer (some ad)]:=by apply Array.toList_inj.1;rw[hcs,hc1,hc2'];rfl
     subst hcaps
     obtain⟨b,o,sp⟩:=ad
     have hsp':sp=none:=hsp
     subst hsp'
     have hmap:(bitsOf s).map (fun x=>(Ty.int .i64).mk ((Ty.int .i64).cv x))=(bitsN (s%18446744073709551616).toNat).map fun (i:Nat)=>Value.int .i64 (i:Int):=by
       unfold bitsOf;rw[List.map_map];rfl
     have hlen:((bitsOf s).map (fun x=>(Ty.int .i64).mk ((Ty.int .i64).cv x))).length=(bitsN (s%18446744073709551616).toNat).length:=by rw[hmap,List.length_map]
     have hmap':(bitsOf s).map (fun x=>cBits.e.mk (cBits.e.cv x))=(bitsN (s%18446744073709551616).toNat).map fun (i:Nat)=>Value.int .i64 (i:Int):=hmap
     have hlen':((bitsOf s).map (fun x=>cBits.e.mk (cBits.e.cv x))).length=(bitsN (s%18446744073709551616).toNat).length:=hlen
     rw[hlen']
     rw[hmap'] at hY
     have key:=bits1_in (FW none) trivial trivial rfl (fun m x w hx hT=>callsIn_wide.2 (tz x hx w fun _=>hT)) (n+1) l (by omega) b o s hin J Jx W (fun k W' hk => ?_) hY h0
     · exact callsIn_FW.2 (callsIn_FW.1 key)
     · obtain⟨g1,g2⟩:=hG k W' hk
       refine⟨?_,tab_of g1⟩
       obtain⟨c1,c2,hcs,⟨ad,us,hc1,_,_,hcell,hus,_⟩,hc2⟩:=g2
       rw[hc1] at hcs
       have hc2':c2=[]:=hc2
       rw[hc2'] at hcs
       injection hcs with hcs _
       injection hcs with hcs;injection hcs with hcs
       subst hcs
       have:=hcell 0 (.int .i64 s) (by rw[hus];rfl)
       simpa [addr_add] using this
end Go.Proofs.YtfmiecbmikncpaaDoor

namespace Go.Proofs.YtfmiecbmikncpaaDoor.H
open Go.Vc
abbrev tF:Ty := .fn 44 (.pr (.ptr I) .un)
def Ez:Env:={ tys:=[(3,I),(4,.bool),(5,.int .u8),(22,.sl tEv),(24,tTr),(27,tErr),(25,.sl I),(55,tEv),(60,.ar 5 I),(58,tF),(61,.sl (.sl I))],errT:=53,eqs:=[],els:=[(22,55),(25,3),(61,25)] }
theorem Ez_ok:EnvOk Tryd.prog Ez:=EnvOk.of_list (by kernel_rfl) (by kernel_rfl) (by kernel_rfl)
def rowsT(t:Tr)(k:Nat):List (List Int):=(List.range k).map fun (p:Nat)=>ofT t (p:Int)
def cutOk(t:Tr)(c:List Int):Bool:=(List.range c.length).all fun p=>inB (c.getD p 0) 0 ((ofT t (p:Int)).length:Int)
def cutE(t:Tr)(c:List Int):Int:=if chk t=0 then (if (c.length:Int)=t.1 then (if cutOk t c=true then 0 else 1) else 3) else chk t
def cOfs:Ctr:=cdet [tTr,.sl I] (fun _ _=>True) (fun t c=>[⟨.sl (.sl I),if cutE t c=0 then rowsT t t.1.toNat else[]⟩,⟨tErr,cutE t c⟩])
def anOfs(t:Tr)(c:List Int):Ann :=
 [joinAll,loopAt 3 Nat [(6,25,Ty.sl I)] (fun st i=>{ St.at (St.only st [0,1,2,4,5,6,14]) [(15,.d I (i:Int))] with ob:=st.ob.set 1 (.row 25 (.sl I) (rowsT t i)) }) (fun _ i=>((i:Int)≤t.1∨i=0)∧(0<t.1→chk t=0∨i=0)) (fun i=>t.1.toNat - i),
  loopAt 16 Nat [] (fun st i=>St.at (St.only st [0,1,2,4,5,6,43,44]) [(45,.d I (i:Int))]) (fun _ i=>i≤c.length∧chk t=0∧(c.length:Int)=t.1∧∀ p,p<i→inB (c.getD p 0) 0 ((ofT t (p:Int)).length:Int)=true) (fun i=>c.length - i)]
def orB(s:Nat)(l:List Int):Nat:=l.foldl (fun a i=>a ||| 2 ^ i.toNat) s
def takeC(t:Tr)(c:List Int)(p:Nat):List Int:=(ofT t (p:Int)).take (c.getD p 0).toNat
def setK(t:Tr)(c:List Int)(k:Nat):Nat:=(List.range k).foldl (fun s p=>orB s (takeC t c p)) 0
def setN(t:Tr)(c:List Int):Nat:=setK t c c.length
def setE(t:Tr)(c:List Int):Int:=if cutE t c=0 then (setN t c:Int) else 0
def cEvents:Ctr:=cdet [tTr,.sl I] (fun _ _=>True) (fun t c=>[⟨I,setE t c⟩,⟨tErr,cutE t c⟩])
def anEvents(t:Tr)(c:List Int):Ann :=
 [joinAll,loopAt 6 Nat [] (fun st i=>St.at (St.only st [0,1,2,4,5,6,22,23]) [(24,.d I (i:Int)),(8,.d I (setK t c i:Int))]) (fun _ i=>i≤c.length∧cutE t c=0) (fun i=>c.length - i),
  loopAt 9 Nat [] (fun st i=>St.at (St.only st [0,1,2,4,5,6,22,23,24,34,35]) [(36,.d I (i:Int)),(8,.d I (orB (setK t c (st.i 24).toNat) ((takeC t c (st.i 24).toNat).take i):Int))])
    (fun st i=>i≤(takeC t c (st.i 24).toNat).length∧True) (fun i=>c.length+t.2.1.length - i)]
def cHas:Ctr:=cdet [I,I] (fun (s i:Int)=>(0≤s∧0≤i∧i<64)∧True) (fun (s i:Int)=>[⟨.bool,s.toNat.testBit i.toNat⟩])
def cBitsF:Ctr:=cdet [I] (fun _=>True) (fun (s:Int)=>[⟨tF,some (some s,())⟩])
def heard(l:List Ev)(N:Nat)(i:Int):Bool:=decide ((l.getD i.toNat (0,0,())).2.1<0)||N.testBit (l.getD i.toNat (0,0,())).2.1.toNat
def wholeB(t:Tr)(c:List Int):Bool:=(bitsOf (setN t c:Int)).all (heard t.2.1 (setN t c))
def cIs:Ctr:=cdet [tTr,.sl I] (fun _ _=>True) (fun t c=>[⟨.bool,if cutE t c=0 then wholeB t c else false⟩,⟨tErr,cutE t c⟩])
def anIs(t:Tr)(c:List Int):Ann :=
 [joinAll,rangeAt 6 I (List Int) id (fun st _=>St.only st [2,4,5,6,20]) (fun _ l=>cutE t c=0∧∀ y∈l,heard t.2.1 (setN t c) y=true)]
def anBits:Ann:=[freezeAt 1 [1]]
def wholeP(t:Tr)(c:List Int):Prop:=cutE t c=0∧wholeB t c=true
def sumC(l:List Int):Nat:=(l.map Int.toNat).sum
def fineP(t:Tr)(l:List Int)(i:Nat):Prop:=∀ p,p<i→∀ y∈takeC t l p,heard t.2.1 (setN t l) y=true
end Go.Proofs.YtfmiecbmikncpaaDoor.H

namespace Go.Proofs.YtfmiecbmikncpaaDoor
open Go.Vc
def maskB(s n:Int):Bool:=decide (0≤s)&&decide (s<(2:Int) ^ n.toNat)
def cMask:Ctr:=cdet [I,I] (fun (_ n:Int)=>0≤n∧n≤61) (fun (s n:Int)=>[⟨.bool,maskB s n⟩])
def cOChk:Ctr:=cdet [.sl I] (fun (_:List Int)=>True) (fun (l:List Int)=>[⟨tErr,ordE l⟩])
def cBehind:Ctr:=cdet [.sl I] (fun (_:List Int)=>True) (fun (l:List Int)=>[⟨.sl I,if ordE l=0 then clI l else[]⟩,⟨tErr,ordE l⟩])
def cClosed:Ctr:=cdet [.sl I] (fun (l:List Int)=>mskB l=true∧l.length≤12) (fun (l:List Int)=>[⟨.sl I,clI l⟩])
def clK(l:List Int)(k:Nat):List Nat:=(List.range k).foldl (fun out k=>clRow l.length k out) (natL l)
def clKi(l:List Int)(k i:Nat):List Nat:=(List.range i).foldl (clStep k) (clK l k)
def castL(l:List Nat):List Int:=l.map fun (n:Nat)=>(n:Int)
def anClosed(l:List Int):Ann :=
 [joinAll,loopAt 3 Nat [] (fun st k=>{ St.at (St.only st [0,3,9]) [(10,.d I (k:Int))] with ob:=[.row 3 I (castL (clK l k))] }) (fun _ k=>k≤l.length∧True) (fun k=>l.length - k),
  loopAt 6 Nat [] (fun st i=>{ St.at (St.only st [0,3,4,9,10,14]) [(15,.d I (i:Int))] with ob:=[.row 3 I (castL (clKi l (st.i 10).toNat i))] }) (fun _ i=>i≤l.length∧True) (fun i=>l.length - i)]
open Go.Vc
set_option linter.unusedVariables false
theorem vcClosed(l:List Int)(k:List Dat→Prop):vcF ⟨Et,[(38,H.cHas)],glT,[],[]⟩ (anClosed l) (Tryd.f20.body.getD .skip) Tryd.f20.ntmps [(.tmp 2,.sl I)] [⟨.sl I,l⟩] k=(
 l.length≤(1000000000:Nat)∧(∃ (x:Nat),(x≤l.length∧True)∧(l=l∧True∧(↑l.length:Int)=(↑l.length:Int)∧(0:Int)=(↑x:Int)∧True)∧(((3:Nat)=(3:Nat)∧l=castL (clK l x))∧True)∧tabD=tabD∧True)∧∀ (x:Nat),x≤l.length∧True→(decide ((↑x:Int)<(↑l.length:Int))=true→(∃ (x_1:Nat),(x_1≤l.length∧True)∧(l=l∧True∧(↑x:Int)=(↑x:Int)∧(↑l.length:Int)=(↑l.length:Int)∧(↑x:Int)=(↑x:Int)∧(↑(castL (clK l x)).length:Int)=(↑(castL (clK l x)).length:Int)∧(0:Int)=(↑x_1:Int)∧True)∧(((3:Nat)=(3:Nat)∧castL (clK l x)=castL (clKi l (↑x:Int).toNat x_1))∧True)∧tabD=tabD∧True)∧∀ (x_1:Nat),x_1≤l.length∧True→(decide ((↑x_1:Int)<(↑(castL (clK l x)).length:Int))=true→(0:Int)≤(↑x_1:Int)∧(↑x_1:Int)<(↑(castL (clKi l (↑x:Int).toNat x_1)).length:Int)∧(((0:Int)≤(castL (clKi l (↑x:Int).toNat x_1)).getD (↑x_1:Int).toNat (0:Int)∧(0:Int)≤(↑x:Int)∧(↑x:Int)<(64:Int))∧True)∧(((castL (clKi l (↑x:Int).toNat x_1)).getD (↑x_1:Int).toNat (0:Int)).toNat.testBit (↑x:Int).toNat=true→((0:Int)≤(↑x_1:Int)∧(↑x_1:Int)<(↑(castL (clKi l (↑x:Int).toNat x_1)).length:Int)∧(0:Int)≤(↑x:Int)∧(↑x:Int)<(↑(castL (clKi l (↑x:Int).toNat x_1)).length:Int)∧(0:Int)≤(castL (clKi l (↑x:Int).toNat x_1)).getD (↑x_1:Int).toNat (0:Int)∧(0:Int)≤(castL (clKi l (↑x:Int).toNat x_1)).getD (↑x:Int).toNat (0:Int)∧(0:Int)≤(↑x_1:Int)∧(↑x_1:Int)<(↑(castL (clKi l (↑x:Int).toNat x_1)).length:Int)∧True)∧inK IntKind.i64 ((↑x_1:Int)+(1:Int))∧∃ (x_2:Nat),(x_2≤l.length∧True)∧l.length - x_2<l.length - x_1∧(l=l∧True∧(↑x:Int)=(↑x:Int)∧(↑l.length:Int)=(↑l.length:Int)∧(↑x:Int)=(↑x:Int)∧(↑(castL (clK l x)).length:Int)=(↑(castL (clK l x)).length:Int)∧(↑x_1:Int)+(1:Int)=(↑x_2:Int)∧True)∧(((3:Nat)=(3:Nat)∧(castL (clKi l (↑x:Int).toNat x_1)).set (↑x_1:Int).toNat (↑(((castL (clKi l (↑x:Int).toNat x_1)).getD (↑x_1:Int).toNat (0:Int)).toNat ||| ((castL (clKi l (↑x:Int).toNat x_1)).getD (↑x:Int).toNat (0:Int)).toNat):Int)=castL (clKi l (↑x:Int).toNat x_2))∧True)∧tabD=tabD∧True)∧(((castL (clKi l (↑x:Int).toNat x_1)).getD (↑x_1:Int).toNat (0:Int)).toNat.testBit (↑x:Int).toNat=false→inK IntKind.i64 ((↑x_1:Int)+(1:Int))∧∃ (x_2:Nat),(x_2≤l.length∧True)∧l.length - x_2<l.length - x_1∧(l=l∧True∧(↑x:Int)=(↑x:Int)∧(↑l.length:Int)=(↑l.length:Int)∧(↑x:Int)=(↑x:Int)∧(↑(castL (clK l x)).length:Int)=(↑(castL (clK l x)).length:Int)∧(↑x_1:Int)+(1:Int)=(↑x_2:Int)∧True)∧(((3:Nat)=(3:Nat)∧castL (clKi l (↑x:Int).toNat x_1)=castL (clKi l (↑x:Int).toNat x_2))∧True)∧tabD=tabD∧True))∧(decide ((↑x_1:Int)<(↑(castL (clK l x)).length:Int))=false→inK IntKind.i64 ((↑x:Int)+(1:Int))∧∃ (x_2:Nat),(x_2≤l.length∧True)∧l.length - x_2<l.length - x∧(l=l∧True∧(↑l.length:Int)=(↑l.length:Int)∧(↑x:Int)+(1:Int)=(↑x_2:Int)∧True)∧(((3:Nat)=(3:Nat)∧castL (clKi l (↑x:Int).toNat x_1)=castL (clK l x_2))∧True)∧tabD=tabD∧True))∧(decide ((↑x:Int)<(↑l.length:Int))=false→k [Dat.mk (I).sl (castL (clK l x))])):=by kernel_rfl
open Go.Vc
set_option linter.unusedVariables false
theorem vcMask(s n:Int)(k:List Dat→Prop):vcF ⟨Et,[],[],[],[]⟩ [joinAll] (Tryd.f41.body.getD .skip) Tryd.f41.ntmps [(.tmp 4,.bool)] [⟨I,s⟩,⟨I,n⟩] k=(
 (decide ((0:Int)≤s)=true→(0:Int)≤n∧n<(64:Int)∧IntKind.i64.bits=(64:Nat)∧inK IntKind.i64 ((1:Int)*(2:Int) ^ n.toNat)∧k [Dat.mk Ty.bool (decide (s<(1:Int)*(2:Int) ^ n.toNat))])∧(decide ((0:Int)≤s)=false→k [Dat.mk Ty.bool false])):=by kernel_rfl
open Go.Vc
theorem mask_vc(s n:Int)(k:List Dat→Prop)(h0:0≤n)(h61:n≤61)(hk:k [⟨.bool,maskB s n⟩]):vcF ⟨Et,[],[],[],[]⟩ [joinAll] (Tryd.f41.body.getD .skip) Tryd.f41.ntmps [(.tmp 4,.bool)] [⟨I,s⟩,⟨I,n⟩] k:=by
 rw[vcMask]
 have hp1:=two_pow_le (n:=n.toNat) (by omega)
 have hp2:=two_pow_pos n.toNat
 rw[Int.one_mul]
 unfold maskB at hk
 refine⟨fun h=>⟨h0,by omega,rfl,inK_i64.2 (by omega),?_⟩,fun h => ?_⟩
 · rw[h,Bool.true_and] at hk;exact hk
 · rw[h,Bool.false_and] at hk;exact hk
theorem okMask:PlainOk Tryd.prog [] 41 cMask:=by
 refine plain_of (CxOk.mk' Et_ok rfl mixed (gl:=[]) GOk.nil GoOk.nil noIt) Tryd.func41 (c:=Tryd.f41.body.getD .skip) (rvs:=[(.tmp 4,.bool)]) (by kernel_rfl) (by kernel_rfl) (by kernel_rfl) ?_
 intro ds k ⟨hp,hk⟩ hwf
 obtain⟨s,n,rfl,h0,h61⟩:=dest2 hp
 exact⟨[joinAll],mask_vc s n k h0 h61 hk⟩
open Go.Vc H
set_option linter.unusedVariables false
theorem vcOfs(t:Tr)(c:List Int)(k:List Dat→Prop):vcF ⟨Ez,[(7,cCheck),(23,cWithin),(46,cOf)],glT,[],[]⟩ (anOfs t c) (Tryd.f28.body.getD .skip) Tryd.f28.ntmps [(.tmp 4,.sl (.sl I)),(.tmp 5,tErr)] [⟨tTr,t⟩,⟨.sl I,c⟩] k=(
 (∃ (x:Nat),(((↑x:Int)≤t.fst∨x=(0:Nat))∧((0:Int)<t.fst→chk t=(0:Int)∨x=(0:Nat)))∧(t=t∧c=c∧([]:List Nat)=[]∧True∧(0:Int)=(0:Int)∧True∧t.fst=t.fst∧(0:Int)=(↑x:Int)∧True)∧(((24:Nat)=(24:Nat)∧t=t)∧((25:Nat)=(25:Nat)∧[]=rowsT t x)∧True)∧tabD=tabD∧True)∧∀ (x:Nat),((↑x:Int)≤t.fst∨x=(0:Nat))∧((0:Int)<t.fst→chk t=(0:Int)∨x=(0:Nat))→(decide ((↑x:Int)<t.fst)=true→True∧((!decide (ofE t (↑x:Int)=(0:Int)))=true→k [Dat.mk (I).sl.sl [],Dat.mk (Ty.err (53:Nat)) (ofE t (↑x:Int))])∧((!decide (ofE t (↑x:Int)=(0:Int)))=false→(rowsT t x).length+((List.replicate (1:Nat) []).set (0:Nat) (if ofE t (↑x:Int)=(0:Int) then ofT t (↑x:Int) else[])).length≤(1000000000:Nat)∧inK IntKind.i64 ((↑x:Int)+(1:Int))∧∃ (x_1:Nat),(((↑x_1:Int)≤t.fst∨x_1=(0:Nat))∧((0:Int)<t.fst→chk t=(0:Int)∨x_1=(0:Nat)))∧t.fst.toNat - x_1<t.fst.toNat - x∧(t=t∧c=c∧([]:List Nat)=[]∧True∧(0:Int)=(0:Int)∧True∧t.fst=t.fst∧(↑x:Int)+(1:Int)=(↑x_1:Int)∧True)∧(((24:Nat)=(24:Nat)∧t=t)∧((25:Nat)=(25:Nat)∧(rowsT t x).append ((List.replicate (1:Nat) []).set (0:Nat) (if ofE t (↑x:Int)=(0:Int) then ofT t (↑x:Int) else[]))=rowsT t x_1)∧True)∧tabD=tabD∧True))∧(decide ((↑x:Int)<t.fst)=false→True∧((!decide (chk t=(0:Int)))=true→k [Dat.mk (I).sl.sl [],Dat.mk (Ty.err (53:Nat)) (chk t)])∧((!decide (chk t=(0:Int)))=false→((!decide ((↑c.length:Int)=t.fst))=true→(3:Int)≠(0:Int)∧k [Dat.mk (I).sl.sl [],Dat.mk (Ty.err (53:Nat)) (3:Int)])∧((!decide ((↑c.length:Int)=t.fst))=false→(∃ (x_1:Nat),(x_1≤c.length∧chk t=(0:Int)∧(↑c.length:Int)=t.fst∧∀ (p:Nat),p<x_1→inB (c.getD p (0:Int)) (0:Int) (↑(ofT t (↑p:Int)).length:Int)=true)∧(t=t∧c=c∧([]:List Nat)=[]∧True∧(0:Int)=(0:Int)∧True∧c=c∧(↑c.length:Int)=(↑c.length:Int)∧(0:Int)=(↑x_1:Int)∧True)∧(((24:Nat)=(24:Nat)∧t=t)∧((25:Nat)=(25:Nat)∧rowsT t x=rowsT t x)∧True)∧tabD=tabD∧True)∧∀ (x_1:Nat),(x_1≤c.length∧chk t=(0:Int)∧(↑c.length:Int)=t.fst∧∀ (p:Nat),p<x_1→inB (c.getD p (0:Int)) (0:Int) (↑(ofT t (↑p:Int)).length:Int)=true)→(decide ((↑x_1:Int)<(↑c.length:Int))=true→(0:Int)≤(↑x_1:Int)∧(↑x_1:Int)<(↑c.length:Int)∧(0:Int)≤(↑x_1:Int)∧(↑x_1:Int)<(↑(rowsT t x).length:Int)∧True∧((!inB (c.getD (↑x_1:Int).toNat (0:Int)) (0:Int) (↑((rowsT t x).getD (↑x_1:Int).toNat []).length:Int))=true→(1:Int)≠(0:Int)∧k [Dat.mk (I).sl.sl [],Dat.mk (Ty.err (53:Nat)) (1:Int)])∧((!inB (c.getD (↑x_1:Int).toNat (0:Int)) (0:Int) (↑((rowsT t x).getD (↑x_1:Int).toNat []).length:Int))=false→inK IntKind.i64 ((↑x_1:Int)+(1:Int))∧∃ (x_2:Nat),(x_2≤c.length∧chk t=(0:Int)∧(↑c.length:Int)=t.fst∧∀ (p:Nat),p<x_2→inB (c.getD p (0:Int)) (0:Int) (↑(ofT t (↑p:Int)).length:Int)=true)∧c.length - x_2<c.length - x_1∧(t=t∧c=c∧([]:List Nat)=[]∧True∧(0:Int)=(0:Int)∧True∧c=c∧(↑c.length:Int)=(↑c.length:Int)∧(↑x_1:Int)+(1:Int)=(↑x_2:Int)∧True)∧(((24:Nat)=(24:Nat)∧t=t)∧((25:Nat)=(25:Nat)∧rowsT t x=rowsT t x)∧True)∧tabD=tabD∧True))∧(decide ((↑x_1:Int)<(↑c.length:Int))=false→k [Dat.mk (I).sl.sl (rowsT t x),Dat.mk (Ty.err (53:Nat)) (0:Int)]))))):=by kernel_rfl
end Go.Proofs.YtfmiecbmikncpaaDoor

namespace Go.Proofs.YtfmiecbmikncpaaDoor.H
open Go.Vc
theorem rowsT_succ(t:Tr)(k:Nat):rowsT t (k+1)=rowsT t k++[ofT t (k:Int)]:=by
 unfold rowsT
 rw[List.range_succ,List.map_append];rfl
theorem rowsT_len(t:Tr)(k:Nat):(rowsT t k).length=k:=by simp[rowsT]
theorem rowsT_getD(t:Tr){k p:Nat}(h:p<k):(rowsT t k).getD p []=ofT t (p:Int):=by
 unfold rowsT
 rw[List.getD_eq_getElem?_getD,List.getElem?_map,List.getElem?_range h];rfl
theorem ofE_of{t:Tr}{x:Nat}(hx:(x:Int)<t.1):ofE t (x:Int)=chk t:=by
 unfold ofE
 by_cases h:chk t=0
 · rw[if_pos h,if_pos (by unfold inB;simp;omega),h]
 · rw[if_neg h]
theorem ofs_vc(t:Tr)(c:List Int)(k:List Dat→Prop)(ht:inK .i64 t.1)(hc:c.length≤maxLen)(hk:k [⟨.sl (.sl I),if cutE t c=0 then rowsT t t.1.toNat else[]⟩,⟨tErr,cutE t c⟩]) :
   vcF ⟨Ez,[(7,cCheck),(23,cWithin),(46,cOf)],glT,[],[]⟩ (anOfs t c) (Tryd.f28.body.getD .skip) Tryd.f28.ntmps [(.tmp 4,.sl (.sl I)),(.tmp 5,tErr)] [⟨tTr,t⟩,⟨.sl I,c⟩] k:=by
 rw[vcOfs]
 have hml:maxLen≤9223372036854775807:=by decide
 simp only[decide_eq_true_eq,decide_eq_false_iff_not,and_true,true_and,Bool.not_eq_true',Bool.not_eq_false',Int.toNat_natCast]
 have hb:=inK_i64.1 ht
 have bad:chk t≠0→k [⟨.sl (.sl I),[]⟩,⟨tErr,chk t⟩]:=by
   intro h
   have e:cutE t c=chk t:=by unfold cutE;rw[if_neg h]
   rw[e,if_neg h] at hk;exact hk
 refine⟨⟨0,⟨.inr rfl,fun _ => .inr rfl⟩,rfl,rfl⟩,fun x ⟨hx,hx2⟩=>⟨fun hlt => ?_,fun hge=>⟨bad,fun h=>⟨fun hne=>⟨by decide,?_⟩,fun heq => ?_⟩⟩⟩⟩
 · rw[ofE_of hlt]
   refine⟨bad,fun h => ?_⟩
   have hpr:=(good_of h).procs
   rw[rowsT_len]
   refine⟨by simp only[List.replicate,List.set,List.length_cons,List.length_nil];omega,inK_i64.2 (by omega),x+1,⟨by omega,fun _ => .inl h⟩,by omega,rfl,?_⟩
   rw[if_pos h,rowsT_succ];rfl
 · have e:cutE t c=3:=by unfold cutE;rw[if_pos h,if_neg hne]
   rw[e] at hk;exact hk
 · have hpr:=(good_of h).procs
   have hx3:x=t.1.toNat:=by omega
   subst hx3
   simp only[rowsT_len]
   refine⟨⟨0,⟨by omega,h,heq,fun p hp=>by omega⟩,rfl⟩,fun y ⟨hy,_,_,hall⟩=>⟨fun hlt => ?_,fun hge2 => ?_⟩⟩
   · have hyt:y<t.1.toNat:=by omega
     simp only[rowsT_getD t hyt]
     refine⟨by omega,hlt,by omega,by omega,fun hw=>⟨by decide,?_⟩,fun hw=>⟨inK_i64.2 (by omega),y+1,⟨by omega,h,heq,fun p hp => ?_⟩,by omega,rfl⟩⟩
     · have hno:cutOk t c=false:=by
         cases hcase:cutOk t c with
         | false=>rfl
         | true =>
           have:=List.all_eq_true.1 hcase y (List.mem_range.2 (by omega))
           rw[hw] at this;cases this
       have e:cutE t c=1:=by unfold cutE;rw[if_pos h,if_pos heq,if_neg (by rw[hno];decide)]
       rw[e] at hk;exact hk
     · rcases Nat.lt_or_ge p y with hpy | hpy
       · exact hall p hpy
       · have:p=y:=by omega
         subst this
         exact hw
   · have hyes:cutOk t c=true:=List.all_eq_true.2 fun p hp=>hall p (by have:=List.mem_range.1 hp;omega)
     have e:cutE t c=0:=by unfold cutE;rw[if_pos h,if_pos heq,if_pos hyes]
     rw[e] at hk;exact hk
theorem okOfs:PlainOk Tryd.prog glT 28 cOfs:=by
 refine plain_of (CxOk.mk' Ez_ok rfl mixed (gl:=glT) (GOk.cons (lift okCheck) Tryd.func7 (by kernel_rfl) (by kernel_rfl) (GOk.cons (lift okWithin) Tryd.func23 (by kernel_rfl) (by kernel_rfl) (GOk.cons (lift okOf) Tryd.func46 (by kernel_rfl) (by kernel_rfl) GOk.nil))) GoOk.nil noIt) Tryd.func28 (c:=Tryd.f28.body.getD .skip) (rvs:=[(.tmp 4,.sl (.sl I)),(.tmp 5,tErr)]) (by kernel_rfl) (by kernel_rfl) (by kernel_rfl) ?_
 intro ds k ⟨hp,hk⟩ hwf
 obtain⟨t,c,rfl,-⟩:=dest2 hp
 exact⟨anOfs t c,ofs_vc t c k (wf2 hwf).1.1 (wf2 hwf).2.1 hk⟩
end Go.Proofs.YtfmiecbmikncpaaDoor.H

namespace Go.Proofs.YtfmiecbmikncpaaDoor
open Go.Vc H
set_option linter.unusedVariables false
theorem vcEvents(t:Tr)(c:List Int)(k:List Dat→Prop):vcF ⟨Ez,[(28,cOfs)],glT,[],[]⟩ (anEvents t c) (Tryd.f47.body.getD .skip) Tryd.f47.ntmps [(.tmp 4,I),(.tmp 5,tErr)] [⟨tTr,t⟩,⟨.sl I,c⟩] k=(
 True∧((!decide (cutE t c=(0:Int)))=true→k [Dat.mk (I) (0:Int),Dat.mk (Ty.err (53:Nat)) (cutE t c)])∧((!decide (cutE t c=(0:Int)))=false→(∃ (x:Nat),(x≤c.length∧cutE t c=(0:Int))∧(t=t∧c=c∧([]:List Nat)=[]∧(0:Int)=(0:Int)∧(0:Int)=(0:Int)∧((if cutE t c=(0:Int) then rowsT t (Int.toNat t.fst) else[])=if cutE t c=(0:Int) then rowsT t (Int.toNat t.fst) else[])∧(0:Int)=(↑(setK t c x):Int)∧c=c∧(↑c.length:Int)=(↑c.length:Int)∧(0:Int)=(↑x:Int)∧True)∧(((24:Nat)=(24:Nat)∧t=t)∧True)∧tabD=tabD∧True)∧∀ (x:Nat),x≤c.length∧cutE t c=(0:Int)→(decide ((↑x:Int)<(↑c.length:Int))=true→(0:Int)≤(↑x:Int)∧(↑x:Int)<(↑c.length:Int)∧(0:Int)≤(↑x:Int)∧(↑x:Int)<(↑(if cutE t c=(0:Int) then rowsT t (Int.toNat t.fst) else[]).length:Int)∧(0:Int)≤(0:Int)∧(0:Int)≤c.getD (↑x:Int).toNat (0:Int)∧c.getD (↑x:Int).toNat (0:Int)≤(↑((if cutE t c=(0:Int) then rowsT t (Int.toNat t.fst) else[]).getD (↑x:Int).toNat []).length:Int)∧(∃ (x_1:Nat),(x_1≤(takeC t c (↑x:Int).toNat).length∧True)∧(t=t∧c=c∧([]:List Nat)=[]∧(0:Int)=(0:Int)∧(0:Int)=(0:Int)∧((if cutE t c=(0:Int) then rowsT t (Int.toNat t.fst) else[])=if cutE t c=(0:Int) then rowsT t (Int.toNat t.fst) else[])∧(↑(setK t c x):Int)=(↑(orB (setK t c (↑x:Int).toNat) (List.take x_1 (takeC t c (↑x:Int).toNat))):Int)∧c=c∧(↑c.length:Int)=(↑c.length:Int)∧(↑x:Int)=(↑x:Int)∧List.drop (Int.toNat (0:Int)) (List.take (c.getD (↑x:Int).toNat (0:Int)).toNat ((if cutE t c=(0:Int) then rowsT t (Int.toNat t.fst) else[]).getD (↑x:Int).toNat []))=List.drop (Int.toNat (0:Int)) (List.take (c.getD (↑x:Int).toNat (0:Int)).toNat ((if cutE t c=(0:Int) then rowsT t (Int.toNat t.fst) else[]).getD (↑x:Int).toNat []))∧(↑(List.drop (Int.toNat (0:Int)) (List.take (c.getD (↑x:Int).toNat (0:Int)).toNat ((if cutE t c=(0:Int) then rowsT t (Int.toNat t.fst) else[]).getD (↑x:Int).toNat []))).length:Int)=(↑(List.drop (Int.toNat (0:Int)) (List.take (c.getD (↑x:Int).toNat (0:Int)).toNat ((if cutE t c=(0:Int) then rowsT t (Int.toNat t.fst) else[]).getD (↑x:Int).toNat []))).length:Int)∧(0:Int)=(↑x_1:Int)∧True)∧(((24:Nat)=(24:Nat)∧t=t)∧True)∧tabD=tabD∧True)∧∀ (x_1:Nat),x_1≤(takeC t c (↑x:Int).toNat).length∧True→(decide ((↑x_1:Int)<(↑(List.drop (Int.toNat (0:Int)) (List.take (c.getD (↑x:Int).toNat (0:Int)).toNat ((if cutE t c=(0:Int) then rowsT t (Int.toNat t.fst) else[]).getD (↑x:Int).toNat []))).length:Int))=true→(0:Int)≤(↑x_1:Int)∧(↑x_1:Int)<(↑(List.drop (Int.toNat (0:Int)) (List.take (c.getD (↑x:Int).toNat (0:Int)).toNat ((if cutE t c=(0:Int) then rowsT t (Int.toNat t.fst) else[]).getD (↑x:Int).toNat []))).length:Int)∧(0:Int)≤(List.drop (Int.toNat (0:Int)) (List.take (c.getD (↑x:Int).toNat (0:Int)).toNat ((if cutE t c=(0:Int) then rowsT t (Int.toNat t.fst) else[]).getD (↑x:Int).toNat []))).getD (↑x_1:Int).toNat (0:Int)∧(List.drop (Int.toNat (0:Int)) (List.take (c.getD (↑x:Int).toNat (0:Int)).toNat ((if cutE t c=(0:Int) then rowsT t (Int.toNat t.fst) else[]).getD (↑x:Int).toNat []))).getD (↑x_1:Int).toNat (0:Int)<(64:Int)∧IntKind.i64.bits=(64:Nat)∧inK IntKind.i64 ((1:Int)*(2:Int) ^ ((List.drop (Int.toNat (0:Int)) (List.take (c.getD (↑x:Int).toNat (0:Int)).toNat ((if cutE t c=(0:Int) then rowsT t (Int.toNat t.fst) else[]).getD (↑x:Int).toNat []))).getD (↑x_1:Int).toNat (0:Int)).toNat)∧(0:Int)≤(↑(orB (setK t c (↑x:Int).toNat) (List.take x_1 (takeC t c (↑x:Int).toNat))):Int)∧(0:Int)≤(1:Int)*(2:Int) ^ ((List.drop (Int.toNat (0:Int)) (List.take (c.getD (↑x:Int).toNat (0:Int)).toNat ((if cutE t c=(0:Int) then rowsT t (Int.toNat t.fst) else[]).getD (↑x:Int).toNat []))).getD (↑x_1:Int).toNat (0:Int)).toNat∧inK IntKind.i64 ((↑x_1:Int)+(1:Int))∧∃ (x_2:Nat),(x_2≤(takeC t c (↑x:Int).toNat).length∧True)∧c.length+t.snd.fst.length - x_2<c.length+t.snd.fst.length - x_1∧(t=t∧c=c∧([]:List Nat)=[]∧(0:Int)=(0:Int)∧(0:Int)=(0:Int)∧((if cutE t c=(0:Int) then rowsT t (Int.toNat t.fst) else[])=if cutE t c=(0:Int) then rowsT t (Int.toNat t.fst) else[])∧(↑((↑(orB (setK t c (↑x:Int).toNat) (List.take x_1 (takeC t c (↑x:Int).toNat))):Int).toNat ||| ((1:Int)*(2:Int) ^ ((List.drop (Int.toNat (0:Int)) (List.take (c.getD (↑x:Int).toNat (0:Int)).toNat ((if cutE t c=(0:Int) then rowsT t (Int.toNat t.fst) else[]).getD (↑x:Int).toNat []))).getD (↑x_1:Int).toNat (0:Int)).toNat).toNat):Int)=(↑(orB (setK t c (↑x:Int).toNat) (List.take x_2 (takeC t c (↑x:Int).toNat))):Int)∧c=c∧(↑c.length:Int)=(↑c.length:Int)∧(↑x:Int)=(↑x:Int)∧List.drop (Int.toNat (0:Int)) (List.take (c.getD (↑x:Int).toNat (0:Int)).toNat ((if cutE t c=(0:Int) then rowsT t (Int.toNat t.fst) else[]).getD (↑x:Int).toNat []))=List.drop (Int.toNat (0:Int)) (List.take (c.getD (↑x:Int).toNat (0:Int)).toNat ((if cutE t c=(0:Int) then rowsT t (Int.toNat t.fst) else[]).getD (↑x:Int).toNat []))∧(↑(List.drop (Int.toNat (0:Int)) (List.take (c.getD (↑x:Int).toNat (0:Int)).toNat ((if cutE t c=(0:Int) then rowsT t (Int.toNat t.fst) else[]).getD (↑x:Int).toNat []))).length:Int)=(↑(List.drop (Int.toNat (0:Int)) (List.take (c.getD (↑x:Int).toNat (0:Int)).toNat ((if cutE t c=(0:Int) then rowsT t (Int.toNat t.fst) else[]).getD (↑x:Int).toNat []))).length:Int)∧(↑x_1:Int)+(1:Int)=(↑x_2:Int)∧True)∧(((24:Nat)=(24:Nat)∧t=t)∧True)∧tabD=tabD∧True)∧(decide ((↑x_1:Int)<(↑(List.drop (Int.toNat (0:Int)) (List.take (c.getD (↑x:Int).toNat (0:Int)).toNat ((if cutE t c=(0:Int) then rowsT t (Int.toNat t.fst) else[]).getD (↑x:Int).toNat []))).length:Int))=false→inK IntKind.i64 ((↑x:Int)+(1:Int))∧∃ (x_2:Nat),(x_2≤c.length∧cutE t c=(0:Int))∧c.length - x_2<c.length - x∧(t=t∧c=c∧([]:List Nat)=[]∧(0:Int)=(0:Int)∧(0:Int)=(0:Int)∧((if cutE t c=(0:Int) then rowsT t (Int.toNat t.fst) else[])=if cutE t c=(0:Int) then rowsT t (Int.toNat t.fst) else[])∧(↑(orB (setK t c (↑x:Int).toNat) (List.take x_1 (takeC t c (↑x:Int).toNat))):Int)=(↑(setK t c x_2):Int)∧c=c∧(↑c.length:Int)=(↑c.length:Int)∧(↑x:Int)+(1:Int)=(↑x_2:Int)∧True)∧(((24:Nat)=(24:Nat)∧t=t)∧True)∧tabD=tabD∧True))∧(decide ((↑x:Int)<(↑c.length:Int))=false→k [Dat.mk (I) (↑(setK t c x):Int),Dat.mk (Ty.err (53:Nat)) (0:Int)]))):=by kernel_rfl
theorem vcHas(s i:Int)(k:List Dat→Prop):vcF ⟨Ez,[],glT,[],[]⟩ [] (Tryd.f38.body.getD .skip) Tryd.f38.ntmps [(.tmp 4,.bool)] [⟨I,s⟩,⟨I,i⟩] k=(
 (0:Int)≤i∧i<(64:Int)∧IntKind.i64.bits=(64:Nat)∧inK IntKind.i64 (s/(2:Int) ^ i.toNat)∧(0:Int)≤s/(2:Int) ^ i.toNat∧(0:Int)≤(1:Int)∧k [Dat.mk Ty.bool (decide ((↑((s/(2:Int) ^ i.toNat).toNat &&& Int.toNat (1:Int)):Int)=(1:Int)))]):=by kernel_rfl
theorem vcBits(s:Int)(k:List Dat→Prop):vcF ⟨Ez,[],glT,[],[]⟩ anBits (Tryd.f26.body.getD .skip) Tryd.f26.ntmps [(.tmp 2,tF)] [⟨I,s⟩] k=(
 k [Dat.mk (Ty.fn (44:Nat) ((I).ptr.pr Ty.un)) (some (some s,()))]):=by kernel_rfl
theorem vcIs(t:Tr)(c:List Int)(k:List Dat→Prop):vcF ⟨Ez,[(47,cEvents),(26,cBitsF),(38,cHas)],glT,[(44,cBits)],[]⟩ (anIs t c) (Tryd.f32.body.getD .skip) Tryd.f32.ntmps [(.cell 4 4,.bool),(.cell 5 27,tErr)] [⟨tTr,t⟩,⟨.sl I,c⟩] k=(
 True∧((!decide (cutE t c=(0:Int)))=true→k [Dat.mk Ty.bool false,Dat.mk (Ty.err (53:Nat)) (cutE t c)])∧((!decide (cutE t c=(0:Int)))=false→True∧(∃ (x:List Int),(cutE t c=(0:Int)∧∀ (y:Int),y∈x→heard t.snd.fst (setN t c) y=true)∧x=[]∧(([]:List Nat)=[]∧([]:List Nat)=[]∧([]:List Nat)=[]∧([]:List Nat)=[]∧some (some (setE t c),())=some (some (setE t c),())∧True)∧(((24:Nat)=(24:Nat)∧t=t)∧((4:Nat)=(4:Nat)∧false=false)∧((27:Nat)=(27:Nat)∧(0:Int)=(0:Int))∧((3:Nat)=(3:Nat)∧setE t c=setE t c)∧True)∧tabD=tabD∧True)∧(∀ (x:List Int),(cutE t c=(0:Int)∧∀ (y:Int),y∈x→heard t.snd.fst (setN t c) y=true)→some (some (setE t c),())=some (some (setE t c),()))∧(∀ (x:List Int) (y:Int) (rest:List Int),(cutE t c=(0:Int)∧∀ (y:Int),y∈x→heard t.snd.fst (setN t c) y=true)→bitsOf (setE t c)=x++y::rest→(0:Int)≤y∧y<(↑(List.length t.snd.fst):Int)∧(decide ((0:Int)≤(List.getD t.snd.fst y.toNat ((0:Int),(0:Int),())).snd.fst)=true→(((0:Int)≤setE t c∧(0:Int)≤(List.getD t.snd.fst y.toNat ((0:Int),(0:Int),())).snd.fst∧(List.getD t.snd.fst y.toNat ((0:Int),(0:Int),())).snd.fst<(64:Int))∧True)∧((!(setE t c).toNat.testBit (Int.toNat (List.getD t.snd.fst y.toNat ((0:Int),(0:Int),())).snd.fst))=true→k [Dat.mk Ty.bool false,Dat.mk (Ty.err (53:Nat)) (0:Int)])∧((!(setE t c).toNat.testBit (Int.toNat (List.getD t.snd.fst y.toNat ((0:Int),(0:Int),())).snd.fst))=false→∃ (x_1:List Int),(cutE t c=(0:Int)∧∀ (y:Int),y∈x_1→heard t.snd.fst (setN t c) y=true)∧x_1=x++[y]∧(([]:List Nat)=[]∧([]:List Nat)=[]∧([]:List Nat)=[]∧([]:List Nat)=[]∧some (some (setE t c),())=some (some (setE t c),())∧True)∧(((24:Nat)=(24:Nat)∧t=t)∧((4:Nat)=(4:Nat)∧false=false)∧((27:Nat)=(27:Nat)∧(0:Int)=(0:Int))∧((3:Nat)=(3:Nat)∧setE t c=setE t c)∧True)∧tabD=tabD∧True))∧(decide ((0:Int)≤(List.getD t.snd.fst y.toNat ((0:Int),(0:Int),())).snd.fst)=false→∃ (x_1:List Int),(cutE t c=(0:Int)∧∀ (y:Int),y∈x_1→heard t.snd.fst (setN t c) y=true)∧x_1=x++[y]∧(([]:List Nat)=[]∧([]:List Nat)=[]∧([]:List Nat)=[]∧([]:List Nat)=[]∧some (some (setE t c),())=some (some (setE t c),())∧True)∧(((24:Nat)=(24:Nat)∧t=t)∧((4:Nat)=(4:Nat)∧false=false)∧((27:Nat)=(27:Nat)∧(0:Int)=(0:Int))∧((3:Nat)=(3:Nat)∧setE t c=setE t c)∧True)∧tabD=tabD∧True))∧∀ (x:List Int),(cutE t c=(0:Int)∧∀ (y:Int),y∈x→heard t.snd.fst (setN t c) y=true)→x=bitsOf (setE t c)→k [Dat.mk Ty.bool true,Dat.mk (Ty.err (53:Nat)) (0:Int)])):=by kernel_rfl
end Go.Proofs.YtfmiecbmikncpaaDoor

namespace Go.Proofs.YtfmiecbmikncpaaDoor.H
open Go.Vc
theorem cut_ok{t:Tr}{c:List Int}(h:cutE t c=0):chk t=0∧(c.length:Int)=t.1∧∀ p,p<c.length→0≤c.getD p 0∧c.getD p 0≤((ofT t (p:Int)).length:Int):=by
 unfold cutE at h
 split at h
 · rename_i h1
   split at h
   · rename_i h2
     split at h
     · rename_i h3
       refine⟨h1,h2,fun p hp => ?_⟩
       have:=List.all_eq_true.1 h3 p (List.mem_range.2 hp)
       unfold inB at this
       simpa using this
     · exact absurd h (by decide)
   · exact absurd h (by decide)
 · rename_i h1;exact absurd h h1
theorem ofT_mem{t:Tr}{p x:Int}(h:x∈ofT t p):0≤x∧x<(t.2.1.length:Int)∧(t.2.1.getD x.toNat (0,0,())).1=p:=by
 unfold ofT ofU at h
 obtain⟨i,hi,rfl⟩:=List.mem_map.1 h
 obtain⟨h1,h2⟩:=List.mem_filter.1 hi
 have:=List.mem_range.1 h1
 exact⟨by omega,by omega,by simpa using h2⟩
theorem takeC_mem{t:Tr}{c:List Int}{p:Nat}{x:Int}(h:x∈takeC t c p):0≤x∧x<(t.2.1.length:Int)∧(t.2.1.getD x.toNat (0,0,())).1=(p:Int):=ofT_mem (List.mem_of_mem_take h)
theorem setK_succ(t:Tr)(c:List Int)(k:Nat):setK t c (k+1)=orB (setK t c k) (takeC t c k):=by
 unfold setK
 rw[List.range_succ,List.foldl_append];rfl
theorem orB_snoc(s:Nat)(l:List Int)(x:Int):orB s (l++[x])=orB s l ||| 2 ^ x.toNat:=by
 unfold orB
 rw[List.foldl_append];rfl
theorem getD_at{l:List Int}{i:Nat}(h:i<l.length):l.getD i 0=l[i]:=by
 rw[List.getD_eq_getElem?_getD,List.getElem?_eq_getElem h];rfl
theorem take_snoc{l:List Int}{i:Nat}(h:i<l.length):l.take (i+1)=l.take i++[l.getD i 0]:=by
 rw[List.take_add_one,List.getElem?_eq_getElem h,getD_at h];rfl
theorem orB_bit(l:List Int):∀ (s i:Nat),(orB s l).testBit i=true↔s.testBit i=true∨∃ x∈l,x.toNat=i:=by
 induction l with
 | nil=>intro s i;simp[orB]
 | cons a r ih =>
   intro s i
   have:orB s (a::r)=orB (s ||| 2 ^ a.toNat) r:=rfl
   rw[this,ih,bit_or2]
   constructor
   · rintro ((h | h) | ⟨x,hx,h⟩)
     · exact .inl h
     · exact .inr ⟨a,.head _,h.symm⟩
     · exact .inr ⟨x,.tail _ hx,h⟩
   · rintro (h | ⟨x,hx,h⟩)
     · exact .inl (.inl h)
     · rcases List.mem_cons.1 hx with rfl | hx
       · exact .inl (.inr h.symm)
       · exact .inr ⟨x,hx,h⟩
theorem setK_bit(t:Tr)(c:List Int)(i:Nat):∀ k,(setK t c k).testBit i=true↔∃ p,p<k∧(i:Int)∈takeC t c p:=by
 intro k
 induction k with
 | zero =>
   have:setK t c 0=0:=rfl
   rw[this,Nat.zero_testBit]
   exact⟨fun h=>(by cases h),fun⟨p,h,_⟩=>absurd h (by omega)⟩
 | succ k ih =>
   rw[setK_succ,orB_bit,ih]
   constructor
   · rintro (⟨p,hp,h⟩ | ⟨x,hx,h⟩)
     · exact⟨p,by omega,h⟩
     · have:=(takeC_mem hx).1
       have e:x=(i:Int):=by omega
       exact⟨k,by omega,e▸hx⟩
   · rintro⟨p,hp,h⟩
     rcases Nat.lt_or_ge p k with hl | hl
     · exact .inl ⟨p,hl,h⟩
     · have:p=k:=by omega
       subst this
       exact .inr ⟨_,h,rfl⟩
theorem setN_lt{t:Tr}(g:Good t)(c:List Int)(k:Nat):setK t c k<2 ^ 24:=by
 apply Nat.lt_pow_two_of_testBit
 intro i hi
 cases h:(setK t c k).testBit i with
 | false=>rfl
 | true =>
   obtain⟨p,_,hm⟩:=(setK_bit t c i k).1 h
   have:=takeC_mem hm
   have:=g.len
   omega
theorem events_vc(t:Tr)(c:List Int)(k:List Dat→Prop)(hk:k [⟨I,setE t c⟩,⟨tErr,cutE t c⟩]) :
   vcF ⟨Ez,[(28,cOfs)],glT,[],[]⟩ (anEvents t c) (Tryd.f47.body.getD .skip) Tryd.f47.ntmps [(.tmp 4,I),(.tmp 5,tErr)] [⟨tTr,t⟩,⟨.sl I,c⟩] k:=by
 rw[vcEvents]
 simp only[decide_eq_true_eq,decide_eq_false_iff_not,and_true,true_and,Bool.not_eq_true',Bool.not_eq_false',Int.toNat_natCast]
 refine⟨fun h => ?_,fun h => ?_⟩
 · have e:setE t c=0:=by unfold setE;rw[if_neg h]
   rw[e] at hk;exact hk
 · obtain⟨h1,h2,h3⟩:=cut_ok h
   have g:=good_of h1
   have hl:=g.len
   have hpr:=g.procs
   have hif:(if cutE t c=0 then rowsT t t.1.toNat else[])=rowsT t t.1.toNat:=if_pos h
   simp only[hif,rowsT_len]
   simp only[h,and_true]
   refine⟨⟨0,by omega,rfl,rfl⟩,fun x hx=>⟨fun hlt => ?_,fun hge => ?_⟩⟩
   · have hxt:x<t.1.toNat:=by omega
     have hc:=h3 x (by omega)
     have htk:List.drop (Int.toNat (0:Int)) (List.take (c.getD x 0).toNat (ofT t (x:Int)))=takeC t c x:=rfl
     simp only[rowsT_getD t hxt,htk]
     refine⟨by omega,hlt,by omega,by omega,by omega,hc.1,hc.2,⟨0,by omega,rfl,rfl⟩,fun y hy=>⟨fun hlt2 => ?_,fun hge2=>⟨inK_i64.2 (by omega),x+1,by omega,by omega,?_,by omega⟩⟩⟩
     · have hyl:y<(takeC t c x).length:=by omega
       have hm:(takeC t c x).getD y 0∈takeC t c x:=by rw[getD_at hyl];exact List.getElem_mem hyl
       have hmm:=takeC_mem hm
       have hlen:(takeC t c x).length≤t.2.1.length:=by
         unfold takeC
         rw[List.length_take]
         have:=ofU_len t.2.1 (x:Int) t.2.1.length
         unfold ofT
         omega
       rw[one_shl]
       have hp:=two_pow_le (n:=((takeC t c x).getD y 0).toNat) (by omega)
       have hp2:=two_pow_pos ((takeC t c x).getD y 0).toNat
       have hpe:(((2 ^ ((takeC t c x).getD y 0).toNat:Nat)):Int)=(2:Int) ^ ((takeC t c x).getD y 0).toNat:=by rw[Int.natCast_pow];rfl
       refine⟨by omega,hlt2,hmm.1,by omega,rfl,inK_i64.2 (by omega),by omega,by omega,inK_i64.2 (by omega),y+1,by omega,by omega,?_,by omega⟩
       rw[take_snoc hyl,orB_snoc,Int.toNat_natCast]
     · have:y=(takeC t c x).length:=by omega
       subst this
       rw[List.take_length,setK_succ]
   · have:x=c.length:=by omega
     subst this
     have e:setE t c=(setK t c c.length:Int):=by unfold setE;rw[if_pos h];rfl
     rw[e,h] at hk;exact hk
theorem okEvents:PlainOk Tryd.prog glT 47 cEvents:=by
 refine plain_of (CxOk.mk' Ez_ok rfl mixed (gl:=glT) (GOk.cons okOfs Tryd.func28 (by kernel_rfl) (by kernel_rfl) GOk.nil) GoOk.nil noIt) Tryd.func47 (c:=Tryd.f47.body.getD .skip) (rvs:=[(.tmp 4,I),(.tmp 5,tErr)]) (by kernel_rfl) (by kernel_rfl) (by kernel_rfl) ?_
 intro ds k ⟨hp,hk⟩ hwf
 obtain⟨t,c,rfl,-⟩:=dest2 hp
 exact⟨anEvents t c,events_vc t c k hk⟩
theorem okHas:PlainOk Tryd.prog glT 38 cHas:=by
 refine plain_of (CxOk.mk' Ez_ok rfl mixed (gl:=glT) GOk.nil GoOk.nil noIt) Tryd.func38 (c:=Tryd.f38.body.getD .skip) (rvs:=[(.tmp 4,.bool)]) (by kernel_rfl) (by kernel_rfl) (by kernel_rfl) ?_
 intro ds k ⟨hp,hk⟩ hwf
 obtain⟨s,i,rfl,⟨⟨hs,hi,hi2⟩,-⟩⟩:=dest2 hp
 have hk:k [⟨.bool,s.toNat.testBit i.toNat⟩]:=hk
 refine⟨[],?_⟩
 rw[vcHas]
 have hsw:=inK_i64.1 (wf2 hwf).1
 have hpos:(0:Int)<2 ^ i.toNat:=Int.pow_pos (by omega)
 have hdlt:s/(2:Int) ^ i.toNat≤9223372036854775807:=Int.le_trans (Int.ediv_le_self _ hs) hsw.2
 have hd1:0≤s/(2:Int) ^ i.toNat:=Int.ediv_nonneg hs (by omega)
 have hd2:s/(2:Int) ^ i.toNat≤s:=Int.ediv_le_self _ hs
 refine⟨hi,hi2,rfl,inK_i64.2 ⟨Int.le_trans (by decide) hd1,hdlt⟩,hd1,by decide,?_⟩
 have e1:(s/(2:Int) ^ i.toNat).toNat=s.toNat/2 ^ i.toNat:=by
   obtain⟨n,rfl⟩:=Int.eq_ofNat_of_zero_le hs
   have:((2:Int) ^ i.toNat)=((2 ^ i.toNat:Nat):Int):=by rw[Int.natCast_pow];rfl
   rw[this];rfl
 have:decide ((((s/(2:Int) ^ i.toNat).toNat &&& Int.toNat (1:Int):Nat):Int)=1)=s.toNat.testBit i.toNat:=by
   have h1:Int.toNat (1:Int)=1:=rfl
   rw[e1,h1,Nat.and_one_is_mod,Nat.testBit_eq_decide_div_mod_eq]
   by_cases h:s.toNat/2 ^ i.toNat%2=1
   · rw[h];rfl
   · rw[decide_eq_false h]
     exact decide_eq_false (by omega)
 rw[this]
 exact hk
theorem okBits:PlainOk Tryd.prog glT 26 cBitsF:=by
 refine plain_of (CxOk.mk' Ez_ok rfl mixed (gl:=glT) GOk.nil GoOk.nil noIt) Tryd.func26 (c:=Tryd.f26.body.getD .skip) (rvs:=[(.tmp 2,tF)]) (by kernel_rfl) (by kernel_rfl) (by kernel_rfl) ?_
 intro ds k ⟨hp,hk⟩ hwf
 obtain⟨s,rfl,-⟩:=dest1 hp
 refine⟨anBits,?_⟩
 rw[vcBits]
 exact hk
theorem bitsOf_mem{N:Nat}(hN:N<2 ^ 64)(y:Int):y∈bitsOf (N:Int)↔∃ i:Nat,y=(i:Int)∧N.testBit i=true:=by
 have e:((N:Int)%18446744073709551616).toNat=N:=by
   have:N<18446744073709551616:=hN
   omega
 unfold bitsOf bitsN
 rw[e]
 constructor
 · intro h
   obtain⟨i,hi,rfl⟩:=List.mem_map.1 h
   exact⟨i,rfl,(List.mem_filter.1 hi).2⟩
 · rintro⟨i,rfl,hi⟩
   refine List.mem_map.2 ⟨i,List.mem_filter.2 ⟨List.mem_range'_1.2 ⟨by omega,?_⟩,hi⟩,rfl⟩
   rcases Nat.lt_or_ge i 64 with h | h
   · omega
   · have:=Nat.testBit_lt_two_pow (Nat.lt_of_lt_of_le hN (Nat.pow_le_pow_right (by omega) h))
     rw[this] at hi;cases hi
theorem is_vc(t:Tr)(c:List Int)(k:List Dat→Prop)(hk:k [⟨.bool,if cutE t c=0 then wholeB t c else false⟩,⟨tErr,cutE t c⟩]) :
   vcF ⟨Ez,[(47,cEvents),(26,cBitsF),(38,cHas)],glT,[(44,cBits)],[]⟩ (anIs t c) (Tryd.f32.body.getD .skip) Tryd.f32.ntmps [(.cell 4 4,.bool),(.cell 5 27,tErr)] [⟨tTr,t⟩,⟨.sl I,c⟩] k:=by
 rw[vcIs]
 simp only[decide_eq_true_eq,decide_eq_false_iff_not,and_true,true_and,Bool.not_eq_true',Bool.not_eq_false']
 refine⟨fun h => ?_,fun h => ?_⟩
 · rw[if_neg h] at hk;exact hk
 · obtain⟨h1,h2,h3⟩:=cut_ok h
   have g:=good_of h1
   have hl:=g.len
   have hS:setE t c=(setN t c:Int):=by unfold setE;rw[if_pos h]
   have hlt:setN t c<2 ^ 64:=Nat.lt_trans (setN_lt g c _) (by decide)
   rw[if_pos h] at hk
   rw[hS]
   simp only[h,true_and,Int.toNat_natCast]
   rw[h] at hk
   have ext:∀ (x:List Int) (y:Int),(∀ z∈x,heard t.2.1 (setN t c) z=true)→heard t.2.1 (setN t c) y=true→∀ z∈x++[y],heard t.2.1 (setN t c) z=true:=by
     intro x y hx hy z hz
     rcases List.mem_append.1 hz with hz | hz
     · exact hx z hz
     · rw[List.mem_singleton.1 hz];exact hy
   refine⟨⟨[],fun y hy=>(by cases hy),rfl⟩,fun _ _=>trivial,fun x y rest hx hxs => ?_,fun x hx hxs => ?_⟩
   · have hy:y∈bitsOf (setN t c:Int):=by rw[hxs];exact List.mem_append_right _ (.head _)
     obtain⟨i,rfl,hi⟩:=(bitsOf_mem hlt y).1 hy
     obtain⟨p,_,hm⟩:=(setK_bit t c i c.length).1 hi
     have hmm:=takeC_mem hm
     have hil:i<t.2.1.length:=by omega
     have he:=g.ev i hil
     rw[Int.toNat_natCast]
     refine⟨by omega,by omega,fun h0=>⟨⟨by omega,h0,by omega⟩,fun hb => ?_,fun hb=>⟨x++[(i:Int)],ext x i hx ?_,rfl⟩⟩,fun h0=>⟨x++[(i:Int)],ext x i hx ?_,rfl⟩⟩
     · have:wholeB t c=false:=by
         cases hw:wholeB t c with
         | false=>rfl
         | true =>
           have:=List.all_eq_true.1 hw _ hy
           unfold heard at this
           rw[Int.toNat_natCast,hb,decide_eq_false (by omega)] at this
           cases this
       rw[this] at hk;exact hk
     · unfold heard
       rw[Int.toNat_natCast,hb,Bool.or_true]
     · unfold heard
       rw[Int.toNat_natCast,decide_eq_true (by omega),Bool.true_or]
   · have:wholeB t c=true:=List.all_eq_true.2 fun y hy=>hx y (hxs▸hy)
     rw[this] at hk;exact hk
theorem itB:∀ g c,(g,c)∈[(44,cBits)]→ItOk Tryd.prog glT g c:=fun g c h=>by
 obtain⟨rfl,rfl⟩:=Prod.mk.inj (List.mem_singleton.1 h)
 exact itBits
theorem okIs:PlainOk Tryd.prog glT 32 cIs:=by
 refine plain_of (CxOk.mk' Ez_ok rfl mixed (gl:=glT) (GOk.cons okEvents Tryd.func47 (by kernel_rfl) (by kernel_rfl) (GOk.cons okBits Tryd.func26 (by kernel_rfl) (by kernel_rfl) (GOk.cons okHas Tryd.func38 (by kernel_rfl) (by kernel_rfl) GOk.nil))) GoOk.nil itB) Tryd.func32 (c:=Tryd.f32.body.getD .skip) (rvs:=[(.cell 4 4,.bool),(.cell 5 27,tErr)]) (by kernel_rfl) (by kernel_rfl) (by kernel_rfl) ?_
 intro ds k ⟨hp,hk⟩ hwf
 obtain⟨t,c,rfl,-⟩:=dest2 hp
 exact⟨anIs t c,is_vc t c k hk⟩
end Go.Proofs.YtfmiecbmikncpaaDoor.H

namespace Go.Proofs.YtfmiecbmikncpaaDoor
open Go.Vc
theorem castL_len(l:List Nat):(castL l).length=l.length:=by simp[castL]
theorem castL_at(l:List Nat)(i:Nat):(castL l).getD i 0=((l.getD i 0:Nat):Int):=by
 unfold castL
 rw[List.getD_eq_getElem?_getD,List.getD_eq_getElem?_getD,List.getElem?_map]
 cases l[i]?<;>rfl
theorem castL_set(l:List Nat)(i n:Nat):(castL l).set i (n:Int)=castL (l.set i n):=by
 unfold castL;rw[List.map_set]
theorem clStep_len(k:Nat)(o:List Nat)(i:Nat):(clStep k o i).length=o.length:=by
 unfold clStep;split
 · rw[List.length_set]
 · rfl
theorem clKi_succ(l:List Int)(k i:Nat):clKi l k (i+1)=clStep k (clKi l k i) i:=by
 unfold clKi;rw[List.range_succ,List.foldl_append];rfl
theorem clK_succ(l:List Int)(k:Nat):clK l (k+1)=clKi l k l.length:=by
 show (List.range (k+1)).foldl _ _=_
 rw[List.range_succ,List.foldl_append];rfl
theorem clKi_len'(l:List Int)(k:Nat)(h:(clK l k).length=l.length):∀ i,(clKi l k i).length=l.length:=by
 intro i
 induction i with
 | zero=>exact h
 | succ i ih=>rw[clKi_succ,clStep_len,ih]
theorem clK_len(l:List Int):∀ k,(clK l k).length=l.length:=by
 intro k
 induction k with
 | zero=>show (natL l).length=_;unfold natL;rw[List.length_map]
 | succ k ih=>rw[clK_succ,clKi_len' l k ih]
theorem clKi_len(l:List Int)(k i:Nat):(clKi l k i).length=l.length:=clKi_len' l k (clK_len l k) i
theorem msk_cast{l:List Int}(h:mskB l=true):castL (natL l)=l:=by
 unfold castL natL
 rw[List.map_map]
 refine (List.map_congr_left fun x hx => ?_).trans (List.map_id _)
 have:=List.all_eq_true.1 h x hx
 rw[Bool.and_eq_true,decide_eq_true_eq] at this
 exact Int.toNat_of_nonneg this.1
theorem clI_eq(l:List Int):clI l=castL (clK l l.length):=by
 unfold clI castL clL clK natL
 rw[List.length_map]
theorem closed_vc(l:List Int)(hm:mskB l=true)(hl:l.length≤12)(k:List Dat→Prop)(hk:k [⟨.sl I,clI l⟩]) :
   vcF ⟨Et,[(38,H.cHas)],glT,[],[]⟩ (anClosed l) (Tryd.f20.body.getD .skip) Tryd.f20.ntmps [(.tmp 2,.sl I)] [⟨.sl I,l⟩] k:=by
 rw[vcClosed]
 simp only[decide_eq_true_eq,decide_eq_false_iff_not,and_true,true_and,Int.toNat_natCast,inK_i64,castL_len,castL_at,clK_len,clKi_len,castL_set]
 refine⟨by omega,⟨0,by omega,rfl,(msk_cast hm).symm⟩,fun x hx=>⟨fun hlt=>⟨⟨0,by omega,rfl,rfl⟩,fun i hi=>⟨fun hlt2=>⟨by omega,by omega,⟨by omega,by omega,by omega⟩,fun hb=>⟨⟨by omega,by omega,by omega,by omega,by omega,by omega,by omega,by omega⟩,by omega,i+1,by omega,by omega,by omega,?_⟩,fun hb=>⟨by omega,i+1,by omega,by omega,by omega,?_⟩⟩,fun hge=>⟨by omega,x+1,by omega,by omega,by omega,?_⟩⟩⟩,fun hge => ?_⟩⟩
 · rw[clKi_succ];unfold clStep;rw[if_pos hb]
 · rw[clKi_succ];unfold clStep;rw[if_neg (by rw[hb];decide)]
 · rw[clK_succ,show i=l.length by omega]
 · rw[clI_eq,← show x=l.length by omega] at hk;exact hk
theorem okClosed:PlainOk Tryd.prog glT 20 cClosed:=by
 refine plain_of (CxOk.mk' Et_ok rfl mixed (gl:=glT) (GOk.cons H.okHas Tryd.func38 (by kernel_rfl) (by kernel_rfl) GOk.nil) GoOk.nil noIt) Tryd.func20 (c:=Tryd.f20.body.getD .skip) (rvs:=[(.tmp 2,.sl I)]) (by kernel_rfl) (by kernel_rfl) (by kernel_rfl) ?_
 intro ds k ⟨hp,hk⟩ hwf
 obtain⟨l,rfl,hm,hl⟩:=dest1 hp
 exact⟨anClosed l,closed_vc l hm hl k hk⟩
open Go.Vc
def anOChk(l:List Int):Ann :=
 [joinAll,loopAt 4 Nat [] (fun st i=>St.at (St.only st [0,2,11,12]) [(13,.d I (i:Int))]) (fun _ i=>(i≤l.length∧l.length≤12)∧∀ j,j<i→maskB (l.getD j 0) l.length=true) (fun i=>l.length - i),
  loopAt 10 Nat [] (fun st i=>St.at (St.only st [0,2,24,25,26]) [(27,.d I (i:Int))]) (fun _ i=>(i≤l.length∧l.length≤12∧mskB l=true)∧∀ j,j<i→((clL (natL l)).getD j 0).testBit j=false) (fun i=>l.length - i)]
open Go.Vc
set_option linter.unusedVariables false
theorem vcOChk(l:List Int)(k:List Dat→Prop):vcF ⟨Et,[(38,H.cHas),(41,cMask),(20,cClosed)],glT,[],[]⟩ (anOChk l) (Tryd.f19.body.getD .skip) Tryd.f19.ntmps [(.tmp 2,tErr)] [⟨.sl I,l⟩] k=(
 (decide ((12:Int)<(↑l.length:Int))=true→(4:Int)≠(0:Int)∧k [Dat.mk (Ty.err (53:Nat)) (4:Int)])∧(decide ((12:Int)<(↑l.length:Int))=false→(∃ (x:Nat),((x≤l.length∧l.length≤(12:Nat))∧∀ (j:Nat),j<x→maskB (l.getD j (0:Int)) (↑l.length:Int)=true)∧(l=l∧(0:Int)=(0:Int)∧l=l∧(↑l.length:Int)=(↑l.length:Int)∧(0:Int)=(↑x:Int)∧True)∧True∧tabD=tabD∧True)∧∀ (x:Nat),((x≤l.length∧l.length≤(12:Nat))∧∀ (j:Nat),j<x→maskB (l.getD j (0:Int)) (↑l.length:Int)=true)→(decide ((↑x:Int)<(↑l.length:Int))=true→(0:Int)≤(↑x:Int)∧(↑x:Int)<(↑l.length:Int)∧((0:Int)≤(↑l.length:Int)∧(↑l.length:Int)≤(61:Int))∧((!maskB (l.getD (↑x:Int).toNat (0:Int)) (↑l.length:Int))=true→(1:Int)≠(0:Int)∧k [Dat.mk (Ty.err (53:Nat)) (1:Int)])∧((!maskB (l.getD (↑x:Int).toNat (0:Int)) (↑l.length:Int))=false→inK IntKind.i64 ((↑x:Int)+(1:Int))∧∃ (x_1:Nat),((x_1≤l.length∧l.length≤(12:Nat))∧∀ (j:Nat),j<x_1→maskB (l.getD j (0:Int)) (↑l.length:Int)=true)∧l.length - x_1<l.length - x∧(l=l∧(0:Int)=(0:Int)∧l=l∧(↑l.length:Int)=(↑l.length:Int)∧(↑x:Int)+(1:Int)=(↑x_1:Int)∧True)∧True∧tabD=tabD∧True))∧(decide ((↑x:Int)<(↑l.length:Int))=false→(mskB l=true∧l.length≤(12:Nat))∧(∃ (x:Nat),((x≤l.length∧l.length≤(12:Nat)∧mskB l=true)∧∀ (j:Nat),j<x→((clL (natL l)).getD j (0:Nat)).testBit j=false)∧(l=l∧(0:Int)=(0:Int)∧l=l∧clI l=clI l∧(↑(clI l).length:Int)=(↑(clI l).length:Int)∧(0:Int)=(↑x:Int)∧True)∧True∧tabD=tabD∧True)∧∀ (x:Nat),((x≤l.length∧l.length≤(12:Nat)∧mskB l=true)∧∀ (j:Nat),j<x→((clL (natL l)).getD j (0:Nat)).testBit j=false)→(decide ((↑x:Int)<(↑(clI l).length:Int))=true→(0:Int)≤(↑x:Int)∧(↑x:Int)<(↑(clI l).length:Int)∧(((0:Int)≤(clI l).getD (↑x:Int).toNat (0:Int)∧(0:Int)≤(↑x:Int)∧(↑x:Int)<(64:Int))∧True)∧(((clI l).getD (↑x:Int).toNat (0:Int)).toNat.testBit (↑x:Int).toNat=true→(6:Int)≠(0:Int)∧k [Dat.mk (Ty.err (53:Nat)) (6:Int)])∧(((clI l).getD (↑x:Int).toNat (0:Int)).toNat.testBit (↑x:Int).toNat=false→inK IntKind.i64 ((↑x:Int)+(1:Int))∧∃ (x_1:Nat),((x_1≤l.length∧l.length≤(12:Nat)∧mskB l=true)∧∀ (j:Nat),j<x_1→((clL (natL l)).getD j (0:Nat)).testBit j=false)∧l.length - x_1<l.length - x∧(l=l∧(0:Int)=(0:Int)∧l=l∧clI l=clI l∧(↑(clI l).length:Int)=(↑(clI l).length:Int)∧(↑x:Int)+(1:Int)=(↑x_1:Int)∧True)∧True∧tabD=tabD∧True))∧(decide ((↑x:Int)<(↑(clI l).length:Int))=false→k [Dat.mk (Ty.err (53:Nat)) (0:Int)])))):=by kernel_rfl
theorem vcBehind(l:List Int)(k:List Dat→Prop):vcF ⟨Et,[(19,cOChk),(20,cClosed)],glT,[],[]⟩ [joinAll] (Tryd.f4.body.getD .skip) Tryd.f4.ntmps [(.tmp 2,.sl I),(.tmp 3,tErr)] [⟨.sl I,l⟩] k=(
 True∧((!decide (ordE l=(0:Int)))=true→k [Dat.mk (I).sl [],Dat.mk (Ty.err (53:Nat)) (ordE l)])∧((!decide (ordE l=(0:Int)))=false→(mskB l=true∧l.length≤(12:Nat))∧k [Dat.mk (I).sl (clI l),Dat.mk (Ty.err (53:Nat)) (0:Int)])):=by kernel_rfl
open Go.Vc
theorem clL_len(l:List Int):(clL (natL l)).length=l.length:=by
 have h:=congrArg List.length (clI_eq l)
 rw[castL_len,clK_len] at h
 unfold clI at h
 rw[List.length_map] at h
 exact h
theorem clI_len(l:List Int):(clI l).length=l.length:=by unfold clI;rw[List.length_map,clL_len]
theorem clI_at(l:List Int)(i:Nat):(clI l).getD i 0=(((clL (natL l)).getD i 0:Nat):Int):=castL_at _ _
theorem msk_all{l:List Int}:mskB l=true↔∀ j,j<l.length→maskB (l.getD j 0) (l.length:Int)=true:=by
 unfold mskB maskB
 rw[List.all_eq_true]
 constructor
 · intro h j hj
   have:=h (l.getD j 0) (by rw[List.getD_eq_getElem?_getD,List.getElem?_eq_getElem hj];exact List.getElem_mem hj)
   rw[Int.toNat_natCast];exact this
 · intro h x hx
   obtain⟨j,hj,rfl⟩:=List.getElem_of_mem hx
   have:=h j hj
   rw[Int.toNat_natCast,List.getD_eq_getElem?_getD,List.getElem?_eq_getElem hj] at this
   exact this
theorem ord_big{l:List Int}(h:12<l.length):ordE l=4:=by unfold ordE;rw[if_pos h]
theorem ord_range{l:List Int}(h:l.length≤12){j:Nat}(hj:j<l.length)(hm:maskB (l.getD j 0) (l.length:Int)=false):ordE l=1:=by
 unfold ordE
 rw[if_neg (by omega),if_pos]
 cases e:mskB l with
 | false=>rfl
 | true=>rw[msk_all.1 e j hj] at hm;cases hm
theorem ord_self{l:List Int}(h:l.length≤12)(hm:mskB l=true){j:Nat}(hj:j<l.length)(hb:((clL (natL l)).getD j 0).testBit j=true):ordE l=6:=by
 unfold ordE
 rw[if_neg (by omega),if_neg (by rw[hm];decide),if_pos]
 exact List.any_eq_true.2 ⟨j,List.mem_range.2 (by rw[clL_len];exact hj),hb⟩
theorem ord_zero{l:List Int}(h:l.length≤12)(hm:mskB l=true)(hb:∀ j,j<l.length→((clL (natL l)).getD j 0).testBit j=false):ordE l=0:=by
 unfold ordE
 rw[if_neg (by omega),if_neg (by rw[hm];decide),if_neg]
 intro hs
 obtain⟨j,hj,e⟩:=List.any_eq_true.1 hs
 have hj:=List.mem_range.1 hj
 rw[clL_len] at hj
 rw[hb j hj] at e;cases e
theorem ord_ok{l:List Int}(h:ordE l=0):mskB l=true∧l.length≤12:=by
 unfold ordE at h
 split at h
 · cases h
 · split at h
   · cases h
   · rename_i h1 h2
     exact⟨by cases e:mskB l with
       | true=>rfl
       | false=>exact absurd e h2,by omega⟩
theorem chk_vc(l:List Int)(k:List Dat→Prop)(hk:k [⟨tErr,ordE l⟩]) :
   vcF ⟨Et,[(38,H.cHas),(41,cMask),(20,cClosed)],glT,[],[]⟩ (anOChk l) (Tryd.f19.body.getD .skip) Tryd.f19.ntmps [(.tmp 2,tErr)] [⟨.sl I,l⟩] k:=by
 rw[vcOChk]
 simp only[decide_eq_true_eq,decide_eq_false_iff_not,and_true,true_and,Int.toNat_natCast,inK_i64,clI_len,clI_at,Bool.not_eq_true',Bool.not_eq_false']
 refine⟨fun h=>⟨by decide,?_⟩,fun h=>⟨⟨0,⟨⟨by omega,by omega⟩,fun j hj=>absurd hj (by omega)⟩,rfl⟩,fun x hx=>⟨fun hlt=>⟨by omega,by omega,⟨by omega,by omega⟩,fun hm=>⟨by decide,?_⟩,fun hm=>⟨by omega,x+1,⟨⟨by omega,hx.1.2⟩,fun j hj => ?_⟩,by omega,by omega⟩⟩,fun hge => ?_⟩⟩⟩
 · rw[ord_big (by omega)] at hk;exact hk
 · rw[ord_range hx.1.2 (by omega) hm] at hk;exact hk
 · by_cases e:j=x
   · rw[e];exact hm
   · exact hx.2 j (by omega)
 · have hmk:mskB l=true:=msk_all.2 fun j hj=>hx.2 j (by omega)
   refine⟨⟨hmk,hx.1.2⟩,⟨0,⟨⟨by omega,hx.1.2,hmk⟩,fun j hj=>absurd hj (by omega)⟩,rfl⟩,fun y hy=>⟨fun hlt=>⟨by omega,by omega,⟨by omega,by omega,by omega⟩,fun hb=>⟨by decide,?_⟩,fun hb=>⟨by omega,y+1,⟨⟨by omega,hy.1.2⟩,fun j hj => ?_⟩,by omega,by omega⟩⟩,fun hge2 => ?_⟩⟩
   · rw[ord_self hx.1.2 hmk (by omega) hb] at hk;exact hk
   · by_cases e:j=y
     · rw[e];exact hb
     · exact hy.2 j (by omega)
   · rw[ord_zero hx.1.2 hmk fun j hj=>hy.2 j (by omega)] at hk;exact hk
theorem okOChk:PlainOk Tryd.prog glT 19 cOChk:=by
 refine plain_of (CxOk.mk' Et_ok rfl mixed (gl:=glT) (GOk.cons H.okHas Tryd.func38 (by kernel_rfl) (by kernel_rfl) (GOk.cons (PlainOk.sub (by intro x hx;cases hx) okMask) Tryd.func41 (by kernel_rfl) (by kernel_rfl) (GOk.cons okClosed Tryd.func20 (by kernel_rfl) (by kernel_rfl) GOk.nil))) GoOk.nil noIt) Tryd.func19 (c:=Tryd.f19.body.getD .skip) (rvs:=[(.tmp 2,tErr)]) (by kernel_rfl) (by kernel_rfl) (by kernel_rfl) ?_
 intro ds k ⟨hp,hk⟩ hwf
 obtain⟨l,rfl,-⟩:=dest1 hp
 exact⟨anOChk l,chk_vc l k hk⟩
theorem okBehind:PlainOk Tryd.prog glT 4 cBehind:=by
 refine plain_of (CxOk.mk' Et_ok rfl mixed (gl:=glT) (GOk.cons okOChk Tryd.func19 (by kernel_rfl) (by kernel_rfl) (GOk.cons okClosed Tryd.func20 (by kernel_rfl) (by kernel_rfl) GOk.nil)) GoOk.nil noIt) Tryd.func4 (c:=Tryd.f4.body.getD .skip) (rvs:=[(.tmp 2,.sl I),(.tmp 3,tErr)]) (by kernel_rfl) (by kernel_rfl) (by kernel_rfl) ?_
 intro ds k ⟨hp,hk⟩ hwf
 obtain⟨l,rfl,-⟩:=dest1 hp
 have hk:k [⟨.sl I,if ordE l=0 then clI l else[]⟩,⟨tErr,ordE l⟩]:=hk
 refine⟨[joinAll],?_⟩
 rw[vcBehind]
 simp only[Bool.not_eq_true',Bool.not_eq_false',decide_eq_true_eq,decide_eq_false_iff_not,true_and]
 refine⟨fun h => ?_,fun h=>⟨ord_ok h,?_⟩⟩
 · rw[if_neg h] at hk;exact hk
 · rw[if_pos h,h] at hk;exact hk
open Go.Vc
def sideB(c:List Int)(w:Int)(l:List Int):Bool:=l.all fun i=>decide ((c.getD i.toNat 0).toNat &&& w.toNat=0)
def cSide:Ctr:=cdet [.sl I,I] (fun (c:List Int) (w:Int)=>(mskB c=true∧c.length≤12)∧0≤w∧w<(2:Int) ^ c.length) (fun (c:List Int) (w:Int)=>[⟨.bool,sideB c w (bitsOf w)⟩])
def anSide(c:List Int)(w:Int):Ann:=[joinAll,rangeAt 3 I (List Int) id (fun st _=>St.only st [2,3,4,7]) (fun _ l=>sideB c w l=true)]
open Go.Vc
set_option linter.unusedVariables false
theorem vcSide(c:List Int)(w:Int)(k:List Dat→Prop):vcF ⟨H.Ez,[(26,H.cBitsF)],glT,[(44,cBits)],[]⟩ (anSide c w) (Tryd.f25.body.getD .skip) Tryd.f25.ntmps [(.cell 4 4,.bool)] [⟨.sl I,c⟩,⟨I,w⟩] k=(
 True∧(∃ (x:List Int),sideB c w x=true∧x=[]∧(([]:List Nat)=[]∧([]:List Nat)=[]∧([]:List Nat)=[]∧some (some w,())=some (some w,())∧True)∧(((25:Nat)=(25:Nat)∧c=c)∧((3:Nat)=(3:Nat)∧w=w)∧((4:Nat)=(4:Nat)∧false=false)∧True)∧tabD=tabD∧True)∧(∀ (x:List Int),sideB c w x=true→some (some w,())=some (some w,()))∧(∀ (x:List Int) (y:Int) (rest:List Int),sideB c w x=true→bitsOf w=x++y::rest→((0:Int)≤y∧y<(↑c.length:Int)∧(0:Int)≤c.getD y.toNat (0:Int)∧(0:Int)≤w∧True)∧((!decide ((↑((c.getD y.toNat (0:Int)).toNat &&& w.toNat):Int)=(0:Int)))=true→k [Dat.mk Ty.bool false])∧((!decide ((↑((c.getD y.toNat (0:Int)).toNat &&& w.toNat):Int)=(0:Int)))=false→∃ (x_1:List Int),sideB c w x_1=true∧x_1=x++[y]∧(([]:List Nat)=[]∧([]:List Nat)=[]∧([]:List Nat)=[]∧some (some w,())=some (some w,())∧True)∧(((25:Nat)=(25:Nat)∧c=c)∧((3:Nat)=(3:Nat)∧w=w)∧((4:Nat)=(4:Nat)∧false=false)∧True)∧tabD=tabD∧True))∧∀ (x:List Int),sideB c w x=true→x=bitsOf w→k [Dat.mk Ty.bool true]):=by kernel_rfl
open Go.Vc
theorem msk_nonneg{l:List Int}(h:mskB l=true)(i:Nat):0≤l.getD i 0:=by
 by_cases hi:i<l.length
 · have:=msk_all.1 h i hi
   unfold maskB at this
   rw[Bool.and_eq_true,decide_eq_true_eq] at this
   exact this.1
 · rw[List.getD_eq_getElem?_getD,List.getElem?_eq_none (by omega)];exact Int.le_refl 0
theorem bits_lt{n:Nat}{w y:Int}(hn:n≤12)(h0:0≤w)(h1:w<(2:Int) ^ n)(hy:y∈bitsOf w):0≤y∧y<(n:Int)∧w.toNat.testBit y.toNat=true:=by
 obtain⟨N,rfl⟩:=Int.eq_ofNat_of_zero_le h0
 have hN:N<2 ^ n:=by exact_mod_cast h1
 have h64:N<2 ^ 64:=Nat.lt_of_lt_of_le hN (Nat.pow_le_pow_right (by decide) (by omega))
 obtain⟨i,rfl,hi⟩:=(H.bitsOf_mem h64 y).1 hy
 refine⟨by omega,?_,by rw[Int.toNat_natCast,Int.toNat_natCast];exact hi⟩
 have:i<n:=by
   refine Nat.lt_of_not_le fun hle => ?_
   rw[Nat.testBit_lt_two_pow (Nat.lt_of_lt_of_le hN (Nat.pow_le_pow_right (by decide) hle))] at hi
   cases hi
 omega
theorem side_vc(c:List Int)(w:Int)(hm:mskB c=true)(hl:c.length≤12)(h0:0≤w)(h1:w<(2:Int) ^ c.length)(k:List Dat→Prop)(hk:k [⟨.bool,sideB c w (bitsOf w)⟩]) :
   vcF ⟨H.Ez,[(26,H.cBitsF)],glT,[(44,cBits)],[]⟩ (anSide c w) (Tryd.f25.body.getD .skip) Tryd.f25.ntmps [(.cell 4 4,.bool)] [⟨.sl I,c⟩,⟨I,w⟩] k:=by
 rw[vcSide]
 simp only[and_true,true_and,Bool.not_eq_true',Bool.not_eq_false',decide_eq_true_eq,decide_eq_false_iff_not]
 refine⟨⟨[],rfl,rfl⟩,fun x hx=>trivial,fun x y rest hx he => ?_,fun x hx he => ?_⟩
 · have hy:y∈bitsOf w:=by rw[he];exact List.mem_append_right _ List.mem_cons_self
   obtain⟨y0,y1,_⟩:=bits_lt hl h0 h1 hy
   refine⟨⟨y0,y1,msk_nonneg hm _,h0⟩,fun hb => ?_,fun hb=>⟨x++[y],?_,rfl⟩⟩
   · have e:sideB c w (bitsOf w)=false:=by
       cases e:sideB c w (bitsOf w) with
       | false=>rfl
       | true=>exact absurd (of_decide_eq_true (List.all_eq_true.1 e y hy)) (by omega)
     rw[e] at hk;exact hk
   · unfold sideB at hx ⊢
     rw[List.all_append,hx,List.all_cons,List.all_nil,decide_eq_true (by omega)];rfl
 · rw[← he,hx] at hk;exact hk
theorem okSide:PlainOk Tryd.prog glT 25 cSide:=by
 refine plain_of (CxOk.mk' H.Ez_ok rfl mixed (gl:=glT) (GOk.cons H.okBits Tryd.func26 (by kernel_rfl) (by kernel_rfl) GOk.nil) GoOk.nil H.itB) Tryd.func25 (c:=Tryd.f25.body.getD .skip) (rvs:=[(.cell 4 4,.bool)]) (by kernel_rfl) (by kernel_rfl) (by kernel_rfl) ?_
 intro ds k ⟨hp,hk⟩ hwf
 obtain⟨c,w,rfl,⟨hm,hl⟩,h0,h1⟩:=dest2 hp
 exact⟨anSide c w,side_vc c w hm hl h0 h1 k hk⟩
open Go.Vc
def tuL(c:List Nat)(m:Nat):List Nat:=(List.range c.length).map (tuK c m)
def tuX(c:List Nat)(m:Nat)(x:List Int):List Nat:=x.foldl (fun o j=>o.set j.toNat (o.getD j.toNat 0 ||| 2 ^ m)) (tuL c m)
def cTurned:Ctr:=cdet [.sl I] (fun (_:List Int)=>True) (fun (l:List Int)=>[⟨.sl I,if ordE l=0 then castL (tuL (clL (natL l)) l.length) else[]⟩,⟨tErr,ordE l⟩])
def anTurned(l:List Int):Ann :=
 [joinAll,loopAt 6 Nat [] (fun st i=>{ St.at (St.only st [0,5,18,19]) [(20,.d I (i:Int))] with ob:=st.ob.set 0 (.row 3 I (castL (tuL (clL (natL l)) i))) }) (fun _ i=>i≤l.length∧ordE l=0) (fun i=>l.length - i),
  rangeAt 10 I (List Int) id (fun st x=>{ St.only st [0,5,6,7,18,19,20,26] with ob:=st.ob.set 0 (.row 3 I (castL (tuX (clL (natL l)) (st.i 20).toNat x))) }) (fun _ _=>True)]
open Go.Vc
set_option linter.unusedVariables false
theorem vcTurned(l:List Int)(k:List Dat→Prop):vcF ⟨H.Ez,[(26,H.cBitsF),(19,cOChk),(20,cClosed)],glT,[(44,cBits)],[]⟩ (anTurned l) (Tryd.f27.body.getD .skip) Tryd.f27.ntmps [(.tmp 2,.sl I),(.tmp 3,tErr)] [⟨.sl I,l⟩] k=(
 True∧((!decide (ordE l=(0:Int)))=true→k [Dat.mk (I).sl [],Dat.mk (Ty.err (53:Nat)) (ordE l)])∧((!decide (ordE l=(0:Int)))=false→(0:Int)≤(↑l.length:Int)∧(↑l.length:Int)≤(↑l.length:Int)∧(↑l.length:Int)≤(1000000000:Int)∧(mskB l=true∧l.length≤(12:Nat))∧(∃ (x:Nat),(x≤l.length∧ordE l=(0:Int))∧(l=l∧([]:List Nat)=[]∧clI l=clI l∧(↑(clI l).length:Int)=(↑(clI l).length:Int)∧(0:Int)=(↑x:Int)∧True)∧(((3:Nat)=(3:Nat)∧List.replicate (↑l.length:Int).toNat (0:Int)=castL (tuL (clL (natL l)) x))∧(True∧True)∧True)∧tabD=tabD∧True)∧∀ (x:Nat),x≤l.length∧ordE l=(0:Int)→(decide ((↑x:Int)<(↑(clI l).length:Int))=true→(0:Int)≤(↑x:Int)∧(↑x:Int)<(↑(clI l).length:Int)∧True∧(∃ (x_1:List Int),True∧x_1=[]∧(l=l∧([]:List Nat)=[]∧([]:List Nat)=[]∧(clI l).getD (↑x:Int).toNat (0:Int)=(clI l).getD (↑x:Int).toNat (0:Int)∧clI l=clI l∧(↑(clI l).length:Int)=(↑(clI l).length:Int)∧(↑x:Int)=(↑x:Int)∧some (some ((clI l).getD (↑x:Int).toNat (0:Int)),())=some (some ((clI l).getD (↑x:Int).toNat (0:Int)),())∧True)∧(((3:Nat)=(3:Nat)∧castL (tuL (clL (natL l)) x)=castL (tuX (clL (natL l)) (↑x:Int).toNat x_1))∧(True∧True)∧((3:Nat)=(3:Nat)∧(↑x:Int)=(↑x:Int))∧True)∧tabD=tabD∧True)∧(∀ (x_1:List Int),True→some (some ((clI l).getD (↑x:Int).toNat (0:Int)),())=some (some ((clI l).getD (↑x:Int).toNat (0:Int)),()))∧(∀ (x_1:List Int) (y:Int) (rest:List Int),True→bitsOf ((clI l).getD (↑x:Int).toNat (0:Int))=x_1++y::rest→((0:Int)≤y∧y<(↑(castL (tuX (clL (natL l)) (↑x:Int).toNat x_1)).length:Int)∧(0:Int)≤(↑x:Int)∧(↑x:Int)<(64:Int)∧IntKind.i64.bits=(64:Nat)∧inK IntKind.i64 ((1:Int)*(2:Int) ^ (↑x:Int).toNat)∧(0:Int)≤(castL (tuX (clL (natL l)) (↑x:Int).toNat x_1)).getD y.toNat (0:Int)∧(0:Int)≤(1:Int)*(2:Int) ^ (↑x:Int).toNat∧(0:Int)≤y∧y<(↑(castL (tuX (clL (natL l)) (↑x:Int).toNat x_1)).length:Int)∧True)∧∃ (x_2:List Int),True∧x_2=x_1++[y]∧(l=l∧([]:List Nat)=[]∧([]:List Nat)=[]∧(clI l).getD (↑x:Int).toNat (0:Int)=(clI l).getD (↑x:Int).toNat (0:Int)∧clI l=clI l∧(↑(clI l).length:Int)=(↑(clI l).length:Int)∧(↑x:Int)=(↑x:Int)∧some (some ((clI l).getD (↑x:Int).toNat (0:Int)),())=some (some ((clI l).getD (↑x:Int).toNat (0:Int)),())∧True)∧(((3:Nat)=(3:Nat)∧(castL (tuX (clL (natL l)) (↑x:Int).toNat x_1)).set y.toNat (↑(((castL (tuX (clL (natL l)) (↑x:Int).toNat x_1)).getD y.toNat (0:Int)).toNat ||| ((1:Int)*(2:Int) ^ (↑x:Int).toNat).toNat):Int)=castL (tuX (clL (natL l)) (↑x:Int).toNat x_2))∧(True∧True)∧((3:Nat)=(3:Nat)∧(↑x:Int)=(↑x:Int))∧True)∧tabD=tabD∧True)∧∀ (x_1:List Int),True→x_1=bitsOf ((clI l).getD (↑x:Int).toNat (0:Int))→inK IntKind.i64 ((↑x:Int)+(1:Int))∧∃ (x_2:Nat),(x_2≤l.length∧ordE l=(0:Int))∧l.length - x_2<l.length - x∧(l=l∧([]:List Nat)=[]∧clI l=clI l∧(↑(clI l).length:Int)=(↑(clI l).length:Int)∧(↑x:Int)+(1:Int)=(↑x_2:Int)∧True)∧(((3:Nat)=(3:Nat)∧castL (tuX (clL (natL l)) (↑x:Int).toNat x_1)=castL (tuL (clL (natL l)) x_2))∧(True∧True)∧True)∧tabD=tabD∧True)∧(decide ((↑x:Int)<(↑(clI l).length:Int))=false→k [Dat.mk (I).sl (castL (tuL (clL (natL l)) x)),Dat.mk (Ty.err (53:Nat)) (0:Int)]))):=by kernel_rfl
open Go.Vc
theorem tuL_len(c:List Nat)(m:Nat):(tuL c m).length=c.length:=by simp[tuL]
theorem tuL_at{c:List Nat}{m j:Nat}(h:j<c.length):(tuL c m).getD j 0=tuK c m j:=by
 unfold tuL
 rw[List.getD_eq_getElem?_getD,List.getElem?_map,List.getElem?_range h];rfl
theorem tuX_snoc(c:List Nat)(m:Nat)(x:List Int)(y:Int):tuX c m (x++[y])=(tuX c m x).set y.toNat ((tuX c m x).getD y.toNat 0 ||| 2 ^ m):=by
 unfold tuX;rw[List.foldl_append];rfl
theorem tuX_len(c:List Nat)(m:Nat)(x:List Int):(tuX c m x).length=c.length:=by
 unfold tuX
 suffices H:∀ (x:List Int) (o:List Nat),(x.foldl (fun o j=>o.set j.toNat (o.getD j.toNat 0 ||| 2 ^ m)) o).length=o.length by rw[H,tuL_len]
 intro x
 induction x with
 | nil=>intro o;rfl
 | cons y r ih=>intro o;rw[List.foldl_cons,ih,List.length_set]
theorem getDs{l:List Nat}{i j v:Nat}:(l.set i v).getD j 0=if i=j∧j<l.length then v else l.getD j 0:=by
 rw[List.getD_eq_getElem?_getD,List.getElem?_set]
 by_cases e:i=j
 · subst e
   rw[if_pos rfl]
   by_cases h:i<l.length
   · rw[if_pos h,if_pos ⟨rfl,h⟩];rfl
   · rw[if_neg h,if_neg (fun h'=>h h'.2),List.getD_eq_getElem?_getD,List.getElem?_eq_none (by omega)]
 · rw[if_neg e,if_neg (fun h'=>e h'.1),List.getD_eq_getElem?_getD]
theorem tuF_bit(m j b:Nat):∀ (x:List Int) (o:List Nat),(∀ y∈x,0≤y)→(((x.foldl (fun o j=>o.set j.toNat (o.getD j.toNat 0 ||| 2 ^ m)) o).getD j 0).testBit b=true↔(o.getD j 0).testBit b=true∨(b=m∧(j:Int)∈x∧j<o.length)):=by
 intro x
 induction x with
 | nil=>intro o _;exact⟨fun h => .inl h,fun h=>h.elim id fun h=>absurd h.2.1 List.not_mem_nil⟩
 | cons y r ih =>
   intro o hx
   have y0:=hx y List.mem_cons_self
   rw[List.foldl_cons,ih _ fun z hz=>hx z (List.mem_cons_of_mem _ hz),getDs,List.length_set]
   by_cases e:y.toNat=j∧j<o.length
   · rw[if_pos e,bit_or2,e.1]
     constructor
     · rintro ((h | h) | h)
       · exact .inl h
       · exact .inr ⟨h,by rw[show (j:Int)=y by omega];exact List.mem_cons_self,e.2⟩
       · exact .inr ⟨h.1,List.mem_cons_of_mem _ h.2.1,h.2.2⟩
     · rintro (h | h)
       · exact .inl (.inl h)
       · exact .inl (.inr h.1)
   · rw[if_neg e]
     constructor
     · rintro (h | h)
       · exact .inl h
       · exact .inr ⟨h.1,List.mem_cons_of_mem _ h.2.1,h.2.2⟩
     · rintro (h | h)
       · exact .inl h
       · refine .inr ⟨h.1,?_,h.2.2⟩
         rcases List.mem_cons.1 h.2.1 with h1 | h1
         · exact absurd ⟨by omega,h.2.2⟩ e
         · exact h1
theorem tuX_all{c:List Nat}{m:Nat}(h64:c.getD m 0<2 ^ 64):tuX c m (bitsOf ((c.getD m 0:Nat):Int))=tuL c (m+1):=by
 refine List.ext_getElem (by rw[tuX_len,tuL_len]) fun j h1 h2 => ?_
 have hj:j<c.length:=by rw[tuX_len] at h1;exact h1
 have e0:∀ (l:List Nat) (h:j<l.length),l[j]=l.getD j 0:=fun l h=>by rw[List.getD_eq_getElem?_getD,List.getElem?_eq_getElem h];rfl
 have e1:=e0 _ h1
 have e2:=e0 _ h2
 refine e1.trans (Eq.trans ?_ e2.symm)
 rw[tuL_at hj]
 refine Nat.eq_of_testBit_eq fun b => ?_
 rw[Bool.eq_iff_iff,tuK_bit]
 unfold tuX
 rw[tuF_bit m j b _ _ fun y hy=>by obtain⟨i,rfl,_⟩:=(H.bitsOf_mem h64 y).1 hy;omega,tuL_at hj,tuK_bit,tuL_len,H.bitsOf_mem h64]
 constructor
 · rintro (h | ⟨h,⟨i,h3,h4⟩,_⟩)
   · exact⟨by omega,h.2⟩
   · have:j=i:=by omega
     subst this;subst h;exact⟨by omega,h4⟩
 · rintro⟨h3,h4⟩
   by_cases e:b=m
   · subst e;exact .inr ⟨rfl,⟨j,rfl,h4⟩,hj⟩
   · exact .inl ⟨by omega,h4⟩
theorem clStep_lt{n k i:Nat}{o:List Nat}(h:∀ j,o.getD j 0<2 ^ n):∀ j,(clStep k o i).getD j 0<2 ^ n:=by
 intro j
 unfold clStep
 split
 · rw[getDs]
   split
   · exact Nat.or_lt_two_pow (h i) (h k)
   · exact h j
 · exact h j
theorem clF_lt{n k:Nat}:∀ (x:List Nat) (o:List Nat),(∀ j,o.getD j 0<2 ^ n)→∀ j,(x.foldl (clStep k) o).getD j 0<2 ^ n:=by
 intro x
 induction x with
 | nil=>intro o h;exact h
 | cons y r ih=>intro o h;rw[List.foldl_cons];exact ih _ (clStep_lt h)
theorem clG_lt{n m:Nat}:∀ (x:List Nat) (o:List Nat),(∀ j,o.getD j 0<2 ^ n)→∀ j,(x.foldl (fun out k=>clRow m k out) o).getD j 0<2 ^ n:=by
 intro x
 induction x with
 | nil=>intro o h;exact h
 | cons y r ih=>intro o h;rw[List.foldl_cons];exact ih _ (clF_lt _ _ h)
theorem natL_at(l:List Int)(j:Nat):(natL l).getD j 0=(l.getD j 0).toNat:=by
 unfold natL
 rw[List.getD_eq_getElem?_getD,List.getElem?_map,List.getD_eq_getElem?_getD]
 cases l[j]?<;>rfl
theorem msk_lt{l:List Int}(h:mskB l=true)(j:Nat):(natL l).getD j 0<2 ^ l.length:=by
 rw[natL_at]
 by_cases hj:j<l.length
 · have:=msk_all.1 h j hj
   unfold maskB at this
   rw[Bool.and_eq_true,decide_eq_true_eq,decide_eq_true_eq,Int.toNat_natCast] at this
   have h2:((l.getD j 0).toNat:Int)<((2 ^ l.length:Nat):Int):=by rw[Int.toNat_of_nonneg this.1];exact_mod_cast this.2
   exact_mod_cast h2
 · rw[List.getD_eq_getElem?_getD,List.getElem?_eq_none (by omega)];exact Nat.two_pow_pos _
theorem clL_lt{l:List Int}(h:mskB l=true)(j:Nat):(clL (natL l)).getD j 0<2 ^ l.length:=by
 unfold clL;exact clG_lt _ _ (msk_lt h) j
theorem clI_msk{l:List Int}(h:mskB l=true):mskB (clI l)=true:=by
 rw[msk_all]
 intro j hj
 have:=clL_lt h j
 unfold maskB
 rw[clI_at,Bool.and_eq_true,decide_eq_true_eq,decide_eq_true_eq,Int.toNat_natCast,clI_len]
 exact⟨by omega,by exact_mod_cast this⟩
theorem cl_64{l:List Int}(h:ordE l=0)(j:Nat):(clL (natL l)).getD j 0<2 ^ 64 :=
 Nat.lt_of_lt_of_le (clL_lt (ord_ok h).1 j) (Nat.pow_le_pow_right (by decide) (by have:=(ord_ok h).2;omega))
open Go.Vc
theorem pw_cast(n:Nat):(1*(2:Int) ^ n)=((2 ^ n:Nat):Int):=by rw[Int.one_mul];exact (Int.natCast_pow 2 n).symm
theorem pw_in{n:Nat}(h:n≤12):inK IntKind.i64 (1*(2:Int) ^ n):=by
 rw[pw_cast]
 have h1:2 ^ n≤2 ^ 12:=Nat.pow_le_pow_right (by decide) h
 generalize 2 ^ n=m at h1 ⊢
 exact inK_i64.2 ⟨by omega,by omega⟩
theorem tur_zero(l:List Int):List.replicate ((l.length:Int)).toNat (0:Int)=castL (tuL (clL (natL l)) 0):=by
 refine List.ext_getElem (by rw[List.length_replicate,castL_len,tuL_len,clL_len];omega) fun j h1 h2 => ?_
 rw[List.getElem_replicate]
 have e:(castL (tuL (clL (natL l)) 0))[j]=(castL (tuL (clL (natL l)) 0)).getD j 0:=by rw[List.getD_eq_getElem?_getD,List.getElem?_eq_getElem h2];rfl
 rw[castL_len,tuL_len] at h2
 rw[e,castL_at,tuL_at h2];rfl
theorem turned_vc(l:List Int)(k:List Dat→Prop)(hk:k [⟨.sl I,if ordE l=0 then castL (tuL (clL (natL l)) l.length) else[]⟩,⟨tErr,ordE l⟩]) :
   vcF ⟨H.Ez,[(26,H.cBitsF),(19,cOChk),(20,cClosed)],glT,[(44,cBits)],[]⟩ (anTurned l) (Tryd.f27.body.getD .skip) Tryd.f27.ntmps [(.tmp 2,.sl I),(.tmp 3,tErr)] [⟨.sl I,l⟩] k:=by
 rw[vcTurned]
 simp only[decide_eq_true_eq,decide_eq_false_iff_not,and_true,true_and,Int.toNat_natCast,castL_len,castL_at,clI_len,clI_at,tuX_len,clL_len,castL_set,pw_cast,Bool.not_eq_true',Bool.not_eq_false']
 refine⟨fun h => ?_,fun h=>⟨by omega,by omega,by have:=(ord_ok h).2;omega,ord_ok h,⟨0,⟨by omega,h⟩,rfl,tur_zero l⟩,fun x hx=>⟨fun hlt=>⟨by omega,by omega,⟨[],rfl,rfl⟩,fun _ _=>trivial,fun x1 y rest _ he => ?_,fun _ _ he => ?_⟩,fun hge => ?_⟩⟩⟩
 · rw[if_neg h] at hk;exact hk
 · have hy:y∈bitsOf (((clL (natL l)).getD x 0:Nat):Int):=by rw[he];exact List.mem_append_right _ List.mem_cons_self
   have hl:=(ord_ok h).2
   have hlt':=clL_lt (ord_ok h).1 x
   obtain⟨y0,y1,_⟩:=bits_lt hl (by omega) (by exact_mod_cast hlt') hy
   refine⟨⟨y0,y1,by omega,by omega,rfl,by rw[← pw_cast];exact pw_in (by omega),Int.natCast_nonneg _,Int.natCast_nonneg _,y0,y1⟩,x1++[y],rfl,?_⟩
   rw[tuX_snoc]
 · have:=(ord_ok h).2
   refine⟨inK_i64.2 ⟨by omega,by omega⟩,x+1,⟨by omega,h⟩,by omega,by omega,?_⟩
   rw[he,tuX_all (cl_64 h x)]
 · rw[if_pos h,h,← show x=l.length by omega] at hk;exact hk
theorem okTurned:PlainOk Tryd.prog glT 27 cTurned:=by
 refine plain_of (CxOk.mk' H.Ez_ok rfl mixed (gl:=glT) (GOk.cons H.okBits Tryd.func26 (by kernel_rfl) (by kernel_rfl) (GOk.cons okOChk Tryd.func19 (by kernel_rfl) (by kernel_rfl) (GOk.cons okClosed Tryd.func20 (by kernel_rfl) (by kernel_rfl) GOk.nil))) GoOk.nil H.itB) Tryd.func27 (c:=Tryd.f27.body.getD .skip) (rvs:=[(.tmp 2,.sl I),(.tmp 3,tErr)]) (by kernel_rfl) (by kernel_rfl) (by kernel_rfl) ?_
 intro ds k ⟨hp,hk⟩ hwf
 obtain⟨l,rfl,-⟩:=dest1 hp
 exact⟨anTurned l,turned_vc l k hk⟩
open Go.Vc
def Ec:Env:={ tys:=[(3,I),(4,.bool),(5,.int .u8),(9,.str),(22,.sl tEv),(24,tTr),(25,.sl I),(27,tErr),(55,tEv)],errT:=53,eqs:=[],els:=[(22,55),(25,3)] }
theorem Ec_ok:EnvOk Tryd.prog Ec:=EnvOk.of_list (by kernel_rfl) (by kernel_rfl) (by kernel_rfl)
def cNaN:Ctr:=cdet [I] (fun _=>True) (fun _=>[⟨.bool,false⟩])
def cmpI(a b:Int):Int:=if a<b then -1 else if b<a then 1 else 0
def cCmp:Ctr:=cdet [I,I] (fun _ _=>True) (fun a b=>[⟨I,cmpI a b⟩])
def orI:List Int→Int
 | []=>0
 | x::r=>if x=0 then orI r else x
def cOr:Ctr:=cdet [.sl I] (fun _=>True) (fun l=>[⟨I,orI l⟩])
def anOr(l:List Int):Ann:=[loopAt 3 Nat [] (fun st i=>St.at (St.only st [3,6,7]) [(8,.d I (i:Int))]) (fun _ i=>i≤l.length∧orI l=orI (l.drop i)) (fun i=>l.length - i)]
def cmpR(l:List Int)(t:Tr)(i j:Int):Int :=
 orI [cmpI (l.getD i.toNat 0) (l.getD j.toNat 0),cmpI (t.2.1.getD i.toNat (0,0,())).1 (t.2.1.getD j.toNat (0,0,())).1]
abbrev tCa:Ty := .pr (.ptr (.sl I)) (.pr (.ptr tTr) .un)
def inR(l:List Int)(t:Tr)(i:Int):Prop:=0≤i∧i<(l.length:Int)∧i<(t.2.1.length:Int)
def cCls:Ctr:=cgen [I,I,.ptr (.sl I),.ptr tTr] (fun (i j:Int) (l:Option (List Int)) (t:Option Tr) k=>match l,t with
 | some l,some t=>inR l t i∧inR l t j∧k [⟨I,cmpR l t i j⟩]
 | _,_=>False)
open Go.Vc
def Erw:Env:={ tys:=[(3,I),(4,.bool),(5,.int .u8),(9,.str),(22,.sl tEv),(24,tTr),(25,.sl I),(27,tErr),(51,.fn 34 tCa),(55,tEv),(60,.ar 5 I)],errT:=53,eqs:=[],els:=[(22,55),(25,3)] }
theorem Erw_ok:EnvOk Tryd.prog Erw:=EnvOk.of_list (by kernel_rfl) (by kernel_rfl) (by kernel_rfl)
def srtP(l:List Int)(t:Tr)(xs ys:List Int):Prop:=ys.Perm xs∧ys.Pairwise fun a b=>0≤cmpR l t b a
def oSort:OCtr:=fun args ob k =>
 match args,ob with
 | [.os 0,.d (.fn 34 (.pr (.ptr (.sl (.int .i64))) (.pr (.ptr (.pr (.int .i64) (.pr (.sl (.pr (.int .i64) (.pr (.int .i64) .un))) .un))) .un))) (some (some l,some t,_))],[.row 3 (.int .i64) xs] =>
   (∀ x∈(xs:List Int),inR l t x)∧(xs:List Int).length≤1000000000∧∀ ys:List Int,srtP l t xs ys→k (.tp []) [.row 3 I ys]
 | _,_=>False
def iota(n:Nat):List Int:=(List.range n).map fun (i:Nat)=>(i:Int)
def rowP(t:Tr)(r:List Int):Prop:=srtP (plain t) t (iota t.2.1.length) r
def cRow:Ctr:=cgen [tTr] (fun (t:Tr) k=>(chk t≠0→∀ r:List Int,r=[]→k [⟨.sl I,r⟩,⟨tErr,chk t⟩])∧(chk t=0→∀ r:List Int,rowP t r→k [⟨.sl I,r⟩,⟨tErr,(0:Int)⟩]))
def anRow(t:Tr):Ann :=
 [joinAll,freezeAt 10 [4,1],loopAt 6 Nat [(6,3,I)] (fun st i=>{ St.at (St.only st [1,4,6,17]) [(18,.d I (i:Int))] with ob:=[.var 24 tTr t,.var 25 (.sl I) (plain t),.row 3 I (iota i)] }) (fun _ i=>i≤(plain t).length∧True) (fun i=>(plain t).length - i)]
open Go.Vc
theorem plain_len{t:Tr}(h:chk t=0):(plain t).length=t.2.1.length:=by
 unfold plain;rw[if_pos h];exact (plst_len _ _).1
theorem plain_at{t:Tr}(h:chk t=0){i:Nat}(hi:i<t.2.1.length):(plain t).getD i 0=pl t.2.1 i:=by
 unfold plain;rw[if_pos h];exact pl_keep _ hi
open Go.Vc
def setN:List Int→Nat
 | []=>0
 | x::r=>setN r ||| 2 ^ x.toNat
theorem setN_bit(l:List Int)(j:Nat):(setN l).testBit j=true↔∃ x∈l,x.toNat=j:=by
 induction l with
 | nil=>simp[setN]
 | cons x r ih =>
   simp only[setN]
   rw[Nat.testBit_or,Bool.or_eq_true,ih,Nat.testBit_two_pow,decide_eq_true_eq]
   constructor
   · rintro (⟨y,hy,e⟩ | e)
     · exact⟨y,List.mem_cons_of_mem _ hy,e⟩
     · exact⟨x,List.mem_cons_self ..,e⟩
   · rintro⟨y,hy,e⟩
     rcases List.mem_cons.1 hy with rfl | hy
     · exact .inr e
     · exact .inl ⟨y,hy,e⟩
theorem setN_lt(l:List Int){n:Nat}(h:∀ x∈l,x.toNat<n):setN l<2 ^ n:=by
 refine Nat.lt_pow_two_of_testBit _ fun j hj => ?_
 cases hb:(setN l).testBit j with
 | false=>rfl
 | true =>
   obtain⟨x,hx,e⟩:=(setN_bit l j).1 hb
   have:=h x hx
   omega
theorem setN_app(l:List Int)(x:Int):setN (l++[x])=setN l ||| 2 ^ x.toNat:=by
 apply Nat.eq_of_testBit_eq
 intro j
 rw[Bool.eq_iff_iff,setN_bit,Nat.testBit_or,Bool.or_eq_true,setN_bit,Nat.testBit_two_pow,decide_eq_true_eq]
 constructor
 · rintro⟨y,hy,e⟩
   rcases List.mem_append.1 hy with h | h
   · exact .inl ⟨y,h,e⟩
   · rw[List.mem_singleton] at h;subst h;exact .inr e
 · rintro (⟨y,hy,e⟩ | e)
   · exact⟨y,List.mem_append.2 (.inl hy),e⟩
   · exact⟨x,List.mem_append.2 (.inr (List.mem_singleton.2 rfl)),e⟩
theorem iota_len(n:Nat):(iota n).length=n:=by simp[iota]
theorem iota_mem{n:Nat}{x:Int}:x∈iota n↔0≤x∧x<(n:Int):=by
 unfold iota
 rw[List.mem_map]
 constructor
 · rintro⟨i,hi,rfl⟩
   have:=List.mem_range.1 hi
   omega
 · rintro⟨h1,h2⟩
   exact⟨x.toNat,List.mem_range.2 (by omega),by omega⟩
theorem iota_nodup(n:Nat):(iota n).Nodup:=by
 unfold iota
 rw[List.nodup_iff_pairwise_ne,List.pairwise_map]
 exact List.Pairwise.imp (fun h e=>h (by omega)) List.nodup_range
theorem iota_succ(n:Nat):iota (n+1)=iota n++[(n:Int)]:=by
 unfold iota
 rw[List.range_succ,List.map_append];rfl
theorem cmpR_less{l:List Int}{t:Tr}{i j:Int}(h:l.getD i.toNat 0<l.getD j.toNat 0):cmpR l t i j<0:=by
 unfold cmpR cmpI
 rw[if_pos h]
 show (if (-1:Int)=0 then _ else (-1:Int))<0
 rw[if_neg (by decide)];decide
theorem row_len{t:Tr}{r:List Int}(hr:rowP t r):r.length=t.2.1.length:=by rw[hr.1.length_eq,iota_len]
theorem row_mem{t:Tr}{r:List Int}(hr:rowP t r){x:Int}:x∈r↔0≤x∧x<(t.2.1.length:Int):=by rw[hr.1.mem_iff,iota_mem]
theorem row_at{t:Tr}{r:List Int}(hr:rowP t r){k:Nat}(hk:k<t.2.1.length):0≤r.getD k 0∧r.getD k 0<(t.2.1.length:Int):=by
 rw[← row_mem hr]
 have hk':k<r.length:=by rw[row_len hr];exact hk
 rw[List.getD_eq_getElem?_getD,List.getElem?_eq_getElem hk']
 exact List.getElem_mem hk'
theorem row_step{t:Tr}{r:List Int}(h:chk t=0)(hr:rowP t r){k:Nat}(hk:k<t.2.1.length):(setN (r.take k)).testBit (r.getD k 0).toNat=false∧∀ j,(bB t.2.1 (r.getD k 0).toNat).testBit j=true→(setN (r.take k)).testBit j=true:=by
 have g:=good_of h
 have hl:=row_len hr
 have hk':k<r.length:=by omega
 obtain⟨a1,a2⟩:=row_at hr hk
 have hnd:r.Nodup:=hr.1.nodup_iff.2 (iota_nodup _)
 have hek:r[k]?=some (r.getD k 0):=by rw[List.getD_eq_getElem?_getD,List.getElem?_eq_getElem hk'];rfl
 constructor
 · cases hb:(setN (r.take k)).testBit (r.getD k 0).toNat with
   | false=>rfl
   | true =>
     obtain⟨x,hx,e⟩:=(setN_bit _ _).1 hb
     obtain⟨m,hm⟩:=List.getElem?_of_mem hx
     have hmk:m<k:=by
       have:=(List.getElem?_eq_some_iff.1 hm).1
       rw[List.length_take] at this;omega
     rw[List.getElem?_take_of_lt hmk] at hm
     have hx0:=(row_mem hr).1 (List.mem_of_getElem? hm)
     have:x=r.getD k 0:=by omega
     subst this
     have hml:=(List.getElem?_eq_some_iff.1 hm)
     have hkl:=(List.getElem?_eq_some_iff.1 hek)
     have:=(List.nodup_iff_pairwise_ne.1 hnd)
     rw[List.pairwise_iff_getElem] at this
     exact absurd (hml.2.trans hkl.2.symm) (this m k hml.1 hkl.1 hmk)
 · intro j hj
   have hi:(r.getD k 0).toNat<t.2.1.length:=by omega
   have hjl:=bB_less (good_prc g) (good_frm g) hi hj
   have hpl:=pl_less (good_prc g) (good_frm g) hi hj
   have hjm:(j:Int)∈r:=(row_mem hr).2 ⟨by omega,by omega⟩
   obtain⟨m,hm⟩:=List.getElem?_of_mem hjm
   have hml:=(List.getElem?_eq_some_iff.1 hm)
   have hp1:=plain_at h (i:=j) (by omega)
   have hp2:=plain_at h hi
   have hmk:m<k:=by
     rcases Nat.lt_trichotomy m k with hlt | heq | hgt
     · exact hlt
     · subst heq
       rw[hek] at hm
       injection hm with hm
       rw[hm] at hpl
       simp at hpl
     · have hp:=hr.2
       rw[List.pairwise_iff_getElem] at hp
       have hkl:=(List.getElem?_eq_some_iff.1 hek)
       have:=hp k m hkl.1 hml.1 hgt
       rw[hml.2,hkl.2] at this
       have hlt:=cmpR_less (l:=plain t) (t:=t) (i:=(j:Int)) (j:=r.getD k 0) (by rw[Int.toNat_natCast,hp1,hp2];exact hpl)
       omega
   refine (setN_bit _ _).2 ⟨(j:Int),?_,by simp⟩
   rw[List.mem_iff_getElem?]
   exact⟨m,by rw[List.getElem?_take_of_lt hmk];exact hm⟩
open Go.Vc
def cPop:Ctr:=cdet [I] (fun (a:Int)=>0≤a∧a≤4096) (fun (a:Int)=>[⟨I,pop a⟩])
def widL(c:List Int)(m:Nat):Nat:=(List.range m).foldl (fun (b s:Nat)=>if decide (pop (b:Int)<pop (s:Int))&&sideB c (s:Int) (bitsOf (s:Int)) then s else b) 0
def cWid:Ctr:=cdet [.sl I] (fun (_:List Int)=>True) (fun (l:List Int)=>[⟨I,if ordE l=0 then (widL (clI l) (2 ^ l.length):Int) else 0⟩,⟨tErr,ordE l⟩])
def anWid(l:List Int):Ann :=
 [joinAll,loopAt 6 Nat [] (fun st s=>St.at (St.only st [0,4,18]) [(6,.d I (widL (clI l) s:Int)),(19,.d I (s:Int))]) (fun _ s=>s≤2 ^ l.length∧ordE l=0) (fun s=>2 ^ l.length - s)]
def rkL(t:Tr):List Int:=(List.range t.2.1.length).map fun j=>pl t.2.1 j - 1
def cRanks:Ctr:=cgen [.sl I] (fun (l:List Int) k=>∃ t:Tr,(chk t=0∧t.2.1.length≤12∧l=aftI t)∧k [⟨.sl I,rkL t⟩,⟨tErr,(0:Int)⟩])
def rkI(t:Tr)(o:List Int)(i:Nat)(x:List Int):Prop:=rkP t o fun k j=>k<i∨(k=i∧(j:Int)∈x)
def anRanks(t:Tr):Ann :=
 [joinAll,loopAt 6 (Nat×List Int) [] (fun st x=>{ St.at (St.only st [0,4,6,22]) [(23,.d I (x.1:Int))] with ob:=st.ob.set 0 (.row 3 I x.2) }) (fun _ x=>x.1≤t.2.1.length∧rkP t x.2 fun _ _=>0<x.1) (fun x=>t.2.1.length - x.1),
  loopAt 8 (Nat×List Int) [] (fun st x=>{ St.at (St.only st [0,4,6,22,23,25,26]) [(27,.d I (x.1:Int))] with ob:=st.ob.set 0 (.row 3 I x.2) }) (fun _ x=>x.1≤t.2.1.length∧rkI t x.2 x.1 []) (fun x=>t.2.1.length - x.1),
  rangeAt 12 I (List Int×List Int) Prod.fst (fun st x=>{ St.only st [0,4,6,7,8,22,23,25,26,27,33] with ob:=st.ob.set 0 (.row 3 I x.2) }) (fun st x=>rkI t x.2 (st.i 27).toNat x.1)]
def dwnB(pre:List Int)(s:Int)(x:List Int):Bool:=x.all fun i=>decide ((pre.getD i.toNat 0).toNat ^^^ ((pre.getD i.toNat 0).toNat &&& s.toNat)=0)
def dwnN(pre:List Int)(m:Nat):Nat:=((List.range m).filter fun (s:Nat)=>dwnB pre (s:Int) (bitsOf (s:Int))).length
def preI(l:List Int):List Int:=castL (tuL (clL (natL l)) l.length)
def cDown:Ctr:=cdet [.sl I] (fun (_:List Int)=>True) (fun (l:List Int)=>[⟨I,if ordE l=0 then (dwnN (preI l) (2 ^ l.length):Int) else 0⟩,⟨tErr,ordE l⟩])
def anDown(l:List Int):Ann :=
 [joinAll,loopAt 6 Nat [] (fun st s=>St.at (St.only st [0,4,19]) [(6,.d I (dwnN (preI l) s:Int)),(20,.d I (s:Int))]) (fun _ s=>s≤2 ^ l.length∧ordE l=0) (fun s=>2 ^ l.length - s),
  rangeAt 10 I (List Int) id (fun st _=>St.only st [0,4,6,7,19,20,24]) (fun st x=>dwnB (preI l) (st.i 20) x=true)]
def cIsRow:Ctr:=cgen [.sl I,.sl I] (fun (l r:List Int) k=>∃ t:Tr,(chk t=0∧t.2.1.length≤12∧l=aftI t∧rowP t r)∧k [⟨.bool,true⟩,⟨tErr,(0:Int)⟩])
def anIsRow(t:Tr)(r:List Int):Ann :=
 [joinAll,loopAt 8 Nat [] (fun st i=>St.at (St.only st [0,1,6,25,26]) [(8,.d I (setN (r.take i):Int)),(27,.d I (i:Int))]) (fun _ i=>i≤r.length∧True) (fun i=>r.length - i)]
end Go.Proofs.YtfmiecbmikncpaaDoor
