/- Own texts, merged and cut: KV12, BkLu, BkLv, BkSh, BkGz. -/
import Derived.Test.YthdbbgajmgjfcaaGreatDoorBARowZ2
import Derived.Stop.LaidErr
import Derived.HandedShaped
import Derived.RowKit
import Derived.Handed
import Derived.Test.YthdbbgajmgjfcaaGreatDoorRows
namespace Go.Proofs.YthdbbgajmgjfcaaGreatDoor
open Go.Vc
set_option linter.unusedVariables false
theorem vcFact (v : GV) (k : List Dat→Prop) : vcF ⟨Ef,[],glO v,[],[(13,oToldN),(14,oBTxt)]⟩ [joinAll] (Tryz.f12.body.getD .skip) Tryz.f12.ntmps [(.tmp 0,.bool)] [] k=(
 StepsOk ((List.replicate (1 : Nat) []).set (0 : Nat) (((List.replicate (2 : Nat) (0 : Int)).set (0 : Nat) (0 : Int)).set (1 : Nat) (1 : Int)))∧(inB (2 : Int) (1 : Int) (5 : Int)=false→(false=true→False)∧(false=false→k [Dat.mk Ty.bool false]))∧(inB (2 : Int) (1 : Int) (5 : Int)=true→(true=true→(lineF [(115 : UInt8)] [(((List.replicate (1 : Nat) []).set (0 : Nat) (((List.replicate (2 : Nat) (0 : Int)).set (0 : Nat) (0 : Int)).set (1 : Nat) (1 : Int))).getD (0 : Nat) []).getD (0 : Nat) (0 : Int),(((List.replicate (1 : Nat) []).set (0 : Nat) (((List.replicate (2 : Nat) (0 : Int)).set (0 : Nat) (0 : Int)).set (1 : Nat) (1 : Int))).getD (0 : Nat) []).getD (1 : Nat) (0 : Int)]).length≤(1000000000 : Nat)∧k [Dat.mk Ty.bool (lineF [(115 : UInt8)] [(((List.replicate (1 : Nat) []).set (0 : Nat) (((List.replicate (2 : Nat) (0 : Int)).set (0 : Nat) (0 : Int)).set (1 : Nat) (1 : Int))).getD (0 : Nat) []).getD (0 : Nat) (0 : Int),(((List.replicate (1 : Nat) []).set (0 : Nat) (((List.replicate (2 : Nat) (0 : Int)).set (0 : Nat) (0 : Int)).set (1 : Nat) (1 : Int))).getD (0 : Nat) []).getD (1 : Nat) (0 : Int)]==[(115 : UInt8),(32 : UInt8),(48 : UInt8),(32 : UInt8),(49 : UInt8),(32 : UInt8),(54 : UInt8),(57 : UInt8),(54 : UInt8),(10 : UInt8)])])∧(true=false→k [Dat.mk Ty.bool false]))):=by kernel_rfl
theorem vcAgain (v : GV) (n : Int) (s : List (List Int)) (p q x : Int) (kk : List Dat→Prop) : vcF ⟨Elr,[(12,cFact)],glO v,[],[(13,oToldN),(14,oBTxt),(15,oBOpen),(16,oBW),(18,oAlike)]⟩ anAgain (Tryz.f4.body.getD .skip) Tryz.f4.ntmps [(.tmp 10,.bool)] [⟨I,n⟩,⟨.sl (.sl I),s⟩,⟨I,p⟩,⟨I,q⟩,⟨I,x⟩] kk=(
 True∧((!true)=true→kk [Dat.mk Ty.bool false])∧((!true)=false→StepsOk s∧(inB n (1 : Int) (5 : Int)=false→((!false)=true→(decide (n < (1 : Int))=true→kk [Dat.mk Ty.bool true])∧(decide (n < (1 : Int))=false→kk [Dat.mk Ty.bool (decide ((5 : Int) < n))]))∧((!false)=false→False))∧(inB n (1 : Int) (5 : Int)=true→((!true)=true→(decide (n < (1 : Int))=true→kk [Dat.mk Ty.bool true])∧(decide (n < (1 : Int))=false→kk [Dat.mk Ty.bool (decide ((5 : Int) < n))]))∧((!true)=false→(playB n.toNat s (min s.length (70 : Nat))).snd.fst.length≤(1000000000 : Nat)∧(playB n.toNat s (min s.length (70 : Nat))).snd.fst.length≤(1100000 : Nat)∧(inB n (1 : Int) (5 : Int)=false→((!decide ((1 : Int)=(0 : Int)))=true→kk [Dat.mk Ty.bool false])∧((!decide ((1 : Int)=(0 : Int)))=false→False))∧(inB n (1 : Int) (5 : Int)=true→POpenOk n (playB n.toNat s (min s.length (70 : Nat))).snd.fst∧((poR n (playB n.toNat s (min s.length (70 : Nat))).snd.fst).snd.snd=(0 : Int)→((!decide ((0 : Int)=(0 : Int)))=true→kk [Dat.mk Ty.bool false])∧((!decide ((0 : Int)=(0 : Int)))=false→AlikeOk (((poR n (playB n.toNat s (min s.length (70 : Nat))).snd.fst).fst.fst.fst,(poR n (playB n.toNat s (min s.length (70 : Nat))).snd.fst).fst.fst.snd.fst,()),(poR n (playB n.toNat s (min s.length (70 : Nat))).snd.fst).fst.snd.fst,(poR n (playB n.toNat s (min s.length (70 : Nat))).snd.fst).fst.snd.snd) (((playB n.toNat s (min s.length (70 : Nat))).fst.fst,(playB n.toNat s (min s.length (70 : Nat))).fst.snd.fst,()),(playB n.toNat s (min s.length (70 : Nat))).snd.fst,(playB n.toNat s (min s.length (70 : Nat))).snd.snd)∧inK IntKind.i64 n∧((!true)=true→kk [Dat.mk Ty.bool false])∧((!true)=false→(NetSh ((playB n.toNat s (min s.length (70 : Nat))).fst.fst,(playB n.toNat s (min s.length (70 : Nat))).fst.snd.fst,())∧(playB n.toNat s (min s.length (70 : Nat))).snd.fst.length≤(900000000 : Nat)∧(0 : Int)≤(playB n.toNat s (min s.length (70 : Nat))).snd.snd∧(playB n.toNat s (min s.length (70 : Nat))).snd.snd≤(60 : Int))∧(NetSh ((poR n (playB n.toNat s (min s.length (70 : Nat))).snd.fst).fst.fst.fst,(poR n (playB n.toNat s (min s.length (70 : Nat))).snd.fst).fst.fst.snd.fst,())∧(poR n (playB n.toNat s (min s.length (70 : Nat))).snd.fst).fst.snd.fst.length≤(900000000 : Nat)∧(0 : Int)≤(poR n (playB n.toNat s (min s.length (70 : Nat))).snd.fst).fst.snd.snd∧(poR n (playB n.toNat s (min s.length (70 : Nat))).snd.fst).fst.snd.snd≤(60 : Int))∧((decide (bkE (playB n.toNat s (min s.length (70 : Nat))).snd.snd (writeE ((playB n.toNat s (min s.length (70 : Nat))).fst.fst,(playB n.toNat s (min s.length (70 : Nat))).fst.snd.fst,()) p q x)=(0 : Int))==decide (bkE (poR n (playB n.toNat s (min s.length (70 : Nat))).snd.fst).fst.snd.snd (writeE ((poR n (playB n.toNat s (min s.length (70 : Nat))).snd.fst).fst.fst.fst,(poR n (playB n.toNat s (min s.length (70 : Nat))).snd.fst).fst.fst.snd.fst,()) p q x)=(0 : Int)))=true→AlikeOk (((bkT ((poR n (playB n.toNat s (min s.length (70 : Nat))).snd.fst).fst.fst.fst,(poR n (playB n.toNat s (min s.length (70 : Nat))).snd.fst).fst.fst.snd.fst,()) (poR n (playB n.toNat s (min s.length (70 : Nat))).snd.fst).fst.snd.fst (poR n (playB n.toNat s (min s.length (70 : Nat))).snd.fst).fst.snd.snd (writeE ((poR n (playB n.toNat s (min s.length (70 : Nat))).snd.fst).fst.fst.fst,(poR n (playB n.toNat s (min s.length (70 : Nat))).snd.fst).fst.fst.snd.fst,()) p q x) (writeT ((poR n (playB n.toNat s (min s.length (70 : Nat))).snd.fst).fst.fst.fst,(poR n (playB n.toNat s (min s.length (70 : Nat))).snd.fst).fst.fst.snd.fst,()) p q x) (lineF [(119 : UInt8)] [p,q,x])).fst.fst,(bkT ((poR n (playB n.toNat s (min s.length (70 : Nat))).snd.fst).fst.fst.fst,(poR n (playB n.toNat s (min s.length (70 : Nat))).snd.fst).fst.fst.snd.fst,()) (poR n (playB n.toNat s (min s.length (70 : Nat))).snd.fst).fst.snd.fst (poR n (playB n.toNat s (min s.length (70 : Nat))).snd.fst).fst.snd.snd (writeE ((poR n (playB n.toNat s (min s.length (70 : Nat))).snd.fst).fst.fst.fst,(poR n (playB n.toNat s (min s.length (70 : Nat))).snd.fst).fst.fst.snd.fst,()) p q x) (writeT ((poR n (playB n.toNat s (min s.length (70 : Nat))).snd.fst).fst.fst.fst,(poR n (playB n.toNat s (min s.length (70 : Nat))).snd.fst).fst.fst.snd.fst,()) p q x) (lineF [(119 : UInt8)] [p,q,x])).fst.snd.fst,()),(bkT ((poR n (playB n.toNat s (min s.length (70 : Nat))).snd.fst).fst.fst.fst,(poR n (playB n.toNat s (min s.length (70 : Nat))).snd.fst).fst.fst.snd.fst,()) (poR n (playB n.toNat s (min s.length (70 : Nat))).snd.fst).fst.snd.fst (poR n (playB n.toNat s (min s.length (70 : Nat))).snd.fst).fst.snd.snd (writeE ((poR n (playB n.toNat s (min s.length (70 : Nat))).snd.fst).fst.fst.fst,(poR n (playB n.toNat s (min s.length (70 : Nat))).snd.fst).fst.fst.snd.fst,()) p q x) (writeT ((poR n (playB n.toNat s (min s.length (70 : Nat))).snd.fst).fst.fst.fst,(poR n (playB n.toNat s (min s.length (70 : Nat))).snd.fst).fst.fst.snd.fst,()) p q x) (lineF [(119 : UInt8)] [p,q,x])).snd.fst,(bkT ((poR n (playB n.toNat s (min s.length (70 : Nat))).snd.fst).fst.fst.fst,(poR n (playB n.toNat s (min s.length (70 : Nat))).snd.fst).fst.fst.snd.fst,()) (poR n (playB n.toNat s (min s.length (70 : Nat))).snd.fst).fst.snd.fst (poR n (playB n.toNat s (min s.length (70 : Nat))).snd.fst).fst.snd.snd (writeE ((poR n (playB n.toNat s (min s.length (70 : Nat))).snd.fst).fst.fst.fst,(poR n (playB n.toNat s (min s.length (70 : Nat))).snd.fst).fst.fst.snd.fst,()) p q x) (writeT ((poR n (playB n.toNat s (min s.length (70 : Nat))).snd.fst).fst.fst.fst,(poR n (playB n.toNat s (min s.length (70 : Nat))).snd.fst).fst.fst.snd.fst,()) p q x) (lineF [(119 : UInt8)] [p,q,x])).snd.snd) (((bkT ((playB n.toNat s (min s.length (70 : Nat))).fst.fst,(playB n.toNat s (min s.length (70 : Nat))).fst.snd.fst,()) (playB n.toNat s (min s.length (70 : Nat))).snd.fst (playB n.toNat s (min s.length (70 : Nat))).snd.snd (writeE ((playB n.toNat s (min s.length (70 : Nat))).fst.fst,(playB n.toNat s (min s.length (70 : Nat))).fst.snd.fst,()) p q x) (writeT ((playB n.toNat s (min s.length (70 : Nat))).fst.fst,(playB n.toNat s (min s.length (70 : Nat))).fst.snd.fst,()) p q x) (lineF [(119 : UInt8)] [p,q,x])).fst.fst,(bkT ((playB n.toNat s (min s.length (70 : Nat))).fst.fst,(playB n.toNat s (min s.length (70 : Nat))).fst.snd.fst,()) (playB n.toNat s (min s.length (70 : Nat))).snd.fst (playB n.toNat s (min s.length (70 : Nat))).snd.snd (writeE ((playB n.toNat s (min s.length (70 : Nat))).fst.fst,(playB n.toNat s (min s.length (70 : Nat))).fst.snd.fst,()) p q x) (writeT ((playB n.toNat s (min s.length (70 : Nat))).fst.fst,(playB n.toNat s (min s.length (70 : Nat))).fst.snd.fst,()) p q x) (lineF [(119 : UInt8)] [p,q,x])).fst.snd.fst,()),(bkT ((playB n.toNat s (min s.length (70 : Nat))).fst.fst,(playB n.toNat s (min s.length (70 : Nat))).fst.snd.fst,()) (playB n.toNat s (min s.length (70 : Nat))).snd.fst (playB n.toNat s (min s.length (70 : Nat))).snd.snd (writeE ((playB n.toNat s (min s.length (70 : Nat))).fst.fst,(playB n.toNat s (min s.length (70 : Nat))).fst.snd.fst,()) p q x) (writeT ((playB n.toNat s (min s.length (70 : Nat))).fst.fst,(playB n.toNat s (min s.length (70 : Nat))).fst.snd.fst,()) p q x) (lineF [(119 : UInt8)] [p,q,x])).snd.fst,(bkT ((playB n.toNat s (min s.length (70 : Nat))).fst.fst,(playB n.toNat s (min s.length (70 : Nat))).fst.snd.fst,()) (playB n.toNat s (min s.length (70 : Nat))).snd.fst (playB n.toNat s (min s.length (70 : Nat))).snd.snd (writeE ((playB n.toNat s (min s.length (70 : Nat))).fst.fst,(playB n.toNat s (min s.length (70 : Nat))).fst.snd.fst,()) p q x) (writeT ((playB n.toNat s (min s.length (70 : Nat))).fst.fst,(playB n.toNat s (min s.length (70 : Nat))).fst.snd.fst,()) p q x) (lineF [(119 : UInt8)] [p,q,x])).snd.snd)∧inK IntKind.i64 n∧kk [Dat.mk Ty.bool true])∧((decide (bkE (playB n.toNat s (min s.length (70 : Nat))).snd.snd (writeE ((playB n.toNat s (min s.length (70 : Nat))).fst.fst,(playB n.toNat s (min s.length (70 : Nat))).fst.snd.fst,()) p q x)=(0 : Int))==decide (bkE (poR n (playB n.toNat s (min s.length (70 : Nat))).snd.fst).fst.snd.snd (writeE ((poR n (playB n.toNat s (min s.length (70 : Nat))).snd.fst).fst.fst.fst,(poR n (playB n.toNat s (min s.length (70 : Nat))).snd.fst).fst.fst.snd.fst,()) p q x)=(0 : Int)))=false→kk [Dat.mk Ty.bool false]))))∧((poR n (playB n.toNat s (min s.length (70 : Nat))).snd.fst).snd.snd≠(0 : Int)→((!decide ((poR n (playB n.toNat s (min s.length (70 : Nat))).snd.fst).snd.snd=(0 : Int)))=true→kk [Dat.mk Ty.bool false])∧((!decide ((poR n (playB n.toNat s (min s.length (70 : Nat))).snd.fst).snd.snd=(0 : Int)))=false→False))))))):=by kernel_rfl
open Go.Vc Go.Proofs Go.RowKit
theorem okFact (v : GV) : PlainOk Tryz.prog (glO v) 12 cFact:=by
 refine plain_of (CxOk.mk' Ef_ok (by kernel_rfl) mixed (gl:=glO v) GOk.nil (GoOk.cons (ownToldN v) Tryz.func13 (by kernel_rfl) (by kernel_rfl) (GoOk.cons ownBTxt.lift Tryz.func14 (by kernel_rfl) (by kernel_rfl) GoOk.nil)) noIt) Tryz.func12 (c:=Tryz.f12.body.getD .skip) (rvs:=[(.tmp 0,.bool)]) (by kernel_rfl) (by kernel_rfl) (by kernel_rfl) ?_
 intro ds k ⟨hp,hk⟩ hwf
 obtain ⟨rfl,-⟩:=dest0 hp
 have hk : k [⟨.bool,true⟩]:=hk
 refine ⟨[joinAll],?_⟩
 rw [vcFact]
 have hl : lineF [115] [0,1]=[115,32,48,32,49,32,54,57,54,10]:=by decide +kernel
 refine ⟨⟨fun l h1 x h2 => ?_⟩,fun hb=>absurd hb (by decide),fun _=>⟨fun _=>⟨?_,?_⟩,fun h=>by cases h⟩⟩
 · have h1 : l=[0,1]:=List.mem_singleton.1 h1
   subst h1
   simp only [List.mem_cons,List.not_mem_nil,or_false] at h2
   rcases h2 with rfl | rfl<;>exact inK_i64.2 ⟨by decide,by decide⟩
 · show (lineF [115] [0,1]).length≤1000000000
   rw [hl]; decide
 · have e : (lineF [115] [0,1]==[115,32,48,32,49,32,54,57,54,10])=true:=by rw [hl]; decide
   show k [⟨.bool,lineF [115] [0,1]==[115,32,48,32,49,32,54,57,54,10]⟩]
   rw [e]; exact hk
theorem torn_open {n : Int} {s : List (List Int)} (hs : ∀ l∈s,∀ v∈l,inK .i64 v) (k : Nat) : poR n ((txtT n s).take k)=(bookT n s k,((linT n s k : Nat) : Int),0)∧linT n s k≤(sucL n.toNat s (min s.length 70)).length:=open_torn hs _ k
theorem torn_end {n : Int} {s : List (List Int)} {k : Nat} {x : Nat} (hx : x≤min s.length 70) (he : (sucL n.toNat s x).length=linT n s k) : playB n.toNat s x=bookT n s k:=by
 obtain ⟨t,e⟩:=suc_pre n.toNat s x (min s.length 70 - x)
 rw [show x+(min s.length 70 - x)=min s.length 70 by omega] at e
 unfold bookT
 rw [e,← he,playB_app _ _ _ _ (Nat.le_refl _),suc_play]
open Go.Vc Go.Proofs Go.RowKit
theorem full_open {n : Int} {s : List (List Int)} (hs : ∀ l∈s,∀ v∈l,inK .i64 v) : poR n (txtT n s)=(playB n.toNat s (min s.length 70),(playB n.toNat s (min s.length 70)).2.2,0):=by
 obtain ⟨h1,h2⟩:=torn_open (n:=n) hs (txtT n s).length
 rw [List.take_length] at h1
 have hl : (sucL n.toNat s (min s.length 70)).length=linT n s (txtT n s).length:=by
   obtain ⟨e1,_⟩:=suc_text n.toNat s (min s.length 70)
   have e1 : txtT n s=_:=e1
   have:=splL_len 10 (txtT n s)
   unfold linT
   rw [List.take_length]
   rw [e1,textL_spl,List.length_append,List.length_map,List.length_singleton] at this
   rw [e1]; omega
 have hb:=torn_end (Nat.le_refl _) hl
 rw [h1,← hb,← hl,(suc_text n.toNat s _).2]
theorem again_vc (v : GV) (n : Int) (s : List (List Int)) (p q x : Int) (hn : inK .i64 n) (hp : inK .i64 p) (hq : inK .i64 q) (hx : inK .i64 x) (hs : ∀ l∈s,∀ v∈l,inK .i64 v) (kk : List Dat→Prop) (hk : kk [⟨.bool,true⟩]) :
   vcF ⟨Elr,[(12,cFact)],glO v,[],[(13,oToldN),(14,oBTxt),(15,oBOpen),(16,oBW),(18,oAlike)]⟩ anAgain (Tryz.f4.body.getD .skip) Tryz.f4.ntmps [(.tmp 10,.bool)] [⟨I,n⟩,⟨.sl (.sl I),s⟩,⟨I,p⟩,⟨I,q⟩,⟨I,x⟩] kk:=by
 rw [vcAgain]
 have ret : ∀ x : Bool,x=true→kk [⟨.bool,x⟩]:=by rintro _ rfl; exact hk
 have hn':=inK_i64.1 hn
 refine ⟨trivial,fun h=>(by cases h),fun _=>⟨⟨hs⟩,fun hb=>⟨fun _=>⟨fun _=>hk,fun h1=>ret _ ?_⟩,fun h=>(by cases h)⟩,fun hb=>⟨fun h=>(by cases h),fun _ => ?_⟩⟩⟩
 · have hb' : ¬ (1≤n∧n≤5):=fun h=>by rw [inB_iff.2 h] at hb; cases hb
   have h1 : ¬ n < 1:=by simpa using h1
   simp only [decide_eq_true_eq]; omega
 · have hB:=BInv.play hb hs (min s.length 70)
   have hT : txtT n s=(playB n.toNat s (min s.length 70)).2.1:=rfl
   have htl:=hB.txt
   have hop:=full_open (n:=n) hs
   rw [hT] at hop
   rw [hop]
   have hB2:=hB.step [p,q,x] (fun v hv=>by
     simp only [List.mem_cons,List.not_mem_nil,or_false] at hv
     rcases hv with rfl | rfl | rfl<;>assumption)
   rw [stepB3 rfl] at hB2
   have hB2t:=hB2.txt
   have hB2n:=hB2.nlen
   generalize hP : playB n.toNat s (min s.length 70)=P at *
   obtain ⟨⟨nd,wr,_⟩,txt,m⟩:=P
   have hP' : POpenOk n txt:=⟨by have : txt.length≤24000:=htl; omega,fun i _ _=>(BInv.lines hb _ i).ok⟩
   have hO:=hB.ok
   have ht1 : txt.length≤24000:=htl
   refine ⟨by show txt.length≤_; omega,by show txt.length≤_; omega,fun h=>absurd (hb.symm.trans h) (by decide),fun _=>⟨hP',fun _=>⟨fun h=>(by cases h),fun _=>⟨⟨hB.nlen,by show txt.length≤_; omega,rfl⟩,hn,fun h=>(by cases h),fun _=>⟨⟨hO.sh,hO.txt,hO.lo,hO.hi⟩,⟨hO.sh,hO.txt,hO.lo,hO.hi⟩,fun _=>⟨⟨hB2n,Nat.le_trans hB2t (by decide),rfl⟩,hn,hk⟩,fun h => ?_⟩⟩⟩,fun h=>absurd rfl h⟩⟩
   simp at h
theorem okLawA (v : GV) : PlainOk Tryz.prog (glO v) 4 cLawA:=by
 refine plain_of (CxOk.mk' Elr_ok (by kernel_rfl) mixed (gl:=glO v) (GOk.cons (okFact v) Tryz.func12 (by kernel_rfl) (by kernel_rfl) GOk.nil) (GoOk.cons (ownToldN v) Tryz.func13 (by kernel_rfl) (by kernel_rfl) (GoOk.cons ownBTxt.lift Tryz.func14 (by kernel_rfl) (by kernel_rfl) (GoOk.cons (ownBOpen v) Tryz.func15 (by kernel_rfl) (by kernel_rfl) (GoOk.cons (OwnOk.sub glO_T ownBW) Tryz.func16 (by kernel_rfl) (by kernel_rfl) (GoOk.cons ownAlike.lift Tryz.func18 (by kernel_rfl) (by kernel_rfl) GoOk.nil))))) noIt) Tryz.func4 (c:=Tryz.f4.body.getD .skip) (rvs:=[(.tmp 10,.bool)]) (by kernel_rfl) (by kernel_rfl) (by kernel_rfl) ?_
 intro ds k ⟨hp,hk⟩ hwf
 obtain ⟨n,s,p,q,x,rfl,-⟩:=dest5 hp
 have hk : k [⟨.bool,true⟩]:=hk
 have h1 : inK .i64 n:=hwf ⟨I,n⟩ (List.mem_cons_self ..)
 have h2 : (Ty.sl (.sl I)).wf s:=hwf ⟨.sl (.sl I),s⟩ (List.mem_cons_of_mem _ (List.mem_cons_self ..))
 have h3 : inK .i64 p:=hwf ⟨I,p⟩ (List.mem_cons_of_mem _ (List.mem_cons_of_mem _ (List.mem_cons_self ..)))
 have h4 : inK .i64 q:=hwf ⟨I,q⟩ (List.mem_cons_of_mem _ (List.mem_cons_of_mem _ (List.mem_cons_of_mem _ (List.mem_cons_self ..))))
 have h5 : inK .i64 x:=hwf ⟨I,x⟩ (List.mem_cons_of_mem _ (List.mem_cons_of_mem _ (List.mem_cons_of_mem _ (List.mem_cons_of_mem _ (List.mem_cons_self ..)))))
 exact ⟨anAgain,again_vc v n s p q x h1 h3 h4 h5 (fun l hl y hy=>(h2.2 l hl).2 y hy) k hk⟩
end Go.Proofs.YthdbbgajmgjfcaaGreatDoor

namespace Go.Vc
open Go.RowKit Go.ChangeShapes Go.WideShapes Go.Deep
theorem returnsInHanded_of_shape {H : Type} {enc : TypeId×Value→H} {a : Assume} {C : Checked} {os : Os} {f : FuncId} {fn : Func} {s : ChangeSpec} {conds : List PathCond} {apart fresh handsOn again : Bool} {X : World→Array Value→Prop}
   (hX : ∀ (w w' : World) (args : Array Value),w.heap=w'.heap→X w args→X w' args)
   (own : ownKnob C.prog.godebug=none) (started : os.Started) (noInit : C.prog.inits.idxOf? f=none) (hfn : C.prog.funcs[f]? = some fn)
   (witness : ∃ (w : World) (tape : Tape) (i : Input),w.os=os∧(w.forCall tape i).Shaped C.prog∧i.vars=[]∧Input.okWide C.prog (w.forCall tape i) .any w.heap.size f i ∧
     ((s.pre enc C.prog fn conds apart (w.forCall tape i).memory i.args∧X (w.forCall tape i).memory i.args)∧sizedMet enc C.prog fn (OpenSpec.ofChange s) apart (w.forCall tape i).memory i.args)∧a.holds C.prog (lone (Frame.enter C.prog f i.args .normal) [] (w.forCall tape i)))
   (contract : ∀ (W : World) (base : Nat) (args : Array Value) (ds gs : List (DataW H)) (before : List MemPlace),
     (∀ (j : Nat) t v,fn.params[j]? = some t→args[j]? = some v→Value.okWide C.prog W .any base t v) →
     DataW.Whole enc C.prog fn.params.toList s.vars apart W args.toList ds gs before→X W args→W.ShapedOpen C.prog →
     Calls C.prog f args W fun e W'=>∃ v,e = .returned v∧s.post enc C.prog fn apart fresh handsOn again W args v W') :
   ReturnsInHanded a C os f .any (fun w args=>(s.pre enc C.prog fn conds apart w args∧X w args)∧sizedMet enc C.prog fn (OpenSpec.ofChange s) apart w args) (s.post enc C.prog fn apart fresh handsOn again):=by
 refine returnsInHanded_of_calls own started noInit witness ?_
 intro w tape i _ hsh _ hok hpre hholds
 obtain ⟨_,_,_,fn',hfn',_,_,_,_,hval⟩:=hok
 have e : fn'=fn:=Option.some.inj (hfn'.symm.trans hfn)
 subst e
 obtain ⟨⟨⟨ds,gs,before,hw,hc⟩,hx⟩,hz⟩:=hpre
 have hw':=DataW.Whole.of_heap (w':=w.forCall tape i) (by rfl) hw
 refine (contract (w.forCall tape i) w.heap.size i.args ds gs before hval hw' (hX _ _ _ (by rfl) hx) hsh).mono fun e W' ⟨v,he,hp⟩ => ?_
 subst he
 exact ChangeSpec.post_blind hp
theorem gl_of_shape {P : Program} {w : World} {g : Nat} {t : TypeId} {zero : Array Value} {k : IntKind} (h : w.ShapedOpen P) (hg : g < P.globals.size)
   (h0 : ((begin P (fun _ _=>0) default).world.heap[g]?).bind Obj.row? = some (zero,t)) (hz : zero.size=1) (hc : ∃ m,w.cell? ⟨g,0,none⟩=some (.int k m)) :
   ∃ m,GlOk [(g,⟨.raw,Value.int k m⟩)] w fun b=>b < w.heap.size:=by
 obtain ⟨m,hm⟩:=hc
 obtain ⟨cs,hh,hs,_⟩:=h.1 g zero t hg h0
 refine ⟨m,fun g2 d2 hm2 => ?_⟩
 obtain ⟨e1,e2⟩:=Prod.mk.inj (List.mem_singleton.1 hm2)
 subst e1; subst e2
 refine ⟨⟨World.block_lt_of_cell? w ⟨g2,0,none⟩ hm,cs,t,_,hh,by rw [hs,hz]; rfl⟩,[.int k m],fun j u hj => ?_,rfl,rfl⟩
 match j with
 | 0=>simp at hj; subst hj; exact hm
 | j+1=>simp at hj
theorem gl_of_raw {P : Program} {w : World} {n : String} {g : Nat} {v : Value} (hg : P.globalNamed n=some g) (h : w.var? P n=some #[v]) (h1 : v.oneCell'=true) : GlOk [(g,⟨.raw,v⟩)] w fun b=>b < w.heap.size:=by
 intro g2 d2 hm2
 obtain ⟨ea,eb⟩:=Prod.mk.inj (List.mem_singleton.1 hm2)
 subst ea; subst eb
 have hcell:=World.var?_cell hg h
 obtain ⟨e0,q0,hblk⟩:=var_block hg h
 refine ⟨⟨?_,#[v],e0,q0,hblk,rfl⟩,[v],fun j u hj => ?_,rfl,h1⟩
 · refine World.block_lt_of_cell? w ⟨g2,0,none⟩ (u:=v) ?_
   rw [hcell 0]; rfl
 · rw [hcell j,← hj]; simp
end Go.Vc
namespace Go.Proofs.YthdbbgajmgjfcaaGreatDoor
open Go.Vc Go.Proofs Go.RowKit
theorem rowEs (u : TypeId) (h : Tryz.prog.typeName? 3 u=some "*errors.errorString") : u=210 :=
 typeName_ptr_named (nm := "errors.errorString") (by rw [show "*" ++ "errors.errorString" = "*errors.errorString" by decide]; kernel_rfl) (by kernel_rfl) (by decide) u (by rw [show "*" ++ "errors.errorString" = "*errors.errorString" by decide]; exact h)
def Eg10 : Env:={ tys:=[(207,.ar 20 (.int .u64))],errT:=73,eqs:=[],els:=[] }
theorem Eg10_ok : EnvOk Tryz.prog Eg10:=EnvOk.of_list (by kernel_rfl) (by kernel_rfl) (by kernel_rfl)
theorem gv_of {W : World} (hsh : W.ShapedOpen Tryz.prog) {r : List (String×DataW Unit)} (h : laidMet Tryz.prog (("strconv.ErrRange",Rows.laid_strconv_ErrRange)::("strconv.ErrSyntax",Rows.laid_strconv_ErrSyntax)::r) W) : ∃ v,GlOk (glM v) W fun b=>b < W.heap.size:=by
 obtain ⟨m,h1⟩:=gl_of_shape (zero:=#[.int .i64 0]) (t:=3) (k := .i64) (g:=1) hsh (of_decide_eq_true (by kernel_rfl)) (by kernel_rfl) rfl (laidSplit.s1_3 W hsh)
 obtain ⟨a2,_,h2,_⟩:=laid_sentinel (g:=3) h (by kernel_rfl) (by kernel_rfl) (ti:=29) Tryz.underlying29 rowEs Tryz.underlying210 Tryz.underlying212 rfl rfl Tryz.underlying9 (by kernel_rfl) (by kernel_rfl)
 obtain ⟨a3,_,h3,_⟩:=laid_sentinel (g:=2) h.tail (by kernel_rfl) (by kernel_rfl) (ti:=29) Tryz.underlying29 rowEs Tryz.underlying210 Tryz.underlying212 rfl rfl Tryz.underlying9 (by kernel_rfl) (by kernel_rfl)
 refine ⟨⟨m,_,_,_,_⟩,GlOk.append h1 (GlOk.append (gl_of_raw (by kernel_rfl) h3 rfl) (gl_of_raw (by kernel_rfl) h2 rfl))⟩
open Go.Vc Go.Proofs Go.RowKit
theorem glO_laid {laid : List (String×DataW Unit)} {W : World} (hsh : W.ShapedOpen Tryz.prog) (hL : laidMetH Tryz.prog laid W) {a b d : String×DataW Unit} {f : List (String×DataW Unit)}
   (he : (laid.filter fun x=>x.2.handleName?.isNone)=a::b::("internal/strconv.uint64pow10",Rows.laid_internal_strconv_uint64pow10)::d::("strconv.ErrRange",Rows.laid_strconv_ErrRange)::("strconv.ErrSyntax",Rows.laid_strconv_ErrSyntax)::f)
   (hm : ("internal/strconv.uint64pow10",Rows.laid_internal_strconv_uint64pow10)∈laid) : ∃ v,GlOk (glO v) W fun b=>b < W.heap.size:=by
 have h1:=(laidMetH_iff.1 hL).1
 rw [he] at h1
 obtain ⟨v,hv⟩:=gv_of hsh h1.tail.tail.tail.tail
 exact ⟨v,GlOk.append (gl_of_laidM Eg10_ok (n := "internal/strconv.uint64pow10") (T:=207) (xs:=Lib.pow10Tab) hL hm (by kernel_rfl) (by kernel_rfl) (by kernel_rfl) (by kernel_rfl) (by decide)) hv⟩
theorem glAgain {W : World} (hsh : W.ShapedOpen Tryz.prog) (hL : laidMetH Tryz.prog Rows.bookAgainRow.laid W) : ∃ v,GlOk (glO v) W fun b=>b < W.heap.size:=glO_laid (a:=("math/bits.deBruijn32tab",Rows.laid_math_bits_deBruijn32tab)) (b:=("math/bits.deBruijn64tab",Rows.laid_math_bits_deBruijn64tab)) (d:=("unicode/utf8.acceptRanges",Rows.laid_unicode_utf8_acceptRanges)) (f:=[("unicode/utf8.first",Rows.laid_unicode_utf8_first)]) hsh hL (by kernel_rfl) (.tail _ (.tail _ (.head _)))
end Go.Proofs.YthdbbgajmgjfcaaGreatDoor
