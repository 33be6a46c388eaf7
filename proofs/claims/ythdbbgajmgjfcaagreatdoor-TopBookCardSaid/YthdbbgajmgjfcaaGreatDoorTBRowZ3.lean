/- Own texts, merged and cut: BkRg, BkSh, BkGz. -/
import Derived.Test.YthdbbgajmgjfcaaGreatDoorTBRowZ2
import Derived.Stop.LaidErr
import Derived.HandedShaped
import Derived.RowKit
import Derived.Handed
import Derived.Test.YthdbbgajmgjfcaaGreatDoorRows
namespace Go.Proofs.YthdbbgajmgjfcaaGreatDoor
open Go.Vc Go.Proofs Go.RowKit
abbrev anTopN(n:Int)(s:List (List Int)):Ann:=anTopG n s (newF n.toNat) (playB n.toNat s) (midB n.toNat s) (tx3 n s) (ln3 n s) (bk3 n s) (fun K r=>bR n.toNat (bk3 n s K) r) (fun K r p=>bP n.toNat (bR n.toNat (bk3 n s K) r) p) (fun K r p q=>bQ p (bP n.toNat (bR n.toNat (bk3 n s K) r) p) q) (hadT n s) (midH n s) (T3 n s) (T3Mid n s)
theorem top_vc(v:GV)(j:Nat)(s:List (List Int))(x key:Int)(hb:inB (Int.ofNat (j+1)) 1 5=true)(hs:∀ l∈s,∀ v∈l,inK .i64 v)(hx:inK .i64 x)(k:List Dat→Prop)(hk:k [⟨.bool,true⟩]) :
 vcF ⟨Elr,[(21,cValues)],glO v,[],[(25,oBNewA),(26,oNewA),(14,oBTxt),(15,oBOpenA),(16,oBW),(17,oBS),(27,oWrite),(28,oSync),(22,oBRd),(29,oRead)]⟩ (anTopN (Int.ofNat (j+1)) s) (Tryz.f10.body.getD .skip) Tryz.f10.ntmps [(.tmp 8,.bool)] [⟨I,(Int.ofNat (j+1):Int)⟩,⟨.sl (.sl I),s⟩,⟨I,x⟩,⟨I,key⟩] k:=by
 rw[vcTopA]
 have hj:j+1=(Int.ofNat (j+1)).toNat:=rfl
 generalize hn:Int.ofNat (j+1)=n at *
 rw[hj]
 have i0:Int.toNat 0=0:=rfl
 have i1:Int.toNat 1=1:=rfl
 have i2:Int.toNat 2=2:=rfl
 simp only[i0,i1,i2,net_eta,decide_eq_true_eq,decide_eq_false_iff_not,Int.toNat_natCast,inK_i64,true_and,and_true,List.drop_zero,Bool.not_eq_true',Bool.not_eq_false',not_true_eq_false,false_implies,true_implies,not_false_eq_true,Bool.false_eq_true]
 have hB:=fun i=>BInv.play hb hs i
 have hn5:1≤n∧n≤5:=inB_iff.1 hb
 have hinT:∀ K,BInv n.toNat (bk3 n s K):=fun K=>bk3_inv hb hs K
 have htl:(tx3 n s).length≤24000:=(hB _).txt
 refine⟨hb,fun h=>absurd h (by decide),fun _=>⟨hb,⟨⟨0,⟨⟨Nat.zero_le _,Nat.zero_le _⟩,hb⟩,rfl,rfl,rfl,rfl,rfl,rfl,rfl⟩,fun x1 ⟨⟨hx1,hx30⟩,_⟩=>⟨fun hlt=>⟨fun h30=>⟨by omega,hlt,⟨fun h3 => ?a,fun h3 => ?b⟩,fun y ⟨⟨⟨hy,hy30⟩,_⟩,hxy⟩=>⟨fun h2 => ?c,fun h2 => ?d⟩⟩,fun h30 => ?e⟩,fun hge => ?f⟩⟩,?g⟩⟩
 case a =>
  have h3':(s.getD x1 []).length=3:=by omega
  have em:midB n.toNat s x1=_:=(show midB n.toNat s x1=playB n.toNat s (x1+1) by unfold midB;rw[if_pos h3']).trans ((playB_succ ..).trans (stepB3 h3'))
  have hk1:=(hB x1).ok
  exact⟨by omega,⟨hk1.sh,hk1.txt,hk1.lo,hk1.hi⟩,x1,⟨⟨⟨by omega,by omega⟩,hb⟩,rfl⟩,⟨rfl,rfl⟩,by rw[em],by rw[em],by rw[em],by rw[em]⟩
 case b =>
  have em:midB n.toNat s x1=playB n.toNat s x1:=by unfold midB;rw[if_neg (by omega)]
  exact⟨x1,⟨⟨⟨by omega,by omega⟩,hb⟩,rfl⟩,⟨rfl,rfl⟩,by rw[em],by rw[em],by rw[em],by rw[em]⟩
 case c =>
  have h2':(s.getD y []).length=2:=by omega
  have em:midB n.toNat s y=playB n.toNat s y:=by unfold midB;rw[if_neg (by omega)]
  have e:playB n.toNat s (y+1)=_:=(playB_succ ..).trans (stepB2 h2')
  have hk1:=(hB y).ok
  rw[em]
  exact⟨by omega,⟨hk1.sh,hk1.txt,hk1.lo,hk1.hi⟩,by omega,y+1,⟨⟨by omega,by omega⟩,hb⟩,by omega,by omega,by rw[e],by rw[e],by rw[e],by rw[e]⟩
 case d =>
  have em:midB n.toNat s y=playB n.toNat s (y+1):=by
   unfold midB
   split
   ·rfl
   ·rename_i h3
    rw[playB_succ,stepB0 h3 (by omega)]
  exact⟨by omega,y+1,⟨⟨by omega,by omega⟩,hb⟩,by omega,by omega,by rw[em],by rw[em],by rw[em],by rw[em]⟩
 case e =>
  have:x1=min s.length 30:=by omega
  rw[this];exact⟨(),hb,rfl,rfl,rfl,rfl⟩
 case f =>
  have:x1=min s.length 30:=by omega
  rw[this];exact⟨(),hb,rfl,rfl,rfl,rfl⟩
 case g =>
  have hx':=inK_i64.1 hx
  have htx:(playB n.toNat s (min s.length 30)).2.1=tx3 n s:=rfl
  rw[htx]
  refine fun _ _=>⟨by omega,⟨fun hlt=>⟨(tx3 n s).length,⟨Nat.le_refl _,hb⟩,rfl,rfl⟩,fun hge=>⟨fun hgt=>⟨(tx3 n s).length,⟨Nat.le_refl _,hb⟩,rfl,rfl⟩,fun hle=>⟨x.toNat,⟨by omega,hb⟩,by omega,rfl⟩⟩⟩,fun K ⟨hK,_⟩ => ?_⟩
  obtain⟨hop,hln⟩:=t3_open (n:=n) hs K
  have h30:T3 n s K 0:=⟨hb,⟨Nat.zero_le _,Nat.zero_le _⟩,by show (0:Int)≤_;omega,hK⟩
  have hP:POpenOk n ((tx3 n s).take K):=⟨by rw[List.length_take];omega,fun i _ _=>(BInv.lines hb _ i).ok⟩
  have hOA:OpenA n ((tx3 n s).take K):=⟨hP.le,hb,hP,by rw[hop]⟩
  have hend:∀ i,T3 n s K i→(i=min s.length 30∨¬ hadT n s i<(ln3 n s K:Int))→hadT n s i=(ln3 n s K:Int)∧playB n.toNat s i=bk3 n s K:=by
   intro i hi h
   have he:hadT n s i=(ln3 n s K:Int):=by
    have hh:=hi.had
    rcases h with h | h
    ·have:hadT n s i=((sucL n.toNat s (min s.length 30)).length:Int):=by rw[h];rfl
     omega
    ·omega
   refine⟨he,t3_end ?_ ?_⟩
   ·have:=hi.le;omega
   ·have:((sucL n.toNat s i).length:Int)=_:=he
    omega
  have hlast:∀ i,T3 n s K i→(i=min s.length 30∨¬ hadT n s i<(ln3 n s K:Int))→∃ _:Unit,T3 n s K 0∧hadT n s i=(ln3 n s K:Int)∧(playB n.toNat s i).1.1=(bk3 n s K).1.1∧(playB n.toNat s i).1.2.1=(bk3 n s K).1.2.1:=by
   intro i hi h
   obtain⟨h1,h2⟩:=hend i hi h
   exact⟨(),h30,h1,by rw[h2],by rw[h2]⟩
  have hlnk:∀ i,0≤hadT n s i∧hadT n s i≤i:=fun i=>by have:=suc_len n.toNat s i;unfold hadT;omega
  rw[hop]
  refine⟨⟨Int.le_refl _,by omega,by omega,hOA,(),h30,rfl,rfl,rfl,rfl,rfl⟩,fun _ _=>⟨⟨⟨0,h30,⟨rfl,rfl⟩,rfl,rfl⟩,fun i hi=>⟨fun hlt=>⟨fun hi30=>⟨fun hh=>⟨⟨by omega,hlt,⟨fun h3 => ?D,fun h3 => ?E⟩,fun y ⟨hy,hxy⟩=>⟨fun h2 => ?F,fun h2 => ?F2⟩⟩,fun y ⟨hy,hxy⟩ => ?G⟩,fun hh=>hlast i hi (.inr hh)⟩,fun h=>hlast i hi (.inl (by have:=hi.le;omega))⟩,fun h=>hlast i hi (.inl (by have:=hi.le;omega))⟩⟩,?H⟩⟩
  case D =>
   have h3':(s.getD i []).length=3:=by omega
   have hm:=many_le n.toNat s i
   have em:(midB n.toNat s i).1=writeT (playB n.toNat s i).1 ((s.getD i []).getD 0 0) ((s.getD i []).getD 1 0) ((s.getD i []).getD 2 0):=by
    have:midB n.toNat s i=playB n.toNat s (i+1):=by unfold midB;rw[if_pos h3']
    rw[this,playB_succ]
    exact net3 (by omega) h3'
   have eh:midH n s i=hadT n s (i+1):=by unfold midH;rw[if_pos h3']
   have ho:=okS3 (b:=playB n.toNat s i) h3'
   rw[bkE_lt (by omega)] at ho
   have hmo:=had_mono n s i
   have hmid:T3Mid n s K i:=⟨hb,⟨by omega,by omega⟩,hh,hK⟩
   have hl:=hlnk i
   refine⟨by omega,by omega,by omega,by omega,by omega,by omega,(hB i).ok.sh,fun he=>⟨by omega,i,⟨hmid,rfl⟩,⟨?_,rfl,rfl⟩,by rw[em],by rw[em]⟩,fun he=>⟨i,⟨hmid,rfl⟩,⟨?_,rfl,rfl⟩,by rw[em],by rw[em]⟩⟩
   ·rw[eh,hmo,ho,decide_eq_true he,if_pos rfl]
   ·rw[eh,hmo,ho,decide_eq_false he,if_neg (by decide)];omega
  case E =>
   have em:midB n.toNat s i=playB n.toNat s i:=by unfold midB;rw[if_neg (by omega)]
   have eh:midH n s i=hadT n s i:=by unfold midH;rw[if_neg (by omega)]
   exact⟨i,⟨⟨hb,⟨by omega,by omega⟩,hh,hK⟩,rfl⟩,⟨eh.symm,rfl,rfl⟩,by rw[em],by rw[em]⟩
  case F =>
   have h2':(s.getD y []).length=2:=by omega
   have hm:=many_le n.toNat s y
   have em:midB n.toNat s y=playB n.toNat s y:=by unfold midB;rw[if_neg (by omega)]
   have eh:midH n s y=hadT n s y:=by unfold midH;rw[if_neg (by omega)]
   have hy30:=hy.le
   have e:(playB n.toNat s (y+1)).1=syncT (playB n.toNat s y).1 ((s.getD y []).getD 0 0) ((s.getD y []).getD 1 0):=by
    rw[playB_succ];exact net2 (by omega) h2'
   have ho:=okS2 (b:=playB n.toNat s y) h2'
   rw[bkE_lt (by omega)] at ho
   have hmo:=had_mono n s y
   have hl:=hlnk y
   rw[em,eh]
   refine⟨by omega,by omega,by omega,by omega,(hB y).ok.sh,fun he=>⟨by omega,y,⟨hy,hxy⟩,⟨?_,rfl⟩,by rw[e],by rw[e]⟩,fun he=>⟨y,⟨hy,hxy⟩,⟨?_,rfl⟩,by rw[e],by rw[e]⟩⟩
   ·rw[hmo,ho,decide_eq_true he,if_pos rfl]
   ·rw[hmo,ho,decide_eq_false he,if_neg (by decide)];omega
  case F2 =>
   have hmo:=had_mono n s y
   have em:midB n.toNat s y=playB n.toNat s (y+1)∧midH n s y=hadT n s (y+1):=by
    unfold midB midH
    by_cases h3:(s.getD y []).length=3
    ·rw[if_pos h3,if_pos h3];exact⟨rfl,rfl⟩
    ·rw[if_neg h3,if_neg h3,playB_succ,stepB0 h3 (by omega),hmo,okS0 h3 (by omega),if_neg (by decide)]
     exact⟨rfl,by omega⟩
   exact⟨y,⟨hy,hxy⟩,⟨em.2,rfl⟩,by rw[em.1],by rw[em.1]⟩
  case G =>
   have hmo:=had_mono n s y
   have hyh:=hy.had
   have hyl:=hy.le
   have:hadT n s (y+1)≤(ln3 n s K:Int):=by
    rw[hmo];split<;>omega
   exact⟨by omega,y+1,⟨hb,⟨by omega,by omega⟩,this,hK⟩,by omega,⟨rfl,by omega⟩,rfl,rfl⟩
  case H =>
   have hI:=hinT K
   have e6:∀ {X Y:BS},X=Y→X.2.2=Y.2.2∧X.2.1=Y.2.1∧X.1.1=Y.1.1∧X.1.2.1=Y.1.2.1∧X.1.1=Y.1.1∧X.1.2.1=Y.1.2.1:=by
    rintro _ _ rfl;exact⟨rfl,rfl,rfl,rfl,rfl,rfl⟩
   refine fun _ _=>⟨fun hgt=>⟨⟨0,⟨Nat.zero_le _,hb⟩,rfl⟩,fun p ⟨hp,_⟩=>⟨fun hlt=>⟨hI.nlen,hI.nlen,by omega,p+1,⟨by omega,hb⟩,by omega,by omega⟩,fun _=>hk⟩⟩,fun hle => ?I⟩
   case I =>
    have hb3:inB n 1 3=true:=inB_iff.2 (by omega)
    have hn3:n.toNat≤3:=by omega
    have hmany:(bk3 n s K).2.2≤30:=by
     have h1:=(many_le n.toNat (sucL n.toNat s (min s.length 30)) (ln3 n s K)).2
     have h2:=suc_len n.toNat s (min s.length 30)
     have h3:(bk3 n s K).2.2≤(ln3 n s K:Int):=h1
     omega
    have hR:=fun r (hr:r≤2)=>bR_ok hI hn3 hmany r hr
    have hPr:=fun r (hr:r≤2) p (hp:p≤n.toNat)=>bP_ok (hR r hr).1 hn3 (by have:=(hR r hr).2;omega) p hp
    have h2I:=(hR 2 (Nat.le_refl _)).1
    refine⟨⟨0,⟨Nat.zero_le _,hb3⟩,rfl,e6 rfl⟩,fun r ⟨hr,_⟩=>⟨fun hlt=>⟨⟨0,⟨Nat.zero_le _,hb3⟩,rfl,e6 rfl⟩,fun p ⟨hp,_⟩=>⟨fun hpl=>⟨⟨0,⟨Nat.zero_le _,hb3⟩,rfl,e6 rfl⟩,fun q ⟨hq,_⟩=>⟨fun hql=>⟨fun hne => ?S,fun heq => ?N⟩,fun hqg => ?QQ⟩⟩,fun hpg => ?Z⟩⟩,fun hrg => ?Y⟩⟩
    case S =>
     obtain⟨p1,p2,p3⟩:=hPr r hr p hp
     have hr2:=(hR r hr).2
     obtain⟨q1,q2,q3⟩:=bQ_ok p2 (by omega) (p:=p) (by omega) (by omega) q (by omega)
     obtain⟨H,IN⟩:=bInv_N q2
     have h0:=syncE0 IN (a:=p) (b:=q) (by omega) (by omega) hne
     have hok:=q2.ok
     have hlt60:(bQ p (bP n.toNat (bR n.toNat (bk3 n s K) r) p) q).2.2<60:=by omega
     have hbk:=bkE_lt (e:=syncE (bQ p (bP n.toNat (bR n.toNat (bk3 n s K) r) p) q).1 (p:Int) (q:Int)) hlt60
     have e1:bQ p (bP n.toNat (bR n.toNat (bk3 n s K) r) p) (q+1)=stepB (bQ p (bP n.toNat (bR n.toNat (bk3 n s K) r) p) q) [(p:Int),(q:Int)]:=if_neg hne
     have e2:=stepB2 (b:=bQ p (bP n.toNat (bR n.toNat (bk3 n s K) r) p) q) (l:=[(p:Int),(q:Int)]) rfl
     have e3:=net2 (l:=[(p:Int),(q:Int)]) hlt60 rfl
     rw[← e1] at e2 e3
     refine⟨⟨hok.sh,hok.txt,hok.lo,hok.hi⟩,fun h=>absurd (hbk.trans h0) h,fun _=>⟨hok.sh,fun h=>absurd h0 h,fun _=>⟨by omega,q+1,⟨by omega,hb3⟩,by omega,by omega,?_⟩⟩⟩
     refine⟨by rw[e2];rfl,by rw[e2];rfl,by rw[e2];rfl,by rw[e2];rfl,by rw[e3];rfl,by rw[e3];rfl⟩
    case N =>
     have e1:bQ p (bP n.toNat (bR n.toNat (bk3 n s K) r) p) (q+1)=bQ p (bP n.toNat (bR n.toNat (bk3 n s K) r) p) q:=if_pos heq
     exact⟨by omega,q+1,⟨by omega,hb3⟩,by omega,by omega,e6 e1.symm⟩
    case QQ =>
     have:q=n.toNat:=by omega
     subst this
     exact⟨by omega,p+1,⟨by omega,hb3⟩,by omega,by omega,e6 rfl⟩
    case Z =>
     have:p=n.toNat:=by omega
     subst this
     exact⟨by omega,r+1,⟨by omega,hb3⟩,by omega,by omega,e6 rfl⟩
    case Y =>
     have:r=2:=by omega
     subst this
     refine⟨⟨0,⟨Nat.zero_le _,hb3⟩,rfl,e6 rfl⟩,fun p ⟨hp,_⟩=>⟨fun hpl => ?_,fun _=>hk⟩⟩
     have hsame:=read_same hI hn3 hmany (i:=p) (by omega) key
     refine⟨h2I.nlen,h2I.nlen,h2I.nlen,h2I.nlen,fun h=>absurd hsame h,fun _=>⟨by omega,p+1,⟨by omega,hb3⟩,by omega,by omega⟩⟩
def cLawTA:Ctr:=cdet [I,.sl (.sl I),I,I] (fun (n:Int) _ _ _=>inB n 1 5=true) (fun _ _ _ _=>[⟨.bool,true⟩])
def cLawTE:Ctr:=cdet [I,.sl (.sl I),I,I] (fun (n:Int) _ _ _=>inB n 1 5=false) (fun _ _ _ _=>[⟨.bool,true⟩])
theorem okLawTA(v:GV):PlainOk Tryz.prog (glO v) 10 cLawTA:=by
 refine plain_of (CxOk.mk' Elr_ok (by kernel_rfl) mixed (gl:=glO v) (GOk.cons okValues.lift Tryz.func21 (by kernel_rfl) (by kernel_rfl) GOk.nil) (GoOk.cons ownBNewA.lift Tryz.func25 (by kernel_rfl) (by kernel_rfl) (GoOk.cons ownNewA.lift Tryz.func26 (by kernel_rfl) (by kernel_rfl) (GoOk.cons ownBTxt.lift Tryz.func14 (by kernel_rfl) (by kernel_rfl) (GoOk.cons (ownBOpenA v) Tryz.func15 (by kernel_rfl) (by kernel_rfl) (GoOk.cons (OwnOk.sub glO_T ownBW) Tryz.func16 (by kernel_rfl) (by kernel_rfl) (GoOk.cons (OwnOk.sub glO_T ownBS) Tryz.func17 (by kernel_rfl) (by kernel_rfl) (GoOk.cons ownWrite.lift Tryz.func27 (by kernel_rfl) (by kernel_rfl) (GoOk.cons ownSync.lift Tryz.func28 (by kernel_rfl) (by kernel_rfl) (GoOk.cons ownBRd.lift Tryz.func22 (by kernel_rfl) (by kernel_rfl) (GoOk.cons ownRead.lift Tryz.func29 (by kernel_rfl) (by kernel_rfl) GoOk.nil)))))))))) noIt) Tryz.func10 (c:=Tryz.f10.body.getD .skip) (rvs:=[(.tmp 8,.bool)]) (by kernel_rfl) (by kernel_rfl) (by kernel_rfl) ?_
 intro ds k ⟨hp,hk0⟩ hwf
 obtain⟨n,s,x,key,rfl,hb⟩:=dest4 hp
 have hk:k [⟨.bool,true⟩]:=hk0
 clear hk0
 have h2:(Ty.sl (.sl I)).wf s:=hwf ⟨.sl (.sl I),s⟩ (List.mem_cons_of_mem _ (List.mem_cons_self ..))
 have h3:inK .i64 x:=hwf ⟨I,x⟩ (List.mem_cons_of_mem _ (List.mem_cons_of_mem _ (List.mem_cons_self ..)))
 clear hp hwf
 revert h2 h3 hb
 revert n s x key
 intro (n:Int) (s:List (List Int)) (x:Int) (key:Int) hb h2 h3
 obtain⟨j,rfl⟩:∃ j:Nat,n=Int.ofNat (j+1):=⟨(n - 1).toNat,by
  have:=inB_iff.1 hb
  show n=(((n - 1).toNat+1:Nat):Int)
  omega⟩
 exact⟨anTopN (Int.ofNat (j+1)) s,top_vc v j s x key hb (fun l hl y hy=>(h2.2 l hl).2 y hy) h3 k hk⟩
theorem okLawTE(v:GV):PlainOk Tryz.prog (glO v) 10 cLawTE:=by
 refine plain_of (CxOk.mk' Elr_ok (by kernel_rfl) mixed (gl:=glO v) (GOk.cons okValues.lift Tryz.func21 (by kernel_rfl) (by kernel_rfl) GOk.nil) (GoOk.cons ownBNewE.lift Tryz.func25 (by kernel_rfl) (by kernel_rfl) (GoOk.cons ownNewE.lift Tryz.func26 (by kernel_rfl) (by kernel_rfl) GoOk.nil)) noIt) Tryz.func10 (c:=Tryz.f10.body.getD .skip) (rvs:=[(.tmp 8,.bool)]) (by kernel_rfl) (by kernel_rfl) (by kernel_rfl) ?_
 intro ds k ⟨hp,hk0⟩ hwf
 obtain⟨n,s,x,key,rfl,hb⟩:=dest4 hp
 have hk:k [⟨.bool,true⟩]:=hk0
 clear hk0
 clear hp hwf
 revert hb
 revert n s x key
 intro (n:Int) (s:List (List Int)) (x:Int) (key:Int) hb
 refine⟨[joinAll],?_⟩
 rw[vcTopE]
 have hb':¬ (1≤n∧n≤5):=fun h=>by rw[inB_iff.2 h] at hb;cases hb
 refine⟨hb,by decide,fun h=>absurd h (by decide),fun _=>⟨fun _=>⟨fun _=>hk,fun h => ?_⟩,fun h=>absurd h (by decide)⟩⟩
 have h:=of_decide_eq_false h
 rw[decide_eq_true (by omega:5<n)];exact hk
theorem okLawTB(v:GV):PlainOk Tryz.prog (glO v) 10 cLawTB:=by
 intro ds k hs
 obtain⟨hp,hk⟩:=hs
 obtain⟨n,s,x,key,rfl,-⟩:=dest4 hp
 have hk:k [⟨.bool,true⟩]:=hk
 cases hb:inB n 1 5 with
 | true=>exact okLawTA v _ k ⟨hb,hk⟩
 | false=>exact okLawTE v _ k ⟨hb,hk⟩
end Go.Proofs.YthdbbgajmgjfcaaGreatDoor

namespace Go.Vc
open Go.RowKit Go.ChangeShapes Go.WideShapes Go.Deep
theorem returnsInHanded_of_shape{H:Type}{enc:TypeId×Value→H}{a:Assume}{C:Checked}{os:Os}{f:FuncId}{fn:Func}{s:ChangeSpec}{conds:List PathCond}{apart fresh handsOn again:Bool}{X:World→Array Value→Prop}
 (hX:∀ (w w':World) (args:Array Value),w.heap=w'.heap→X w args→X w' args)
 (own:ownKnob C.prog.godebug=none) (started:os.Started) (noInit:C.prog.inits.idxOf? f=none) (hfn:C.prog.funcs[f]?=some fn)
 (witness:∃ (w:World) (tape:Tape) (i:Input),w.os=os∧(w.forCall tape i).Shaped C.prog∧i.vars=[]∧Input.okWide C.prog (w.forCall tape i) .any w.heap.size f i ∧
  ((s.pre enc C.prog fn conds apart (w.forCall tape i).memory i.args∧X (w.forCall tape i).memory i.args)∧sizedMet enc C.prog fn (OpenSpec.ofChange s) apart (w.forCall tape i).memory i.args)∧a.holds C.prog (lone (Frame.enter C.prog f i.args .normal) [] (w.forCall tape i)))
 (contract:∀ (W:World) (base:Nat) (args:Array Value) (ds gs:List (DataW H)) (before:List MemPlace),
  (∀ (j:Nat) t v,fn.params[j]?=some t→args[j]?=some v→Value.okWide C.prog W .any base t v) →
  DataW.Whole enc C.prog fn.params.toList s.vars apart W args.toList ds gs before→X W args→W.ShapedOpen C.prog →
  Calls C.prog f args W fun e W'=>∃ v,e = .returned v∧s.post enc C.prog fn apart fresh handsOn again W args v W') :
 ReturnsInHanded a C os f .any (fun w args=>(s.pre enc C.prog fn conds apart w args∧X w args)∧sizedMet enc C.prog fn (OpenSpec.ofChange s) apart w args) (s.post enc C.prog fn apart fresh handsOn again):=by
 refine returnsInHanded_of_calls own started noInit witness ?_
 intro w tape i _ hsh _ hok hpre hholds
 obtain⟨_,_,_,fn',hfn',_,_,_,_,hval⟩:=hok
 have e:fn'=fn:=Option.some.inj (hfn'.symm.trans hfn)
 subst e
 obtain⟨⟨⟨ds,gs,before,hw,hc⟩,hx⟩,hz⟩:=hpre
 have hw':=DataW.Whole.of_heap (w':=w.forCall tape i) (by rfl) hw
 refine (contract (w.forCall tape i) w.heap.size i.args ds gs before hval hw' (hX _ _ _ (by rfl) hx) hsh).mono fun e W' ⟨v,he,hp⟩ => ?_
 subst he
 exact ChangeSpec.post_blind hp
theorem gl_of_shape{P:Program}{w:World}{g:Nat}{t:TypeId}{zero:Array Value}{k:IntKind}(h:w.ShapedOpen P)(hg:g<P.globals.size)
 (h0:((begin P (fun _ _=>0) default).world.heap[g]?).bind Obj.row?=some (zero,t)) (hz:zero.size=1) (hc:∃ m,w.cell? ⟨g,0,none⟩=some (.int k m)) :
 ∃ m,GlOk [(g,⟨.raw,Value.int k m⟩)] w fun b=>b<w.heap.size:=by
 obtain⟨m,hm⟩:=hc
 obtain⟨cs,hh,hs,_⟩:=h.1 g zero t hg h0
 refine⟨m,fun g2 d2 hm2 => ?_⟩
 obtain⟨e1,e2⟩:=Prod.mk.inj (List.mem_singleton.1 hm2)
 subst e1;subst e2
 refine⟨⟨World.block_lt_of_cell? w ⟨g2,0,none⟩ hm,cs,t,_,hh,by rw[hs,hz];rfl⟩,[.int k m],fun j u hj => ?_,rfl,rfl⟩
 match j with
 | 0=>simp at hj;subst hj;exact hm
 | j+1=>simp at hj
theorem gl_of_raw{P:Program}{w:World}{n:String}{g:Nat}{v:Value}(hg:P.globalNamed n=some g)(h:w.var? P n=some #[v])(h1:v.oneCell'=true):GlOk [(g,⟨.raw,v⟩)] w fun b=>b<w.heap.size:=by
 intro g2 d2 hm2
 obtain⟨ea,eb⟩:=Prod.mk.inj (List.mem_singleton.1 hm2)
 subst ea;subst eb
 have hcell:=World.var?_cell hg h
 obtain⟨e0,q0,hblk⟩:=var_block hg h
 refine⟨⟨?_,#[v],e0,q0,hblk,rfl⟩,[v],fun j u hj => ?_,rfl,h1⟩
 ·refine World.block_lt_of_cell? w ⟨g2,0,none⟩ (u:=v) ?_
  rw[hcell 0];rfl
 ·rw[hcell j,← hj];simp
end Go.Vc
namespace Go.Proofs.YthdbbgajmgjfcaaGreatDoor
open Go.Vc Go.Proofs Go.RowKit
theorem rowEs(u:TypeId)(h:Tryz.prog.typeName? 3 u=some "*errors.errorString"):u=210 :=
 typeName_ptr_named (nm := "errors.errorString") (by rw[show "*" ++ "errors.errorString" = "*errors.errorString" by decide];kernel_rfl) (by kernel_rfl) (by decide) u (by rw[show "*" ++ "errors.errorString" = "*errors.errorString" by decide];exact h)
def Eg10:Env:={ tys:=[(207,.ar 20 (.int .u64))],errT:=73,eqs:=[],els:=[] }
theorem Eg10_ok:EnvOk Tryz.prog Eg10:=EnvOk.of_list (by kernel_rfl) (by kernel_rfl) (by kernel_rfl)
theorem gv_of{W:World}(hsh:W.ShapedOpen Tryz.prog){r:List (String×DataW Unit)}(h:laidMet Tryz.prog (("strconv.ErrRange",Rows.laid_strconv_ErrRange)::("strconv.ErrSyntax",Rows.laid_strconv_ErrSyntax)::r) W):∃ v,GlOk (glM v) W fun b=>b<W.heap.size:=by
 obtain⟨m,h1⟩:=gl_of_shape (zero:=#[.int .i64 0]) (t:=3) (k := .i64) (g:=1) hsh (of_decide_eq_true (by kernel_rfl)) (by kernel_rfl) rfl (laidSplit.s1_3 W hsh)
 obtain⟨a2,_,h2,_⟩:=laid_sentinel (g:=3) h (by kernel_rfl) (by kernel_rfl) (ti:=29) Tryz.underlying29 rowEs Tryz.underlying210 Tryz.underlying212 rfl rfl Tryz.underlying9 (by kernel_rfl) (by kernel_rfl)
 obtain⟨a3,_,h3,_⟩:=laid_sentinel (g:=2) h.tail (by kernel_rfl) (by kernel_rfl) (ti:=29) Tryz.underlying29 rowEs Tryz.underlying210 Tryz.underlying212 rfl rfl Tryz.underlying9 (by kernel_rfl) (by kernel_rfl)
 refine⟨⟨m,_,_,_,_⟩,GlOk.append h1 (GlOk.append (gl_of_raw (by kernel_rfl) h3 rfl) (gl_of_raw (by kernel_rfl) h2 rfl))⟩
open Go.Vc Go.Proofs Go.RowKit
theorem glO_laid{laid:List (String×DataW Unit)}{W:World}(hsh:W.ShapedOpen Tryz.prog)(hL:laidMetH Tryz.prog laid W){a b d:String×DataW Unit}{f:List (String×DataW Unit)}
 (he:(laid.filter fun x=>x.2.handleName?.isNone)=a::b::("internal/strconv.uint64pow10",Rows.laid_internal_strconv_uint64pow10)::d::("strconv.ErrRange",Rows.laid_strconv_ErrRange)::("strconv.ErrSyntax",Rows.laid_strconv_ErrSyntax)::f)
 (hm:("internal/strconv.uint64pow10",Rows.laid_internal_strconv_uint64pow10)∈laid):∃ v,GlOk (glO v) W fun b=>b<W.heap.size:=by
 have h1:=(laidMetH_iff.1 hL).1
 rw[he] at h1
 obtain⟨v,hv⟩:=gv_of hsh h1.tail.tail.tail.tail
 exact⟨v,GlOk.append (gl_of_laidM Eg10_ok (n := "internal/strconv.uint64pow10") (T:=207) (xs:=Lib.pow10Tab) hL hm (by kernel_rfl) (by kernel_rfl) (by kernel_rfl) (by kernel_rfl) (by decide)) hv⟩
theorem glTop{W:World}(hsh:W.ShapedOpen Tryz.prog)(hL:laidMetH Tryz.prog Rows.topBookRow.laid W):∃ v,GlOk (glO v) W fun b=>b<W.heap.size:=glO_laid (a:=("math/bits.deBruijn32tab",Rows.laid_math_bits_deBruijn32tab)) (b:=("math/bits.deBruijn64tab",Rows.laid_math_bits_deBruijn64tab)) (d:=("unicode/utf8.acceptRanges",Rows.laid_unicode_utf8_acceptRanges)) (f:=[("unicode/utf8.first",Rows.laid_unicode_utf8_first)]) hsh hL (by kernel_rfl) (.tail _ (.tail _ (.head _)))
end Go.Proofs.YthdbbgajmgjfcaaGreatDoor
