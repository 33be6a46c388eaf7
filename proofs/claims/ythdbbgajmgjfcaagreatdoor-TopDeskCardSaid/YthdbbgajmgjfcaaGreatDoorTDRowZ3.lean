/- Own texts, merged and cut: BkDo, BkDp, BkOx, BkDq, BkDt, BkRa, BkRb, BkRc, BkRe, BkDu, KV25, BkDv, BkDr, BkDs, BkDw, KV26, BkDx, BkSh, BkGz, BkGy, BkGx. -/
import Derived.Test.YthdbbgajmgjfcaaGreatDoorTDRowZ2
import Derived.Lib.FrozenHead2
import Derived.Stop.LaidErr
import Derived.HandedShaped
import Derived.RowKit
import Derived.Handed
import Derived.Test.YthdbbgajmgjfcaaGreatDoorRows
import Derived.Lay
import Derived.LaidMore
namespace Go.Proofs.YthdbbgajmgjfcaaGreatDoor
open Go.Vc Go.Proofs Go.RowKit
theorem vAt_mem2{t:Net}{i j:Nat}{v:Va}(h:v∈vAt t i j):∃ r∈t.1,∃ l∈r,v∈l:=by
 rcases vAt_mem (t:=t) (i:=i) (j:=j) with ⟨r,hr,hl⟩ | h0
 ·exact⟨r,hr,_,hl,h⟩
 ·rw[h0] at h;cases h
theorem rd_ok{b:BS}{l:List Int}(hI:BInv 3 b)(hl:l.length=2)(hw:∀ v∈rdV b l,inK .i64 v.2.1):RdOk b l:=by
 refine⟨hI.nlen,hl,hw,?_⟩
 obtain⟨H,x,I,R⟩:=hI
 have hf:=I.few (l.getD 0 0).toNat (l.getD 1 0).toNat
 unfold rdV readF
 split
 ·exact Nat.le_trans hf (by decide)
 ·exact Nat.zero_le _
theorem rd_wf{nd:List (List (List Va))}{wr:List Int}{txt:List UInt8}{m:Int}(h:∀ x∈nd,Ty.wf tRow x)(l:List Int):∀ v∈rdV ((nd,wr,()),txt,m) l,inK .i64 v.2.1:=by
 intro v hv
 unfold rdV readF at hv
 split at hv
 ·obtain⟨r,hr,a,ha,hva⟩:=vAt_mem2 (t:=(nd,wr,())) (i:=(l.getD 0 0).toNat) (j:=(l.getD 1 0).toNat) hv
  have h1:r∈nd:=hr
  have h2:r.length=4∧∀ y∈r,Ty.wf (.sl tV) y:=h r h1
  exact ((h2.2 a ha).2 v hva).2.1
 ·cases hv
theorem pE_k2(b:BS)(s:List UInt8):inK .i64 (pLE b s):=by
 unfold pLE
 split
 ·exact pE_in _ _
 ·unfold badL
  repeat' split
  all_goals exact inK_i64.2 ⟨by decide,by decide⟩
theorem poE_k{n:Int}(hb:inB n 1 5=true)(w:List (List UInt8)):∀ f k,inK .i64 (poE n w k f).2.1∧inK .i64 (poE n w k f).2.2
 | 0,k=>by
  have h:=(BInv.lines hb w k).ok
  have h1:=h.lo;have h2:=h.hi
  exact⟨inK_i64.2 ⟨by show _≤(poB n w k).2.2;omega,by show (poB n w k).2.2≤_;omega⟩,inK_i64.2 ⟨(by decide:(-9223372036854775808:Int)≤0),(by decide:(0:Int)≤9223372036854775807)⟩⟩
 | f+1,k=>by
  have h:=(BInv.lines hb w k).ok
  have h1:=h.lo;have h2:=h.hi
  have e:poE n w k (f+1)=if pLE (poB n w k) (w.getD k [])=0 then poE n w (k+1) f else (poB n w k,(poB n w k).2.2+1,pLE (poB n w k) (w.getD k [])):=rfl
  rw[e]
  split
  ·exact poE_k hb w f (k+1)
  ·exact⟨inK_i64.2 ⟨by show _≤(poB n w k).2.2+1;omega,by show (poB n w k).2.2+1≤_;omega⟩,pE_k2 _ _⟩
theorem cr_ok{b:BS}{l:List Int}(hI:BInv 3 b)(hl:l.length=1)(hk:∀ v∈l,inK .i64 v∧0≤v):CrOk b l:=by
 have ht:=hI.txt
 have hb:inB 3 1 5=true:=by decide
 refine⟨⟨?_,fun i _ _=>(BInv.lines hb _ i).ok⟩,hl,hk,by omega,poE_k hb _ _ _⟩
 rw[List.length_take];omega
theorem ownLnRead(v:GV):OwnOk Tryz.prog (glU v) 44 (oLnW wRead):=by
 refine own_of (CxOk.mk' Ev_ok (by kernel_rfl) mixed (gl:=glU v) (GOk.cons (PlainOk.sub' glU_M (okSplitW v wRead)) Tryz.func63 (by kernel_rfl) (by kernel_rfl) (GOk.cons (PlainOk.sub' glU_O (okWords v)) Tryz.func72 (by kernel_rfl) (by kernel_rfl) GOk.nil)) (GoOk.cons (ownVerbs v) Tryz.func71 (by kernel_rfl) (by kernel_rfl) (GoOk.cons (ownDr v) Tryz.func95 (by kernel_rfl) (by kernel_rfl) GoOk.nil)) noIt) Tryz.func44 (c:=Tryz.f44.body.getD .skip) (rvs:=[(.tmp 4,.str)]) (by kernel_rfl) (by kernel_rfl) (by kernel_rfl) ?_
 intro args ob k h hwa hwo
 unfold oLnW at h
 split at h
 ·rename_i s m txt nd wr
  obtain⟨⟨hO,hw⟩,hk⟩:=h
  refine⟨[joinAll],?_⟩
  show vcO _ _ _ _ _ [.ps 0,.d .str s] (obD ((nd,wr,()),txt,m)) k
  rw[vcLnR]
  unfold vcLnRq2 vcLnRq1
  have hsp:SpOk wRead s [32]:=⟨Nat.le_trans hO.le (by decide),rfl,hw⟩
  have hh:(lnW s).getD 0 []=wRead:=by rw[hw];rfl
  have hlk:lkB wRead s=true:=rfl
  have hwo2:WordsOk (tlW wRead s):=by rw[tlW_eq];exact ln_words hO.le
  have hl1:(1:Int)≤((hdW wRead s).length:Int):=by unfold hdW;rw[List.length_cons];omega
  have hall:(tlW wRead s).all w7=lnOk s:=by rw[tlW_eq];rfl
  have hbad:lnOk s=false∨(lnN s).length≠2→k (.d .str badS) (obD ((nd,wr,()),txt,m)):=by
   intro h
   have e1:lnS ((nd,wr,()),txt,m) s=badS:=by
    unfold lnS
    by_cases h0:lnOk s=false
    ·rw[if_pos h0]
    ·rw[if_neg h0,hh,if_neg (fun x=>absurd x.1 (by decide)),if_neg (fun x=>absurd x.1 (by decide)),if_neg (fun x=>(h.resolve_left h0) x.2),if_neg (fun x=>absurd x.1 (by decide))]
   have e2:lnT ((nd,wr,()),txt,m) s=((nd,wr,()),txt,m):=by
    unfold lnT
    by_cases h0:lnOk s=false
    ·rw[if_pos h0]
    ·rw[if_neg h0,hh,if_neg (fun x=>absurd x.1 (by decide)),if_neg (fun x=>absurd x.1 (by decide)),if_neg (fun x=>absurd x.1 (by decide))]
   rw[e1,e2] at hk;exact hk
  simp only[hlk,hall,hsp,hwo2,hl1,true_and,and_true,and_self,Bool.not_true,Bool.false_eq_true,false_implies,forall_const,Int.le_refl,Bool.not_eq_true',Bool.not_eq_false',decide_eq_false_iff_not,decide_eq_true_eq]
  refine⟨by omega,by omega,by omega,by decide,fun h=>hbad (.inl h),fun h=>⟨fun h3 => ?_,fun h3 => ?_⟩⟩
  ·obtain⟨hn,_⟩:=nmW_ok (w:=wRead) h
   rw[hn] at h3
   exact hbad (.inr (by omega))
  ·obtain⟨hn,hkk⟩:=nmW_ok (w:=wRead) h
   rw[hn] at h3 ⊢
   have h3':(lnN s).length=2:=by omega
   have e1:lnS ((nd,wr,()),txt,m) s=rdS ((nd,wr,()),txt,m) (lnN s):=by
    unfold lnS;rw[if_neg (by rw[h];decide),hh,if_neg (fun x=>absurd x.1 (by decide)),if_neg (fun x=>absurd x.1 (by decide)),if_pos ⟨rfl,h3'⟩]
   have e2:lnT ((nd,wr,()),txt,m) s=((nd,wr,()),txt,m):=by
    unfold lnT;rw[if_neg (by rw[h];decide),hh,if_neg (fun x=>absurd x.1 (by decide)),if_neg (fun x=>absurd x.1 (by decide)),if_neg (fun x=>absurd x.1 (by decide))]
   rw[e1,e2] at hk
   exact⟨rd_ok hO.inv h3' (rd_wf (hwo (.row 98 tRow nd) (by simp)) _),hk⟩
 ·exact h.elim
theorem ownLnCrash(v:GV):OwnOk Tryz.prog (glU v) 44 (oLnW wCrash):=by
 refine own_of (CxOk.mk' Ev_ok (by kernel_rfl) mixed (gl:=glU v) (GOk.cons (PlainOk.sub' glU_M (okSplitW v wCrash)) Tryz.func63 (by kernel_rfl) (by kernel_rfl) (GOk.cons (PlainOk.sub' glU_O (okWords v)) Tryz.func72 (by kernel_rfl) (by kernel_rfl) GOk.nil)) (GoOk.cons (ownVerbs v) Tryz.func71 (by kernel_rfl) (by kernel_rfl) (GoOk.cons (ownDc v) Tryz.func96 (by kernel_rfl) (by kernel_rfl) GoOk.nil)) noIt) Tryz.func44 (c:=Tryz.f44.body.getD .skip) (rvs:=[(.tmp 4,.str)]) (by kernel_rfl) (by kernel_rfl) (by kernel_rfl) ?_
 intro args ob k h hwa hwo
 unfold oLnW at h
 split at h
 ·rename_i s m txt nd wr
  obtain⟨⟨hO,hw⟩,hk⟩:=h
  refine⟨[joinAll],?_⟩
  show vcO _ _ _ _ _ [.ps 0,.d .str s] (obD ((nd,wr,()),txt,m)) k
  rw[vcLnC]
  unfold vcLnCq2 vcLnCq1
  have hsp:SpOk wCrash s [32]:=⟨Nat.le_trans hO.le (by decide),rfl,hw⟩
  have hh:(lnW s).getD 0 []=wCrash:=by rw[hw];rfl
  have hlk:lkB wCrash s=true:=rfl
  have hwo2:WordsOk (tlW wCrash s):=by rw[tlW_eq];exact ln_words hO.le
  have hl1:(1:Int)≤((hdW wCrash s).length:Int):=by unfold hdW;rw[List.length_cons];omega
  have hall:(tlW wCrash s).all w7=lnOk s:=by rw[tlW_eq];rfl
  have hbad:lnOk s=false∨(lnN s).length≠1→k (.d .str badS) (obD ((nd,wr,()),txt,m)):=by
   intro h
   have e1:lnS ((nd,wr,()),txt,m) s=badS:=by
    unfold lnS
    by_cases h0:lnOk s=false
    ·rw[if_pos h0]
    ·rw[if_neg h0,hh,if_neg (fun x=>absurd x.1 (by decide)),if_neg (fun x=>absurd x.1 (by decide)),if_neg (fun x=>absurd x.1 (by decide)),if_neg (fun x=>(h.resolve_left h0) x.2)]
   have e2:lnT ((nd,wr,()),txt,m) s=((nd,wr,()),txt,m):=by
    unfold lnT
    by_cases h0:lnOk s=false
    ·rw[if_pos h0]
    ·rw[if_neg h0,hh,if_neg (fun x=>absurd x.1 (by decide)),if_neg (fun x=>absurd x.1 (by decide)),if_neg (fun x=>(h.resolve_left h0) x.2)]
   rw[e1,e2] at hk;exact hk
  simp only[hlk,hall,hsp,hwo2,hl1,true_and,and_true,and_self,Bool.not_true,Bool.false_eq_true,false_implies,forall_const,Int.le_refl,Bool.not_eq_true',Bool.not_eq_false',decide_eq_false_iff_not,decide_eq_true_eq]
  refine⟨by omega,by omega,by omega,by decide,fun h=>hbad (.inl h),fun h=>⟨fun h3 => ?_,fun h3 => ?_⟩⟩
  ·obtain⟨hn,_⟩:=nmW_ok (w:=wCrash) h
   rw[hn] at h3
   exact hbad (.inr (by omega))
  ·obtain⟨hn,hkk⟩:=nmW_ok (w:=wCrash) h
   rw[hn] at h3 ⊢
   have h3':(lnN s).length=1:=by omega
   have e1:lnS ((nd,wr,()),txt,m) s=crS ((nd,wr,()),txt,m) (lnN s):=by
    unfold lnS;rw[if_neg (by rw[h];decide),hh,if_neg (fun x=>absurd x.1 (by decide)),if_neg (fun x=>absurd x.1 (by decide)),if_neg (fun x=>absurd x.1 (by decide)),if_pos ⟨rfl,h3'⟩]
   have e2:lnT ((nd,wr,()),txt,m) s=crT ((nd,wr,()),txt,m) (lnN s):=by
    unfold lnT;rw[if_neg (by rw[h];decide),hh,if_neg (fun x=>absurd x.1 (by decide)),if_neg (fun x=>absurd x.1 (by decide)),if_pos ⟨rfl,h3'⟩]
   rw[e1,e2] at hk
   exact⟨cr_ok hO.inv h3' hkk,hk⟩
 ·exact h.elim
open Go.Vc Go.Proofs Go.RowKit
theorem lk_none{w s:List UInt8}(h1:w≠wWrite)(h2:w≠wSync)(h3:w≠wRead)(h4:w≠wCrash):lkB w s=false:=by
 have hf:fsW w s=w:=rfl
 have key:∀ u:List UInt8,w≠u→¬ sInts u=sInts w:=fun u hu e=>hu (ofNat_inj e).symm
 have hv:verbsL=[(sInts wWrite,vbV 3 93),(sInts wSync,vbV 2 94),(sInts wRead,vbV 2 95),(sInts wCrash,vbV 1 96)]:=rfl
 unfold lkB
 rw[hf,hv]
 simp only[mpGet]
 rw[if_neg (key _ h1),if_neg (key _ h2),if_neg (key _ h3),if_neg (key _ h4)];rfl
theorem ownLnX(v:GV)(w:List UInt8)(h1:w≠wWrite)(h2:w≠wSync)(h3:w≠wRead)(h4:w≠wCrash):OwnOk Tryz.prog (glU v) 44 (oLnW w):=by
 refine own_of (CxOk.mk' Ev_ok (by kernel_rfl) mixed (gl:=glU v) (GOk.cons (PlainOk.sub' glU_M (okSplitW v w)) Tryz.func63 (by kernel_rfl) (by kernel_rfl) (GOk.cons (PlainOk.sub' glU_O (okWords v)) Tryz.func72 (by kernel_rfl) (by kernel_rfl) GOk.nil)) (GoOk.cons (ownVerbs v) Tryz.func71 (by kernel_rfl) (by kernel_rfl) GoOk.nil) noIt) Tryz.func44 (c:=Tryz.f44.body.getD .skip) (rvs:=[(.tmp 4,.str)]) (by kernel_rfl) (by kernel_rfl) (by kernel_rfl) ?_
 intro args ob k h hwa hwo
 unfold oLnW at h
 split at h
 ·rename_i s m txt nd wr
  obtain⟨⟨hO,hw⟩,hk⟩:=h
  refine⟨[joinAll,meetAt 6 Unit [] (fun st _=>St.only st []) (fun _ _=>False)],?_⟩
  show vcO _ _ _ _ _ [.ps 0,.d .str s] (obD ((nd,wr,()),txt,m)) k
  rw[vcLnX]
  unfold vcLnXq2 vcLnXq1
  have hsp:SpOk w s [32]:=⟨Nat.le_trans hO.le (by decide),rfl,hw⟩
  have hh:(lnW s).getD 0 []=w:=by rw[hw];rfl
  have hlk:lkB w s=false:=lk_none h1 h2 h3 h4
  have hwo2:WordsOk (tlW w s):=by rw[tlW_eq];exact ln_words hO.le
  have hl1:(1:Int)≤((hdW w s).length:Int):=by unfold hdW;rw[List.length_cons];omega
  have e1:lnS ((nd,wr,()),txt,m) s=badS:=by
   unfold lnS
   rw[hh]
   by_cases h0:lnOk s=false
   ·rw[if_pos h0]
   ·rw[if_neg h0,if_neg (fun x=>h1 x.1),if_neg (fun x=>h2 x.1),if_neg (fun x=>h3 x.1),if_neg (fun x=>h4 x.1)]
  have e2:lnT ((nd,wr,()),txt,m) s=((nd,wr,()),txt,m):=by
   unfold lnT
   rw[hh]
   by_cases h0:lnOk s=false
   ·rw[if_pos h0]
   ·rw[if_neg h0,if_neg (fun x=>h1 x.1),if_neg (fun x=>h2 x.1),if_neg (fun x=>h4 x.1)]
  rw[e1,e2] at hk
  simp only[hlk,hsp,hwo2,hl1,true_and,and_true,and_self,Bool.not_false,Bool.not_true,Bool.true_eq_false,false_implies,forall_const,implies_true,Int.le_refl]
  exact⟨by omega,by omega,by omega,by decide,hk⟩
 ·exact h.elim
theorem lnW_ne(s:List UInt8):lnW s=(lnW s).getD 0 []::(lnW s).drop 1:=by
 obtain⟨p,q,e⟩:=splL_ne 32 s
 unfold lnW
 rw[e];rfl
theorem oLn_of{P:Program}{gl:List (Nat×Dat)}{f:FuncId}(h:∀ w,OwnOk P gl f (oLnW w)):OwnOk P gl f oLine:=by
 intro args ob k hs
 unfold oLine at hs
 split at hs
 ·rename_i s m txt nd wr
  exact h ((lnW s).getD 0 []) _ _ k ⟨⟨hs.1,lnW_ne s⟩,hs.2⟩
 ·exact hs.elim
theorem ownLine(v:GV):OwnOk Tryz.prog (glU v) 44 oLine:=by
 refine oLn_of fun w => ?_
 by_cases h1:w=wWrite
 ·rw[h1];exact ownLnWrite v
 by_cases h2:w=wSync
 ·rw[h2];exact ownLnSync v
 by_cases h3:w=wRead
 ·rw[h3];exact ownLnRead v
 by_cases h4:w=wCrash
 ·rw[h4];exact ownLnCrash v
 exact ownLnX v w h1 h2 h3 h4
open Go.Vc Go.Proofs Go.RowKit
open Go.Vc Go.Proofs Go.RowKit
theorem getLast_app{α:Type}(a:List α)(p:α)(q:List α):(a++p::q).getLast?=(p::q).getLast?:=by
 rw[List.getLast?_append,List.getLast?_cons];rfl
def linesT(t:List UInt8):List (List UInt8):=if (splL 10 t).getLast?=some [] then (splL 10 t).dropLast else splL 10 t
theorem linesT_nil:linesT []=[]:=rfl
theorem linesT_sep(a b:List UInt8):linesT (a++10::b)=splL 10 a++linesT b:=by
 obtain⟨p,q,e⟩:=splL_ne 10 b
 unfold linesT
 rw[splL_sep,e,getLast_app,List.dropLast_append_of_ne_nil (by simp)]
 split<;>rfl
theorem linesT_end(a:List UInt8):linesT (a++[10])=splL 10 a:=by
 rw[linesT_sep,linesT_nil,List.append_nil]
theorem linesT_app{a:List UInt8}(h:a=[]∨a.getLast?=some 10)(b:List UInt8):linesT (a++b)=linesT a++linesT b:=by
 rcases h with h | h
 ·rw[h];rfl
 ·obtain⟨c,rfl⟩:∃ c,a=c++[10]:=by
   rw[List.getLast?_eq_some_iff] at h;exact h
  rw[linesT_end,List.append_assoc];exact linesT_sep c b
theorem linesT_len(s:List UInt8):(linesT s).length=s.count 10+if s=[]∨s.getLast?=some 10 then 0 else 1:=by
 rcases List.eq_nil_or_concat s with rfl | ⟨a,b,rfl⟩
 ·rfl
 ·by_cases hb:b=10
  ·subst hb
   rw[List.concat_eq_append,linesT_end,splL_len,if_pos (.inr (by simp)),List.count_append];rfl
  ·obtain⟨x,p,e⟩:∃ x p,splL 10 a=x++[p]:=by
    obtain⟨p,q,e⟩:=splL_ne 10 a
    exact⟨(p::q).dropLast,(p::q).getLast (by simp),by rw[e,List.dropLast_concat_getLast]⟩
   have e2:=(splL_snoc 10 b a).2 hb x p e
   have e3:linesT (a++[b])=splL 10 (a++[b]):=by
    unfold linesT
    rw[if_neg]
    rw[e2]
    simp
   rw[List.concat_eq_append,e3,splL_len,if_neg (by
    rintro (h | h)
    ·simp at h
    ·simp at h;exact hb h)]
theorem linesT_le(s:List UInt8):∀ x∈linesT s,x.length≤s.length:=by
 intro x hx
 refine splL_le 10 s x ?_
 unfold linesT at hx
 split at hx
 ·exact List.dropLast_subset _ hx
 ·exact hx
theorem linesT_many(s:List UInt8):(linesT s).length≤s.length:=by
 rw[linesT_len]
 have h:s.count 10≤s.length:=List.count_le_length
 split
 ·omega
 ·rename_i hs
  rcases List.eq_nil_or_concat s with rfl | ⟨a,b,rfl⟩
  ·exact absurd (.inl rfl) hs
  ·rw[List.concat_eq_append] at *
   have h2:a.count 10≤a.length:=List.count_le_length
   have hb:b≠10:=fun e=>hs (.inr (by rw[e];simp))
   rw[List.count_append,List.count_singleton,if_neg (by simpa using hb),List.length_append,List.length_singleton];omega
theorem trim_no{p:List UInt8}(h:(10:UInt8)∉p):Lib.trimSuffix p [10]=p:=by
 unfold Lib.trimSuffix;rw[if_neg (by rw[no10 h];decide)]
theorem linesF_T(s:List UInt8):((linesF s).map (·.1)).map (fun x=>Lib.trimSuffix x [10])=linesT s:=by
 obtain⟨x,p,e1,e2⟩:=lines_spl s
 have hx:(x.map (· ++ [10])).map (fun x=>Lib.trimSuffix x [10])=x:=by
  rw[List.map_map]
  conv=>rhs;rw[← List.map_id x]
  exact List.map_congr_left fun y _=>(has10 y).2
 have hp:(10:UInt8)∉p:=splL_no 10 s p (by rw[e1];simp)
 rw[e2,List.map_append,hx]
 unfold linesT
 rw[e1]
 by_cases h:p=[]
 ·rw[if_pos h,if_pos (by simp[h])];simp
 ·rw[if_neg h,if_neg (by simpa using h),List.map_singleton,trim_no hp]
def W0:Nat→Int→Prop:=fun _ v=>0≤v∧v≤1000000
def WInv(n:Nat)(b:BS):Prop:=∃ H,NInv n W0 H b.1
theorem write_W0{t:Net}{p q v:Int}(h:writeE t p q v=0):W0 q.toNat v:=by
 unfold writeE at h
 split at h
 ·rename_i hc
  simp only[Bool.and_eq_true] at hc
  exact inB_lo hc.2
 ·cases h
theorem WInv.bk{n:Nat}{b:BS}(h:WInv n b){e:Int}{t:Net}{l:List UInt8}(ht:WInv n (t,b.2)):WInv n (bkT b.1 b.2.1 b.2.2 e t l):=by
 unfold bkT
 split
 ·exact ht
 ·exact h
theorem WInv.step{n:Nat}{b:BS}(h:WInv n b)(l:List Int):WInv n (stepB b l):=by
 obtain⟨H,I⟩:=id h
 unfold stepB
 split
 ·refine h.bk ?_
  obtain⟨H',I'⟩:=I.write (l.getD 0 0) (l.getD 1 0) (l.getD 2 0) write_W0
  exact⟨H',I'⟩
 ·split
  ·exact h.bk ⟨H,I.sync _ _⟩
  ·exact h
theorem WInv.line{n:Nat}{b:BS}(h:WInv n b)(s:List UInt8):WInv n (pLT b s):=by
 unfold pLT
 split
 ·rename_i h0
  rw[pT_step (fit_len h0)]
  exact h.step _
 ·exact h
theorem WInv.init{n:Int}(hb:inB n 1 5=true):WInv n.toNat (newF n.toNat,[],0):=by
 obtain⟨n1,n5,m1,m5⟩:=inB5 hb
 exact⟨_,NInv.init _ n1 n5⟩
theorem poE_inv{n:Int}{w:List (List UInt8)}{Q:BS→Prop}(h0:Q (newF n.toNat,[],0))(hs:∀ b s,Q b→Q (pLT b s)):∀ f k,Q (poE n w k f).1:=by
 have hB:∀ i,Q (poB n w i):=fun i=>by
  induction i with
  | zero=>exact h0
  | succ i ih=>exact hs _ _ ih
 intro f
 induction f with
 | zero=>intro k;exact hB k
 | succ f ih =>
  intro k
  show Q (if pLE (poB n w k) (w.getD k [])=0 then poE n w (k+1) f else (poB n w k,(poB n w k).2.2+1,pLE (poB n w k) (w.getD k []))).1
  split
  ·exact ih _
  ·exact hB k
def DInv(b:BS):Prop:=BInv 3 b∧WInv 3 b
theorem in3:inB 3 1 5=true:=by decide
theorem DInv.init:DInv (newF 3,[],0):=⟨BInv.init in3,WInv.init in3⟩
theorem DInv.line{b:BS}(h:DInv b)(s:List UInt8):DInv (pLT b s):=⟨h.1.line s,h.2.line s⟩
theorem DInv.crash{b:BS}(h:DInv b)(l:List Int):DInv (crT b l):=by
 unfold crT
 split
 ·exact poE_inv (n:=3) (Q:=DInv) DInv.init (fun b s hb=>hb.line s) _ _
 ·exact h
theorem lnN_k{s:List UInt8}(h:lnOk s=true):∀ v∈lnN s,inK .i64 v∧0≤v:=(nmW_ok (w:=[]) h).2
theorem lnT_of{Q:BS→Prop}{b:BS}{s:List UInt8}(h0:Q b)(hp:lnOk s=true→((lnN s).length=3∨(lnN s).length=2)→Q (pT b (lnN s)))(hc:lnOk s=true→(lnN s).length=1→Q (crT b (lnN s))):Q (lnT b s):=by
 unfold lnT
 split
 ·exact h0
 ·rename_i hk
  have hk:lnOk s=true:=by simpa using hk
  split
  ·rename_i h;exact hp hk (.inl h.2)
  ·split
   ·rename_i h;exact hp hk (.inr h.2)
   ·split
    ·rename_i h;exact hc hk h.2
    ·exact h0
theorem DInv.ln{b:BS}(h:DInv b)(s:List UInt8):DInv (lnT b s) :=
 lnT_of h (fun hk hl=>by rw[pT_step hl];exact⟨h.1.step _ fun v hv=>(lnN_k hk v hv).1,h.2.step _⟩) fun _ _=>h.crash _
theorem rd_vals{b:BS}(h:WInv 3 b)(l:List Int):(∀ v∈rdV b l,0≤v.2.1∧v.2.1≤1000000)∧(rdV b l).length≤3:=by
 obtain⟨H,I⟩:=h
 unfold rdV readF
 split
 ·refine⟨fun v hv => ?_,I.few (l.getD 0 0).toNat (l.getD 1 0).toNat⟩
  obtain⟨p,hp⟩:=I.mem (l.getD 0 0).toNat (l.getD 1 0).toNat v hv
  exact I.hW _ _ _ hp
 ·exact⟨fun v hv=>(by cases hv),Nat.zero_le _⟩
theorem toldS_len(e:Int):(toldS e).length≤20:=by
 unfold toldS
 split
 ·decide
 ·exact errS_len e
theorem lnS_of{Q:List UInt8→Prop}{b:BS}{s:List UInt8}(h0:Q badS)(ht:∀ e,Q (toldS e))(hr:lnOk s=true→Q (rdS b (lnN s)))(hc:lnOk s=true→Q (crS b (lnN s))):Q (lnS b s):=by
 unfold lnS
 split
 ·exact h0
 ·rename_i hk
  have hk:lnOk s=true:=by simpa using hk
  repeat' split
  ·exact ht _
  ·exact ht _
  ·exact hr hk
  ·exact hc hk
  ·exact h0
theorem lnS_len{b:BS}(h:DInv b)(s:List UInt8):(lnS b s).length≤100:=by
 refine lnS_of (Q:=fun l=>l.length≤100) (by decide) (fun e=>Nat.le_trans (toldS_len e) (by decide)) (fun hk => ?_) (fun hk => ?_)
 ·obtain⟨h1,h2⟩:=rd_vals h.2 (lnN s)
  have:=valsS_len (rdV b (lnN s)) (fun v hv=>inK_i64.2 (by have:=h1 v hv;omega)) _ (Nat.le_refl _)
  unfold rdS;omega
 ·unfold crS
  split
  ·have hk:=(poE_k in3 (wholeL (b.2.1.take (min ((lnN s).getD 0 0) (b.2.1.length:Int)).toNat)) (wholeL (b.2.1.take (min ((lnN s).getD 0 0) (b.2.1.length:Int)).toNat)).length 0).1
   have:=itoa_len hk
   have e:(crR b (lnN s)).2.1=(poE 3 (wholeL (b.2.1.take (min ((lnN s).getD 0 0) (b.2.1.length:Int)).toNat)) 0 (wholeL (b.2.1.take (min ((lnN s).getD 0 0) (b.2.1.length:Int)).toNat)).length).2.1:=rfl
   rw[e,app_len]
   have:([102,111,117,110,100,32]:List UInt8).length=6:=rfl
   omega
  ·exact Nat.le_trans (toldS_len _) (by decide)
def rnB(w:List (List UInt8)):Nat→BS
 | 0=>(newF 3,[],0)
 | i+1=>lnT (rnB w i) (w.getD i [])
def rnS(w:List (List UInt8)):Nat→List UInt8
 | 0=>[]
 | i+1=>List.append (List.append (rnS w i) (lnS (rnB w i) (w.getD i []))) [10]
def tooL:List UInt8:=[116,111,111,32,108,111,110,103,10]
def runF(s:List UInt8):List UInt8:=if 3000<s.length then tooL else rnS (linesT s) (linesT s).length
theorem rnB_inv(w:List (List UInt8)):∀ i,DInv (rnB w i)
 | 0=>DInv.init
 | i+1=>(rnB_inv w i).ln _
theorem rnS_len(w:List (List UInt8)):∀ i,(rnS w i).length≤i*101
 | 0=>Nat.zero_le _
 | i+1=>by
  have h1:=rnS_len w i
  have h2:=lnS_len (rnB_inv w i) (w.getD i [])
  show (List.append (List.append (rnS w i) (lnS (rnB w i) (w.getD i []))) [10]).length≤_
  rw[app_len,app_len]
  have:([10]:List UInt8).length=1:=rfl
  omega
open Go.Vc Go.Proofs Go.RowKit
theorem app_byte(w:World)(v:Value)(n:Nat)(xs:List Value)(hown:w.ownsRowF 0 5 1 v n xs)(a:Addr)(cp:Nat)(c:Int)(ty:TypeId)(hc:w.cell? a=some (.int .u8 c))(h63:n+1≤140737488355328) :
 ∃ v' w',(Builtin.append_ #[38,38] ty #[v,.slice (some a) 1 cp]).run Tryz.prog w = .ok v' w'∧w'.ownsRowF 0 5 1 v' (n+1) (xs++[.int .u8 c])∧w.grownBy w' v.ownBlock ∧
  (∀ g,v'.ownBlock=some g→v.ownBlock=some g∨w.heap.size≤g)∧w.drawn≤w'.drawn:=by
 obtain⟨i,hi,hz0,hz1,hz2⟩:=info_parts (show (Tryz.prog.info? 5).map (fun i=>(i.zero,i.size,i.bytes))=some (some (.int .u8 0),1,1) by kernel_rfl)
 have hmx:n+1≤maxLen:=by simp only[maxLen];omega
 have hnews:∀ (j:Nat) (u:Value),([Value.int .u8 c]:List Value)[j]?=some u→w.cell? (a.add j)=some u:=fun j u hj=>by
  match j,hj with
  | 0,hj=>simp at hj;subst hj;simpa [Addr.add] using hc
 have h1:∀ u∈([Value.int .u8 c]:List Value),u.oneCell'=true:=fun u hu=>by simp at hu;subst hu;rfl
 obtain⟨v',w',hr,h2,h3,_⟩:=run_append_ownF (P:=Tryz.prog) w 0 38 ty 5 i (.int .u8 0) 1 1 Tryz.underlying38 hi hz0 hz1 hz2 rfl (by decide) v n xs hown a 1 cp [.int .u8 c] rfl hnews h1 hmx (by omega) (Nat.zero_le _)
 refine⟨v',w',hr,h2,h3,fun g hg => ?_,run_drawn _ _ _ hr⟩
 rcases hown.2 with ⟨rfl,rfl⟩ | ⟨g0,cap,cur,fz,rfl,hbg,hg0,hfz,hnc,hcm,hcs,htake⟩
 ·have hx:xs=[]:=List.eq_nil_of_length_eq_zero (by simpa using hown.1)
  subst hx
  obtain⟨v2,w2,hr2,k1,_,_⟩:=run_append_ownF (P:=Tryz.prog) w w.heap.size 38 ty 5 i (.int .u8 0) 1 1 Tryz.underlying38 hi hz0 hz1 hz2 rfl (by decide) _ 0 [] (World.ownsRowF_nil w w.heap.size 5 1) a 1 cp [.int .u8 c] rfl hnews h1 hmx (by omega) (Nat.le_refl _)
  rw[hr] at hr2
  injection hr2 with e1 e2;subst e1;subst e2
  exact .inr (k1.lt g hg).1
 ·by_cases hroom:n+1≤cap
  ·have hr2:=run_append_roomF (P:=Tryz.prog) w 38 ty 5 i Tryz.underlying38 hi g0 n cap cur fz hg0 (by rw[hz1];exact hfz) a 1 cp [.int .u8 c] (by rw[hz1];rfl) hnews h1 hroom (by rw[hz1];simp only[Nat.mul_one] at hcs ⊢;simp;omega)
   rw[hr] at hr2
   injection hr2 with e1 e2;subst e1
   exact .inl hg
  ·have holds:∀ j u,xs[j]?=some u→w.cell? ((⟨g0,0,none⟩:Addr).add j)=some u:=hown.cells (g:=g0) rfl
   have hxl:xs.length=n:=by simpa using hown.1
   have hr2:=run_append_grow (P:=Tryz.prog) w 38 ty 5 i (.int .u8 0) Tryz.underlying38 hi hz0 ⟨g0,0,none⟩ n cap xs (by rw[hz1];simpa using hxl) holds a 1 cp [.int .u8 c] (by rw[hz1];rfl) hnews (by omega) (by omega) (by rw[hz2];exact growslice_fits (by omega) (by omega))
   rw[hr] at hr2
   injection hr2 with e1 e2;subst e1
   injection hg with hg;subst hg
   exact .inr (Nat.le_refl _)
theorem wpList_appb{ops:Array Oper}{rest:List Oper}{o:Oper}{a:Act}{Q:Exit→Act→World→Prop}{w:World}(hgd:o.guard=none)(sl x:Operand)
 (ho:o.op = .call { callee := .builtin .append,args:=#[sl,x],argTypes:=#[38,38] }) (v:Value) (n:Nat) (xs:List Value) (hs:a.eval sl=v) (hown:w.ownsRowF 0 5 1 v n xs) (ad:Addr) (cp:Nat) (c:Int) (hx:a.eval x = .slice (some ad) 1 cp)
 (hc:w.cell? ad=some (.int .u8 c)) (h63:n+1≤140737488355328)
 (h:∀ v' w',w'.ownsRowF 0 5 1 v' (n+1) (xs++[.int .u8 c])→w.grownBy w' v.ownBlock→(∀ g,v'.ownBlock=some g→v.ownBlock=some g∨w.heap.size≤g)→w.drawn≤w'.drawn→wpList Tryz.prog ops Q rest (a.put o.dst v') w'):wpList Tryz.prog ops Q (o::rest) a w:=by
 refine wpList_plain hgd fun K hK => ?_
 obtain⟨v',w',hr,h2,h3,h4,h5⟩:=app_byte w v n xs hown ad cp c o.type hc h63
 unfold Oper.wp execOp
 simp only[ho,resolve,invoke,builtin,Sem.run_bind,Sem.run_pure,Result.andThen_ok,List.map_toArray,List.map_cons,List.map_nil,hs,hx,hr]
 exact hK _ _ (h v' w' h2 h3 h4 h5)
set_option maxHeartbeats 2000000 in
set_option maxRecDepth 100000 in
theorem wb_calls{T:TypeId}{b o:Nat}{l:List UInt8}{cs:Array Value}{v:Value}{w:World}(h:BAt T b o l cs v w)(hT:5≠T)(hl:liesAt Tryz.prog Tryz.prog.depth T (cs.size/Tryz.prog.cellsOf T) o 64 1=true)(x:UInt8)
 (hlen:l.length+1≤140737488355328) :
 Calls Tryz.prog 46 #[.pointer (some ⟨b,o,none⟩),.int .u8 x.toNat] w fun e w'=>e = .returned .nilIface∧∃ v',BAt T b o (l++[x]) ((cs.setIfInBounds o (.pointer (some ⟨b,o,none⟩))).setIfInBounds (o+1) v') v' w'∧Turn b v v' w w':=by
 have hon:=h.on
 have hbl:b<w.heap.size:=(Array.getElem?_eq_some_iff.1 h.blk).1
 go_enter Tryz.func46,Tryz.ntmps46
 go_wp2_with (go_at_call 70;refine (cc_any h hl).mono ?_)
 rintro e w1 ⟨rfl,h1,t1,hs1,hz1⟩
 have c1:w1.cell? ⟨b,o+1,none⟩=some v:=by rw[Lib.cell_of_heap h1.blk];exact h1.c1
 have hc0:(cs.setIfInBounds o (.pointer (some ⟨b,o,none⟩)))[o]?=some (.pointer (some ⟨b,o,none⟩)):=by rw[Array.getElem?_setIfInBounds_self_of_lt (by omega)]
 go_wp2_with (at_builtin;refine wpList_appb rfl _ _ rfl _ _ _ rfl (h1.own.alloc _) ⟨w.heap.size,0,none⟩ 1 x.toNat rfl (by rw[← hz1];simp) hlen ?_)
 intro v' w2 hown hg hnew hdr
 have hb1:b<w1.heap.size:=by omega
 have hbk2:w2.heap[b]?=w1.heap[b]?:=by
  rw[hg.block b (by simp;omega) (fun e=>h1.ne e.symm),Lib.alloc_old w1 _ b hb1]
 have hown2:w2.ownsRowF 0 5 1 v' (l++[x]).length (Lib.byteCells (l++[x])):=by
  rw[Lib.byteCells_append,List.length_append]
  exact hown
 have f1:w2.frozen? ⟨b,o+1,none⟩=false:=Lib.frozen_of_heap (hbk2.trans h1.blk) (o+1)
 have d1:w2.cell? ⟨b,o+1,none⟩=some v:=by rw[Lib.cell_of_heap (hbk2.trans h1.blk)];exact h1.c1
 have hnew1:∀ g,v'.ownBlock=some g→v.ownBlock=some g∨w1.heap.size≤g:=fun g hgo=>by
  rcases hnew g hgo with e | e
  ·exact .inl e
  ·exact .inr (by omega)
 obtain⟨p1,p2⟩:=h1.put hT hbk2 (by omega) hown2 hc0 hnew1
 obtain⟨ao,n',cap,hv'⟩:∃ ao n' cap,v' = .slice ao n' cap:=by
  rcases hown.2 with ⟨hv,_⟩ | ⟨g,cap,cur,fz,hv,_⟩
  ·exact⟨_,_,_,hv⟩
  ·exact⟨_,_,_,hv⟩
 subst hv'
 go_wp2
 go_ret
 refine⟨rfl,_,p1,⟨?_,?_,?_,?_,?_,?_,?_⟩⟩
 ·exact hg.os.trans t1.os
 ·exact hg.tape.trans t1.tape
 ·exact hg.output.trans t1.output
 ·have:=hg.size;simp at this;simp only[World.setCell,Array.size_modify];omega
 ·intro k hk hkb hkv
  rw[p2 k hkb,hg.block k (by simp;omega) (fun e=>hkv e.symm),Lib.alloc_old w1 _ k (by omega)]
  exact t1.same k hk hkb hkv
 ·exact Nat.le_trans t1.drawn hdr
 ·intro g hgo
  rcases hnew1 g hgo with e | e
  ·exact .inl e
  ·exact .inr (by omega)
theorem wr_inv[Dn]{M:Ms}{R0:Nat→Prop}{A:Asg}{st:St}{a:Act}{w:World}(I:Inv w M R0 A st a w){i j o:Nat}{T:TypeId}{l:List SV}{txt:List UInt8}(hi:st.ob[i]?=some (.st T l))(h1:l.all SV.w1=true)
 (hs:l[o]?=some (.sf i o)) (hb:l[o+1]?=some (.os j)) (hj:st.ob[j]?=some (.buf 5 txt)) (hij:i≠j) (x:List UInt8) {b:Nat} (he:A.η i = .pointer (some ⟨b,0,none⟩)) {f:FuncId} {args:Array Value} {r:Value}
 (hc:∀ cs v,BAt T b o txt cs v w→cs.size=l.length→Calls Tryz.prog f args w fun e w'=>e = .returned r∧∃ v',BAt T b o (txt++x) ((cs.setIfInBounds o (.pointer (some ⟨b,o,none⟩))).setIfInBounds (o+1) v') v' w'∧Turn b v v' w w') :
 Calls Tryz.prog f args w fun e w'=>e = .returned r∧∃ κ F,Inv w M R0 (A.pushT κ F) { st with ob:=(st.ob.set i (.st T (l.set (o+1) (.os st.ob.length)))).set j .dead++[.buf 5 (txt++x)] } a w':=by
 obtain⟨b',cs,e1,hf,hsz,hB,hP,hFj⟩:=bat_of I hi h1 hs hb hj hij
 rw[he] at e1;injection e1 with e1;injection e1 with e1;injection e1 with e1;subst e1
 have hlo1:o+1<l.length:=(List.getElem?_eq_some_iff.1 hb).1
 refine (hc cs (A.η j) hB hsz).mono ?_
 rintro e w' ⟨rfl,v',hB',ht⟩
 have hnum:A.n=st.ob.length:=I.num
 have hFt:∀ g,v'.ownBlock=some g→(w.heap.size≤g∧g<w'.heap.size)∨A.F j g:=fun g hg=>by
  rcases ht.new g hg with h | h
  ·exact .inr (hFj g h)
  ·exact .inl ⟨h,(hB'.own.lt g hg).2⟩
 refine⟨rfl,fun _=>v',fun g=>v'.ownBlock=some g,I.addM (.st T (l.set (o+1) (.os st.ob.length))) hi rfl hij hj rfl (fun _=>v') (fun g=>v'.ownBlock=some g) (.buf 5 (txt++x)) ⟨ht.os,ht.tape,ht.output,ht.size,fun _=>ht.drawn⟩
  (fun k hk hki hkj=>ht.same k hk (fun e=>hki (by rw[e];exact hf)) (fun e=>hkj (hFj k e))) (fun g hg=>hFt g hg) (fun hro=>⟨?_,?_⟩)⟩
 ·refine⟨b,_,?_,(Asg.push_Fo A _ _ (by rw[hnum];exact Nat.ne_of_lt (List.getElem?_eq_some_iff.1 hi).1) b).2 hf,hB'.blk,(pcs1 ?_).2 ⟨by simp[hsz],fun k s v h2 h3 => ?_⟩⟩
  ·rw[← he];exact (A.push_le _ _).η i (by rw[hnum];exact (List.getElem?_eq_some_iff.1 hi).1)
  ·rw[List.all_eq_true] at h1 ⊢
   intro s hs'
   rcases List.mem_or_eq_of_mem_set hs' with h | h
   ·exact h1 s h
   ·subst h;rfl
  ·have hil:i<A.n:=by rw[hnum];exact (List.getElem?_eq_some_iff.1 hi).1
   rw[Array.getElem?_toList] at h3
   by_cases hk1:o+1=k
   ·subst hk1
    rw[List.getElem?_set_self hlo1] at h2
    rw[Array.getElem?_setIfInBounds_self_of_lt (by simp;omega)] at h3
    injection h2 with h2;injection h3 with h3;subst h2;subst h3
    refine⟨⟨by rw[← hnum];exact Nat.lt_succ_self _,?_⟩,?_⟩
    ·rw[← hnum];exact (Asg.push_η A (fun _=>v') (fun g=>v'.ownBlock=some g)).symm
    ·rcases hB'.own.2 with ⟨h4,_⟩ | ⟨g,cap,cur,fz,h4,_⟩<;>rw[h4]<;>rfl
   ·rw[List.getElem?_set_ne hk1] at h2
    rw[Array.getElem?_setIfInBounds_ne hk1] at h3
    by_cases hk0:o=k
    ·subst hk0
     rw[Array.getElem?_setIfInBounds_self_of_lt (by omega)] at h3
     rw[hs] at h2
     injection h2 with h2;injection h3 with h3;subst h2;subst h3
     exact⟨⟨Nat.lt_succ_of_lt hil,.inr ⟨b,by rw[(A.push_le _ _).η i hil];exact he,rfl⟩⟩,rfl⟩
    ·rw[Array.getElem?_setIfInBounds_ne hk0] at h3
     obtain⟨m1,m2⟩:=hP k s v h2 h3
     exact⟨m1.keep (fun g hg=>⟨(hro g hg).1,Kb.of_eq (hro g hg).2⟩) (A.push_le _ _),m2⟩
 ·refine⟨?_,fun g hg=>(Asg.push_F A _ _ g).2 (by rw[Asg.push_η] at hg;exact hg)⟩
  rw[Asg.push_η];exact hB'.own
def obOut(txt:List UInt8):List Ob:=[.st 64 [.sf 0 0,.os 1],.buf 5 txt]
def oWSo:OCtr:=fun args ob k=>match args,ob with
 | [.ps 0,.d .str x],[.st 64 [.sf 0 0,.os 1],.buf 5 txt]=>txt.length+x.length≤1000000000∧k (.tp [.d I (x.length:Int),.d tErr (0:Int)]) (obOut (List.append txt x))
 | _,_=>False
def oWBo:OCtr:=fun args ob k=>match args,ob with
 | [.ps 0,.d (.int .u8) c],[.st 64 [.sf 0 0,.os 1],.buf 5 txt]=>(txt.length≤1000000000∧(c:Int)=10)∧k (.d tErr (0:Int)) (obOut (List.append txt [10]))
 | _,_=>False
def oSto:OCtr:=fun args ob k=>match args,ob with
 | [.ps 0],[.st 64 [.sf 0 0,.os 1],.buf 5 txt]=>txt.length≤1000000000∧k (.d .str txt) (obOut txt)
 | _,_=>False
theorem ps_val[Dn]{w:World}{ro:Nat→Prop}{A:Asg}{i:Nat}{v:Value}(h:SvOk w ro A (.ps i) v):v=A.η i:=h.2.1
theorem ownWSo[Dn]:OwnOk Tryz.prog [] 43 oWSo:=by
 intro args ob k h w M R0 A vals hB hrd IV
 unfold oWSo at h
 split at h
 ·rename_i x txt
  obtain⟨hl,hk⟩:=h
  obtain⟨g,cs0,e1,_⟩:=IV.ob 0 _ rfl
  have e2:=ps_val (IV.tm 0 _ rfl)
  rw[e1] at e2
  obtain⟨e3,hxl⟩:=str_val (IV.tm 1 _ rfl)
  have hv:=vals2 (show vals.size=2 from IV.len)
  rw[e2,e3] at hv
  rw[hv]
  rw[hv] at IV
  refine (ws_inv IV (i:=0) (j:=1) (o:=0) rfl rfl rfl rfl rfl (by decide) (by decide) (by kernel_rfl) x (by omega) e1).mono ?_
  rintro e w' ⟨rfl,κ,F,I'⟩
  have hn:inK .i64 (x.length:Int):=inK_len hxl
  have hs:∀ ro,SvOk w' ro (A.pushT κ F) (.tp [.d I (x.length:Int),.d tErr (0:Int)]) (.tuple #[.int .i64 x.length,.nilIface]):=by
   refine fun ro=>⟨_,rfl,rfl,fun j sv v h1 h2 => ?_⟩
   match j with
   | 0=>simp at h1 h2;subst h1;subst h2;exact⟨rfl,hn⟩
   | 1=>simp at h1 h2;subst h1;subst h2;exact .inl ⟨rfl,rfl⟩
   | j+2=>simp at h1
  have I2:=I'.out (M':=M) rfl (σ:=[0,2]) (by decide) (hs _)
  refine⟨_,_,_,_,rfl,hk,I2,fun i hi => ?_⟩
  have hi:i<1:=hi
  have:i=0:=by omega
  subst this
  exact (A.push_le κ F).η 0 (by rw[show A.n=2 from IV.num];decide)
 ·exact h.elim
theorem ownWBo[Dn]:OwnOk Tryz.prog [] 46 oWBo:=by
 intro args ob k h w M R0 A vals hB hrd IV
 unfold oWBo at h
 split at h
 ·rename_i c txt
  obtain⟨⟨hl,hc⟩,hk⟩:=h
  obtain⟨g,cs0,e1,_⟩:=IV.ob 0 _ rfl
  have e2:=ps_val (IV.tm 0 _ rfl)
  rw[e1] at e2
  have e3:vals.getD 1 undef = .int .u8 (10:UInt8).toNat:=by
   have h':[vals.getD 1 undef]=[Value.int .u8 c]∧inK .u8 c:=IV.tm 1 _ rfl
   injection h'.1 with h1
   rw[h1,hc];rfl
  have hv:=vals2 (show vals.size=2 from IV.len)
  rw[e2,e3] at hv
  rw[hv]
  rw[hv] at IV
  refine (wr_inv IV (i:=0) (j:=1) (o:=0) rfl rfl rfl rfl rfl (by decide) [10] e1 (fun cs v hB hsz=>wb_calls hB (by decide) (by rw[hsz];kernel_rfl) 10 (by omega))).mono ?_
  rintro e w' ⟨rfl,κ,F,I'⟩
  have hs:∀ ro,SvOk w' ro (A.pushT κ F) (.d tErr (0:Int)) .nilIface:=fun ro => .inl ⟨rfl,rfl⟩
  have I2:=I'.out (M':=M) rfl (σ:=[0,2]) (by decide) (hs _)
  refine⟨_,_,_,_,rfl,hk,I2,fun i hi => ?_⟩
  have hi:i<1:=hi
  have:i=0:=by omega
  subst this
  exact (A.push_le κ F).η 0 (by rw[show A.n=2 from IV.num];decide)
 ·exact h.elim
theorem ownSto[Dn]:OwnOk Tryz.prog [] 31 oSto:=by
 intro args ob k h w M R0 A vals hB hrd IV
 unfold oSto at h
 split at h
 ·rename_i txt
  obtain⟨hl,hk⟩:=h
  obtain⟨g,cs0,e1,_⟩:=IV.ob 0 _ rfl
  have e2:=ps_val (IV.tm 0 _ rfl)
  rw[e1] at e2
  have hv:=vals1 (show vals.size=1 from IV.len)
  rw[e2] at hv
  rw[hv]
  rw[hv] at IV
  refine (st_inv IV (i:=0) (j:=1) (o:=0) rfl rfl rfl rfl rfl (by decide) e1).mono ?_
  rintro e w' ⟨rfl,I'⟩
  have hs:∀ ro,SvOk w' ro A (.d .str txt) (.string ⟨txt.toArray⟩):=fun ro=>⟨rfl,Nat.le_trans hl (by decide)⟩
  have I2:=I'.out (M':=M) rfl (σ:=[0,1]) (by decide) (hs _)
  refine⟨_,_,_,_,rfl,hk,I2,fun i hi => ?_⟩
  have hi:i<1:=hi
  have:i=0:=by omega
  subst this
  rfl
 ·exact h.elim
open Go.Vc Go.Proofs Go.RowKit
section
variable {n:Nat} {W:Nat→Int→Prop} {H:Nat→Nat→Va→Prop} {t:Net}
variable {t0:Net}
end
open Go.Vc Go.Proofs Go.RowKit
open Go.Vc Go.Proofs Go.RowKit
open Go.Vc Go.Proofs Go.RowKit
def oBNewA:OCtr:=fun args ob k=>match args,ob with
 | [.d (.int .i64) n],[]=>inB n 1 5=true∧k (.tp [.ps 0,.d tErr (0:Int)]) (obBk (newF (n:Int).toNat) [] 0)
 | _,_=>False
theorem ownBNewA:OwnOk Tryz.prog [] 25 oBNewA:=by
 intro args ob k h
 refine ownBNew args ob k ?_
 unfold oBNewA at h
 split at h
 ·exact⟨fun e=>(by rw[h.1] at e;cases e),fun _=>h.2⟩
 ·exact h.elim
open Go.Vc Go.Proofs Go.RowKit
def Erun:Env:={ Ev with tys:=(64,tBd)::(62,.ptr tBd)::Ev.tys,pb:=64::Ev.pb,pz:=[5,6] }
theorem Erun_ok:EnvOk Tryz.prog Erun:=EnvOk.of_list (by kernel_rfl) (by kernel_rfl) (by kernel_rfl)
def obRun(b:BS)(txt:List UInt8):List Ob:=[.st 87 [.ps 1],.st 66 [.ps 2,.sf 1 1,.os 3,.d I b.2.2],.st 96 [.os 4,.os 5],.buf 5 b.2.1,.row 98 tRow b.1.1,.row 3 I b.1.2.1,.st 64 [.sf 6 0,.os 7],.buf 5 txt]
def cRun:Ctr:=cdet [.str] (fun (_:List UInt8)=>True) (fun (s:List UInt8)=>[⟨.str,runF s⟩])
structure RunSt(s:List UInt8)(x:Nat):Prop where
 le:x≤(linesT s).length
 few:s.length≤3000
def anRun(s:List UInt8):Ann:=[joinAll,
 meetAt 8 Unit [(1006,0,.d .un),(2006,5,.sl 0 (.d .nm))] (fun st _=>{ St.at (St.only st [0]) [(5,.ps 0),(6,.ps 6)] with ob:=obRun (newF 3,[],0) [] }) (fun _ _=>s.length≤3000),
 rangeAt 10 .str Nat (fun x=>((linesF s).map (·.1)).take x) (fun st x=>{ St.only st [5,6,23] with ob:=obRun (rnB (linesT s) x) (rnS (linesT s) x)++[.var 9 .str (restV linesF s x)] }) (fun _ x=>RunSt s x)]
open Go.Vc
set_option linter.unusedVariables false
theorem vcRun(v:GV)(s:List UInt8)(k:List Dat→Prop):vcF ⟨Erun,[(45,cTrimS),(42,cDTold)],glU v,[(57,itcLines)],[(25,oBNewA),(32,oLines),(44,oLine),(43,oWSo),(46,oWBo),(31,oSto)]⟩ (anRun s) (Tryz.f23.body.getD .skip) Tryz.f23.ntmps [(.tmp 2,.str)] [⟨.str,s⟩] k=(
 (decide (3000<(↑s.length:Int))=true→k [Dat.mk Ty.str [(116:UInt8),111,111,32,108,111,110,103,10]])∧(decide (3000<(↑s.length:Int))=false→inB (3:Int) (1:Int) 5=true∧((!decide (0=(0:Int)))=true→IntKind.i64.wrap 0=(0:Int)∧(toldS (0:Int)).length+[(10:UInt8)].length≤maxLen∧k [Dat.mk Ty.str [(111:UInt8),107,10]])∧((!decide (0=(0:Int)))=false→(∃ (x:Unit),s.length.le 3000∧(s=s∧True∧True∧True)∧((True∧True)∧(True∧True∧True∧0=(0:Int)∧True)∧(True∧True∧True)∧([]:List UInt8)=[]∧(98=98∧List.replicate (Int.toNat (3:Int)) (List.replicate 4 ([]:List Va))=List.replicate 3 (List.replicate 4 ([]:List Va)))∧(3=3∧List.replicate (Int.toNat (3:Int)) 0=List.replicate 3 (0:Int))∧(True∧True∧True)∧([]:List UInt8)=[]∧True)∧hdE=hdE∧Lib.pow10Tab=Lib.pow10Tab∧Value.int IntKind.i64 v.m=Value.int IntKind.i64 v.m∧Value.iface v.t1 v.p1=Value.iface v.t1 v.p1∧Value.iface v.t2 v.p2=Value.iface v.t2 v.p2∧True)∧∀ (x:Unit),s.length.le 3000→(∃ (x:Nat),RunSt s x∧List.take x (List.map (fun (x:List UInt8×List UInt8)=>x.fst) (linesF s))=[]∧(True∧True∧True∧True)∧((True∧True)∧(True∧True∧True∧0=(rnB (linesT s) x).snd.snd∧True)∧(True∧True∧True)∧[]=(rnB (linesT s) x).snd.fst∧(98=98∧List.replicate 3 (List.replicate 4 ([]:List Va))=(rnB (linesT s) x).fst.fst)∧(3=3∧List.replicate 3 0=(rnB (linesT s) x).fst.snd.fst)∧(True∧True∧True)∧[]=rnS (linesT s) x∧(9=9∧s=restV linesF s x)∧True)∧hdE=hdE∧Lib.pow10Tab=Lib.pow10Tab∧Value.int IntKind.i64 v.m=Value.int IntKind.i64 v.m∧Value.iface v.t1 v.p1=Value.iface v.t1 v.p1∧Value.iface v.t2 v.p2=Value.iface v.t2 v.p2∧True)∧(∀ (x:Nat),RunSt s x→True∧9=9∧restV linesF s x=restV linesF s (List.take x (List.map (fun (x:List UInt8×List UInt8)=>x.fst) (linesF s))).length)∧(∀ (x:Nat) (y:List UInt8) (rest:List (List UInt8)),RunSt s x→List.map (fun (x:List UInt8×List UInt8)=>x.fst) (linesF s)=List.take x (List.map (fun (x:List UInt8×List UInt8)=>x.fst) (linesF s))++y::rest→True∧LnOk (((rnB (linesT s) x).fst.fst,(rnB (linesT s) x).fst.snd.fst,()),(rnB (linesT s) x).snd.fst,(rnB (linesT s) x).snd.snd) (Lib.trimSuffix y [(10:UInt8)])∧(rnS (linesT s) x).length+(lnS (((rnB (linesT s) x).fst.fst,(rnB (linesT s) x).fst.snd.fst,()),(rnB (linesT s) x).snd.fst,(rnB (linesT s) x).snd.snd) (Lib.trimSuffix y [(10:UInt8)])).length≤1000000000∧(((rnS (linesT s) x).append (lnS (((rnB (linesT s) x).fst.fst,(rnB (linesT s) x).fst.snd.fst,()),(rnB (linesT s) x).snd.fst,(rnB (linesT s) x).snd.snd) (Lib.trimSuffix y [(10:UInt8)]))).length≤1000000000∧10=(10:(Ty.int IntKind.u8).D))∧∃ (x_1:Nat),RunSt s x_1∧List.take x_1 (List.map (fun (x:List UInt8×List UInt8)=>x.fst) (linesF s))=List.take x (List.map (fun (x:List UInt8×List UInt8)=>x.fst) (linesF s))++[y]∧(True∧True∧True∧True)∧((True∧True)∧(True∧True∧True∧(lnT (((rnB (linesT s) x).fst.fst,(rnB (linesT s) x).fst.snd.fst,()),(rnB (linesT s) x).snd.fst,(rnB (linesT s) x).snd.snd) (Lib.trimSuffix y [(10:UInt8)])).snd.snd=(rnB (linesT s) x_1).snd.snd∧True)∧(True∧True∧True)∧(lnT (((rnB (linesT s) x).fst.fst,(rnB (linesT s) x).fst.snd.fst,()),(rnB (linesT s) x).snd.fst,(rnB (linesT s) x).snd.snd) (Lib.trimSuffix y [(10:UInt8)])).snd.fst=(rnB (linesT s) x_1).snd.fst∧(98=98∧(lnT (((rnB (linesT s) x).fst.fst,(rnB (linesT s) x).fst.snd.fst,()),(rnB (linesT s) x).snd.fst,(rnB (linesT s) x).snd.snd) (Lib.trimSuffix y [(10:UInt8)])).fst.fst=(rnB (linesT s) x_1).fst.fst)∧(3=3∧(lnT (((rnB (linesT s) x).fst.fst,(rnB (linesT s) x).fst.snd.fst,()),(rnB (linesT s) x).snd.fst,(rnB (linesT s) x).snd.snd) (Lib.trimSuffix y [(10:UInt8)])).fst.snd.fst=(rnB (linesT s) x_1).fst.snd.fst)∧(True∧True∧True)∧((rnS (linesT s) x).append (lnS (((rnB (linesT s) x).fst.fst,(rnB (linesT s) x).fst.snd.fst,()),(rnB (linesT s) x).snd.fst,(rnB (linesT s) x).snd.snd) (Lib.trimSuffix y [(10:UInt8)]))).append [(10:UInt8)]=rnS (linesT s) x_1∧(9=9∧restV linesF s ((List.take x (List.map (fun (x:List UInt8×List UInt8)=>x.fst) (linesF s))).length+1)=restV linesF s x_1)∧True)∧hdE=hdE∧Lib.pow10Tab=Lib.pow10Tab∧Value.int IntKind.i64 v.m=Value.int IntKind.i64 v.m∧Value.iface v.t1 v.p1=Value.iface v.t1 v.p1∧Value.iface v.t2 v.p2=Value.iface v.t2 v.p2∧True)∧∀ (x:Nat),RunSt s x→List.take x (List.map (fun (x:List UInt8×List UInt8)=>x.fst) (linesF s))=List.map (fun (x:List UInt8×List UInt8)=>x.fst) (linesF s)→(rnS (linesT s) x).length≤1000000000∧k [Dat.mk Ty.str (rnS (linesT s) x)]))):=by kernel_rfl
open Go.Vc Go.Proofs Go.RowKit
theorem linesF_len(s:List UInt8):(linesF s).length=(linesT s).length:=by
 rw[← linesF_T,List.length_map,List.length_map]
theorem line_T{s:List UInt8}{x:Nat}{y:List UInt8}{rest:List (List UInt8)}(hx:x≤(linesT s).length)(h:(linesF s).map (·.1)=((linesF s).map (·.1)).take x++y::rest) :
 x<(linesT s).length∧Lib.trimSuffix y [10]=(linesT s).getD x []∧((linesF s).map (·.1)).take (x+1)=((linesF s).map (·.1)).take x++[y]:=by
 have hlen:=congrArg List.length h
 have hF:=linesF_len s
 rw[List.length_append,List.length_take,List.length_cons,List.length_map,hF,Nat.min_eq_left hx] at hlen
 have hxl:x<(linesT s).length:=by omega
 have hy:((linesF s).map (·.1))[x]?=some y:=by
  rw[h,List.getElem?_append_right (by rw[List.length_take,List.length_map];omega),List.length_take,List.length_map,hF,Nat.min_eq_left hx,Nat.sub_self];rfl
 refine⟨hxl,?_,by rw[List.take_add_one,hy];rfl⟩
 have:(linesT s)[x]?=some (Lib.trimSuffix y [10]):=by
  rw[← linesF_T,List.getElem?_map,hy];rfl
 rw[List.getD_eq_getElem?_getD,this];rfl
theorem okRun(v:GV):PlainOk Tryz.prog (glU v) 23 cRun:=by
 refine plain_of (CxOk.mk' Erun_ok (by kernel_rfl) mixed (gl:=glU v) (GOk.cons okTrimS.lift Tryz.func45 (by kernel_rfl) (by kernel_rfl) (GOk.cons (PlainOk.sub' glU_E okDTold) Tryz.func42 (by kernel_rfl) (by kernel_rfl) GOk.nil))
  (GoOk.cons ownBNewA.lift Tryz.func25 (by kernel_rfl) (by kernel_rfl) (GoOk.cons ownLines.lift Tryz.func32 (by kernel_rfl) (by kernel_rfl) (GoOk.cons (ownLine v) Tryz.func44 (by kernel_rfl) (by kernel_rfl) (GoOk.cons ownWSo.lift Tryz.func43 (by kernel_rfl) (by kernel_rfl) (GoOk.cons ownWBo.lift Tryz.func46 (by kernel_rfl) (by kernel_rfl) (GoOk.cons ownSto.lift Tryz.func31 (by kernel_rfl) (by kernel_rfl) GoOk.nil)))))) (it:=[(57,itcLines)]) (fun g c h=>by
  obtain⟨rfl,rfl⟩:=Prod.mk.inj (List.mem_singleton.1 h)
  exact itLines _)) Tryz.func23 (c:=Tryz.f23.body.getD .skip) (rvs:=[(.tmp 2,.str)]) (by kernel_rfl) (by kernel_rfl) (by kernel_rfl) ?_
 intro ds k ⟨hp,hk⟩ hwf
 obtain⟨s,rfl,-⟩:=dest1 hp
 clear hp hwf
 revert hk
 revert s
 intro (s:List UInt8) (hk:k [⟨.str,runF s⟩])
 refine⟨anRun s,?_⟩
 rw[vcRun]
 refine⟨fun h => ?_,fun h=>⟨in3,fun h=>absurd h (by decide),fun _=>⟨⟨(),?_,?_⟩,fun _ hs=>⟨?A,?B,?C,?D⟩⟩⟩⟩
 ·have h:3000<s.length:=by
   have:=of_decide_eq_true h
   omega
  have e:runF s=tooL:=if_pos h
  rw[e] at hk;exact hk
 ·have:=of_decide_eq_false h
  show s.length≤3000
  omega
 ·repeat' apply And.intro
  all_goals first | trivial | rfl
 case A =>
  refine⟨0,⟨Nat.zero_le _,hs⟩,rfl,?_⟩
  repeat' apply And.intro
  all_goals first | trivial | rfl
 case B =>
  intro x hx
  have hF:=linesF_len s
  have:=hx.le
  rw[List.length_take,List.length_map,hF,Nat.min_eq_left this]
  exact⟨trivial,rfl,rfl⟩
 case C =>
  intro x y rest hx hl
  obtain⟨hxl,ht,htk⟩:=line_T hx.le hl
  have hF:=linesF_len s
  have hfew:=hx.few
  have hm:=linesT_many s
  have hmem:(linesT s).getD x []∈linesT s:=by
   rw[List.getD_eq_getElem?_getD,List.getElem?_eq_getElem hxl];exact List.getElem_mem hxl
  have hwl:=linesT_le s _ hmem
  have hinv:=rnB_inv (linesT s) x
  have h1:=rnS_len (linesT s) x
  have h2:=lnS_len hinv ((linesT s).getD x [])
  have hbb:(((rnB (linesT s) x).1.1,(rnB (linesT s) x).1.2.1,()),(rnB (linesT s) x).2.1,(rnB (linesT s) x).2.2)=rnB (linesT s) x:=rfl
  rw[ht,hbb]
  refine⟨trivial,⟨hinv.1,by omega⟩,(by show _≤_;omega),⟨by rw[app_len];omega,rfl⟩,x+1,⟨by omega,hfew⟩,htk,?_⟩
  have hmin:(List.take x ((linesF s).map (·.1))).length=x:=by rw[List.length_take,List.length_map];omega
  rw[hmin]
  repeat' apply And.intro
  all_goals first | trivial | rfl
 case D =>
  intro x hx hl
  have hlen:=congrArg List.length hl
  have hF:=linesF_len s
  have hle:=hx.le
  have hm:=linesT_many s
  have hfew:=hx.few
  rw[List.length_take,List.length_map,hF,Nat.min_eq_left hle] at hlen
  have h1:=rnS_len (linesT s) x
  refine⟨by omega,?_⟩
  have e:runF s=rnS (linesT s) x:=by
   unfold runF;rw[if_neg (by omega),hlen]
  rw[e] at hk;exact hk
open Go.Vc Go.Proofs Go.RowKit
open Go.Vc Go.Proofs Go.RowKit
theorem getD_app{α:Type}(w v:List α)(d:α){i:Nat}(h:i<w.length):(w++v).getD i d=w.getD i d:=by
 rw[List.getD_eq_getElem?_getD,List.getD_eq_getElem?_getD,List.getElem?_append_left h]
theorem rn_app(w v:List (List UInt8)):∀ i,i≤w.length→rnB (w++v) i=rnB w i∧rnS (w++v) i=rnS w i
 | 0,_=>⟨rfl,rfl⟩
 | i+1,h=>by
  obtain⟨h1,h2⟩:=rn_app w v i (by omega)
  have e:=getD_app w v [] (i:=i) (by omega)
  refine⟨?_,?_⟩
  ·show lnT (rnB (w++v) i) ((w++v).getD i [])=lnT (rnB w i) (w.getD i [])
   rw[h1,e]
  ·show List.append (List.append (rnS (w++v) i) (lnS (rnB (w++v) i) ((w++v).getD i []))) [10]=List.append (List.append (rnS w i) (lnS (rnB w i) (w.getD i []))) [10]
   rw[h1,h2,e]
theorem rnS_pre(w:List (List UInt8))(i:Nat):∀ d,∃ t,rnS w (i+d)=rnS w i++t
 | 0=>⟨[],by simp⟩
 | d+1=>by
  obtain⟨t,e⟩:=rnS_pre w i d
  refine⟨t++lnS (rnB w (i+d)) (w.getD (i+d) [])++[10],?_⟩
  show (rnS w (i+d)++lnS (rnB w (i+d)) (w.getD (i+d) []))++[10]=_
  rw[e];simp
theorem errS_no(n:Int):(10:UInt8)∉errS n:=by
 unfold errS
 repeat' split
 all_goals decide
theorem toldS_no(n:Int):(10:UInt8)∉toldS n:=by
 unfold toldS
 split
 ·decide
 ·exact errS_no n
theorem valsS_no(vs:List Va):∀ i,(10:UInt8)∉valsS vs i
 | 0=>by show (10:UInt8)∉([118,97,108,117,101,115]:List UInt8);decide
 | i+1=>by
  show (10:UInt8)∉valsS vs i++([32]++Lib.itoa (vs.getD i va0).2.1)
  simp only[List.mem_append,not_or]
  exact⟨valsS_no vs i,by decide,(itoa_no _).2⟩
theorem lnS_no(b:BS)(s:List UInt8):(10:UInt8)∉lnS b s:=by
 refine lnS_of (Q:=fun l=>(10:UInt8)∉l) (by decide) toldS_no (fun _=>valsS_no _ _) fun _ => ?_
 unfold crS
 split
 ·show (10:UInt8)∉([102,111,117,110,100,32]:List UInt8)++Lib.itoa _
  rw[List.mem_append,not_or]
  exact⟨by decide,(itoa_no _).2⟩
 ·exact toldS_no _
theorem rnS_last(w:List (List UInt8)):∀ i,rnS w i=[]∨(rnS w i).getLast?=some 10
 | 0 => .inl rfl
 | i+1 => .inr (by
  show ((rnS w i++lnS (rnB w i) (w.getD i []))++[10]).getLast?=_
  simp)
def Reach(b:BS):Prop:=∃ M:List (List Int),(∀ l∈M,∀ v∈l,inK .i64 v)∧b=playB 3 M M.length
theorem Reach.init:Reach (newF 3,[],0):=⟨[],fun l h=>(by cases h),rfl⟩
theorem Reach.step{b:BS}(h:Reach b){l:List Int}(hl:∀ v∈l,inK .i64 v):Reach (stepB b l):=by
 obtain⟨M,hM,rfl⟩:=h
 refine⟨M++[l],fun x hx => ?_,?_⟩
 ·rcases List.mem_append.1 hx with hx | hx
  ·exact hM x hx
  ·rw[List.mem_singleton.1 hx];exact hl
 ·rw[List.length_append,List.length_singleton,playB_succ,playB_app _ _ _ _ (Nat.le_refl _)]
  congr 1
  rw[List.getD_eq_getElem?_getD,List.getElem?_append_right (Nat.le_refl _),Nat.sub_self];rfl
theorem suc_take{M:List (List Int)}(hM:∀ l∈M,∀ v∈l,inK .i64 v){i j:Nat}(hj:j≤(sucL 3 M i).length):Reach (playB 3 (sucL 3 M i) j):=by
 refine⟨(sucL 3 M i).take j,fun l hl=>sucL_k hM i l (List.mem_of_mem_take hl),?_⟩
 obtain⟨t,et⟩:∃ t,sucL 3 M i=(sucL 3 M i).take j++t:=⟨_,(List.take_append_drop j _).symm⟩
 have hlen:((sucL 3 M i).take j).length=j:=by rw[List.length_take];omega
 rw[hlen]
 conv=>lhs;rw[et]
 exact playB_app _ _ _ _ (by omega)
theorem reach_open{b:BS}(h:Reach b)(k:Nat):(poR 3 (b.2.1.take k)).2.2=0∧Reach (poR 3 (b.2.1.take k)).1:=by
 obtain⟨M,hM,rfl⟩:=h
 obtain⟨e,hj⟩:=open_torn (n:=3) hM M.length k
 have e:poR 3 (((playB 3 M M.length).2.1).take k)=_:=e
 rw[e]
 exact⟨rfl,suc_take hM hj⟩
theorem reach_whole{b:BS}(h:Reach b):(poR 3 b.2.1).1=b∧(poR 3 b.2.1).2.2=0:=by
 obtain⟨M,hM,rfl⟩:=h
 obtain⟨e,hj⟩:=open_torn (n:=3) hM M.length (playB 3 M M.length).2.1.length
 have e:poR 3 (((playB 3 M M.length).2.1).take (playB 3 M M.length).2.1.length)=(playB 3 (sucL 3 M M.length) ((((playB 3 M M.length).2.1).take (playB 3 M M.length).2.1.length).count 10),(((((playB 3 M M.length).2.1).take (playB 3 M M.length).2.1.length).count 10:Nat):Int),0):=e
 rw[List.take_length] at e
 have ht:=(suc_text 3 M M.length).1
 have hcnt:(textL (sucL 3 M M.length)).count 10=(sucL 3 M M.length).length:=by
  have:=splL_len 10 (textL (sucL 3 M M.length))
  rw[textL_spl,List.length_append,List.length_map,List.length_singleton] at this
  omega
 rw[e]
 refine⟨?_,rfl⟩
 show playB 3 (sucL 3 M M.length) ((playB 3 M M.length).2.1.count 10)=_
 rw[ht,hcnt,suc_play]
theorem Reach.ln{b:BS}(h:Reach b)(s:List UInt8):Reach (lnT b s) :=
 lnT_of h (fun hk hl=>by rw[pT_step hl];exact h.step fun v hv=>(lnN_k hk v hv).1) fun _ _=>by
  unfold crT
  split
  ·exact (reach_open h _).2
  ·exact h
theorem rn_reach(w:List (List UInt8)):∀ i,Reach (rnB w i)
 | 0=>Reach.init
 | i+1=>(rn_reach w i).ln _
def crashL:List UInt8:=[99,114,97,115,104,32,57,57,57,57,57,57,57]
def readL(p k:Nat):List UInt8:=[114,101,97,100,32,UInt8.ofNat (48+p),32,UInt8.ofNat (48+k)]
theorem crash_ln:lnOk crashL=true∧lnN crashL=[9999999]∧(lnW crashL).getD 0 []=wCrash:=by
 have e:lnW crashL=[wCrash,Lib.decDigits 9999999]:=by decide +kernel
 have h:=numB_dec (m:=9999999) (by decide)
 have hw:w7 (Lib.decDigits 9999999)=true:=by
  unfold w7;rw[h.1];decide +kernel
 unfold lnOk lnN
 rw[e]
 refine⟨?_,?_,rfl⟩
 ·show ([Lib.decDigits 9999999]:List (List UInt8)).all w7=true
  rw[List.all_cons,hw];rfl
 ·show [atN (Lib.decDigits 9999999)]=[9999999]
  rw[at_num h.1,h.2];rfl
theorem crash_no{b:BS}(h:Reach b)(hD:DInv b):lnT b crashL=b:=by
 obtain⟨h1,h2,h3⟩:=crash_ln
 unfold lnT
 rw[if_neg (by rw[h1];decide),h2,h3,if_neg (fun x=>absurd x.1 (by decide)),if_neg (fun x=>absurd x.1 (by decide)),if_pos ⟨rfl,rfl⟩]
 have ht:=hD.1.txt
 have e:min (([9999999]:List Int).getD 0 0) (b.2.1.length:Int)=(b.2.1.length:Int):=by
  show min (9999999:Int) (b.2.1.length:Int)=_
  omega
 unfold crT crR
 rw[e,Int.toNat_natCast,List.take_length]
 obtain⟨e1,e2⟩:=reach_whole h
 rw[if_pos e2,e1]
def lstI(s:List UInt8):Nat→Nat
 | 0=>0
 | i+1=>if s.getD i 0=10 then i+1 else lstI s i
def lastF(s:List UInt8):List UInt8:=s.drop (lstI s (s.length - 1))
theorem lstI_at{a r:List UInt8}(ha:a=[]∨a.getLast?=some 10)(hr:(10:UInt8)∉r):∀ j,j≤r.length→lstI (a++(r++[10])) (a.length+j)=a.length
 | 0,_=>by
  rcases ha with rfl | ha
  ·rfl
  ·obtain⟨c,rfl⟩:∃ c,a=c++[10]:=by rw[List.getLast?_eq_some_iff] at ha;exact ha
   rw[List.length_append,List.length_singleton,Nat.add_zero]
   show (if ((c++[10])++(r++[10])).getD c.length 0=10 then c.length+1 else _)=_
   rw[if_pos]
   rw[List.getD_eq_getElem?_getD,List.append_assoc,List.getElem?_append_right (Nat.le_refl _),Nat.sub_self];rfl
 | j+1,hj=>by
  show (if (a++(r++[10])).getD (a.length+j) 0=10 then a.length+j+1 else lstI (a++(r++[10])) (a.length+j))=_
  rw[if_neg,lstI_at ha hr j (by omega)]
  rw[List.getD_eq_getElem?_getD,List.getElem?_append_right (by omega),show a.length+j - a.length=j by omega,List.getElem?_append_left (by omega),List.getElem?_eq_getElem (by omega)]
  intro h
  have h:r[j]=10:=h
  exact hr (h▸List.getElem_mem (by omega))
theorem lastF_at{a r:List UInt8}(ha:a=[]∨a.getLast?=some 10)(hr:(10:UInt8)∉r):lastF ((a++r)++[10])=r++[10]:=by
 unfold lastF
 rw[List.append_assoc,List.length_append,List.length_append,List.length_singleton,show a.length+(r.length+1) - 1=a.length+r.length by omega,lstI_at ha hr _ (Nat.le_refl _)]
 exact List.drop_left' rfl
theorem run_last(w:List (List UInt8))(x:List UInt8):lastF (rnS (w++[x]) (w++[x]).length)=lnS (rnB w w.length) x++[10]:=by
 rw[List.length_append,List.length_singleton]
 show lastF ((rnS (w++[x]) w.length++lnS (rnB (w++[x]) w.length) ((w++[x]).getD w.length []))++[10])=_
 have e:(w++[x]).getD w.length []=x:=by rw[List.getD_eq_getElem?_getD,List.getElem?_append_right (Nat.le_refl _),Nat.sub_self];rfl
 rw[lastF_at (rnS_last _ _) (lnS_no _ _),e,(rn_app w [x] _ (Nat.le_refl _)).1]
theorem no10_read{p k:Nat}(hp:p<10)(hk:k<10):(10:UInt8)∉readL p k:=by
 have h1:(10:UInt8)≠UInt8.ofNat (48+p):=fun e=>by
  have:=congrArg UInt8.toNat e
  rw[dgt hp] at this
  have:(10:UInt8).toNat=10:=rfl
  omega
 have h2:(10:UInt8)≠UInt8.ofNat (48+k):=fun e=>by
  have:=congrArg UInt8.toNat e
  rw[dgt hk] at this
  have:(10:UInt8).toNat=10:=rfl
  omega
 unfold readL
 simp only[List.mem_cons,List.not_mem_nil,or_false,not_or]
 exact⟨by decide,by decide,by decide,by decide,by decide,h1,by decide,h2⟩
theorem run_desk{s:List UInt8}(hs:s.length≤2900)(h0:s=[]∨s.getLast?=some 10){p k:Nat}(hp:p<10)(hk:k<10) :
 lastF (runF (s++(readL p k++[10])))=lastF (runF (s++((crashL++[10])++(readL p k++[10]))))∧lastF (runF (s++(readL p k++[10])))≠[]:=by
 have hl:(readL p k).length=8:=rfl
 have hc:crashL.length=13:=rfl
 have e1:linesT (s++(readL p k++[10]))=linesT s++[readL p k]:=by
  rw[linesT_app h0,linesT_end,splL_one 10 _ (no10_read hp hk)]
 have e2:linesT (s++((crashL++[10])++(readL p k++[10])))=(linesT s++[crashL])++[readL p k]:=by
  rw[linesT_app h0,linesT_app (.inr (by simp)),linesT_end,linesT_end,splL_one 10 _ (no10_read hp hk),splL_one 10 crashL (by decide),List.append_assoc]
 have r1:lastF (runF (s++(readL p k++[10])))=lnS (rnB (linesT s) (linesT s).length) (readL p k)++[10]:=by
  unfold runF
  rw[if_neg (by simp only[List.length_append,List.length_singleton];omega),e1,run_last]
 have r2:lastF (runF (s++((crashL++[10])++(readL p k++[10]))))=lnS (rnB (linesT s) (linesT s).length) (readL p k)++[10]:=by
  unfold runF
  rw[if_neg (by simp only[List.length_append,List.length_singleton];omega),e2,run_last]
  congr 2
  rw[List.length_append,List.length_singleton]
  show lnT (rnB (linesT s++[crashL]) (linesT s).length) ((linesT s++[crashL]).getD (linesT s).length [])=_
  have e:(linesT s++[crashL]).getD (linesT s).length []=crashL:=by rw[List.getD_eq_getElem?_getD,List.getElem?_append_right (Nat.le_refl _),Nat.sub_self];rfl
  rw[e,(rn_app _ _ _ (Nat.le_refl _)).1]
  exact crash_no (rn_reach _ _) (rnB_inv _ _)
 rw[r1,r2]
 exact⟨rfl,by simp⟩
theorem fact_read:runF [114,101,97,100,32,48,32,48]=[118,97,108,117,101,115,10]:=by decide +kernel
open Go.Vc Go.Proofs Go.RowKit
structure LstOk(s:List UInt8):Prop where
 le:s.length≤1000000000
def cLstL:Ctr:=cdet [.str] (fun s=>LstOk s) (fun (s:List UInt8)=>[⟨.str,lastF s⟩])
structure LstSt(s:List UInt8)(j:Nat):Prop where
 le:j≤s.length
 ne:s≠[]→1≤j
 eq:lstI s (s.length - 1)=lstI s (j - 1)
def anLstL(s:List UInt8):Ann:=[joinAll,loopAt 2 Nat [] (fun st j=>St.at (St.only st [0]) [(3,.d I ((j:Int) - 1))]) (fun _ j=>LstSt s j) (fun j=>j)]
def cLawTD:Ctr:=cdet [.str,I,I] (fun _ _ _=>True) (fun _ _ _=>[⟨.bool,true⟩])
theorem tooL_len:tooL.length=9:=rfl
theorem runF_len(s:List UInt8):(runF s).length≤400000:=by
 unfold runF
 split
 ·rw[tooL_len];decide
 ·have h1:=rnS_len (linesT s) (linesT s).length
  have h2:=linesT_many s
  omega
open Go.Vc
set_option linter.unusedVariables false
theorem vcLstL(v:GV)(s:List UInt8)(k:List Dat→Prop):vcF ⟨Erun,[],[],[],[]⟩ (anLstL s) (Tryz.f30.body.getD .skip) Tryz.f30.ntmps [(.tmp 2,.str)] [⟨.str,s⟩] k=(
 inK IntKind.i64 ((↑s.length:Int) - 1)∧(∃ (x:Nat),LstSt s x∧(s=s∧(↑s.length:Int) - 1=(↑x:Int) - (1:I.D)∧True)∧True∧True)∧∀ (x:Nat),LstSt s x→(decide (0<(↑x:Int) - (1:I.D))=true→inK IntKind.i64 ((↑x:Int) - (1:I.D) - 1)∧0≤(↑x:Int) - (1:I.D) - 1∧(↑x:Int) - (1:I.D) - 1<(↑s.length:Int)∧((!decide ((↑(s.getD ((↑x:Int) - (1:I.D) - 1).toNat (0:UInt8)).toNat:Int)=10))=true→inK IntKind.i64 ((↑x:Int) - (1:I.D) - 1)∧∃ (x_1:Nat),LstSt s x_1∧x_1<x∧(s=s∧(↑x:Int) - (1:I.D) - 1=(↑x_1:Int) - (1:I.D)∧True)∧True∧True)∧((!decide ((↑(s.getD ((↑x:Int) - (1:I.D) - 1).toNat (0:UInt8)).toNat:Int)=10))=false→(decide ((↑x:Int) - (1:I.D)<0)=true→k [Dat.mk Ty.str []])∧(decide ((↑x:Int) - (1:I.D)<0)=false→0≤(↑x:Int) - (1:I.D)∧(↑x:Int) - (1:I.D)≤(↑s.length:Int)∧(↑s.length:Int)≤(↑s.length:Int)∧k [Dat.mk Ty.str (List.drop ((↑x:Int) - (1:I.D)).toNat (List.take (↑s.length:Int).toNat s))])))∧(decide (0<(↑x:Int) - (1:I.D))=false→(decide ((↑x:Int) - (1:I.D)<0)=true→k [Dat.mk Ty.str []])∧(decide ((↑x:Int) - (1:I.D)<0)=false→0≤(↑x:Int) - (1:I.D)∧(↑x:Int) - (1:I.D)≤(↑s.length:Int)∧(↑s.length:Int)≤(↑s.length:Int)∧k [Dat.mk Ty.str (List.drop ((↑x:Int) - (1:I.D)).toNat (List.take (↑s.length:Int).toNat s))]))):=by kernel_rfl
theorem vcTD(v:GV)(s:List UInt8)(p q:Int)(k:List Dat→Prop):vcF ⟨Erun,[(23,cRun),(30,cLstL)],glU v,[],[]⟩ [joinAll] (Tryz.f11.body.getD .skip) Tryz.f11.ntmps [(.tmp 6,.bool)] [⟨.str,s⟩,⟨I,p⟩,⟨I,q⟩] k=(
 True∧((!runF [(114:UInt8),101,97,100,32,48,32,48]==[(118:UInt8),97,108,117,101,115,10])=true→k [Dat.mk Ty.bool false])∧((!runF [(114:UInt8),101,97,100,32,48,32,48]==[(118:UInt8),97,108,117,101,115,10])=false→(decide (2900<(↑s.length:Int))=true→k [Dat.mk Ty.bool true])∧(decide (2900<(↑s.length:Int))=false→(decide (p<0)=true→k [Dat.mk Ty.bool true])∧(decide (p<0)=false→(decide (9<p)=true→k [Dat.mk Ty.bool true])∧(decide (9<p)=false→(decide (q<0)=true→k [Dat.mk Ty.bool true])∧(decide (q<0)=false→(decide (9<q)=true→k [Dat.mk Ty.bool true])∧(decide (9<q)=false→(decide (0<(↑s.length:Int))=true→inK IntKind.i64 ((↑s.length:Int) - 1)∧0≤(↑s.length:Int) - 1∧(↑s.length:Int) - 1<(↑s.length:Int)∧((!decide ((↑(s.getD ((↑s.length:Int) - 1).toNat (0:UInt8)).toNat:Int)=10))=true→k [Dat.mk Ty.bool true])∧((!decide ((↑(s.getD ((↑s.length:Int) - 1).toNat (0:UInt8)).toNat:Int)=10))=false→(inK IntKind.i64 (p+1)∧0≤p∧p≤p+1∧p+1≤(↑[(48:UInt8),49,50,51,52,53,54,55,56,57].length:Int)∧[(114:UInt8),101,97,100,32].length+(List.drop p.toNat (List.take (p+1).toNat [(48:UInt8),49,50,51,52,53,54,55,56,57])).length≤maxLen∧((114:UInt8)::101::97::100::32::List.drop p.toNat (List.take (p+1).toNat [(48:UInt8),49,50,51,52,53,54,55,56,57])).length+[(32:UInt8)].length≤maxLen∧inK IntKind.i64 (q+1)∧0≤q∧q≤q+1∧q+1≤(↑[(48:UInt8),49,50,51,52,53,54,55,56,57].length:Int)∧((114:UInt8)::101::97::100::32::(List.drop p.toNat (List.take (p+1).toNat [(48:UInt8),49,50,51,52,53,54,55,56,57])).append [(32:UInt8)]).length+(List.drop q.toNat (List.take (q+1).toNat [(48:UInt8),49,50,51,52,53,54,55,56,57])).length≤maxLen∧((114:UInt8)::101::97::100::32::((List.drop p.toNat (List.take (p+1).toNat [(48:UInt8),49,50,51,52,53,54,55,56,57])).append [(32:UInt8)]).append (List.drop q.toNat (List.take (q+1).toNat [(48:UInt8),49,50,51,52,53,54,55,56,57]))).length+[(10:UInt8)].length≤maxLen∧True)∧s.length+((114:UInt8)::101::97::100::32::(((List.drop p.toNat (List.take (p+1).toNat [(48:UInt8),49,50,51,52,53,54,55,56,57])).append [(32:UInt8)]).append (List.drop q.toNat (List.take (q+1).toNat [(48:UInt8),49,50,51,52,53,54,55,56,57]))).append [(10:UInt8)]).length≤maxLen∧True∧LstOk (runF (s.append ((114:UInt8)::101::97::100::32::(((List.drop p.toNat (List.take (p+1).toNat [(48:UInt8),49,50,51,52,53,54,55,56,57])).append [(32:UInt8)]).append (List.drop q.toNat (List.take (q+1).toNat [(48:UInt8),49,50,51,52,53,54,55,56,57]))).append [(10:UInt8)])))∧s.length+[(99:UInt8),114,97,115,104,32,57,57,57,57,57,57,57,10].length≤maxLen∧(s.append [(99:UInt8),114,97,115,104,32,57,57,57,57,57,57,57,10]).length+((114:UInt8)::101::97::100::32::(((List.drop p.toNat (List.take (p+1).toNat [(48:UInt8),49,50,51,52,53,54,55,56,57])).append [(32:UInt8)]).append (List.drop q.toNat (List.take (q+1).toNat [(48:UInt8),49,50,51,52,53,54,55,56,57]))).append [(10:UInt8)]).length≤maxLen∧True∧LstOk (runF ((s.append [(99:UInt8),114,97,115,104,32,57,57,57,57,57,57,57,10]).append ((114:UInt8)::101::97::100::32::(((List.drop p.toNat (List.take (p+1).toNat [(48:UInt8),49,50,51,52,53,54,55,56,57])).append [(32:UInt8)]).append (List.drop q.toNat (List.take (q+1).toNat [(48:UInt8),49,50,51,52,53,54,55,56,57]))).append [(10:UInt8)])))∧((lastF (runF (s.append ((114:UInt8)::101::97::100::32::(((List.drop p.toNat (List.take (p+1).toNat [(48:UInt8),49,50,51,52,53,54,55,56,57])).append [(32:UInt8)]).append (List.drop q.toNat (List.take (q+1).toNat [(48:UInt8),49,50,51,52,53,54,55,56,57]))).append [(10:UInt8)])))==lastF (runF ((s.append [(99:UInt8),114,97,115,104,32,57,57,57,57,57,57,57,10]).append ((114:UInt8)::101::97::100::32::(((List.drop p.toNat (List.take (p+1).toNat [(48:UInt8),49,50,51,52,53,54,55,56,57])).append [(32:UInt8)]).append (List.drop q.toNat (List.take (q+1).toNat [(48:UInt8),49,50,51,52,53,54,55,56,57]))).append [(10:UInt8)]))))=true→k [Dat.mk Ty.bool (decide (0<(↑(lastF (runF (s.append ((114:UInt8)::101::97::100::32::(((List.drop p.toNat (List.take (p+1).toNat [(48:UInt8),49,50,51,52,53,54,55,56,57])).append [(32:UInt8)]).append (List.drop q.toNat (List.take (q+1).toNat [(48:UInt8),49,50,51,52,53,54,55,56,57]))).append [(10:UInt8)])))).length:Int)))])∧((lastF (runF (s.append ((114:UInt8)::101::97::100::32::(((List.drop p.toNat (List.take (p+1).toNat [(48:UInt8),49,50,51,52,53,54,55,56,57])).append [(32:UInt8)]).append (List.drop q.toNat (List.take (q+1).toNat [(48:UInt8),49,50,51,52,53,54,55,56,57]))).append [(10:UInt8)])))==lastF (runF ((s.append [(99:UInt8),114,97,115,104,32,57,57,57,57,57,57,57,10]).append ((114:UInt8)::101::97::100::32::(((List.drop p.toNat (List.take (p+1).toNat [(48:UInt8),49,50,51,52,53,54,55,56,57])).append [(32:UInt8)]).append (List.drop q.toNat (List.take (q+1).toNat [(48:UInt8),49,50,51,52,53,54,55,56,57]))).append [(10:UInt8)]))))=false→k [Dat.mk Ty.bool false])))∧(decide (0<(↑s.length:Int))=false→(inK IntKind.i64 (p+1)∧0≤p∧p≤p+1∧p+1≤(↑[(48:UInt8),49,50,51,52,53,54,55,56,57].length:Int)∧[(114:UInt8),101,97,100,32].length+(List.drop p.toNat (List.take (p+1).toNat [(48:UInt8),49,50,51,52,53,54,55,56,57])).length≤maxLen∧((114:UInt8)::101::97::100::32::List.drop p.toNat (List.take (p+1).toNat [(48:UInt8),49,50,51,52,53,54,55,56,57])).length+[(32:UInt8)].length≤maxLen∧inK IntKind.i64 (q+1)∧0≤q∧q≤q+1∧q+1≤(↑[(48:UInt8),49,50,51,52,53,54,55,56,57].length:Int)∧((114:UInt8)::101::97::100::32::(List.drop p.toNat (List.take (p+1).toNat [(48:UInt8),49,50,51,52,53,54,55,56,57])).append [(32:UInt8)]).length+(List.drop q.toNat (List.take (q+1).toNat [(48:UInt8),49,50,51,52,53,54,55,56,57])).length≤maxLen∧((114:UInt8)::101::97::100::32::((List.drop p.toNat (List.take (p+1).toNat [(48:UInt8),49,50,51,52,53,54,55,56,57])).append [(32:UInt8)]).append (List.drop q.toNat (List.take (q+1).toNat [(48:UInt8),49,50,51,52,53,54,55,56,57]))).length+[(10:UInt8)].length≤maxLen∧True)∧s.length+((114:UInt8)::101::97::100::32::(((List.drop p.toNat (List.take (p+1).toNat [(48:UInt8),49,50,51,52,53,54,55,56,57])).append [(32:UInt8)]).append (List.drop q.toNat (List.take (q+1).toNat [(48:UInt8),49,50,51,52,53,54,55,56,57]))).append [(10:UInt8)]).length≤maxLen∧True∧LstOk (runF (s.append ((114:UInt8)::101::97::100::32::(((List.drop p.toNat (List.take (p+1).toNat [(48:UInt8),49,50,51,52,53,54,55,56,57])).append [(32:UInt8)]).append (List.drop q.toNat (List.take (q+1).toNat [(48:UInt8),49,50,51,52,53,54,55,56,57]))).append [(10:UInt8)])))∧s.length+[(99:UInt8),114,97,115,104,32,57,57,57,57,57,57,57,10].length≤maxLen∧(s.append [(99:UInt8),114,97,115,104,32,57,57,57,57,57,57,57,10]).length+((114:UInt8)::101::97::100::32::(((List.drop p.toNat (List.take (p+1).toNat [(48:UInt8),49,50,51,52,53,54,55,56,57])).append [(32:UInt8)]).append (List.drop q.toNat (List.take (q+1).toNat [(48:UInt8),49,50,51,52,53,54,55,56,57]))).append [(10:UInt8)]).length≤maxLen∧True∧LstOk (runF ((s.append [(99:UInt8),114,97,115,104,32,57,57,57,57,57,57,57,10]).append ((114:UInt8)::101::97::100::32::(((List.drop p.toNat (List.take (p+1).toNat [(48:UInt8),49,50,51,52,53,54,55,56,57])).append [(32:UInt8)]).append (List.drop q.toNat (List.take (q+1).toNat [(48:UInt8),49,50,51,52,53,54,55,56,57]))).append [(10:UInt8)])))∧((lastF (runF (s.append ((114:UInt8)::101::97::100::32::(((List.drop p.toNat (List.take (p+1).toNat [(48:UInt8),49,50,51,52,53,54,55,56,57])).append [(32:UInt8)]).append (List.drop q.toNat (List.take (q+1).toNat [(48:UInt8),49,50,51,52,53,54,55,56,57]))).append [(10:UInt8)])))==lastF (runF ((s.append [(99:UInt8),114,97,115,104,32,57,57,57,57,57,57,57,10]).append ((114:UInt8)::101::97::100::32::(((List.drop p.toNat (List.take (p+1).toNat [(48:UInt8),49,50,51,52,53,54,55,56,57])).append [(32:UInt8)]).append (List.drop q.toNat (List.take (q+1).toNat [(48:UInt8),49,50,51,52,53,54,55,56,57]))).append [(10:UInt8)]))))=true→k [Dat.mk Ty.bool (decide (0<(↑(lastF (runF (s.append ((114:UInt8)::101::97::100::32::(((List.drop p.toNat (List.take (p+1).toNat [(48:UInt8),49,50,51,52,53,54,55,56,57])).append [(32:UInt8)]).append (List.drop q.toNat (List.take (q+1).toNat [(48:UInt8),49,50,51,52,53,54,55,56,57]))).append [(10:UInt8)])))).length:Int)))])∧((lastF (runF (s.append ((114:UInt8)::101::97::100::32::(((List.drop p.toNat (List.take (p+1).toNat [(48:UInt8),49,50,51,52,53,54,55,56,57])).append [(32:UInt8)]).append (List.drop q.toNat (List.take (q+1).toNat [(48:UInt8),49,50,51,52,53,54,55,56,57]))).append [(10:UInt8)])))==lastF (runF ((s.append [(99:UInt8),114,97,115,104,32,57,57,57,57,57,57,57,10]).append ((114:UInt8)::101::97::100::32::(((List.drop p.toNat (List.take (p+1).toNat [(48:UInt8),49,50,51,52,53,54,55,56,57])).append [(32:UInt8)]).append (List.drop q.toNat (List.take (q+1).toNat [(48:UInt8),49,50,51,52,53,54,55,56,57]))).append [(10:UInt8)]))))=false→k [Dat.mk Ty.bool false]))))))))):=by kernel_rfl
open Go.Vc Go.Proofs Go.RowKit
theorem b10{b:UInt8}:(b.toNat:Int)=10↔b=10:=by
 constructor
 ·intro h
  apply UInt8.toNat_inj.1
  have:(10:UInt8).toNat=10:=rfl
  omega
 ·intro h;rw[h];rfl
theorem okLstL:PlainOk Tryz.prog [] 30 cLstL:=by
 refine plain_of (CxOk.mk' Erun_ok (by kernel_rfl) mixed (gl:=[]) GOk.nil GoOk.nil noIt) Tryz.func30 (c:=Tryz.f30.body.getD .skip) (rvs:=[(.tmp 2,.str)]) (by kernel_rfl) (by kernel_rfl) (by kernel_rfl) ?_
 intro ds k ⟨hp,hk⟩ hwf
 obtain⟨s,rfl,hS⟩:=dest1 hp
 clear hp hwf
 revert hk hS
 revert s
 intro (s:List UInt8) (hS:LstOk s) (hk:k [⟨.str,lastF s⟩])
 refine⟨anLstL s,?_⟩
 rw[vcLstL ⟨0,0,.nilFunc,0,.nilFunc⟩]
 have one:(1:I.D)=(1:Int):=rfl
 have hle:=hS.le
 have hend:∀ x,LstSt s x→(x≤1∨(2≤x∧s.getD (x - 2) 0=10))→(¬ (x:Int) - 1<0→k [⟨.str,List.drop (x - 1) s⟩])∧((x:Int) - 1<0→k [⟨.str,[]⟩]):=by
  intro x hx h
  have hxl:=hx.le
  have he:=hx.eq
  have hv:lstI s (x - 1)=x - 1:=by
   rcases h with h | ⟨h2,h⟩
   ·rw[show x - 1=0 by omega];rfl
   ·obtain⟨j,rfl⟩:∃ j,x=j+2:=⟨x - 2,by omega⟩
    show (if s.getD j 0=10 then j+1 else _)=_
    rw[if_pos (show s.getD j 0=10 from h)];rfl
  unfold lastF at hk
  rw[he,hv] at hk
  refine⟨fun _=>hk,fun h0 => ?_⟩
  have:s=[]:=Decidable.byContradiction fun hn=>by have:=hx.ne hn;omega
  rw[this] at hk
  simpa using hk
 simp only[one,Int.toNat_natCast,List.take_length,decide_eq_true_eq,decide_eq_false_iff_not,true_and,and_true,inK_i64,Bool.not_eq_true',Bool.not_eq_false',b10]
 refine⟨by omega,⟨s.length,⟨Nat.le_refl _,fun h => ?_,rfl⟩,rfl⟩,fun x hx => ?_⟩
 ·rcases s with _ | ⟨b,r⟩
  ·exact absurd rfl h
  ·rw[List.length_cons];omega
 ·have hxl:=hx.le
  have et:((x:Int) - 1).toNat=x - 1:=by omega
  have et2:((x:Int) - 1 - 1).toNat=x - 2:=by omega
  rw[et,et2]
  refine⟨fun hgt=>⟨by omega,by omega,by omega,fun hne=>⟨by omega,x - 1,⟨by omega,fun _=>by omega,?_⟩,by omega,by omega⟩,fun he => ?_⟩,fun hgt => ?_⟩
  ·rw[hx.eq]
   obtain⟨j,rfl⟩:∃ j,x=j+2:=⟨x - 2,by omega⟩
   show (if s.getD j 0=10 then j+1 else lstI s j)=lstI s j
   exact if_neg hne
  ·obtain⟨h1,h2⟩:=hend x hx (.inr ⟨by omega,he⟩)
   exact⟨h2,fun h=>⟨by omega,by omega,Int.le_refl _,h1 h⟩⟩
  ·obtain⟨h1,h2⟩:=hend x hx (.inl (by omega))
   exact⟨h2,fun h=>⟨by omega,by omega,Int.le_refl _,h1 h⟩⟩
theorem dgt_at{p:Int}(h0:0≤p)(h9:p≤9):List.drop p.toNat (List.take (p+1).toNat ([48,49,50,51,52,53,54,55,56,57]:List UInt8))=[UInt8.ofNat (48+p.toNat)]:=by
 obtain⟨m,rfl⟩:∃ m:Nat,p=(m:Int):=⟨p.toNat,by omega⟩
 have hm:m<10:=by omega
 rw[show ((m:Int)+1).toNat=m+1 by omega,Int.toNat_natCast]
 have key:∀ i:Fin 10,List.drop i.1 (List.take (i.1+1) ([48,49,50,51,52,53,54,55,56,57]:List UInt8))=[UInt8.ofNat (48+i.1)]:=by decide
 exact key ⟨m,hm⟩
theorem td_vc(v:GV)(s:List UInt8)(p q:Int)(k:List Dat→Prop)(hk:k [⟨.bool,true⟩]) :
 vcF ⟨Erun,[(23,cRun),(30,cLstL)],glU v,[],[]⟩ [joinAll] (Tryz.f11.body.getD .skip) Tryz.f11.ntmps [(.tmp 6,.bool)] [⟨.str,s⟩,⟨I,p⟩,⟨I,q⟩] k:=by
 rw[vcTD,fact_read]
 refine⟨trivial,fun h=>absurd h (by decide),fun _=>⟨fun _=>hk,fun h1=>⟨fun _=>hk,fun h2=>⟨fun _=>hk,fun h3=>⟨fun _=>hk,fun h4=>⟨fun _=>hk,fun h5 => ?_⟩⟩⟩⟩⟩⟩
 have h1:s.length≤2900:=by have:=of_decide_eq_false h1;omega
 have h2:0≤p:=by have:=of_decide_eq_false h2;omega
 have h3:p≤9:=by have:=of_decide_eq_false h3;omega
 have h4:0≤q:=by have:=of_decide_eq_false h4;omega
 have h5:q≤9:=by have:=of_decide_eq_false h5;omega
 rw[dgt_at h2 h3,dgt_at h4 h5]
 have hmx:3000000≤maxLen:=by decide
 have core:(s=[]∨s.getLast?=some 10)→∀ (X Y:List UInt8),X=readL p.toNat q.toNat++[10]→Y=crashL++[10]→lastF (runF (s.append X))=lastF (runF ((s.append Y).append X))∧lastF (runF (s.append X))≠[]:=by
  rintro h0 _ _ rfl rfl
  have:=run_desk h1 h0 (p:=p.toNat) (k:=q.toNat) (by omega) (by omega)
  have e:(s.append (crashL++[10])).append (readL p.toNat q.toNat++[10])=s++((crashL++[10])++(readL p.toNat q.toNat++[10])):=by
   show (s++(crashL++[10]))++(readL p.toNat q.toNat++[10])=_
   rw[List.append_assoc]
  rw[e];exact this
 have hL:∀ x,LstOk (runF x):=fun x=>⟨Nat.le_trans (runF_len x) (by decide)⟩
 have fin:∀ (A B:List UInt8),A=B∧A≠[]→(((A==B)=true→k [⟨.bool,decide ((0:Int)<(A.length:Int))⟩])∧((A==B)=false→k [⟨.bool,false⟩])):=by
  rintro A B ⟨rfl,hne⟩
  refine⟨fun _ => ?_,fun h=>by simp at h⟩
  rw[decide_eq_true (show (0:Int)<(A.length:Int) by
   rcases A with _ | ⟨b,r⟩
   ·exact absurd rfl hne
   ·rw[List.length_cons];omega)]
  exact hk
 refine⟨fun h6=>⟨?_,?_,?_,fun _=>hk,fun h7 => ?_⟩,fun h6 => ?_⟩
 ·rw[inK_i64];omega
 ·have:=of_decide_eq_true h6;omega
 ·omega
 ·have h6:=of_decide_eq_true h6
  have h0:s=[]∨s.getLast?=some 10:=by
   right
   have h7:s.getD ((s.length:Int) - 1).toNat 0=10:=by
    have:=h7
    simp only[Bool.not_eq_false',decide_eq_true_eq,b10] at this
    exact this
   rw[show ((s.length:Int) - 1).toNat=s.length - 1 by omega,List.getD_eq_getElem?_getD,List.getElem?_eq_getElem (by omega)] at h7
   rw[List.getLast?_eq_getElem?,List.getElem?_eq_getElem (by omega)]
   exact congrArg some h7
  have hf:=fin _ _ (core h0 _ _ rfl rfl)
  simp only[inK_i64,List.length_cons,List.length_nil,app_len,hL,true_and,and_true]
  exact⟨by omega,by omega,by omega,by omega,hf⟩
 ·have h6:=of_decide_eq_false h6
  have h0:s=[]∨s.getLast?=some 10 := .inl (List.eq_nil_of_length_eq_zero (by omega))
  have hf:=fin _ _ (core h0 _ _ rfl rfl)
  simp only[inK_i64,List.length_cons,List.length_nil,app_len,hL,true_and,and_true]
  exact⟨by omega,by omega,by omega,by omega,hf⟩
theorem okLawTD(v:GV):PlainOk Tryz.prog (glU v) 11 cLawTD:=by
 refine plain_of (CxOk.mk' Erun_ok (by kernel_rfl) mixed (gl:=glU v) (GOk.cons (okRun v) Tryz.func23 (by kernel_rfl) (by kernel_rfl) (GOk.cons okLstL.lift Tryz.func30 (by kernel_rfl) (by kernel_rfl) GOk.nil)) GoOk.nil noIt) Tryz.func11 (c:=Tryz.f11.body.getD .skip) (rvs:=[(.tmp 6,.bool)]) (by kernel_rfl) (by kernel_rfl) (by kernel_rfl) ?_
 intro ds k ⟨hp,hk⟩ hwf
 obtain⟨s,p,q,rfl,-⟩:=dest3 hp
 have hk:k [⟨.bool,true⟩]:=hk
 exact⟨[joinAll],td_vc v s p q k hk⟩
end Go.Proofs.YthdbbgajmgjfcaaGreatDoor

namespace Go.Vc
open Go.RowKit Go.ChangeShapes Go.WideShapes Go.Deep
theorem returnsInHanded_of_shape{H:Type}{enc:TypeId×Value→H}{a:Assume}{C:Checked}{os:Os}{f:FuncId}{fn:Func}{s:ChangeSpec}{conds:List PathCond}{apart fresh handsOn again:Bool}{X:World→Array Value→Prop}
 (hX:∀ (w w':World) (args:Array Value),w.heap=w'.heap→X w args→X w' args)
 (own:ownKnob C.prog.godebug=none) (started:os.Started) (noInit:C.prog.inits.idxOf? f=none) (hfn:C.prog.funcs[f]?=some fn)
 (witness:∃ (w:World) (tape:Tape) (i:Input),w.os=os∧(w.forCall tape i).Shaped C.prog∧i.vars=[]∧Input.okWide C.prog (w.forCall tape i) .any w.heap.size f i ∧
  ((s.pre enc C.prog fn conds apart (w.forCall tape i).memory i.args∧X (w.forCall tape i).memory i.args)∧sizedMet enc C.prog fn (OpenSpec.ofChange s) apart (w.forCall tape i).memory i.args)∧a.holds C.prog (lone (Frame.enter C.prog f i.args .normal) [] (w.forCall tape i)))
 (contract:∀ (W:World) (base:Nat) (args:Array Value) (ds gs:List (DataW H)) (before:List MemPlace),
  (∀ (j:Nat) t v,fn.params[j]?=some t→args[j]?=some v→Value.okWide C.prog W .any base t v) →
  DataW.Whole enc C.prog fn.params.toList s.vars apart W args.toList ds gs before→X W args→W.ShapedOpen C.prog →
  Calls C.prog f args W fun e W'=>∃ v,e = .returned v∧s.post enc C.prog fn apart fresh handsOn again W args v W') :
 ReturnsInHanded a C os f .any (fun w args=>(s.pre enc C.prog fn conds apart w args∧X w args)∧sizedMet enc C.prog fn (OpenSpec.ofChange s) apart w args) (s.post enc C.prog fn apart fresh handsOn again):=by
 refine returnsInHanded_of_calls own started noInit witness ?_
 intro w tape i _ hsh _ hok hpre hholds
 obtain⟨_,_,_,fn',hfn',_,_,_,_,hval⟩:=hok
 have e:fn'=fn:=Option.some.inj (hfn'.symm.trans hfn)
 subst e
 obtain⟨⟨⟨ds,gs,before,hw,hc⟩,hx⟩,hz⟩:=hpre
 have hw':=DataW.Whole.of_heap (w':=w.forCall tape i) (by rfl) hw
 refine (contract (w.forCall tape i) w.heap.size i.args ds gs before hval hw' (hX _ _ _ (by rfl) hx) hsh).mono fun e W' ⟨v,he,hp⟩ => ?_
 subst he
 exact ChangeSpec.post_blind hp
theorem gl_of_shape{P:Program}{w:World}{g:Nat}{t:TypeId}{zero:Array Value}{k:IntKind}(h:w.ShapedOpen P)(hg:g<P.globals.size)
 (h0:((begin P (fun _ _=>0) default).world.heap[g]?).bind Obj.row?=some (zero,t)) (hz:zero.size=1) (hc:∃ m,w.cell? ⟨g,0,none⟩=some (.int k m)) :
 ∃ m,GlOk [(g,⟨.raw,Value.int k m⟩)] w fun b=>b<w.heap.size:=by
 obtain⟨m,hm⟩:=hc
 obtain⟨cs,hh,hs,_⟩:=h.1 g zero t hg h0
 refine⟨m,fun g2 d2 hm2 => ?_⟩
 obtain⟨e1,e2⟩:=Prod.mk.inj (List.mem_singleton.1 hm2)
 subst e1;subst e2
 refine⟨⟨World.block_lt_of_cell? w ⟨g2,0,none⟩ hm,cs,t,_,hh,by rw[hs,hz];rfl⟩,[.int k m],fun j u hj => ?_,rfl,rfl⟩
 match j with
 | 0=>simp at hj;subst hj;exact hm
 | j+1=>simp at hj
theorem gl_of_raw{P:Program}{w:World}{n:String}{g:Nat}{v:Value}(hg:P.globalNamed n=some g)(h:w.var? P n=some #[v])(h1:v.oneCell'=true):GlOk [(g,⟨.raw,v⟩)] w fun b=>b<w.heap.size:=by
 intro g2 d2 hm2
 obtain⟨ea,eb⟩:=Prod.mk.inj (List.mem_singleton.1 hm2)
 subst ea;subst eb
 have hcell:=World.var?_cell hg h
 obtain⟨e0,q0,hblk⟩:=var_block hg h
 refine⟨⟨?_,#[v],e0,q0,hblk,rfl⟩,[v],fun j u hj => ?_,rfl,h1⟩
 ·refine World.block_lt_of_cell? w ⟨g2,0,none⟩ (u:=v) ?_
  rw[hcell 0];rfl
 ·rw[hcell j,← hj];simp
end Go.Vc
namespace Go.Proofs.YthdbbgajmgjfcaaGreatDoor
open Go.Vc Go.Proofs Go.RowKit
theorem rowEs(u:TypeId)(h:Tryz.prog.typeName? 3 u=some "*errors.errorString"):u=210 :=
 typeName_ptr_named (nm := "errors.errorString") (by rw[show "*" ++ "errors.errorString" = "*errors.errorString" by decide];kernel_rfl) (by kernel_rfl) (by decide) u (by rw[show "*" ++ "errors.errorString" = "*errors.errorString" by decide];exact h)
def Eg10:Env:={ tys:=[(207,.ar 20 (.int .u64))],errT:=73,eqs:=[],els:=[] }
theorem Eg10_ok:EnvOk Tryz.prog Eg10:=EnvOk.of_list (by kernel_rfl) (by kernel_rfl) (by kernel_rfl)
theorem gv_of{W:World}(hsh:W.ShapedOpen Tryz.prog){r:List (String×DataW Unit)}(h:laidMet Tryz.prog (("strconv.ErrRange",Rows.laid_strconv_ErrRange)::("strconv.ErrSyntax",Rows.laid_strconv_ErrSyntax)::r) W):∃ v,GlOk (glM v) W fun b=>b<W.heap.size:=by
 obtain⟨m,h1⟩:=gl_of_shape (zero:=#[.int .i64 0]) (t:=3) (k := .i64) (g:=1) hsh (of_decide_eq_true (by kernel_rfl)) (by kernel_rfl) rfl (laidSplit.s1_3 W hsh)
 obtain⟨a2,_,h2,_⟩:=laid_sentinel (g:=3) h (by kernel_rfl) (by kernel_rfl) (ti:=29) Tryz.underlying29 rowEs Tryz.underlying210 Tryz.underlying212 rfl rfl Tryz.underlying9 (by kernel_rfl) (by kernel_rfl)
 obtain⟨a3,_,h3,_⟩:=laid_sentinel (g:=2) h.tail (by kernel_rfl) (by kernel_rfl) (ti:=29) Tryz.underlying29 rowEs Tryz.underlying210 Tryz.underlying212 rfl rfl Tryz.underlying9 (by kernel_rfl) (by kernel_rfl)
 refine⟨⟨m,_,_,_,_⟩,GlOk.append h1 (GlOk.append (gl_of_raw (by kernel_rfl) h3 rfl) (gl_of_raw (by kernel_rfl) h2 rfl))⟩
open Go.Vc Go.Proofs Go.RowKit
theorem glO_laid{laid:List (String×DataW Unit)}{W:World}(hsh:W.ShapedOpen Tryz.prog)(hL:laidMetH Tryz.prog laid W){a b d:String×DataW Unit}{f:List (String×DataW Unit)}
 (he:(laid.filter fun x=>x.2.handleName?.isNone)=a::b::("internal/strconv.uint64pow10",Rows.laid_internal_strconv_uint64pow10)::d::("strconv.ErrRange",Rows.laid_strconv_ErrRange)::("strconv.ErrSyntax",Rows.laid_strconv_ErrSyntax)::f)
 (hm:("internal/strconv.uint64pow10",Rows.laid_internal_strconv_uint64pow10)∈laid):∃ v,GlOk (glO v) W fun b=>b<W.heap.size:=by
 have h1:=(laidMetH_iff.1 hL).1
 rw[he] at h1
 obtain⟨v,hv⟩:=gv_of hsh h1.tail.tail.tail.tail
 exact⟨v,GlOk.append (gl_of_laidM Eg10_ok (n := "internal/strconv.uint64pow10") (T:=207) (xs:=Lib.pow10Tab) hL hm (by kernel_rfl) (by kernel_rfl) (by kernel_rfl) (by kernel_rfl) (by decide)) hv⟩
open Go.Vc Go.Proofs Go.RowKit
theorem glTurned{W:World}(hsh:W.ShapedOpen Tryz.prog)(hL:laidMetH Tryz.prog Rows.bookTurnedRow.laid W):∃ v,GlOk (glU v) W fun b=>b<W.heap.size:=by
 obtain⟨v,hv⟩:=glO_laid (a:=("math/bits.deBruijn32tab",Rows.laid_math_bits_deBruijn32tab)) (b:=("math/bits.deBruijn64tab",Rows.laid_math_bits_deBruijn64tab)) (d:=("unicode/utf8.acceptRanges",Rows.laid_unicode_utf8_acceptRanges)) (f:=[("unicode/utf8.first",Rows.laid_unicode_utf8_first)]) hsh hL (by kernel_rfl) (.tail _ (.tail _ (.head _)))
 exact⟨v,GlOk.append (glE_of (.tail _ (.tail _ (.tail _ (.tail _ (.head _))))) hL) hv⟩
end Go.Proofs.YthdbbgajmgjfcaaGreatDoor
namespace Go.Vc
open Go.RowKit
theorem laidMet_over{P:Program}{w0:World}{laid:List (String×DataW Unit)}(args:Array Value)(hf:w0.layFits P laid []=true)(hi:w0.layIfaces P laid (w0.layVars P laid)=true) :
 laidMet P laid ((w0.layVars P laid).forCall (fun _ _=>0) ⟨#[],args,[]⟩).memory:=by
 have e1:(laid.filter fun x=>(laid.map (·.1)).contains x.1)=laid:=List.filter_eq_self.2 fun x hx=>List.contains_iff_mem.2 (List.mem_map.2 ⟨x,hx,rfl⟩)
 have e2:(laid.filter fun x => !(laid.map (·.1)).contains x.1)=[]:=List.filter_eq_nil_iff.2 fun x hx=>by rw[List.contains_iff_mem.2 (List.mem_map.2 ⟨x,hx,rfl⟩)];simp
 have h:laidMet P laid (w0.layVars P laid):=laidMet_layVars (w0:=w0) (laid.map (·.1)) [] (by rw[e1]) (by rw[e1];exact hf) (by rw[e1];exact hi) (by rw[e2];exact LaidIn.none)
 exact h.of_heap (by simp[World.memory,World.forCall,Input.heap])
end Go.Vc

namespace Go.Proofs.YthdbbgajmgjfcaaGreatDoor
open Go.Vc Go.Proofs Go.RowKit
theorem glU_laid{laid:List (String×DataW Unit)}(he:laid=Rows.bookTurnedRow.laid){W:World}(hsh:W.ShapedOpen Tryz.prog)(hL:laidMetH Tryz.prog laid W):∃ v,GlOk (glU v) W fun b=>b<W.heap.size:=by
 subst he
 exact glTurned hsh hL
theorem glTD{W:World}(hsh:W.ShapedOpen Tryz.prog)(hL:laidMetH Tryz.prog Rows.topDeskRow.laid W):∃ v,GlOk (glU v) W fun b=>b<W.heap.size:=glU_laid rfl hsh hL
end Go.Proofs.YthdbbgajmgjfcaaGreatDoor
