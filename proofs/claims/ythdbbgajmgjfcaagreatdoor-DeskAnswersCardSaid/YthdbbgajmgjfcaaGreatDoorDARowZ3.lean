/- Own texts, merged and cut: BkYz, BkTd, KV11, BkTe, BkMt, BkMu, BkDa, KV16, BkDb, BkDc, KV17, BkDd, BkLt, KV12, BkLu, BkTu, BkTv, BkTw, BkDe, KV18, BkDf, KV19, BkDg, BkDh, KV20, BkDi, KV21, KV22, KV23, BkDj, BkDk, BkDl, BkDm, BkDn, BkDo, BkDp, BkOx, BkDq, BkDr, BkDs, BkDt, BkRa, BkRb, BkRc, BkRe, BkDu, BkEa, KV27, BkEb, KV25, BkDv, BkEc, BkSh, BkGz, BkGy, BkGx. -/
import Derived.Test.YthdbbgajmgjfcaaGreatDoorDARowZ2
import Derived.Lib.FrozenHead2
import Derived.Stop.LaidErr
import Derived.HandedShaped
import Derived.RowKit
import Derived.Handed
import Derived.Test.YthdbbgajmgjfcaaGreatDoorRows
import Derived.Lay
import Derived.LaidMore
namespace Go.Proofs.YthdbbgajmgjfcaaGreatDoor
open Go.Vc Go.Proofs Go.RowKit
def stepB(b:BS)(l:List Int):BS :=
 if l.length=3 then bkT b.1 b.2.1 b.2.2 (writeE b.1 (l.getD 0 0) (l.getD 1 0) (l.getD 2 0)) (writeT b.1 (l.getD 0 0) (l.getD 1 0) (l.getD 2 0)) (lineF [119] [l.getD 0 0,l.getD 1 0,l.getD 2 0])
 else if l.length=2 then bkT b.1 b.2.1 b.2.2 (syncE b.1 (l.getD 0 0) (l.getD 1 0)) (syncT b.1 (l.getD 0 0) (l.getD 1 0)) (lineF [115] [l.getD 0 0,l.getD 1 0])
 else b
def stepRB(x:RB)(l:List Int):RB:=if l.length=3∨l.length=2 then rPT x l else x
def playB(n:Nat)(s:List (List Int)):Nat→BS
 | 0=>(newF n,[],0)
 | i+1=>stepB (playB n s i) (s.getD i [])
def playRB(n:Int)(s:List (List Int)):Nat→RB
 | 0=>((n,List.replicate (n*4).toNat [],List.replicate n.toNat 0,()),[],0,())
 | i+1=>stepRB (playRB n s i) (s.getD i [])
structure BRel(n:Nat)(b:BS)(x:RB):Prop where
 rel:Rel n b.1 x.1
 txt:b.2.1=x.2.1
 many:b.2.2=x.2.2.1
 lo:0≤b.2.2
 hi:b.2.2≤60
 len:b.2.1.length≤b.2.2.toNat*400
theorem lineF_len{w:List UInt8}{l:List Int}(hw:w.length=1)(h3:l.length≤3)(hl:∀ n∈l,inK .i64 n):(lineF w l).length≤100:=by
 have h1:=putS_len w l hl
 have h2:=itoa_len (sumF_k (putS w l))
 have h4:(lineF w l).length=(putS w l).length+1+(Lib.itoa (sumF (putS w l))).length+1:=by
  show (((putS w l++[32])++Lib.itoa (sumF (putS w l)))++[10]).length=_
  simp only[List.length_append,List.length_cons,List.length_nil]
 omega
theorem list3{l:List Int}(h:l.length=3):[l.getD 0 0,l.getD 1 0,l.getD 2 0]=l:=by
 match l,h with
 | [a,b,c],_=>rfl
theorem list2{l:List Int}(h:l.length=2):[l.getD 0 0,l.getD 1 0]=l:=by
 match l,h with
 | [a,b],_=>rfl
theorem stepB3{b:BS}{l:List Int}(h:l.length=3):stepB b l=bkT b.1 b.2.1 b.2.2 (writeE b.1 (l.getD 0 0) (l.getD 1 0) (l.getD 2 0)) (writeT b.1 (l.getD 0 0) (l.getD 1 0) (l.getD 2 0)) (lineF [119] [l.getD 0 0,l.getD 1 0,l.getD 2 0]):=by unfold stepB;rw[if_pos h]
theorem stepB2{b:BS}{l:List Int}(h:l.length=2):stepB b l=bkT b.1 b.2.1 b.2.2 (syncE b.1 (l.getD 0 0) (l.getD 1 0)) (syncT b.1 (l.getD 0 0) (l.getD 1 0)) (lineF [115] [l.getD 0 0,l.getD 1 0]):=by unfold stepB;rw[if_neg (by omega),if_pos h]
theorem stepB0{b:BS}{l:List Int}(h3:¬ l.length=3)(h2:¬ l.length=2):stepB b l=b:=by unfold stepB;rw[if_neg h3,if_neg h2]
theorem stepR1{x:RB}{l:List Int}(h:l.length=3∨l.length=2):stepRB x l=rPT x l:=by unfold stepRB;rw[if_pos h]
theorem stepR0{x:RB}{l:List Int}(h3:¬ l.length=3)(h2:¬ l.length=2):stepRB x l=x:=by unfold stepRB;rw[if_neg (by omega)]
section
variable {n:Nat} {W:Nat→Int→Prop} {H:Nat→Nat→Va→Prop} {b:BS} {x:RB}
theorem BRel.err3(I:NInv n W H b.1)(R:BRel n b x){l:List Int}(h3:l.length=3):rPE x l=bkE b.2.2 (writeE b.1 (l.getD 0 0) (l.getD 1 0) (l.getD 2 0)):=by
 have hlo:=R.lo;have hhi:=R.hi
 unfold rPE bkE rNE
 rw[← R.many,if_pos h3,Rel.writeE I R.rel]
 by_cases h:b.2.2=60
 ·rw[if_pos (by omega),if_pos h]
 ·rw[if_neg (by omega),if_neg h]
theorem BRel.err2(I:NInv n W H b.1)(R:BRel n b x){l:List Int}(h2:l.length=2):rPE x l=bkE b.2.2 (syncE b.1 (l.getD 0 0) (l.getD 1 0)):=by
 have hlo:=R.lo;have hhi:=R.hi
 unfold rPE bkE rNE
 rw[← R.many,if_neg (show ¬ l.length=3 by omega),Rel.syncE I R.rel]
 by_cases h:b.2.2=60
 ·rw[if_pos (by omega),if_pos h]
 ·rw[if_neg (by omega),if_neg h]
theorem BRel.ok(I:NInv n W H b.1)(R:BRel n b x){l:List Int}(h:l.length=3∨l.length=2):PutOk x l:=by
 have hlo:=R.lo;have hhi:=R.hi;have hln:=R.len
 refine⟨R.rel.sh I,h,fun _ h0=>Rel.syOk I R.rel h0,?_,by rw[← R.many];exact hlo,by rw[← R.many];exact hhi⟩
 rw[← R.txt];omega
theorem bkE_ne{m e:Int}(h:bkE m e=0):m≠60:=by
 intro hm;unfold bkE at h;rw[if_pos hm] at h;cases h
theorem app_len(m n:List UInt8):(List.append m n).length=m.length+n.length:=List.length_append
theorem BRel.step(I:NInv n (fun _ _=>True) H b.1)(R:BRel n b x)(l:List Int)(hl:∀ v∈l,inK .i64 v):∃ H',NInv n (fun _ _=>True) H' (stepB b l).1∧BRel n (stepB b l) (stepRB x l):=by
 have hlo:=R.lo;have hhi:=R.hi;have hln:=R.len
 by_cases h3:l.length=3
 ·have ee:=BRel.err3 I R h3
  rw[stepB3 h3,stepR1 (.inl h3)]
  by_cases he:bkE b.2.2 (writeE b.1 (l.getD 0 0) (l.getD 1 0) (l.getD 2 0))=0
  ·have hne:=bkE_ne he
   have e1:bkT b.1 b.2.1 b.2.2 (writeE b.1 (l.getD 0 0) (l.getD 1 0) (l.getD 2 0)) (writeT b.1 (l.getD 0 0) (l.getD 1 0) (l.getD 2 0)) (lineF [119] [l.getD 0 0,l.getD 1 0,l.getD 2 0])=(writeT b.1 (l.getD 0 0) (l.getD 1 0) (l.getD 2 0),List.append b.2.1 (lineF [119] l),b.2.2+1):=by unfold bkT;rw[if_pos he,list3 h3]
   have e2:rPT x l=(rWriteT x.1 (l.getD 0 0) (l.getD 1 0) (l.getD 2 0),List.append x.2.1 (lineF [119] l),x.2.2.1+1,()):=by
    unfold rPT;rw[if_pos (by rw[ee];exact he)];unfold rNT wordF;rw[if_pos h3,if_pos h3]
   rw[e1,e2]
   obtain⟨H',I'⟩:=I.write (l.getD 0 0) (l.getD 1 0) (l.getD 2 0) fun _=>trivial
   have hll:=lineF_len (w:=[119]) rfl (by omega) hl
   refine⟨H',I',⟨Rel.write I R.rel _ _ _,by show List.append b.2.1 _=List.append x.2.1 _;rw[R.txt],by show b.2.2+1=x.2.2.1+1;rw[R.many],by show 0≤b.2.2+1;omega,by show b.2.2+1≤60;omega,?_⟩⟩
   show (List.append b.2.1 (lineF [119] l)).length≤(b.2.2+1).toNat*400
   rw[app_len];omega
  ·have e1:∀ t' line,bkT b.1 b.2.1 b.2.2 (writeE b.1 (l.getD 0 0) (l.getD 1 0) (l.getD 2 0)) t' line=b:=fun t' line=>by unfold bkT;rw[if_neg he]
   have e2:rPT x l=x:=by unfold rPT;rw[if_neg (by rw[ee];exact he)]
   rw[e1,e2];exact⟨H,I,R⟩
 ·by_cases h2:l.length=2
  ·have ee:=BRel.err2 I R h2
   rw[stepB2 h2,stepR1 (.inr h2)]
   by_cases he:bkE b.2.2 (syncE b.1 (l.getD 0 0) (l.getD 1 0))=0
   ·have hne:=bkE_ne he
    have e1:bkT b.1 b.2.1 b.2.2 (syncE b.1 (l.getD 0 0) (l.getD 1 0)) (syncT b.1 (l.getD 0 0) (l.getD 1 0)) (lineF [115] [l.getD 0 0,l.getD 1 0])=(syncT b.1 (l.getD 0 0) (l.getD 1 0),List.append b.2.1 (lineF [115] l),b.2.2+1):=by unfold bkT;rw[if_pos he,list2 h2]
    have e2:rPT x l=(rSyncT x.1 (l.getD 0 0) (l.getD 1 0),List.append x.2.1 (lineF [115] l),x.2.2.1+1,()):=by
     unfold rPT;rw[if_pos (by rw[ee];exact he)];unfold rNT wordF;rw[if_neg h3,if_neg h3]
    rw[e1,e2]
    have hll:=lineF_len (w:=[115]) rfl (by omega) hl
    refine⟨H,I.sync _ _,⟨Rel.sync I R.rel _ _,by show List.append b.2.1 _=List.append x.2.1 _;rw[R.txt],by show b.2.2+1=x.2.2.1+1;rw[R.many],by show 0≤b.2.2+1;omega,by show b.2.2+1≤60;omega,?_⟩⟩
    show (List.append b.2.1 (lineF [115] l)).length≤(b.2.2+1).toNat*400
    rw[app_len];omega
   ·have e1:∀ t' line,bkT b.1 b.2.1 b.2.2 (syncE b.1 (l.getD 0 0) (l.getD 1 0)) t' line=b:=fun t' line=>by unfold bkT;rw[if_neg he]
    have e2:rPT x l=x:=by unfold rPT;rw[if_neg (by rw[ee];exact he)]
    rw[e1,e2];exact⟨H,I,R⟩
  ·rw[stepB0 h3 h2,stepR0 h3 h2];exact⟨H,I,R⟩
end
theorem getD_inK{s:List (List Int)}(hs:∀ l∈s,∀ v∈l,inK .i64 v)(i:Nat):∀ v∈s.getD i [],inK .i64 v:=by
 intro v hv
 by_cases h:i<s.length
 ·rw[List.getD_eq_getElem?_getD,List.getElem?_eq_getElem h] at hv
  exact hs _ (List.getElem_mem h) v hv
 ·rw[List.getD_eq_getElem?_getD,List.getElem?_eq_none (by omega)] at hv
  simp at hv
theorem playB_rel{n:Int}(hb:inB n 1 5=true){s:List (List Int)}(hs:∀ l∈s,∀ v∈l,inK .i64 v):∀ i,∃ H,NInv n.toNat (fun _ _=>True) H (playB n.toNat s i).1∧BRel n.toNat (playB n.toNat s i) (playRB n s i)
 | 0=>by
  obtain⟨n1,n5,m1,m5⟩:=inB5 hb
  have R:=Rel.init n.toNat
  rw[show ((n.toNat:Nat):Int)=n by omega] at R
  exact⟨_,NInv.init _ n1 n5,⟨R,rfl,rfl,Int.le_refl _,by show (0:Int)≤60;decide,Nat.zero_le _⟩⟩
 | i+1=>by
  obtain⟨H,I,R⟩:=playB_rel hb hs i
  exact BRel.step I R _ (getD_inK hs i)
theorem bkE_k{m e:Int}(h : -9223372036854775808≤e∧e≤9223372036854775807) : -9223372036854775808≤bkE m e∧bkE m e≤9223372036854775807:=by
 unfold bkE;split
 ·omega
 ·exact h
def BInv(n:Nat)(b:BS):Prop:=∃ H x,NInv n (fun _ _=>True) H b.1∧BRel n b x
theorem BInv.step{n:Nat}{b:BS}(h:BInv n b)(l:List Int)(hl:∀ v∈l,inK .i64 v):BInv n (stepB b l):=by
 obtain⟨H,x,I,R⟩:=h
 obtain⟨H',I',R'⟩:=BRel.step I R l hl
 exact⟨H',_,I',R'⟩
theorem BInv.ok{n:Nat}{b:BS}(h:BInv n b):BkOk b:=by
 obtain⟨H,x,I,R⟩:=h
 have h1:=R.lo;have h2:=R.hi;have h3:=R.len
 exact⟨I.sh,by omega,h1,h2⟩
theorem BInv.nlen{n:Nat}{b:BS}(h:BInv n b):NetLen b.1:=by
 obtain⟨H,x,I,R⟩:=h
 exact I.nlen
theorem BInv.txt{n:Nat}{b:BS}(h:BInv n b):b.2.1.length≤24000:=by
 obtain⟨H,x,I,R⟩:=h
 have h1:=R.lo;have h2:=R.hi;have h3:=R.len
 omega
theorem BInv.init{n:Int}(hb:inB n 1 5=true):BInv n.toNat (newF n.toNat,[],0):=by
 obtain⟨H,I,R⟩:=playB_rel hb (s:=[]) (fun l h=>by cases h) 0
 exact⟨H,_,I,R⟩
theorem pT_step{b:BS}{l:List Int}(h:l.length=3∨l.length=2):pT b l=stepB b l:=by
 unfold pT stepB
 by_cases h3:l.length=3
 ·rw[if_pos h3,if_pos h3]
 ·rw[if_neg h3,if_neg h3,if_pos (by omega)]
theorem fit_len{s:List UInt8}(h:badL s=0):(numsL s).length=3∨(numsL s).length=2:=by
 unfold badL at h
 split at h
 ·cases h
 ·split at h
  ·cases h
  ·split at h
   ·cases h
   ·split at h
    ·cases h
    ·split at h
     ·rename_i hf
      unfold fitL at hf
      simp only[Bool.or_eq_true,Bool.and_eq_true,decide_eq_true_eq] at hf
      rcases hf with hf | hf
      ·exact .inl hf.2
      ·exact .inr hf.2
     ·cases h
theorem numN_k(s:List UInt8):inK .i64 (numN s):=by
 rw[inK_i64]
 unfold numN
 split
 ·have:∀ i,-9223372036854775808≤numW s i∧numW s i≤9223372036854775807:=by
   intro i
   cases i with
   | zero=>exact⟨by show (-9223372036854775808:Int)≤0;decide,by show (0:Int)≤9223372036854775807;decide⟩
   | succ i=>simp only[numW,wr64_mod];omega
  exact this _
 ·exact⟨by decide,by decide⟩
theorem nums_k(s:List UInt8):∀ v∈numsL s,inK .i64 v:=by
 intro v hv
 obtain⟨x,_,rfl⟩:=List.mem_map.1 hv
 exact numN_k x
theorem BInv.line{n:Nat}{b:BS}(h:BInv n b)(s:List UInt8):BInv n (pLT b s):=by
 unfold pLT
 split
 ·rename_i h0
  rw[pT_step (fit_len h0)]
  exact h.step _ (nums_k s)
 ·exact h
theorem BInv.lines{n:Int}(hb:inB n 1 5=true)(w:List (List UInt8)):∀ i,BInv n.toNat (poB n w i)
 | 0=>BInv.init hb
 | i+1=>(BInv.lines hb w i).line _
open Go.Vc Go.Proofs Go.RowKit
open Go.Vc
set_option linter.unusedVariables false
open Go.Vc Go.Proofs Go.RowKit
open Go.Vc Go.Proofs Go.RowKit
theorem splL_sep(c:UInt8)(r:List UInt8):∀ a,splL c (a++c::r)=splL c a++splL c r
 | []=>by
  show (if c=c then[]::splL c r else _)=_
  rw[if_pos rfl];rfl
 | b::a=>by
  have ih:=splL_sep c r a
  obtain⟨p,q,e⟩:=splL_ne c a
  show (if b=c then[]::splL c (a++c::r) else hdCons b (splL c (a++c::r)))=(if b=c then[]::splL c a else hdCons b (splL c a))++splL c r
  rw[ih]
  split
  ·rfl
  ·rw[e];rfl
def bodyF(w:List UInt8)(l:List Int):List UInt8:=putS w l++32::Lib.itoa (sumF (putS w l))
theorem line_body(w:List UInt8)(l:List Int):lineF w l=bodyF w l++[10]:=by
 show (((putS w l++[32])++Lib.itoa (sumF (putS w l)))++[10])=_
 unfold bodyF
 simp
open Go.Vc Go.Proofs Go.RowKit
def okS(b:BS)(l:List Int):Bool:=(decide (l.length=3)||decide (l.length=2))&&decide (pE b l=0)
def bodyL(l:List Int):List UInt8:=bodyF (wordF l) l
theorem okS_len{b:BS}{l:List Int}(h:okS b l=true):(l.length=3∨l.length=2)∧pE b l=0:=by
 unfold okS at h
 simpa using h
theorem bk0{m e:Int}(h:bkE m e=0):e=0:=by
 unfold bkE at h
 split at h
 ·cases h
 ·exact h
theorem inB_lo{n a b:Int}(h:inB n a b=true):a≤n∧n≤b:=inB_iff.1 h
theorem okS_lo{b:BS}{l:List Int}(h:okS b l=true):∀ v∈l,0≤v:=by
 obtain⟨hl,he⟩:=okS_len h
 unfold pE at he
 by_cases h3:l.length=3
 ·rw[if_pos h3] at he
  have:=bk0 he
  match l,h3 with
  | [p,k,v],_ =>
   have this:writeE b.1 p k v=0:=this
   unfold writeE at this
   split at this
   ·rename_i hc
    simp only[inNet,Bool.and_eq_true] at hc
    have h1:=(inB_lo hc.1.1).1
    have h2:=(inB_lo hc.1.2).1
    have h3:=(inB_lo hc.2).1
    intro x hx
    simp only[List.mem_cons,List.not_mem_nil,or_false] at hx
    rcases hx with rfl | rfl | rfl<;>assumption
   ·cases this
 ·rw[if_neg h3] at he
  have:=bk0 he
  have h2:l.length=2:=by omega
  match l,h2 with
  | [p,k],_ =>
   have this:syncE b.1 p k=0:=this
   unfold syncE at this
   split at this
   ·rename_i hc
    simp only[inNet,Bool.and_eq_true] at hc
    have h1:=(inB_lo hc.1.1).1
    have h2:=(inB_lo hc.2.1).1
    intro x hx
    simp only[List.mem_cons,List.not_mem_nil,or_false] at hx
    rcases hx with rfl | rfl<;>assumption
   ·cases this
theorem okS_yes{b:BS}{l:List Int}(h:okS b l=true):(stepB b l).2.1=b.2.1++(bodyL l++[10])∧(stepB b l).2.2=b.2.2+1:=by
 obtain⟨hl,he⟩:=okS_len h
 have hw:=line_body (wordF l) l
 unfold bodyL
 rw[← hw,← pT_step hl]
 unfold pE at he
 unfold pT
 by_cases h3:l.length=3
 ·rw[if_pos h3] at he ⊢
  unfold bkT;rw[if_pos he,list3 h3]
  unfold wordF;rw[if_pos h3];exact⟨rfl,rfl⟩
 ·rw[if_neg h3] at he ⊢
  unfold bkT;rw[if_pos he,list2 (by omega)]
  unfold wordF;rw[if_neg h3];exact⟨rfl,rfl⟩
section
variable (n:Nat) (s:List (List Int))
end
open Go.Vc Go.Proofs Go.RowKit
def errS(e:Int):List UInt8 :=
 if e=0 then[79,75] else if e=1 then[69,114,114,82,97,110,103,101] else if e=2 then[69,114,114,83,121,110,116,97,120] else if e=3 then[69,114,114,83,104,97,112,101]
 else if e=4 then[69,114,114,70,117,108,108] else if e=5 then[69,114,114,78,111,110,101] else if e=6 then[69,114,114,67,108,97,115,104] else if e=7 then[69,114,114,83,116,97,116,101] else[69,114,114,110,111]
def toldS(e:Int):List UInt8:=if e=0 then[111,107] else errS e
def cErrN:Ctr:=cdet [I] (fun (_:Int)=>True) (fun (n:Int)=>[⟨.str,errS n⟩])
def cDTold:Ctr:=cdet [tErr] (fun (n:Int)=>inK .i64 n) (fun (n:Int)=>[⟨.str,toldS n⟩])
def Ern:Env:={ tys:=[(3,I),(4,.bool),(9,.str),(29,tErr),(73,I)],errT:=73,eqs:=[],els:=[] }
theorem Ern_ok:EnvOk Tryz.prog Ern:=EnvOk.of_list (by kernel_rfl) (by kernel_rfl) (by kernel_rfl)
open Go.Vc
set_option linter.unusedVariables false
theorem vcErrN(n:Int)(k:List Dat→Prop):vcF ⟨Ern,[],[],[],[]⟩ [joinAll] (Tryz.f69.body.getD .skip) Tryz.f69.ntmps [(.tmp 2,.str)] [⟨I,n⟩] k=(
 (decide (n=0)=true→k [Dat.mk Ty.str [(79:UInt8),75]])∧(decide (n=0)=false→(decide (n=1)=true→k [Dat.mk Ty.str [(69:UInt8),114,114,82,97,110,103,101]])∧(decide (n=1)=false→(decide (n=2)=true→k [Dat.mk Ty.str [(69:UInt8),114,114,83,121,110,116,97,120]])∧(decide (n=2)=false→(decide (n=3)=true→k [Dat.mk Ty.str [(69:UInt8),114,114,83,104,97,112,101]])∧(decide (n=3)=false→(decide (n=4)=true→k [Dat.mk Ty.str [(69:UInt8),114,114,70,117,108,108]])∧(decide (n=4)=false→(decide (n=5)=true→k [Dat.mk Ty.str [(69:UInt8),114,114,78,111,110,101]])∧(decide (n=5)=false→(decide (n=6)=true→k [Dat.mk Ty.str [(69:UInt8),114,114,67,108,97,115,104]])∧(decide (n=6)=false→(decide (n=7)=true→k [Dat.mk Ty.str [(69:UInt8),114,114,83,116,97,116,101]])∧(decide (n=7)=false→k [Dat.mk Ty.str [(69:UInt8),114,114,110,111]]))))))))):=by kernel_rfl
open Go.RowKit Go.Extern.Stop Go.Stop Go.Extern Go.Vc Go.Proofs
theorem okErrN:PlainOk Tryz.prog [] 69 cErrN:=by
 refine plain_of (CxOk.mk' Ern_ok (by kernel_rfl) (by kernel_rfl) (gl:=[]) GOk.nil GoOk.nil noIt) Tryz.func69 (c:=Tryz.f69.body.getD .skip) (rvs:=[(.tmp 2,.str)]) (by kernel_rfl) (by kernel_rfl) (by kernel_rfl) ?_
 intro ds k ⟨hp,hk⟩ hwf
 obtain⟨n,rfl,-⟩:=dest1 hp
 have hk:k [⟨.str,errS n⟩]:=hk
 have ret:∀ x,x=errS n→k [⟨.str,x⟩]:=by rintro _ rfl;exact hk
 refine⟨[joinAll],?_⟩
 rw[vcErrN]
 simp only[decide_eq_true_eq,decide_eq_false_iff_not]
 refine⟨fun h0=>ret _ ?_,fun h0=>⟨fun h1=>ret _ ?_,fun h1=>⟨fun h2=>ret _ ?_,fun h2=>⟨fun h3=>ret _ ?_,fun h3=>⟨fun h4=>ret _ ?_,fun h4=>⟨fun h5=>ret _ ?_,fun h5=>⟨fun h6=>ret _ ?_,fun h6=>⟨fun h7=>ret _ ?_,fun h7=>ret _ ?_⟩⟩⟩⟩⟩⟩⟩⟩
 all_goals
  unfold errS
  repeat first | rw[if_pos (by assumption)] | rw[if_neg (by assumption)]
theorem errS_len(n:Int):(errS n).length≤20:=by
 unfold errS
 repeat' split
 all_goals decide
theorem errN_calls(n:Int)(hn:inK .i64 n)(w:World):Calls Tryz.prog 69 #[.int .i64 n] w fun e w'=>e = .returned (.string ⟨(errS n).toArray⟩)∧Fr (fun _=>False) w w':=by
 have h:=okErrN [⟨I,n⟩] (fun rs=>rs=[⟨.str,errS n⟩]) ⟨trivial,rfl⟩ w (fun _=>False) [.int .i64 n] (fun _ h=>h.elim) (fun _ _ h=>by cases h) ⟨rfl,fun i x v hx hv=>by
  match i with
  | 0 =>
   simp at hx hv
   subst hx;subst hv
   exact⟨rfl,hn⟩
  | i+1=>simp at hx⟩
 refine (show Calls Tryz.prog 69 #[.int .i64 n] w _ from h).mono fun e w' ⟨hf,rs,v,he,hrs,hv⟩ => ?_
 subst hrs
 have hv':Ty.okV w' _ .str (errS n) v:=hv
 unfold Ty.okV at hv'
 simp only[Ty.agg,Bool.false_eq_true,if_false,Ty.ok] at hv'
 have hv':=hv'
 simp only[List.cons.injEq,and_true] at hv'
 first | subst hv' | (obtain⟨rfl,_⟩:=hv')
 exact⟨he,hf⟩
theorem dtold_nil(w:World):Calls Tryz.prog 42 #[.nilIface] w fun e w'=>e = .returned (.string ⟨#[111,107]⟩)∧Fr (fun _=>False) w w':=by
 go_enter Tryz.func42,Tryz.ntmps42
 go_wp2_with (go_at_call 65;refine (as_nil _ _).mono ?_;rintro e w' ⟨rfl,rfl⟩)
 go_ret
 exact⟨rfl,fr_alloc _ _⟩
set_option maxRecDepth 100000 in
set_option maxHeartbeats 4000000 in
theorem dtold_hit(n:Int)(hn:inK .i64 n)(w:World)(hg:w.cell? ⟨0,0,none⟩=some hdE) :
 Calls Tryz.prog 42 #[.iface 73 (.int .i64 n)] w fun e w'=>e = .returned (.string ⟨(errS n).toArray⟩)∧Fr (fun _=>False) w w':=by
 have hlt:0<w.heap.size:=World.block_lt_of_cell? w ⟨0,0,none⟩ hg
 have hgA:(w.alloc (.cells #[.int .i64 0] 73)).cell? ⟨0,0,none⟩=some hdE:=by
  rw[World.cell?_alloc_lt _ _ ⟨0,0,none⟩ hlt];exact hg
 have htA:(w.alloc (.cells #[.int .i64 0] 73)).cell? ⟨w.heap.size,0,none⟩=some (.int .i64 0):=by simp
 have hfA:(w.alloc (.cells #[.int .i64 0] 73)).frozen? ⟨w.heap.size,0,none⟩=false:=by simp
 go_enter Tryz.func42,Tryz.ntmps42
 go_wp2_with (first | (go_at_call 65;refine (as_hit n _ (.int .i64 0) _ hgA htA hfA).mono ?_;rintro e w' ⟨rfl,rfl⟩) | (go_at_call 69;refine (errN_calls n hn _).mono ?_;rintro e w' ⟨rfl,hfr⟩))
 go_ret
 exact⟨rfl,(((((fr_alloc _ _).trans (fr_alloc _ _)).trans (fr_alloc _ _)).trans (fr_alloc _ _)).trans (fr_alloc _ _)).trans hfr⟩
theorem okDTold:PlainOk Tryz.prog glE 42 cDTold:=by
 intro ds k hs w R0 vals hR0 hG hD
 obtain⟨hp,hk⟩:=hs
 obtain⟨n,rfl,hin⟩:=dest1 hp
 have hk:k [⟨.str,toldS n⟩]:=hk
 obtain⟨hl,hd⟩:=hD
 match vals,hl with
 | [v],_ =>
  have hv:Ty.okV w R0 tErr n v:=hd 0 ⟨tErr,n⟩ v rfl rfl
  unfold Ty.okV at hv
  simp only[Ty.agg,Bool.false_eq_true,if_false,Ty.ok] at hv
  have hok:∀ {w':World} {ro:Nat→Prop} (s:List UInt8),s.length≤20→RetOk w' ro [(⟨.str,s⟩:Dat)] (.string ⟨s.toArray⟩):=by
   intro w' ro s hs
   show Ty.okV _ _ .str s _
   unfold Ty.okV
   simp only[Ty.agg,Bool.false_eq_true,if_false,Ty.ok]
   exact⟨trivial,Nat.le_trans hs (by decide)⟩
  rcases hv with ⟨h0,hv⟩ | ⟨h0,hv⟩
  ·injection hv with hv
   subst hv
   have h0:(0:Int)=n:=h0.symm
   subst h0
   refine (show Calls Tryz.prog 42 #[.nilIface] w _ from dtold_nil w).mono fun e w' ⟨he,hw⟩ => ?_
   exact⟨hw,[⟨.str,toldS 0⟩],_,he,hk,hok (toldS 0) (by decide)⟩
  ·injection hv with hv
   subst hv
   have hk:k [⟨.str,errS n⟩]:=by
    have e:toldS n=errS n:=by unfold toldS;rw[if_neg h0]
    rw[← e];exact hk
   refine (show Calls Tryz.prog 42 #[.iface 73 (.int .i64 n)] w _ from dtold_hit n hin w (hd_of hG)).mono fun e w' ⟨he,hw⟩ => ?_
   exact⟨hw,[⟨.str,errS n⟩],_,he,hk,hok (errS n) (errS_len n)⟩
open Go.Vc Go.Proofs Go.RowKit
def w7(s:List UInt8):Bool:=numB s&&decide (s.length≤7)
structure WordsOk(l:List (List UInt8)):Prop where
 le:∀ s∈l,s.length≤1100000
 len:l.length≤1100000
def cWords:Ctr:=cdet [.sl .str] (fun (l:List (List UInt8))=>WordsOk l) (fun (l:List (List UInt8))=>[⟨.sl I,if l.all w7=true then l.map atN else[]⟩,⟨.bool,l.all w7⟩])
def anWords(l:List (List UInt8)):Ann:=[joinAll,
 loopAt 3 Nat [(4,3,.d I)] (fun st i=>{ St.at (St.only st [9,10]) [(4,.os 0),(11,.d I (i:Int))] with ob:=[.row 3 I ((l.take i).map atN)] }) (fun _ i=>i≤l.length∧(l.take i).all w7=true) (fun i=>l.length - i)]
open Go.Vc
set_option linter.unusedVariables false
theorem vcWords(v:GV)(l:List (List UInt8))(k:List Dat→Prop):vcF ⟨Elr,[(83,cAtoi),(64,cItoa)],glO v,[],[]⟩ (anWords l) (Tryz.f72.body.getD .skip) Tryz.f72.ntmps [(.tmp 2,.sl I),(.tmp 3,.bool)] [⟨.sl .str,l⟩] k=(
 (∃ (x:Nat),(x≤l.length∧(List.take x l).all w7=true)∧(True∧l=l∧(↑l.length:Int)=(↑l.length:Int)∧0=(↑x:Int)∧True)∧((3=3∧[]=List.map atN (List.take x l))∧True)∧Lib.pow10Tab=Lib.pow10Tab∧Value.int IntKind.i64 v.m=Value.int IntKind.i64 v.m∧Value.iface v.t1 v.p1=Value.iface v.t1 v.p1∧Value.iface v.t2 v.p2=Value.iface v.t2 v.p2∧True)∧∀ (x:Nat),x≤l.length∧(List.take x l).all w7=true→(decide ((↑x:Int)<(↑l.length:Int))=true→0≤(↑x:Int)∧(↑x:Int)<(↑l.length:Int)∧(l.getD (↑x:Int).toNat []).length≤1100000∧(atB (l.getD (↑x:Int).toNat [])=true→(decide (atN (l.getD (↑x:Int).toNat [])<0)=true→k [Dat.mk (I).sl [],Dat.mk Ty.bool false])∧(decide (atN (l.getD (↑x:Int).toNat [])<0)=false→(decide (7<(↑(l.getD (↑x:Int).toNat []).length:Int))=true→k [Dat.mk (I).sl [],Dat.mk Ty.bool false])∧(decide (7<(↑(l.getD (↑x:Int).toNat []).length:Int))=false→True∧((!Lib.itoa (atN (l.getD (↑x:Int).toNat []))==l.getD (↑x:Int).toNat [])=true→k [Dat.mk (I).sl [],Dat.mk Ty.bool false])∧((!Lib.itoa (atN (l.getD (↑x:Int).toNat []))==l.getD (↑x:Int).toNat [])=false→(List.map atN (List.take x l)).length+((List.replicate 1 0).set 0 (atN (l.getD (↑x:Int).toNat []))).length≤1000000000∧inK IntKind.i64 ((↑x:Int)+1)∧∃ (x_1:Nat),(x_1≤l.length∧(List.take x_1 l).all w7=true)∧l.length - x_1<l.length - x∧(True∧l=l∧(↑l.length:Int)=(↑l.length:Int)∧(↑x:Int)+1=(↑x_1:Int)∧True)∧((3=3∧(List.map atN (List.take x l)).append ((List.replicate 1 0).set 0 (atN (l.getD (↑x:Int).toNat [])))=List.map atN (List.take x_1 l))∧True)∧Lib.pow10Tab=Lib.pow10Tab∧Value.int IntKind.i64 v.m=Value.int IntKind.i64 v.m∧Value.iface v.t1 v.p1=Value.iface v.t1 v.p1∧Value.iface v.t2 v.p2=Value.iface v.t2 v.p2∧True))))∧∀ (N:Nat),atB (l.getD (↑x:Int).toNat [])=false→k [Dat.mk (I).sl [],Dat.mk Ty.bool false])∧(decide ((↑x:Int)<(↑l.length:Int))=false→k [Dat.mk (I).sl (List.map atN (List.take x l)),Dat.mk Ty.bool true])):=by kernel_rfl
open Go.Vc Go.Proofs Go.RowKit
theorem w7_at(s:List UInt8):w7 s=(atB s&&decide (0≤atN s)&&(Lib.itoa (atN s)==s)&&decide (s.length≤7)):=by unfold w7;rw[num_at]
theorem okWords(v:GV):PlainOk Tryz.prog (glO v) 72 cWords:=by
 refine plain_of (CxOk.mk' Elr_ok (by kernel_rfl) mixed (gl:=glO v) (GOk.cons (PlainOk.sub' glO_M (okAtoi v)) Tryz.func83 (by kernel_rfl) (by kernel_rfl) (GOk.cons (PlainOk.sub' glO_T okItoa) Tryz.func64 (by kernel_rfl) (by kernel_rfl) GOk.nil)) GoOk.nil noIt) Tryz.func72 (c:=Tryz.f72.body.getD .skip) (rvs:=[(.tmp 2,.sl I),(.tmp 3,.bool)]) (by kernel_rfl) (by kernel_rfl) (by kernel_rfl) ?_
 intro ds k ⟨hp,hk⟩ hwf
 obtain⟨l,rfl,hl⟩:=dest1 hp
 have hk:k [⟨.sl I,if l.all w7=true then l.map atN else[]⟩,⟨.bool,l.all w7⟩]:=hk
 have no:∀ s∈l,w7 s=false→k [⟨.sl I,[]⟩,⟨.bool,false⟩]:=fun s hs h=>by
  have e:l.all w7=false:=List.all_eq_false.2 ⟨s,hs,by rw[h];decide⟩
  rw[e,if_neg (by decide)] at hk;exact hk
 refine⟨anWords l,?_⟩
 rw[vcWords]
 have hle:=hl.len
 have ea:∀ (m n:List Int),List.append m n=m++n:=fun _ _=>rfl
 have e1:∀ y:Int,(List.replicate 1 (0:Int)).set 0 y=[y]:=fun _=>rfl
 simp only[ea,e1,Int.toNat_natCast,decide_eq_true_eq,decide_eq_false_iff_not,inK_i64,true_and,and_true,Bool.not_eq_true',Bool.not_eq_false']
 refine⟨⟨0,⟨Nat.zero_le _,rfl⟩,rfl,rfl⟩,fun x ⟨hx,ha⟩=>⟨fun hlt => ?_,fun hge => ?_⟩⟩
 ·have hxl:x<l.length:=by omega
  have eg:l.getD x []=l[x]:=by rw[List.getD_eq_getElem?_getD,List.getElem?_eq_getElem hxl];rfl
  have hmem:l.getD x []∈l:=by rw[eg];exact List.getElem_mem hxl
  have hw:=w7_at (l.getD x [])
  have nope:=no _ hmem
  refine⟨by omega,hlt,hl.le _ hmem,fun hb=>⟨fun h0=>nope ?_,fun h0=>⟨fun h7=>nope ?_,fun h7=>⟨fun hi=>nope ?_,fun hi=>⟨?_,by omega,x+1,⟨by omega,?_⟩,by omega,by omega,?_⟩⟩⟩⟩,fun N hb=>nope ?_⟩
  ·rw[hw,decide_eq_false (by omega:¬ 0≤atN (l.getD x []))];simp
  ·rw[hw,decide_eq_false (by omega:¬ (l.getD x []).length≤7)];simp
  ·rw[hw,hi];simp
  ·simp only[List.length_map,List.length_take,List.length_cons,List.length_nil];omega
  ·rw[List.take_succ_eq_append_getElem hxl,List.all_append,ha,List.all_cons,← eg,hw,hb,hi,decide_eq_true (by omega:0≤atN (l.getD x [])),decide_eq_true (by omega:(l.getD x []).length≤7)];rfl
  ·rw[List.take_succ_eq_append_getElem hxl,List.map_append,← eg];rfl
  ·rw[hw,hb];rfl
 ·have hxl:x=l.length:=by omega
  rw[hxl,List.take_length] at ha ⊢
  rw[ha,if_pos rfl] at hk;exact hk
open Go.Vc Go.Proofs Go.RowKit
open Go.Vc
set_option linter.unusedVariables false
open Go.Vc Go.Proofs Go.RowKit
open Go.Vc Go.Proofs Go.RowKit
open Go.Vc Go.Proofs Go.RowKit
open Go.Vc Go.Proofs Go.RowKit
abbrev glU(v:GV):List (Nat×Dat):=glE++glO v
theorem glU_E{v:GV}:∀ x∈glE,x∈glU v:=fun x h=>List.mem_append_left _ h
theorem glU_O{v:GV}:∀ x∈glO v,x∈glU v:=fun x h=>List.mem_append_right _ h
theorem glU_T{v:GV}:∀ x∈glT,x∈glU v:=fun x h=>glU_O x (glO_T x h)
open Go.Vc Go.Proofs Go.RowKit
abbrev tDk:Ty := .pr (.ptr tBk) .un
def Ed:Env:={ Elr with tys:=(87,tDk)::(116,.ptr tDk)::Elr.tys,pb:=[87,66] }
theorem Ed_ok:EnvOk Tryz.prog Ed:=EnvOk.of_list (by kernel_rfl) (by kernel_rfl) (by kernel_rfl)
def obD(b:BS):List Ob:=[.st 87 [.ps 1],.st 66 [.ps 2,.sf 1 1,.os 3,.d I b.2.2],.st 96 [.os 4,.os 5],.buf 5 b.2.1,.row 98 tRow b.1.1,.row 3 I b.1.2.1]
structure DvOk(n:Nat)(b:BS)(l:List Int):Prop where
 ok:BkOk b
 len:l.length=n
 k:∀ v∈l,inK .i64 v
def oDv(n:Nat):OCtr:=fun args ob k=>match args,ob with
 | [.ps 0,.d (.sl (.int .i64)) l],[.st 87 [.ps 1],.st 66 [.ps 2,.sf 1 1,.os 3,.d (.int .i64) m],.st 96 [.os 4,.os 5],.buf 5 txt,.row 98 (.ar 4 (.sl (.pr (.sl (.int .i64)) (.pr (.int .i64) .un)))) nodes,.row 3 (.int .i64) wrote] =>
  DvOk n ((nodes,wrote,()),txt,m) l∧k (.d .str (toldS (pE ((nodes,wrote,()),txt,m) l))) (obD (pT ((nodes,wrote,()),txt,m) l))
 | _,_=>False
open Go.Vc
set_option linter.unusedVariables false
theorem vcD3(v:GV)(nd:List (List (List Va)))(wr:List Int)(txt:List UInt8)(m:Int)(l:List Int)(k:SV→List Ob→Prop):vcO ⟨Ed,[(42,cDTold)],glU v,[],[(16,oBW)]⟩ [joinAll] (Tryz.f93.body.getD .skip) Tryz.f93.ntmps [(.tmp 4,.str)] [.ps 0,.d (.sl I) l] (obD ((nd,wr,()),txt,m)) k=(
 (0≤(0:Int)∧0<(↑l.length:Int)∧0≤(1:Int)∧1<(↑l.length:Int)∧0≤(2:Int)∧2<(↑l.length:Int)∧True)∧(NetSh (nd,wr,())∧txt.length≤900000000∧0≤m∧m≤(60:Int))∧IntKind.i64.wrap (bkE m (writeE (nd,wr,()) (l.getD (Int.toNat 0) 0) (l.getD (Int.toNat 1) 0) (l.getD (Int.toNat 2) 0)))=bkE m (writeE (nd,wr,()) (l.getD (Int.toNat 0) 0) (l.getD (Int.toNat 1) 0) (l.getD (Int.toNat 2) 0))∧k (SV.d Ty.str (toldS (bkE m (writeE (nd,wr,()) (l.getD (Int.toNat 0) 0) (l.getD (Int.toNat 1) 0) (l.getD (Int.toNat 2) 0))))) [Ob.st 87 [SV.ps 1],Ob.st 66 [SV.ps 2,SV.sf 1 1,SV.os 3,SV.d (I) (bkT (nd,wr,()) txt m (writeE (nd,wr,()) (l.getD (Int.toNat 0) 0) (l.getD (Int.toNat 1) 0) (l.getD (Int.toNat 2) 0)) (writeT (nd,wr,()) (l.getD (Int.toNat 0) 0) (l.getD (Int.toNat 1) 0) (l.getD (Int.toNat 2) 0)) (lineF [(119:UInt8)] [l.getD (Int.toNat 0) 0,l.getD (Int.toNat 1) 0,l.getD (Int.toNat 2) 0])).snd.snd],Ob.st 96 [SV.os 4,SV.os 5],Ob.buf 5 (bkT (nd,wr,()) txt m (writeE (nd,wr,()) (l.getD (Int.toNat 0) 0) (l.getD (Int.toNat 1) 0) (l.getD (Int.toNat 2) 0)) (writeT (nd,wr,()) (l.getD (Int.toNat 0) 0) (l.getD (Int.toNat 1) 0) (l.getD (Int.toNat 2) 0)) (lineF [(119:UInt8)] [l.getD (Int.toNat 0) 0,l.getD (Int.toNat 1) 0,l.getD (Int.toNat 2) 0])).snd.fst,Ob.row 98 tRow (bkT (nd,wr,()) txt m (writeE (nd,wr,()) (l.getD (Int.toNat 0) 0) (l.getD (Int.toNat 1) 0) (l.getD (Int.toNat 2) 0)) (writeT (nd,wr,()) (l.getD (Int.toNat 0) 0) (l.getD (Int.toNat 1) 0) (l.getD (Int.toNat 2) 0)) (lineF [(119:UInt8)] [l.getD (Int.toNat 0) 0,l.getD (Int.toNat 1) 0,l.getD (Int.toNat 2) 0])).fst.fst,Ob.row 3 (I) (bkT (nd,wr,()) txt m (writeE (nd,wr,()) (l.getD (Int.toNat 0) 0) (l.getD (Int.toNat 1) 0) (l.getD (Int.toNat 2) 0)) (writeT (nd,wr,()) (l.getD (Int.toNat 0) 0) (l.getD (Int.toNat 1) 0) (l.getD (Int.toNat 2) 0)) (lineF [(119:UInt8)] [l.getD (Int.toNat 0) 0,l.getD (Int.toNat 1) 0,l.getD (Int.toNat 2) 0])).fst.snd.fst]):=by kernel_rfl
theorem vcD2(v:GV)(nd:List (List (List Va)))(wr:List Int)(txt:List UInt8)(m:Int)(l:List Int)(k:SV→List Ob→Prop):vcO ⟨Ed,[(42,cDTold)],glU v,[],[(17,oBS)]⟩ [joinAll] (Tryz.f94.body.getD .skip) Tryz.f94.ntmps [(.tmp 4,.str)] [.ps 0,.d (.sl I) l] (obD ((nd,wr,()),txt,m)) k=(
 (0≤(0:Int)∧0<(↑l.length:Int)∧0≤(1:Int)∧1<(↑l.length:Int)∧True)∧(NetSh (nd,wr,())∧txt.length≤900000000∧0≤m∧m≤(60:Int))∧IntKind.i64.wrap (bkE m (syncE (nd,wr,()) (l.getD (Int.toNat 0) 0) (l.getD (Int.toNat 1) 0)))=bkE m (syncE (nd,wr,()) (l.getD (Int.toNat 0) 0) (l.getD (Int.toNat 1) 0))∧k (SV.d Ty.str (toldS (bkE m (syncE (nd,wr,()) (l.getD (Int.toNat 0) 0) (l.getD (Int.toNat 1) 0))))) [Ob.st 87 [SV.ps 1],Ob.st 66 [SV.ps 2,SV.sf 1 1,SV.os 3,SV.d (I) (bkT (nd,wr,()) txt m (syncE (nd,wr,()) (l.getD (Int.toNat 0) 0) (l.getD (Int.toNat 1) 0)) (syncT (nd,wr,()) (l.getD (Int.toNat 0) 0) (l.getD (Int.toNat 1) 0)) (lineF [(115:UInt8)] [l.getD (Int.toNat 0) 0,l.getD (Int.toNat 1) 0])).snd.snd],Ob.st 96 [SV.os 4,SV.os 5],Ob.buf 5 (bkT (nd,wr,()) txt m (syncE (nd,wr,()) (l.getD (Int.toNat 0) 0) (l.getD (Int.toNat 1) 0)) (syncT (nd,wr,()) (l.getD (Int.toNat 0) 0) (l.getD (Int.toNat 1) 0)) (lineF [(115:UInt8)] [l.getD (Int.toNat 0) 0,l.getD (Int.toNat 1) 0])).snd.fst,Ob.row 98 tRow (bkT (nd,wr,()) txt m (syncE (nd,wr,()) (l.getD (Int.toNat 0) 0) (l.getD (Int.toNat 1) 0)) (syncT (nd,wr,()) (l.getD (Int.toNat 0) 0) (l.getD (Int.toNat 1) 0)) (lineF [(115:UInt8)] [l.getD (Int.toNat 0) 0,l.getD (Int.toNat 1) 0])).fst.fst,Ob.row 3 (I) (bkT (nd,wr,()) txt m (syncE (nd,wr,()) (l.getD (Int.toNat 0) 0) (l.getD (Int.toNat 1) 0)) (syncT (nd,wr,()) (l.getD (Int.toNat 0) 0) (l.getD (Int.toNat 1) 0)) (lineF [(115:UInt8)] [l.getD (Int.toNat 0) 0,l.getD (Int.toNat 1) 0])).fst.snd.fst]):=by kernel_rfl
open Go.Vc Go.Proofs Go.RowKit
theorem pE_in(b:BS)(l:List Int):inK .i64 (pE b l):=by
 unfold pE
 split
 ·exact inK_i64.2 (bkE_k (writeE_k _ _ _ _))
 ·exact inK_i64.2 (bkE_k (syncE_k _ _ _))
theorem ownD3(v:GV):OwnOk Tryz.prog (glU v) 93 (oDv 3):=by
 refine own_of (CxOk.mk' Ed_ok (by kernel_rfl) mixed (gl:=glU v) (GOk.cons (PlainOk.sub' glU_E okDTold) Tryz.func42 (by kernel_rfl) (by kernel_rfl) GOk.nil) (GoOk.cons (OwnOk.sub glU_T ownBW) Tryz.func16 (by kernel_rfl) (by kernel_rfl) GoOk.nil) noIt) Tryz.func93 (c:=Tryz.f93.body.getD .skip) (rvs:=[(.tmp 4,.str)]) (by kernel_rfl) (by kernel_rfl) (by kernel_rfl) ?_
 intro args ob k h hwa hwo
 unfold oDv at h
 split at h
 ·rename_i l m txt nd wr
  obtain⟨hO,hk⟩:=h
  refine⟨[joinAll],?_⟩
  show vcO _ _ _ _ _ [.ps 0,.d (.sl I) l] (obD ((nd,wr,()),txt,m)) k
  rw[vcD3]
  have hl:=hO.len
  have he:=pE_in ((nd,wr,()),txt,m) l
  have e:pE ((nd,wr,()),txt,m) l=bkE m (writeE (nd,wr,()) (l.getD 0 0) (l.getD 1 0) (l.getD 2 0)):=if_pos hl
  have et:pT ((nd,wr,()),txt,m) l=bkT (nd,wr,()) txt m (writeE (nd,wr,()) (l.getD 0 0) (l.getD 1 0) (l.getD 2 0)) (writeT (nd,wr,()) (l.getD 0 0) (l.getD 1 0) (l.getD 2 0)) (lineF [119] [l.getD 0 0,l.getD 1 0,l.getD 2 0]):=if_pos hl
  rw[e] at he hk
  rw[et] at hk
  exact⟨⟨by decide,by omega,by decide,by omega,by decide,by omega,trivial⟩,⟨hO.ok.sh,hO.ok.txt,hO.ok.lo,hO.ok.hi⟩,he,hk⟩
 ·exact h.elim
theorem ownD2(v:GV):OwnOk Tryz.prog (glU v) 94 (oDv 2):=by
 refine own_of (CxOk.mk' Ed_ok (by kernel_rfl) mixed (gl:=glU v) (GOk.cons (PlainOk.sub' glU_E okDTold) Tryz.func42 (by kernel_rfl) (by kernel_rfl) GOk.nil) (GoOk.cons (OwnOk.sub glU_T ownBS) Tryz.func17 (by kernel_rfl) (by kernel_rfl) GoOk.nil) noIt) Tryz.func94 (c:=Tryz.f94.body.getD .skip) (rvs:=[(.tmp 4,.str)]) (by kernel_rfl) (by kernel_rfl) (by kernel_rfl) ?_
 intro args ob k h hwa hwo
 unfold oDv at h
 split at h
 ·rename_i l m txt nd wr
  obtain⟨hO,hk⟩:=h
  refine⟨[joinAll],?_⟩
  show vcO _ _ _ _ _ [.ps 0,.d (.sl I) l] (obD ((nd,wr,()),txt,m)) k
  rw[vcD2]
  have hl:=hO.len
  have hl3:¬ l.length=3:=by omega
  have he:=pE_in ((nd,wr,()),txt,m) l
  have e:pE ((nd,wr,()),txt,m) l=bkE m (syncE (nd,wr,()) (l.getD 0 0) (l.getD 1 0)):=if_neg hl3
  have et:pT ((nd,wr,()),txt,m) l=bkT (nd,wr,()) txt m (syncE (nd,wr,()) (l.getD 0 0) (l.getD 1 0)) (syncT (nd,wr,()) (l.getD 0 0) (l.getD 1 0)) (lineF [115] [l.getD 0 0,l.getD 1 0]):=if_neg hl3
  rw[e] at he hk
  rw[et] at hk
  exact⟨⟨by decide,by omega,by decide,by omega,trivial⟩,⟨hO.ok.sh,hO.ok.txt,hO.ok.lo,hO.ok.hi⟩,he,hk⟩
 ·exact h.elim
def valsS(vs:List Va):Nat→List UInt8
 | 0=>[118,97,108,117,101,115]
 | i+1=>List.append (valsS vs i) (List.append [32] (Lib.itoa (vs.getD i va0).2.1))
def rdV(b:BS)(l:List Int):List Va:=readF b.1 (l.getD 0 0) (l.getD 1 0)
def rdS(b:BS)(l:List Int):List UInt8:=valsS (rdV b l) (rdV b l).length
structure RdOk(b:BS)(l:List Int):Prop where
 net:NetLen b.1
 len:l.length=2
 vals:∀ v∈rdV b l,inK .i64 v.2.1
 many:(rdV b l).length≤100000
def oDr:OCtr:=fun args ob k=>match args,ob with
 | [.ps 0,.d (.sl (.int .i64)) l],[.st 87 [.ps 1],.st 66 [.ps 2,.sf 1 1,.os 3,.d (.int .i64) m],.st 96 [.os 4,.os 5],.buf 5 txt,.row 98 (.ar 4 (.sl (.pr (.sl (.int .i64)) (.pr (.int .i64) .un)))) nodes,.row 3 (.int .i64) wrote] =>
  RdOk ((nodes,wrote,()),txt,m) l∧k (.d .str (rdS ((nodes,wrote,()),txt,m) l)) (obD ((nodes,wrote,()),txt,m))
 | _,_=>False
def anDr(b:BS)(l:List Int):Ann:=[joinAll,
 loopAt 3 Nat [] (fun st i=>{ St.at (St.only st [0,18,19]) [(5,.d .str (valsS (rdV b l) i)),(20,.d I (i:Int))] with ob:=st.ob }) (fun _ i=>i≤(rdV b l).length) (fun i=>(rdV b l).length - i)]
def crR(b:BS)(l:List Int):BS×Int×Int:=poR 3 (b.2.1.take (min (l.getD 0 0) (b.2.1.length:Int)).toNat)
def crS(b:BS)(l:List Int):List UInt8:=if (crR b l).2.2=0 then List.append [102,111,117,110,100,32] (Lib.itoa (crR b l).2.1) else toldS (crR b l).2.2
def crT(b:BS)(l:List Int):BS:=if (crR b l).2.2=0 then (crR b l).1 else b
structure CrOk(b:BS)(l:List Int):Prop where
 ok:POpenOk 3 (b.2.1.take (min (l.getD 0 0) (b.2.1.length:Int)).toNat)
 len:l.length=1
 k:∀ v∈l,inK .i64 v∧0≤v
 txt:b.2.1.length≤1000000
 many:inK .i64 (crR b l).2.1∧inK .i64 (crR b l).2.2
def oDc:OCtr:=fun args ob k=>match args,ob with
 | [.ps 0,.d (.sl (.int .i64)) l],[.st 87 [.ps 1],.st 66 [.ps 2,.sf 1 1,.os 3,.d (.int .i64) m],.st 96 [.os 4,.os 5],.buf 5 txt,.row 98 (.ar 4 (.sl (.pr (.sl (.int .i64)) (.pr (.int .i64) .un)))) nodes,.row 3 (.int .i64) wrote] =>
  CrOk ((nodes,wrote,()),txt,m) l∧k (.d .str (crS ((nodes,wrote,()),txt,m) l)) (obD (crT ((nodes,wrote,()),txt,m) l))
 | _,_=>False
open Go.Vc
set_option linter.unusedVariables false
abbrev vcDrq1(nd:List (List (List Va)))(wr:List Int)(l:List Int):=(readF (nd,wr,()) (l.getD (Int.toNat 0) 0) (l.getD (Int.toNat 1) 0))
theorem vcDr(v:GV)(nd:List (List (List Va)))(wr:List Int)(txt:List UInt8)(m:Int)(l:List Int)(k:SV→List Ob→Prop):vcO ⟨Ed,[(64,cItoa)],glU v,[],[(22,oBRd)]⟩ (anDr ((nd,wr,()),txt,m) l) (Tryz.f95.body.getD .skip) Tryz.f95.ntmps [(.tmp 4,.str)] [.ps 0,.d (.sl I) l] (obD ((nd,wr,()),txt,m)) k=(
 (0≤(0:Int)∧0<(↑l.length:Int)∧0≤(1:Int)∧1<(↑l.length:Int)∧True)∧NetLen (nd,wr,())∧(∃ (x:Nat),x.le (rdV ((nd,wr,()),txt,m) l).length∧(True∧[(118:UInt8),97,108,117,101,115]=valsS (rdV ((nd,wr,()),txt,m) l) x∧True∧(↑(vcDrq1 nd wr l).length:Int)=(↑(vcDrq1 nd wr l).length:Int)∧0=(↑x:Int)∧True)∧((True∧True)∧(True∧True∧True∧m=m∧True)∧(83=83∧readF (nd,wr,()) (l.getD (Int.toNat 0) 0) (l.getD (Int.toNat 1) 0)=readF (nd,wr,()) (l.getD (Int.toNat 0) 0) (l.getD (Int.toNat 1) 0))∧(True∧True∧True)∧txt=txt∧(98=98∧nd=nd)∧(3=3∧wr=wr)∧True)∧True∧l=l∧hdE=hdE∧Lib.pow10Tab=Lib.pow10Tab∧Value.int IntKind.i64 v.m=Value.int IntKind.i64 v.m∧Value.iface v.t1 v.p1=Value.iface v.t1 v.p1∧Value.iface v.t2 v.p2=Value.iface v.t2 v.p2∧True)∧∀ (x:Nat),x.le (rdV ((nd,wr,()),txt,m) l).length→(decide ((↑x:Int)<(↑(vcDrq1 nd wr l).length:Int))=true→0≤(↑x:Int)∧(↑x:Int)<(↑(vcDrq1 nd wr l).length:Int)∧True∧[(32:UInt8)].length+(Lib.itoa ((vcDrq1 nd wr l).getD (↑x:Int).toNat va0).snd.fst).length≤maxLen∧(valsS (rdV ((nd,wr,()),txt,m) l) x).length+((32:UInt8)::Lib.itoa ((vcDrq1 nd wr l).getD (↑x:Int).toNat va0).snd.fst).length≤maxLen∧inK IntKind.i64 ((↑x:Int)+1)∧∃ (x_1:Nat),x_1.le (rdV ((nd,wr,()),txt,m) l).length∧(rdV ((nd,wr,()),txt,m) l).length - x_1<(rdV ((nd,wr,()),txt,m) l).length - x∧(True∧(valsS (rdV ((nd,wr,()),txt,m) l) x).append ((32:UInt8)::Lib.itoa ((vcDrq1 nd wr l).getD (↑x:Int).toNat va0).snd.fst)=valsS (rdV ((nd,wr,()),txt,m) l) x_1∧True∧(↑(vcDrq1 nd wr l).length:Int)=(↑(vcDrq1 nd wr l).length:Int)∧(↑x:Int)+1=(↑x_1:Int)∧True)∧((True∧True)∧(True∧True∧True∧m=m∧True)∧(83=83∧readF (nd,wr,()) (l.getD (Int.toNat 0) 0) (l.getD (Int.toNat 1) 0)=readF (nd,wr,()) (l.getD (Int.toNat 0) 0) (l.getD (Int.toNat 1) 0))∧(True∧True∧True)∧txt=txt∧(98=98∧nd=nd)∧(3=3∧wr=wr)∧True)∧True∧l=l∧hdE=hdE∧Lib.pow10Tab=Lib.pow10Tab∧Value.int IntKind.i64 v.m=Value.int IntKind.i64 v.m∧Value.iface v.t1 v.p1=Value.iface v.t1 v.p1∧Value.iface v.t2 v.p2=Value.iface v.t2 v.p2∧True)∧(decide ((↑x:Int)<(↑(vcDrq1 nd wr l).length:Int))=false→k (SV.d Ty.str (valsS (rdV ((nd,wr,()),txt,m) l) x)) [Ob.st 87 [SV.ps 1],Ob.st 66 [SV.ps 2,SV.sf 1 1,SV.os 3,SV.d (I) m],Ob.st 96 [SV.os 4,SV.os 5],Ob.buf 5 txt,Ob.row 98 tRow nd,Ob.row 3 (I) wr])):=by kernel_rfl
abbrev vcDcq1(l:List Int)(txt:List UInt8):=(List.drop (Int.toNat 0) (List.take (min (l.getD (Int.toNat 0) 0) (↑txt.length:Int)).toNat txt))
theorem vcDc(v:GV)(nd:List (List (List Va)))(wr:List Int)(txt:List UInt8)(m:Int)(l:List Int)(k:SV→List Ob→Prop):vcO ⟨Ed,[(64,cItoa),(42,cDTold)],glU v,[],[(14,oBTxt),(15,oBOpen)]⟩ [joinAll] (Tryz.f96.body.getD .skip) Tryz.f96.ntmps [(.tmp 4,.str)] [.ps 0,.d (.sl I) l] (obD ((nd,wr,()),txt,m)) k=(
 txt.length≤1000000000∧0≤(0:Int)∧0<(↑l.length:Int)∧0≤(0:Int)∧0≤min (l.getD (Int.toNat 0) 0) (↑txt.length:Int)∧min (l.getD (Int.toNat 0) 0) (↑txt.length:Int)≤(↑txt.length:Int)∧(vcDcq1 l txt).length≤1100000∧(inB 3 1 5=false→((!decide (1=(0:Int)))=true→IntKind.i64.wrap 1=(1:Int)∧k (SV.d Ty.str (toldS 1)) [Ob.st 87 [SV.ps 1],Ob.st 66 [SV.ps 2,SV.sf 1 1,SV.os 3,SV.d (I) m],Ob.st 96 [SV.os 4,SV.os 5],Ob.buf 5 txt,Ob.row 98 tRow nd,Ob.row 3 (I) wr])∧((!decide (1=(0:Int)))=false→True∧[(102:UInt8),111,117,110,100,32].length+(Lib.itoa 0).length≤maxLen∧k (SV.d Ty.str ((102:UInt8)::111::117::110::100::32::Lib.itoa 0)) [Ob.st 87 [SV.nilp]]))∧(inB 3 1 5=true→POpenOk 3 (vcDcq1 l txt)∧((poR 3 (vcDcq1 l txt)).snd.snd=(0:Int)→((!decide (0=(0:Int)))=true→IntKind.i64.wrap 0=(0:Int)∧k (SV.d Ty.str (toldS 0)) [Ob.st 87 [SV.ps 1],Ob.st 66 [SV.ps 2,SV.sf 1 1,SV.os 3,SV.d (I) m],Ob.st 96 [SV.os 4,SV.os 5],Ob.buf 5 txt,Ob.row 98 tRow nd,Ob.row 3 (I) wr])∧((!decide (0=(0:Int)))=false→True∧[(102:UInt8),111,117,110,100,32].length+(Lib.itoa (poR 3 (vcDcq1 l txt)).snd.fst).length≤maxLen∧k (SV.d Ty.str ((102:UInt8)::111::117::110::100::32::Lib.itoa (poR 3 (vcDcq1 l txt)).snd.fst)) [Ob.st 87 [SV.ps 1],Ob.st 66 [SV.ps 2,SV.sf 1 1,SV.os 3,SV.d (I) (poR 3 (vcDcq1 l txt)).fst.snd.snd],Ob.st 96 [SV.os 4,SV.os 5],Ob.buf 5 (poR 3 (vcDcq1 l txt)).fst.snd.fst,Ob.row 98 tRow (poR 3 (vcDcq1 l txt)).fst.fst.fst,Ob.row 3 (I) (poR 3 (vcDcq1 l txt)).fst.fst.snd.fst]))∧((poR 3 (vcDcq1 l txt)).snd.snd≠(0:Int)→((!decide ((poR 3 (vcDcq1 l txt)).snd.snd=(0:Int)))=true→IntKind.i64.wrap (poR 3 (vcDcq1 l txt)).snd.snd=(poR 3 (vcDcq1 l txt)).snd.snd∧k (SV.d Ty.str (toldS (poR 3 (vcDcq1 l txt)).snd.snd)) [Ob.st 87 [SV.ps 1],Ob.st 66 [SV.ps 2,SV.sf 1 1,SV.os 3,SV.d (I) m],Ob.st 96 [SV.os 4,SV.os 5],Ob.buf 5 txt,Ob.row 98 tRow nd,Ob.row 3 (I) wr])∧((!decide ((poR 3 (vcDcq1 l txt)).snd.snd=(0:Int)))=false→True∧[(102:UInt8),111,117,110,100,32].length+(Lib.itoa (poR 3 (vcDcq1 l txt)).snd.fst).length≤maxLen∧k (SV.d Ty.str ((102:UInt8)::111::117::110::100::32::Lib.itoa (poR 3 (vcDcq1 l txt)).snd.fst)) [Ob.st 87 [SV.nilp]])))):=by kernel_rfl
open Go.Vc Go.Proofs Go.RowKit
theorem valsS_len(vs:List Va)(h:∀ v∈vs,inK .i64 v.2.1):∀ i,i≤vs.length→(valsS vs i).length≤6+21*i
 | 0,_=>by show 6≤_;omega
 | i+1,hi=>by
  have ih:=valsS_len vs h i (by omega)
  have hm:vs.getD i va0∈vs:=by
   rw[List.getD_eq_getElem?_getD,List.getElem?_eq_getElem (by omega)];exact List.getElem_mem (by omega)
  have h1:=itoa_len (h _ hm)
  show (valsS vs i++([32]++Lib.itoa (vs.getD i va0).2.1)).length≤_
  simp only[List.length_append,List.length_singleton];omega
theorem ownDr(v:GV):OwnOk Tryz.prog (glU v) 95 oDr:=by
 refine own_of (CxOk.mk' Ed_ok (by kernel_rfl) mixed (gl:=glU v) (GOk.cons (PlainOk.sub' glU_T okItoa) Tryz.func64 (by kernel_rfl) (by kernel_rfl) GOk.nil) (GoOk.cons ownBRd.lift Tryz.func22 (by kernel_rfl) (by kernel_rfl) GoOk.nil) noIt) Tryz.func95 (c:=Tryz.f95.body.getD .skip) (rvs:=[(.tmp 4,.str)]) (by kernel_rfl) (by kernel_rfl) (by kernel_rfl) ?_
 intro args ob k h hwa hwo
 unfold oDr at h
 split at h
 ·rename_i l m txt nd wr
  obtain⟨hO,hk⟩:=h
  refine⟨anDr ((nd,wr,()),txt,m) l,?_⟩
  show vcO _ _ _ _ _ [.ps 0,.d (.sl I) l] (obD ((nd,wr,()),txt,m)) k
  rw[vcDr]
  unfold vcDrq1
  have hl:=hO.len
  have i0:Int.toNat 0=0:=rfl
  have i1:Int.toNat 1=1:=rfl
  have hr:readF (nd,wr,()) (l.getD 0 0) (l.getD 1 0)=rdV ((nd,wr,()),txt,m) l:=rfl
  have hv:=valsS_len _ hO.vals
  have hmany:=hO.many
  have hvals:=hO.vals
  have hmx:3000000≤maxLen:=by decide
  have hnet:=hO.net
  unfold rdS at hk
  simp only[i0,i1,hr,Int.toNat_natCast,decide_eq_true_eq,decide_eq_false_iff_not,inK_i64,true_and,and_true,Nat.le_eq]
  generalize rdV ((nd,wr,()),txt,m) l=V at *
  refine⟨⟨by omega,by omega,by omega,by omega⟩,hnet,⟨0,Nat.zero_le _,rfl,rfl⟩,fun x hx=>⟨fun hlt => ?_,fun hge => ?_⟩⟩
  ·have hm:V.getD x va0∈V:=by
    rw[List.getD_eq_getElem?_getD,List.getElem?_eq_getElem (by omega)];exact List.getElem_mem (by omega)
   have h1:=itoa_len (hvals _ hm)
   have h2:=hv x hx
   refine⟨by omega,hlt,?_,?_,by omega,x+1,by omega,by omega,rfl,by omega⟩
   ·show 1+_≤_;omega
   ·rw[List.length_cons];omega
  ·have:x=V.length:=by omega
   rw[this];exact hk
 ·exact h.elim
theorem ownDc(v:GV):OwnOk Tryz.prog (glU v) 96 oDc:=by
 refine own_of (CxOk.mk' Ed_ok (by kernel_rfl) mixed (gl:=glU v) (GOk.cons (PlainOk.sub' glU_T okItoa) Tryz.func64 (by kernel_rfl) (by kernel_rfl) (GOk.cons (PlainOk.sub' glU_E okDTold) Tryz.func42 (by kernel_rfl) (by kernel_rfl) GOk.nil)) (GoOk.cons ownBTxt.lift Tryz.func14 (by kernel_rfl) (by kernel_rfl) (GoOk.cons (OwnOk.sub glU_O (ownBOpen v)) Tryz.func15 (by kernel_rfl) (by kernel_rfl) GoOk.nil)) noIt) Tryz.func96 (c:=Tryz.f96.body.getD .skip) (rvs:=[(.tmp 4,.str)]) (by kernel_rfl) (by kernel_rfl) (by kernel_rfl) ?_
 intro args ob k h hwa hwo
 unfold oDc at h
 split at h
 ·rename_i l m txt nd wr
  obtain⟨hO,hk⟩:=h
  refine⟨[joinAll],?_⟩
  show vcO _ _ _ _ _ [.ps 0,.d (.sl I) l] (obD ((nd,wr,()),txt,m)) k
  rw[vcDc]
  unfold vcDcq1
  have hl:=hO.len
  have htx:txt.length≤1000000:=hO.txt
  have hm:l.getD 0 0∈l:=by
   rw[List.getD_eq_getElem?_getD,List.getElem?_eq_getElem (by omega)];exact List.getElem_mem (by omega)
  obtain⟨_,h0⟩:=hO.k _ hm
  have hR:poR 3 (List.take (min (l.getD (Int.toNat 0) 0) (txt.length:Int)).toNat txt)=crR ((nd,wr,()),txt,m) l:=rfl
  have i0:Int.toNat 0=0:=rfl
  rw[i0] at hR
  have hP:POpenOk 3 (List.take (min (l.getD 0 0) (txt.length:Int)).toNat txt):=hO.ok
  have hmany:=hO.many
  simp only[i0,List.drop_zero,hR]
  unfold crS crT at hk
  have hmx:3000000≤maxLen:=by decide
  refine⟨by omega,by omega,by omega,by omega,by omega,by omega,by rw[List.length_take];omega,fun h=>absurd h (by decide),fun _=>⟨hP,fun hz=>⟨fun h=>(by cases h),fun _=>⟨trivial,?_,?_⟩⟩,fun hz=>⟨fun _=>⟨hmany.2,?_⟩,fun h => ?_⟩⟩⟩
  ·have:=itoa_len hmany.1
   show 6+_≤_;omega
  ·rw[if_pos hz,if_pos hz] at hk;exact hk
  ·rw[if_neg hz,if_neg hz] at hk;exact hk
  ·rw[decide_eq_false hz] at h;cases h
 ·exact h.elim
open Go.Vc Go.Proofs Go.RowKit
abbrev tVb:Ty := .pr I (.pr .rawf .un)
def vbV(n:Int)(g:Nat):tVb.D:=(n,Value.func (.func g) #[] #[],())
def verbsL:List (List Int×tVb.D):=[(sInts [119,114,105,116,101],vbV 3 93),(sInts [115,121,110,99],vbV 2 94),(sInts [114,101,97,100],vbV 2 95),(sInts [99,114,97,115,104],vbV 1 96)]
def Ev:Env:={ Ed with tys:=(119,tVb)::(117,.rawf)::Ed.tys,mps:=[(121,(9,119))] }
theorem Ev_ok:EnvOk Tryz.prog Ev:=EnvOk.of_list (by kernel_rfl) (by kernel_rfl) (by kernel_rfl)
def oVerbs:OCtr:=fun args ob k=>match args,ob with
 | [],[]=>k (.os 0) [.mp strN tVb verbsL]
 | _,_=>False
open Go.Vc
set_option linter.unusedVariables false
theorem vcVerbs(k:SV→List Ob→Prop):vcO ⟨Ev,[],[],[],[]⟩ [joinAll] (Tryz.f71.body.getD .skip) Tryz.f71.ntmps [(.tmp 0,.un)] [] [] k=(
 k (SV.os (0:Nat)) [Ob.mp (1000000007:Nat) ((I).pr (Ty.rawf.pr Ty.un)) (mpPut (mpPut (mpPut (mpPut [] (sInts [(119:UInt8),(114:UInt8),(105:UInt8),(116:UInt8),(101:UInt8)]) ((3:Int),Value.func (Fn.func (93:Nat)) #[] #[],())) (sInts [(115:UInt8),(121:UInt8),(110:UInt8),(99:UInt8)]) ((2:Int),Value.func (Fn.func (94:Nat)) #[] #[],())) (sInts [(114:UInt8),(101:UInt8),(97:UInt8),(100:UInt8)]) ((2:Int),Value.func (Fn.func (95:Nat)) #[] #[],())) (sInts [(99:UInt8),(114:UInt8),(97:UInt8),(115:UInt8),(104:UInt8)]) ((1:Int),Value.func (Fn.func (96:Nat)) #[] #[],()))]):=by kernel_rfl
open Go.Vc Go.Proofs Go.RowKit
theorem ownVerbs(v:GV):OwnOk Tryz.prog (glU v) 71 oVerbs:=by
 refine OwnOk.lift (own_of (CxOk.mk' Ev_ok (by kernel_rfl) mixed (gl:=[]) GOk.nil GoOk.nil noIt) Tryz.func71 (c:=Tryz.f71.body.getD .skip) (rvs:=[(.tmp 0,.un)]) (by kernel_rfl) (by kernel_rfl) (by kernel_rfl) ?_)
 intro args ob k h hwa hwo
 unfold oVerbs at h
 split at h
 ·refine⟨[joinAll],?_⟩
  rw[vcVerbs]
  exact h
 ·exact h.elim
def lnW(s:List UInt8):List (List UInt8):=splL 32 s
def lnN(s:List UInt8):List Int:=((lnW s).drop 1).map atN
def lnOk(s:List UInt8):Bool:=((lnW s).drop 1).all w7
def wWrite:List UInt8:=[119,114,105,116,101]
def wSync:List UInt8:=[115,121,110,99]
def wRead:List UInt8:=[114,101,97,100]
def wCrash:List UInt8:=[99,114,97,115,104]
def badS:List UInt8:=[98,97,100]
structure SpOk(w s c:List UInt8):Prop where
 le:s.length≤1100000
 sep:c=[32]
 hd:lnW s=w::(lnW s).drop 1
def cSplitW(w:List UInt8):Ctr:=cdet [.str,.str] (fun s c=>SpOk w s c) (fun (s _:List UInt8)=>[⟨.sl .str,w::(lnW s).drop 1⟩])
def hdW(w s:List UInt8):List (List UInt8):=w::(lnW s).drop 1
def tlW(w s:List UInt8):List (List UInt8):=List.drop (Int.toNat 1) (List.take (((hdW w s).length:Int)).toNat (hdW w s))
def fsW(w s:List UInt8):List UInt8:=(hdW w s).getD (Int.toNat 0) []
def nmW(w s:List UInt8):List Int:=if (tlW w s).all w7=true then List.map atN (tlW w s) else[]
def lkB(w s:List UInt8):Bool:=(mpGet verbsL (sInts (fsW w s))).isSome
def lkV(w s:List UInt8):tVb.D:=match mpGet verbsL (sInts (fsW w s)) with | some x=>x | none=>((0:Int),Value.nilFunc,())
open Go.Vc
set_option linter.unusedVariables false
abbrev vcLnWq1(m:Int)(txt:List UInt8)(nd:List (List (List Va)))(wr:List Int):=[Ob.st 87 [SV.ps 1],Ob.st 66 [SV.ps 2,SV.sf 1 1,SV.os 3,SV.d (I) m],Ob.st 96 [SV.os 4,SV.os 5],Ob.buf 5 txt,Ob.row 98 tRow nd,Ob.row 3 (I) wr]
abbrev vcLnWq2(s:List UInt8):=(0≤(0:Int)∧0<(↑(hdW wWrite s).length:Int)∧SV.ra Ty.str (fsW wWrite s)=SV.ra Ty.str (fsW wWrite s))
theorem vcLnW(v:GV)(nd:List (List (List Va)))(wr:List Int)(txt:List UInt8)(m:Int)(s:List UInt8)(k:SV→List Ob→Prop):vcO ⟨Ev,[(63,cSplitW wWrite),(72,cWords)],glU v,[],[(71,oVerbs),(93,oDv 3)]⟩ [joinAll] (Tryz.f44.body.getD .skip) Tryz.f44.ntmps [(.tmp 4,.str)] [.ps 0,.d .str s] (obD ((nd,wr,()),txt,m)) k=(
 SpOk wWrite s [(32:UInt8)]∧0≤(0:Int)∧0<(↑(hdW wWrite s).length:Int)∧True∧(((vcLnWq2 s)∧fsW wWrite s=fsW wWrite s∧True)∧(((vcLnWq2 s)∧fsW wWrite s=fsW wWrite s∧SV.tp [SV.d ((I).pr (Ty.rawf.pr Ty.un)) (vbV 3 93),SV.d Ty.bool (lkB wWrite s)]=SV.tp [SV.d ((I).pr (Ty.rawf.pr Ty.un)) (vbV 3 93),SV.d Ty.bool (lkB wWrite s)]∧SV.tp [SV.d ((I).pr (Ty.rawf.pr Ty.un)) (vbV 3 93),SV.d Ty.bool (lkB wWrite s)]=SV.tp [SV.d ((I).pr (Ty.rawf.pr Ty.un)) (vbV 3 93),SV.d Ty.bool (lkB wWrite s)]∧(lkB wWrite s)=(lkB wWrite s)∧vbV 3 93=vbV 3 93∧True)∧(True∧0≤(1:Int)∧1≤(↑(hdW wWrite s).length:Int)∧(↑(hdW wWrite s).length:Int)≤(↑(hdW wWrite s).length:Int)∧WordsOk (tlW wWrite s)∧((!(lkB wWrite s))=true→k (SV.d Ty.str [(98:UInt8),97,100]) (vcLnWq1 m txt nd wr))∧((!(lkB wWrite s))=false→((!(tlW wWrite s).all w7)=true→k (SV.d Ty.str [(98:UInt8),97,100]) (vcLnWq1 m txt nd wr))∧((!(tlW wWrite s).all w7)=false→((!decide ((↑(nmW wWrite s).length:Int)=3))=true→k (SV.d Ty.str [(98:UInt8),97,100]) (vcLnWq1 m txt nd wr))∧((!decide ((↑(nmW wWrite s).length:Int)=3))=false→DvOk 3 ((nd,wr,()),txt,m) (nmW wWrite s)∧k (SV.d Ty.str (toldS (pE ((nd,wr,()),txt,m) (nmW wWrite s)))) [Ob.st 87 [SV.ps 1],Ob.st 66 [SV.ps 2,SV.sf 1 1,SV.os 3,SV.d (I) (pT ((nd,wr,()),txt,m) (nmW wWrite s)).snd.snd],Ob.st 96 [SV.os 4,SV.os 5],Ob.buf 5 (pT ((nd,wr,()),txt,m) (nmW wWrite s)).snd.fst,Ob.row 98 tRow (pT ((nd,wr,()),txt,m) (nmW wWrite s)).fst.fst,Ob.row 3 (I) (pT ((nd,wr,()),txt,m) (nmW wWrite s)).fst.snd.fst]))))∧True)∧True∧True)∧(((vcLnWq2 s)∧fsW wWrite s=fsW wWrite s∧True)∧(((vcLnWq2 s)∧fsW wWrite s=fsW wWrite s∧True)∧(True∧0≤(1:Int)∧1≤(↑(hdW wWrite s).length:Int)∧(↑(hdW wWrite s).length:Int)≤(↑(hdW wWrite s).length:Int)∧WordsOk (tlW wWrite s)∧((!(lkB wWrite s))=true→k (SV.d Ty.str [(98:UInt8),97,100]) (vcLnWq1 m txt nd wr))∧((!(lkB wWrite s))=false→((!(tlW wWrite s).all w7)=true→k (SV.d Ty.str [(98:UInt8),97,100]) (vcLnWq1 m txt nd wr))∧((!(tlW wWrite s).all w7)=false→((!decide ((↑(nmW wWrite s).length:Int)=3))=true→k (SV.d Ty.str [(98:UInt8),97,100]) (vcLnWq1 m txt nd wr))∧((!decide ((↑(nmW wWrite s).length:Int)=3))=false→DvOk 3 ((nd,wr,()),txt,m) (nmW wWrite s)∧k (SV.d Ty.str (toldS (pE ((nd,wr,()),txt,m) (nmW wWrite s)))) [Ob.st 87 [SV.ps 1],Ob.st 66 [SV.ps 2,SV.sf 1 1,SV.os 3,SV.d (I) (pT ((nd,wr,()),txt,m) (nmW wWrite s)).snd.snd],Ob.st 96 [SV.os 4,SV.os 5],Ob.buf 5 (pT ((nd,wr,()),txt,m) (nmW wWrite s)).snd.fst,Ob.row 98 tRow (pT ((nd,wr,()),txt,m) (nmW wWrite s)).fst.fst,Ob.row 3 (I) (pT ((nd,wr,()),txt,m) (nmW wWrite s)).fst.snd.fst]))))∧True)∧True∧True)∧True∧True):=by kernel_rfl
open Go.Vc
set_option linter.unusedVariables false
abbrev vcLnSq1(m:Int)(txt:List UInt8)(nd:List (List (List Va)))(wr:List Int):=[Ob.st 87 [SV.ps 1],Ob.st 66 [SV.ps 2,SV.sf 1 1,SV.os 3,SV.d (I) m],Ob.st 96 [SV.os 4,SV.os 5],Ob.buf 5 txt,Ob.row 98 tRow nd,Ob.row 3 (I) wr]
abbrev vcLnSq2(s:List UInt8):=(0≤(0:Int)∧0<(↑(hdW wSync s).length:Int)∧SV.ra Ty.str (fsW wSync s)=SV.ra Ty.str (fsW wSync s))
theorem vcLnS(v:GV)(nd:List (List (List Va)))(wr:List Int)(txt:List UInt8)(m:Int)(s:List UInt8)(k:SV→List Ob→Prop):vcO ⟨Ev,[(63,cSplitW wSync),(72,cWords)],glU v,[],[(71,oVerbs),(94,oDv 2)]⟩ [joinAll] (Tryz.f44.body.getD .skip) Tryz.f44.ntmps [(.tmp 4,.str)] [.ps 0,.d .str s] (obD ((nd,wr,()),txt,m)) k=(
 SpOk wSync s [(32:UInt8)]∧0≤(0:Int)∧0<(↑(hdW wSync s).length:Int)∧True∧(((vcLnSq2 s)∧fsW wSync s=fsW wSync s∧True)∧(((vcLnSq2 s)∧fsW wSync s=fsW wSync s∧SV.tp [SV.d ((I).pr (Ty.rawf.pr Ty.un)) (vbV 2 94),SV.d Ty.bool (lkB wSync s)]=SV.tp [SV.d ((I).pr (Ty.rawf.pr Ty.un)) (vbV 2 94),SV.d Ty.bool (lkB wSync s)]∧SV.tp [SV.d ((I).pr (Ty.rawf.pr Ty.un)) (vbV 2 94),SV.d Ty.bool (lkB wSync s)]=SV.tp [SV.d ((I).pr (Ty.rawf.pr Ty.un)) (vbV 2 94),SV.d Ty.bool (lkB wSync s)]∧(lkB wSync s)=(lkB wSync s)∧vbV 2 94=vbV 2 94∧True)∧(True∧0≤(1:Int)∧1≤(↑(hdW wSync s).length:Int)∧(↑(hdW wSync s).length:Int)≤(↑(hdW wSync s).length:Int)∧WordsOk (tlW wSync s)∧((!(lkB wSync s))=true→k (SV.d Ty.str [(98:UInt8),97,100]) (vcLnSq1 m txt nd wr))∧((!(lkB wSync s))=false→((!(tlW wSync s).all w7)=true→k (SV.d Ty.str [(98:UInt8),97,100]) (vcLnSq1 m txt nd wr))∧((!(tlW wSync s).all w7)=false→((!decide ((↑(nmW wSync s).length:Int)=2))=true→k (SV.d Ty.str [(98:UInt8),97,100]) (vcLnSq1 m txt nd wr))∧((!decide ((↑(nmW wSync s).length:Int)=2))=false→DvOk 2 ((nd,wr,()),txt,m) (nmW wSync s)∧k (SV.d Ty.str (toldS (pE ((nd,wr,()),txt,m) (nmW wSync s)))) [Ob.st 87 [SV.ps 1],Ob.st 66 [SV.ps 2,SV.sf 1 1,SV.os 3,SV.d (I) (pT ((nd,wr,()),txt,m) (nmW wSync s)).snd.snd],Ob.st 96 [SV.os 4,SV.os 5],Ob.buf 5 (pT ((nd,wr,()),txt,m) (nmW wSync s)).snd.fst,Ob.row 98 tRow (pT ((nd,wr,()),txt,m) (nmW wSync s)).fst.fst,Ob.row 3 (I) (pT ((nd,wr,()),txt,m) (nmW wSync s)).fst.snd.fst]))))∧True)∧True∧True)∧(((vcLnSq2 s)∧fsW wSync s=fsW wSync s∧True)∧(((vcLnSq2 s)∧fsW wSync s=fsW wSync s∧True)∧(True∧0≤(1:Int)∧1≤(↑(hdW wSync s).length:Int)∧(↑(hdW wSync s).length:Int)≤(↑(hdW wSync s).length:Int)∧WordsOk (tlW wSync s)∧((!(lkB wSync s))=true→k (SV.d Ty.str [(98:UInt8),97,100]) (vcLnSq1 m txt nd wr))∧((!(lkB wSync s))=false→((!(tlW wSync s).all w7)=true→k (SV.d Ty.str [(98:UInt8),97,100]) (vcLnSq1 m txt nd wr))∧((!(tlW wSync s).all w7)=false→((!decide ((↑(nmW wSync s).length:Int)=2))=true→k (SV.d Ty.str [(98:UInt8),97,100]) (vcLnSq1 m txt nd wr))∧((!decide ((↑(nmW wSync s).length:Int)=2))=false→DvOk 2 ((nd,wr,()),txt,m) (nmW wSync s)∧k (SV.d Ty.str (toldS (pE ((nd,wr,()),txt,m) (nmW wSync s)))) [Ob.st 87 [SV.ps 1],Ob.st 66 [SV.ps 2,SV.sf 1 1,SV.os 3,SV.d (I) (pT ((nd,wr,()),txt,m) (nmW wSync s)).snd.snd],Ob.st 96 [SV.os 4,SV.os 5],Ob.buf 5 (pT ((nd,wr,()),txt,m) (nmW wSync s)).snd.fst,Ob.row 98 tRow (pT ((nd,wr,()),txt,m) (nmW wSync s)).fst.fst,Ob.row 3 (I) (pT ((nd,wr,()),txt,m) (nmW wSync s)).fst.snd.fst]))))∧True)∧True∧True)∧True∧True):=by kernel_rfl
abbrev vcLnRq1(m:Int)(txt:List UInt8)(nd:List (List (List Va)))(wr:List Int):=[Ob.st 87 [SV.ps 1],Ob.st 66 [SV.ps 2,SV.sf 1 1,SV.os 3,SV.d (I) m],Ob.st 96 [SV.os 4,SV.os 5],Ob.buf 5 txt,Ob.row 98 tRow nd,Ob.row 3 (I) wr]
abbrev vcLnRq2(s:List UInt8):=(0≤(0:Int)∧0<(↑(hdW wRead s).length:Int)∧SV.ra Ty.str (fsW wRead s)=SV.ra Ty.str (fsW wRead s))
theorem vcLnR(v:GV)(nd:List (List (List Va)))(wr:List Int)(txt:List UInt8)(m:Int)(s:List UInt8)(k:SV→List Ob→Prop):vcO ⟨Ev,[(63,cSplitW wRead),(72,cWords)],glU v,[],[(71,oVerbs),(95,oDr)]⟩ [joinAll] (Tryz.f44.body.getD .skip) Tryz.f44.ntmps [(.tmp 4,.str)] [.ps 0,.d .str s] (obD ((nd,wr,()),txt,m)) k=(
 SpOk wRead s [(32:UInt8)]∧0≤(0:Int)∧0<(↑(hdW wRead s).length:Int)∧True∧(((vcLnRq2 s)∧fsW wRead s=fsW wRead s∧True)∧(((vcLnRq2 s)∧fsW wRead s=fsW wRead s∧SV.tp [SV.d ((I).pr (Ty.rawf.pr Ty.un)) (vbV 2 95),SV.d Ty.bool (lkB wRead s)]=SV.tp [SV.d ((I).pr (Ty.rawf.pr Ty.un)) (vbV 2 95),SV.d Ty.bool (lkB wRead s)]∧SV.tp [SV.d ((I).pr (Ty.rawf.pr Ty.un)) (vbV 2 95),SV.d Ty.bool (lkB wRead s)]=SV.tp [SV.d ((I).pr (Ty.rawf.pr Ty.un)) (vbV 2 95),SV.d Ty.bool (lkB wRead s)]∧(lkB wRead s)=(lkB wRead s)∧vbV 2 95=vbV 2 95∧True)∧(True∧0≤(1:Int)∧1≤(↑(hdW wRead s).length:Int)∧(↑(hdW wRead s).length:Int)≤(↑(hdW wRead s).length:Int)∧WordsOk (tlW wRead s)∧((!(lkB wRead s))=true→k (SV.d Ty.str [(98:UInt8),97,100]) (vcLnRq1 m txt nd wr))∧((!(lkB wRead s))=false→((!(tlW wRead s).all w7)=true→k (SV.d Ty.str [(98:UInt8),97,100]) (vcLnRq1 m txt nd wr))∧((!(tlW wRead s).all w7)=false→((!decide ((↑(nmW wRead s).length:Int)=2))=true→k (SV.d Ty.str [(98:UInt8),97,100]) (vcLnRq1 m txt nd wr))∧((!decide ((↑(nmW wRead s).length:Int)=2))=false→RdOk ((nd,wr,()),txt,m) (nmW wRead s)∧k (SV.d Ty.str (rdS ((nd,wr,()),txt,m) (nmW wRead s))) (vcLnRq1 m txt nd wr)))))∧True)∧True∧True)∧(((vcLnRq2 s)∧fsW wRead s=fsW wRead s∧True)∧(((vcLnRq2 s)∧fsW wRead s=fsW wRead s∧True)∧(True∧0≤(1:Int)∧1≤(↑(hdW wRead s).length:Int)∧(↑(hdW wRead s).length:Int)≤(↑(hdW wRead s).length:Int)∧WordsOk (tlW wRead s)∧((!(lkB wRead s))=true→k (SV.d Ty.str [(98:UInt8),97,100]) (vcLnRq1 m txt nd wr))∧((!(lkB wRead s))=false→((!(tlW wRead s).all w7)=true→k (SV.d Ty.str [(98:UInt8),97,100]) (vcLnRq1 m txt nd wr))∧((!(tlW wRead s).all w7)=false→((!decide ((↑(nmW wRead s).length:Int)=2))=true→k (SV.d Ty.str [(98:UInt8),97,100]) (vcLnRq1 m txt nd wr))∧((!decide ((↑(nmW wRead s).length:Int)=2))=false→RdOk ((nd,wr,()),txt,m) (nmW wRead s)∧k (SV.d Ty.str (rdS ((nd,wr,()),txt,m) (nmW wRead s))) (vcLnRq1 m txt nd wr)))))∧True)∧True∧True)∧True∧True):=by kernel_rfl
abbrev vcLnCq1(m:Int)(txt:List UInt8)(nd:List (List (List Va)))(wr:List Int):=[Ob.st 87 [SV.ps 1],Ob.st 66 [SV.ps 2,SV.sf 1 1,SV.os 3,SV.d (I) m],Ob.st 96 [SV.os 4,SV.os 5],Ob.buf 5 txt,Ob.row 98 tRow nd,Ob.row 3 (I) wr]
abbrev vcLnCq2(s:List UInt8):=(0≤(0:Int)∧0<(↑(hdW wCrash s).length:Int)∧SV.ra Ty.str (fsW wCrash s)=SV.ra Ty.str (fsW wCrash s))
theorem vcLnC(v:GV)(nd:List (List (List Va)))(wr:List Int)(txt:List UInt8)(m:Int)(s:List UInt8)(k:SV→List Ob→Prop):vcO ⟨Ev,[(63,cSplitW wCrash),(72,cWords)],glU v,[],[(71,oVerbs),(96,oDc)]⟩ [joinAll] (Tryz.f44.body.getD .skip) Tryz.f44.ntmps [(.tmp 4,.str)] [.ps 0,.d .str s] (obD ((nd,wr,()),txt,m)) k=(
 SpOk wCrash s [(32:UInt8)]∧0≤(0:Int)∧0<(↑(hdW wCrash s).length:Int)∧True∧(((vcLnCq2 s)∧fsW wCrash s=fsW wCrash s∧True)∧(((vcLnCq2 s)∧fsW wCrash s=fsW wCrash s∧SV.tp [SV.d ((I).pr (Ty.rawf.pr Ty.un)) (vbV 1 96),SV.d Ty.bool (lkB wCrash s)]=SV.tp [SV.d ((I).pr (Ty.rawf.pr Ty.un)) (vbV 1 96),SV.d Ty.bool (lkB wCrash s)]∧SV.tp [SV.d ((I).pr (Ty.rawf.pr Ty.un)) (vbV 1 96),SV.d Ty.bool (lkB wCrash s)]=SV.tp [SV.d ((I).pr (Ty.rawf.pr Ty.un)) (vbV 1 96),SV.d Ty.bool (lkB wCrash s)]∧(lkB wCrash s)=(lkB wCrash s)∧vbV 1 96=vbV 1 96∧True)∧(True∧0≤(1:Int)∧1≤(↑(hdW wCrash s).length:Int)∧(↑(hdW wCrash s).length:Int)≤(↑(hdW wCrash s).length:Int)∧WordsOk (tlW wCrash s)∧((!(lkB wCrash s))=true→k (SV.d Ty.str [(98:UInt8),97,100]) (vcLnCq1 m txt nd wr))∧((!(lkB wCrash s))=false→((!(tlW wCrash s).all w7)=true→k (SV.d Ty.str [(98:UInt8),97,100]) (vcLnCq1 m txt nd wr))∧((!(tlW wCrash s).all w7)=false→((!decide ((↑(nmW wCrash s).length:Int)=1))=true→k (SV.d Ty.str [(98:UInt8),97,100]) (vcLnCq1 m txt nd wr))∧((!decide ((↑(nmW wCrash s).length:Int)=1))=false→CrOk ((nd,wr,()),txt,m) (nmW wCrash s)∧k (SV.d Ty.str (crS ((nd,wr,()),txt,m) (nmW wCrash s))) [Ob.st 87 [SV.ps 1],Ob.st 66 [SV.ps 2,SV.sf 1 1,SV.os 3,SV.d (I) (crT ((nd,wr,()),txt,m) (nmW wCrash s)).snd.snd],Ob.st 96 [SV.os 4,SV.os 5],Ob.buf 5 (crT ((nd,wr,()),txt,m) (nmW wCrash s)).snd.fst,Ob.row 98 tRow (crT ((nd,wr,()),txt,m) (nmW wCrash s)).fst.fst,Ob.row 3 (I) (crT ((nd,wr,()),txt,m) (nmW wCrash s)).fst.snd.fst]))))∧True)∧True∧True)∧(((vcLnCq2 s)∧fsW wCrash s=fsW wCrash s∧True)∧(((vcLnCq2 s)∧fsW wCrash s=fsW wCrash s∧True)∧(True∧0≤(1:Int)∧1≤(↑(hdW wCrash s).length:Int)∧(↑(hdW wCrash s).length:Int)≤(↑(hdW wCrash s).length:Int)∧WordsOk (tlW wCrash s)∧((!(lkB wCrash s))=true→k (SV.d Ty.str [(98:UInt8),97,100]) (vcLnCq1 m txt nd wr))∧((!(lkB wCrash s))=false→((!(tlW wCrash s).all w7)=true→k (SV.d Ty.str [(98:UInt8),97,100]) (vcLnCq1 m txt nd wr))∧((!(tlW wCrash s).all w7)=false→((!decide ((↑(nmW wCrash s).length:Int)=1))=true→k (SV.d Ty.str [(98:UInt8),97,100]) (vcLnCq1 m txt nd wr))∧((!decide ((↑(nmW wCrash s).length:Int)=1))=false→CrOk ((nd,wr,()),txt,m) (nmW wCrash s)∧k (SV.d Ty.str (crS ((nd,wr,()),txt,m) (nmW wCrash s))) [Ob.st 87 [SV.ps 1],Ob.st 66 [SV.ps 2,SV.sf 1 1,SV.os 3,SV.d (I) (crT ((nd,wr,()),txt,m) (nmW wCrash s)).snd.snd],Ob.st 96 [SV.os 4,SV.os 5],Ob.buf 5 (crT ((nd,wr,()),txt,m) (nmW wCrash s)).snd.fst,Ob.row 98 tRow (crT ((nd,wr,()),txt,m) (nmW wCrash s)).fst.fst,Ob.row 3 (I) (crT ((nd,wr,()),txt,m) (nmW wCrash s)).fst.snd.fst]))))∧True)∧True∧True)∧True∧True):=by kernel_rfl
open Go.Vc
set_option linter.unusedVariables false
abbrev vcLnXq1(m:Int)(txt:List UInt8)(nd:List (List (List Va)))(wr:List Int):=[Ob.st 87 [SV.ps 1],Ob.st 66 [SV.ps 2,SV.sf 1 1,SV.os 3,SV.d (I) m],Ob.st 96 [SV.os 4,SV.os 5],Ob.buf 5 txt,Ob.row 98 tRow nd,Ob.row 3 (I) wr]
abbrev vcLnXq2(w:List UInt8)(s:List UInt8):=(0≤(0:Int)∧0<(↑(hdW w s).length:Int)∧SV.ra Ty.str (fsW w s)=SV.ra Ty.str (fsW w s))
theorem vcLnX(v:GV)(nd:List (List (List Va)))(wr:List Int)(txt:List UInt8)(m:Int)(s:List UInt8)(w:List UInt8)(k:SV→List Ob→Prop):vcO ⟨Ev,[(63,cSplitW w),(72,cWords)],glU v,[],[(71,oVerbs)]⟩ [joinAll,meetAt 6 Unit [] (fun st _=>St.only st []) (fun _ _=>False)] (Tryz.f44.body.getD .skip) Tryz.f44.ntmps [(.tmp 4,.str)] [.ps 0,.d .str s] (obD ((nd,wr,()),txt,m)) k=(
 SpOk w s [(32:UInt8)]∧0≤(0:Int)∧0<(↑(hdW w s).length:Int)∧True∧(((vcLnXq2 w s)∧fsW w s=fsW w s∧True)∧(((vcLnXq2 w s)∧fsW w s=fsW w s∧SV.tp [SV.d ((I).pr (Ty.rawf.pr Ty.un)) (lkV w s),SV.d Ty.bool (lkB w s)]=SV.tp [SV.d ((I).pr (Ty.rawf.pr Ty.un)) (lkV w s),SV.d Ty.bool (lkB w s)]∧SV.tp [SV.d ((I).pr (Ty.rawf.pr Ty.un)) (lkV w s),SV.d Ty.bool (lkB w s)]=SV.tp [SV.d ((I).pr (Ty.rawf.pr Ty.un)) (lkV w s),SV.d Ty.bool (lkB w s)]∧(lkB w s)=(lkB w s)∧((lkV w s)=lkV w s)∧True)∧(True∧0≤(1:Int)∧1≤(↑(hdW w s).length:Int)∧(↑(hdW w s).length:Int)≤(↑(hdW w s).length:Int)∧WordsOk (tlW w s)∧(((!(lkB w s))=true→k (SV.d Ty.str [(98:UInt8),97,100]) (vcLnXq1 m txt nd wr))∧((!(lkB w s))=false→((!(tlW w s).all w7)=true→k (SV.d Ty.str [(98:UInt8),97,100]) (vcLnXq1 m txt nd wr))∧((!(tlW w s).all w7)=false→((!decide ((↑(nmW w s).length:Int)=(lkV w s).fst))=true→k (SV.d Ty.str [(98:UInt8),97,100]) (vcLnXq1 m txt nd wr))∧((!decide ((↑(nmW w s).length:Int)=(lkV w s).fst))=false→∃ (x:Unit),False∧True∧((True∧True)∧(True∧True∧True∧m=m∧True)∧(True∧True∧True)∧txt=txt∧(98=98∧nd=nd)∧(3=3∧wr=wr)∧(1000000007=1000000007∧verbsL=verbsL)∧(119=119∧(lkV w s)=lkV w s)∧True)∧True∧s=s∧hdE=hdE∧Lib.pow10Tab=Lib.pow10Tab∧Value.int IntKind.i64 v.m=Value.int IntKind.i64 v.m∧Value.iface v.t1 v.p1=Value.iface v.t1 v.p1∧Value.iface v.t2 v.p2=Value.iface v.t2 v.p2∧True))))∧∀ (x:Unit),False→False)∧True)∧True∧True)∧(((vcLnXq2 w s)∧fsW w s=fsW w s∧True)∧(((vcLnXq2 w s)∧fsW w s=fsW w s∧True)∧(True∧0≤(1:Int)∧1≤(↑(hdW w s).length:Int)∧(↑(hdW w s).length:Int)≤(↑(hdW w s).length:Int)∧WordsOk (tlW w s)∧(((!(lkB w s))=true→k (SV.d Ty.str [(98:UInt8),97,100]) (vcLnXq1 m txt nd wr))∧((!(lkB w s))=false→((!(tlW w s).all w7)=true→k (SV.d Ty.str [(98:UInt8),97,100]) (vcLnXq1 m txt nd wr))∧((!(tlW w s).all w7)=false→((!decide ((↑(nmW w s).length:Int)=(lkV w s).fst))=true→k (SV.d Ty.str [(98:UInt8),97,100]) (vcLnXq1 m txt nd wr))∧((!decide ((↑(nmW w s).length:Int)=(lkV w s).fst))=false→∃ (x:Unit),False∧True∧((True∧True)∧(True∧True∧True∧m=m∧True)∧(True∧True∧True)∧txt=txt∧(98=98∧nd=nd)∧(3=3∧wr=wr)∧(119=119∧(lkV w s)=lkV w s)∧(1000000007=1000000007∧verbsL=verbsL)∧True)∧True∧s=s∧hdE=hdE∧Lib.pow10Tab=Lib.pow10Tab∧Value.int IntKind.i64 v.m=Value.int IntKind.i64 v.m∧Value.iface v.t1 v.p1=Value.iface v.t1 v.p1∧Value.iface v.t2 v.p2=Value.iface v.t2 v.p2∧True))))∧∀ (x:Unit),False→False)∧True)∧True∧True)∧True∧True):=by kernel_rfl
open Go.Vc Go.Proofs Go.RowKit
theorem cut32(s:List UInt8):cutL s 32=lnW s:=by
 have:=cut_spl s 32
 rw[show (((32:UInt8).toNat:Nat):Int)=32 from rfl] at this
 exact this
theorem okSplitW(v:GV)(w:List UInt8):PlainOk Tryz.prog (glM v) 63 (cSplitW w):=by
 intro ds k hs
 refine okSplit v ds k ?_
 obtain⟨hp,hk⟩:=hs
 obtain⟨s,c,rfl,hs⟩:=dest2 hp
 have hk:k [⟨.sl .str,w::(lnW s).drop 1⟩]:=hk
 refine⟨⟨hs.le,hs.sep⟩,?_⟩
 show k [⟨.sl .str,cutL s 32⟩]
 rw[cut32,hs.hd];exact hk
open Go.Vc Go.Proofs Go.RowKit
def lnS(b:BS)(s:List UInt8):List UInt8 :=
 if lnOk s=false then badS else if (lnW s).getD 0 []=wWrite∧(lnN s).length=3 then toldS (pE b (lnN s)) else if (lnW s).getD 0 []=wSync∧(lnN s).length=2 then toldS (pE b (lnN s))
 else if (lnW s).getD 0 []=wRead∧(lnN s).length=2 then rdS b (lnN s) else if (lnW s).getD 0 []=wCrash∧(lnN s).length=1 then crS b (lnN s) else badS
def lnT(b:BS)(s:List UInt8):BS :=
 if lnOk s=false then b else if (lnW s).getD 0 []=wWrite∧(lnN s).length=3 then pT b (lnN s) else if (lnW s).getD 0 []=wSync∧(lnN s).length=2 then pT b (lnN s)
 else if (lnW s).getD 0 []=wCrash∧(lnN s).length=1 then crT b (lnN s) else b
structure LnOk(b:BS)(s:List UInt8):Prop where
 inv:BInv 3 b
 le:s.length≤4000
def oLnW(w:List UInt8):OCtr:=fun args ob k=>match args,ob with
 | [.ps 0,.d .str s],[.st 87 [.ps 1],.st 66 [.ps 2,.sf 1 1,.os 3,.d (.int .i64) m],.st 96 [.os 4,.os 5],.buf 5 txt,.row 98 (.ar 4 (.sl (.pr (.sl (.int .i64)) (.pr (.int .i64) .un)))) nodes,.row 3 (.int .i64) wrote] =>
  (LnOk ((nodes,wrote,()),txt,m) s∧lnW s=w::(lnW s).drop 1)∧k (.d .str (lnS ((nodes,wrote,()),txt,m) s)) (obD (lnT ((nodes,wrote,()),txt,m) s))
 | _,_=>False
def oLine:OCtr:=fun args ob k=>match args,ob with
 | [.ps 0,.d .str s],[.st 87 [.ps 1],.st 66 [.ps 2,.sf 1 1,.os 3,.d (.int .i64) m],.st 96 [.os 4,.os 5],.buf 5 txt,.row 98 (.ar 4 (.sl (.pr (.sl (.int .i64)) (.pr (.int .i64) .un)))) nodes,.row 3 (.int .i64) wrote] =>
  LnOk ((nodes,wrote,()),txt,m) s∧k (.d .str (lnS ((nodes,wrote,()),txt,m) s)) (obD (lnT ((nodes,wrote,()),txt,m) s))
 | _,_=>False
open Go.Vc Go.Proofs Go.RowKit
theorem glU_M{v:GV}:∀ x∈glM v,x∈glU v:=fun x h=>glU_O x (glO_M x h)
theorem tlW_eq(w s:List UInt8):tlW w s=(lnW s).drop 1:=by
 unfold tlW
 rw[Int.toNat_natCast,List.take_length];rfl
theorem atN_k(s:List UInt8)(h:numB s=true):inK .i64 (atN s)∧0≤atN s:=by
 rw[at_num h]
 obtain⟨m,hm,e⟩:=(numB_iff s).1 h
 rw[e,(numB_dec hm).2]
 exact⟨inK_i64.2 (by omega),by omega⟩
theorem nmW_ok{w s:List UInt8}(h:lnOk s=true):nmW w s=lnN s∧∀ x∈lnN s,inK .i64 x∧0≤x:=by
 unfold nmW
 rw[tlW_eq]
 refine⟨if_pos h,fun x hx => ?_⟩
 obtain⟨y,hy,rfl⟩:=List.mem_map.1 hx
 have:=List.all_eq_true.1 h y hy
 unfold w7 at this
 simp only[Bool.and_eq_true] at this
 exact atN_k y this.1
theorem ln_words{s:List UInt8}(h:s.length≤4000):WordsOk ((lnW s).drop 1):=by
 refine⟨fun x hx => ?_,?_⟩
 ·have:=splL_le 32 s x (List.mem_of_mem_drop hx)
  omega
 ·have h1:=splL_len 32 s
  have h2:s.count 32≤s.length:=List.count_le_length
  rw[List.length_drop]
  unfold lnW;omega
open Go.Vc Go.Proofs Go.RowKit
theorem ownLnWrite(v:GV):OwnOk Tryz.prog (glU v) 44 (oLnW wWrite):=by
 refine own_of (CxOk.mk' Ev_ok (by kernel_rfl) mixed (gl:=glU v) (GOk.cons (PlainOk.sub' glU_M (okSplitW v wWrite)) Tryz.func63 (by kernel_rfl) (by kernel_rfl) (GOk.cons (PlainOk.sub' glU_O (okWords v)) Tryz.func72 (by kernel_rfl) (by kernel_rfl) GOk.nil)) (GoOk.cons (ownVerbs v) Tryz.func71 (by kernel_rfl) (by kernel_rfl) (GoOk.cons (ownD3 v) Tryz.func93 (by kernel_rfl) (by kernel_rfl) GoOk.nil)) noIt) Tryz.func44 (c:=Tryz.f44.body.getD .skip) (rvs:=[(.tmp 4,.str)]) (by kernel_rfl) (by kernel_rfl) (by kernel_rfl) ?_
 intro args ob k h hwa hwo
 unfold oLnW at h
 split at h
 ·rename_i s m txt nd wr
  obtain⟨⟨hO,hw⟩,hk⟩:=h
  refine⟨[joinAll],?_⟩
  show vcO _ _ _ _ _ [.ps 0,.d .str s] (obD ((nd,wr,()),txt,m)) k
  rw[vcLnW]
  unfold vcLnWq2 vcLnWq1
  have hsp:SpOk wWrite s [32]:=⟨Nat.le_trans hO.le (by decide),rfl,hw⟩
  have hh:(lnW s).getD 0 []=wWrite:=by rw[hw];rfl
  have hlk:lkB wWrite s=true:=rfl
  have hwo:WordsOk (tlW wWrite s):=by rw[tlW_eq];exact ln_words hO.le
  have hl1:(1:Int)≤((hdW wWrite s).length:Int):=by unfold hdW;rw[List.length_cons];omega
  have hall:(tlW wWrite s).all w7=lnOk s:=by rw[tlW_eq];rfl
  have hbad:lnOk s=false∨(lnN s).length≠3→k (.d .str badS) (obD ((nd,wr,()),txt,m)):=by
   intro h
   have e1:lnS ((nd,wr,()),txt,m) s=badS:=by
    unfold lnS
    by_cases h0:lnOk s=false
    ·rw[if_pos h0]
    ·rw[if_neg h0,hh,if_neg (fun x=>(h.resolve_left h0) x.2),if_neg (fun x=>absurd x.1 (by decide)),if_neg (fun x=>absurd x.1 (by decide)),if_neg (fun x=>absurd x.1 (by decide))]
   have e2:lnT ((nd,wr,()),txt,m) s=((nd,wr,()),txt,m):=by
    unfold lnT
    by_cases h0:lnOk s=false
    ·rw[if_pos h0]
    ·rw[if_neg h0,hh,if_neg (fun x=>(h.resolve_left h0) x.2),if_neg (fun x=>absurd x.1 (by decide)),if_neg (fun x=>absurd x.1 (by decide))]
   rw[e1,e2] at hk;exact hk
  simp only[hlk,hall,hsp,hwo,hl1,true_and,and_true,and_self,Bool.not_true,Bool.false_eq_true,false_implies,forall_const,Int.le_refl,Bool.not_eq_true',Bool.not_eq_false',decide_eq_false_iff_not,decide_eq_true_eq]
  refine⟨by omega,by omega,by omega,by decide,fun h=>hbad (.inl h),fun h=>⟨fun h3 => ?_,fun h3 => ?_⟩⟩
  ·obtain⟨hn,_⟩:=nmW_ok (w:=wWrite) h
   rw[hn] at h3
   exact hbad (.inr (by omega))
  ·obtain⟨hn,hkk⟩:=nmW_ok (w:=wWrite) h
   rw[hn] at h3 ⊢
   have h3':(lnN s).length=3:=by omega
   have e1:lnS ((nd,wr,()),txt,m) s=toldS (pE ((nd,wr,()),txt,m) (lnN s)):=by
    unfold lnS;rw[if_neg (by rw[h];decide),if_pos ⟨hh,h3'⟩]
   have e2:lnT ((nd,wr,()),txt,m) s=pT ((nd,wr,()),txt,m) (lnN s):=by
    unfold lnT;rw[if_neg (by rw[h];decide),if_pos ⟨hh,h3'⟩]
   rw[e1,e2] at hk
   exact⟨⟨hO.inv.ok,h3',fun x hx=>(hkk x hx).1⟩,hk⟩
 ·exact h.elim
open Go.Vc Go.Proofs Go.RowKit
theorem ownLnSync(v:GV):OwnOk Tryz.prog (glU v) 44 (oLnW wSync):=by
 refine own_of (CxOk.mk' Ev_ok (by kernel_rfl) mixed (gl:=glU v) (GOk.cons (PlainOk.sub' glU_M (okSplitW v wSync)) Tryz.func63 (by kernel_rfl) (by kernel_rfl) (GOk.cons (PlainOk.sub' glU_O (okWords v)) Tryz.func72 (by kernel_rfl) (by kernel_rfl) GOk.nil)) (GoOk.cons (ownVerbs v) Tryz.func71 (by kernel_rfl) (by kernel_rfl) (GoOk.cons (ownD2 v) Tryz.func94 (by kernel_rfl) (by kernel_rfl) GoOk.nil)) noIt) Tryz.func44 (c:=Tryz.f44.body.getD .skip) (rvs:=[(.tmp 4,.str)]) (by kernel_rfl) (by kernel_rfl) (by kernel_rfl) ?_
 intro args ob k h hwa hwo
 unfold oLnW at h
 split at h
 ·rename_i s m txt nd wr
  obtain⟨⟨hO,hw⟩,hk⟩:=h
  refine⟨[joinAll],?_⟩
  show vcO _ _ _ _ _ [.ps 0,.d .str s] (obD ((nd,wr,()),txt,m)) k
  rw[vcLnS]
  unfold vcLnSq2 vcLnSq1
  have hsp:SpOk wSync s [32]:=⟨Nat.le_trans hO.le (by decide),rfl,hw⟩
  have hh:(lnW s).getD 0 []=wSync:=by rw[hw];rfl
  have hlk:lkB wSync s=true:=rfl
  have hwo:WordsOk (tlW wSync s):=by rw[tlW_eq];exact ln_words hO.le
  have hl1:(1:Int)≤((hdW wSync s).length:Int):=by unfold hdW;rw[List.length_cons];omega
  have hall:(tlW wSync s).all w7=lnOk s:=by rw[tlW_eq];rfl
  have hbad:lnOk s=false∨(lnN s).length≠2→k (.d .str badS) (obD ((nd,wr,()),txt,m)):=by
   intro h
   have e1:lnS ((nd,wr,()),txt,m) s=badS:=by
    unfold lnS
    by_cases h0:lnOk s=false
    ·rw[if_pos h0]
    ·rw[if_neg h0,hh,if_neg (fun x=>absurd x.1 (by decide)),if_neg (fun x=>(h.resolve_left h0) x.2),if_neg (fun x=>absurd x.1 (by decide)),if_neg (fun x=>absurd x.1 (by decide))]
   have e2:lnT ((nd,wr,()),txt,m) s=((nd,wr,()),txt,m):=by
    unfold lnT
    by_cases h0:lnOk s=false
    ·rw[if_pos h0]
    ·rw[if_neg h0,hh,if_neg (fun x=>absurd x.1 (by decide)),if_neg (fun x=>(h.resolve_left h0) x.2),if_neg (fun x=>absurd x.1 (by decide))]
   rw[e1,e2] at hk;exact hk
  simp only[hlk,hall,hsp,hwo,hl1,true_and,and_true,and_self,Bool.not_true,Bool.false_eq_true,false_implies,forall_const,Int.le_refl,Bool.not_eq_true',Bool.not_eq_false',decide_eq_false_iff_not,decide_eq_true_eq]
  refine⟨by omega,by omega,by omega,by decide,fun h=>hbad (.inl h),fun h=>⟨fun h3 => ?_,fun h3 => ?_⟩⟩
  ·obtain⟨hn,_⟩:=nmW_ok (w:=wSync) h
   rw[hn] at h3
   exact hbad (.inr (by omega))
  ·obtain⟨hn,hkk⟩:=nmW_ok (w:=wSync) h
   rw[hn] at h3 ⊢
   have h3':(lnN s).length=2:=by omega
   have e1:lnS ((nd,wr,()),txt,m) s=toldS (pE ((nd,wr,()),txt,m) (lnN s)):=by
    unfold lnS;rw[if_neg (by rw[h];decide),hh,if_neg (fun x=>absurd x.1 (by decide)),if_pos ⟨rfl,h3'⟩]
   have e2:lnT ((nd,wr,()),txt,m) s=pT ((nd,wr,()),txt,m) (lnN s):=by
    unfold lnT;rw[if_neg (by rw[h];decide),hh,if_neg (fun x=>absurd x.1 (by decide)),if_pos ⟨rfl,h3'⟩]
   rw[e1,e2] at hk
   exact⟨⟨hO.inv.ok,h3',fun x hx=>(hkk x hx).1⟩,hk⟩
 ·exact h.elim
open Go.Vc Go.Proofs Go.RowKit
theorem vAt_mem2{t:Net}{i j:Nat}{v:Va}(h:v∈vAt t i j):∃ r∈t.1,∃ l∈r,v∈l:=by
 rcases vAt_mem (t:=t) (i:=i) (j:=j) with ⟨r,hr,hl⟩ | h0
 ·exact⟨r,hr,_,hl,h⟩
 ·rw[h0] at h;cases h
theorem rd_ok{b:BS}{l:List Int}(hI:BInv 3 b)(hl:l.length=2)(hw:∀ v∈rdV b l,inK .i64 v.2.1):RdOk b l:=by
 refine⟨hI.nlen,hl,hw,?_⟩
 obtain⟨H,x,I,R⟩:=hI
 have hf:=I.few (l.getD 0 0).toNat (l.getD 1 0).toNat
 unfold rdV readF
 split
 ·exact Nat.le_trans hf (by decide)
 ·exact Nat.zero_le _
theorem rd_wf{nd:List (List (List Va))}{wr:List Int}{txt:List UInt8}{m:Int}(h:∀ x∈nd,Ty.wf tRow x)(l:List Int):∀ v∈rdV ((nd,wr,()),txt,m) l,inK .i64 v.2.1:=by
 intro v hv
 unfold rdV readF at hv
 split at hv
 ·obtain⟨r,hr,a,ha,hva⟩:=vAt_mem2 (t:=(nd,wr,())) (i:=(l.getD 0 0).toNat) (j:=(l.getD 1 0).toNat) hv
  have h1:r∈nd:=hr
  have h2:r.length=4∧∀ y∈r,Ty.wf (.sl tV) y:=h r h1
  exact ((h2.2 a ha).2 v hva).2.1
 ·cases hv
theorem pE_k2(b:BS)(s:List UInt8):inK .i64 (pLE b s):=by
 unfold pLE
 split
 ·exact pE_in _ _
 ·unfold badL
  repeat' split
  all_goals exact inK_i64.2 ⟨by decide,by decide⟩
theorem poE_k{n:Int}(hb:inB n 1 5=true)(w:List (List UInt8)):∀ f k,inK .i64 (poE n w k f).2.1∧inK .i64 (poE n w k f).2.2
 | 0,k=>by
  have h:=(BInv.lines hb w k).ok
  have h1:=h.lo;have h2:=h.hi
  exact⟨inK_i64.2 ⟨by show _≤(poB n w k).2.2;omega,by show (poB n w k).2.2≤_;omega⟩,inK_i64.2 ⟨(by decide:(-9223372036854775808:Int)≤0),(by decide:(0:Int)≤9223372036854775807)⟩⟩
 | f+1,k=>by
  have h:=(BInv.lines hb w k).ok
  have h1:=h.lo;have h2:=h.hi
  have e:poE n w k (f+1)=if pLE (poB n w k) (w.getD k [])=0 then poE n w (k+1) f else (poB n w k,(poB n w k).2.2+1,pLE (poB n w k) (w.getD k [])):=rfl
  rw[e]
  split
  ·exact poE_k hb w f (k+1)
  ·exact⟨inK_i64.2 ⟨by show _≤(poB n w k).2.2+1;omega,by show (poB n w k).2.2+1≤_;omega⟩,pE_k2 _ _⟩
theorem cr_ok{b:BS}{l:List Int}(hI:BInv 3 b)(hl:l.length=1)(hk:∀ v∈l,inK .i64 v∧0≤v):CrOk b l:=by
 have ht:=hI.txt
 have hb:inB 3 1 5=true:=by decide
 refine⟨⟨?_,fun i _ _=>(BInv.lines hb _ i).ok⟩,hl,hk,by omega,poE_k hb _ _ _⟩
 rw[List.length_take];omega
theorem ownLnRead(v:GV):OwnOk Tryz.prog (glU v) 44 (oLnW wRead):=by
 refine own_of (CxOk.mk' Ev_ok (by kernel_rfl) mixed (gl:=glU v) (GOk.cons (PlainOk.sub' glU_M (okSplitW v wRead)) Tryz.func63 (by kernel_rfl) (by kernel_rfl) (GOk.cons (PlainOk.sub' glU_O (okWords v)) Tryz.func72 (by kernel_rfl) (by kernel_rfl) GOk.nil)) (GoOk.cons (ownVerbs v) Tryz.func71 (by kernel_rfl) (by kernel_rfl) (GoOk.cons (ownDr v) Tryz.func95 (by kernel_rfl) (by kernel_rfl) GoOk.nil)) noIt) Tryz.func44 (c:=Tryz.f44.body.getD .skip) (rvs:=[(.tmp 4,.str)]) (by kernel_rfl) (by kernel_rfl) (by kernel_rfl) ?_
 intro args ob k h hwa hwo
 unfold oLnW at h
 split at h
 ·rename_i s m txt nd wr
  obtain⟨⟨hO,hw⟩,hk⟩:=h
  refine⟨[joinAll],?_⟩
  show vcO _ _ _ _ _ [.ps 0,.d .str s] (obD ((nd,wr,()),txt,m)) k
  rw[vcLnR]
  unfold vcLnRq2 vcLnRq1
  have hsp:SpOk wRead s [32]:=⟨Nat.le_trans hO.le (by decide),rfl,hw⟩
  have hh:(lnW s).getD 0 []=wRead:=by rw[hw];rfl
  have hlk:lkB wRead s=true:=rfl
  have hwo2:WordsOk (tlW wRead s):=by rw[tlW_eq];exact ln_words hO.le
  have hl1:(1:Int)≤((hdW wRead s).length:Int):=by unfold hdW;rw[List.length_cons];omega
  have hall:(tlW wRead s).all w7=lnOk s:=by rw[tlW_eq];rfl
  have hbad:lnOk s=false∨(lnN s).length≠2→k (.d .str badS) (obD ((nd,wr,()),txt,m)):=by
   intro h
   have e1:lnS ((nd,wr,()),txt,m) s=badS:=by
    unfold lnS
    by_cases h0:lnOk s=false
    ·rw[if_pos h0]
    ·rw[if_neg h0,hh,if_neg (fun x=>absurd x.1 (by decide)),if_neg (fun x=>absurd x.1 (by decide)),if_neg (fun x=>(h.resolve_left h0) x.2),if_neg (fun x=>absurd x.1 (by decide))]
   have e2:lnT ((nd,wr,()),txt,m) s=((nd,wr,()),txt,m):=by
    unfold lnT
    by_cases h0:lnOk s=false
    ·rw[if_pos h0]
    ·rw[if_neg h0,hh,if_neg (fun x=>absurd x.1 (by decide)),if_neg (fun x=>absurd x.1 (by decide)),if_neg (fun x=>absurd x.1 (by decide))]
   rw[e1,e2] at hk;exact hk
  simp only[hlk,hall,hsp,hwo2,hl1,true_and,and_true,and_self,Bool.not_true,Bool.false_eq_true,false_implies,forall_const,Int.le_refl,Bool.not_eq_true',Bool.not_eq_false',decide_eq_false_iff_not,decide_eq_true_eq]
  refine⟨by omega,by omega,by omega,by decide,fun h=>hbad (.inl h),fun h=>⟨fun h3 => ?_,fun h3 => ?_⟩⟩
  ·obtain⟨hn,_⟩:=nmW_ok (w:=wRead) h
   rw[hn] at h3
   exact hbad (.inr (by omega))
  ·obtain⟨hn,hkk⟩:=nmW_ok (w:=wRead) h
   rw[hn] at h3 ⊢
   have h3':(lnN s).length=2:=by omega
   have e1:lnS ((nd,wr,()),txt,m) s=rdS ((nd,wr,()),txt,m) (lnN s):=by
    unfold lnS;rw[if_neg (by rw[h];decide),hh,if_neg (fun x=>absurd x.1 (by decide)),if_neg (fun x=>absurd x.1 (by decide)),if_pos ⟨rfl,h3'⟩]
   have e2:lnT ((nd,wr,()),txt,m) s=((nd,wr,()),txt,m):=by
    unfold lnT;rw[if_neg (by rw[h];decide),hh,if_neg (fun x=>absurd x.1 (by decide)),if_neg (fun x=>absurd x.1 (by decide)),if_neg (fun x=>absurd x.1 (by decide))]
   rw[e1,e2] at hk
   exact⟨rd_ok hO.inv h3' (rd_wf (hwo (.row 98 tRow nd) (by simp)) _),hk⟩
 ·exact h.elim
theorem ownLnCrash(v:GV):OwnOk Tryz.prog (glU v) 44 (oLnW wCrash):=by
 refine own_of (CxOk.mk' Ev_ok (by kernel_rfl) mixed (gl:=glU v) (GOk.cons (PlainOk.sub' glU_M (okSplitW v wCrash)) Tryz.func63 (by kernel_rfl) (by kernel_rfl) (GOk.cons (PlainOk.sub' glU_O (okWords v)) Tryz.func72 (by kernel_rfl) (by kernel_rfl) GOk.nil)) (GoOk.cons (ownVerbs v) Tryz.func71 (by kernel_rfl) (by kernel_rfl) (GoOk.cons (ownDc v) Tryz.func96 (by kernel_rfl) (by kernel_rfl) GoOk.nil)) noIt) Tryz.func44 (c:=Tryz.f44.body.getD .skip) (rvs:=[(.tmp 4,.str)]) (by kernel_rfl) (by kernel_rfl) (by kernel_rfl) ?_
 intro args ob k h hwa hwo
 unfold oLnW at h
 split at h
 ·rename_i s m txt nd wr
  obtain⟨⟨hO,hw⟩,hk⟩:=h
  refine⟨[joinAll],?_⟩
  show vcO _ _ _ _ _ [.ps 0,.d .str s] (obD ((nd,wr,()),txt,m)) k
  rw[vcLnC]
  unfold vcLnCq2 vcLnCq1
  have hsp:SpOk wCrash s [32]:=⟨Nat.le_trans hO.le (by decide),rfl,hw⟩
  have hh:(lnW s).getD 0 []=wCrash:=by rw[hw];rfl
  have hlk:lkB wCrash s=true:=rfl
  have hwo2:WordsOk (tlW wCrash s):=by rw[tlW_eq];exact ln_words hO.le
  have hl1:(1:Int)≤((hdW wCrash s).length:Int):=by unfold hdW;rw[List.length_cons];omega
  have hall:(tlW wCrash s).all w7=lnOk s:=by rw[tlW_eq];rfl
  have hbad:lnOk s=false∨(lnN s).length≠1→k (.d .str badS) (obD ((nd,wr,()),txt,m)):=by
   intro h
   have e1:lnS ((nd,wr,()),txt,m) s=badS:=by
    unfold lnS
    by_cases h0:lnOk s=false
    ·rw[if_pos h0]
    ·rw[if_neg h0,hh,if_neg (fun x=>absurd x.1 (by decide)),if_neg (fun x=>absurd x.1 (by decide)),if_neg (fun x=>absurd x.1 (by decide)),if_neg (fun x=>(h.resolve_left h0) x.2)]
   have e2:lnT ((nd,wr,()),txt,m) s=((nd,wr,()),txt,m):=by
    unfold lnT
    by_cases h0:lnOk s=false
    ·rw[if_pos h0]
    ·rw[if_neg h0,hh,if_neg (fun x=>absurd x.1 (by decide)),if_neg (fun x=>absurd x.1 (by decide)),if_neg (fun x=>(h.resolve_left h0) x.2)]
   rw[e1,e2] at hk;exact hk
  simp only[hlk,hall,hsp,hwo2,hl1,true_and,and_true,and_self,Bool.not_true,Bool.false_eq_true,false_implies,forall_const,Int.le_refl,Bool.not_eq_true',Bool.not_eq_false',decide_eq_false_iff_not,decide_eq_true_eq]
  refine⟨by omega,by omega,by omega,by decide,fun h=>hbad (.inl h),fun h=>⟨fun h3 => ?_,fun h3 => ?_⟩⟩
  ·obtain⟨hn,_⟩:=nmW_ok (w:=wCrash) h
   rw[hn] at h3
   exact hbad (.inr (by omega))
  ·obtain⟨hn,hkk⟩:=nmW_ok (w:=wCrash) h
   rw[hn] at h3 ⊢
   have h3':(lnN s).length=1:=by omega
   have e1:lnS ((nd,wr,()),txt,m) s=crS ((nd,wr,()),txt,m) (lnN s):=by
    unfold lnS;rw[if_neg (by rw[h];decide),hh,if_neg (fun x=>absurd x.1 (by decide)),if_neg (fun x=>absurd x.1 (by decide)),if_neg (fun x=>absurd x.1 (by decide)),if_pos ⟨rfl,h3'⟩]
   have e2:lnT ((nd,wr,()),txt,m) s=crT ((nd,wr,()),txt,m) (lnN s):=by
    unfold lnT;rw[if_neg (by rw[h];decide),hh,if_neg (fun x=>absurd x.1 (by decide)),if_neg (fun x=>absurd x.1 (by decide)),if_pos ⟨rfl,h3'⟩]
   rw[e1,e2] at hk
   exact⟨cr_ok hO.inv h3' hkk,hk⟩
 ·exact h.elim
open Go.Vc Go.Proofs Go.RowKit
theorem lk_none{w s:List UInt8}(h1:w≠wWrite)(h2:w≠wSync)(h3:w≠wRead)(h4:w≠wCrash):lkB w s=false:=by
 have hf:fsW w s=w:=rfl
 have key:∀ u:List UInt8,w≠u→¬ sInts u=sInts w:=fun u hu e=>hu (ofNat_inj e).symm
 have hv:verbsL=[(sInts wWrite,vbV 3 93),(sInts wSync,vbV 2 94),(sInts wRead,vbV 2 95),(sInts wCrash,vbV 1 96)]:=rfl
 unfold lkB
 rw[hf,hv]
 simp only[mpGet]
 rw[if_neg (key _ h1),if_neg (key _ h2),if_neg (key _ h3),if_neg (key _ h4)];rfl
theorem ownLnX(v:GV)(w:List UInt8)(h1:w≠wWrite)(h2:w≠wSync)(h3:w≠wRead)(h4:w≠wCrash):OwnOk Tryz.prog (glU v) 44 (oLnW w):=by
 refine own_of (CxOk.mk' Ev_ok (by kernel_rfl) mixed (gl:=glU v) (GOk.cons (PlainOk.sub' glU_M (okSplitW v w)) Tryz.func63 (by kernel_rfl) (by kernel_rfl) (GOk.cons (PlainOk.sub' glU_O (okWords v)) Tryz.func72 (by kernel_rfl) (by kernel_rfl) GOk.nil)) (GoOk.cons (ownVerbs v) Tryz.func71 (by kernel_rfl) (by kernel_rfl) GoOk.nil) noIt) Tryz.func44 (c:=Tryz.f44.body.getD .skip) (rvs:=[(.tmp 4,.str)]) (by kernel_rfl) (by kernel_rfl) (by kernel_rfl) ?_
 intro args ob k h hwa hwo
 unfold oLnW at h
 split at h
 ·rename_i s m txt nd wr
  obtain⟨⟨hO,hw⟩,hk⟩:=h
  refine⟨[joinAll,meetAt 6 Unit [] (fun st _=>St.only st []) (fun _ _=>False)],?_⟩
  show vcO _ _ _ _ _ [.ps 0,.d .str s] (obD ((nd,wr,()),txt,m)) k
  rw[vcLnX]
  unfold vcLnXq2 vcLnXq1
  have hsp:SpOk w s [32]:=⟨Nat.le_trans hO.le (by decide),rfl,hw⟩
  have hh:(lnW s).getD 0 []=w:=by rw[hw];rfl
  have hlk:lkB w s=false:=lk_none h1 h2 h3 h4
  have hwo2:WordsOk (tlW w s):=by rw[tlW_eq];exact ln_words hO.le
  have hl1:(1:Int)≤((hdW w s).length:Int):=by unfold hdW;rw[List.length_cons];omega
  have e1:lnS ((nd,wr,()),txt,m) s=badS:=by
   unfold lnS
   rw[hh]
   by_cases h0:lnOk s=false
   ·rw[if_pos h0]
   ·rw[if_neg h0,if_neg (fun x=>h1 x.1),if_neg (fun x=>h2 x.1),if_neg (fun x=>h3 x.1),if_neg (fun x=>h4 x.1)]
  have e2:lnT ((nd,wr,()),txt,m) s=((nd,wr,()),txt,m):=by
   unfold lnT
   rw[hh]
   by_cases h0:lnOk s=false
   ·rw[if_pos h0]
   ·rw[if_neg h0,if_neg (fun x=>h1 x.1),if_neg (fun x=>h2 x.1),if_neg (fun x=>h4 x.1)]
  rw[e1,e2] at hk
  simp only[hlk,hsp,hwo2,hl1,true_and,and_true,and_self,Bool.not_false,Bool.not_true,Bool.true_eq_false,false_implies,forall_const,implies_true,Int.le_refl]
  exact⟨by omega,by omega,by omega,by decide,hk⟩
 ·exact h.elim
theorem lnW_ne(s:List UInt8):lnW s=(lnW s).getD 0 []::(lnW s).drop 1:=by
 obtain⟨p,q,e⟩:=splL_ne 32 s
 unfold lnW
 rw[e];rfl
theorem oLn_of{P:Program}{gl:List (Nat×Dat)}{f:FuncId}(h:∀ w,OwnOk P gl f (oLnW w)):OwnOk P gl f oLine:=by
 intro args ob k hs
 unfold oLine at hs
 split at hs
 ·rename_i s m txt nd wr
  exact h ((lnW s).getD 0 []) _ _ k ⟨⟨hs.1,lnW_ne s⟩,hs.2⟩
 ·exact hs.elim
theorem ownLine(v:GV):OwnOk Tryz.prog (glU v) 44 oLine:=by
 refine oLn_of fun w => ?_
 by_cases h1:w=wWrite
 ·rw[h1];exact ownLnWrite v
 by_cases h2:w=wSync
 ·rw[h2];exact ownLnSync v
 by_cases h3:w=wRead
 ·rw[h3];exact ownLnRead v
 by_cases h4:w=wCrash
 ·rw[h4];exact ownLnCrash v
 exact ownLnX v w h1 h2 h3 h4
open Go.Vc Go.Proofs Go.RowKit
def Rl(n:Nat)(b:BS)(x:RB):Prop:=∃ H,NInv n (fun _ _=>True) H b.1∧BRel n b x
theorem pE_rel{n:Nat}{b:BS}{x:RB}(h:Rl n b x){l:List Int}(hl:l.length=3∨l.length=2):rPE x l=pE b l:=by
 obtain⟨H,I,R⟩:=h
 unfold pE
 by_cases h3:l.length=3
 ·rw[if_pos h3];exact BRel.err3 I R h3
 ·rw[if_neg h3];exact BRel.err2 I R (by omega)
theorem line_rel{n:Nat}{b:BS}{x:RB}(h:Rl n b x)(s:List UInt8):rLE x s=pLE b s∧Rl n (pLT b s) (rLT x s):=by
 unfold rLE pLE pLT rLT
 by_cases hb:badL s=0
 ·rw[if_pos hb,if_pos hb,if_pos hb,if_pos hb]
  have hl:=fit_len hb
  refine⟨pE_rel h hl,?_⟩
  obtain⟨H,I,R⟩:=h
  obtain⟨H',I',R'⟩:=BRel.step I R (numsL s) (nums_k s)
  rw[stepR1 hl] at R'
  rw[pT_step hl]
  exact⟨H',I',R'⟩
 ·rw[if_neg hb,if_neg hb,if_neg hb,if_neg hb]
  exact⟨rfl,h⟩
theorem rl_ok{n:Nat}{b:BS}{x:RB}(h:Rl n b x){s:List UInt8}(hs:s.length≤1100000):LineOk x s:=by
 obtain⟨H,I,R⟩:=h
 have hlo:=R.lo;have hhi:=R.hi;have hln:=R.len
 refine⟨R.rel.sh I,fun p q h0=>Rel.syOk I R.rel h0,?_,by rw[← R.many];exact hlo,by rw[← R.many];exact hhi,hs⟩
 rw[← R.txt];omega
theorem rl_zero{n:Int}(hb:inB n 1 5=true):Rl n.toNat (newF n.toNat,[],0) (newRB n):=by
 obtain⟨H,I,R⟩:=playB_rel hb (s:=[]) (fun l h=>by cases h) 0
 exact⟨H,I,R⟩
theorem many_line{b:BS}{s:List UInt8}(h:pLE b s=0):(pLT b s).2.2=b.2.2+1:=by
 unfold pLE at h
 unfold pLT
 by_cases hb:badL s=0
 ·rw[if_pos hb] at h ⊢
  have hl:=fit_len hb
  rw[pT_step hl]
  refine (okS_yes ?_).2
  unfold okS
  rcases hl with e | e<;>(rw[e,h];rfl)
 ·rw[if_neg hb] at h;exact absurd h hb
theorem po_many{n:Int}{w:List (List UInt8)}:∀ i,poG n w i=true→(poB n w i).2.2=(i:Int)
 | 0,_=>rfl
 | i+1,h=>by
  simp only[poG,Bool.and_eq_true,decide_eq_true_eq] at h
  show (pLT (poB n w i) (w.getD i [])).2.2=_
  rw[many_line h.2,po_many i h.1];omega
theorem po_rel{n:Int}(hb:inB n 1 5=true){w c:List (List UInt8)}{m:Nat}(hw:∀ j,j<m→c.getD j []=w.getD j []):∀ i,i≤m→Rl n.toNat (poB n w i) (opB n c i)∧opG n c i=poG n w i
 | 0,_=>⟨rl_zero hb,rfl⟩
 | i+1,h=>by
  obtain⟨h1,h2⟩:=po_rel hb hw i (by omega)
  obtain⟨h3,h4⟩:=line_rel h1 (w.getD i [])
  refine⟨?_,?_⟩
  ·show Rl n.toNat (pLT (poB n w i) (w.getD i [])) (rLT (opB n c i) (c.getD i []))
   rw[hw i (by omega)];exact h4
  ·show (opG n c i&&decide (rLE (opB n c i) (c.getD i [])=0))=(poG n w i&&decide (pLE (poB n w i) (w.getD i [])=0))
   rw[h2,hw i (by omega),h3]
theorem poE_rel{n:Int}(hb:inB n 1 5=true){w c:List (List UInt8)}{m:Nat}(hw:∀ j,j<m→c.getD j []=w.getD j []):∀ f k,k+f=m→poG n w k=true →
 (opE n c k f).2.1=(poE n w k f).2.1∧(opE n c k f).2.2=(poE n w k f).2.2∧((poE n w k f).2.2=0→Rl n.toNat (poE n w k f).1 (opE n c k f).1)
 | 0,k,hk,hg=>by
  obtain⟨h1,h2⟩:=po_rel hb hw k (by omega)
  obtain⟨H,I,R⟩:=h1
  exact⟨R.many.symm,rfl,fun _=>⟨H,I,R⟩⟩
 | f+1,k,hk,hg=>by
  obtain⟨h1,h2⟩:=po_rel hb hw k (by omega)
  obtain⟨h3,h4⟩:=line_rel h1 (w.getD k [])
  show (if rLE (opB n c k) (c.getD k [])=0 then opE n c (k+1) f else (rb0,(k:Int)+1,rLE (opB n c k) (c.getD k []))).2.1=(if pLE (poB n w k) (w.getD k [])=0 then poE n w (k+1) f else (poB n w k,(poB n w k).2.2+1,pLE (poB n w k) (w.getD k []))).2.1 ∧
   (if rLE (opB n c k) (c.getD k [])=0 then opE n c (k+1) f else (rb0,(k:Int)+1,rLE (opB n c k) (c.getD k []))).2.2=(if pLE (poB n w k) (w.getD k [])=0 then poE n w (k+1) f else (poB n w k,(poB n w k).2.2+1,pLE (poB n w k) (w.getD k []))).2.2 ∧
   ((if pLE (poB n w k) (w.getD k [])=0 then poE n w (k+1) f else (poB n w k,(poB n w k).2.2+1,pLE (poB n w k) (w.getD k []))).2.2=0→Rl n.toNat (if pLE (poB n w k) (w.getD k [])=0 then poE n w (k+1) f else (poB n w k,(poB n w k).2.2+1,pLE (poB n w k) (w.getD k []))).1 (if rLE (opB n c k) (c.getD k [])=0 then opE n c (k+1) f else (rb0,(k:Int)+1,rLE (opB n c k) (c.getD k []))).1)
  rw[hw k (by omega),h3]
  by_cases he:pLE (poB n w k) (w.getD k [])=0
  ·rw[if_pos he,if_pos he]
   exact poE_rel hb hw f (k+1) (by omega) (by simp only[poG,hg,he,decide_true,Bool.and_self])
  ·rw[if_neg he,if_neg he]
   exact⟨by rw[po_many k hg],rfl,fun h=>absurd h he⟩
theorem open_same{n:Int}(hb:inB n 1 5=true)(s:List UInt8):(opR n s).2.1=(poR n s).2.1∧(opR n s).2.2=(poR n s).2.2∧((poR n s).2.2=0→Rl n.toNat (poR n s).1 (opR n s).1):=by
 have hc:cutL s 10=splL 10 s:=by
  have:=cut_spl s 10
  rw[show (((10:UInt8).toNat:Nat):Int)=10 from rfl] at this
  exact this
 have hl:(wholeL s).length=(cutL s 10).length - 1:=by unfold wholeL;rw[hc,List.length_dropLast]
 unfold opR poR
 rw[if_pos hb,← hl]
 refine poE_rel hb (m:=(wholeL s).length) (fun j hj => ?_) _ 0 (by omega) rfl
 have:(wholeL s)[j]?=(splL 10 s)[j]?:=by
  unfold wholeL at hj ⊢
  rw[List.getElem?_dropLast,if_pos (by rw[List.length_dropLast] at hj;omega)]
 rw[hc,List.getD_eq_getElem?_getD,List.getD_eq_getElem?_getD,this]
theorem open_ok{n:Int}{s:List UInt8}(hs:s.length≤1100000):OpenOk n s:=by
 refine⟨hs,fun hb i hi _ => ?_⟩
 obtain⟨h1,_⟩:=po_rel hb (w:=cutL s 10) (c:=cutL s 10) (m:=i) (fun _ _=>rfl) i (Nat.le_refl _)
 refine rl_ok h1 ?_
 have hc:cutL s 10=splL 10 s:=by
  have:=cut_spl s 10
  rw[show (((10:UInt8).toNat:Nat):Int)=10 from rfl] at this
  exact this
 rw[hc] at hi ⊢
 rw[List.getD_eq_getElem?_getD,List.getElem?_eq_getElem (by omega)]
 exact Nat.le_trans (splL_le 10 s _ (List.getElem_mem (by omega))) hs
theorem read_rel{n:Nat}{b:BS}{x:RB}(h:Rl n b x){p q:Nat}(hp:p<n)(hq:q<4):readF b.1 (p:Int) (q:Int)=List.getD x.1.2.1 ((p:Int)*4+(q:Int)).toNat []:=by
 obtain⟨H,I,R⟩:=h
 have h1:inNet b.1 (p:Int) (q:Int)=true:=inNet_iff.2 ⟨⟨by omega,by rw[I.len];omega⟩,by omega,by omega⟩
 have h2:=R.rel.at' p q hp hq
 unfold readF;rw[if_pos h1]
 show vAt b.1 (p:Int).toNat (q:Int).toNat=_
 rw[Int.toNat_natCast,Int.toNat_natCast,← h2];rfl
open Go.Vc Go.Proofs Go.RowKit
def endD:List UInt8→Nat
 | []=>0
 | b::r=>if b=10 then 0 else endD r+1
theorem endD_le:∀ t,endD t≤t.length
 | []=>Nat.le_refl _
 | b::r=>by
  have:=endD_le r
  unfold endD
  split
  ·exact Nat.zero_le _
  ·rw[List.length_cons];omega
theorem endD_at:∀ t,endD t<t.length→t.getD (endD t) 0=10
 | [],h=>absurd h (Nat.lt_irrefl _)
 | b::r,h=>by
  by_cases hb:b=10
  ·have e:endD (b::r)=0:=if_pos hb
   rw[e];exact hb
  ·have e:endD (b::r)=endD r+1:=if_neg hb
   rw[e] at h ⊢
   rw[List.length_cons] at h
   exact endD_at r (by omega)
theorem endD_no:∀ t j,j<endD t→t.getD j 0≠10
 | [],j,h=>absurd h (Nat.not_lt_zero _)
 | b::r,j,h=>by
  by_cases hb:b=10
  ·have e:endD (b::r)=0:=if_pos hb
   rw[e] at h;exact absurd h (Nat.not_lt_zero _)
  ·have e:endD (b::r)=endD r+1:=if_neg hb
   rw[e] at h
   cases j with
   | zero=>exact hb
   | succ j=>exact endD_no r j (by omega)
theorem spl_end:∀ t,splL 10 t=if endD t<t.length then t.take (endD t)::splL 10 (t.drop (endD t+1)) else[t]
 | []=>rfl
 | b::r=>by
  have e0:splL 10 (b::r)=if b=10 then[]::splL 10 r else hdCons b (splL 10 r):=rfl
  by_cases hb:b=10
  ·have e:endD (b::r)=0:=if_pos hb
   rw[e0,if_pos hb,e,if_pos (by rw[List.length_cons];omega)];rfl
  ·have e:endD (b::r)=endD r+1:=if_neg hb
   rw[e0,if_neg hb,e,spl_end r]
   by_cases hl:endD r<r.length
   ·rw[if_pos hl,if_pos (by rw[List.length_cons];omega)];rfl
   ·rw[if_neg hl,if_neg (by rw[List.length_cons];omega)];rfl
theorem getLast_app{α:Type}(a:List α)(p:α)(q:List α):(a++p::q).getLast?=(p::q).getLast?:=by
 rw[List.getLast?_append,List.getLast?_cons];rfl
def linesT(t:List UInt8):List (List UInt8):=if (splL 10 t).getLast?=some [] then (splL 10 t).dropLast else splL 10 t
theorem linesT_nil:linesT []=[]:=rfl
theorem linesT_cons{t:List UInt8}(h:t≠[]):linesT t=t.take (endD t)::linesT (t.drop (endD t+1)):=by
 have hle:=endD_le t
 have e:=spl_end t
 by_cases hl:endD t<t.length
 ·rw[if_pos hl] at e
  obtain⟨p,q,e2⟩:=splL_ne 10 (t.drop (endD t+1))
  unfold linesT
  rw[e,e2,List.getLast?_cons_cons,List.dropLast_cons_cons]
  split<;>rfl
 ·rw[if_neg hl] at e
  have:endD t=t.length:=by omega
  have e3:t.drop (t.length+1)=[]:=List.drop_eq_nil_of_le (by omega)
  rw[this,List.take_length,e3,linesT_nil]
  unfold linesT
  rw[e,if_neg]
  simpa using h
theorem linesT_sep(a b:List UInt8):linesT (a++10::b)=splL 10 a++linesT b:=by
 obtain⟨p,q,e⟩:=splL_ne 10 b
 unfold linesT
 rw[splL_sep,e,getLast_app,List.dropLast_append_of_ne_nil (by simp)]
 split<;>rfl
theorem linesT_end(a:List UInt8):linesT (a++[10])=splL 10 a:=by
 rw[linesT_sep,linesT_nil,List.append_nil]
theorem linesT_len(s:List UInt8):(linesT s).length=s.count 10+if s=[]∨s.getLast?=some 10 then 0 else 1:=by
 rcases List.eq_nil_or_concat s with rfl | ⟨a,b,rfl⟩
 ·rfl
 ·by_cases hb:b=10
  ·subst hb
   rw[List.concat_eq_append,linesT_end,splL_len,if_pos (.inr (by simp)),List.count_append];rfl
  ·obtain⟨x,p,e⟩:∃ x p,splL 10 a=x++[p]:=by
    obtain⟨p,q,e⟩:=splL_ne 10 a
    exact⟨(p::q).dropLast,(p::q).getLast (by simp),by rw[e,List.dropLast_concat_getLast]⟩
   have e2:=(splL_snoc 10 b a).2 hb x p e
   have e3:linesT (a++[b])=splL 10 (a++[b]):=by
    unfold linesT
    rw[if_neg]
    rw[e2]
    simp
   rw[List.concat_eq_append,e3,splL_len,if_neg (by
    rintro (h | h)
    ·simp at h
    ·simp at h;exact hb h)]
theorem linesT_le(s:List UInt8):∀ x∈linesT s,x.length≤s.length:=by
 intro x hx
 refine splL_le 10 s x ?_
 unfold linesT at hx
 split at hx
 ·exact List.dropLast_subset _ hx
 ·exact hx
theorem linesT_many(s:List UInt8):(linesT s).length≤s.length:=by
 rw[linesT_len]
 have h:s.count 10≤s.length:=List.count_le_length
 split
 ·omega
 ·rename_i hs
  rcases List.eq_nil_or_concat s with rfl | ⟨a,b,rfl⟩
  ·exact absurd (.inl rfl) hs
  ·rw[List.concat_eq_append] at *
   have h2:a.count 10≤a.length:=List.count_le_length
   have hb:b≠10:=fun e=>hs (.inr (by rw[e];simp))
   rw[List.count_append,List.count_singleton,if_neg (by simpa using hb),List.length_append,List.length_singleton];omega
theorem trim_no{p:List UInt8}(h:(10:UInt8)∉p):Lib.trimSuffix p [10]=p:=by
 unfold Lib.trimSuffix;rw[if_neg (by rw[no10 h];decide)]
theorem linesF_T(s:List UInt8):((linesF s).map (·.1)).map (fun x=>Lib.trimSuffix x [10])=linesT s:=by
 obtain⟨x,p,e1,e2⟩:=lines_spl s
 have hx:(x.map (· ++ [10])).map (fun x=>Lib.trimSuffix x [10])=x:=by
  rw[List.map_map]
  conv=>rhs;rw[← List.map_id x]
  exact List.map_congr_left fun y _=>(has10 y).2
 have hp:(10:UInt8)∉p:=splL_no 10 s p (by rw[e1];simp)
 rw[e2,List.map_append,hx]
 unfold linesT
 rw[e1]
 by_cases h:p=[]
 ·rw[if_pos h,if_pos (by simp[h])];simp
 ·rw[if_neg h,if_neg (by simpa using h),List.map_singleton,trim_no hp]
def W0:Nat→Int→Prop:=fun _ v=>0≤v∧v≤1000000
def WInv(n:Nat)(b:BS):Prop:=∃ H,NInv n W0 H b.1
theorem write_W0{t:Net}{p q v:Int}(h:writeE t p q v=0):W0 q.toNat v:=by
 unfold writeE at h
 split at h
 ·rename_i hc
  simp only[Bool.and_eq_true] at hc
  exact inB_lo hc.2
 ·cases h
theorem WInv.bk{n:Nat}{b:BS}(h:WInv n b){e:Int}{t:Net}{l:List UInt8}(ht:WInv n (t,b.2)):WInv n (bkT b.1 b.2.1 b.2.2 e t l):=by
 unfold bkT
 split
 ·exact ht
 ·exact h
theorem WInv.step{n:Nat}{b:BS}(h:WInv n b)(l:List Int):WInv n (stepB b l):=by
 obtain⟨H,I⟩:=id h
 unfold stepB
 split
 ·refine h.bk ?_
  obtain⟨H',I'⟩:=I.write (l.getD 0 0) (l.getD 1 0) (l.getD 2 0) write_W0
  exact⟨H',I'⟩
 ·split
  ·exact h.bk ⟨H,I.sync _ _⟩
  ·exact h
theorem WInv.line{n:Nat}{b:BS}(h:WInv n b)(s:List UInt8):WInv n (pLT b s):=by
 unfold pLT
 split
 ·rename_i h0
  rw[pT_step (fit_len h0)]
  exact h.step _
 ·exact h
theorem WInv.init{n:Int}(hb:inB n 1 5=true):WInv n.toNat (newF n.toNat,[],0):=by
 obtain⟨n1,n5,m1,m5⟩:=inB5 hb
 exact⟨_,NInv.init _ n1 n5⟩
theorem poE_inv{n:Int}{w:List (List UInt8)}{Q:BS→Prop}(h0:Q (newF n.toNat,[],0))(hs:∀ b s,Q b→Q (pLT b s)):∀ f k,Q (poE n w k f).1:=by
 have hB:∀ i,Q (poB n w i):=fun i=>by
  induction i with
  | zero=>exact h0
  | succ i ih=>exact hs _ _ ih
 intro f
 induction f with
 | zero=>intro k;exact hB k
 | succ f ih =>
  intro k
  show Q (if pLE (poB n w k) (w.getD k [])=0 then poE n w (k+1) f else (poB n w k,(poB n w k).2.2+1,pLE (poB n w k) (w.getD k []))).1
  split
  ·exact ih _
  ·exact hB k
def DInv(b:BS):Prop:=BInv 3 b∧WInv 3 b
theorem in3:inB 3 1 5=true:=by decide
theorem DInv.init:DInv (newF 3,[],0):=⟨BInv.init in3,WInv.init in3⟩
theorem DInv.line{b:BS}(h:DInv b)(s:List UInt8):DInv (pLT b s):=⟨h.1.line s,h.2.line s⟩
theorem DInv.crash{b:BS}(h:DInv b)(l:List Int):DInv (crT b l):=by
 unfold crT
 split
 ·exact poE_inv (n:=3) (Q:=DInv) DInv.init (fun b s hb=>hb.line s) _ _
 ·exact h
theorem lnN_k{s:List UInt8}(h:lnOk s=true):∀ v∈lnN s,inK .i64 v∧0≤v:=(nmW_ok (w:=[]) h).2
theorem lnT_of{Q:BS→Prop}{b:BS}{s:List UInt8}(h0:Q b)(hp:lnOk s=true→((lnN s).length=3∨(lnN s).length=2)→Q (pT b (lnN s)))(hc:lnOk s=true→(lnN s).length=1→Q (crT b (lnN s))):Q (lnT b s):=by
 unfold lnT
 split
 ·exact h0
 ·rename_i hk
  have hk:lnOk s=true:=by simpa using hk
  split
  ·rename_i h;exact hp hk (.inl h.2)
  ·split
   ·rename_i h;exact hp hk (.inr h.2)
   ·split
    ·rename_i h;exact hc hk h.2
    ·exact h0
theorem DInv.ln{b:BS}(h:DInv b)(s:List UInt8):DInv (lnT b s) :=
 lnT_of h (fun hk hl=>by rw[pT_step hl];exact⟨h.1.step _ fun v hv=>(lnN_k hk v hv).1,h.2.step _⟩) fun _ _=>h.crash _
theorem rd_vals{b:BS}(h:WInv 3 b)(l:List Int):(∀ v∈rdV b l,0≤v.2.1∧v.2.1≤1000000)∧(rdV b l).length≤3:=by
 obtain⟨H,I⟩:=h
 unfold rdV readF
 split
 ·refine⟨fun v hv => ?_,I.few (l.getD 0 0).toNat (l.getD 1 0).toNat⟩
  obtain⟨p,hp⟩:=I.mem (l.getD 0 0).toNat (l.getD 1 0).toNat v hv
  exact I.hW _ _ _ hp
 ·exact⟨fun v hv=>(by cases hv),Nat.zero_le _⟩
theorem toldS_len(e:Int):(toldS e).length≤20:=by
 unfold toldS
 split
 ·decide
 ·exact errS_len e
theorem lnS_of{Q:List UInt8→Prop}{b:BS}{s:List UInt8}(h0:Q badS)(ht:∀ e,Q (toldS e))(hr:lnOk s=true→Q (rdS b (lnN s)))(hc:lnOk s=true→Q (crS b (lnN s))):Q (lnS b s):=by
 unfold lnS
 split
 ·exact h0
 ·rename_i hk
  have hk:lnOk s=true:=by simpa using hk
  repeat' split
  ·exact ht _
  ·exact ht _
  ·exact hr hk
  ·exact hc hk
  ·exact h0
theorem lnS_len{b:BS}(h:DInv b)(s:List UInt8):(lnS b s).length≤100:=by
 refine lnS_of (Q:=fun l=>l.length≤100) (by decide) (fun e=>Nat.le_trans (toldS_len e) (by decide)) (fun hk => ?_) (fun hk => ?_)
 ·obtain⟨h1,h2⟩:=rd_vals h.2 (lnN s)
  have:=valsS_len (rdV b (lnN s)) (fun v hv=>inK_i64.2 (by have:=h1 v hv;omega)) _ (Nat.le_refl _)
  unfold rdS;omega
 ·unfold crS
  split
  ·have hk:=(poE_k in3 (wholeL (b.2.1.take (min ((lnN s).getD 0 0) (b.2.1.length:Int)).toNat)) (wholeL (b.2.1.take (min ((lnN s).getD 0 0) (b.2.1.length:Int)).toNat)).length 0).1
   have:=itoa_len hk
   have e:(crR b (lnN s)).2.1=(poE 3 (wholeL (b.2.1.take (min ((lnN s).getD 0 0) (b.2.1.length:Int)).toNat)) 0 (wholeL (b.2.1.take (min ((lnN s).getD 0 0) (b.2.1.length:Int)).toNat)).length).2.1:=rfl
   rw[e,app_len]
   have:([102,111,117,110,100,32]:List UInt8).length=6:=rfl
   omega
  ·exact Nat.le_trans (toldS_len _) (by decide)
def rnB(w:List (List UInt8)):Nat→BS
 | 0=>(newF 3,[],0)
 | i+1=>lnT (rnB w i) (w.getD i [])
def rnS(w:List (List UInt8)):Nat→List UInt8
 | 0=>[]
 | i+1=>List.append (List.append (rnS w i) (lnS (rnB w i) (w.getD i []))) [10]
def tooL:List UInt8:=[116,111,111,32,108,111,110,103,10]
def runF(s:List UInt8):List UInt8:=if 3000<s.length then tooL else rnS (linesT s) (linesT s).length
theorem rnB_inv(w:List (List UInt8)):∀ i,DInv (rnB w i)
 | 0=>DInv.init
 | i+1=>(rnB_inv w i).ln _
theorem rnS_len(w:List (List UInt8)):∀ i,(rnS w i).length≤i*101
 | 0=>Nat.zero_le _
 | i+1=>by
  have h1:=rnS_len w i
  have h2:=lnS_len (rnB_inv w i) (w.getD i [])
  show (List.append (List.append (rnS w i) (lnS (rnB w i) (w.getD i []))) [10]).length≤_
  rw[app_len,app_len]
  have:([10]:List UInt8).length=1:=rfl
  omega
open Go.Vc Go.Proofs Go.RowKit
def rnN(s:List UInt8):List Int:=((lnW s).drop 1).map numN
def rrB(l:List Int):Bool:=inB (l.getD 0 0) 0 2&&inB (l.getD 1 0) 0 3
def rrV(x:RB)(l:List Int):List Va:=if rrB l=true then x.1.2.1.getD ((l.getD 0 0)*4+(l.getD 1 0)).toNat [] else[]
def rrS(x:RB)(l:List Int):List UInt8:=valsS (rrV x l) (rrV x l).length
def rcN(x:RB)(l:List Int):Int:=min (l.getD 0 0) (x.2.1.length:Int)
def rcR(x:RB)(l:List Int):RB×Int×Int:=opR 3 (x.2.1.take (rcN x l).toNat)
def rcS(x:RB)(l:List Int):List UInt8:=if (rcR x l).2.2=0 then List.append [102,111,117,110,100,32] (Lib.itoa (rcR x l).2.1) else toldS (rcR x l).2.2
def rcT(x:RB)(l:List Int):RB:=if (rcR x l).2.2=0 then (rcR x l).1 else x
def anS(x:RB)(s:List UInt8):List UInt8 :=
 if lnOk s=false then badS else if (lnW s).getD 0 []=wWrite∧(rnN s).length=3 then toldS (rPE x (rnN s)) else if (lnW s).getD 0 []=wSync∧(rnN s).length=2 then toldS (rPE x (rnN s))
 else if (lnW s).getD 0 []=wRead∧(rnN s).length=2 then rrS x (rnN s) else if (lnW s).getD 0 []=wCrash∧(rnN s).length=1 then rcS x (rnN s) else badS
def anT(x:RB)(s:List UInt8):RB :=
 if lnOk s=false then x else if (lnW s).getD 0 []=wWrite∧(rnN s).length=3 then rPT x (rnN s) else if (lnW s).getD 0 []=wSync∧(rnN s).length=2 then rPT x (rnN s)
 else if (lnW s).getD 0 []=wCrash∧(rnN s).length=1 then rcT x (rnN s) else x
theorem rnN_eq{s:List UInt8}(h:lnOk s=true):rnN s=lnN s:=by
 refine List.map_congr_left fun x hx => ?_
 have:=List.all_eq_true.1 h x hx
 unfold w7 at this
 simp only[Bool.and_eq_true] at this
 exact (at_num this.1).symm
theorem rd_same{b:BS}{x:RB}(h:Rl 3 b x)(l:List Int):rrV x l=rdV b l:=by
 unfold rrV rdV rrB
 by_cases hc:(inB (l.getD 0 0) 0 2&&inB (l.getD 1 0) 0 3)=true
 ·rw[if_pos hc]
  simp only[Bool.and_eq_true] at hc
  have h1:=inB_lo hc.1
  have h2:=inB_lo hc.2
  have:=read_rel h (p:=(l.getD 0 0).toNat) (q:=(l.getD 1 0).toNat) (by omega) (by omega)
  rw[Int.toNat_of_nonneg h1.1,Int.toNat_of_nonneg h2.1] at this
  exact this.symm
 ·rw[if_neg hc]
  unfold readF
  rw[if_neg]
  intro hn
  obtain⟨H,I,R⟩:=h
  have:=inNet_iff.1 hn
  rw[I.len] at this
  apply hc
  rw[Bool.and_eq_true,inB_iff,inB_iff]
  omega
theorem cr_same{b:BS}{x:RB}(h:Rl 3 b x)(l:List Int):(rcR x l).2.1=(crR b l).2.1∧(rcR x l).2.2=(crR b l).2.2∧((crR b l).2.2=0→Rl 3 (crR b l).1 (rcR x l).1):=by
 obtain⟨H,I,R⟩:=h
 unfold rcR rcN crR
 rw[← R.txt]
 exact open_same in3 _
theorem ans_rel{b:BS}{x:RB}(h:Rl 3 b x)(s:List UInt8):anS x s=lnS b s∧Rl 3 (lnT b s) (anT x s):=by
 have step:lnOk s=true→((lnN s).length=3∨(lnN s).length=2)→rPE x (lnN s)=pE b (lnN s)∧Rl 3 (pT b (lnN s)) (rPT x (lnN s)):=fun hk hl=>by
  refine⟨pE_rel h hl,?_⟩
  obtain⟨H,I,R⟩:=h
  obtain⟨H',I',R'⟩:=BRel.step I R (lnN s) fun v hv=>(lnN_k hk v hv).1
  rw[stepR1 hl] at R'
  rw[pT_step hl]
  exact⟨H',I',R'⟩
 unfold anS lnS anT lnT
 by_cases hk:lnOk s=false
 ·rw[if_pos hk,if_pos hk,if_pos hk,if_pos hk];exact⟨rfl,h⟩
 ·rw[if_neg hk,if_neg hk,if_neg hk,if_neg hk]
  have hk:lnOk s=true:=by simpa using hk
  rw[rnN_eq hk]
  by_cases h1:(lnW s).getD 0 []=wWrite∧(lnN s).length=3
  ·rw[if_pos h1,if_pos h1,if_pos h1,if_pos h1]
   obtain⟨e1,e2⟩:=step hk (.inl h1.2)
   exact⟨by rw[e1],e2⟩
  rw[if_neg h1,if_neg h1,if_neg h1,if_neg h1]
  by_cases h2:(lnW s).getD 0 []=wSync∧(lnN s).length=2
  ·rw[if_pos h2,if_pos h2,if_pos h2,if_pos h2]
   obtain⟨e1,e2⟩:=step hk (.inr h2.2)
   exact⟨by rw[e1],e2⟩
  rw[if_neg h2,if_neg h2,if_neg h2,if_neg h2]
  obtain⟨c1,c2,c3⟩:=cr_same h (lnN s)
  have hcS:rcS x (lnN s)=crS b (lnN s):=by unfold rcS crS;rw[c1,c2]
  have hrS:rrS x (lnN s)=rdS b (lnN s):=by unfold rrS rdS;rw[rd_same h]
  have hcT:Rl 3 (crT b (lnN s)) (rcT x (lnN s)):=by
   unfold crT rcT
   rw[c2]
   split
   ·rename_i h0;exact c3 h0
   ·exact h
  by_cases h4:(lnW s).getD 0 []=wCrash∧(lnN s).length=1
  ·rw[if_pos h4,if_pos h4,if_pos h4,if_pos h4]
   refine⟨?_,hcT⟩
   rw[hrS,hcS]
  ·rw[if_neg h4,if_neg h4,if_neg h4,if_neg h4]
   refine⟨?_,h⟩
   rw[hrS]
def seB(w:List (List UInt8)):Nat→RB
 | 0=>newRB 3
 | i+1=>anT (seB w i) (w.getD i [])
def seS(w:List (List UInt8)):Nat→List UInt8
 | 0=>[]
 | i+1=>List.append (List.append (seS w i) (anS (seB w i) (w.getD i []))) [10]
def seF(s:List UInt8):List UInt8:=if 3000<s.length then tooL else seS (linesT s) (linesT s).length
theorem se_rel(w:List (List UInt8)):∀ i,Rl 3 (rnB w i) (seB w i)∧seS w i=rnS w i
 | 0=>⟨rl_zero in3,rfl⟩
 | i+1=>by
  obtain⟨h1,h2⟩:=se_rel w i
  obtain⟨h3,h4⟩:=ans_rel h1 (w.getD i [])
  refine⟨h4,?_⟩
  show List.append (List.append (seS w i) (anS (seB w i) (w.getD i []))) [10]=List.append (List.append (rnS w i) (lnS (rnB w i) (w.getD i []))) [10]
  rw[h2,h3]
theorem ses_same(s:List UInt8):seF s=runF s:=by
 unfold seF runF
 rw[(se_rel _ _).2]
open Go.Vc Go.Proofs Go.RowKit
open Go.Vc Go.Proofs Go.RowKit
theorem app_byte(w:World)(v:Value)(n:Nat)(xs:List Value)(hown:w.ownsRowF 0 5 1 v n xs)(a:Addr)(cp:Nat)(c:Int)(ty:TypeId)(hc:w.cell? a=some (.int .u8 c))(h63:n+1≤140737488355328) :
 ∃ v' w',(Builtin.append_ #[38,38] ty #[v,.slice (some a) 1 cp]).run Tryz.prog w = .ok v' w'∧w'.ownsRowF 0 5 1 v' (n+1) (xs++[.int .u8 c])∧w.grownBy w' v.ownBlock ∧
  (∀ g,v'.ownBlock=some g→v.ownBlock=some g∨w.heap.size≤g)∧w.drawn≤w'.drawn:=by
 obtain⟨i,hi,hz0,hz1,hz2⟩:=info_parts (show (Tryz.prog.info? 5).map (fun i=>(i.zero,i.size,i.bytes))=some (some (.int .u8 0),1,1) by kernel_rfl)
 have hmx:n+1≤maxLen:=by simp only[maxLen];omega
 have hnews:∀ (j:Nat) (u:Value),([Value.int .u8 c]:List Value)[j]?=some u→w.cell? (a.add j)=some u:=fun j u hj=>by
  match j,hj with
  | 0,hj=>simp at hj;subst hj;simpa [Addr.add] using hc
 have h1:∀ u∈([Value.int .u8 c]:List Value),u.oneCell'=true:=fun u hu=>by simp at hu;subst hu;rfl
 obtain⟨v',w',hr,h2,h3,_⟩:=run_append_ownF (P:=Tryz.prog) w 0 38 ty 5 i (.int .u8 0) 1 1 Tryz.underlying38 hi hz0 hz1 hz2 rfl (by decide) v n xs hown a 1 cp [.int .u8 c] rfl hnews h1 hmx (by omega) (Nat.zero_le _)
 refine⟨v',w',hr,h2,h3,fun g hg => ?_,run_drawn _ _ _ hr⟩
 rcases hown.2 with ⟨rfl,rfl⟩ | ⟨g0,cap,cur,fz,rfl,hbg,hg0,hfz,hnc,hcm,hcs,htake⟩
 ·have hx:xs=[]:=List.eq_nil_of_length_eq_zero (by simpa using hown.1)
  subst hx
  obtain⟨v2,w2,hr2,k1,_,_⟩:=run_append_ownF (P:=Tryz.prog) w w.heap.size 38 ty 5 i (.int .u8 0) 1 1 Tryz.underlying38 hi hz0 hz1 hz2 rfl (by decide) _ 0 [] (World.ownsRowF_nil w w.heap.size 5 1) a 1 cp [.int .u8 c] rfl hnews h1 hmx (by omega) (Nat.le_refl _)
  rw[hr] at hr2
  injection hr2 with e1 e2;subst e1;subst e2
  exact .inr (k1.lt g hg).1
 ·by_cases hroom:n+1≤cap
  ·have hr2:=run_append_roomF (P:=Tryz.prog) w 38 ty 5 i Tryz.underlying38 hi g0 n cap cur fz hg0 (by rw[hz1];exact hfz) a 1 cp [.int .u8 c] (by rw[hz1];rfl) hnews h1 hroom (by rw[hz1];simp only[Nat.mul_one] at hcs ⊢;simp;omega)
   rw[hr] at hr2
   injection hr2 with e1 e2;subst e1
   exact .inl hg
  ·have holds:∀ j u,xs[j]?=some u→w.cell? ((⟨g0,0,none⟩:Addr).add j)=some u:=hown.cells (g:=g0) rfl
   have hxl:xs.length=n:=by simpa using hown.1
   have hr2:=run_append_grow (P:=Tryz.prog) w 38 ty 5 i (.int .u8 0) Tryz.underlying38 hi hz0 ⟨g0,0,none⟩ n cap xs (by rw[hz1];simpa using hxl) holds a 1 cp [.int .u8 c] (by rw[hz1];rfl) hnews (by omega) (by omega) (by rw[hz2];exact growslice_fits (by omega) (by omega))
   rw[hr] at hr2
   injection hr2 with e1 e2;subst e1
   injection hg with hg;subst hg
   exact .inr (Nat.le_refl _)
theorem wpList_appb{ops:Array Oper}{rest:List Oper}{o:Oper}{a:Act}{Q:Exit→Act→World→Prop}{w:World}(hgd:o.guard=none)(sl x:Operand)
 (ho:o.op = .call { callee := .builtin .append,args:=#[sl,x],argTypes:=#[38,38] }) (v:Value) (n:Nat) (xs:List Value) (hs:a.eval sl=v) (hown:w.ownsRowF 0 5 1 v n xs) (ad:Addr) (cp:Nat) (c:Int) (hx:a.eval x = .slice (some ad) 1 cp)
 (hc:w.cell? ad=some (.int .u8 c)) (h63:n+1≤140737488355328)
 (h:∀ v' w',w'.ownsRowF 0 5 1 v' (n+1) (xs++[.int .u8 c])→w.grownBy w' v.ownBlock→(∀ g,v'.ownBlock=some g→v.ownBlock=some g∨w.heap.size≤g)→w.drawn≤w'.drawn→wpList Tryz.prog ops Q rest (a.put o.dst v') w'):wpList Tryz.prog ops Q (o::rest) a w:=by
 refine wpList_plain hgd fun K hK => ?_
 obtain⟨v',w',hr,h2,h3,h4,h5⟩:=app_byte w v n xs hown ad cp c o.type hc h63
 unfold Oper.wp execOp
 simp only[ho,resolve,invoke,builtin,Sem.run_bind,Sem.run_pure,Result.andThen_ok,List.map_toArray,List.map_cons,List.map_nil,hs,hx,hr]
 exact hK _ _ (h v' w' h2 h3 h4 h5)
set_option maxHeartbeats 2000000 in
set_option maxRecDepth 100000 in
theorem wb_calls{T:TypeId}{b o:Nat}{l:List UInt8}{cs:Array Value}{v:Value}{w:World}(h:BAt T b o l cs v w)(hT:5≠T)(hl:liesAt Tryz.prog Tryz.prog.depth T (cs.size/Tryz.prog.cellsOf T) o 64 1=true)(x:UInt8)
 (hlen:l.length+1≤140737488355328) :
 Calls Tryz.prog 46 #[.pointer (some ⟨b,o,none⟩),.int .u8 x.toNat] w fun e w'=>e = .returned .nilIface∧∃ v',BAt T b o (l++[x]) ((cs.setIfInBounds o (.pointer (some ⟨b,o,none⟩))).setIfInBounds (o+1) v') v' w'∧Turn b v v' w w':=by
 have hon:=h.on
 have hbl:b<w.heap.size:=(Array.getElem?_eq_some_iff.1 h.blk).1
 go_enter Tryz.func46,Tryz.ntmps46
 go_wp2_with (go_at_call 70;refine (cc_any h hl).mono ?_)
 rintro e w1 ⟨rfl,h1,t1,hs1,hz1⟩
 have c1:w1.cell? ⟨b,o+1,none⟩=some v:=by rw[Lib.cell_of_heap h1.blk];exact h1.c1
 have hc0:(cs.setIfInBounds o (.pointer (some ⟨b,o,none⟩)))[o]?=some (.pointer (some ⟨b,o,none⟩)):=by rw[Array.getElem?_setIfInBounds_self_of_lt (by omega)]
 go_wp2_with (at_builtin;refine wpList_appb rfl _ _ rfl _ _ _ rfl (h1.own.alloc _) ⟨w.heap.size,0,none⟩ 1 x.toNat rfl (by rw[← hz1];simp) hlen ?_)
 intro v' w2 hown hg hnew hdr
 have hb1:b<w1.heap.size:=by omega
 have hbk2:w2.heap[b]?=w1.heap[b]?:=by
  rw[hg.block b (by simp;omega) (fun e=>h1.ne e.symm),Lib.alloc_old w1 _ b hb1]
 have hown2:w2.ownsRowF 0 5 1 v' (l++[x]).length (Lib.byteCells (l++[x])):=by
  rw[Lib.byteCells_append,List.length_append]
  exact hown
 have f1:w2.frozen? ⟨b,o+1,none⟩=false:=Lib.frozen_of_heap (hbk2.trans h1.blk) (o+1)
 have d1:w2.cell? ⟨b,o+1,none⟩=some v:=by rw[Lib.cell_of_heap (hbk2.trans h1.blk)];exact h1.c1
 have hnew1:∀ g,v'.ownBlock=some g→v.ownBlock=some g∨w1.heap.size≤g:=fun g hgo=>by
  rcases hnew g hgo with e | e
  ·exact .inl e
  ·exact .inr (by omega)
 obtain⟨p1,p2⟩:=h1.put hT hbk2 (by omega) hown2 hc0 hnew1
 obtain⟨ao,n',cap,hv'⟩:∃ ao n' cap,v' = .slice ao n' cap:=by
  rcases hown.2 with ⟨hv,_⟩ | ⟨g,cap,cur,fz,hv,_⟩
  ·exact⟨_,_,_,hv⟩
  ·exact⟨_,_,_,hv⟩
 subst hv'
 go_wp2
 go_ret
 refine⟨rfl,_,p1,⟨?_,?_,?_,?_,?_,?_,?_⟩⟩
 ·exact hg.os.trans t1.os
 ·exact hg.tape.trans t1.tape
 ·exact hg.output.trans t1.output
 ·have:=hg.size;simp at this;simp only[World.setCell,Array.size_modify];omega
 ·intro k hk hkb hkv
  rw[p2 k hkb,hg.block k (by simp;omega) (fun e=>hkv e.symm),Lib.alloc_old w1 _ k (by omega)]
  exact t1.same k hk hkb hkv
 ·exact Nat.le_trans t1.drawn hdr
 ·intro g hgo
  rcases hnew1 g hgo with e | e
  ·exact .inl e
  ·exact .inr (by omega)
theorem wr_inv[Dn]{M:Ms}{R0:Nat→Prop}{A:Asg}{st:St}{a:Act}{w:World}(I:Inv w M R0 A st a w){i j o:Nat}{T:TypeId}{l:List SV}{txt:List UInt8}(hi:st.ob[i]?=some (.st T l))(h1:l.all SV.w1=true)
 (hs:l[o]?=some (.sf i o)) (hb:l[o+1]?=some (.os j)) (hj:st.ob[j]?=some (.buf 5 txt)) (hij:i≠j) (x:List UInt8) {b:Nat} (he:A.η i = .pointer (some ⟨b,0,none⟩)) {f:FuncId} {args:Array Value} {r:Value}
 (hc:∀ cs v,BAt T b o txt cs v w→cs.size=l.length→Calls Tryz.prog f args w fun e w'=>e = .returned r∧∃ v',BAt T b o (txt++x) ((cs.setIfInBounds o (.pointer (some ⟨b,o,none⟩))).setIfInBounds (o+1) v') v' w'∧Turn b v v' w w') :
 Calls Tryz.prog f args w fun e w'=>e = .returned r∧∃ κ F,Inv w M R0 (A.pushT κ F) { st with ob:=(st.ob.set i (.st T (l.set (o+1) (.os st.ob.length)))).set j .dead++[.buf 5 (txt++x)] } a w':=by
 obtain⟨b',cs,e1,hf,hsz,hB,hP,hFj⟩:=bat_of I hi h1 hs hb hj hij
 rw[he] at e1;injection e1 with e1;injection e1 with e1;injection e1 with e1;subst e1
 have hlo1:o+1<l.length:=(List.getElem?_eq_some_iff.1 hb).1
 refine (hc cs (A.η j) hB hsz).mono ?_
 rintro e w' ⟨rfl,v',hB',ht⟩
 have hnum:A.n=st.ob.length:=I.num
 have hFt:∀ g,v'.ownBlock=some g→(w.heap.size≤g∧g<w'.heap.size)∨A.F j g:=fun g hg=>by
  rcases ht.new g hg with h | h
  ·exact .inr (hFj g h)
  ·exact .inl ⟨h,(hB'.own.lt g hg).2⟩
 refine⟨rfl,fun _=>v',fun g=>v'.ownBlock=some g,I.addM (.st T (l.set (o+1) (.os st.ob.length))) hi rfl hij hj rfl (fun _=>v') (fun g=>v'.ownBlock=some g) (.buf 5 (txt++x)) ⟨ht.os,ht.tape,ht.output,ht.size,fun _=>ht.drawn⟩
  (fun k hk hki hkj=>ht.same k hk (fun e=>hki (by rw[e];exact hf)) (fun e=>hkj (hFj k e))) (fun g hg=>hFt g hg) (fun hro=>⟨?_,?_⟩)⟩
 ·refine⟨b,_,?_,(Asg.push_Fo A _ _ (by rw[hnum];exact Nat.ne_of_lt (List.getElem?_eq_some_iff.1 hi).1) b).2 hf,hB'.blk,(pcs1 ?_).2 ⟨by simp[hsz],fun k s v h2 h3 => ?_⟩⟩
  ·rw[← he];exact (A.push_le _ _).η i (by rw[hnum];exact (List.getElem?_eq_some_iff.1 hi).1)
  ·rw[List.all_eq_true] at h1 ⊢
   intro s hs'
   rcases List.mem_or_eq_of_mem_set hs' with h | h
   ·exact h1 s h
   ·subst h;rfl
  ·have hil:i<A.n:=by rw[hnum];exact (List.getElem?_eq_some_iff.1 hi).1
   rw[Array.getElem?_toList] at h3
   by_cases hk1:o+1=k
   ·subst hk1
    rw[List.getElem?_set_self hlo1] at h2
    rw[Array.getElem?_setIfInBounds_self_of_lt (by simp;omega)] at h3
    injection h2 with h2;injection h3 with h3;subst h2;subst h3
    refine⟨⟨by rw[← hnum];exact Nat.lt_succ_self _,?_⟩,?_⟩
    ·rw[← hnum];exact (Asg.push_η A (fun _=>v') (fun g=>v'.ownBlock=some g)).symm
    ·rcases hB'.own.2 with ⟨h4,_⟩ | ⟨g,cap,cur,fz,h4,_⟩<;>rw[h4]<;>rfl
   ·rw[List.getElem?_set_ne hk1] at h2
    rw[Array.getElem?_setIfInBounds_ne hk1] at h3
    by_cases hk0:o=k
    ·subst hk0
     rw[Array.getElem?_setIfInBounds_self_of_lt (by omega)] at h3
     rw[hs] at h2
     injection h2 with h2;injection h3 with h3;subst h2;subst h3
     exact⟨⟨Nat.lt_succ_of_lt hil,.inr ⟨b,by rw[(A.push_le _ _).η i hil];exact he,rfl⟩⟩,rfl⟩
    ·rw[Array.getElem?_setIfInBounds_ne hk0] at h3
     obtain⟨m1,m2⟩:=hP k s v h2 h3
     exact⟨m1.keep (fun g hg=>⟨(hro g hg).1,Kb.of_eq (hro g hg).2⟩) (A.push_le _ _),m2⟩
 ·refine⟨?_,fun g hg=>(Asg.push_F A _ _ g).2 (by rw[Asg.push_η] at hg;exact hg)⟩
  rw[Asg.push_η];exact hB'.own
def obOut(txt:List UInt8):List Ob:=[.st 64 [.sf 0 0,.os 1],.buf 5 txt]
def oWSo:OCtr:=fun args ob k=>match args,ob with
 | [.ps 0,.d .str x],[.st 64 [.sf 0 0,.os 1],.buf 5 txt]=>txt.length+x.length≤1000000000∧k (.tp [.d I (x.length:Int),.d tErr (0:Int)]) (obOut (List.append txt x))
 | _,_=>False
def oWBo:OCtr:=fun args ob k=>match args,ob with
 | [.ps 0,.d (.int .u8) c],[.st 64 [.sf 0 0,.os 1],.buf 5 txt]=>(txt.length≤1000000000∧(c:Int)=10)∧k (.d tErr (0:Int)) (obOut (List.append txt [10]))
 | _,_=>False
def oSto:OCtr:=fun args ob k=>match args,ob with
 | [.ps 0],[.st 64 [.sf 0 0,.os 1],.buf 5 txt]=>txt.length≤1000000000∧k (.d .str txt) (obOut txt)
 | _,_=>False
theorem ps_val[Dn]{w:World}{ro:Nat→Prop}{A:Asg}{i:Nat}{v:Value}(h:SvOk w ro A (.ps i) v):v=A.η i:=h.2.1
theorem ownWSo[Dn]:OwnOk Tryz.prog [] 43 oWSo:=by
 intro args ob k h w M R0 A vals hB hrd IV
 unfold oWSo at h
 split at h
 ·rename_i x txt
  obtain⟨hl,hk⟩:=h
  obtain⟨g,cs0,e1,_⟩:=IV.ob 0 _ rfl
  have e2:=ps_val (IV.tm 0 _ rfl)
  rw[e1] at e2
  obtain⟨e3,hxl⟩:=str_val (IV.tm 1 _ rfl)
  have hv:=vals2 (show vals.size=2 from IV.len)
  rw[e2,e3] at hv
  rw[hv]
  rw[hv] at IV
  refine (ws_inv IV (i:=0) (j:=1) (o:=0) rfl rfl rfl rfl rfl (by decide) (by decide) (by kernel_rfl) x (by omega) e1).mono ?_
  rintro e w' ⟨rfl,κ,F,I'⟩
  have hn:inK .i64 (x.length:Int):=inK_len hxl
  have hs:∀ ro,SvOk w' ro (A.pushT κ F) (.tp [.d I (x.length:Int),.d tErr (0:Int)]) (.tuple #[.int .i64 x.length,.nilIface]):=by
   refine fun ro=>⟨_,rfl,rfl,fun j sv v h1 h2 => ?_⟩
   match j with
   | 0=>simp at h1 h2;subst h1;subst h2;exact⟨rfl,hn⟩
   | 1=>simp at h1 h2;subst h1;subst h2;exact .inl ⟨rfl,rfl⟩
   | j+2=>simp at h1
  have I2:=I'.out (M':=M) rfl (σ:=[0,2]) (by decide) (hs _)
  refine⟨_,_,_,_,rfl,hk,I2,fun i hi => ?_⟩
  have hi:i<1:=hi
  have:i=0:=by omega
  subst this
  exact (A.push_le κ F).η 0 (by rw[show A.n=2 from IV.num];decide)
 ·exact h.elim
theorem ownWBo[Dn]:OwnOk Tryz.prog [] 46 oWBo:=by
 intro args ob k h w M R0 A vals hB hrd IV
 unfold oWBo at h
 split at h
 ·rename_i c txt
  obtain⟨⟨hl,hc⟩,hk⟩:=h
  obtain⟨g,cs0,e1,_⟩:=IV.ob 0 _ rfl
  have e2:=ps_val (IV.tm 0 _ rfl)
  rw[e1] at e2
  have e3:vals.getD 1 undef = .int .u8 (10:UInt8).toNat:=by
   have h':[vals.getD 1 undef]=[Value.int .u8 c]∧inK .u8 c:=IV.tm 1 _ rfl
   injection h'.1 with h1
   rw[h1,hc];rfl
  have hv:=vals2 (show vals.size=2 from IV.len)
  rw[e2,e3] at hv
  rw[hv]
  rw[hv] at IV
  refine (wr_inv IV (i:=0) (j:=1) (o:=0) rfl rfl rfl rfl rfl (by decide) [10] e1 (fun cs v hB hsz=>wb_calls hB (by decide) (by rw[hsz];kernel_rfl) 10 (by omega))).mono ?_
  rintro e w' ⟨rfl,κ,F,I'⟩
  have hs:∀ ro,SvOk w' ro (A.pushT κ F) (.d tErr (0:Int)) .nilIface:=fun ro => .inl ⟨rfl,rfl⟩
  have I2:=I'.out (M':=M) rfl (σ:=[0,2]) (by decide) (hs _)
  refine⟨_,_,_,_,rfl,hk,I2,fun i hi => ?_⟩
  have hi:i<1:=hi
  have:i=0:=by omega
  subst this
  exact (A.push_le κ F).η 0 (by rw[show A.n=2 from IV.num];decide)
 ·exact h.elim
theorem ownSto[Dn]:OwnOk Tryz.prog [] 31 oSto:=by
 intro args ob k h w M R0 A vals hB hrd IV
 unfold oSto at h
 split at h
 ·rename_i txt
  obtain⟨hl,hk⟩:=h
  obtain⟨g,cs0,e1,_⟩:=IV.ob 0 _ rfl
  have e2:=ps_val (IV.tm 0 _ rfl)
  rw[e1] at e2
  have hv:=vals1 (show vals.size=1 from IV.len)
  rw[e2] at hv
  rw[hv]
  rw[hv] at IV
  refine (st_inv IV (i:=0) (j:=1) (o:=0) rfl rfl rfl rfl rfl (by decide) e1).mono ?_
  rintro e w' ⟨rfl,I'⟩
  have hs:∀ ro,SvOk w' ro A (.d .str txt) (.string ⟨txt.toArray⟩):=fun ro=>⟨rfl,Nat.le_trans hl (by decide)⟩
  have I2:=I'.out (M':=M) rfl (σ:=[0,1]) (by decide) (hs _)
  refine⟨_,_,_,_,rfl,hk,I2,fun i hi => ?_⟩
  have hi:i<1:=hi
  have:i=0:=by omega
  subst this
  rfl
 ·exact h.elim
open Go.Vc Go.Proofs Go.RowKit
section
variable {n:Nat} {W:Nat→Int→Prop} {H:Nat→Nat→Va→Prop} {t:Net}
variable {t0:Net}
end
open Go.Vc Go.Proofs Go.RowKit
open Go.Vc Go.Proofs Go.RowKit
open Go.Vc Go.Proofs Go.RowKit
def oBNewA:OCtr:=fun args ob k=>match args,ob with
 | [.d (.int .i64) n],[]=>inB n 1 5=true∧k (.tp [.ps 0,.d tErr (0:Int)]) (obBk (newF (n:Int).toNat) [] 0)
 | _,_=>False
theorem ownBNewA:OwnOk Tryz.prog [] 25 oBNewA:=by
 intro args ob k h
 refine ownBNew args ob k ?_
 unfold oBNewA at h
 split at h
 ·exact⟨fun e=>(by rw[h.1] at e;cases e),fun _=>h.2⟩
 ·exact h.elim
open Go.Vc Go.Proofs Go.RowKit
def Erun:Env:={ Ev with tys:=(64,tBd)::(62,.ptr tBd)::Ev.tys,pb:=64::Ev.pb,pz:=[5,6] }
theorem Erun_ok:EnvOk Tryz.prog Erun:=EnvOk.of_list (by kernel_rfl) (by kernel_rfl) (by kernel_rfl)
def obRun(b:BS)(txt:List UInt8):List Ob:=[.st 87 [.ps 1],.st 66 [.ps 2,.sf 1 1,.os 3,.d I b.2.2],.st 96 [.os 4,.os 5],.buf 5 b.2.1,.row 98 tRow b.1.1,.row 3 I b.1.2.1,.st 64 [.sf 6 0,.os 7],.buf 5 txt]
def cRun:Ctr:=cdet [.str] (fun (_:List UInt8)=>True) (fun (s:List UInt8)=>[⟨.str,runF s⟩])
structure RunSt(s:List UInt8)(x:Nat):Prop where
 le:x≤(linesT s).length
 few:s.length≤3000
def anRun(s:List UInt8):Ann:=[joinAll,
 meetAt 8 Unit [(1006,0,.d .un),(2006,5,.sl 0 (.d .nm))] (fun st _=>{ St.at (St.only st [0]) [(5,.ps 0),(6,.ps 6)] with ob:=obRun (newF 3,[],0) [] }) (fun _ _=>s.length≤3000),
 rangeAt 10 .str Nat (fun x=>((linesF s).map (·.1)).take x) (fun st x=>{ St.only st [5,6,23] with ob:=obRun (rnB (linesT s) x) (rnS (linesT s) x)++[.var 9 .str (restV linesF s x)] }) (fun _ x=>RunSt s x)]
open Go.Vc Go.Proofs Go.RowKit
def cCalled:Ctr:=cdet [I] (fun (_:Int)=>True) (fun (n:Int)=>[⟨.str,toldS n⟩])
structure AnsOk(x:RB)(s:List UInt8):Prop where
 inv:∃ b,DInv b∧Rl 3 b x
 le:s.length≤4000
def cAns:Ctr:=cdet [tRB,.str] (fun (x:RB) s=>AnsOk x s) (fun (x:RB) s=>[⟨tRB,anT x s⟩,⟨.str,anS x s⟩])
def isPut(s:List UInt8):Prop:=((lnW s).getD 0 []=wWrite∧(rnN s).length=3)∨((lnW s).getD 0 []=wSync∧(rnN s).length=2)
def isRd(s:List UInt8):Prop:=(lnW s).getD 0 []=wRead∧(rnN s).length=2
def isCr(s:List UInt8):Prop:=(lnW s).getD 0 []=wCrash∧(rnN s).length=1
structure AnNo(s:List UInt8):Prop where
 ok:lnOk s=true
 put:¬ isPut s
structure AnRd(s:List UInt8)(i m:Nat):Prop where
 ok:lnOk s=true
 put:¬ isPut s
 rd:isRd s
 b:rrB (rnN s)=true
 le:i≤m
structure AnNo2(s:List UInt8):Prop where
 ok:lnOk s=true
 put:¬ isPut s
 rd:¬ isRd s
structure AnCr(s:List UInt8):Prop where
 ok:lnOk s=true
 put:¬ isPut s
 rd:¬ isRd s
 cr:isCr s
structure AnW(s:List UInt8)(i:Nat):Prop where
 le:i≤((lnW s).drop 1).length
 ok:(((lnW s).drop 1).take i).all w7=true
def obA(x:RB):List Ob:=[.var 45 tRB x,.var 45 tRB rb0]
def stA(x:RB)(s:List UInt8)(st:St):St:={ St.at (St.only st [2,4]) [(6,.d (.sl .str) (cutL s 32)),(7,.d (.sl I) (rnN s))] with ob:=obA x }
def anAns(x:RB)(s:List UInt8):Ann:=[joinAll,freezeAt 10 [7],
 loopAt 4 Nat [(7,3,.d I)] (fun st i=>{ St.at (St.only st [2,4]) [(6,.d (.sl .str) (cutL s 32)),(7,.os 2),(8,.d I ((i:Int)+1))] with ob:=[.var 45 tRB x,.var 45 tRB rb0,.row 3 I ((((lnW s).drop 1).take i).map numN)] }) (fun _ i=>AnW s i) (fun i=>((lnW s).drop 1).length - i),
 meetAt 13 Unit [] (fun st _=>stA x s st) (fun _ _=>AnNo s),
 loopAt 18 Nat [] (fun st i=>{ St.at (St.only st [2,4]) [(13,.d .str (valsS (rrV x (rnN s)) i)),(14,.d (.sl tV) (rrV x (rnN s))),(15,.d I (i:Int))] with ob:=obA x }) (fun _ i=>AnRd s i (rrV x (rnN s)).length) (fun i=>(rrV x (rnN s)).length - i),
 meetAt 22 Unit [] (fun st _=>stA x s st) (fun _ _=>AnNo2 s),
 meetAt 26 Unit [] (fun st _=>{ St.at (St.only st [2,4]) [(16,.d I (rcN x (rnN s)))] with ob:=obA x }) (fun _ _=>AnCr s)]
structure SesSt(s:List UInt8)(k f:Nat):Prop where
 le:k≤(linesT s).length
 eq:(linesT s).drop k=linesT (s.drop f)
 few:s.length≤3000
 fl:f≤s.length+1
structure SesIn(s:List UInt8)(f:Int)(i:Nat):Prop where
 lo:f≤(i:Int)
 le:i≤s.length
 end':(i:Int)≤f+(endD (s.drop f.toNat):Nat)
def cSes:Ctr:=cdet [.str] (fun (_:List UInt8)=>True) (fun (s:List UInt8)=>[⟨.str,seF s⟩])
def anSes(s:List UInt8):Ann:=[joinAll,
 loopAt 6 (Nat×Nat) [] (fun st kf=>{ St.at (St.only st [0]) [(3,.pv tRB 0 []),(4,.d .str (seS (linesT s) kf.1)),(5,.d I (kf.2:Int))] with ob:=[.var 45 tRB (seB (linesT s) kf.1)] }) (fun _ kf=>SesSt s kf.1 kf.2) (fun kf=>s.length+1 - kf.2),
 loopAt 8 Nat [] (fun st i=>St.at (St.only st [0,3,4,5]) [(6,.d I (i:Int))]) (fun st i=>SesIn s (st.i 5) i) (fun i=>s.length - i),
 meetAt 10 Unit [] (fun st _=>St.at (St.only st [0,3,4,5]) [(6,.d I (st.i 5+(endD (s.drop (st.i 5).toNat):Nat)))]) (fun _ _=>s.length≤3000)]
open Go.Vc
set_option linter.unusedVariables false
theorem vcCalled(n:Int)(k:List Dat→Prop):vcF ⟨Elr,[(69,cErrN)],[],[],[]⟩ [joinAll] (Tryz.f74.body.getD .skip) Tryz.f74.ntmps [(.tmp 2,.str)] [⟨I,n⟩] k=(
 (decide (n=0)=true→k [Dat.mk Ty.str [(111:UInt8),107]])∧(decide (n=0)=false→True∧k [Dat.mk Ty.str (errS n)])):=by kernel_rfl
abbrev vcAnsq1(x_1:Nat)(s:List UInt8):=(List.map numN (List.take x_1 (List.drop 1 (lnW s))))
abbrev vcAnsq2(x:RB)(s:List UInt8):=(List.drop (Int.toNat 0) (List.take (rcN x (rnN s)).toNat x.snd.fst))
theorem vcAns(x:RB)(s:List UInt8)(k:List Dat→Prop):vcF ⟨Elr,[(39,cCutR),(66,cNumR),(68,cPutR),(74,cCalled),(37,cWithin),(75,cDigits),(20,cOpenR)],[],[],[]⟩ (anAns x s) (Tryz.f47.body.getD .skip) Tryz.f47.ntmps [(.cell 4 45,tRB),(.tmp 5,.str)] [⟨tRB,x⟩,⟨.str,s⟩] k=(
 CutOk s∧(∃ (x_1:Nat),AnW s x_1∧(([]:List Nat)=[]∧([]:List Nat)=[]∧cutL s 32=cutL s 32∧True∧1=(↑x_1:Int)+(1:I.D)∧True)∧((45=45∧x=x)∧(45=45∧(((0:Int),[],[],()),[],(0:Int),())=rb0)∧(3=3∧[]=List.map numN (List.take x_1 (List.drop 1 (lnW s))))∧True)∧True)∧∀ (x_1:Nat),AnW s x_1→(decide ((↑x_1:Int)+(1:I.D)<(↑(cutL s 32).length:Int))=true→0≤(↑x_1:Int)+(1:I.D)∧(↑x_1:Int)+(1:I.D)<(↑(cutL s 32).length:Int)∧True∧((!numB ((cutL s 32).getD ((↑x_1:Int)+(1:I.D)).toNat []))=true→k [Dat.mk tRB x,Dat.mk Ty.str badS])∧((!numB ((cutL s 32).getD ((↑x_1:Int)+(1:I.D)).toNat []))=false→0≤(↑x_1:Int)+(1:I.D)∧(↑x_1:Int)+(1:I.D)<(↑(cutL s 32).length:Int)∧(decide (7<(↑((cutL s 32).getD ((↑x_1:Int)+(1:I.D)).toNat []).length:Int))=true→k [Dat.mk tRB x,Dat.mk Ty.str badS])∧(decide (7<(↑((cutL s 32).getD ((↑x_1:Int)+(1:I.D)).toNat []).length:Int))=false→(vcAnsq1 x_1 s).length+((List.replicate 1 0).set 0 (numN ((cutL s 32).getD ((↑x_1:Int)+(1:I.D)).toNat []))).length≤1000000000∧inK IntKind.i64 ((↑x_1:Int)+(1:I.D)+(1:Int))∧∃ (x_2:Nat),AnW s x_2∧(List.drop 1 (lnW s)).length - x_2<(List.drop 1 (lnW s)).length - x_1∧(([]:List Nat)=[]∧([]:List Nat)=[]∧cutL s 32=cutL s 32∧True∧(↑x_1:Int)+(1:I.D)+1=(↑x_2:Int)+(1:I.D)∧True)∧((45=45∧x=x)∧(45=45∧rb0=rb0)∧(3=3∧(vcAnsq1 x_1 s).append ((List.replicate 1 0).set 0 (numN ((cutL s 32).getD ((↑x_1:Int)+(1:I.D)).toNat [])))=List.map numN (List.take x_2 (List.drop 1 (lnW s))))∧True)∧True)))∧(decide ((↑x_1:Int)+(1:I.D)<(↑(cutL s 32).length:Int))=false→(0≤(0:Int)∧0<(↑(cutL s 32).length:Int)∧(((cutL s 32).getD (Int.toNat 0) []==[(119:UInt8),114,105,116,101])=true→(decide ((↑(vcAnsq1 x_1 s).length:Int)=3)=true→PutOk x (vcAnsq1 x_1 s)∧(True∧True)∧k [Dat.mk tRB (rPT x (vcAnsq1 x_1 s)),Dat.mk Ty.str (toldS (rPE x (vcAnsq1 x_1 s)))])∧(decide ((↑(vcAnsq1 x_1 s).length:Int)=3)=false→0≤(0:Int)∧0<(↑(cutL s 32).length:Int)∧(((cutL s 32).getD (Int.toNat 0) []==[(115:UInt8),121,110,99])=true→(decide ((↑(vcAnsq1 x_1 s).length:Int)=2)=true→PutOk x (vcAnsq1 x_1 s)∧(True∧True)∧k [Dat.mk tRB (rPT x (vcAnsq1 x_1 s)),Dat.mk Ty.str (toldS (rPE x (vcAnsq1 x_1 s)))])∧(decide ((↑(vcAnsq1 x_1 s).length:Int)=2)=false→∃ (x_2:Unit),AnNo s∧(([]:List Nat)=[]∧([]:List Nat)=[]∧cutL s 32=cutL s 32∧List.map numN (List.take x_1 (List.drop 1 (lnW s)))=rnN s∧True)∧((45=45∧x=x)∧(45=45∧rb0=rb0)∧True)∧True))∧(((cutL s 32).getD (Int.toNat 0) []==[(115:UInt8),121,110,99])=false→∃ (x_2:Unit),AnNo s∧(([]:List Nat)=[]∧([]:List Nat)=[]∧cutL s 32=cutL s 32∧List.map numN (List.take x_1 (List.drop 1 (lnW s)))=rnN s∧True)∧((45=45∧x=x)∧(45=45∧rb0=rb0)∧True)∧True)))∧(((cutL s 32).getD (Int.toNat 0) []==[(119:UInt8),114,105,116,101])=false→0≤(0:Int)∧0<(↑(cutL s 32).length:Int)∧(((cutL s 32).getD (Int.toNat 0) []==[(115:UInt8),121,110,99])=true→(decide ((↑(vcAnsq1 x_1 s).length:Int)=2)=true→PutOk x (vcAnsq1 x_1 s)∧(True∧True)∧k [Dat.mk tRB (rPT x (vcAnsq1 x_1 s)),Dat.mk Ty.str (toldS (rPE x (vcAnsq1 x_1 s)))])∧(decide ((↑(vcAnsq1 x_1 s).length:Int)=2)=false→∃ (x_2:Unit),AnNo s∧(([]:List Nat)=[]∧([]:List Nat)=[]∧cutL s 32=cutL s 32∧List.map numN (List.take x_1 (List.drop 1 (lnW s)))=rnN s∧True)∧((45=45∧x=x)∧(45=45∧rb0=rb0)∧True)∧True))∧(((cutL s 32).getD (Int.toNat 0) []==[(115:UInt8),121,110,99])=false→∃ (x_2:Unit),AnNo s∧(([]:List Nat)=[]∧([]:List Nat)=[]∧cutL s 32=cutL s 32∧List.map numN (List.take x_1 (List.drop 1 (lnW s)))=rnN s∧True)∧((45=45∧x=x)∧(45=45∧rb0=rb0)∧True)∧True)))∧∀ (x_2:Unit),AnNo s→(0≤(0:Int)∧0<(↑(cutL s 32).length:Int)∧(((cutL s 32).getD (Int.toNat 0) []==[(114:UInt8),101,97,100])=true→(decide ((↑(rnN s).length:Int)=2)=true→0≤(0:Int)∧0<(↑(rnN s).length:Int)∧True∧(inB ((rnN s).getD (Int.toNat 0) 0) 0 2=true→0≤(1:Int)∧1<(↑(rnN s).length:Int)∧True∧(inB ((rnN s).getD (Int.toNat 1) 0) 0 3=true→(0≤(0:Int)∧0<(↑(rnN s).length:Int)∧inK IntKind.i64 ((rnN s).getD (Int.toNat 0) 0*(4:Int))∧0≤(1:Int)∧1<(↑(rnN s).length:Int)∧inK IntKind.i64 ((rnN s).getD (Int.toNat 0) 0*4+(rnN s).getD (Int.toNat 1) 0)∧0≤(rnN s).getD (Int.toNat 0) 0*4+(rnN s).getD (Int.toNat 1) 0∧(rnN s).getD (Int.toNat 0) 0*4+(rnN s).getD (Int.toNat 1) 0<(↑(List.length x.fst.snd.fst):Int)∧True)∧(∃ (x_3:Nat),AnRd s x_3 (rrV x (rnN s)).length∧(([]:List Nat)=[]∧([]:List Nat)=[]∧[(118:UInt8),97,108,117,101,115]=valsS (rrV x (rnN s)) x_3∧List.getD x.fst.snd.fst ((rnN s).getD (Int.toNat 0) 0*4+(rnN s).getD (Int.toNat 1) 0).toNat []=rrV x (rnN s)∧0=(↑x_3:Int)∧True)∧((45=45∧x=x)∧(45=45∧rb0=rb0)∧True)∧True)∧∀ (x_3:Nat),AnRd s x_3 (rrV x (rnN s)).length→(decide ((↑x_3:Int)<(↑(rrV x (rnN s)).length:Int))=true→(valsS (rrV x (rnN s)) x_3).length+[(32:UInt8)].length≤maxLen∧0≤(↑x_3:Int)∧(↑x_3:Int)<(↑(rrV x (rnN s)).length:Int)∧DigOk ((rrV x (rnN s)).getD (↑x_3:Int).toNat ([],(0:Int),())).snd.fst∧((valsS (rrV x (rnN s)) x_3).append [(32:UInt8)]).length+(Lib.decDigits (Int.toNat ((rrV x (rnN s)).getD (↑x_3:Int).toNat ([],(0:Int),())).snd.fst)).length≤maxLen∧inK IntKind.i64 ((↑x_3:Int)+1)∧∃ (x_4:Nat),AnRd s x_4 (rrV x (rnN s)).length∧(rrV x (rnN s)).length - x_4<(rrV x (rnN s)).length - x_3∧(([]:List Nat)=[]∧([]:List Nat)=[]∧((valsS (rrV x (rnN s)) x_3).append [(32:UInt8)]).append (Lib.decDigits (Int.toNat ((rrV x (rnN s)).getD (↑x_3:Int).toNat ([],(0:Int),())).snd.fst))=valsS (rrV x (rnN s)) x_4∧rrV x (rnN s)=rrV x (rnN s)∧(↑x_3:Int)+1=(↑x_4:Int)∧True)∧((45=45∧x=x)∧(45=45∧rb0=rb0)∧True)∧True)∧(decide ((↑x_3:Int)<(↑(rrV x (rnN s)).length:Int))=false→k [Dat.mk tRB x,Dat.mk Ty.str (valsS (rrV x (rnN s)) x_3)]))∧(inB ((rnN s).getD (Int.toNat 1) 0) 0 3=false→k [Dat.mk tRB x,Dat.mk Ty.str [(118:UInt8),97,108,117,101,115]]))∧(inB ((rnN s).getD (Int.toNat 0) 0) 0 2=false→k [Dat.mk tRB x,Dat.mk Ty.str [(118:UInt8),97,108,117,101,115]]))∧(decide ((↑(rnN s).length:Int)=2)=false→∃ (x_3:Unit),AnNo2 s∧(([]:List Nat)=[]∧([]:List Nat)=[]∧cutL s 32=cutL s 32∧rnN s=rnN s∧True)∧((45=45∧x=x)∧(45=45∧rb0=rb0)∧True)∧True))∧(((cutL s 32).getD (Int.toNat 0) []==[(114:UInt8),101,97,100])=false→∃ (x_3:Unit),AnNo2 s∧(([]:List Nat)=[]∧([]:List Nat)=[]∧cutL s 32=cutL s 32∧rnN s=rnN s∧True)∧((45=45∧x=x)∧(45=45∧rb0=rb0)∧True)∧True))∧∀ (x_3:Unit),AnNo2 s→0≤(0:Int)∧0<(↑(cutL s 32).length:Int)∧(((cutL s 32).getD (Int.toNat 0) []==[(99:UInt8),114,97,115,104])=true→(decide ((↑(rnN s).length:Int)=1)=true→0≤(0:Int)∧0<(↑(rnN s).length:Int)∧((decide ((↑(List.length x.snd.fst):Int)<(rnN s).getD (Int.toNat 0) 0)=true→∃ (x_4:Unit),AnCr s∧(([]:List Nat)=[]∧([]:List Nat)=[]∧(↑(List.length x.snd.fst):Int)=rcN x (rnN s)∧True)∧((45=45∧x=x)∧(45=45∧rb0=rb0)∧True)∧True)∧(decide ((↑(List.length x.snd.fst):Int)<(rnN s).getD (Int.toNat 0) 0)=false→∃ (x_4:Unit),AnCr s∧(([]:List Nat)=[]∧([]:List Nat)=[]∧(rnN s).getD (Int.toNat 0) 0=rcN x (rnN s)∧True)∧((45=45∧x=x)∧(45=45∧rb0=rb0)∧True)∧True))∧∀ (x_4:Unit),AnCr s→0≤(0:Int)∧0≤rcN x (rnN s)∧rcN x (rnN s)≤(↑(List.length x.snd.fst):Int)∧OpenOk 3 (vcAnsq2 x s)∧((!decide ((opR 3 (vcAnsq2 x s)).snd.snd=(0:Int)))=true→(True∧True)∧k [Dat.mk tRB x,Dat.mk Ty.str (toldS (opR 3 (vcAnsq2 x s)).snd.snd)])∧((!decide ((opR 3 (vcAnsq2 x s)).snd.snd=(0:Int)))=false→DigOk (opR 3 (vcAnsq2 x s)).snd.fst∧[(102:UInt8),111,117,110,100,32].length+(Lib.decDigits (opR 3 (vcAnsq2 x s)).snd.fst.toNat).length≤maxLen∧True∧k [Dat.mk tRB (opR 3 (vcAnsq2 x s)).fst,Dat.mk Ty.str ((102:UInt8)::111::117::110::100::32::Lib.decDigits (opR 3 (vcAnsq2 x s)).snd.fst.toNat)]))∧(decide ((↑(rnN s).length:Int)=1)=false→k [Dat.mk tRB x,Dat.mk Ty.str badS]))∧(((cutL s 32).getD (Int.toNat 0) []==[(99:UInt8),114,97,115,104])=false→k [Dat.mk tRB x,Dat.mk Ty.str badS]))):=by kernel_rfl
abbrev vcSesq1(x:Nat×Nat)(s:List UInt8):=(List.drop (↑x.snd:Int).toNat (List.take ((↑x.snd:Int)+(↑(endD (List.drop (↑x.snd:Int).toNat s)):Int)).toNat s))
abbrev vcSesq2(x:Nat×Nat)(s:List UInt8):=(↑(endD (List.drop (↑x.snd:Int).toNat s)):Int)
abbrev vcSesq3(s:List UInt8)(x:Nat×Nat):=[SV.d tRB (anT (seB (linesT s) x.fst) (vcSesq1 x s)),SV.d Ty.str (anS (seB (linesT s) x.fst) (vcSesq1 x s))]
theorem vcSes(s:List UInt8)(k:List Dat→Prop):vcF ⟨Elr,[(38,cNewR),(47,cAns)],[],[],[]⟩ (anSes s) (Tryz.f24.body.getD .skip) Tryz.f24.ntmps [(.tmp 2,.str)] [⟨.str,s⟩] k=(
 (decide (3000<(↑s.length:Int))=true→k [Dat.mk Ty.str [(116:UInt8),111,111,32,108,111,110,103,10]])∧(decide (3000<(↑s.length:Int))=false→((0≤(3:Int)∧3≤(5:Int))∧True)∧(∃ (x:Nat×Nat),SesSt s x.fst x.snd∧(s=s∧([]:List Nat)=[]∧[]=seS (linesT s) x.fst∧0=(↑x.snd:Int)∧True)∧((45=45∧(((3:Int),List.replicate (3*(4:Int)).toNat [],List.replicate (Int.toNat 3) 0,()),[],(0:Int),())=seB (linesT s) x.fst)∧True)∧True)∧∀ (x:Nat×Nat),SesSt s x.fst x.snd→(decide ((↑x.snd:Int)<(↑s.length:Int))=true→((∃ (x_1:Nat),SesIn s (↑x.snd:Int) x_1∧(s=s∧([]:List Nat)=[]∧seS (linesT s) x.fst=seS (linesT s) x.fst∧(↑x.snd:Int)=(↑x.snd:Int)∧(↑x.snd:Int)=(↑x_1:Int)∧True)∧((45=45∧seB (linesT s) x.fst=seB (linesT s) x.fst)∧True)∧True)∧∀ (x_1:Nat),SesIn s (↑x.snd:Int) x_1→(decide ((↑x_1:Int)<(↑s.length:Int))=true→0≤(↑x_1:Int)∧(↑x_1:Int)<(↑s.length:Int)∧((!decide ((↑(s.getD (↑x_1:Int).toNat (0:UInt8)).toNat:Int)=10))=true→inK IntKind.i64 ((↑x_1:Int)+1)∧∃ (x_2:Nat),SesIn s (↑x.snd:Int) x_2∧s.length - x_2<s.length - x_1∧(s=s∧([]:List Nat)=[]∧seS (linesT s) x.fst=seS (linesT s) x.fst∧(↑x.snd:Int)=(↑x.snd:Int)∧(↑x_1:Int)+1=(↑x_2:Int)∧True)∧((45=45∧seB (linesT s) x.fst=seB (linesT s) x.fst)∧True)∧True)∧((!decide ((↑(s.getD (↑x_1:Int).toNat (0:UInt8)).toNat:Int)=10))=false→∃ (x_2:Unit),s.length.le 3000∧(s=s∧([]:List Nat)=[]∧seS (linesT s) x.fst=seS (linesT s) x.fst∧(↑x.snd:Int)=(↑x.snd:Int)∧(↑x_1:Int)=(↑x.snd:Int)+(vcSesq2 x s)∧True)∧((45=45∧seB (linesT s) x.fst=seB (linesT s) x.fst)∧True)∧True))∧(decide ((↑x_1:Int)<(↑s.length:Int))=false→∃ (x_2:Unit),s.length.le 3000∧(s=s∧([]:List Nat)=[]∧seS (linesT s) x.fst=seS (linesT s) x.fst∧(↑x.snd:Int)=(↑x.snd:Int)∧(↑x_1:Int)=(↑x.snd:Int)+(vcSesq2 x s)∧True)∧((45=45∧seB (linesT s) x.fst=seB (linesT s) x.fst)∧True)∧True))∧∀ (x_1:Unit),s.length.le 3000→0≤(↑x.snd:Int)∧(↑x.snd:Int)≤(↑x.snd:Int)+(vcSesq2 x s)∧(↑x.snd:Int)+(vcSesq2 x s)≤(↑s.length:Int)∧AnsOk (seB (linesT s) x.fst) (vcSesq1 x s)∧0≤(↑x.snd:Int)∧(↑x.snd:Int)≤(↑x.snd:Int)+(vcSesq2 x s)∧(↑x.snd:Int)+(vcSesq2 x s)≤(↑s.length:Int)∧AnsOk (seB (linesT s) x.fst) (vcSesq1 x s)∧(s=s∧SV.pv tRB 0 []=SV.pv tRB 0 []∧seS (linesT s) x.fst=seS (linesT s) x.fst∧(↑x.snd:Int)=(↑x.snd:Int)∧(↑x.snd:Int)+(vcSesq2 x s)=(↑x.snd:Int)+(vcSesq2 x s)∧SV.tp (vcSesq3 s x)=SV.tp (vcSesq3 s x)∧seB (linesT s) x.fst=seB (linesT s) x.fst∧s=s∧(↑x.snd:Int)=(↑x.snd:Int)∧(↑x.snd:Int)+(vcSesq2 x s)=(↑x.snd:Int)+(vcSesq2 x s)∧List.drop (↑x.snd:Int).toNat (List.take ((↑x.snd:Int)+(vcSesq2 x s)).toNat s)=List.drop (↑x.snd:Int).toNat (List.take ((↑x.snd:Int)+(vcSesq2 x s)).toNat s)∧SV.tp (vcSesq3 s x)=SV.tp (vcSesq3 s x)∧anT (seB (linesT s) x.fst) (vcSesq1 x s)=anT (seB (linesT s) x.fst) (vcSesq1 x s)∧anS (seB (linesT s) x.fst) (vcSesq1 x s)=anS (seB (linesT s) x.fst) (vcSesq1 x s)∧True)∧(seS (linesT s) x.fst).length+(anS (seB (linesT s) x.fst) (vcSesq1 x s)).length≤maxLen∧((seS (linesT s) x.fst).append (anS (seB (linesT s) x.fst) (vcSesq1 x s))).length+[(10:UInt8)].length≤maxLen∧inK IntKind.i64 ((↑x.snd:Int)+(vcSesq2 x s)+1)∧∃ (x_2:Nat×Nat),SesSt s x_2.fst x_2.snd∧s.length+1 - x_2.snd<s.length+1 - x.snd∧(s=s∧([]:List Nat)=[]∧((seS (linesT s) x.fst).append (anS (seB (linesT s) x.fst) (vcSesq1 x s))).append [(10:UInt8)]=seS (linesT s) x_2.fst∧(↑x.snd:Int)+(vcSesq2 x s)+1=(↑x_2.snd:Int)∧True)∧((45=45∧anT (seB (linesT s) x.fst) (vcSesq1 x s)=seB (linesT s) x_2.fst)∧True)∧True)∧(decide ((↑x.snd:Int)<(↑s.length:Int))=false→k [Dat.mk Ty.str (seS (linesT s) x.fst)]))):=by kernel_rfl
theorem vcDA(v:GV)(s:List UInt8)(k:List Dat→Prop):vcF ⟨Elr,[(23,cRun),(24,cSes)],glU v,[],[]⟩ [joinAll] (Tryz.f7.body.getD .skip) Tryz.f7.ntmps [(.tmp 2,.bool)] [⟨.str,s⟩] k=(
 True∧True∧k [Dat.mk Ty.bool (runF s==seF s)]):=by kernel_rfl
open Go.Vc Go.Proofs Go.RowKit
theorem poE_nn{n:Int}(hb:inB n 1 5=true)(w:List (List UInt8)):∀ f k,0≤(poE n w k f).2.1
 | 0,k=>(BInv.lines hb w k).ok.lo
 | f+1,k=>by
  have h1:=(BInv.lines hb w k).ok.lo
  have e:poE n w k (f+1)=if pLE (poB n w k) (w.getD k [])=0 then poE n w (k+1) f else (poB n w k,(poB n w k).2.2+1,pLE (poB n w k) (w.getD k [])):=rfl
  rw[e]
  split
  ·exact poE_nn hb w f (k+1)
  ·show 0≤(poB n w k).2.2+1;omega
theorem okCalled:PlainOk Tryz.prog [] 74 cCalled:=by
 refine plain_of (CxOk.mk' Elr_ok (by kernel_rfl) mixed (gl:=[]) (GOk.cons okErrN Tryz.func69 (by kernel_rfl) (by kernel_rfl) GOk.nil) GoOk.nil noIt) Tryz.func74 (c:=Tryz.f74.body.getD .skip) (rvs:=[(.tmp 2,.str)]) (by kernel_rfl) (by kernel_rfl) (by kernel_rfl) ?_
 intro ds k ⟨hp,hk⟩ hwf
 obtain⟨n,rfl,-⟩:=dest1 hp
 have hk:k [⟨.str,toldS n⟩]:=hk
 refine⟨[joinAll],?_⟩
 rw[vcCalled]
 unfold toldS at hk
 refine⟨fun h => ?_,fun h => ?_⟩
 ·rw[if_pos (of_decide_eq_true h)] at hk;exact hk
 ·rw[if_neg (of_decide_eq_false h)] at hk;exact⟨trivial,hk⟩
theorem okAns:PlainOk Tryz.prog [] 47 cAns:=by
 refine plain_of (CxOk.mk' Elr_ok (by kernel_rfl) mixed (gl:=[]) (GOk.cons okCutR Tryz.func39 (by kernel_rfl) (by kernel_rfl) (GOk.cons okNumR Tryz.func66 (by kernel_rfl) (by kernel_rfl) (GOk.cons okPutR Tryz.func68 (by kernel_rfl) (by kernel_rfl) (GOk.cons okCalled Tryz.func74 (by kernel_rfl) (by kernel_rfl) (GOk.cons okRIn5 Tryz.func37 (by kernel_rfl) (by kernel_rfl) (GOk.cons okDigits Tryz.func75 (by kernel_rfl) (by kernel_rfl) (GOk.cons okOpenR Tryz.func20 (by kernel_rfl) (by kernel_rfl) GOk.nil))))))) GoOk.nil noIt) Tryz.func47 (c:=Tryz.f47.body.getD .skip) (rvs:=[(.cell 4 45,tRB),(.tmp 5,.str)]) (by kernel_rfl) (by kernel_rfl) (by kernel_rfl) ?_
 intro ds k ⟨hp,hk⟩ hwf
 obtain⟨x,s,rfl,hP⟩:=dest2 hp
 clear hp hwf
 revert hP hk
 revert x s
 intro (x:RB) (s:List UInt8) (hP:AnsOk x s) (hk:k [⟨tRB,anT x s⟩,⟨.str,anS x s⟩])
 refine⟨anAns x s,?_⟩
 rw[vcAns]
 unfold vcAnsq2 vcAnsq1
 obtain⟨⟨b,hD,hR⟩,hle⟩:=hP
 have one:(1:I.D)=(1:Int):=rfl
 have i0:Int.toNat 0=0:=rfl
 have i1:Int.toNat 1=1:=rfl
 have hwl:(lnW s).length≤4001:=by
  have h1:=splL_len 32 s
  have h2:s.count 32≤s.length:=List.count_le_length
  unfold lnW;omega
 have hw1:1≤(lnW s).length:=by rw[lnW_ne s,List.length_cons];omega
 have hdl:((lnW s).drop 1).length=(lnW s).length - 1:=List.length_drop
 have hat:∀ i,(lnW s).getD (i+1) []=((lnW s).drop 1).getD i []:=fun i=>by
  rw[List.getD_eq_getElem?_getD,List.getD_eq_getElem?_getD,List.getElem?_drop,Nat.add_comm]
 have hmx:3000000≤maxLen:=by decide
 have hbad:lnOk s=false→k [⟨tRB,x⟩,⟨.str,badS⟩]:=fun h=>by
  unfold anT anS at hk;rw[if_pos h,if_pos h] at hk;exact hk
 have hput:lnOk s=true→isPut s→PutOk x (rnN s)∧k [⟨tRB,rPT x (rnN s)⟩,⟨.str,toldS (rPE x (rnN s))⟩]:=fun h hp=>by
  have h0:¬ lnOk s=false:=by rw[h];decide
  have hl:(rnN s).length=3∨(rnN s).length=2:=hp.imp (·.2) (·.2)
  refine⟨?_,?_⟩
  ·obtain⟨H,I,R⟩:=hR
   exact BRel.ok I R hl
  ·unfold anT anS at hk
   rw[if_neg h0,if_neg h0] at hk
   by_cases h1:(lnW s).getD 0 []=wWrite∧(rnN s).length=3
   ·rw[if_pos h1,if_pos h1] at hk;exact hk
   ·rw[if_neg h1,if_neg h1] at hk
    have h2:=hp.resolve_left h1
    rw[if_pos h2,if_pos h2] at hk;exact hk
 have hrd:lnOk s=true→¬ isPut s→isRd s→k [⟨tRB,x⟩,⟨.str,rrS x (rnN s)⟩]:=fun h hp hr=>by
  have h0:¬ lnOk s=false:=by rw[h];decide
  unfold anT anS at hk
  rw[if_neg h0,if_neg h0,if_neg (fun h=>hp (.inl h)),if_neg (fun h=>hp (.inl h)),if_neg (fun h=>hp (.inr h)),if_neg (fun h=>hp (.inr h)),if_neg (show ¬ ((lnW s).getD 0 []=wCrash∧(rnN s).length=1) from fun h=>by
   have:=hr.1.symm.trans h.1
   exact absurd this (by decide)),if_pos (show (lnW s).getD 0 []=wRead∧(rnN s).length=2 from hr)] at hk
  exact hk
 have hno:lnOk s=true→¬ isPut s→¬ isRd s→¬ isCr s→k [⟨tRB,x⟩,⟨.str,badS⟩]:=fun h hp hr hc=>by
  have h0:¬ lnOk s=false:=by rw[h];decide
  unfold anT anS at hk
  rw[if_neg h0,if_neg h0,if_neg (fun h=>hp (.inl h)),if_neg (fun h=>hp (.inl h)),if_neg (fun h=>hp (.inr h)),if_neg (fun h=>hp (.inr h)),if_neg (show ¬ ((lnW s).getD 0 []=wCrash∧(rnN s).length=1) from hc),if_neg (show ¬ ((lnW s).getD 0 []=wRead∧(rnN s).length=2) from hr),if_neg (show ¬ ((lnW s).getD 0 []=wCrash∧(rnN s).length=1) from hc)] at hk
  exact hk
 have hcr:lnOk s=true→¬ isPut s→¬ isRd s→isCr s→k [⟨tRB,rcT x (rnN s)⟩,⟨.str,rcS x (rnN s)⟩]:=fun h hp hr hc=>by
  have h0:¬ lnOk s=false:=by rw[h];decide
  unfold anT anS at hk
  rw[if_neg h0,if_neg h0,if_neg (fun h=>hp (.inl h)),if_neg (fun h=>hp (.inl h)),if_neg (fun h=>hp (.inr h)),if_neg (fun h=>hp (.inr h)),if_pos (show (lnW s).getD 0 []=wCrash∧(rnN s).length=1 from hc),if_neg (show ¬ ((lnW s).getD 0 []=wRead∧(rnN s).length=2) from hr),if_pos (show (lnW s).getD 0 []=wCrash∧(rnN s).length=1 from hc)] at hk
  exact hk
 simp only[cut32,one,i0,i1,Int.toNat_natCast,List.drop_zero,decide_eq_true_eq,decide_eq_false_iff_not,true_and,and_true,inK_i64,Bool.not_eq_true',Bool.not_eq_false',beq_iff_eq,beq_eq_false_iff_ne]
 have hun:∀ i,i<((lnW s).drop 1).length→w7 (((lnW s).drop 1).getD i [])=false→lnOk s=false:=fun i hi h=>by
  refine List.all_eq_false.2 ⟨((lnW s).drop 1).getD i [],?_,by rw[h];decide⟩
  rw[List.getD_eq_getElem?_getD,List.getElem?_eq_getElem hi];exact List.getElem_mem hi
 refine⟨⟨by omega⟩,⟨0,⟨Nat.zero_le _,rfl⟩,rfl,rfl,rfl⟩,fun i hi=>⟨fun hlt => ?L,fun hge => ?E⟩⟩
 case L =>
  have et:((i:Int)+1).toNat=i+1:=by omega
  rw[et,hat i]
  have hil:i<((lnW s).drop 1).length:=by omega
  have hu:=hun i hil
  have eg:((lnW s).drop 1).getD i []=((lnW s).drop 1)[i]:=by rw[List.getD_eq_getElem?_getD,List.getElem?_eq_getElem hil];rfl
  refine⟨by omega,hlt,fun hn=>hbad (hu (by unfold w7;rw[hn];rfl)),fun hn=>⟨by omega,hlt,fun h7=>hbad (hu (by unfold w7;rw[decide_eq_false (by omega:¬ (((lnW s).drop 1).getD i []).length≤7),Bool.and_false])),fun h7=>⟨?_,by omega,i+1,⟨by omega,?_⟩,by omega,by omega,?_⟩⟩⟩
  ·simp only[List.length_map,List.length_take,List.length_set,List.length_replicate];omega
  ·rw[List.take_succ_eq_append_getElem hil,List.all_append,hi.ok,List.all_cons,← eg]
   unfold w7
   rw[hn,decide_eq_true (by omega:(((lnW s).drop 1).getD i []).length≤7)];rfl
  ·rw[List.take_succ_eq_append_getElem hil,List.map_append,eg];rfl
 case E =>
  have hil:i=((lnW s).drop 1).length:=by have:=hi.le;omega
  have hok:lnOk s=true:=by
   have:=hi.ok
   rw[hil,List.take_length] at this;exact this
  have hE:List.map numN (List.take i ((lnW s).drop 1))=rnN s:=by rw[hil,List.take_length];rfl
  have hl0:(0:Int)<((lnW s).length:Int):=by omega
  have hrn:=rnN_eq hok
  have hnn:∀ v∈rnN s,inK .i64 v∧0≤v:=by rw[hrn];exact lnN_k hok
  rw[hE]
  refine⟨⟨Int.le_refl _,hl0,fun hw=>⟨fun h3=>hput hok (.inl ⟨hw,by omega⟩),fun h3=>⟨Int.le_refl _,hl0,fun hs=>absurd (hw.symm.trans hs) (by decide),fun _=>⟨(),⟨hok,fun hp=>hp.elim (fun h=>h3 (by omega)) (fun h=>absurd (hw.symm.trans h.1) (by decide))⟩,rfl⟩⟩⟩,
   fun hw=>⟨Int.le_refl _,hl0,fun hs=>⟨fun h2=>hput hok (.inr ⟨hs,by omega⟩),fun h2=>⟨(),⟨hok,fun hp=>hp.elim (fun h=>hw h.1) (fun h=>h2 (by omega))⟩,rfl⟩⟩,fun hs=>⟨(),⟨hok,fun hp=>hp.elim (fun h=>hw h.1) (fun h=>hs h.1)⟩,rfl⟩⟩⟩,
   fun _ hn=>⟨⟨Int.le_refl _,hl0,fun hw=>⟨fun h2 => ?R,fun h2=>⟨(),hok,hn.put,fun h=>h2 (by have:=h.2;omega)⟩⟩,fun hw=>⟨(),hok,hn.put,fun h=>hw h.1⟩⟩,fun _ hn2=>⟨Int.le_refl _,hl0,fun hw=>⟨fun h1 => ?C,fun h1=>hno hok hn.put hn2.rd (fun h=>h1 (by have:=h.2;omega))⟩,fun hw=>hno hok hn.put hn2.rd (fun h=>hw h.1)⟩⟩⟩
  case R =>
   have hl2:(rnN s).length=2:=by omega
   have hR2:=hrd hok hn.put ⟨hw,hl2⟩
   have hnil:rrB (rnN s)=false→k [⟨tRB,x⟩,⟨.str,[118,97,108,117,101,115]⟩]:=fun h=>by
    have e:rrV x (rnN s)=[]:=if_neg (by rw[h];decide)
    unfold rrS at hR2
    rw[e] at hR2;exact hR2
   have hlen:(x.1.2.1.length:Int)=12:=by
    obtain⟨H,I,R⟩:=hR
    have:=R.rel.hl
    omega
   refine⟨Int.le_refl _,by omega,fun b0=>⟨by omega,by omega,fun b1 => ?_,fun b1=>hnil (by unfold rrB;rw[b1,Bool.and_false])⟩,fun b0=>hnil (by unfold rrB;rw[b0];rfl)⟩
   have c0:=inB_lo b0
   have c1:=inB_lo b1
   have hb:rrB (rnN s)=true:=by unfold rrB;rw[b0,b1];rfl
   have hV:rrV x (rnN s)=x.1.2.1.getD ((rnN s).getD 0 0*4+(rnN s).getD 1 0).toNat []:=if_pos hb
   obtain⟨v1,v2⟩:=rd_vals hD.2 (rnN s)
   rw[← rd_same hR] at v1 v2
   have hvl:=valsS_len (rrV x (rnN s)) (fun v hv=>inK_i64.2 (by have:=v1 v hv;omega))
   refine⟨⟨Int.le_refl _,by omega,by omega,by omega,by omega,by omega,by omega,by omega⟩,⟨0,⟨hok,hn.put,⟨hw,hl2⟩,hb,Nat.zero_le _⟩,rfl,hV.symm,rfl⟩,fun j hj=>⟨fun hlt => ?_,fun hge2 => ?_⟩⟩
   ·have hjl:j<(rrV x (rnN s)).length:=by omega
    have hm:(rrV x (rnN s)).getD j va0∈rrV x (rnN s):=by
     rw[List.getD_eq_getElem?_getD,List.getElem?_eq_getElem hjl];exact List.getElem_mem hjl
    have hv:=v1 _ hm
    obtain⟨m,hm2⟩:∃ m:Nat,((rrV x (rnN s)).getD j va0).2.1=(m:Int):=⟨_,(Int.toNat_of_nonneg hv.1).symm⟩
    have hit:=itoa_len (n:=((rrV x (rnN s)).getD j va0).2.1) (inK_i64.2 (by omega))
    have hj2:=hvl j (by omega)
    have e:Lib.itoa ((rrV x (rnN s)).getD j va0).2.1=Lib.decDigits (((rrV x (rnN s)).getD j va0).2.1).toNat:=by
     rw[hm2,Lib.itoa_nonneg,Int.toNat_natCast]
    have hdl:(Lib.decDigits (((rrV x (rnN s)).getD j va0).2.1).toNat).length≤21:=by rw[← e];omega
    refine⟨?_,by omega,hlt,⟨hv.1⟩,?_,by omega,j+1,⟨hok,hn.put,⟨hw,hl2⟩,hb,by omega⟩,by omega,?_,by omega⟩
    ·show _+1≤_;omega
    ·rw[app_len]
     show _+1+(Lib.decDigits (((rrV x (rnN s)).getD j va0).2.1).toNat).length≤_
     omega
    ·show (valsS (rrV x (rnN s)) j++[32])++Lib.decDigits (((rrV x (rnN s)).getD j va0).2.1).toNat=valsS (rrV x (rnN s)) j++([32]++Lib.itoa ((rrV x (rnN s)).getD j va0).2.1)
     rw[e,List.append_assoc]
   ·have:j=(rrV x (rnN s)).length:=by have:=hj.le;omega
    rw[this];exact hR2
  case C =>
   have hl1:(rnN s).length=1:=by omega
   have hm:(rnN s).getD 0 0∈rnN s:=by
    rw[List.getD_eq_getElem?_getD,List.getElem?_eq_getElem (by omega)];exact List.getElem_mem (by omega)
   obtain⟨_,hm0⟩:=hnn _ hm
   have hC:=hcr hok hn.put hn2.rd ⟨hw,hl1⟩
   have hcr':AnCr s:=⟨hok,hn.put,hn2.rd,hw,hl1⟩
   have htx:x.2.1.length≤24000:=by
    obtain⟨H,I,R⟩:=hR
    rw[← R.txt];exact hD.1.txt
   obtain⟨q1,q2,q3⟩:=cr_same hR (rnN s)
   have hmany:=poE_k in3 (wholeL (b.2.1.take (min ((rnN s).getD 0 0) (b.2.1.length:Int)).toNat)) (wholeL (b.2.1.take (min ((rnN s).getD 0 0) (b.2.1.length:Int)).toNat)).length 0
   have hmn:=poE_nn in3 (wholeL (b.2.1.take (min ((rnN s).getD 0 0) (b.2.1.length:Int)).toNat)) (wholeL (b.2.1.take (min ((rnN s).getD 0 0) (b.2.1.length:Int)).toNat)).length 0
   have q1':(rcR x (rnN s)).2.1=(poE 3 (wholeL (b.2.1.take (min ((rnN s).getD 0 0) (b.2.1.length:Int)).toNat)) 0 (wholeL (b.2.1.take (min ((rnN s).getD 0 0) (b.2.1.length:Int)).toNat)).length).2.1:=q1
   rw[← q1'] at hmany hmn
   obtain⟨m,hm2⟩:∃ m:Nat,(rcR x (rnN s)).2.1=(m:Int):=⟨_,(Int.toNat_of_nonneg hmn).symm⟩
   have hit:=itoa_len hmany.1
   have e:Lib.itoa (rcR x (rnN s)).2.1=Lib.decDigits ((rcR x (rnN s)).2.1).toNat:=by
    rw[hm2,Lib.itoa_nonneg,Int.toNat_natCast]
   have hN:rcN x (rnN s)=min ((rnN s).getD 0 0) (x.2.1.length:Int):=rfl
   unfold rcS rcT at hC
   rw[e] at hC hit
   refine⟨Int.le_refl _,by omega,⟨fun hgt=>⟨(),hcr',by rw[hN];omega⟩,fun hgt=>⟨(),hcr',by rw[hN];omega⟩⟩,fun _ _=>⟨Int.le_refl _,by omega,by omega,open_ok (by rw[List.length_take];omega),fun he => ?_,fun he=>⟨⟨hmn⟩,?_,?_⟩⟩⟩
   ·have he:¬ (rcR x (rnN s)).2.2=0:=he
    rw[if_neg he,if_neg he] at hC;exact hC
   ·show 6+(Lib.decDigits ((rcR x (rnN s)).2.1).toNat).length≤_
    omega
   ·have he:(rcR x (rnN s)).2.2=0:=he
    rw[if_pos he,if_pos he] at hC;exact hC
open Go.Vc
set_option linter.unusedVariables false
theorem vcRun(v:GV)(s:List UInt8)(k:List Dat→Prop):vcF ⟨Erun,[(45,cTrimS),(42,cDTold)],glU v,[(57,itcLines)],[(25,oBNewA),(32,oLines),(44,oLine),(43,oWSo),(46,oWBo),(31,oSto)]⟩ (anRun s) (Tryz.f23.body.getD .skip) Tryz.f23.ntmps [(.tmp 2,.str)] [⟨.str,s⟩] k=(
 (decide (3000<(↑s.length:Int))=true→k [Dat.mk Ty.str [(116:UInt8),111,111,32,108,111,110,103,10]])∧(decide (3000<(↑s.length:Int))=false→inB (3:Int) (1:Int) 5=true∧((!decide (0=(0:Int)))=true→IntKind.i64.wrap 0=(0:Int)∧(toldS (0:Int)).length+[(10:UInt8)].length≤maxLen∧k [Dat.mk Ty.str [(111:UInt8),107,10]])∧((!decide (0=(0:Int)))=false→(∃ (x:Unit),s.length.le 3000∧(s=s∧True∧True∧True)∧((True∧True)∧(True∧True∧True∧0=(0:Int)∧True)∧(True∧True∧True)∧([]:List UInt8)=[]∧(98=98∧List.replicate (Int.toNat (3:Int)) (List.replicate 4 ([]:List Va))=List.replicate 3 (List.replicate 4 ([]:List Va)))∧(3=3∧List.replicate (Int.toNat (3:Int)) 0=List.replicate 3 (0:Int))∧(True∧True∧True)∧([]:List UInt8)=[]∧True)∧hdE=hdE∧Lib.pow10Tab=Lib.pow10Tab∧Value.int IntKind.i64 v.m=Value.int IntKind.i64 v.m∧Value.iface v.t1 v.p1=Value.iface v.t1 v.p1∧Value.iface v.t2 v.p2=Value.iface v.t2 v.p2∧True)∧∀ (x:Unit),s.length.le 3000→(∃ (x:Nat),RunSt s x∧List.take x (List.map (fun (x:List UInt8×List UInt8)=>x.fst) (linesF s))=[]∧(True∧True∧True∧True)∧((True∧True)∧(True∧True∧True∧0=(rnB (linesT s) x).snd.snd∧True)∧(True∧True∧True)∧[]=(rnB (linesT s) x).snd.fst∧(98=98∧List.replicate 3 (List.replicate 4 ([]:List Va))=(rnB (linesT s) x).fst.fst)∧(3=3∧List.replicate 3 0=(rnB (linesT s) x).fst.snd.fst)∧(True∧True∧True)∧[]=rnS (linesT s) x∧(9=9∧s=restV linesF s x)∧True)∧hdE=hdE∧Lib.pow10Tab=Lib.pow10Tab∧Value.int IntKind.i64 v.m=Value.int IntKind.i64 v.m∧Value.iface v.t1 v.p1=Value.iface v.t1 v.p1∧Value.iface v.t2 v.p2=Value.iface v.t2 v.p2∧True)∧(∀ (x:Nat),RunSt s x→True∧9=9∧restV linesF s x=restV linesF s (List.take x (List.map (fun (x:List UInt8×List UInt8)=>x.fst) (linesF s))).length)∧(∀ (x:Nat) (y:List UInt8) (rest:List (List UInt8)),RunSt s x→List.map (fun (x:List UInt8×List UInt8)=>x.fst) (linesF s)=List.take x (List.map (fun (x:List UInt8×List UInt8)=>x.fst) (linesF s))++y::rest→True∧LnOk (((rnB (linesT s) x).fst.fst,(rnB (linesT s) x).fst.snd.fst,()),(rnB (linesT s) x).snd.fst,(rnB (linesT s) x).snd.snd) (Lib.trimSuffix y [(10:UInt8)])∧(rnS (linesT s) x).length+(lnS (((rnB (linesT s) x).fst.fst,(rnB (linesT s) x).fst.snd.fst,()),(rnB (linesT s) x).snd.fst,(rnB (linesT s) x).snd.snd) (Lib.trimSuffix y [(10:UInt8)])).length≤1000000000∧(((rnS (linesT s) x).append (lnS (((rnB (linesT s) x).fst.fst,(rnB (linesT s) x).fst.snd.fst,()),(rnB (linesT s) x).snd.fst,(rnB (linesT s) x).snd.snd) (Lib.trimSuffix y [(10:UInt8)]))).length≤1000000000∧10=(10:(Ty.int IntKind.u8).D))∧∃ (x_1:Nat),RunSt s x_1∧List.take x_1 (List.map (fun (x:List UInt8×List UInt8)=>x.fst) (linesF s))=List.take x (List.map (fun (x:List UInt8×List UInt8)=>x.fst) (linesF s))++[y]∧(True∧True∧True∧True)∧((True∧True)∧(True∧True∧True∧(lnT (((rnB (linesT s) x).fst.fst,(rnB (linesT s) x).fst.snd.fst,()),(rnB (linesT s) x).snd.fst,(rnB (linesT s) x).snd.snd) (Lib.trimSuffix y [(10:UInt8)])).snd.snd=(rnB (linesT s) x_1).snd.snd∧True)∧(True∧True∧True)∧(lnT (((rnB (linesT s) x).fst.fst,(rnB (linesT s) x).fst.snd.fst,()),(rnB (linesT s) x).snd.fst,(rnB (linesT s) x).snd.snd) (Lib.trimSuffix y [(10:UInt8)])).snd.fst=(rnB (linesT s) x_1).snd.fst∧(98=98∧(lnT (((rnB (linesT s) x).fst.fst,(rnB (linesT s) x).fst.snd.fst,()),(rnB (linesT s) x).snd.fst,(rnB (linesT s) x).snd.snd) (Lib.trimSuffix y [(10:UInt8)])).fst.fst=(rnB (linesT s) x_1).fst.fst)∧(3=3∧(lnT (((rnB (linesT s) x).fst.fst,(rnB (linesT s) x).fst.snd.fst,()),(rnB (linesT s) x).snd.fst,(rnB (linesT s) x).snd.snd) (Lib.trimSuffix y [(10:UInt8)])).fst.snd.fst=(rnB (linesT s) x_1).fst.snd.fst)∧(True∧True∧True)∧((rnS (linesT s) x).append (lnS (((rnB (linesT s) x).fst.fst,(rnB (linesT s) x).fst.snd.fst,()),(rnB (linesT s) x).snd.fst,(rnB (linesT s) x).snd.snd) (Lib.trimSuffix y [(10:UInt8)]))).append [(10:UInt8)]=rnS (linesT s) x_1∧(9=9∧restV linesF s ((List.take x (List.map (fun (x:List UInt8×List UInt8)=>x.fst) (linesF s))).length+1)=restV linesF s x_1)∧True)∧hdE=hdE∧Lib.pow10Tab=Lib.pow10Tab∧Value.int IntKind.i64 v.m=Value.int IntKind.i64 v.m∧Value.iface v.t1 v.p1=Value.iface v.t1 v.p1∧Value.iface v.t2 v.p2=Value.iface v.t2 v.p2∧True)∧∀ (x:Nat),RunSt s x→List.take x (List.map (fun (x:List UInt8×List UInt8)=>x.fst) (linesF s))=List.map (fun (x:List UInt8×List UInt8)=>x.fst) (linesF s)→(rnS (linesT s) x).length≤1000000000∧k [Dat.mk Ty.str (rnS (linesT s) x)]))):=by kernel_rfl
open Go.Vc Go.Proofs Go.RowKit
theorem linesF_len(s:List UInt8):(linesF s).length=(linesT s).length:=by
 rw[← linesF_T,List.length_map,List.length_map]
theorem line_T{s:List UInt8}{x:Nat}{y:List UInt8}{rest:List (List UInt8)}(hx:x≤(linesT s).length)(h:(linesF s).map (·.1)=((linesF s).map (·.1)).take x++y::rest) :
 x<(linesT s).length∧Lib.trimSuffix y [10]=(linesT s).getD x []∧((linesF s).map (·.1)).take (x+1)=((linesF s).map (·.1)).take x++[y]:=by
 have hlen:=congrArg List.length h
 have hF:=linesF_len s
 rw[List.length_append,List.length_take,List.length_cons,List.length_map,hF,Nat.min_eq_left hx] at hlen
 have hxl:x<(linesT s).length:=by omega
 have hy:((linesF s).map (·.1))[x]?=some y:=by
  rw[h,List.getElem?_append_right (by rw[List.length_take,List.length_map];omega),List.length_take,List.length_map,hF,Nat.min_eq_left hx,Nat.sub_self];rfl
 refine⟨hxl,?_,by rw[List.take_add_one,hy];rfl⟩
 have:(linesT s)[x]?=some (Lib.trimSuffix y [10]):=by
  rw[← linesF_T,List.getElem?_map,hy];rfl
 rw[List.getD_eq_getElem?_getD,this];rfl
theorem okRun(v:GV):PlainOk Tryz.prog (glU v) 23 cRun:=by
 refine plain_of (CxOk.mk' Erun_ok (by kernel_rfl) mixed (gl:=glU v) (GOk.cons okTrimS.lift Tryz.func45 (by kernel_rfl) (by kernel_rfl) (GOk.cons (PlainOk.sub' glU_E okDTold) Tryz.func42 (by kernel_rfl) (by kernel_rfl) GOk.nil))
  (GoOk.cons ownBNewA.lift Tryz.func25 (by kernel_rfl) (by kernel_rfl) (GoOk.cons ownLines.lift Tryz.func32 (by kernel_rfl) (by kernel_rfl) (GoOk.cons (ownLine v) Tryz.func44 (by kernel_rfl) (by kernel_rfl) (GoOk.cons ownWSo.lift Tryz.func43 (by kernel_rfl) (by kernel_rfl) (GoOk.cons ownWBo.lift Tryz.func46 (by kernel_rfl) (by kernel_rfl) (GoOk.cons ownSto.lift Tryz.func31 (by kernel_rfl) (by kernel_rfl) GoOk.nil)))))) (it:=[(57,itcLines)]) (fun g c h=>by
  obtain⟨rfl,rfl⟩:=Prod.mk.inj (List.mem_singleton.1 h)
  exact itLines _)) Tryz.func23 (c:=Tryz.f23.body.getD .skip) (rvs:=[(.tmp 2,.str)]) (by kernel_rfl) (by kernel_rfl) (by kernel_rfl) ?_
 intro ds k ⟨hp,hk⟩ hwf
 obtain⟨s,rfl,-⟩:=dest1 hp
 clear hp hwf
 revert hk
 revert s
 intro (s:List UInt8) (hk:k [⟨.str,runF s⟩])
 refine⟨anRun s,?_⟩
 rw[vcRun]
 refine⟨fun h => ?_,fun h=>⟨in3,fun h=>absurd h (by decide),fun _=>⟨⟨(),?_,?_⟩,fun _ hs=>⟨?A,?B,?C,?D⟩⟩⟩⟩
 ·have h:3000<s.length:=by
   have:=of_decide_eq_true h
   omega
  have e:runF s=tooL:=if_pos h
  rw[e] at hk;exact hk
 ·have:=of_decide_eq_false h
  show s.length≤3000
  omega
 ·repeat' apply And.intro
  all_goals first | trivial | rfl
 case A =>
  refine⟨0,⟨Nat.zero_le _,hs⟩,rfl,?_⟩
  repeat' apply And.intro
  all_goals first | trivial | rfl
 case B =>
  intro x hx
  have hF:=linesF_len s
  have:=hx.le
  rw[List.length_take,List.length_map,hF,Nat.min_eq_left this]
  exact⟨trivial,rfl,rfl⟩
 case C =>
  intro x y rest hx hl
  obtain⟨hxl,ht,htk⟩:=line_T hx.le hl
  have hF:=linesF_len s
  have hfew:=hx.few
  have hm:=linesT_many s
  have hmem:(linesT s).getD x []∈linesT s:=by
   rw[List.getD_eq_getElem?_getD,List.getElem?_eq_getElem hxl];exact List.getElem_mem hxl
  have hwl:=linesT_le s _ hmem
  have hinv:=rnB_inv (linesT s) x
  have h1:=rnS_len (linesT s) x
  have h2:=lnS_len hinv ((linesT s).getD x [])
  have hbb:(((rnB (linesT s) x).1.1,(rnB (linesT s) x).1.2.1,()),(rnB (linesT s) x).2.1,(rnB (linesT s) x).2.2)=rnB (linesT s) x:=rfl
  rw[ht,hbb]
  refine⟨trivial,⟨hinv.1,by omega⟩,(by show _≤_;omega),⟨by rw[app_len];omega,rfl⟩,x+1,⟨by omega,hfew⟩,htk,?_⟩
  have hmin:(List.take x ((linesF s).map (·.1))).length=x:=by rw[List.length_take,List.length_map];omega
  rw[hmin]
  repeat' apply And.intro
  all_goals first | trivial | rfl
 case D =>
  intro x hx hl
  have hlen:=congrArg List.length hl
  have hF:=linesF_len s
  have hle:=hx.le
  have hm:=linesT_many s
  have hfew:=hx.few
  rw[List.length_take,List.length_map,hF,Nat.min_eq_left hle] at hlen
  have h1:=rnS_len (linesT s) x
  refine⟨by omega,?_⟩
  have e:runF s=rnS (linesT s) x:=by
   unfold runF;rw[if_neg (by omega),hlen]
  rw[e] at hk;exact hk
open Go.Vc Go.Proofs Go.RowKit
theorem ses_next{s:List UInt8}{k f:Nat}(h:SesSt s k f)(hf:f<s.length) :
 k<(linesT s).length∧(linesT s).getD k []=(s.drop f).take (endD (s.drop f))∧f+endD (s.drop f)≤s.length∧SesSt s (k+1) (f+endD (s.drop f)+1):=by
 have hle:=endD_le (s.drop f)
 rw[List.length_drop] at hle
 have hne:s.drop f≠[]:=fun e=>by
  have:=congrArg List.length e
  rw[List.length_drop] at this
  simp at this;omega
 have e:=h.eq
 rw[linesT_cons hne,List.drop_drop] at e
 have hk:k<(linesT s).length:=by
  have:=congrArg List.length e
  rw[List.length_drop,List.length_cons] at this;omega
 rw[List.drop_eq_getElem_cons hk] at e
 injection e with e1 e2
 refine⟨hk,by rw[List.getD_eq_getElem?_getD,List.getElem?_eq_getElem hk];exact e1,by omega,⟨hk,?_,h.few,by omega⟩⟩
 rw[e2,show f+(endD (s.drop f)+1)=f+endD (s.drop f)+1 by omega]
theorem u10{b:UInt8}:(b.toNat:Int)=10↔b=10:=by
 constructor
 ·intro h
  apply UInt8.toNat_inj.1
  have:(10:UInt8).toNat=10:=rfl
  omega
 ·intro h;rw[h];rfl
theorem okSes:PlainOk Tryz.prog [] 24 cSes:=by
 refine plain_of (CxOk.mk' Elr_ok (by kernel_rfl) mixed (gl:=[]) (GOk.cons okNewR Tryz.func38 (by kernel_rfl) (by kernel_rfl) (GOk.cons okAns Tryz.func47 (by kernel_rfl) (by kernel_rfl) GOk.nil)) GoOk.nil noIt) Tryz.func24 (c:=Tryz.f24.body.getD .skip) (rvs:=[(.tmp 2,.str)]) (by kernel_rfl) (by kernel_rfl) (by kernel_rfl) ?_
 intro ds k ⟨hp,hk⟩ hwf
 obtain⟨s,rfl,-⟩:=dest1 hp
 clear hp hwf
 revert hk
 revert s
 intro (s:List UInt8) (hk:k [⟨.str,seF s⟩])
 refine⟨anSes s,?_⟩
 rw[vcSes]
 unfold vcSesq3 vcSesq2 vcSesq1
 have hmx:3000000≤maxLen:=by decide
 simp only[decide_eq_true_eq,decide_eq_false_iff_not,true_and,and_true,inK_i64,Bool.not_eq_true',Bool.not_eq_false',u10,Int.toNat_natCast]
 refine⟨fun h => ?_,fun h=>⟨by omega,⟨(0,0),⟨Nat.zero_le _,rfl,by omega,Nat.zero_le _⟩,⟨rfl,rfl⟩,rfl⟩,?_⟩⟩
 ·have e:seF s=tooL:=if_pos (by omega)
  rw[e] at hk;exact hk
 ·rintro⟨y,f⟩ hx
  have hx:SesSt s y f:=hx
  dsimp only
  have hfew:=hx.few
  refine⟨fun hlt => ?_,fun hge => ?_⟩
  ·have hlt:(f:Int)<(s.length:Int):=hlt
   obtain⟨n1,n2,n3,n4⟩:=ses_next hx (by omega)
   have hle:=endD_le (s.drop f)
   have hrel:=se_rel (linesT s) y
   have hD:=rnB_inv (linesT s) y
   have ha:=ans_rel hrel.1 ((linesT s).getD y [])
   have h1:=rnS_len (linesT s) y
   have h2:=lnS_len hD ((linesT s).getD y [])
   have hm:=linesT_many s
   have hline:List.drop f (List.take ((f:Int)+((endD (s.drop f):Nat):Int)).toNat s)=(linesT s).getD y []:=by
    rw[n2,show ((f:Int)+((endD (s.drop f):Nat):Int)).toNat=f+endD (s.drop f) by omega,List.drop_take]
    congr 1;omega
   have hno:∀ j,f≤j→j<f+endD (s.drop f)→s.getD j 0≠10:=fun j h1 h2=>by
    have:=endD_no (s.drop f) (j - f) (by omega)
    rw[List.getD_eq_getElem?_getD,List.getElem?_drop,show f+(j - f)=j by omega,← List.getD_eq_getElem?_getD] at this
    exact this
   have hat:f+endD (s.drop f)<s.length→s.getD (f+endD (s.drop f)) 0=10:=fun h=>by
    have:=endD_at (s.drop f) (by rw[List.length_drop];omega)
    rw[List.getD_eq_getElem?_getD,List.getElem?_drop,← List.getD_eq_getElem?_getD] at this
    exact this
   have hok:AnsOk (seB (linesT s) y) ((linesT s).getD y []):=by
    refine⟨⟨_,hD,hrel.1⟩,?_⟩
    have hmem:(linesT s).getD y []∈linesT s:=by
     rw[List.getD_eq_getElem?_getD,List.getElem?_eq_getElem n1];exact List.getElem_mem n1
    have:=linesT_le s _ hmem
    omega
   have hS:(seS (linesT s) y).length≤y*101:=by rw[hrel.2];exact h1
   have hA:(anS (seB (linesT s) y) ((linesT s).getD y [])).length≤100:=by rw[ha.1];exact h2
   rw[hline]
   refine⟨⟨⟨f,⟨Int.le_refl _,by omega,by show (f:Int)≤(f:Int)+_;omega⟩,rfl⟩,fun i hi=>⟨fun hil=>⟨by omega,by omega,fun h10 => ?_,fun h10 => ?_⟩,fun hil => ?_⟩⟩,fun _ _=>⟨by omega,by omega,by omega,hok,by omega,by omega,by omega,hok,?_,?_,by omega,(y+1,f+endD (s.drop f)+1),n4,by show s.length+1 - (f+endD (s.drop f)+1)<s.length+1 - f;omega,?_,rfl⟩⟩
   ·have h3:=hi.end'
    have h3:(i:Int)≤(f:Int)+(endD (s.drop f):Nat):=h3
    have h4:(f:Int)≤(i:Int):=hi.lo
    have hne:i≠f+endD (s.drop f):=fun e=>h10 (by rw[e];exact hat (by omega))
    exact⟨by omega,i+1,⟨by show (f:Int)≤((i+1:Nat):Int);omega,by omega,by show ((i+1:Nat):Int)≤(f:Int)+(endD (s.drop f):Nat);omega⟩,by omega,by omega⟩
   ·have h3:=hi.end'
    have h3:(i:Int)≤(f:Int)+(endD (s.drop f):Nat):=h3
    have h4:(f:Int)≤(i:Int):=hi.lo
    have:¬ i<f+endD (s.drop f):=fun e=>hno i (by omega) e h10
    exact⟨(),hfew,by omega⟩
   ·have h3:=hi.end'
    have h3:(i:Int)≤(f:Int)+(endD (s.drop f):Nat):=h3
    have h5:=hi.le
    exact⟨(),hfew,by omega⟩
   ·show (seS (linesT s) y).length+(anS (seB (linesT s) y) ((linesT s).getD y [])).length≤maxLen
    omega
   ·rw[app_len]
    show (seS (linesT s) y).length+(anS (seB (linesT s) y) ((linesT s).getD y [])).length+1≤maxLen
    omega
   ·exact⟨rfl,by show (f:Int)+_+1=((f+endD (s.drop f)+1:Nat):Int);omega⟩
  ·have hge:¬ (f:Int)<(s.length:Int):=hge
   have e0:s.drop f=[]:=List.drop_eq_nil_of_le (by omega)
   have e:=hx.eq
   rw[e0,linesT_nil] at e
   have hl:=congrArg List.length e
   rw[List.length_drop] at hl
   have hl:(linesT s).length - y=0:=hl
   have hyl:=hx.le
   have:y=(linesT s).length:=by omega
   have e2:seF s=seS (linesT s) y:=by unfold seF;rw[if_neg (by omega),this]
   rw[e2] at hk;exact hk
def cLawDA:Ctr:=cdet [.str] (fun (_:List UInt8)=>True) (fun _=>[⟨.bool,true⟩])
theorem okLawDA(v:GV):PlainOk Tryz.prog (glU v) 7 cLawDA:=by
 refine plain_of (CxOk.mk' Elr_ok (by kernel_rfl) mixed (gl:=glU v) (GOk.cons (okRun v) Tryz.func23 (by kernel_rfl) (by kernel_rfl) (GOk.cons okSes.lift Tryz.func24 (by kernel_rfl) (by kernel_rfl) GOk.nil)) GoOk.nil noIt) Tryz.func7 (c:=Tryz.f7.body.getD .skip) (rvs:=[(.tmp 2,.bool)]) (by kernel_rfl) (by kernel_rfl) (by kernel_rfl) ?_
 intro ds k ⟨hp,hk⟩ hwf
 obtain⟨s,rfl,-⟩:=dest1 hp
 have hk:k [⟨.bool,true⟩]:=hk
 refine⟨[joinAll],?_⟩
 rw[vcDA,ses_same]
 have e:(runF s==runF s)=true:=by simp
 rw[e]
 exact⟨trivial,trivial,hk⟩
end Go.Proofs.YthdbbgajmgjfcaaGreatDoor

namespace Go.Vc
open Go.RowKit Go.ChangeShapes Go.WideShapes Go.Deep
theorem returnsInHanded_of_shape{H:Type}{enc:TypeId×Value→H}{a:Assume}{C:Checked}{os:Os}{f:FuncId}{fn:Func}{s:ChangeSpec}{conds:List PathCond}{apart fresh handsOn again:Bool}{X:World→Array Value→Prop}
 (hX:∀ (w w':World) (args:Array Value),w.heap=w'.heap→X w args→X w' args)
 (own:ownKnob C.prog.godebug=none) (started:os.Started) (noInit:C.prog.inits.idxOf? f=none) (hfn:C.prog.funcs[f]?=some fn)
 (witness:∃ (w:World) (tape:Tape) (i:Input),w.os=os∧(w.forCall tape i).Shaped C.prog∧i.vars=[]∧Input.okWide C.prog (w.forCall tape i) .any w.heap.size f i ∧
  ((s.pre enc C.prog fn conds apart (w.forCall tape i).memory i.args∧X (w.forCall tape i).memory i.args)∧sizedMet enc C.prog fn (OpenSpec.ofChange s) apart (w.forCall tape i).memory i.args)∧a.holds C.prog (lone (Frame.enter C.prog f i.args .normal) [] (w.forCall tape i)))
 (contract:∀ (W:World) (base:Nat) (args:Array Value) (ds gs:List (DataW H)) (before:List MemPlace),
  (∀ (j:Nat) t v,fn.params[j]?=some t→args[j]?=some v→Value.okWide C.prog W .any base t v) →
  DataW.Whole enc C.prog fn.params.toList s.vars apart W args.toList ds gs before→X W args→W.ShapedOpen C.prog →
  Calls C.prog f args W fun e W'=>∃ v,e = .returned v∧s.post enc C.prog fn apart fresh handsOn again W args v W') :
 ReturnsInHanded a C os f .any (fun w args=>(s.pre enc C.prog fn conds apart w args∧X w args)∧sizedMet enc C.prog fn (OpenSpec.ofChange s) apart w args) (s.post enc C.prog fn apart fresh handsOn again):=by
 refine returnsInHanded_of_calls own started noInit witness ?_
 intro w tape i _ hsh _ hok hpre hholds
 obtain⟨_,_,_,fn',hfn',_,_,_,_,hval⟩:=hok
 have e:fn'=fn:=Option.some.inj (hfn'.symm.trans hfn)
 subst e
 obtain⟨⟨⟨ds,gs,before,hw,hc⟩,hx⟩,hz⟩:=hpre
 have hw':=DataW.Whole.of_heap (w':=w.forCall tape i) (by rfl) hw
 refine (contract (w.forCall tape i) w.heap.size i.args ds gs before hval hw' (hX _ _ _ (by rfl) hx) hsh).mono fun e W' ⟨v,he,hp⟩ => ?_
 subst he
 exact ChangeSpec.post_blind hp
theorem gl_of_shape{P:Program}{w:World}{g:Nat}{t:TypeId}{zero:Array Value}{k:IntKind}(h:w.ShapedOpen P)(hg:g<P.globals.size)
 (h0:((begin P (fun _ _=>0) default).world.heap[g]?).bind Obj.row?=some (zero,t)) (hz:zero.size=1) (hc:∃ m,w.cell? ⟨g,0,none⟩=some (.int k m)) :
 ∃ m,GlOk [(g,⟨.raw,Value.int k m⟩)] w fun b=>b<w.heap.size:=by
 obtain⟨m,hm⟩:=hc
 obtain⟨cs,hh,hs,_⟩:=h.1 g zero t hg h0
 refine⟨m,fun g2 d2 hm2 => ?_⟩
 obtain⟨e1,e2⟩:=Prod.mk.inj (List.mem_singleton.1 hm2)
 subst e1;subst e2
 refine⟨⟨World.block_lt_of_cell? w ⟨g2,0,none⟩ hm,cs,t,_,hh,by rw[hs,hz];rfl⟩,[.int k m],fun j u hj => ?_,rfl,rfl⟩
 match j with
 | 0=>simp at hj;subst hj;exact hm
 | j+1=>simp at hj
theorem gl_of_raw{P:Program}{w:World}{n:String}{g:Nat}{v:Value}(hg:P.globalNamed n=some g)(h:w.var? P n=some #[v])(h1:v.oneCell'=true):GlOk [(g,⟨.raw,v⟩)] w fun b=>b<w.heap.size:=by
 intro g2 d2 hm2
 obtain⟨ea,eb⟩:=Prod.mk.inj (List.mem_singleton.1 hm2)
 subst ea;subst eb
 have hcell:=World.var?_cell hg h
 obtain⟨e0,q0,hblk⟩:=var_block hg h
 refine⟨⟨?_,#[v],e0,q0,hblk,rfl⟩,[v],fun j u hj => ?_,rfl,h1⟩
 ·refine World.block_lt_of_cell? w ⟨g2,0,none⟩ (u:=v) ?_
  rw[hcell 0];rfl
 ·rw[hcell j,← hj];simp
end Go.Vc
namespace Go.Proofs.YthdbbgajmgjfcaaGreatDoor
open Go.Vc Go.Proofs Go.RowKit
theorem rowEs(u:TypeId)(h:Tryz.prog.typeName? 3 u=some "*errors.errorString"):u=210 :=
 typeName_ptr_named (nm := "errors.errorString") (by rw[show "*" ++ "errors.errorString" = "*errors.errorString" by decide];kernel_rfl) (by kernel_rfl) (by decide) u (by rw[show "*" ++ "errors.errorString" = "*errors.errorString" by decide];exact h)
def Eg10:Env:={ tys:=[(207,.ar 20 (.int .u64))],errT:=73,eqs:=[],els:=[] }
theorem Eg10_ok:EnvOk Tryz.prog Eg10:=EnvOk.of_list (by kernel_rfl) (by kernel_rfl) (by kernel_rfl)
theorem gv_of{W:World}(hsh:W.ShapedOpen Tryz.prog){r:List (String×DataW Unit)}(h:laidMet Tryz.prog (("strconv.ErrRange",Rows.laid_strconv_ErrRange)::("strconv.ErrSyntax",Rows.laid_strconv_ErrSyntax)::r) W):∃ v,GlOk (glM v) W fun b=>b<W.heap.size:=by
 obtain⟨m,h1⟩:=gl_of_shape (zero:=#[.int .i64 0]) (t:=3) (k := .i64) (g:=1) hsh (of_decide_eq_true (by kernel_rfl)) (by kernel_rfl) rfl (laidSplit.s1_3 W hsh)
 obtain⟨a2,_,h2,_⟩:=laid_sentinel (g:=3) h (by kernel_rfl) (by kernel_rfl) (ti:=29) Tryz.underlying29 rowEs Tryz.underlying210 Tryz.underlying212 rfl rfl Tryz.underlying9 (by kernel_rfl) (by kernel_rfl)
 obtain⟨a3,_,h3,_⟩:=laid_sentinel (g:=2) h.tail (by kernel_rfl) (by kernel_rfl) (ti:=29) Tryz.underlying29 rowEs Tryz.underlying210 Tryz.underlying212 rfl rfl Tryz.underlying9 (by kernel_rfl) (by kernel_rfl)
 refine⟨⟨m,_,_,_,_⟩,GlOk.append h1 (GlOk.append (gl_of_raw (by kernel_rfl) h3 rfl) (gl_of_raw (by kernel_rfl) h2 rfl))⟩
open Go.Vc Go.Proofs Go.RowKit
theorem glO_laid{laid:List (String×DataW Unit)}{W:World}(hsh:W.ShapedOpen Tryz.prog)(hL:laidMetH Tryz.prog laid W){a b d:String×DataW Unit}{f:List (String×DataW Unit)}
 (he:(laid.filter fun x=>x.2.handleName?.isNone)=a::b::("internal/strconv.uint64pow10",Rows.laid_internal_strconv_uint64pow10)::d::("strconv.ErrRange",Rows.laid_strconv_ErrRange)::("strconv.ErrSyntax",Rows.laid_strconv_ErrSyntax)::f)
 (hm:("internal/strconv.uint64pow10",Rows.laid_internal_strconv_uint64pow10)∈laid):∃ v,GlOk (glO v) W fun b=>b<W.heap.size:=by
 have h1:=(laidMetH_iff.1 hL).1
 rw[he] at h1
 obtain⟨v,hv⟩:=gv_of hsh h1.tail.tail.tail.tail
 exact⟨v,GlOk.append (gl_of_laidM Eg10_ok (n := "internal/strconv.uint64pow10") (T:=207) (xs:=Lib.pow10Tab) hL hm (by kernel_rfl) (by kernel_rfl) (by kernel_rfl) (by kernel_rfl) (by decide)) hv⟩
open Go.Vc Go.Proofs Go.RowKit
theorem glTurned{W:World}(hsh:W.ShapedOpen Tryz.prog)(hL:laidMetH Tryz.prog Rows.bookTurnedRow.laid W):∃ v,GlOk (glU v) W fun b=>b<W.heap.size:=by
 obtain⟨v,hv⟩:=glO_laid (a:=("math/bits.deBruijn32tab",Rows.laid_math_bits_deBruijn32tab)) (b:=("math/bits.deBruijn64tab",Rows.laid_math_bits_deBruijn64tab)) (d:=("unicode/utf8.acceptRanges",Rows.laid_unicode_utf8_acceptRanges)) (f:=[("unicode/utf8.first",Rows.laid_unicode_utf8_first)]) hsh hL (by kernel_rfl) (.tail _ (.tail _ (.head _)))
 exact⟨v,GlOk.append (glE_of (.tail _ (.tail _ (.tail _ (.tail _ (.head _))))) hL) hv⟩
end Go.Proofs.YthdbbgajmgjfcaaGreatDoor
namespace Go.Vc
open Go.RowKit
theorem laidMet_over{P:Program}{w0:World}{laid:List (String×DataW Unit)}(args:Array Value)(hf:w0.layFits P laid []=true)(hi:w0.layIfaces P laid (w0.layVars P laid)=true) :
 laidMet P laid ((w0.layVars P laid).forCall (fun _ _=>0) ⟨#[],args,[]⟩).memory:=by
 have e1:(laid.filter fun x=>(laid.map (·.1)).contains x.1)=laid:=List.filter_eq_self.2 fun x hx=>List.contains_iff_mem.2 (List.mem_map.2 ⟨x,hx,rfl⟩)
 have e2:(laid.filter fun x => !(laid.map (·.1)).contains x.1)=[]:=List.filter_eq_nil_iff.2 fun x hx=>by rw[List.contains_iff_mem.2 (List.mem_map.2 ⟨x,hx,rfl⟩)];simp
 have h:laidMet P laid (w0.layVars P laid):=laidMet_layVars (w0:=w0) (laid.map (·.1)) [] (by rw[e1]) (by rw[e1];exact hf) (by rw[e1];exact hi) (by rw[e2];exact LaidIn.none)
 exact h.of_heap (by simp[World.memory,World.forCall,Input.heap])
end Go.Vc

namespace Go.Proofs.YthdbbgajmgjfcaaGreatDoor
open Go.Vc Go.Proofs Go.RowKit
theorem glU_laid{laid:List (String×DataW Unit)}(he:laid=Rows.bookTurnedRow.laid){W:World}(hsh:W.ShapedOpen Tryz.prog)(hL:laidMetH Tryz.prog laid W):∃ v,GlOk (glU v) W fun b=>b<W.heap.size:=by
 subst he
 exact glTurned hsh hL
theorem glDA{W:World}(hsh:W.ShapedOpen Tryz.prog)(hL:laidMetH Tryz.prog Rows.deskAnswersRow.laid W):∃ v,GlOk (glU v) W fun b=>b<W.heap.size:=glU_laid rfl hsh hL
end Go.Proofs.YthdbbgajmgjfcaaGreatDoor
