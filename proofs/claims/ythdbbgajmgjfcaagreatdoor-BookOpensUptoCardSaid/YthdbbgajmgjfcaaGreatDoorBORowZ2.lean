/- Own texts, merged and cut: HOk2, HM, JDef, JV, JOk, JLaw, BkD, BkS, KV, BkT, As, Er, BkU, KV2, BkV, BkW, BkN, KV4, BkO, BkP, KV5, BkQ, BkL, BkR, KV6, BkM, BkPl, BkNm, BkSp, BkLn, BkOp, KV7. -/
import Derived.Test.YthdbbgajmgjfcaaGreatDoorBORowZ1
import Derived.Test.YthdbbgajmgjfcaaGreatDoorChecked
import Derived.WalkKit
import Derived.LaidEql
import Derived.Stop.Asserts
import Derived.RowKitTokens
import Derived.Test.YthdbbgajmgjfcaaGreatDoorBORowVQ
import Derived.Test.YthdbbgajmgjfcaaGreatDoorBORowVPA
import Derived.Shelf.Small.Wraps
import Derived.Shelf.Small.Strs
import Derived.Shelf.Strings.LastIndex
import Derived.Lib.SplitLaws
import Derived.Lib.Split
import Derived.Lib.IndexBytes
import Derived.Lib.AtoiAllCases
import Derived.Shelf.Strings.Split
import Derived.Shelf.Strconv.AtoiAll
namespace Go.Proofs.YthdbbgajmgjfcaaGreatDoor
open Go.Vc Go.Proofs
theorem seenU_len (t : RN) (p q : Int) (i : Nat) : (seenU t p q i).length=i:=by unfold seenU; rw [List.length_map,List.length_range]
theorem seenU_succ (t : RN) (p q : Int) (i : Nat) : seenU t p q (i+1)=seenU t p q i++[if (i : Int)=p then (rUp t p).getD p.toNat 0 else mxF (rAt t p q) i (rAt t p q).length]:=by
 unfold seenU; rw [List.range_succ,List.map_append]; rfl
theorem mxF_succ (l : List Va) (i k : Nat) : mxF l i (k+1)=if mxF l i k < (l.getD k va0).1.getD i 0 then (l.getD k va0).1.getD i 0 else mxF l i k:=rfl
theorem inB_iff {n a b : Int} : inB n a b=true↔a≤n∧n≤b:=by unfold inB; rw [Bool.and_eq_true,decide_eq_true_eq,decide_eq_true_eq]
theorem rwrite_vc (t : RN) (p q v : Int) (S : RSh t) (k : List Dat→Prop) (hk : k [⟨tRN,rWriteT t p q v⟩,⟨I,rWriteE t p q v⟩]) :
 vcF ⟨Eh [],[(37,cWithin),(117,cRow)],[],[],[]⟩ (anRWrite t p q v) (Tryz.f90.body.getD .skip) Tryz.f90.ntmps [(.cell 8 43,tRN),(.tmp 9,I)] [⟨tRN,t⟩,⟨I,p⟩,⟨I,q⟩,⟨I,v⟩] k:=by
 rw [vcRWrite]
 have eU : List.set t.2.2.1 p.toNat (List.getD t.2.2.1 p.toNat 0+1)=rUp t p:=rfl
 have eA : List.getD t.2.1 (p*4+q).toNat []=rAt t p q:=rfl
 have e1 : ∀ y : Va,(List.replicate 1 va0).set 0 y=[y]:=fun _=>rfl
 have e2 : ∀ y : Int,(List.replicate 1 (0 : Int)).set 0 y=[y]:=fun _=>rfl
 have ea : ∀ (m n : List Int),List.append m n=m++n:=fun _ _=>rfl
 have hul : (rUp t p).length=t.2.2.1.length:=by unfold rUp; rw [List.length_set]
 have h1:=S.lo
 have h5:=S.hi
 have hh:=S.has
 have hw:=S.wr
 have hal : (rAt t p q).length≤1000:=S.len _
 have has : ∀ x,x < (rAt t p q).length→(((rAt t p q).getD x va0).1.length : Int)=t.1:=fun x hx=>S.seen _ _ (getD_memL hx)
 simp only [eU,eA,e1,e2,ea,hul,seenU_len,decide_eq_true_eq,decide_eq_false_iff_not,true_and,and_true,Int.toNat_natCast,inK_i64,Bool.not_eq_true',Bool.not_eq_false']
 have ret : ∀ e : Int,e≠0→rWriteE t p q v=e→k [⟨tRN,t⟩,⟨I,e⟩]:=by
  intro e he h
  unfold rWriteT at hk; rw [if_neg (by rw [h]; exact he),h] at hk; exact hk
 refine ⟨by omega,fun h=>ret 1 (by decide) (by unfold rWriteE; rw [h]; rfl),fun hp=>⟨fun h=>ret 1 (by decide) (by unfold rWriteE; rw [h,Bool.false_and,Bool.and_false]; rfl),fun hq=>⟨fun h=>ret 1 (by decide) (by unfold rWriteE; rw [h,Bool.and_false,Bool.and_false]; rfl),fun hv => ?_⟩⟩⟩
 obtain ⟨p0,p1⟩:=inB_iff.1 hp
 obtain ⟨q0,q1⟩:=inB_iff.1 hq
 have hE : rWriteE t p q v=if 60≤t.2.2.1.getD p.toNat 0 then 4 else 0:=by unfold rWriteE; rw [hp,hq,hv]; rfl
 have hc:=S.cnt p.toNat (by omega)
 refine ⟨p0,by omega,fun h=>ret 4 (by decide) (by rw [hE,if_pos h]),fun h60 => ?_⟩
 have h0 : rWriteE t p q v=0:=by rw [hE,if_neg h60]
 unfold rWriteT at hk; rw [if_pos h0,h0] at hk
 refine ⟨by omega,p0,by omega,by omega,p0,by omega,⟨0,⟨Nat.zero_le _,h0⟩,rfl,rfl,rfl⟩,fun x ⟨hx,_⟩=>⟨fun hlt => ?_,fun hge => ?_⟩⟩
 ·refine ⟨by omega,by omega,by omega,by omega,⟨0,⟨Nat.zero_le _,h0⟩,rfl,rfl⟩,fun y ⟨hy,_⟩=>⟨fun hly => ?_,fun hgy => ?_⟩⟩
  ·have hyl : y < (rAt t p q).length:=by omega
   have hys:=has y hyl
   refine ⟨by omega,hly,by omega,by omega,fun hm=>⟨by omega,hly,by omega,by omega,by omega,y+1,⟨by omega,h0⟩,by omega,by rw [mxF_succ,if_pos hm],by omega⟩,fun hm=>⟨by omega,y+1,⟨by omega,h0⟩,by omega,by rw [mxF_succ,if_neg hm],by omega⟩⟩
  ·have hyl : y=(rAt t p q).length:=by omega
   subst hyl
   refine ⟨fun hxp=>⟨p0,by omega,?_,by omega,x+1,⟨by omega,h0⟩,by omega,by omega,by rw [seenU_succ,if_pos hxp]⟩,fun hxp=>⟨?_,by omega,x+1,⟨by omega,h0⟩,by omega,by omega,by rw [seenU_succ,if_neg hxp]⟩⟩<;>simp only [List.length_cons,List.length_nil]<;>omega
 ·have hxl : x=t.1.toNat:=by omega
  rw [hxl]
  exact ⟨by omega,by omega,⟨⟨by omega,by omega⟩,by omega⟩,hk⟩
theorem okRWrite : PlainOk Tryz.prog [] 90 cRWrite:=by
 refine plain_of (CxOk.mk' (Eh_ok []) (by kernel_rfl) mixed (gl:=[]) (GOk.cons okRIn5 Tryz.func37 (by kernel_rfl) (by kernel_rfl) (GOk.cons okRow Tryz.func117 (by kernel_rfl) (by kernel_rfl) GOk.nil)) GoOk.nil noIt) Tryz.func90 (c:=Tryz.f90.body.getD .skip) (rvs:=[(.cell 8 43,tRN),(.tmp 9,I)]) (by kernel_rfl) (by kernel_rfl) (by kernel_rfl) ?_
 intro ds k ⟨hp,hk⟩ hwf
 obtain ⟨t,p,q,v,rfl,S,-⟩:=dest4 hp
 exact ⟨anRWrite t p q v,rwrite_vc t p q v S k hk⟩
theorem setR_eq {l : List (List Va)} {i : Int} (h0 : 0≤i) (h : i < (l.length : Int)) (x : List Va) : setR l i x=l.set i.toNat x:=by
 unfold setR; rw [List.set_eq_take_append_cons_drop,if_pos (by omega)]; simp
theorem rSyncU_has {t : RN} {a b : Int} (h0 : 0≤b) (hb : b*4+3 < (t.2.1.length : Int)) : ∀ k,k≤4→(rSyncU t a b k).2.1.length=t.2.1.length
 | 0,_=>rfl
 | k+1,hk=>by
  have ih:=rSyncU_has (t:=t) (a:=a) (b:=b) h0 hb k (by omega)
  show (setR _ _ _).length=_
  rw [setR_eq (by omega) (by rw [ih]; omega),List.length_set,ih]
theorem rSyncU_1 (t : RN) (a b : Int) : ∀ k,(rSyncU t a b k).1=t.1
 | 0=>rfl
 | _+1=>rfl
theorem rSyncU_3 (t : RN) (a b : Int) : ∀ k,(rSyncU t a b k).2.2.1=t.2.2.1
 | 0=>rfl
 | _+1=>rfl
theorem rAt_sync {t : RN} {a b : Int} (h0 : 0≤b) (hb : b*4+3 < (t.2.1.length : Int)) : ∀ k,k≤4→∀ (i j : Nat),j < 4→rAt (rSyncU t a b k) (i : Int) (j : Int)=if (i : Int)=b∧j < k then keepU (rAt (rSyncU t a b j) b (j : Int)) (rAt (rSyncU t a b j) a (j : Int)) (rAt (rSyncU t a b j) a (j : Int)).length else rAt t (i : Int) (j : Int)
 | 0,_,i,j,_=>by rw [if_neg (by omega)]; rfl
 | k+1,hk,i,j,hj=>by
  have ih:=rAt_sync (t:=t) (a:=a) (b:=b) h0 hb k (by omega) i j hj
  have hl:=rSyncU_has (t:=t) (a:=a) (b:=b) h0 hb k (by omega)
  have e : rAt (rSyncU t a b (k+1)) (i : Int) (j : Int)=(setR (rSyncU t a b k).2.1 (b*4+(k : Int)) (keepU (rAt (rSyncU t a b k) b (k : Int)) (rAt (rSyncU t a b k) a (k : Int)) (rAt (rSyncU t a b k) a (k : Int)).length)).getD ((i : Int)*4+(j : Int)).toNat []:=rfl
  rw [e,setR_eq (by omega) (by rw [hl]; omega),getD_setL _ _ _ _ _ (by rw [hl]; omega)]
  by_cases hc : (i : Int)=b∧j=k
  ·obtain ⟨h1,h2⟩:=hc
   subst h2
   rw [if_pos (by omega),if_pos (by omega)]
  ·rw [if_neg (by omega)]
   show rAt (rSyncU t a b k) (i : Int) (j : Int)=_
   rw [ih]
   by_cases hd : (i : Int)=b∧j < k
   ·rw [if_pos hd,if_pos (by omega)]
   ·rw [if_neg hd,if_neg (by omega)]
theorem keepU_succ (l m : List Va) (i : Nat) : keepU l m (i+1)=keepF (keepU l m i) (m.getD i va0):=rfl
theorem rsync_vc (t : RN) (a b : Int) (S : RSh t) (hY : rSyncE t a b=0→SyOk t a b) (k : List Dat→Prop) (hk : k [⟨tRN,rSyncT t a b⟩,⟨I,rSyncE t a b⟩]) :
 vcF ⟨Eh [],[(37,cWithin),(117,cRow),(118,cKeep)],[],[],[]⟩ (anRSync t a b) (Tryz.f91.body.getD .skip) Tryz.f91.ntmps [(.cell 6 43,tRN),(.tmp 7,I)] [⟨tRN,t⟩,⟨I,a⟩,⟨I,b⟩] k:=by
 rw [vcRSync]
 have h1:=S.lo
 have h5:=S.hi
 have hh:=S.has
 have hw:=S.wr
 have eA : ∀ (x : RN) (p : Int) (y : Nat),List.getD x.2.1 (p*4+(y : Int)).toNat []=rAt x p (y : Int):=fun _ _ _=>rfl
 simp only [eA,decide_eq_true_eq,decide_eq_false_iff_not,true_and,and_true,Int.toNat_natCast,inK_i64,Bool.not_eq_true',Bool.not_eq_false']
 have ret : ∀ e : Int,e≠0→rSyncE t a b=e→k [⟨tRN,t⟩,⟨I,e⟩]:=by
  intro e he h
  unfold rSyncT at hk; rw [if_neg (by rw [h]; exact he),h] at hk; exact hk
 refine ⟨by omega,fun h=>ret 1 (by decide) (by unfold rSyncE; rw [h]; rfl),fun ha=>⟨by omega,fun h=>ret 1 (by decide) (by unfold rSyncE; rw [h,Bool.and_false]; rfl),fun hb=>⟨fun h=>ret 6 (by decide) (by unfold rSyncE; rw [ha,hb,Bool.and_true,if_pos rfl,if_pos h]),fun hab => ?_⟩⟩⟩
 have h0 : rSyncE t a b=0:=by unfold rSyncE; rw [ha,hb,Bool.and_true,if_pos rfl,if_neg hab]
 obtain ⟨a0,a1⟩:=inB_iff.1 ha
 obtain ⟨b0,b1⟩:=inB_iff.1 hb
 have hY:=hY h0
 unfold rSyncT at hk; rw [if_pos h0,h0] at hk
 refine ⟨⟨0,⟨by omega,h0⟩,rfl,rfl,rfl⟩,fun x ⟨hx,_⟩=>⟨fun hlt => ?_,fun hge => ?_⟩⟩
 ·have hx4 : x < 4:=by omega
  have hl:=rSyncU_has (t:=t) (a:=a) (b:=b) b0 (by omega) x (by omega)
  have hra : rAt (rSyncU t a b x) a (x : Int)=rAt t a (x : Int):=by
   have:=rAt_sync (t:=t) (a:=a) (b:=b) b0 (by omega) x (by omega) a.toNat x hx4
   rw [if_neg (by omega)] at this
   rwa [show ((a.toNat : Nat) : Int)=a by omega] at this
  have hal : (rAt (rSyncU t a b x) a (x : Int)).length≤1000:=by rw [hra]; exact S.len _
  refine ⟨by omega,by omega,by omega,by omega,⟨0,⟨Nat.zero_le _,h0⟩,rfl,rfl⟩,fun y ⟨hy,_⟩=>⟨by omega,by omega,by omega,by omega,fun hly => ?_,fun hgy => ?_⟩⟩
  ·have hyl : y < (rAt (rSyncU t a b x) a (x : Int)).length:=by omega
   obtain ⟨y1,y2⟩:=hY x hx4 y hy
   have hms : (((rAt (rSyncU t a b x) a (x : Int)).getD y va0).1.length : Int)=t.1:=by
    have hm:=getD_memL (d:=va0) hyl
    generalize (rAt (rSyncU t a b x) a (x : Int)).getD y va0=u at hm ⊢
    rw [hra] at hm
    exact S.seen _ _ hm
   exact ⟨by omega,by omega,by omega,by omega,by omega,hly,⟨y1,fun u hu=>by have:=y2 u hu; omega⟩,by omega,y+1,⟨by omega,h0⟩,by omega,by rw [keepU_succ],by omega⟩
  ·have hyl : y=(rAt (rSyncU t a b x) a (x : Int)).length:=by omega
   refine ⟨by omega,by omega,⟨⟨by omega,by omega⟩,by omega⟩,by omega,x+1,⟨by omega,h0⟩,by omega,by omega,?_⟩
   rw [hyl]
   show ((rSyncU t a b x).1,setR (rSyncU t a b x).2.1 (b*4+(x : Int)) _,(rSyncU t a b x).2.2.1,())=(t.1,setR (rSyncU t a b x).2.1 (b*4+(x : Int)) _,t.2.2.1,())
   rw [rSyncU_1,rSyncU_3]
 ·have hxl : x=4:=by omega
  subst hxl
  exact hk
theorem okRSync : PlainOk Tryz.prog [] 91 cRSync:=by
 refine plain_of (CxOk.mk' (Eh_ok []) (by kernel_rfl) mixed (gl:=[]) (GOk.cons okRIn5 Tryz.func37 (by kernel_rfl) (by kernel_rfl) (GOk.cons okRow Tryz.func117 (by kernel_rfl) (by kernel_rfl) (GOk.cons okKeep Tryz.func118 (by kernel_rfl) (by kernel_rfl) GOk.nil))) GoOk.nil noIt) Tryz.func91 (c:=Tryz.f91.body.getD .skip) (rvs:=[(.cell 6 43,tRN),(.tmp 7,I)]) (by kernel_rfl) (by kernel_rfl) (by kernel_rfl) ?_
 intro ds k ⟨hp,hk⟩ hwf
 obtain ⟨t,a,b,rfl,⟨S,hY⟩,-⟩:=dest3 hp
 exact ⟨anRSync t a b,rsync_vc t a b S hY k hk⟩
open Go.Vc
theorem keep_mem {n : Nat} {l : List Va} {v : Va} (hn : ∀ u∈l++[v],u.1.length=n) (hF : ∀ u∈l++[v],∀ w∈l++[v],u.1=w.1→u=w) (hs : SV' l) (ha : ∀ u∈l,∀ w∈l,sawB u w=true→u=w) :
 SV' (keepF l v)∧∀ x,x∈keepF l v↔x∈l++[v]∧∀ w∈l++[v],sawB w x=true→w=x:=by
 have hv : v∈l++[v]:=List.mem_append_right _ (List.mem_singleton.2 rfl)
 have hl : ∀ {u},u∈l→u∈l++[v]:=fun h=>List.mem_append_left _ h
 have tr : ∀ {a b c : Va},a∈l++[v]→b∈l++[v]→sawB a b=true→sawB b c=true→sawB a c=true:=fun h1 h2=>saw_trans (by rw [hn _ h1,hn _ h2]; exact Nat.le_refl _)
 have an : ∀ {a b : Va},a∈l++[v]→b∈l++[v]→sawB a b=true→sawB b a=true→a=b:=fun h1 h2 h3 h4=>hF _ h1 _ h2 (saw_anti (by rw [hn _ h1,hn _ h2]) h3 h4)
 unfold keepF
 cases hq : anyS l v with
 | true =>
  rw [if_pos rfl]
  obtain ⟨u,hu,huv⟩:=List.any_eq_true.1 hq
  refine ⟨hs,fun x=>⟨fun hx=>⟨hl hx,fun w hw hwx => ?_⟩,fun ⟨hx,hm⟩ => ?_⟩⟩
  ·rcases List.mem_append.1 hw with h | h
   ·exact ha w h x hx hwx
   ·rw [List.mem_singleton] at h; subst h
    have e:=ha u hu x hx (tr (hl hu) hw huv hwx)
    subst e
    exact an hw (hl hu) hwx huv
  ·rcases List.mem_append.1 hx with h | h
   ·exact h
   ·rw [List.mem_singleton] at h; subst h
    have:=hm u (hl hu) huv
    rw [← this]; exact hu
 | false =>
  rw [if_neg (by decide)]
  have hno : ∀ u∈l,sawB u v=false:=fun u hu=>by
   cases h : sawB u v with
   | false=>rfl
   | true =>
    have : anyS l v=true:=List.any_eq_true.2 ⟨u,hu,h⟩
    rw [hq] at this; cases this
  have hlo : ∀ u,u∈l.filter (loA v)↔u∈l∧sawB v u=false∧lexL u.1 v.1 < 0:=fun u=>by
   rw [List.mem_filter]; unfold loA befB
   rw [Bool.and_eq_true,Bool.not_eq_true',decide_eq_true_eq]
  have hhi : ∀ u,u∈l.filter (hiA v)↔u∈l∧sawB v u=false∧lexL v.1 u.1 < 0:=fun u=>by
   rw [List.mem_filter]; unfold hiA befB
   rw [Bool.and_eq_true,Bool.not_eq_true',decide_eq_true_eq]
  refine ⟨?_,fun x=>⟨fun hx => ?_,fun ⟨hx,hm⟩ => ?_⟩⟩
  ·refine List.pairwise_append.2 ⟨List.pairwise_append.2 ⟨hs.sublist List.filter_sublist,List.pairwise_singleton ..,fun a ha b hb => ?_⟩,hs.sublist List.filter_sublist,fun a ha b hb => ?_⟩
   ·rw [List.mem_singleton] at hb; subst hb
    exact ((hlo a).1 ha).2.2
   ·have hb':=((hhi b).1 hb).2.2
    rcases List.mem_append.1 ha with h | h
    ·exact lexL_trans ((hlo a).1 h).2.2 hb'
    ·rw [List.mem_singleton] at h; subst h; exact hb'
  ·have key : ∀ y,y∈l→sawB v y=false→y∈l++[v]∧∀ w∈l++[v],sawB w y=true→w=y:=fun y hy hvy=>⟨hl hy,fun w hw hwy=>by
    rcases List.mem_append.1 hw with h | h
    ·exact ha w h y hy hwy
    ·rw [List.mem_singleton] at h; subst h; rw [hvy] at hwy; cases hwy⟩
   rcases List.mem_append.1 hx with h | h
   ·rcases List.mem_append.1 h with h | h
    ·exact key x ((hlo x).1 h).1 ((hlo x).1 h).2.1
    ·rw [List.mem_singleton] at h; subst h
     refine ⟨hv,fun w hw hwx => ?_⟩
     rcases List.mem_append.1 hw with h | h
     ·rw [hno w h] at hwx; cases hwx
     ·exact List.mem_singleton.1 h
   ·exact key x ((hhi x).1 h).1 ((hhi x).1 h).2.1
  ·rcases List.mem_append.1 hx with h | h
   ·have hvx : sawB v x=false:=by
     cases hc : sawB v x with
     | false=>rfl
     | true =>
      have e:=hm v hv hc
      have:=hno x h
      rw [← e,saw_refl] at this; cases this
    have hne : lexL x.1 v.1≠0:=fun e=>by
     have e2:=hF x hx v hv (lexL_zero.1 e)
     have:=hno x h
     rw [e2,saw_refl] at this; cases this
    have hneg:=lexL_neg x.1 v.1
    by_cases hc : lexL x.1 v.1 < 0
    ·exact List.mem_append_left _ (List.mem_append_left _ ((hlo x).2 ⟨h,hvx,hc⟩))
    ·exact List.mem_append_right _ ((hhi x).2 ⟨h,hvx,by omega⟩)
   ·exact List.mem_append_left _ (List.mem_append_right _ h)
theorem keepF_mrg {n : Nat} {S : List Va} {v : Va} (hn : ∀ u∈S++[v],u.1.length=n) (hF : ∀ u∈S++[v],∀ w∈S++[v],u.1=w.1→u=w) : keepF (mrgV S) v=mrgV (S++[v]):=by
 have hS : ∀ {u},u∈S→u∈S++[v]:=fun h=>List.mem_append_left _ h
 have hv : v∈S++[v]:=List.mem_append_right _ (List.mem_singleton.2 rfl)
 have hn1 : ∀ u∈S,u.1.length=n:=fun u h=>hn u (hS h)
 have hF1 : ∀ u∈S,∀ w∈S,u.1=w.1→u=w:=fun u h w h'=>hF u (hS h) w (hS h')
 have hK : ∀ x,x∈mrgV S↔_:=fun x=>mem_mrgV (v:=x) hn1 hF1
 have hKS : ∀ {x},x∈mrgV S++[v]→x∈S++[v]:=fun h=>(List.mem_append.1 h).elim (fun h=>hS ((hK _).1 h).1) fun h=>List.mem_append_right _ h
 obtain ⟨h1,h2⟩:=keep_mem (n:=n) (l:=mrgV S) (v:=v) (fun u h=>hn u (hKS h)) (fun u h w h'=>hF u (hKS h) w (hKS h')) (ss_mrgV S) (fun u hu w hw hs=>((hK w).1 hw).2 u ((hK u).1 hu).1 hs)
 refine SV'.ext h1 (ss_mrgV _) fun x => ?_
 rw [h2,mem_mrgV hn hF]
 constructor
 ·rintro ⟨hx,hm⟩
  refine ⟨hKS hx,fun w hw hwx => ?_⟩
  rcases List.mem_append.1 hw with h | h
  ·obtain ⟨u,hu,huw⟩:=dom_mrg hn1 hF1 h
   have hus:=((hK u).1 hu).1
   have e:=hm u (List.mem_append_left _ hu) (saw_trans (by rw [hn1 u hus,hn w hw]; exact Nat.le_refl _) huw hwx)
   subst e
   exact hF w hw u (hS hus) (saw_anti (by rw [hn w hw,hn1 u hus]) hwx huw)
  ·exact hm w (List.mem_append_right _ h) hwx
 ·rintro ⟨hx,hm⟩
  refine ⟨?_,fun w hw=>hm w (hKS hw)⟩
  rcases List.mem_append.1 hx with h | h
  ·exact List.mem_append_left _ ((hK x).2 ⟨h,fun w hw=>hm w (hS hw)⟩)
  ·exact List.mem_append_right _ h
theorem keepU_eq {n : Nat} {l m : List Va} (hn : ∀ u∈l++m,u.1.length=n) (hF : ∀ u∈l++m,∀ w∈l++m,u.1=w.1→u=w) (hs : SV' l) (ha : ∀ u∈l,∀ w∈l,sawB u w=true→u=w) : ∀ i,i≤m.length→keepU l m i=mrgV (l++m.take i)
 | 0,_=>by
  show l=_
  rw [List.take_zero,List.append_nil]
  have hl : ∀ {u},u∈l→u∈l++m:=fun h=>List.mem_append_left _ h
  exact SV'.ext hs (ss_mrgV _) fun x=>by
   rw [mem_mrgV (n:=n) (fun u h=>hn u (hl h)) (fun u h w h'=>hF u (hl h) w (hl h'))]
   exact ⟨fun h=>⟨h,fun w hw hwx=>ha w hw x h hwx⟩,fun h=>h.1⟩
 | i+1,hi=>by
  have hsub : ∀ {u},u∈l++m.take i++[m[i]]→u∈l++m:=fun h=>by
   rcases List.mem_append.1 h with h | h
   ·rcases List.mem_append.1 h with h | h
    ·exact List.mem_append_left _ h
    ·exact List.mem_append_right _ (List.mem_of_mem_take h)
   ·rw [List.mem_singleton] at h; subst h
    exact List.mem_append_right _ (List.getElem_mem _)
  rw [keepU_succ,keepU_eq hn hF hs ha i (by omega),List.getD_eq_getElem?_getD,List.getElem?_eq_getElem (show i < m.length by omega),Option.getD_some,
   keepF_mrg (n:=n) (fun u h=>hn u (hsub h)) (fun u h w h'=>hF u (hsub h) w (hsub h')),List.take_succ_eq_append_getElem (show i < m.length by omega),List.append_assoc]
theorem list_ext1 {l m : List Int} (h : l.length=m.length) (he : ∀ j,j < l.length→l.getD j 0=m.getD j 0) : l=m :=
 List.ext_getElem h fun i h1 h2=>by
  have:=he i h1
  rw [List.getD_eq_getElem?_getD,List.getD_eq_getElem?_getD,List.getElem?_eq_getElem h1,List.getElem?_eq_getElem h2] at this
  simpa using this
structure Rel (n : Nat) (t : Net) (x : RN) : Prop where
 n1 : x.1=(n : Int)
 wr : x.2.2.1=t.2.1
 hl : x.2.1.length=n*4
 at' : ∀ i k : Nat,i < n→k < 4→rAt x (i : Int) (k : Int)=vAt t i k
section
variable {n : Nat} {W : Nat→Int→Prop} {H : Nat→Nat→Va→Prop} {t : Net} {x : RN}
theorem Rel.sh (I : NInv n W H t) (R : Rel n t x) : RSh x:=by
 have h1:=I.lo
 have h5:=I.hi
 have hat : ∀ i,i < n*4→x.2.1.getD i []=vAt t (i/4) (i%4):=fun i hi=>by
  rw [← R.at' (i/4) (i%4) (by omega) (by omega)]
  show _=x.2.1.getD (((i/4 : Nat) : Int)*4+((i%4 : Nat) : Int)).toNat []
  rw [show (((i/4 : Nat) : Int)*4+((i%4 : Nat) : Int)).toNat=i by omega]
 have hout : ∀ i,¬ i < n*4→x.2.1.getD i []=[]:=fun i hi=>by
  rw [List.getD_eq_getElem?_getD,List.getElem?_eq_none (by rw [R.hl]; omega)]; rfl
 exact {
  lo:=by rw [R.n1]; omega
  hi:=by rw [R.n1]; omega
  has:=by rw [R.hl,R.n1]; omega
  wr:=by rw [R.wr,R.n1,I.wr]
  len:=fun i=>by
   by_cases h : i < n*4
   ·rw [hat i h]; have:=I.few (i/4) (i%4); omega
   ·rw [hout i h]; exact Nat.zero_le _
  seen:=fun i v hv=>by
   by_cases h : i < n*4
   ·rw [hat i h] at hv; rw [I.ln hv,R.n1]
   ·rw [hout i h] at hv; cases hv
  cnt:=by rw [R.wr,I.wr]; exact I.cnt }
theorem Rel.init (n : Nat) : Rel n (newF n) (((n : Int),List.replicate ((n : Int)*4).toNat [],List.replicate ((n : Int)).toNat 0,()) : RN):=by
 refine ⟨rfl,by show List.replicate (n : Int).toNat 0=List.replicate n 0; rw [Int.toNat_natCast],by show (List.replicate _ _).length=_; rw [List.length_replicate]; omega,fun i k hi hk => ?_⟩
 have e1 : rAt (((n : Int),List.replicate ((n : Int)*4).toNat [],List.replicate ((n : Int)).toNat 0,()) : RN) (i : Int) (k : Int)=[]:=by
  show (List.replicate _ ([] : List Va)).getD _ []=[]
  rcases getD_memD (l:=List.replicate ((n : Int)*4).toNat ([] : List Va)) (i:=((i : Int)*4+(k : Int)).toNat) (d:=[]) with h | ⟨h,-⟩
  ·exact (List.mem_replicate.1 h).2
  ·exact h
 have e2 : vAt (newF n) i k=[]:=by
  have hrow : (List.replicate n (List.replicate 4 ([] : List Va))).getD i (List.replicate 4 [])=List.replicate 4 []:=by
   rcases getD_memD (l:=List.replicate n (List.replicate 4 ([] : List Va))) (i:=i) (d:=List.replicate 4 []) with h | ⟨h,-⟩
   ·exact (List.mem_replicate.1 h).2
   ·exact h
  unfold vAt newF
  rw [hrow]
  rcases getD_memD (l:=(List.replicate 4 [] : List (List Va))) (i:=k) (d:=([] : List Va)) with h2 | ⟨h2,-⟩
  ·exact (List.mem_replicate.1 h2).2
  ·exact h2
 rw [e1,e2]
theorem mxF_acc {vals : List Va} (hn : ∀ v∈vals,v.1.length=n) {q : Nat} (hq : q < n) : ∀ k,k≤vals.length→mxF vals q k=(accU vals n k).getD q 0
 | 0,_=>by
  unfold accU
  rw [List.getD_eq_getElem?_getD,List.getElem?_replicate,if_pos hq]; rfl
 | k+1,hk=>by
  rw [mxF_succ,accU_succ hn hq (by omega),mxF_acc hn hq k (by omega)]
  split<;>omega
theorem Rel.writeE (I : NInv n W H t) (R : Rel n t x) (p q v : Int) : rWriteE x p q v=Go.Proofs.YthdbbgajmgjfcaaGreatDoor.writeE t p q v:=by
 unfold rWriteE Go.Proofs.YthdbbgajmgjfcaaGreatDoor.writeE inNet
 rw [R.n1,I.len,R.wr,Bool.and_assoc]
 by_cases hc : (inB p 0 ((n : Int) - 1)&&(inB q 0 3&&inB v 0 1000000))=true
 ·rw [if_pos hc,if_pos hc]
  rw [Bool.and_eq_true] at hc
  have hp:=inB_iff.1 hc.1
  have:=I.cnt p.toNat (by omega)
  by_cases h : t.2.1.getD p.toNat 0=60
  ·rw [if_pos h,if_pos (by omega)]
  ·rw [if_neg h,if_neg (by omega)]
 ·rw [if_neg hc,if_neg hc]
theorem Rel.write (I : NInv n W H t) (R : Rel n t x) (p q v : Int) : Rel n (writeT t p q v) (rWriteT x p q v):=by
 have hE:=Rel.writeE I R p q v
 unfold writeT rWriteT
 by_cases hne : ¬ Go.Proofs.YthdbbgajmgjfcaaGreatDoor.writeE t p q v=0
 ·rw [if_neg hne,if_neg (by rw [hE]; exact hne)]; exact R
 have h0:=Decidable.of_not_not hne
 rw [if_pos h0,if_pos (by rw [hE]; exact h0)]
 have hin : inNet t p q=true:=by
  unfold Go.Proofs.YthdbbgajmgjfcaaGreatDoor.writeE at h0
  split at h0
  ·rename_i hb; rw [Bool.and_eq_true] at hb; exact hb.1
  ·cases h0
 obtain ⟨⟨p0,p1⟩,q0,q1⟩:=inNet_iff.1 hin
 rw [I.len] at p1
 have hpl : p.toNat < t.1.length:=by rw [I.len]; omega
 have hrow : (t.1.getD p.toNat (List.replicate 4 [])).length=4:=I.row _ (getD_memL hpl)
 have hra : rAt x p q=vAt t p.toNat q.toNat:=by
  have:=R.at' p.toNat q.toNat (by omega) (by omega)
  rwa [show ((p.toNat : Nat) : Int)=p by omega,show ((q.toNat : Nat) : Int)=q by omega] at this
 have hup : rUp x p=upW t p:=by unfold rUp upW; rw [R.wr]
 have hseen : seenU x p q x.1.toNat=(newV t p q v).1:=by
  have hn : x.1.toNat=n:=by rw [R.n1]; omega
  rw [hn]
  have hvals : valsAt t p q=vAt t p.toNat q.toNat:=rfl
  have hnl : (newV t p q v).1.length=n:=by
   show (List.set _ _ _).length=n
   rw [List.length_set,accU_len,I.len]
  refine list_ext1 (by rw [seenU_len,hnl]) fun j hj => ?_
  rw [seenU_len] at hj
  have e : (newV t p q v).1.getD j 0=if j=p.toNat then (upW t p).getD p.toNat 0 else (accU (vAt t p.toNat q.toNat) n (vAt t p.toNat q.toNat).length).getD j 0:=by
   show (List.set _ _ _).getD j 0=_
   rw [getD_setL _ _ _ _ _ (by rw [accU_len,I.len]; omega),hvals,I.len]
  rw [e]
  unfold seenU
  rw [List.getD_eq_getElem?_getD,List.getElem?_map,List.getElem?_range hj]
  show (if (j : Int)=p then _ else _)=_
  by_cases hjp : (j : Int)=p
  ·rw [if_pos hjp,if_pos (by omega),hup]
  ·rw [if_neg hjp,if_neg (by omega),hra,mxF_acc (fun w h=>I.ln h) hj _ (Nat.le_refl _)]
 refine ⟨R.n1,hup,?_,fun i k hi hk => ?_⟩
 ·show (setR _ _ _).length=_
  rw [setR_eq (by omega) (by rw [R.hl]; omega),List.length_set,R.hl]
 ·rw [vAt_set hpl (by rw [hrow]; omega)]
  show (setR x.2.1 (p*4+q) [(seenU x p q x.1.toNat,v,())]).getD ((i : Int)*4+(k : Int)).toNat []=_
  rw [setR_eq (by omega) (by rw [R.hl]; omega),getD_setL _ _ _ _ _ (by rw [R.hl]; omega),hseen]
  by_cases hc : i=p.toNat∧k=q.toNat
  ·rw [if_pos (by omega),if_pos hc]; rfl
  ·rw [if_neg (by omega),if_neg hc]; exact R.at' i k hi hk
theorem Rel.syncE (I : NInv n W H t) (R : Rel n t x) (a b : Int) : rSyncE x a b=Go.Proofs.YthdbbgajmgjfcaaGreatDoor.syncE t a b:=by
 unfold rSyncE Go.Proofs.YthdbbgajmgjfcaaGreatDoor.syncE inNet
 rw [R.n1,I.len]
 have : inB 0 0 3=true:=by decide
 rw [this,Bool.and_true,Bool.and_true]
theorem Rel.keeps (I : NInv n W H t) (R : Rel n t x) {a b : Int} (h0 : Go.Proofs.YthdbbgajmgjfcaaGreatDoor.syncE t a b=0) : (0≤a∧a < (n : Int))∧(0≤b∧b < (n : Int))∧a≠b∧∀ k,k < 4 →
 rAt (rSyncU x a b k) b (k : Int)=vAt t b.toNat k∧rAt (rSyncU x a b k) a (k : Int)=vAt t a.toNat k∧∀ i,i≤(vAt t a.toNat k).length→keepU (vAt t b.toNat k) (vAt t a.toNat k) i=mrgV (vAt t b.toNat k++(vAt t a.toNat k).take i):=by
 obtain ⟨ha,hb,hab⟩ : inNet t a 0=true∧inNet t b 0=true∧a≠b:=by
  unfold Go.Proofs.YthdbbgajmgjfcaaGreatDoor.syncE at h0
  cases ha : inNet t a 0<;>cases hb : inNet t b 0<;>simp [ha,hb] at h0
  exact ⟨rfl,rfl,h0⟩
 obtain ⟨⟨a0,a1⟩,-⟩:=inNet_iff.1 ha
 obtain ⟨⟨b0,b1⟩,-⟩:=inNet_iff.1 hb
 rw [I.len] at a1 b1
 refine ⟨⟨a0,a1⟩,⟨b0,b1⟩,hab,fun k hk => ?_⟩
 have hs:=fun (i : Nat)=>rAt_sync (t:=x) (a:=a) (b:=b) b0 (by rw [R.hl]; omega) k (by omega) i k hk
 have e1:=hs b.toNat
 have e2:=hs a.toNat
 rw [if_neg (by omega),R.at' _ _ (by omega) hk] at e1
 rw [if_neg (by omega),R.at' _ _ (by omega) hk] at e2
 rw [show ((b.toNat : Nat) : Int)=b by omega] at e1
 rw [show ((a.toNat : Nat) : Int)=a by omega] at e2
 have hm : ∀ v∈vAt t b.toNat k++vAt t a.toNat k,∃ p,H k p v:=fun v h=>(List.mem_append.1 h).elim (fun h=>I.mem _ _ _ h) fun h=>I.mem _ _ _ h
 exact ⟨e1,e2,keepU_eq (n:=n) (fun u h=>(hm u h).elim fun p hp=>I.hl _ _ _ hp) (fun u h w h' e=>by
  obtain ⟨p,hp⟩:=hm u h
  obtain ⟨p',hp'⟩:=hm w h'
  exact I.hf k p u p' w hp hp' e) (I.sv _ _) (fun u hu w hw=>I.anti _ _ u w hu hw)⟩
theorem Rel.syOk (I : NInv n W H t) (R : Rel n t x) {a b : Int} (h0 : rSyncE x a b=0) : SyOk x a b:=by
 rw [Rel.syncE I R] at h0
 obtain ⟨-,-,-,hK⟩:=Rel.keeps I R h0
 intro k hk i hi
 obtain ⟨e1,e2,e3⟩:=hK k hk
 rw [e2] at hi
 rw [e1,e2,e3 i hi]
 have f1:=I.few b.toNat k
 have f2:=I.few a.toNat k
 have h5:=I.hi
 have hl:=mrgV_len (vAt t b.toNat k++(vAt t a.toNat k).take i)
 rw [List.length_append,List.length_take] at hl
 refine ⟨by omega,fun u hu => ?_⟩
 rw [R.n1]
 have hmem : u∈vAt t b.toNat k++(vAt t a.toNat k).take i:=by
  unfold mrgV at hu
  rw [(perm_sortV _).mem_iff] at hu
  obtain ⟨j,hj,e,-⟩:=(mem_outU _).1 hu
  rw [← e]; exact getD_memL hj
 rcases List.mem_append.1 hmem with h | h
 ·rw [I.ln h]
 ·rw [I.ln (List.mem_of_mem_take h)]
theorem Rel.sync (I : NInv n W H t) (R : Rel n t x) (a b : Int) : Rel n (syncT t a b) (rSyncT x a b):=by
 have hE:=Rel.syncE I R a b
 unfold syncT rSyncT
 by_cases hne : ¬ Go.Proofs.YthdbbgajmgjfcaaGreatDoor.syncE t a b=0
 ·rw [if_neg hne,if_neg (by rw [hE]; exact hne)]; exact R
 have h0:=Decidable.of_not_not hne
 rw [if_pos h0,if_pos (by rw [hE]; exact h0)]
 obtain ⟨⟨a0,a1⟩,⟨b0,b1⟩,hab,hK⟩:=Rel.keeps I R h0
 refine ⟨by rw [rSyncU_1]; exact R.n1,by rw [rSyncU_3,syncU_wr]; exact R.wr,by rw [rSyncU_has b0 (by rw [R.hl]; omega) 4 (Nat.le_refl _)]; exact R.hl,fun i k hi hk => ?_⟩
 rw [vAt_sync I.row (by omega) (by rw [I.len]; omega) i k 4 (Nat.le_refl _),rAt_sync b0 (by rw [R.hl]; omega) 4 (Nat.le_refl _) i k hk]
 by_cases hc : (i : Int)=b
 ·rw [if_pos ⟨hc,hk⟩,if_pos (by omega)]
  obtain ⟨e1,e2,e3⟩:=hK k hk
  rw [e1,e2,e3 _ (Nat.le_refl _),List.take_length]
 ·rw [if_neg (fun h=>hc h.1),if_neg (by omega)]; exact R.at' i k hi hk
end
open Go.Vc
def oRead : OCtr:=fun args ob k=>match args,ob with
 | [.ps 0,.d (.int .i64) p,.d (.int .i64) q],[.st 96 [.os 1,.os 2],.row 98 (.ar 4 (.sl (.pr (.sl (.int .i64)) (.pr (.int .i64) .un)))) nodes,.row 3 (.int .i64) wrote] =>
  NetLen (nodes,wrote,())∧k (.os 1) [.st 96 [.os 2,.os 3],.row 83 tV (readF (nodes,wrote,()) p q),.row 98 tRow nodes,.row 3 I wrote]
 | _,_=>False
def anReadO (t : Net) (p k : Int) : Ann:=[joinAll,loopAt 5 Nat [(7,83,tV)] (fun st i=>{ St.at (St.only st [0,7,23,24]) [(25,.d I (i : Int))] with ob:=obNet t++[.row 83 tV ((valsAt t p k).take i)] }) (fun _ i=>i≤(valsAt t p k).length∧inNet t p k=true) (fun i=>(valsAt t p k).length - i)]
open Go.Vc
set_option linter.unusedVariables false
theorem vcReadO (nd : List (List (List Va))) (wr : List Int) (p q : Int) (k : SV→List Ob→Prop) : vcO ⟨Eg,[(56,cCloneI),(49,cIs)],[],[],[]⟩ (anReadO (nd,wr,()) p q) (Tryz.f29.body.getD .skip) Tryz.f29.ntmps [(.tmp 6,.un)] [.ps 0,.d I p,.d I q] [.st 96 [.os 1,.os 2],.row 98 tRow nd,.row 3 I wr] k=(
 ((!inNet (nd,wr,()) p q)=true→k SV.nils [Ob.st (96 : Nat) [SV.os (1 : Nat),SV.os (2 : Nat)],Ob.row (98 : Nat) (Ty.ar (4 : Nat) (tV).sl) nd,Ob.row (3 : Nat) (I) wr])∧((!inNet (nd,wr,()) p q)=false→(0 : Int)≤p∧p < (↑nd.length : Int)∧(0 : Int)≤q∧q < (↑(4 : Nat) : Int)∧(∃ (x : Nat),(x≤(valsAt (nd,wr,()) p q).length∧inNet (nd,wr,()) p q=true)∧(True∧True∧(nd.getD p.toNat (List.replicate (4 : Nat) [])).getD q.toNat []=(nd.getD p.toNat (List.replicate (4 : Nat) [])).getD q.toNat []∧(↑((nd.getD p.toNat (List.replicate (4 : Nat) [])).getD q.toNat []).length : Int)=(↑((nd.getD p.toNat (List.replicate (4 : Nat) [])).getD q.toNat []).length : Int)∧(0 : Int)=(↑x : Int)∧True)∧((True∧True∧True)∧((98 : Nat)=(98 : Nat)∧nd=nd)∧((3 : Nat)=(3 : Nat)∧wr=wr)∧((83 : Nat)=(83 : Nat)∧[]=List.take x (valsAt (nd,wr,()) p q))∧True)∧True∧p=p∧q=q∧True)∧∀ (x : Nat),x≤(valsAt (nd,wr,()) p q).length∧inNet (nd,wr,()) p q=true→(decide ((↑x : Int) < (↑((nd.getD p.toNat (List.replicate (4 : Nat) [])).getD q.toNat []).length : Int))=true→(0 : Int)≤(↑x : Int)∧(↑x : Int) < (↑((nd.getD p.toNat (List.replicate (4 : Nat) [])).getD q.toNat []).length : Int)∧((List.length (((nd.getD p.toNat (List.replicate (4 : Nat) [])).getD q.toNat []).getD (↑x : Int).toNat va0).fst≤(1000000000 : Nat)∧True)∧True)∧(List.take x (valsAt (nd,wr,()) p q)).length+((List.replicate (1 : Nat) va0).set (0 : Nat) ((((nd.getD p.toNat (List.replicate (4 : Nat) [])).getD q.toNat []).getD (↑x : Int).toNat va0).fst,(((nd.getD p.toNat (List.replicate (4 : Nat) [])).getD q.toNat []).getD (↑x : Int).toNat va0).snd.fst,())).length≤(1000000000 : Nat)∧inK IntKind.i64 ((↑x : Int)+(1 : Int))∧∃ (x_1 : Nat),(x_1≤(valsAt (nd,wr,()) p q).length∧inNet (nd,wr,()) p q=true)∧(valsAt (nd,wr,()) p q).length - x_1 < (valsAt (nd,wr,()) p q).length - x∧(True∧True∧(nd.getD p.toNat (List.replicate (4 : Nat) [])).getD q.toNat []=(nd.getD p.toNat (List.replicate (4 : Nat) [])).getD q.toNat []∧(↑((nd.getD p.toNat (List.replicate (4 : Nat) [])).getD q.toNat []).length : Int)=(↑((nd.getD p.toNat (List.replicate (4 : Nat) [])).getD q.toNat []).length : Int)∧(↑x : Int)+(1 : Int)=(↑x_1 : Int)∧True)∧((True∧True∧True)∧((98 : Nat)=(98 : Nat)∧nd=nd)∧((3 : Nat)=(3 : Nat)∧wr=wr)∧((83 : Nat)=(83 : Nat)∧(List.take x (valsAt (nd,wr,()) p q)).append ((List.replicate (1 : Nat) va0).set (0 : Nat) ((((nd.getD p.toNat (List.replicate (4 : Nat) [])).getD q.toNat []).getD (↑x : Int).toNat va0).fst,(((nd.getD p.toNat (List.replicate (4 : Nat) [])).getD q.toNat []).getD (↑x : Int).toNat va0).snd.fst,()))=List.take x_1 (valsAt (nd,wr,()) p q))∧True)∧True∧p=p∧q=q∧True)∧(decide ((↑x : Int) < (↑((nd.getD p.toNat (List.replicate (4 : Nat) [])).getD q.toNat []).length : Int))=false→k (SV.os (1 : Nat)) [Ob.st (96 : Nat) [SV.os (2 : Nat),SV.os (3 : Nat)],Ob.row (83 : Nat) (tV) (List.take x (valsAt (nd,wr,()) p q)),Ob.row (98 : Nat) (Ty.ar (4 : Nat) (tV).sl) nd,Ob.row (3 : Nat) (I) wr]))):=by kernel_rfl
end Go.Proofs.YthdbbgajmgjfcaaGreatDoor

namespace Go.Vc
open Go.RowKit
theorem OwnOk.sub [Dn] {P : Program} {gl gl' : List (Nat×Dat)} {f : FuncId} {c : OCtr} (hs : ∀ x∈gl,x∈gl') (h : OwnOk P gl f c) : OwnOk P gl' f c :=
 fun args ob k hc w M R0 A vals hB hrd I=>h args ob k hc w M R0 A vals ⟨fun g d hg=>hB.gl g d (hs _ hg),hB.lt,hB.me⟩ hrd I
theorem OwnOk.lift [Dn] {P : Program} {gl : List (Nat×Dat)} {f : FuncId} {c : OCtr} (h : OwnOk P [] f c) : OwnOk P gl f c:=h.sub fun x hx=>by cases hx
theorem own_nilrowK [Dn] {P : Program} {gl : List (Nat×Dat)} {f : FuncId} {oc oc' : OCtr} (h : OwnOk P gl f oc) (e : TypeId) (t : Ty) (σ : List Nat) (hσ : σ.Nodup)
   (h' : ∀ args ob k,oc' args ob k→(∀ i,i < keptN args→σ.getD i 0=i)∧oc args ob (fun s ob'=>match s with
     | .nils=>keptN args≤ob'.length∧k (reS σ (.os ob'.length)) (σ.map fun i=>reO σ ((ob'++[Ob.row e t []]).getD i .dead))
     | s=>k s ob')) : OwnOk P gl f oc':=by
 intro args ob k hc w M R0 A vals hB hrd I
 obtain ⟨hs,hc⟩:=h' _ _ _ hc
 refine (h _ _ _ hc w M R0 A vals hB hrd I).mono ?_
 rintro x w' ⟨v,s,ob1,A',rfl,hk,I2,hkeep⟩
 split at hk
 · obtain ⟨hkn,hk⟩:=hk
   have hv : v = .slice none 0 0:=I2.tm 0 .nils rfl
   subst hv
   have hnum : A'.n=ob1.length:=I2.num
   have hI := (I2.add none (fun _ => .slice none 0 0) (fun b => (Value.slice none 0 0).ownBlock = some b) (nilOb e (.d t)) (Same.refl w') (fun _ _ _ => rfl) (fun b hb => by simp [Value.ownBlock] at hb) (fun hro =>
         nilOb_ok e (.d t) (Asg.push_η ..) (Asg.push_κ ..))).put (d:=some 0) (s := .os ob1.length) (v := .slice none 0 0) ⟨by simp [Asg.pushT,hnum],by rw [← hnum,Asg.push_η]⟩
   refine ⟨.slice none 0 0,_,_,_,rfl,hk,hI.re hσ,fun i hi => ?_⟩
   rw [← hkeep i hi]
   simp only [Asg.re]
   rw [hs i hi]
   simp only [Asg.pushT]
   rw [if_neg (by omega)]
 · exact ⟨v,_,_,A',rfl,hk,I2,hkeep⟩
end Go.Vc
namespace Go.Proofs.YthdbbgajmgjfcaaGreatDoor
open Go.Vc Go.Proofs
theorem readO_vc (nd : List (List (List Va))) (wr : List Int) (p q : Int) (hN : NetLen (nd,wr,())) (k : SV→List Ob→Prop)
 (h1 : inNet (nd,wr,()) p q=false→k .nils [.st 96 [.os 1,.os 2],.row 98 tRow nd,.row 3 I wr])
 (h2 : inNet (nd,wr,()) p q=true→k (.os 1) [.st 96 [.os 2,.os 3],.row 83 tV (valsAt (nd,wr,()) p q),.row 98 tRow nd,.row 3 I wr]) :
 vcO ⟨Eg,[(56,cCloneI),(49,cIs)],[],[],[]⟩ (anReadO (nd,wr,()) p q) (Tryz.f29.body.getD .skip) Tryz.f29.ntmps [(.tmp 6,.un)] [.ps 0,.d I p,.d I q] [.st 96 [.os 1,.os 2],.row 98 tRow nd,.row 3 I wr] k:=by
 rw [vcReadO]
 have e0 : (List.getD nd p.toNat (List.replicate 4 [])).getD q.toNat []=valsAt (nd,wr,()) p q:=rfl
 have e1 : ∀ y : Va,(List.replicate 1 va0).set 0 y=[y]:=fun _=>rfl
 have ea : ∀ (m n : List Va),List.append m n=m++n:=fun _ _=>rfl
 have e2 : ∀ y : Va,(y.1,y.2.1,())=y:=fun _=>rfl
 simp only [e0,e1,ea,e2,decide_eq_true_eq,decide_eq_false_iff_not,true_and,and_true,Bool.not_eq_true',Bool.not_eq_false',Int.toNat_natCast,inK_i64]
 refine ⟨h1,fun h => ?_⟩
 have hin:=inNet_iff.1 h
 have hin1 : p < (nd.length : Int):=hin.1.2
 have hr : (List.getD nd p.toNat (List.replicate 4 []))∈nd:=getD_memL (by omega)
 obtain ⟨hr4,hrl⟩:=hN.1 _ hr
 have hv : valsAt (nd,wr,()) p q∈(List.getD nd p.toNat (List.replicate 4 [])):=getD_memL (by rw [hr4]; omega)
 obtain ⟨hl1,hl2⟩:=hrl _ hv
 refine ⟨hin.1.1,hin1,hin.2.1,by omega,⟨0,⟨Nat.zero_le _,h⟩,rfl,rfl⟩,fun x ⟨hx,_⟩=>⟨fun hlt => ?_,fun hge => ?_⟩⟩
 ·have hxl : x < (valsAt (nd,wr,()) p q).length:=by omega
  have:=hl2 _ (getD_memL (d:=va0) hxl)
  refine ⟨by omega,hlt,by omega,?_,by omega,x+1,⟨by omega,h⟩,by omega,by omega,?_⟩
  ·rw [List.length_take]; simp only [List.length_cons,List.length_nil]; omega
  ·rw [List.take_succ_eq_append_getElem hxl,List.getD_eq_getElem?_getD,List.getElem?_eq_getElem hxl]; rfl
 ·have : x=(valsAt (nd,wr,()) p q).length:=by omega
  rw [this,List.take_length]; exact h2 h
theorem ownRead : OwnOk Tryz.prog [] 29 oRead:=by
 refine own_nilrowK (oc:=fun args ob k=>∃ (p q : Int) (nd : List (List (List Va))) (wr : List Int),args=[.ps 0,.d I p,.d I q]∧ob=[.st 96 [.os 1,.os 2],.row 98 tRow nd,.row 3 I wr]∧NetLen (nd,wr,()) ∧
  (inNet (nd,wr,()) p q=false→k .nils [.st 96 [.os 1,.os 2],.row 98 tRow nd,.row 3 I wr]) ∧
  (inNet (nd,wr,()) p q=true→k (.os 1) [.st 96 [.os 2,.os 3],.row 83 tV (valsAt (nd,wr,()) p q),.row 98 tRow nd,.row 3 I wr])) ?_ 83 tV [0,3,1,2] (by decide) ?_
 ·refine own_of (CxOk.mk' Eg_ok (by kernel_rfl) mixed (gl:=[]) (GOk.cons okCloneI Tryz.func56 (by kernel_rfl) (by kernel_rfl) (GOk.cons okIs Tryz.func49 (by kernel_rfl) (by kernel_rfl) GOk.nil)) GoOk.nil noIt) Tryz.func29 (c:=Tryz.f29.body.getD .skip) (rvs:=[(.tmp 6,.un)]) (by kernel_rfl) (by kernel_rfl) (by kernel_rfl) ?_
  rintro args ob k ⟨p,q,nd,wr,rfl,rfl,hN,h1,h2⟩ hwa hwo
  exact ⟨anReadO (nd,wr,()) p q,readO_vc nd wr p q hN k h1 h2⟩
 ·intro args ob k h
  unfold oRead at h
  split at h
  ·rename_i p q nd wr
   obtain ⟨hN,hk⟩:=h
   refine ⟨fun i hi => ?_,p,q,nd,wr,rfl,rfl,hN,fun hb=>⟨show 1≤3 from by decide,?_⟩,fun hb => ?_⟩
   ·have : i < 1:=hi
    have : i=0:=by omega
    subst this; rfl
   ·unfold readF at hk; rw [if_neg (by rw [hb]; decide)] at hk; exact hk
   ·unfold readF at hk; rw [if_pos hb] at hk; exact hk
  ·exact h.elim
open Go.Vc Go.Proofs
theorem inB5 {n : Int} (h : inB n 1 5=true) : 1≤n.toNat∧n.toNat≤5∧1≤n∧n≤5:=by
 have:=inB_iff.1 h; omega
theorem writeE_k (t : Net) (p q v : Int) : -9223372036854775808≤writeE t p q v∧writeE t p q v≤9223372036854775807:=by
 unfold writeE; split
 ·split<;>omega
 ·omega
theorem syncE_k (t : Net) (a b : Int) : -9223372036854775808≤syncE t a b∧syncE t a b≤9223372036854775807:=by
 unfold syncE; split
 ·split<;>omega
 ·omega
theorem net_eta (t : Net) : (t.1,t.2.1,())=t:=rfl
open Go.Vc Go.Proofs Go.RowKit
abbrev tBd : Ty := .pr (.ptr .un) (.pr (.sl (.int .u8)) .un)
abbrev tBk : Ty := .pr (.ptr tNet) (.pr tBd (.pr I .un))
def obBk (t : Net) (txt : List UInt8) (m : Int) : List Ob:=[.st 66 [.ps 1,.sf 0 1,.os 2,.d I m],.st 96 [.os 3,.os 4],.buf 5 txt,.row 98 tRow t.1,.row 3 I t.2.1]
def oWS : OCtr:=fun args ob k=>match args,ob with
 | [.pf _ 0 1 [],.d .str x],[.st 66 [.ps 1,.sf 0 1,.os 2,.d (.int .i64) m],.st 96 [.os 3,.os 4],.buf 5 txt,.row 98 (.ar 4 (.sl (.pr (.sl (.int .i64)) (.pr (.int .i64) .un)))) nodes,.row 3 (.int .i64) wrote] =>
  txt.length+x.length≤1000000000∧k (.tp [.d I (x.length : Int),.d tErr (0 : Int)]) (obBk (nodes,wrote,()) (txt++x) m)
 | _,_=>False
def oStr : OCtr:=fun args ob k=>match args,ob with
 | [.pf _ 0 1 []],[.st 66 [.ps 1,.sf 0 1,.os 2,.d (.int .i64) m],.st 96 [.os 3,.os 4],.buf 5 txt,.row 98 (.ar 4 (.sl (.pr (.sl (.int .i64)) (.pr (.int .i64) .un)))) nodes,.row 3 (.int .i64) wrote] =>
  txt.length≤1000000000∧k (.d .str txt) (obBk (nodes,wrote,()) txt m)
 | _,_=>False
theorem pf_val {w : World} {ro : Nat→Prop} {A : Asg} {t : Ty} {i o : Nat} {v : Value} (h : SvOk w ro A (.pf t i o []) v) : ∃ g,A.η i = .pointer (some ⟨g,0,none⟩)∧v = .pointer (some ⟨g,o,none⟩):=by
 obtain ⟨_,g,o',t',e1,e2,_,e3⟩:=h
 rw [off_nil] at e2
 injection e2 with e2; injection e2 with e2
 subst e2
 exact ⟨g,e1,e3⟩
theorem str_val {w : World} {ro : Nat→Prop} {A : Asg} {x : List UInt8} {v : Value} (h : SvOk w ro A (.d .str x) v) : v = .string ⟨x.toArray⟩∧x.length≤maxLen:=by
 have h' : [v]=[Value.string ⟨x.toArray⟩]∧x.length≤maxLen:=h
 exact ⟨by simpa using h'.1,h'.2⟩
theorem vals1 {vals : Array Value} (h : vals.size=1) : vals=#[vals.getD 0 undef]:=by
 apply Array.ext (by simp [h])
 intro k h1 h2
 have : k=0:=by omega
 subst this
 simp [h]
theorem vals2 {vals : Array Value} (h : vals.size=2) : vals=#[vals.getD 0 undef,vals.getD 1 undef]:=by
 apply Array.ext (by simp [h])
 intro k h1 h2
 have : k=0∨k=1:=by omega
 rcases this with rfl | rfl<;>simp [h]
theorem ownWS [Dn] : OwnOk Tryz.prog [] 43 oWS:=by
 intro args ob k h w M R0 A vals hB hrd IV
 unfold oWS at h
 split at h
 ·rename_i t x m txt nodes wrote
  obtain ⟨hl,hk⟩:=h
  obtain ⟨g,e1,e2⟩:=pf_val (IV.tm 0 _ rfl)
  obtain ⟨e3,hxl⟩:=str_val (IV.tm 1 _ rfl)
  have hv:=vals2 (show vals.size=2 from IV.len)
  rw [e2,e3] at hv
  rw [hv]
  rw [hv] at IV
  refine (ws_inv IV (i:=0) (j:=2) (o:=1) rfl rfl rfl rfl rfl (by decide) (by decide) (by kernel_rfl) x (by omega) e1).mono ?_
  rintro e w' ⟨rfl,κ,F,I'⟩
  have hn : inK .i64 (x.length : Int):=inK_len hxl
  have hs : ∀ ro,SvOk w' ro (A.pushT κ F) (.tp [.d I (x.length : Int),.d tErr (0 : Int)]) (.tuple #[.int .i64 x.length,.nilIface]):=by
   refine fun ro=>⟨_,rfl,rfl,fun j sv v h1 h2 => ?_⟩
   match j with
   | 0=>simp at h1 h2; subst h1; subst h2; exact ⟨rfl,hn⟩
   | 1=>simp at h1 h2; subst h1; subst h2; exact .inl ⟨rfl,rfl⟩
   | j+2=>simp at h1
  have I2:=I'.out (M':=M) rfl (σ:=[0,1,5,3,4]) (by decide) (hs _)
  refine ⟨_,_,_,_,rfl,hk,I2,fun i hi => ?_⟩
  have hi : i < 1:=hi
  have : i=0:=by omega
  subst this
  exact (A.push_le κ F).η 0 (by rw [show A.n=5 from IV.num]; decide)
 ·exact h.elim
theorem ownStr [Dn] : OwnOk Tryz.prog [] 31 oStr:=by
 intro args ob k h w M R0 A vals hB hrd IV
 unfold oStr at h
 split at h
 ·rename_i t m txt nodes wrote
  obtain ⟨hl,hk⟩:=h
  obtain ⟨g,e1,e2⟩:=pf_val (IV.tm 0 _ rfl)
  have hv:=vals1 (show vals.size=1 from IV.len)
  rw [e2] at hv
  rw [hv]
  rw [hv] at IV
  refine (st_inv IV (i:=0) (j:=2) (o:=1) rfl rfl rfl rfl rfl (by decide) e1).mono ?_
  rintro e w' ⟨rfl,I'⟩
  have hs : ∀ ro,SvOk w' ro A (.d .str txt) (.string ⟨txt.toArray⟩):=fun ro=>⟨rfl,Nat.le_trans hl (by decide)⟩
  have I2:=I'.out (M':=M) rfl (σ:=[0,1,2,3,4]) (by decide) (hs _)
  refine ⟨_,_,_,_,rfl,hk,I2,fun i hi => ?_⟩
  have hi : i < 1:=hi
  have : i=0:=by omega
  subst this
  rfl
 ·exact h.elim
open Go.Vc Go.Proofs Go.RowKit
def Es : Env:={ tys:=[(3,I),(4,.bool),(9,.str),(5,.int .u8),(38,.sl (.int .u8)),(29,tErr),(32,.sl I),(66,tBk),(24,.ptr tBk)],errT:=73,eqs:=[],els:=[] }
theorem Es_ok : EnvOk Tryz.prog Es:=EnvOk.of_list (by kernel_rfl) (by kernel_rfl) (by kernel_rfl)
def sumN (s : List UInt8) : Nat→Nat
 | 0=>0
 | k+1=>sumN s k+(k+1)*(s.getD k 0).toNat
def sumF (s : List UInt8) : Int:=((sumN s s.length : Nat) : Int)%9973
theorem sumN_le (s : List UInt8) : ∀ k,sumN s k≤k*k*255
 | 0=>Nat.le_refl _
 | k+1=>by
  have h1:=sumN_le s k
  have h2 : (s.getD k 0).toNat≤255:=by have:=(s.getD k 0).toNat_lt; omega
  have h3 : (k+1)*(s.getD k 0).toNat≤(k+1)*255:=Nat.mul_le_mul_left _ h2
  have h4 : (k+1)*(k+1)=k*k+k+(k+1):=by rw [Nat.mul_succ,Nat.succ_mul]
  simp only [sumN]
  rw [h4]
  omega
theorem sumN_mono (s : List UInt8) {j k : Nat} (h : j≤k) : sumN s j≤sumN s k:=by
 induction k with
 | zero => have : j = 0 := by omega
           subst this; exact Nat.le_refl _
 | succ k ih =>
   by_cases hj : j=k+1
   · subst hj; exact Nat.le_refl _
   · exact Nat.le_trans (ih (by omega)) (Nat.le_add_right _ _)
structure SumOk (s : List UInt8) : Prop where
 le : s.length≤1100000
def cSum : Ctr:=cdet [.str] (fun s=>SumOk s) (fun s=>[⟨I,sumF s⟩])
def anSumB (s : List UInt8) : Ann:=[joinAll,loopAt 3 Nat [] (fun st i=>St.at (St.only st [7,8]) [(3,.d I ((sumN s i : Nat) : Int)),(9,.d I (i : Int))]) (fun _ i=>i≤s.length) (fun i=>s.length - i)]
def anSumR (s : List UInt8) : Ann:=[joinAll,loopAt 3 Nat [] (fun st j=>St.at (St.only st [0]) [(3,.d I ((sumN s s.length : Nat) - (sumN s j : Nat) : Int)),(4,.d I ((j : Int) - 1))]) (fun _ j=>j≤s.length) (fun j=>j)]
def cDig (d : Nat) : Ctr:=cdet [I] (fun (n : Int)=>0≤n∧n.toNat < d) (fun (n : Int)=>[⟨.str,Lib.decDigits n.toNat⟩])
structure DigOk (n : Int) : Prop where
 nn : 0≤n
def cDigits : Ctr:=cdet [I] (fun (n : Int)=>DigOk n) (fun (n : Int)=>[⟨.str,Lib.decDigits n.toNat⟩])
def putS (word : List UInt8) (l : List Int) : List UInt8:=l.foldl (fun s n=>List.append s (List.append [32] (Lib.itoa n))) word
def lineF (word : List UInt8) (l : List Int) : List UInt8:=List.append (List.append (List.append (putS word l) [32]) (Lib.itoa (sumF (putS word l)))) [10]
def oPut : OCtr:=fun args ob k=>match args,ob with
 | [.ps 0,.d .str word,.d (.sl (.int .i64)) l],[.st 66 [.ps 1,.sf 0 1,.os 2,.d (.int .i64) m],.st 96 [.os 3,.os 4],.buf 5 txt,.row 98 (.ar 4 (.sl (.pr (.sl (.int .i64)) (.pr (.int .i64) .un)))) nodes,.row 3 (.int .i64) wrote] =>
  (txt.length≤900000000∧(0≤m∧m≤1000)∧word.length≤10∧(l : List Int).length≤10)∧k (.tp []) (obBk (nodes,wrote,()) (List.append txt (lineF word l)) ((m : Int)+1))
 | _,_=>False
def anPut (word : List UInt8) (l : List Int) : Ann:=[joinAll,loopAt 2 Nat [] (fun st i=>St.at (St.only st [0,10,11]) [(6,.d .str (putS word (l.take i))),(12,.d I (i : Int))]) (fun _ i=>i≤l.length∧l.length≤10) (fun i=>l.length - i)]
open Go.Vc
set_option linter.unusedVariables false
theorem vcSumB (s : List UInt8) (k : List Dat→Prop) : vcF ⟨Es,[],[],[],[]⟩ (anSumB s) (Tryz.f62.body.getD .skip) Tryz.f62.ntmps [(.tmp 2,I)] [⟨.str,s⟩] k=(
 (∃ (x : Nat),x.le s.length∧((0 : Int)=(↑(sumN s x) : Int)∧sbyt s=sbyt s∧(↑(sbyt s).length : Int)=(↑(sbyt s).length : Int)∧(0 : Int)=(↑x : Int)∧True)∧True∧True)∧∀ (x : Nat),x.le s.length→(decide ((↑x : Int) < (↑(sbyt s).length : Int))=true→(0 : Int)≤(↑x : Int)∧(↑x : Int) < (↑(sbyt s).length : Int)∧inK IntKind.i64 ((↑x : Int)+(1 : Int))∧inK IntKind.i64 ((sbyt s).getD (↑x : Int).toNat (0 : Int))∧inK IntKind.i64 (((↑x : Int)+(1 : Int))*(sbyt s).getD (↑x : Int).toNat (0 : Int))∧inK IntKind.i64 ((↑(sumN s x) : Int)+((↑x : Int)+(1 : Int))*(sbyt s).getD (↑x : Int).toNat (0 : Int))∧inK IntKind.i64 ((↑x : Int)+(1 : Int))∧∃ (x_1 : Nat),x_1.le s.length∧s.length - x_1 < s.length - x∧((↑(sumN s x) : Int)+((↑x : Int)+(1 : Int))*(sbyt s).getD (↑x : Int).toNat (0 : Int)=(↑(sumN s x_1) : Int)∧sbyt s=sbyt s∧(↑(sbyt s).length : Int)=(↑(sbyt s).length : Int)∧(↑x : Int)+(1 : Int)=(↑x_1 : Int)∧True)∧True∧True)∧(decide ((↑x : Int) < (↑(sbyt s).length : Int))=false→(9973 : Int)≠(0 : Int)∧inK IntKind.i64 ((↑(sumN s x) : Int).tmod (9973 : Int))∧k [Dat.mk (I) ((↑(sumN s x) : Int).tmod (9973 : Int))])):=by kernel_rfl
theorem vcSumR (s : List UInt8) (k : List Dat→Prop) : vcF ⟨Es,[],[],[],[]⟩ (anSumR s) (Tryz.f67.body.getD .skip) Tryz.f67.ntmps [(.tmp 2,I)] [⟨.str,s⟩] k=(
 inK IntKind.i64 ((↑s.length : Int) - (1 : Int))∧(∃ (x : Nat),x.le s.length∧(s=s∧(0 : Int)=(↑(sumN s s.length) : Int) - (↑(sumN s x) : Int)∧(↑s.length : Int) - (1 : Int)=(↑x : Int) - (1 : I.D)∧True)∧True∧True)∧∀ (x : Nat),x.le s.length→(decide ((0 : Int)≤(↑x : Int) - (1 : I.D))=true→inK IntKind.i64 ((↑x : Int) - (1 : I.D)+(1 : Int))∧(0 : Int)≤(↑x : Int) - (1 : I.D)∧(↑x : Int) - (1 : I.D) < (↑s.length : Int)∧inK IntKind.i64 (↑(s.getD ((↑x : Int) - (1 : I.D)).toNat (0 : UInt8)).toNat : Int)∧inK IntKind.i64 (((↑x : Int) - (1 : I.D)+(1 : Int))*(↑(s.getD ((↑x : Int) - (1 : I.D)).toNat (0 : UInt8)).toNat : Int))∧inK IntKind.i64 ((↑(sumN s s.length) : Int) - (↑(sumN s x) : Int)+((↑x : Int) - (1 : I.D)+(1 : Int))*(↑(s.getD ((↑x : Int) - (1 : I.D)).toNat (0 : UInt8)).toNat : Int))∧inK IntKind.i64 ((↑x : Int) - (1 : I.D) - (1 : Int))∧∃ (x_1 : Nat),x_1.le s.length∧x_1 < x∧(s=s∧(↑(sumN s s.length) : Int) - (↑(sumN s x) : Int)+((↑x : Int) - (1 : I.D)+(1 : Int))*(↑(s.getD ((↑x : Int) - (1 : I.D)).toNat (0 : UInt8)).toNat : Int)=(↑(sumN s s.length) : Int) - (↑(sumN s x_1) : Int)∧(↑x : Int) - (1 : I.D) - (1 : Int)=(↑x_1 : Int) - (1 : I.D)∧True)∧True∧True)∧(decide ((0 : Int)≤(↑x : Int) - (1 : I.D))=false→(9973 : Int)≠(0 : Int)∧inK IntKind.i64 (((↑(sumN s s.length) : Int) - (↑(sumN s x) : Int)).tmod (9973 : Int))∧k [Dat.mk (I) (((↑(sumN s s.length) : Int) - (↑(sumN s x) : Int)).tmod (9973 : Int))])):=by kernel_rfl
theorem vcDig (d : Nat) (n : Int) (k : List Dat→Prop) : vcF ⟨Es,[(75,cDig d)],[],[],[]⟩ [joinAll] (Tryz.f75.body.getD .skip) Tryz.f75.ntmps [(.tmp 2,.str)] [⟨I,n⟩] k=(
 (decide (n < (10 : Int))=true→inK IntKind.i64 (n+(1 : Int))∧(0 : Int)≤n∧n≤n+(1 : Int)∧n+(1 : Int)≤(↑[(48 : UInt8),(49 : UInt8),(50 : UInt8),(51 : UInt8),(52 : UInt8),(53 : UInt8),(54 : UInt8),(55 : UInt8),(56 : UInt8),(57 : UInt8)].length : Int)∧k [Dat.mk Ty.str (List.drop n.toNat (List.take (n+(1 : Int)).toNat [(48 : UInt8),(49 : UInt8),(50 : UInt8),(51 : UInt8),(52 : UInt8),(53 : UInt8),(54 : UInt8),(55 : UInt8),(56 : UInt8),(57 : UInt8)]))])∧(decide (n < (10 : Int))=false→(10 : Int)≠(0 : Int)∧inK IntKind.i64 (n.tdiv (10 : Int))∧((0 : Int)≤n.tdiv (10 : Int)∧(n.tdiv (10 : Int)).toNat < d)∧(10 : Int)≠(0 : Int)∧inK IntKind.i64 (n.tmod (10 : Int))∧((0 : Int)≤n.tmod (10 : Int)∧(n.tmod (10 : Int)).toNat < d)∧(Lib.decDigits (n.tdiv (10 : Int)).toNat).length+(Lib.decDigits (n.tmod (10 : Int)).toNat).length≤maxLen∧k [Dat.mk Ty.str ((Lib.decDigits (n.tdiv (10 : Int)).toNat).append (Lib.decDigits (n.tmod (10 : Int)).toNat))])):=by kernel_rfl
theorem vcPut (nd : List (List (List Va))) (wr : List Int) (txt word : List UInt8) (l : List Int) (m : Int) (k : SV→List Ob→Prop) : vcO ⟨Es,[(62,cSum),(64,cItoa)],glT,[],[(43,oWS)]⟩ (anPut word l) (Tryz.f35.body.getD .skip) Tryz.f35.ntmps [] [.ps 0,.d .str word,.d (.sl I) l] (obBk (nd,wr,()) txt m) k=(
 (∃ (x : Nat),(x≤l.length∧l.length≤(10 : Nat))∧(True∧word=putS word (List.take x l)∧l=l∧(↑l.length : Int)=(↑l.length : Int)∧(0 : Int)=(↑x : Int)∧True)∧((True∧True∧True∧m=m∧True)∧(True∧True∧True)∧txt=txt∧((98 : Nat)=(98 : Nat)∧nd=nd)∧((3 : Nat)=(3 : Nat)∧wr=wr)∧True)∧True∧word=word∧l=l∧Lib.pow10Tab=Lib.pow10Tab∧True)∧∀ (x : Nat),x≤l.length∧l.length≤(10 : Nat)→(decide ((↑x : Int) < (↑l.length : Int))=true→(0 : Int)≤(↑x : Int)∧(↑x : Int) < (↑l.length : Int)∧True∧[(32 : UInt8)].length+(Lib.itoa (l.getD (↑x : Int).toNat (0 : Int))).length≤maxLen∧(putS word (List.take x l)).length+((32 : UInt8)::Lib.itoa (l.getD (↑x : Int).toNat (0 : Int))).length≤maxLen∧inK IntKind.i64 ((↑x : Int)+(1 : Int))∧∃ (x_1 : Nat),(x_1≤l.length∧l.length≤(10 : Nat))∧l.length - x_1 < l.length - x∧(True∧(putS word (List.take x l)).append ((32 : UInt8)::Lib.itoa (l.getD (↑x : Int).toNat (0 : Int)))=putS word (List.take x_1 l)∧l=l∧(↑l.length : Int)=(↑l.length : Int)∧(↑x : Int)+(1 : Int)=(↑x_1 : Int)∧True)∧((True∧True∧True∧m=m∧True)∧(True∧True∧True)∧txt=txt∧((98 : Nat)=(98 : Nat)∧nd=nd)∧((3 : Nat)=(3 : Nat)∧wr=wr)∧True)∧True∧word=word∧l=l∧Lib.pow10Tab=Lib.pow10Tab∧True)∧(decide ((↑x : Int) < (↑l.length : Int))=false→((putS word (List.take x l)).length+[(32 : UInt8)].length≤maxLen∧SumOk (putS word (List.take x l))∧True∧((putS word (List.take x l)).append [(32 : UInt8)]).length+(Lib.itoa (sumF (putS word (List.take x l)))).length≤maxLen∧(((putS word (List.take x l)).append [(32 : UInt8)]).append (Lib.itoa (sumF (putS word (List.take x l))))).length+[(10 : UInt8)].length≤maxLen∧True)∧txt.length+((((putS word (List.take x l)).append [(32 : UInt8)]).append (Lib.itoa (sumF (putS word (List.take x l))))).append [(10 : UInt8)]).length≤(1000000000 : Nat)∧inK IntKind.i64 (m+(1 : Int))∧k (SV.tp []) [Ob.st (66 : Nat) [SV.ps (1 : Nat),SV.sf (0 : Nat) (1 : Nat),SV.os (2 : Nat),SV.d (I) (m+(1 : Int))],Ob.st (96 : Nat) [SV.os (3 : Nat),SV.os (4 : Nat)],Ob.buf (5 : Nat) (txt++(((putS word (List.take x l)).append [(32 : UInt8)]).append (Lib.itoa (sumF (putS word (List.take x l))))).append [(10 : UInt8)]),Ob.row (98 : Nat) (Ty.ar (4 : Nat) (tV).sl) nd,Ob.row (3 : Nat) (I) wr])):=by kernel_rfl
open Go.Vc Go.Proofs Go.RowKit
theorem sbyt_len (s : List UInt8) : List.length (sbyt s)=s.length:=by simp [sbyt]
theorem sbyt_get (s : List UInt8) (i : Nat) : List.getD (sbyt s) i (0 : Int)=((s.getD i 0).toNat : Int):=by
 simp only [sbyt,List.getD_eq_getElem?_getD,List.getElem?_map]
 cases s[i]? <;> rfl
theorem sq_le {x : Nat} (h : x≤1100000) : x*x≤1210000000000:=Nat.mul_le_mul h h
theorem sum_step (s : List UInt8) {x : Nat} (hx : x < 1100000) : (((x : Int)+1)*((s.getD x 0).toNat : Int)=(((x+1)*(s.getD x 0).toNat : Nat) : Int))∧(x+1)*(s.getD x 0).toNat≤1100000*255:=by
 refine ⟨by rw [Int.natCast_mul]; rfl,Nat.mul_le_mul (by omega) ?_⟩
 have:=(s.getD x 0).toNat_lt; omega
theorem sumN_bound (s : List UInt8) {x : Nat} (hx : x≤1100000) : sumN s x≤308550000000000:=by
 have h1:=sumN_le s x
 have h2:=sq_le hx
 omega
theorem okSumB [Dn] : PlainOk Tryz.prog [] 62 cSum:=by
 refine plain_of (CxOk.mk' Es_ok (by kernel_rfl) mixed (gl:=[]) GOk.nil GoOk.nil noIt) Tryz.func62 (c:=Tryz.f62.body.getD .skip) (rvs:=[(.tmp 2,I)]) (by kernel_rfl) (by kernel_rfl) (by kernel_rfl) ?_
 intro ds k ⟨hp,hk⟩ hwf
 obtain ⟨s,rfl,hs⟩:=dest1 hp
 have hl:=hs.le
 refine ⟨anSumB s,?_⟩
 have hk : k [⟨I,sumF s⟩]:=hk
 rw [vcSumB]
 simp only [sbyt_len,sbyt_get,Int.toNat_natCast,decide_eq_true_eq,decide_eq_false_iff_not,true_and,and_true,Nat.le_eq,inK_i64,Int.ofNat_lt,ne_eq,Int.reduceEq,not_false_eq_true]
 refine ⟨⟨0,Nat.zero_le _,rfl,rfl⟩,fun x hx=>⟨fun hlt => ?_,fun hge => ?_⟩⟩
 ·obtain ⟨e1,e2⟩:=sum_step s (x:=x) (by omega)
  have e3:=sumN_bound s (x:=x) (by omega)
  have e4 : (s.getD x 0).toNat≤255:=by have:=(s.getD x 0).toNat_lt; omega
  rw [e1]
  refine ⟨by omega,by omega,by omega,by omega,by omega,by omega,by omega,x+1,by omega,by omega,?_,by omega⟩
  simp only [sumN]; omega
 ·have : x=s.length:=by omega
  subst this
  have e3:=sumN_bound s hl
  rw [Int.tmod_eq_emod_of_nonneg (by omega)]
  exact ⟨by omega,hk⟩
theorem okSumR [Dn] : PlainOk Tryz.prog [] 67 cSum:=by
 refine plain_of (CxOk.mk' Es_ok (by kernel_rfl) mixed (gl:=[]) GOk.nil GoOk.nil noIt) Tryz.func67 (c:=Tryz.f67.body.getD .skip) (rvs:=[(.tmp 2,I)]) (by kernel_rfl) (by kernel_rfl) (by kernel_rfl) ?_
 intro ds k ⟨hp,hk⟩ hwf
 obtain ⟨s,rfl,hs⟩:=dest1 hp
 have hl:=hs.le
 refine ⟨anSumR s,?_⟩
 have hk : k [⟨I,sumF s⟩]:=hk
 rw [vcSumR]
 have one : (1 : I.D)=(1 : Int):=rfl
 simp only [one,decide_eq_true_eq,decide_eq_false_iff_not,true_and,and_true,Nat.le_eq,inK_i64,ne_eq,Int.reduceEq,not_false_eq_true]
 have hL:=sumN_bound s hl
 refine ⟨by omega,⟨s.length,Nat.le_refl _,by omega,by omega⟩,fun x hx=>⟨fun hge => ?_,fun hlt => ?_⟩⟩
 ·obtain ⟨y,rfl⟩ : ∃ y,x=y+1:=⟨x - 1,by omega⟩
  have et : (((y+1 : Nat) : Int) - 1).toNat=y:=by omega
  rw [et]
  obtain ⟨e1,e2⟩:=sum_step s (x:=y) (by omega)
  have e3:=sumN_bound s (x:=y) (by omega)
  have e5:=sumN_mono s hx
  have e4 : (s.getD y 0).toNat≤255:=by have:=(s.getD y 0).toNat_lt; omega
  have e6 : ((y+1 : Nat) : Int) - 1+1=(y : Int)+1:=by omega
  have e7 : sumN s (y+1)=sumN s y+(y+1)*(s.getD y 0).toNat:=rfl
  rw [e6,e1]
  refine ⟨by omega,by omega,by omega,by omega,by omega,by omega,by omega,y,by omega,by omega,?_,by omega⟩
  omega
 ·have : x=0:=by omega
  subst this
  simp only [sumN,Int.natCast_zero,Int.sub_zero]
  rw [Int.tmod_eq_emod_of_nonneg (by omega)]
  exact ⟨by omega,hk⟩
theorem dig_small : ∀ n : Fin 10,List.drop n.1 (List.take (n.1+1) [(48 : UInt8),49,50,51,52,53,54,55,56,57])=[UInt8.ofNat (48+n.1)]:=by decide
theorem decDig_le {n : Nat} (h : n < 9223372036854775808) : (Lib.decDigits n).length≤20:=by
 rw [Lib.decDigits_length]
 have:=nDig_le 18 n (by omega)
 omega
theorem okDig [Dn] : ∀ d,PlainOk Tryz.prog [] 75 (cDig d)
 | 0=>by
  intro ds k ⟨hp,hk⟩
  obtain ⟨n,rfl,h1,h2⟩:=dest1 hp
  omega
 | d+1=>by
  refine plain_of (CxOk.mk' Es_ok (by kernel_rfl) mixed (gl:=[]) (GOk.cons (okDig d) Tryz.func75 (by kernel_rfl) (by kernel_rfl) GOk.nil) GoOk.nil noIt) Tryz.func75 (c:=Tryz.f75.body.getD .skip) (rvs:=[(.tmp 2,.str)]) (by kernel_rfl) (by kernel_rfl) (by kernel_rfl) ?_
  intro ds k ⟨hp,hk⟩ hwf
  obtain ⟨n,rfl,h1,h2⟩:=dest1 hp
  refine ⟨[joinAll],?_⟩
  have hk : k [⟨.str,Lib.decDigits (n : Int).toNat⟩]:=hk
  have hn : inK .i64 n:=hwf _ (List.mem_singleton.2 rfl)
  change @LE.le Int _ 0 n at h1
  change @LT.lt Nat _ (@Int.toNat n) (d+1) at h2
  clear hp hwf
  revert n
  intro (n : Int) _ hk hn h1 h2
  have hn:=inK_i64.1 hn
  rw [vcDig]
  simp only [decide_eq_true_eq,decide_eq_false_iff_not,inK_i64,ne_eq,Int.reduceEq,not_false_eq_true,true_and]
  refine ⟨fun hlt=>⟨by omega,h1,by omega,by simp; omega,?_⟩,fun hge => ?_⟩
  ·have e:=dig_small ⟨n.toNat,by omega⟩
   have e2 : (n+1).toNat=n.toNat+1:=by omega
   rw [e2,e]
   have e3 : Lib.decDigits n.toNat=[UInt8.ofNat (48+n.toNat)]:=by rw [Lib.decDigits,dif_pos (by omega)]
   rw [← e3]; exact hk
  ·have q1 : n.tdiv 10=n/10:=Int.tdiv_eq_ediv_of_nonneg h1
   have q2 : n.tmod 10=n%10:=Int.tmod_eq_emod_of_nonneg h1
   rw [q1,q2]
   have t1 : (n/10).toNat=n.toNat/10:=by omega
   have t2 : (n%10).toNat=n.toNat%10:=by omega
   rw [t1,t2]
   refine ⟨by omega,⟨by omega,by omega⟩,by omega,⟨by omega,by omega⟩,?_,?_⟩
   ·have l1:=decDig_le (n:=n.toNat/10) (by omega)
    have l2:=decDig_le (n:=n.toNat%10) (by omega)
    simp only [maxLen]; omega
   ·have e3 : Lib.decDigits n.toNat=List.append (Lib.decDigits (n.toNat/10)) (Lib.decDigits (n.toNat%10)):=by
     rw [Lib.decDigits,dif_neg (by omega)]
     conv=>rhs; rw [Lib.decDigits.eq_def (n.toNat%10),dif_pos (show n.toNat%10 < 10 by omega)]
     rfl
    rw [← e3]; exact hk
theorem okDigits [Dn] : PlainOk Tryz.prog [] 75 cDigits:=by
 intro ds k ⟨hp,hk⟩
 obtain ⟨n,rfl,h1⟩:=dest1 hp
 have h1 : @LE.le Int _ 0 n:=h1.nn
 exact okDig (n.toNat+1) [⟨I,n⟩] k ⟨⟨h1,Nat.lt_succ_self _⟩,hk⟩
theorem putS_succ (word : List UInt8) (l : List Int) {x : Nat} (hx : x < l.length) : putS word (l.take (x+1))=List.append (putS word (l.take x)) (List.append [32] (Lib.itoa (l.getD x 0))):=by
 rw [List.take_succ_eq_append_getElem hx,putS,List.foldl_append,List.getD_eq_getElem?_getD,List.getElem?_eq_getElem hx]
 rfl
theorem putS_len (word : List UInt8) : ∀ (l : List Int),(∀ n∈l,inK .i64 n)→(putS word l).length≤word.length+21*l.length:=by
 intro l
 unfold putS
 induction l generalizing word with
 | nil=>intro _; simp
 | cons n l ih =>
  intro h
  have h1:=ih (List.append word (List.append [32] (Lib.itoa n))) fun m hm=>h m (List.mem_cons_of_mem _ hm)
  have h2:=itoa_len (h n List.mem_cons_self)
  have h3 : (List.append word (List.append [32] (Lib.itoa n))).length=word.length+(1+(Lib.itoa n).length):=by
   show (word++([32]++Lib.itoa n)).length=_
   simp only [List.length_append,List.length_cons,List.length_nil]
  rw [h3] at h1
  simp only [List.foldl_cons,List.length_cons]
  omega
theorem sumF_k (s : List UInt8) : inK .i64 (sumF s):=by
 have:=inK_i64 (n:=sumF s)
 rw [this]
 unfold sumF
 omega
theorem ownPut [Dn] : OwnOk Tryz.prog glT 35 oPut:=by
 refine own_of (CxOk.mk' Es_ok (by kernel_rfl) mixed (gl:=glT) (GOk.cons (okSumB.lift) Tryz.func62 (by kernel_rfl) (by kernel_rfl) (GOk.cons okItoa Tryz.func64 (by kernel_rfl) (by kernel_rfl) GOk.nil)) (GoOk.cons ownWS.lift Tryz.func43 (by kernel_rfl) (by kernel_rfl) GoOk.nil) noIt) Tryz.func35 (c:=Tryz.f35.body.getD .skip) (rvs:=[]) (by kernel_rfl) (by kernel_rfl) (by kernel_rfl) ?_
 intro args ob k h hwa hwo
 unfold oPut at h
 split at h
 ·rename_i word l m txt nd wr
  obtain ⟨⟨h1,h2,h3,h4⟩,hk⟩:=h
  have hl : ∀ n∈l,inK .i64 n:=by
   have:=hwa (.d (.sl I) l) (by simp)
   exact this.2
  have h2a : @LE.le Int _ (0 : Int) m:=h2.1
  have h2b : @LE.le Int _ m (1000 : Int):=h2.2
  refine ⟨anPut word l,?_⟩
  show vcO _ _ _ _ _ [.ps 0,.d .str word,.d (.sl I) l] (obBk (nd,wr,()) txt m) k
  rw [vcPut]
  have hlk : ∀ x,(Lib.itoa (l.getD x 0)).length≤20∨l.length≤x:=by
   intro x
   by_cases hx : x < l.length
   ·left
    rw [List.getD_eq_getElem?_getD,List.getElem?_eq_getElem hx]
    exact itoa_len (hl _ (List.getElem_mem hx))
   ·right; omega
  have hpl : ∀ x,x≤l.length→(putS word (l.take x)).length≤300:=by
   intro x hx
   have:=putS_len word (l.take x) fun n hn=>hl n (List.mem_of_mem_take hn)
   rw [List.length_take] at this
   omega
  have ea : ∀ (m n : List UInt8),List.append m n=m++n:=fun _ _=>rfl
  have eml : maxLen=9223372036854775807:=rfl
  simp only [ea,List.length_append,List.length_cons,List.length_nil,decide_eq_true_eq,decide_eq_false_iff_not,true_and,and_true,Int.toNat_natCast,inK_i64,Int.ofNat_lt]
  refine ⟨⟨0,⟨Nat.zero_le _,h4⟩,by simp [putS],rfl⟩,fun x ⟨hx,_⟩=>⟨fun hlt => ?_,fun hge => ?_⟩⟩
  ·have h5:=(hlk x).resolve_right (by omega)
   have h6:=hpl x hx
   refine ⟨by omega,hlt,by omega,by omega,by omega,x+1,⟨by omega,h4⟩,by omega,?_,by omega⟩
   rw [putS_succ word l hlt]
   rfl
  ·have : x=l.length:=by omega
   subst this
   rw [List.take_length]
   have h6:=hpl l.length (Nat.le_refl _)
   rw [List.take_length] at h6
   have h7:=itoa_len (sumF_k (putS word l))
   refine ⟨⟨by omega,⟨by omega⟩,by omega,by omega⟩,by omega,by omega,hk⟩
 ·exact h.elim
open Go.RowKit Go.Extern.Stop Go.Stop Go.Extern
theorem Tas.valueOf27 (t : Addr) (w : World) : (ReflectliteValue.unpack (.iface 114 (.pointer (some t)))).run Tryz.prog w
 = .ok (.agg #[.pointer (some ⟨9,114,none⟩),.pointer (some ⟨w.heap.size,0,none⟩),.int .u64 150]) (w.alloc (.cells #[.pointer (some t)] 114)):=by kernel_rfl
theorem Tas.type27 (a : Addr) (w : World) : (ReflectliteValue.methodAny (ReflectliteValue.valueError "reflectlite.Value.Type" 0) (fun t _ _ _=>ReflectliteType.toType t) #[.agg #[.pointer (some ⟨9,114,none⟩),.pointer (some a),.int .u64 150]]).run Tryz.prog w
 = .ok (.iface 165 (.agg #[.pointer (some ⟨9,114,none⟩)])) w:=by kernel_rfl
theorem Tas.methodKind (h : Value) (w : World) : (Go.method 348 165 (.agg #[h]) "Kind").run Tryz.prog w = .ok (170,h) w:=by kernel_rfl
theorem Tas.kind27 (w : World) : ((ReflectliteType.abiMethod fun t=>(fun a : Nat=>Value.int IntKind.u8 (a : Int)) <$> Rtype.kind t) #[.pointer (some ⟨9,114,none⟩)]).run Tryz.prog w = .ok (.int .u8 22) w:=by kernel_rfl
theorem Tas.kind25 (w : World) : ((ReflectliteType.abiMethod fun t=>(fun a : Nat=>Value.int IntKind.u8 (a : Int)) <$> Rtype.kind t) #[.pointer (some ⟨9,73,none⟩)]).run Tryz.prog w = .ok (.int .u8 2) w:=by kernel_rfl
theorem rlm (z : Sem Value) (f : TypeId→Addr→Nat→Nat→Sem Value) (v : Value) :
 ReflectliteValue.method z f #[v]=(do match ← ReflectliteValue.parts v with | none=>z | some (t,a,fl)=>f t a fl (fl%32)):=rfl
theorem Tas.parts27 (a : Addr) (w : World) : (ReflectliteValue.parts (.agg #[.pointer (some ⟨9,114,none⟩),.pointer (some a),.int .u64 150])).run Tryz.prog w = .ok (some (114,a,150)) w:=by kernel_rfl
theorem Tas.isNil27 (a p : Addr) (W : World) (ha : W.cell? a=some (.pointer (some p))) :
 (ReflectliteValue.method (ReflectliteValue.valueError "reflectlite.Value.IsNil" 0) ReflectliteValue.isNil #[.agg #[.pointer (some ⟨9,114,none⟩),.pointer (some a),.int .u64 150]]).run Tryz.prog W = .ok (.bool false) W:=by
 rw [rlm]
 simp only [Sem.run_bind,Tas.parts27,Result.andThen]
 simp [ReflectliteValue.isNil,loadVar,isAgg,underlying,Tryz.underlying114,ha,Result.andThen]
theorem Tas.methodElem (h : Value) (w : World) : (Go.method 348 165 (.agg #[h]) "Elem").run Tryz.prog w = .ok (180,.agg #[h]) w:=by kernel_rfl
theorem Tas.methodImplements (h : Value) (w : World) : (Go.method 348 165 (.agg #[h]) "Implements").run Tryz.prog w = .ok (181,.agg #[h]) w:=by kernel_rfl
theorem Tas.methodAssignableTo (h : Value) (w : World) : (Go.method 348 165 (.agg #[h]) "AssignableTo").run Tryz.prog w = .ok (178,.agg #[h]) w:=by kernel_rfl
theorem Tas.elem27 (w : World) : (ReflectliteType.method ReflectliteType.elem #[.agg #[.pointer (some ⟨9,114,none⟩)]]).run Tryz.prog w = .ok (.iface 165 (.agg #[.pointer (some ⟨9,73,none⟩)])) w:=by kernel_rfl
theorem Tas.implements25 (w : World) : (ReflectliteType.relation "Implements" ReflectliteType.implements_ #[.agg #[.pointer (some ⟨9,73,none⟩)],.iface 165 (.agg #[.pointer (some ⟨9,29,none⟩)])]).run Tryz.prog w = .ok (.bool true) w:=by kernel_rfl
theorem Tas.typeOf25 (v : Value) (w : World) : (ReflectliteType.typeOf #[.iface 73 v]).run Tryz.prog w = .ok (.iface 165 (.agg #[.pointer (some ⟨9,73,none⟩)])) w:=by kernel_rfl
theorem Tas.assignable25 (w : World) : (ReflectliteType.relation "AssignableTo" ReflectliteType.assignableTo #[.agg #[.pointer (some ⟨9,73,none⟩)],.iface 165 (.agg #[.pointer (some ⟨9,73,none⟩)])]).run Tryz.prog w = .ok (.bool true) w:=by kernel_rfl
theorem Tas.valueOf25 (e : Int) (w : World) : (ReflectliteValue.unpack (.iface 73 (.int .i64 e))).run Tryz.prog w
 = .ok (.agg #[.pointer (some ⟨9,73,none⟩),.pointer (some ⟨w.heap.size,0,none⟩),.int .u64 130]) (w.alloc (.cells #[.int .i64 e] 73)):=by kernel_rfl
theorem Tas.elemOf27 (w : World) : (Rtype.elem? 114).run Tryz.prog w = .ok (some 73) w:=by kernel_rfl
theorem Tas.mk25 (p : Addr) (w : World) : (ReflectliteValue.mk 73 p ReflectliteValue.flagAddr).run Tryz.prog w = .ok (.agg #[.pointer (some ⟨9,73,none⟩),.pointer (some p),.int .u64 386]) w:=by kernel_rfl
theorem Tas.elemV27 (a p : Addr) (W : World) (ha : W.cell? a=some (.pointer (some p))) :
 (ReflectliteValue.method (ReflectliteValue.valueError "reflectlite.Value.Elem" 0) ReflectliteValue.elem #[.agg #[.pointer (some ⟨9,114,none⟩),.pointer (some a),.int .u64 150]]).run Tryz.prog W
  = .ok (.agg #[.pointer (some ⟨9,73,none⟩),.pointer (some p),.int .u64 386]) W:=by
 rw [rlm]
 simp only [Sem.run_bind,Tas.parts27,Result.andThen]
 simp [ReflectliteValue.elem,loadVar,isAgg,underlying,Tryz.underlying114,ha,Result.andThen,Tas.elemOf27,Tas.mk25]
theorem rls (v x : Value) : ReflectliteValue.set #[v,x]=(do
 let (some (dst,a,fl),some (src,b,_)):=(← ReflectliteValue.parts v,← ReflectliteValue.parts x)
  | unsupported (.noEntry "extern/(internal/reflectlite.Value).Set.zeroValue")
 if fl/ReflectliteValue.flagAddr%2==0 then unsupported (.noEntry "extern/(internal/reflectlite.Value).Set.unaddressable")
 let val ← loadVar src b
 if ← Rtype.directlyAssignable dst src then storeVar dst a val
 else if ← Rtype.implements dst src then
  if (← Rtype.kind src)==20 then
   match val with
   | .nilIface=>unsupported (.noEntry "extern/reflectlite: a nil value of one interface type handed on as a value of another")
   | _=>storeVar dst a val
  else storeVar dst a (.iface src val)
 else panicString ("reflectlite.Set: value of type " ++ (← Rtype.spelt src) ++ " is not assignable to type " ++ (← Rtype.spelt dst))
 pure (.tuple #[])):=rfl
theorem Tas.parts25a (a : Addr) (w : World) : (ReflectliteValue.parts (.agg #[.pointer (some ⟨9,73,none⟩),.pointer (some a),.int .u64 386])).run Tryz.prog w = .ok (some (73,a,386)) w:=by kernel_rfl
theorem Tas.parts25 (a : Addr) (w : World) : (ReflectliteValue.parts (.agg #[.pointer (some ⟨9,73,none⟩),.pointer (some a),.int .u64 130])).run Tryz.prog w = .ok (some (73,a,130)) w:=by kernel_rfl
theorem Tas.direct25 (w : World) : (Rtype.directlyAssignable 73 73).run Tryz.prog w = .ok true w:=by kernel_rfl
theorem Tas.set25 (ta b : Addr) (e : Int) (old : Value) (W : World) (hb : W.cell? b=some (.int .i64 e)) (ht : W.cell? ta=some old) (hf : W.frozen? ta=false) :
 (ReflectliteValue.set #[.agg #[.pointer (some ⟨9,73,none⟩),.pointer (some ta),.int .u64 386],.agg #[.pointer (some ⟨9,73,none⟩),.pointer (some b),.int .u64 130]]).run Tryz.prog W
  = .ok (.tuple #[]) (W.setCell ta (.int .i64 e)):=by
 rw [rls]
 simp only [Sem.run_bind,Tas.parts25a,Tas.parts25,Result.andThen]
 simp [ReflectliteValue.flagAddr,loadVar,isAgg,underlying,Tryz.underlying73,hb,Result.andThen,Tas.direct25,storeVar,Value.cells,storeCells,Addr.add]
 rw [run_store Tryz.prog W ta _ _ (by rfl)]
 simp [ht,hf]
set_option maxRecDepth 100000 in
set_option maxHeartbeats 4000000 in
theorem as_hit (e : Int) (t : Addr) (old : Value) (w : World) (hg : w.cell? ⟨0,0,none⟩=some (.iface 165 (.agg #[.pointer (some ⟨9,29,none⟩)]))) (ht0 : w.cell? t=some old) (hf0 : w.frozen? t=false) :
 Calls Tryz.prog 65 #[.iface 73 (.int .i64 e),.iface 114 (.pointer (some t))] w fun ev w'=>ev = .returned (.bool true)∧w'=((((w.alloc (.cells #[.pointer (some t)] 114)).alloc (.cells #[.pointer (some ⟨9,114,none⟩),.pointer (some ⟨w.heap.size,0,none⟩),.int .u64 150] 135)).alloc (.cells #[.pointer (some ⟨9,114,none⟩),.pointer (some ⟨w.heap.size,0,none⟩),.int .u64 150] 135)).alloc (.cells #[.int .i64 e] 73)).setCell t (.int .i64 e):=by
 have h6 := @run_callFunc_extern Tryz.prog 86 _ (fun args=>ReflectliteValue.unpack (args.getD 0 (.tuple #[]))) Tryz.func86 (by kernel_rfl) (by kernel_rfl) (by kernel_rfl) (by kernel_rfl)
 have h7 := @run_callFunc_extern Tryz.prog 87 _ (ReflectliteValue.methodAny (ReflectliteValue.valueError "reflectlite.Value.Type" 0) (fun t _ _ _=>ReflectliteType.toType t)) Tryz.func87 (by kernel_rfl) (by kernel_rfl) (by kernel_rfl) (by kernel_rfl)
 have h8 := @run_callFunc_extern Tryz.prog 88 _ (ReflectliteValue.method (ReflectliteValue.valueError "reflectlite.Value.IsNil" 0) ReflectliteValue.isNil) Tryz.func88 (by kernel_rfl) (by kernel_rfl) (by kernel_rfl) (by kernel_rfl)
 have h27 := @run_callFunc_extern Tryz.prog 170 _ (ReflectliteType.abiMethod fun t=>do pure (.int .u8 (← Rtype.kind t))) Tryz.func170 (by kernel_rfl) (by kernel_rfl) (by kernel_rfl) (by kernel_rfl)
 have h37 := @run_callFunc_extern Tryz.prog 180 _ (ReflectliteType.method ReflectliteType.elem) Tryz.func180 (by kernel_rfl) (by kernel_rfl) (by kernel_rfl) (by kernel_rfl)
 have h38 := @run_callFunc_extern Tryz.prog 181 _ (ReflectliteType.relation "Implements" ReflectliteType.implements_) Tryz.func181 (by kernel_rfl) (by kernel_rfl) (by kernel_rfl) (by kernel_rfl)
 have h10 := @run_callFunc_extern Tryz.prog 114 _ ReflectliteType.typeOf Tryz.func114 (by kernel_rfl) (by kernel_rfl) (by kernel_rfl) (by kernel_rfl)
 have h35 := @run_callFunc_extern Tryz.prog 178 _ (ReflectliteType.relation "AssignableTo" ReflectliteType.assignableTo) Tryz.func178 (by kernel_rfl) (by kernel_rfl) (by kernel_rfl) (by kernel_rfl)
 have h11 := @run_callFunc_extern Tryz.prog 115 _ (ReflectliteValue.method (ReflectliteValue.valueError "reflectlite.Value.Elem" 0) ReflectliteValue.elem) Tryz.func115 (by kernel_rfl) (by kernel_rfl) (by kernel_rfl) (by kernel_rfl)
 have h12 := @run_callFunc_extern Tryz.prog 116 _ ReflectliteValue.set Tryz.func116 (by kernel_rfl) (by kernel_rfl) (by kernel_rfl) (by kernel_rfl)
 have tO:=Tas.typeOf25
 have mA:=Tas.methodAssignableTo
 have a25:=Tas.assignable25
 have v25:=Tas.valueOf25
 have f6:=Tas.valueOf27
 have f7:=Tas.type27
 have mK:=Tas.methodKind
 have mE:=Tas.methodElem
 have mI:=Tas.methodImplements
 have k27:=Tas.kind27
 have k25:=Tas.kind25
 have e27:=Tas.elem27
 have i25:=Tas.implements25
 have n8:=Tas.isNil27 ⟨w.heap.size,0,none⟩ t ((w.alloc (.cells #[.pointer (some t)] 114)).alloc (.cells #[.pointer (some ⟨9,114,none⟩),.pointer (some ⟨w.heap.size,0,none⟩),.int .u64 150] 135)) (by simp)
 have hlt : 0 < w.heap.size:=by
  rcases Nat.eq_zero_or_pos w.heap.size with h0 | h
  ·simp [World.cell?,h0] at hg
  ·exact h
 have hg2 : ((w.alloc (.cells #[.pointer (some t)] 114)).alloc (.cells #[.pointer (some ⟨9,114,none⟩),.pointer (some ⟨w.heap.size,0,none⟩),.int .u64 150] 135)).cell? ⟨0,0,none⟩=some (.iface 165 (.agg #[.pointer (some ⟨9,29,none⟩)])):=by
  rw [World.cell?_alloc_lt _ _ ⟨0,0,none⟩ (by simp),World.cell?_alloc_lt _ _ ⟨0,0,none⟩ hlt]; exact hg
 have htl : t.block < w.heap.size:=by
  rcases Nat.lt_or_ge t.block w.heap.size with h | h
  ·exact h
  ·simp [World.cell?,Array.getElem?_eq_none h] at ht0
 have el:=Tas.elemV27 ⟨w.heap.size,0,none⟩ t (((w.alloc (.cells #[.pointer (some t)] 114)).alloc (.cells #[.pointer (some ⟨9,114,none⟩),.pointer (some ⟨w.heap.size,0,none⟩),.int .u64 150] 135)).alloc (.cells #[.pointer (some ⟨9,114,none⟩),.pointer (some ⟨w.heap.size,0,none⟩),.int .u64 150] 135)) (by rw [World.cell?_alloc_lt _ _ ⟨w.heap.size,0,none⟩ (by simp; omega)]; simp)
 have st:=Tas.set25 t ⟨w.heap.size+1+1+1,0,none⟩ e old ((((w.alloc (.cells #[.pointer (some t)] 114)).alloc (.cells #[.pointer (some ⟨9,114,none⟩),.pointer (some ⟨w.heap.size,0,none⟩),.int .u64 150] 135)).alloc (.cells #[.pointer (some ⟨9,114,none⟩),.pointer (some ⟨w.heap.size,0,none⟩),.int .u64 150] 135)).alloc (.cells #[.int .i64 e] 73))
  (by rw [World.cell?_alloc_at _ _ _ _ (by simp)]; rfl)
  (by rw [World.cell?_alloc_lt _ _ t (by simp; omega),World.cell?_alloc_lt _ _ t (by simp; omega),World.cell?_alloc_lt _ _ t (by simp; omega),World.cell?_alloc_lt _ _ t htl]; exact ht0)
  (by rw [World.frozen?_alloc_old _ _ t (by simp; omega),World.frozen?_alloc_old _ _ t (by simp; omega),World.frozen?_alloc_old _ _ t (by simp; omega),World.frozen?_alloc_old _ _ t (Nat.ne_of_lt htl)]; exact hf0)
 go_enter Tryz.func65,Tryz.ntmps65
 go_wp2
 refine wp_loop_rounds 1 ?_
 rw [rounds_succ]
 go_wp2
 go_ret
 exact ⟨rfl,rfl⟩
open Go.RowKit Go.Extern.Stop Go.Stop Go.Extern Go.Vc
theorem fr_alloc (w : World) (o : Obj) : Fr (fun _=>False) w (w.alloc o):=⟨rfl,rfl,rfl,by simp,fun b hb _=>Ext.alloc w o b hb,fun _=>Nat.le_refl _⟩
theorem told_nil (w : World) : Calls Tryz.prog 36 #[.nilIface] w fun e w'=>e = .returned (.int .i64 0)∧w'=w:=by
 go_enter Tryz.func36,Tryz.ntmps36
 go_wp2
 go_ret
 exact ⟨rfl,rfl⟩
set_option maxRecDepth 100000 in
set_option maxHeartbeats 4000000 in
theorem told_hit (n : Int) (w : World) (hg : w.cell? ⟨0,0,none⟩=some (.iface 165 (.agg #[.pointer (some ⟨9,29,none⟩)]))) :
 Calls Tryz.prog 36 #[.iface 73 (.int .i64 n)] w fun e w'=>e = .returned (.int .i64 n)∧Fr (fun _=>False) w w':=by
 have hlt : 0 < w.heap.size:=World.block_lt_of_cell? w ⟨0,0,none⟩ hg
 have hgA : (w.alloc (.cells #[.int .i64 0] 73)).cell? ⟨0,0,none⟩=some (.iface 165 (.agg #[.pointer (some ⟨9,29,none⟩)])):=by
  rw [World.cell?_alloc_lt _ _ ⟨0,0,none⟩ hlt]; exact hg
 have htA : (w.alloc (.cells #[.int .i64 0] 73)).cell? ⟨w.heap.size,0,none⟩=some (.int .i64 0):=by simp
 have hfA : (w.alloc (.cells #[.int .i64 0] 73)).frozen? ⟨w.heap.size,0,none⟩=false:=by simp
 go_enter Tryz.func36,Tryz.ntmps36
 go_wp2_with (go_at_call 65; refine (as_hit n _ (.int .i64 0) _ hgA htA hfA).mono ?_; rintro e w' ⟨rfl,rfl⟩)
 go_ret
 exact ⟨rfl,((((fr_alloc _ _).trans (fr_alloc _ _)).trans (fr_alloc _ _)).trans (fr_alloc _ _)).trans (fr_alloc _ _)⟩
abbrev hdE : Value := .iface 165 (.agg #[.pointer (some ⟨9,29,none⟩)])
def glE : List (Nat×Dat):=[(0,⟨.raw,hdE⟩)]
theorem hd_of {w : World} {ro : Nat→Prop} (h : GlOk glE w ro) : w.cell? ⟨0,0,none⟩=some hdE:=by
 obtain ⟨_,us,h1,hn⟩:=h 0 _ (List.mem_singleton.2 rfl)
 have hn : us=[hdE]∧hdE.oneCell'=true:=hn
 exact h1 0 hdE (by rw [hn.1]; rfl)
def cTold : Ctr:=cdet [tErr] (fun (n : Int)=>inK .i64 n) (fun (n : Int)=>[⟨I,n⟩])
theorem okTold : PlainOk Tryz.prog glE 36 cTold:=by
 intro ds k hs w R0 vals hR0 hG hD
 obtain ⟨hp,hk⟩:=hs
 obtain ⟨n,rfl,hin⟩:=dest1 hp
 have hk : k [⟨I,n⟩]:=hk
 obtain ⟨hl,hd⟩:=hD
 match vals,hl with
 | [v],_ =>
  have hv : Ty.okV w R0 tErr n v:=hd 0 ⟨tErr,n⟩ v rfl rfl
  unfold Ty.okV at hv
  simp only [Ty.agg,Bool.false_eq_true,if_false,Ty.ok] at hv
  have hok : ∀ {w' : World} {ro : Nat→Prop},inK .i64 n→RetOk w' ro [(⟨I,n⟩ : Dat)] (.int .i64 n):=by
   intro w' ro hn
   show Ty.okV _ _ I n _
   unfold Ty.okV
   simp only [Ty.agg,Bool.false_eq_true,if_false,Ty.ok]
   exact ⟨trivial,hn⟩
  rcases hv with ⟨h0,hv⟩ | ⟨h0,hv⟩
  ·injection hv with hv
   subst hv
   have h0 : (0 : Int)=n:=h0.symm
   subst h0
   refine (show Calls Tryz.prog 36 #[.nilIface] w _ from told_nil w).mono fun e w' ⟨he,hw⟩ => ?_
   subst hw
   exact ⟨Fr.refl _ _,[⟨I,(0 : Int)⟩],_,he,hk,hok hin⟩
  ·injection hv with hv
   subst hv
   refine (show Calls Tryz.prog 36 #[.iface 73 (.int .i64 n)] w _ from told_hit n w (hd_of hG)).mono fun e w' ⟨he,hw⟩ => ?_
   exact ⟨hw,[⟨I,n⟩],_,he,hk,hok hin⟩
theorem PlainOk.sub {P : Program} {gl gl' : List (Nat×Dat)} {f : FuncId} {c : Ctr} (hs : ∀ x∈gl,x∈gl') (h : PlainOk P gl f c) : PlainOk P gl' f c :=
 fun ds k hk w R0 vals hR0 hG hD=>h ds k hk w R0 vals hR0 (fun g d hg=>hG g d (hs _ hg)) hD
def cError : Ctr:=cdet [tErr,I] (fun (n _ : Int)=>inK .i64 n∧True) (fun (n e : Int)=>[⟨.bool,decide (n=e)⟩])
def Er : Env:={ tys:=[(3,I),(4,.bool),(29,tErr),(73,I)],errT:=73,eqs:=[],els:=[] }
theorem Er_ok : EnvOk Tryz.prog Er:=EnvOk.of_list (by kernel_rfl) (by kernel_rfl) (by kernel_rfl)
set_option linter.unusedVariables false in
theorem vcError (n e : Int) (k : List Dat→Prop) : vcF ⟨Er,[(36,cTold)],glE,[],[]⟩ [] (Tryz.f19.body.getD .skip) Tryz.f19.ntmps [(.tmp 4,.bool)] [⟨tErr,n⟩,⟨I,e⟩] k=(
 IntKind.i64.wrap n=n∧k [Dat.mk Ty.bool (decide (n=e))]):=by kernel_rfl
theorem okError : PlainOk Tryz.prog glE 19 cError:=by
 refine plain_of (CxOk.mk' Er_ok rfl (by kernel_rfl) (gl:=glE) (GOk.cons okTold Tryz.func36 (by kernel_rfl) (by kernel_rfl) GOk.nil) GoOk.nil noIt) Tryz.func19 (c:=Tryz.f19.body.getD .skip) (rvs:=[(.tmp 4,.bool)]) (by kernel_rfl) (by kernel_rfl) (by kernel_rfl) ?_
 intro ds k ⟨hp,hk⟩ hwf
 obtain ⟨n,e,rfl,hin,-⟩:=dest2 hp
 have hk : k [⟨.bool,decide (n=e)⟩]:=hk
 refine ⟨[],?_⟩
 rw [vcError]
 exact ⟨hin,hk⟩
theorem glE_of {laid : List (String×DataW Unit)} (hm : ("errors.errorType",Rows.laid_errors_errorType)∈laid) {W : World} (h : laidMetH Tryz.prog laid W) : GlOk glE W fun b=>b < W.heap.size :=
 gl_of_handle (n := "errors.errorType") (u:=165) (ty:=29) (d:=Rows.laid_errors_errorType) h hm rfl rfl (by kernel_rfl) (by kernel_rfl) (by kernel_rfl) (by kernel_rfl) rfl
open Go.Vc Go.Proofs Go.RowKit
abbrev BS:=Net×List UInt8×Int
abbrev tRB : Ty := .pr tRN (.pr .str (.pr I .un))
abbrev RB:=RN×List UInt8×Int×Unit
def rb0 : RB:=((0,[],[],()),[],0,())
def Ek : Env:={ Eg with tys:=(5,.int .u8)::(38,.sl (.int .u8))::(66,tBk)::(24,.ptr tBk)::(43,tRN)::(45,tRB)::Eg.tys,pb:=[66] }
theorem Ek_ok : EnvOk Tryz.prog Ek:=EnvOk.of_list (by kernel_rfl) (by kernel_rfl) (by kernel_rfl)
def obNew0 (t : Net) : List Ob:=[.st 66 [.ps 1,.d (.ptr .un) none,.nils,.d I (0 : Int)],.st 96 [.os 2,.os 3],.row 98 tRow t.1,.row 3 I t.2.1]
def oBNew0 : OCtr:=fun args ob k=>match args,ob with
 | [.d (.int .i64) n],[]=>(inB n 1 5=false→k (.tp [.nilp,.d tErr (1 : Int)]) [])∧(inB n 1 5=true→k (.tp [.ps 0,.d tErr (0 : Int)]) (obNew0 (newF (n : Int).toNat)))
 | _,_=>False
def oBNew : OCtr:=fun args ob k=>match args,ob with
 | [.d (.int .i64) n],[]=>(inB n 1 5=false→k (.tp [.nilp,.d tErr (1 : Int)]) [])∧(inB n 1 5=true→k (.tp [.ps 0,.d tErr (0 : Int)]) (obBk (newF (n : Int).toNat) [] 0))
 | _,_=>False
def bkE (m e : Int) : Int:=if m=60 then 4 else e
def bkT (t : Net) (txt : List UInt8) (m : Int) (e : Int) (t' : Net) (line : List UInt8) : BS:=if bkE m e=0 then (t',List.append txt line,m+1) else (t,txt,m)
def oBW : OCtr:=fun args ob k=>match args,ob with
 | [.ps 0,.d (.int .i64) p,.d (.int .i64) q,.d (.int .i64) v],[.st 66 [.ps 1,.sf 0 1,.os 2,.d (.int .i64) m],.st 96 [.os 3,.os 4],.buf 5 txt,.row 98 (.ar 4 (.sl (.pr (.sl (.int .i64)) (.pr (.int .i64) .un)))) nodes,.row 3 (.int .i64) wrote] =>
  (NetSh (nodes,wrote,())∧txt.length≤900000000∧((0 : Int)≤(m : Int)∧(m : Int)≤(60 : Int))) ∧
  k (.d tErr (bkE m (writeE (nodes,wrote,()) p q v))) (obBk (bkT (nodes,wrote,()) txt m (writeE (nodes,wrote,()) p q v) (writeT (nodes,wrote,()) p q v) (lineF [119] [p,q,v])).1 (bkT (nodes,wrote,()) txt m (writeE (nodes,wrote,()) p q v) (writeT (nodes,wrote,()) p q v) (lineF [119] [p,q,v])).2.1 (bkT (nodes,wrote,()) txt m (writeE (nodes,wrote,()) p q v) (writeT (nodes,wrote,()) p q v) (lineF [119] [p,q,v])).2.2)
 | _,_=>False
def oBS : OCtr:=fun args ob k=>match args,ob with
 | [.ps 0,.d (.int .i64) a,.d (.int .i64) b],[.st 66 [.ps 1,.sf 0 1,.os 2,.d (.int .i64) m],.st 96 [.os 3,.os 4],.buf 5 txt,.row 98 (.ar 4 (.sl (.pr (.sl (.int .i64)) (.pr (.int .i64) .un)))) nodes,.row 3 (.int .i64) wrote] =>
  (NetSh (nodes,wrote,())∧txt.length≤900000000∧((0 : Int)≤(m : Int)∧(m : Int)≤(60 : Int))) ∧
  k (.d tErr (bkE m (syncE (nodes,wrote,()) a b))) (obBk (bkT (nodes,wrote,()) txt m (syncE (nodes,wrote,()) a b) (syncT (nodes,wrote,()) a b) (lineF [115] [a,b])).1 (bkT (nodes,wrote,()) txt m (syncE (nodes,wrote,()) a b) (syncT (nodes,wrote,()) a b) (lineF [115] [a,b])).2.1 (bkT (nodes,wrote,()) txt m (syncE (nodes,wrote,()) a b) (syncT (nodes,wrote,()) a b) (lineF [115] [a,b])).2.2)
 | _,_=>False
def oBTxt : OCtr:=fun args ob k=>match args,ob with
 | [.ps 0],[.st 66 [.ps 1,.sf 0 1,.os 2,.d (.int .i64) m],.st 96 [.os 3,.os 4],.buf 5 txt,.row 98 (.ar 4 (.sl (.pr (.sl (.int .i64)) (.pr (.int .i64) .un)))) nodes,.row 3 (.int .i64) wrote] =>
  txt.length≤1000000000∧k (.d .str txt) (obBk (nodes,wrote,()) txt m)
 | _,_=>False
def obRd (t : Net) (txt : List UInt8) (m : Int) (r : List Va) : List Ob:=[.st 66 [.ps 2,.sf 0 1,.os 3,.d I m],.row 83 tV r,.st 96 [.os 4,.os 5],.buf 5 txt,.row 98 tRow t.1,.row 3 I t.2.1]
def oBRd : OCtr:=fun args ob k=>match args,ob with
 | [.ps 0,.d (.int .i64) p,.d (.int .i64) q],[.st 66 [.ps 1,.sf 0 1,.os 2,.d (.int .i64) m],.st 96 [.os 3,.os 4],.buf 5 txt,.row 98 (.ar 4 (.sl (.pr (.sl (.int .i64)) (.pr (.int .i64) .un)))) nodes,.row 3 (.int .i64) wrote] =>
  NetLen (nodes,wrote,())∧k (.os 1) (obRd (nodes,wrote,()) txt m (readF (nodes,wrote,()) p q))
 | _,_=>False
def wordF (l : List Int) : List UInt8:=if l.length=3 then [119] else [115]
def rNE (t : RN) (l : List Int) : Int:=if l.length=3 then rWriteE t (l.getD 0 0) (l.getD 1 0) (l.getD 2 0) else rSyncE t (l.getD 0 0) (l.getD 1 0)
def rNT (t : RN) (l : List Int) : RN:=if l.length=3 then rWriteT t (l.getD 0 0) (l.getD 1 0) (l.getD 2 0) else rSyncT t (l.getD 0 0) (l.getD 1 0)
def rPE (b : RB) (l : List Int) : Int:=if 60≤b.2.2.1 then 4 else rNE b.1 l
def rPT (b : RB) (l : List Int) : RB:=if rPE b l=0 then (rNT b.1 l,List.append b.2.1 (lineF (wordF l) l),b.2.2.1+1,()) else b
structure PutOk (b : RB) (l : List Int) : Prop where
 sh : RSh b.1
 two : l.length=3∨l.length=2
 sy : l.length=2→rSyncE b.1 (l.getD 0 0) (l.getD 1 0)=0→SyOk b.1 (l.getD 0 0) (l.getD 1 0)
 txt : b.2.1.length≤900000000
 lo : 0≤b.2.2.1
 hi : b.2.2.1≤60
def cPutR : Ctr:=cdet [tRB,.sl I] (fun (b : RB) (l : List Int)=>PutOk b l) (fun (b : RB) (l : List Int)=>[⟨tRB,rPT b l⟩,⟨I,rPE b l⟩])
def anPutR (b : RB) (l : List Int) : Ann:=[joinAll,loopAt 13 Nat [] (fun st i=>St.at (St.only st [1,2,4,6]) [(8,.d .str (putS (wordF l) (l.take i))),(9,.d I (i : Int))]) (fun _ i=>i≤l.length∧rPE b l=0) (fun i=>l.length - i)]
open Go.Vc
set_option linter.unusedVariables false
theorem vcBNew (n : Int) (k : SV→List Ob→Prop) : vcO ⟨Ek,[],[],[],[(26,oNew)]⟩ [joinAll] (Tryz.f25.body.getD .skip) Tryz.f25.ntmps [(.tmp 2,.un),(.tmp 3,tErr)] [.d I n] [] k=(
 (inB n (1 : Int) (5 : Int)=false→((!decide ((1 : Int)=(0 : Int)))=true→k (SV.tp [SV.nilp,SV.d (Ty.err (73 : Nat)) (1 : Int)]) [])∧((!decide ((1 : Int)=(0 : Int)))=false→k (SV.tp [SV.ps (0 : Nat),SV.d (Ty.err (73 : Nat)) (0 : Int)]) [Ob.st (66 : Nat) [SV.nilp,SV.d Ty.un.ptr none,SV.nils,SV.d (I) (0 : Int)]]))∧(inB n (1 : Int) (5 : Int)=true→((!decide ((0 : Int)=(0 : Int)))=true→k (SV.tp [SV.nilp,SV.d (Ty.err (73 : Nat)) (0 : Int)]) [])∧((!decide ((0 : Int)=(0 : Int)))=false→k (SV.tp [SV.ps (0 : Nat),SV.d (Ty.err (73 : Nat)) (0 : Int)]) [Ob.st (66 : Nat) [SV.ps (1 : Nat),SV.d Ty.un.ptr none,SV.nils,SV.d (I) (0 : Int)],Ob.st (96 : Nat) [SV.os (2 : Nat),SV.os (3 : Nat)],Ob.row (98 : Nat) (Ty.ar (4 : Nat) (tV).sl) (List.replicate n.toNat (List.replicate (4 : Nat) [])),Ob.row (3 : Nat) (I) (List.replicate n.toNat (0 : Int))]))):=by kernel_rfl
theorem vcBW (nd : List (List (List Va))) (wr : List Int) (txt : List UInt8) (m p q v : Int) (k : SV→List Ob→Prop) : vcO ⟨Ek,[],glT,[],[(27,oWrite),(35,oPut)]⟩ [joinAll] (Tryz.f16.body.getD .skip) Tryz.f16.ntmps [(.tmp 8,tErr)] [.ps 0,.d I p,.d I q,.d I v] (obBk (nd,wr,()) txt m) k=(
 (decide (m=(60 : Int))=true→(4 : Int)≠(0 : Int)∧k (SV.d (Ty.err (73 : Nat)) (4 : Int)) [Ob.st (66 : Nat) [SV.ps (1 : Nat),SV.sf (0 : Nat) (1 : Nat),SV.os (2 : Nat),SV.d (I) m],Ob.st (96 : Nat) [SV.os (3 : Nat),SV.os (4 : Nat)],Ob.buf (5 : Nat) txt,Ob.row (98 : Nat) (Ty.ar (4 : Nat) (tV).sl) nd,Ob.row (3 : Nat) (I) wr])∧(decide (m=(60 : Int))=false→NetSh (nd,wr,())∧((!decide (writeE (nd,wr,()) p q v=(0 : Int)))=true→k (SV.d (Ty.err (73 : Nat)) (writeE (nd,wr,()) p q v)) [Ob.st (66 : Nat) [SV.ps (1 : Nat),SV.sf (0 : Nat) (1 : Nat),SV.os (2 : Nat),SV.d (I) m],Ob.st (96 : Nat) [SV.os (3 : Nat),SV.os (4 : Nat)],Ob.buf (5 : Nat) txt,Ob.row (98 : Nat) (Ty.ar (4 : Nat) (tV).sl) (writeT (nd,wr,()) p q v).fst,Ob.row (3 : Nat) (I) (writeT (nd,wr,()) p q v).snd.fst])∧((!decide (writeE (nd,wr,()) p q v=(0 : Int)))=false→(txt.length≤(900000000 : Nat)∧((0 : Int)≤m∧m≤(1000 : Int))∧[(119 : UInt8)].length≤(10 : Nat)∧((((List.replicate (3 : Nat) (0 : Int)).set (0 : Nat) p).set (1 : Nat) q).set (2 : Nat) v).length≤(10 : Nat))∧k (SV.d (Ty.err (73 : Nat)) (0 : Int)) [Ob.st (66 : Nat) [SV.ps (1 : Nat),SV.sf (0 : Nat) (1 : Nat),SV.os (2 : Nat),SV.d (I) (m+(1 : Int))],Ob.st (96 : Nat) [SV.os (3 : Nat),SV.os (4 : Nat)],Ob.buf (5 : Nat) (txt.append (lineF [(119 : UInt8)] ((((List.replicate (3 : Nat) (0 : Int)).set (0 : Nat) p).set (1 : Nat) q).set (2 : Nat) v))),Ob.row (98 : Nat) (Ty.ar (4 : Nat) (tV).sl) (writeT (nd,wr,()) p q v).fst,Ob.row (3 : Nat) (I) (writeT (nd,wr,()) p q v).snd.fst]))):=by kernel_rfl
theorem vcBS (nd : List (List (List Va))) (wr : List Int) (txt : List UInt8) (m a b : Int) (k : SV→List Ob→Prop) : vcO ⟨Ek,[],glT,[],[(28,oSync),(35,oPut)]⟩ [joinAll] (Tryz.f17.body.getD .skip) Tryz.f17.ntmps [(.tmp 6,tErr)] [.ps 0,.d I a,.d I b] (obBk (nd,wr,()) txt m) k=(
 (decide (m=(60 : Int))=true→(4 : Int)≠(0 : Int)∧k (SV.d (Ty.err (73 : Nat)) (4 : Int)) [Ob.st (66 : Nat) [SV.ps (1 : Nat),SV.sf (0 : Nat) (1 : Nat),SV.os (2 : Nat),SV.d (I) m],Ob.st (96 : Nat) [SV.os (3 : Nat),SV.os (4 : Nat)],Ob.buf (5 : Nat) txt,Ob.row (98 : Nat) (Ty.ar (4 : Nat) (tV).sl) nd,Ob.row (3 : Nat) (I) wr])∧(decide (m=(60 : Int))=false→NetSh (nd,wr,())∧((!decide (syncE (nd,wr,()) a b=(0 : Int)))=true→k (SV.d (Ty.err (73 : Nat)) (syncE (nd,wr,()) a b)) [Ob.st (66 : Nat) [SV.ps (1 : Nat),SV.sf (0 : Nat) (1 : Nat),SV.os (2 : Nat),SV.d (I) m],Ob.st (96 : Nat) [SV.os (3 : Nat),SV.os (4 : Nat)],Ob.buf (5 : Nat) txt,Ob.row (98 : Nat) (Ty.ar (4 : Nat) (tV).sl) (syncT (nd,wr,()) a b).fst,Ob.row (3 : Nat) (I) (syncT (nd,wr,()) a b).snd.fst])∧((!decide (syncE (nd,wr,()) a b=(0 : Int)))=false→(txt.length≤(900000000 : Nat)∧((0 : Int)≤m∧m≤(1000 : Int))∧[(115 : UInt8)].length≤(10 : Nat)∧(((List.replicate (2 : Nat) (0 : Int)).set (0 : Nat) a).set (1 : Nat) b).length≤(10 : Nat))∧k (SV.d (Ty.err (73 : Nat)) (0 : Int)) [Ob.st (66 : Nat) [SV.ps (1 : Nat),SV.sf (0 : Nat) (1 : Nat),SV.os (2 : Nat),SV.d (I) (m+(1 : Int))],Ob.st (96 : Nat) [SV.os (3 : Nat),SV.os (4 : Nat)],Ob.buf (5 : Nat) (txt.append (lineF [(115 : UInt8)] (((List.replicate (2 : Nat) (0 : Int)).set (0 : Nat) a).set (1 : Nat) b))),Ob.row (98 : Nat) (Ty.ar (4 : Nat) (tV).sl) (syncT (nd,wr,()) a b).fst,Ob.row (3 : Nat) (I) (syncT (nd,wr,()) a b).snd.fst]))):=by kernel_rfl
theorem vcBTxt (nd : List (List (List Va))) (wr : List Int) (txt : List UInt8) (m : Int) (k : SV→List Ob→Prop) : vcO ⟨Ek,[],[],[],[(31,oStr)]⟩ [joinAll] (Tryz.f14.body.getD .skip) Tryz.f14.ntmps [(.tmp 2,.str)] [.ps 0] (obBk (nd,wr,()) txt m) k=(
 txt.length≤(1000000000 : Nat)∧k (SV.d Ty.str txt) [Ob.st (66 : Nat) [SV.ps (1 : Nat),SV.sf (0 : Nat) (1 : Nat),SV.os (2 : Nat),SV.d (I) m],Ob.st (96 : Nat) [SV.os (3 : Nat),SV.os (4 : Nat)],Ob.buf (5 : Nat) txt,Ob.row (98 : Nat) (Ty.ar (4 : Nat) (tV).sl) nd,Ob.row (3 : Nat) (I) wr]):=by kernel_rfl
theorem vcBRd (nd : List (List (List Va))) (wr : List Int) (txt : List UInt8) (m p q : Int) (k : SV→List Ob→Prop) : vcO ⟨Ek,[],[],[],[(29,oRead)]⟩ [joinAll] (Tryz.f22.body.getD .skip) Tryz.f22.ntmps [(.tmp 6,.un)] [.ps 0,.d I p,.d I q] (obBk (nd,wr,()) txt m) k=(
 NetLen (nd,wr,())∧k (SV.os (1 : Nat)) [Ob.st (66 : Nat) [SV.ps (2 : Nat),SV.sf (0 : Nat) (1 : Nat),SV.os (3 : Nat),SV.d (I) m],Ob.row (83 : Nat) (tV) (readF (nd,wr,()) p q),Ob.st (96 : Nat) [SV.os (4 : Nat),SV.os (5 : Nat)],Ob.buf (5 : Nat) txt,Ob.row (98 : Nat) (Ty.ar (4 : Nat) (tV).sl) nd,Ob.row (3 : Nat) (I) wr]):=by kernel_rfl
theorem vcPutR (b : RB) (l : List Int) (k : List Dat→Prop) : vcF ⟨Ek,[(90,cRWrite),(91,cRSync),(75,cDigits),(67,cSum)],[],[],[]⟩ (anPutR b l) (Tryz.f68.body.getD .skip) Tryz.f68.ntmps [(.cell 4 45,tRB),(.tmp 5,I)] [⟨tRB,b⟩,⟨.sl I,l⟩] k=(
 (decide ((60 : Int)≤b.snd.snd.fst)=true→k [Dat.mk (((I).pr ((tV).sl.sl.pr ((I).sl.pr Ty.un))).pr (Ty.str.pr ((I).pr Ty.un))) b,Dat.mk (I) (4 : Int)])∧(decide ((60 : Int)≤b.snd.snd.fst)=false→(decide ((↑l.length : Int)=(3 : Int))=true→((0 : Int)≤(0 : Int)∧(0 : Int) < (↑l.length : Int)∧(0 : Int)≤(1 : Int)∧(1 : Int) < (↑l.length : Int)∧(0 : Int)≤(2 : Int)∧(2 : Int) < (↑l.length : Int)∧(RSh b.fst∧True)∧True)∧((!decide (rWriteE b.fst (l.getD (Int.toNat (0 : Int)) (0 : Int)) (l.getD (Int.toNat (1 : Int)) (0 : Int)) (l.getD (Int.toNat (2 : Int)) (0 : Int))=(0 : Int)))=true→k [Dat.mk (((I).pr ((tV).sl.sl.pr ((I).sl.pr Ty.un))).pr (Ty.str.pr ((I).pr Ty.un))) b,Dat.mk (I) (rWriteE b.fst (l.getD (Int.toNat (0 : Int)) (0 : Int)) (l.getD (Int.toNat (1 : Int)) (0 : Int)) (l.getD (Int.toNat (2 : Int)) (0 : Int)))])∧((!decide (rWriteE b.fst (l.getD (Int.toNat (0 : Int)) (0 : Int)) (l.getD (Int.toNat (1 : Int)) (0 : Int)) (l.getD (Int.toNat (2 : Int)) (0 : Int))=(0 : Int)))=false→(∃ (x : Nat),(x≤l.length∧rPE b l=(0 : Int))∧(l=l∧([] : List Nat)=[]∧([] : List Nat)=[]∧([] : List Nat)=[]∧[(119 : UInt8)]=putS (wordF l) (List.take x l)∧(0 : Int)=(↑x : Int)∧True)∧(((45 : Nat)=(45 : Nat)∧b=b)∧((45 : Nat)=(45 : Nat)∧rb0=rb0)∧((43 : Nat)=(43 : Nat)∧rWriteT b.fst (l.getD (Int.toNat (0 : Int)) (0 : Int)) (l.getD (Int.toNat (1 : Int)) (0 : Int)) (l.getD (Int.toNat (2 : Int)) (0 : Int))=rWriteT b.fst (l.getD (Int.toNat (0 : Int)) (0 : Int)) (l.getD (Int.toNat (1 : Int)) (0 : Int)) (l.getD (Int.toNat (2 : Int)) (0 : Int)))∧True)∧True)∧∀ (x : Nat),x≤l.length∧rPE b l=(0 : Int)→(decide ((↑x : Int) < (↑l.length : Int))=true→(putS (wordF l) (List.take x l)).length+[(32 : UInt8)].length≤maxLen∧(0 : Int)≤(↑x : Int)∧(↑x : Int) < (↑l.length : Int)∧DigOk (l.getD (↑x : Int).toNat (0 : Int))∧((putS (wordF l) (List.take x l)).append [(32 : UInt8)]).length+(Lib.decDigits (l.getD (↑x : Int).toNat (0 : Int)).toNat).length≤maxLen∧inK IntKind.i64 ((↑x : Int)+(1 : Int))∧∃ (x_1 : Nat),(x_1≤l.length∧rPE b l=(0 : Int))∧l.length - x_1 < l.length - x∧(l=l∧([] : List Nat)=[]∧([] : List Nat)=[]∧([] : List Nat)=[]∧((putS (wordF l) (List.take x l)).append [(32 : UInt8)]).append (Lib.decDigits (l.getD (↑x : Int).toNat (0 : Int)).toNat)=putS (wordF l) (List.take x_1 l)∧(↑x : Int)+(1 : Int)=(↑x_1 : Int)∧True)∧(((45 : Nat)=(45 : Nat)∧b=b)∧((45 : Nat)=(45 : Nat)∧rb0=rb0)∧((43 : Nat)=(43 : Nat)∧rWriteT b.fst (l.getD (Int.toNat (0 : Int)) (0 : Int)) (l.getD (Int.toNat (1 : Int)) (0 : Int)) (l.getD (Int.toNat (2 : Int)) (0 : Int))=rWriteT b.fst (l.getD (Int.toNat (0 : Int)) (0 : Int)) (l.getD (Int.toNat (1 : Int)) (0 : Int)) (l.getD (Int.toNat (2 : Int)) (0 : Int)))∧True)∧True)∧(decide ((↑x : Int) < (↑l.length : Int))=false→(List.length b.snd.fst+(putS (wordF l) (List.take x l)).length≤maxLen∧(List.append b.snd.fst (putS (wordF l) (List.take x l))).length+[(32 : UInt8)].length≤maxLen∧SumOk (putS (wordF l) (List.take x l))∧DigOk (sumF (putS (wordF l) (List.take x l)))∧((List.append b.snd.fst (putS (wordF l) (List.take x l))).append [(32 : UInt8)]).length+(Lib.decDigits (sumF (putS (wordF l) (List.take x l))).toNat).length≤maxLen∧(((List.append b.snd.fst (putS (wordF l) (List.take x l))).append [(32 : UInt8)]).append (Lib.decDigits (sumF (putS (wordF l) (List.take x l))).toNat)).length+[(10 : UInt8)].length≤maxLen∧True)∧inK IntKind.i64 (b.snd.snd.fst+(1 : Int))∧k [Dat.mk (((I).pr ((tV).sl.sl.pr ((I).sl.pr Ty.un))).pr (Ty.str.pr ((I).pr Ty.un))) (rWriteT b.fst (l.getD (Int.toNat (0 : Int)) (0 : Int)) (l.getD (Int.toNat (1 : Int)) (0 : Int)) (l.getD (Int.toNat (2 : Int)) (0 : Int)),(((List.append b.snd.fst (putS (wordF l) (List.take x l))).append [(32 : UInt8)]).append (Lib.decDigits (sumF (putS (wordF l) (List.take x l))).toNat)).append [(10 : UInt8)],b.snd.snd.fst+(1 : Int),b.snd.snd.snd),Dat.mk (I) (0 : Int)])))∧(decide ((↑l.length : Int)=(3 : Int))=false→((0 : Int)≤(0 : Int)∧(0 : Int) < (↑l.length : Int)∧(0 : Int)≤(1 : Int)∧(1 : Int) < (↑l.length : Int)∧((RSh b.fst∧(rSyncE b.fst (l.getD (Int.toNat (0 : Int)) (0 : Int)) (l.getD (Int.toNat (1 : Int)) (0 : Int))=(0 : Int)→SyOk b.fst (l.getD (Int.toNat (0 : Int)) (0 : Int)) (l.getD (Int.toNat (1 : Int)) (0 : Int))))∧True)∧True)∧((!decide (rSyncE b.fst (l.getD (Int.toNat (0 : Int)) (0 : Int)) (l.getD (Int.toNat (1 : Int)) (0 : Int))=(0 : Int)))=true→k [Dat.mk (((I).pr ((tV).sl.sl.pr ((I).sl.pr Ty.un))).pr (Ty.str.pr ((I).pr Ty.un))) b,Dat.mk (I) (rSyncE b.fst (l.getD (Int.toNat (0 : Int)) (0 : Int)) (l.getD (Int.toNat (1 : Int)) (0 : Int)))])∧((!decide (rSyncE b.fst (l.getD (Int.toNat (0 : Int)) (0 : Int)) (l.getD (Int.toNat (1 : Int)) (0 : Int))=(0 : Int)))=false→(∃ (x : Nat),(x≤l.length∧rPE b l=(0 : Int))∧(l=l∧([] : List Nat)=[]∧([] : List Nat)=[]∧([] : List Nat)=[]∧[(115 : UInt8)]=putS (wordF l) (List.take x l)∧(0 : Int)=(↑x : Int)∧True)∧(((45 : Nat)=(45 : Nat)∧b=b)∧((45 : Nat)=(45 : Nat)∧rb0=rb0)∧((43 : Nat)=(43 : Nat)∧rSyncT b.fst (l.getD (Int.toNat (0 : Int)) (0 : Int)) (l.getD (Int.toNat (1 : Int)) (0 : Int))=rSyncT b.fst (l.getD (Int.toNat (0 : Int)) (0 : Int)) (l.getD (Int.toNat (1 : Int)) (0 : Int)))∧True)∧True)∧∀ (x : Nat),x≤l.length∧rPE b l=(0 : Int)→(decide ((↑x : Int) < (↑l.length : Int))=true→(putS (wordF l) (List.take x l)).length+[(32 : UInt8)].length≤maxLen∧(0 : Int)≤(↑x : Int)∧(↑x : Int) < (↑l.length : Int)∧DigOk (l.getD (↑x : Int).toNat (0 : Int))∧((putS (wordF l) (List.take x l)).append [(32 : UInt8)]).length+(Lib.decDigits (l.getD (↑x : Int).toNat (0 : Int)).toNat).length≤maxLen∧inK IntKind.i64 ((↑x : Int)+(1 : Int))∧∃ (x_1 : Nat),(x_1≤l.length∧rPE b l=(0 : Int))∧l.length - x_1 < l.length - x∧(l=l∧([] : List Nat)=[]∧([] : List Nat)=[]∧([] : List Nat)=[]∧((putS (wordF l) (List.take x l)).append [(32 : UInt8)]).append (Lib.decDigits (l.getD (↑x : Int).toNat (0 : Int)).toNat)=putS (wordF l) (List.take x_1 l)∧(↑x : Int)+(1 : Int)=(↑x_1 : Int)∧True)∧(((45 : Nat)=(45 : Nat)∧b=b)∧((45 : Nat)=(45 : Nat)∧rb0=rb0)∧((43 : Nat)=(43 : Nat)∧rSyncT b.fst (l.getD (Int.toNat (0 : Int)) (0 : Int)) (l.getD (Int.toNat (1 : Int)) (0 : Int))=rSyncT b.fst (l.getD (Int.toNat (0 : Int)) (0 : Int)) (l.getD (Int.toNat (1 : Int)) (0 : Int)))∧True)∧True)∧(decide ((↑x : Int) < (↑l.length : Int))=false→(List.length b.snd.fst+(putS (wordF l) (List.take x l)).length≤maxLen∧(List.append b.snd.fst (putS (wordF l) (List.take x l))).length+[(32 : UInt8)].length≤maxLen∧SumOk (putS (wordF l) (List.take x l))∧DigOk (sumF (putS (wordF l) (List.take x l)))∧((List.append b.snd.fst (putS (wordF l) (List.take x l))).append [(32 : UInt8)]).length+(Lib.decDigits (sumF (putS (wordF l) (List.take x l))).toNat).length≤maxLen∧(((List.append b.snd.fst (putS (wordF l) (List.take x l))).append [(32 : UInt8)]).append (Lib.decDigits (sumF (putS (wordF l) (List.take x l))).toNat)).length+[(10 : UInt8)].length≤maxLen∧True)∧inK IntKind.i64 (b.snd.snd.fst+(1 : Int))∧k [Dat.mk (((I).pr ((tV).sl.sl.pr ((I).sl.pr Ty.un))).pr (Ty.str.pr ((I).pr Ty.un))) (rSyncT b.fst (l.getD (Int.toNat (0 : Int)) (0 : Int)) (l.getD (Int.toNat (1 : Int)) (0 : Int)),(((List.append b.snd.fst (putS (wordF l) (List.take x l))).append [(32 : UInt8)]).append (Lib.decDigits (sumF (putS (wordF l) (List.take x l))).toNat)).append [(10 : UInt8)],b.snd.snd.fst+(1 : Int),b.snd.snd.snd),Dat.mk (I) (0 : Int)]))))):=by kernel_rfl
open Go.Vc Go.Proofs Go.RowKit
theorem ownBNew0 : OwnOk Tryz.prog [] 25 oBNew0:=by
 refine own_of (CxOk.mk' Ek_ok (by kernel_rfl) mixed (gl:=[]) GOk.nil (GoOk.cons ownNew Tryz.func26 (by kernel_rfl) (by kernel_rfl) GoOk.nil) noIt) Tryz.func25 (c:=Tryz.f25.body.getD .skip) (rvs:=[(.tmp 2,.un),(.tmp 3,tErr)]) (by kernel_rfl) (by kernel_rfl) (by kernel_rfl) ?_
 intro args ob k h hwa hwo
 unfold oBNew0 at h
 split at h
 ·rename_i n
  refine ⟨[joinAll],?_⟩
  rw [vcBNew]
  refine ⟨fun hb=>⟨fun _=>h.1 hb,fun h'=>by simp at h'⟩,fun hb=>⟨fun h'=>by simp at h',fun _=>h.2 hb⟩⟩
 ·exact h.elim
theorem ownBW : OwnOk Tryz.prog glT 16 oBW:=by
 refine own_of (CxOk.mk' Ek_ok (by kernel_rfl) mixed (gl:=glT) GOk.nil (GoOk.cons ownWrite.lift Tryz.func27 (by kernel_rfl) (by kernel_rfl) (GoOk.cons ownPut Tryz.func35 (by kernel_rfl) (by kernel_rfl) GoOk.nil)) noIt) Tryz.func16 (c:=Tryz.f16.body.getD .skip) (rvs:=[(.tmp 8,tErr)]) (by kernel_rfl) (by kernel_rfl) (by kernel_rfl) ?_
 intro args ob k h hwa hwo
 unfold oBW at h
 split at h
 ·rename_i p q v m txt nd wr
  obtain ⟨⟨hN,hl,hm⟩,hk⟩:=h
  refine ⟨[joinAll],?_⟩
  show vcO _ _ _ _ _ [.ps 0,.d I p,.d I q,.d I v] (obBk (nd,wr,()) txt m) k
  rw [vcBW]
  have hwT : writeE (nd,wr,()) p q v≠0→writeT (nd,wr,()) p q v=(nd,wr,()):=fun h=>by unfold writeT; rw [if_neg h]
  generalize writeE (nd,wr,()) p q v=e at *
  generalize writeT (nd,wr,()) p q v=T at *
  simp only [decide_eq_true_eq,decide_eq_false_iff_not,Bool.not_eq_true',Bool.not_eq_false']
  refine ⟨fun h=>⟨by decide,?_⟩,fun h=>⟨hN,fun he => ?_,fun he=>⟨⟨hl,⟨hm.1,Int.le_trans hm.2 (by decide)⟩,by decide,by simp⟩,?_⟩⟩⟩
  ·have e1 : bkE m e=4:=by unfold bkE; rw [if_pos h]
   have e2 : ∀ t' line,bkT (nd,wr,()) txt m e t' line=((nd,wr,()),txt,m):=fun t' line=>by unfold bkT; rw [if_neg (by rw [e1]; decide)]
   rw [e1] at hk; simp only [e2] at hk; exact hk
  ·have e1 : bkE m e=e:=by unfold bkE; rw [if_neg h]
   have e2 : ∀ t' line,bkT (nd,wr,()) txt m e t' line=((nd,wr,()),txt,m):=fun t' line=>by unfold bkT; rw [if_neg (by rw [e1]; exact he)]
   rw [e1] at hk; simp only [e2] at hk; rw [hwT he]; exact hk
  ·have e1 : bkE m e=e:=by unfold bkE; rw [if_neg h]
   have e2 : ∀ t' line,bkT (nd,wr,()) txt m e t' line=(t',List.append txt line,m+1):=fun t' line=>by unfold bkT; rw [if_pos (by rw [e1]; exact he)]
   rw [e1] at hk; simp only [e2] at hk; rw [he] at hk; exact hk
 ·exact h.elim
theorem ownBS : OwnOk Tryz.prog glT 17 oBS:=by
 refine own_of (CxOk.mk' Ek_ok (by kernel_rfl) mixed (gl:=glT) GOk.nil (GoOk.cons ownSync.lift Tryz.func28 (by kernel_rfl) (by kernel_rfl) (GoOk.cons ownPut Tryz.func35 (by kernel_rfl) (by kernel_rfl) GoOk.nil)) noIt) Tryz.func17 (c:=Tryz.f17.body.getD .skip) (rvs:=[(.tmp 6,tErr)]) (by kernel_rfl) (by kernel_rfl) (by kernel_rfl) ?_
 intro args ob k h hwa hwo
 unfold oBS at h
 split at h
 ·rename_i p q m txt nd wr
  obtain ⟨⟨hN,hl,hm⟩,hk⟩:=h
  refine ⟨[joinAll],?_⟩
  show vcO _ _ _ _ _ [.ps 0,.d I p,.d I q] (obBk (nd,wr,()) txt m) k
  rw [vcBS]
  have hwT : syncE (nd,wr,()) p q≠0→syncT (nd,wr,()) p q=(nd,wr,()):=fun h=>by unfold syncT; rw [if_neg h]
  generalize syncE (nd,wr,()) p q=e at *
  generalize syncT (nd,wr,()) p q=T at *
  simp only [decide_eq_true_eq,decide_eq_false_iff_not,Bool.not_eq_true',Bool.not_eq_false']
  refine ⟨fun h=>⟨by decide,?_⟩,fun h=>⟨hN,fun he => ?_,fun he=>⟨⟨hl,⟨hm.1,Int.le_trans hm.2 (by decide)⟩,by decide,by simp⟩,?_⟩⟩⟩
  ·have e1 : bkE m e=4:=by unfold bkE; rw [if_pos h]
   have e2 : ∀ t' line,bkT (nd,wr,()) txt m e t' line=((nd,wr,()),txt,m):=fun t' line=>by unfold bkT; rw [if_neg (by rw [e1]; decide)]
   rw [e1] at hk; simp only [e2] at hk; exact hk
  ·have e1 : bkE m e=e:=by unfold bkE; rw [if_neg h]
   have e2 : ∀ t' line,bkT (nd,wr,()) txt m e t' line=((nd,wr,()),txt,m):=fun t' line=>by unfold bkT; rw [if_neg (by rw [e1]; exact he)]
   rw [e1] at hk; simp only [e2] at hk; rw [hwT he]; exact hk
  ·have e1 : bkE m e=e:=by unfold bkE; rw [if_neg h]
   have e2 : ∀ t' line,bkT (nd,wr,()) txt m e t' line=(t',List.append txt line,m+1):=fun t' line=>by unfold bkT; rw [if_pos (by rw [e1]; exact he)]
   rw [e1] at hk; simp only [e2] at hk; rw [he] at hk; exact hk
 ·exact h.elim
theorem ownBTxt : OwnOk Tryz.prog [] 14 oBTxt:=by
 refine own_of (CxOk.mk' Ek_ok (by kernel_rfl) mixed (gl:=[]) GOk.nil (GoOk.cons ownStr Tryz.func31 (by kernel_rfl) (by kernel_rfl) GoOk.nil) noIt) Tryz.func14 (c:=Tryz.f14.body.getD .skip) (rvs:=[(.tmp 2,.str)]) (by kernel_rfl) (by kernel_rfl) (by kernel_rfl) ?_
 intro args ob k h hwa hwo
 unfold oBTxt at h
 split at h
 ·rename_i m txt nd wr
  refine ⟨[joinAll],?_⟩
  show vcO _ _ _ _ _ [.ps 0] (obBk (nd,wr,()) txt m) k
  rw [vcBTxt]
  exact h
 ·exact h.elim
theorem ownBRd : OwnOk Tryz.prog [] 22 oBRd:=by
 refine own_of (CxOk.mk' Ek_ok (by kernel_rfl) mixed (gl:=[]) GOk.nil (GoOk.cons ownRead Tryz.func29 (by kernel_rfl) (by kernel_rfl) GoOk.nil) noIt) Tryz.func22 (c:=Tryz.f22.body.getD .skip) (rvs:=[(.tmp 6,.un)]) (by kernel_rfl) (by kernel_rfl) (by kernel_rfl) ?_
 intro args ob k h hwa hwo
 unfold oBRd at h
 split at h
 ·rename_i p q m txt nd wr
  refine ⟨[joinAll],?_⟩
  show vcO _ _ _ _ _ [.ps 0,.d I p,.d I q] (obBk (nd,wr,()) txt m) k
  rw [vcBRd]
  exact h
 ·exact h.elim
theorem ownBNew : OwnOk Tryz.prog [] 25 oBNew:=by
 intro args ob k hc w M R0 A vals hB hrd IV
 unfold oBNew at hc
 split at hc
 ·rename_i n
  obtain ⟨h1,h2⟩:=hc
  cases hb : inB n 1 5 with
  | false=>exact ownBNew0 [.d I n] [] k ⟨fun _=>h1 hb,fun h=>by rw [hb] at h; cases h⟩ w M R0 A vals hB hrd IV
  | true =>
   refine (ownBNew0 [.d I n] [] (fun s ob'=>s = .tp [.ps 0,.d tErr (0 : Int)]∧ob'=obNew0 (newF (n : Int).toNat)) ⟨fun h=>absurd (hb.symm.trans h) (by decide),fun _=>⟨rfl,rfl⟩⟩ w M R0 A vals hB hrd IV).mono ?_
   rintro x w' ⟨v,s,ob1,A',rfl,⟨rfl,rfl⟩,I2,hkeep⟩
   have hnum : A'.n=4:=I2.num
   have I3:=I2.add none (fun _ => .slice none 0 0) (fun b=>(Value.slice none 0 0).ownBlock=some b) (.buf 5 []) (Same.refl w') (fun _ _ _=>rfl) (fun b hb=>by simp [Value.ownBlock] at hb) (fun hro=>by
    refine ⟨?_,fun g hg => ?_⟩
    ·rw [Asg.push_η]; exact ⟨rfl,.inl ⟨rfl,rfl⟩⟩
    ·rw [Asg.push_η] at hg; simp [Value.ownBlock] at hg)
   have h4 : (A'.pushT (fun _=>Value.slice none 0 0) (fun b=>(Value.slice none 0 0).ownBlock=some b)).η 4 = .slice none 0 0:=by rw [← hnum,Asg.push_η]
   have h4n : 4 < (A'.pushT (fun _=>Value.slice none 0 0) (fun b=>(Value.slice none 0 0).ownBlock=some b)).n:=by simp [Asg.pushT,hnum]
   have I4:=I3.mod (i:=0) (.st 66 [.ps 1,.sf 0 1,.os 4,.d (.int .i64) (0 : Int)]) rfl rfl (Same.refl w') (fun _ _ _=>rfl) (fun hro=>by
    obtain ⟨b,cs,e1,hf,hh,hp⟩:=I3.ob 0 _ rfl
    obtain ⟨p1,p2⟩:=(pcs1 (by decide)).1 hp
    refine ⟨b,cs,e1,hf,hh,(pcs1 (by decide)).2 ⟨p1,fun k s v hs hv => ?_⟩⟩
    match k with
    | 0 =>
     obtain ⟨q1,q2⟩:=p2 0 _ v rfl hv
     injection hs with hs; subst hs
     exact ⟨q1.keep (fun g hg=>⟨(hro g hg).1,Kb.of_eq (hro g hg).2⟩) (Asg.le.refl _),q2⟩
    | 1 =>
     obtain ⟨q1,q2⟩:=p2 1 _ v rfl hv
     injection hs with hs; subst hs
     have q1' : [v]=[Value.pointer none]:=q1
     injection q1' with q1'
     refine ⟨⟨by omega,.inl q1'⟩,q2⟩
    | 2 =>
     obtain ⟨q1,q2⟩:=p2 2 _ v rfl hv
     injection hs with hs; subst hs
     have q1' : v = .slice none 0 0:=q1
     exact ⟨⟨h4n,by rw [q1']; exact h4.symm⟩,q2⟩
    | 3 =>
     obtain ⟨q1,q2⟩:=p2 3 _ v rfl hv
     injection hs with hs; subst hs
     exact ⟨q1.keep (fun g hg=>⟨(hro g hg).1,Kb.of_eq (hro g hg).2⟩) (Asg.le.refl _),q2⟩
    | k+4=>simp at hs)
   exact ⟨_,_,_,_,rfl,h2 hb,I4.out (M':=M) rfl (σ:=[0,1,4,2,3]) (by decide) (I4.tm 0 _ rfl),fun i hi=>absurd hi (by show ¬ i < 0; omega)⟩
 ·exact hc.elim
open Go.Vc Go.Proofs Go.RowKit
theorem itoa_nn {n : Int} (h : 0≤n) : Lib.itoa n=Lib.decDigits n.toNat:=by
 have:=Lib.itoa_nonneg n.toNat
 rw [Int.toNat_of_nonneg h] at this
 exact this
theorem rW_nn {t : RN} {p q v : Int} (h : rWriteE t p q v=0) : 0≤p∧0≤q∧0≤v:=by
 unfold rWriteE at h
 split at h
 ·rename_i hh
  simp only [Bool.and_eq_true] at hh
  exact ⟨(inB_iff.1 hh.1).1,(inB_iff.1 hh.2.1).1,(inB_iff.1 hh.2.2).1⟩
 ·cases h
theorem rS_nn {t : RN} {a b : Int} (h : rSyncE t a b=0) : 0≤a∧0≤b:=by
 unfold rSyncE at h
 split at h
 ·rename_i hh
  simp only [Bool.and_eq_true] at hh
  exact ⟨(inB_iff.1 hh.1).1,(inB_iff.1 hh.2).1⟩
 ·cases h
theorem put_nn {b : RB} {l : List Int} (h2 : l.length=3∨l.length=2) (h : rPE b l=0) : ∀ x,x < l.length→0≤l.getD x 0:=by
 intro x hx
 unfold rPE at h
 split at h
 ·cases h
 ·unfold rNE at h
  split at h
  ·rename_i h3
   obtain ⟨p,q,v⟩:=rW_nn h
   match x with
   | 0=>exact p
   | 1=>exact q
   | 2=>exact v
   | x+3=>omega
  ·rename_i h3
   obtain ⟨p,q⟩:=rS_nn h
   match x with
   | 0=>exact p
   | 1=>exact q
   | x+2=>omega
theorem okPutR : PlainOk Tryz.prog [] 68 cPutR:=by
 refine plain_of (CxOk.mk' Ek_ok (by kernel_rfl) mixed (gl:=[]) (GOk.cons okRWrite Tryz.func90 (by kernel_rfl) (by kernel_rfl) (GOk.cons okRSync Tryz.func91 (by kernel_rfl) (by kernel_rfl) (GOk.cons okDigits Tryz.func75 (by kernel_rfl) (by kernel_rfl) (GOk.cons okSumR Tryz.func67 (by kernel_rfl) (by kernel_rfl) GOk.nil)))) GoOk.nil noIt) Tryz.func68 (c:=Tryz.f68.body.getD .skip) (rvs:=[(.cell 4 45,tRB),(.tmp 5,I)]) (by kernel_rfl) (by kernel_rfl) (by kernel_rfl) ?_
 intro ds k ⟨hp,hk⟩ hwf
 obtain ⟨b,l,rfl,hP⟩:=dest2 hp
 have hl : ∀ n∈(l : List Int),inK .i64 n:=(wf2 hwf).2.2
 revert hP hk
 clear hp hwf
 revert b l
 intro (b : RB) (l : List Int) hl (hP : PutOk b l) (hk : k [⟨tRB,rPT b l⟩,⟨I,rPE b l⟩])
 refine ⟨anPutR b l,?_⟩
 rw [vcPutR]
 have h4 : l.length≤3:=by rcases hP.two with h | h<;>omega
 have hpl : ∀ x,x≤l.length→(putS (wordF l) (l.take x)).length≤100:=by
  intro x hx
  have:=putS_len (wordF l) (l.take x) fun n hn=>hl n (List.mem_of_mem_take hn)
  have h1 : (wordF l).length=1:=by unfold wordF; split<;>rfl
  rw [List.length_take] at this
  omega
 have hnn:=fun h=>put_nn (b:=b) hP.two h
 have hng : rPE b l=0→∀ x,x < l.length→l.getD x 0≤9223372036854775807:=fun _ x hx=>by
  rw [List.getD_eq_getElem?_getD,List.getElem?_eq_getElem hx]
  exact (inK_i64.1 (hl _ (List.getElem_mem hx))).2
 have htx:=hP.txt
 have hlo:=hP.lo
 have hhi:=hP.hi
 have ea : ∀ (m n : List UInt8),List.append m n=m++n:=fun _ _=>rfl
 have eml : maxLen=9223372036854775807:=rfl
 have i0 : Int.toNat 0=0:=rfl
 have i1 : Int.toNat 1=1:=rfl
 have i2 : Int.toNat 2=2:=rfl
 simp only [ea,i0,i1,i2,List.length_append,List.length_cons,List.length_nil,decide_eq_true_eq,decide_eq_false_iff_not,true_and,and_true,Int.toNat_natCast,inK_i64,Int.ofNat_lt,Bool.not_eq_true',Bool.not_eq_false']
 refine ⟨fun h60 => ?_,fun h60=>⟨fun h3 => ?_,fun h3 => ?_⟩⟩
 ·have e : rPE b l=4:=by unfold rPE; rw [if_pos h60]
  have e2 : rPT b l=b:=by unfold rPT; rw [if_neg (by rw [e]; decide)]
  rw [e,e2] at hk; exact hk
 ·have h3' : l.length=3:=by omega
  have e : rPE b l=rWriteE b.1 (l.getD 0 0) (l.getD 1 0) (l.getD 2 0):=by unfold rPE rNE; rw [if_neg h60,if_pos h3']
  have hw : wordF l=[119]:=by unfold wordF; rw [if_pos h3']
  have hT : rNT b.1 l=rWriteT b.1 (l.getD 0 0) (l.getD 1 0) (l.getD 2 0):=by unfold rNT; rw [if_pos h3']
  refine ⟨⟨by omega,by omega,by omega,by omega,by omega,by omega,hP.sh⟩,⟨fun he => ?_,fun he => ?_⟩⟩
  ·have e2 : rPT b l=b:=by unfold rPT; rw [if_neg (by rw [e]; exact he)]
   rw [e,e2] at hk; exact hk
  ·have he0 : rPE b l=0:=by rw [e]; exact he
   have hnn:=hnn he0
   have hng:=hng he0
   refine ⟨⟨0,⟨Nat.zero_le _,he0⟩,by rw [hw]; rfl,rfl⟩,fun x ⟨hx,_⟩=>⟨fun hlt => ?_,fun hge => ?_⟩⟩
   ·have h6:=hpl x hx
    have hn0:=hnn x hlt
    have hd:=decDig_le (n:=(l.getD x 0).toNat) (by have:=hng x hlt; omega)
    refine ⟨by omega,by omega,by omega,⟨hn0⟩,by omega,by omega,x+1,⟨by omega,he0⟩,by omega,?_,by omega⟩
    rw [putS_succ (wordF l) l hlt]
    have e : Lib.itoa (l.getD x 0)=Lib.decDigits (l.getD x 0).toNat:=itoa_nn hn0
    rw [e]
    show (putS (wordF l) (l.take x)++[32])++Lib.decDigits (l.getD x 0).toNat=putS (wordF l) (l.take x)++([32]++Lib.decDigits (l.getD x 0).toNat)
    rw [List.append_assoc]
   ·have ex : x=l.length:=by omega
    subst ex
    rw [List.take_length]
    have h6:=hpl l.length (Nat.le_refl _)
    rw [List.take_length] at h6
    have hs0 : 0≤sumF (putS (wordF l) l):=by unfold sumF; omega
    have hs1:=inK_i64.1 (sumF_k (putS (wordF l) l))
    have hd:=decDig_le (n:=(sumF (putS (wordF l) l)).toNat) (by omega)
    refine ⟨⟨by omega,by omega,⟨by omega⟩,⟨hs0⟩,by omega,by omega⟩,by omega,?_⟩
    have e : Lib.itoa (sumF (putS (wordF l) l))=Lib.decDigits (sumF (putS (wordF l) l)).toNat:=itoa_nn hs0
    have eq : rPT b l=(rWriteT b.1 (l.getD 0 0) (l.getD 1 0) (l.getD 2 0),List.append b.2.1 (lineF (wordF l) l),b.2.2.1+1,()):=by
     unfold rPT
     rw [if_pos he0,hT]
    have el : (((b.2.1++putS (wordF l) l)++[32])++Lib.decDigits (sumF (putS (wordF l) l)).toNat)++[10]=List.append b.2.1 (lineF (wordF l) l):=by
     show _=b.2.1++(((putS (wordF l) l++[32])++Lib.itoa (sumF (putS (wordF l) l)))++[10])
     rw [e]
     simp only [List.append_assoc]
    rw [eq,he0] at hk
    rw [el]
    exact hk
 ·have h3' : ¬ l.length=3:=by omega
  have h2' : l.length=2:=by rcases hP.two with h | h<;>omega
  have e : rPE b l=rSyncE b.1 (l.getD 0 0) (l.getD 1 0):=by unfold rPE rNE; rw [if_neg h60,if_neg h3']
  have hw : wordF l=[115]:=by unfold wordF; rw [if_neg h3']
  have hT : rNT b.1 l=rSyncT b.1 (l.getD 0 0) (l.getD 1 0):=by unfold rNT; rw [if_neg h3']
  refine ⟨⟨by omega,by omega,by omega,by omega,hP.sh,hP.sy h2'⟩,⟨fun he => ?_,fun he => ?_⟩⟩
  ·have e2 : rPT b l=b:=by unfold rPT; rw [if_neg (by rw [e]; exact he)]
   rw [e,e2] at hk; exact hk
  ·have he0 : rPE b l=0:=by rw [e]; exact he
   have hnn:=hnn he0
   have hng:=hng he0
   refine ⟨⟨0,⟨Nat.zero_le _,he0⟩,by rw [hw]; rfl,rfl⟩,fun x ⟨hx,_⟩=>⟨fun hlt => ?_,fun hge => ?_⟩⟩
   ·have h6:=hpl x hx
    have hn0:=hnn x hlt
    have hd:=decDig_le (n:=(l.getD x 0).toNat) (by have:=hng x hlt; omega)
    refine ⟨by omega,by omega,by omega,⟨hn0⟩,by omega,by omega,x+1,⟨by omega,he0⟩,by omega,?_,by omega⟩
    rw [putS_succ (wordF l) l hlt]
    have e : Lib.itoa (l.getD x 0)=Lib.decDigits (l.getD x 0).toNat:=itoa_nn hn0
    rw [e]
    show (putS (wordF l) (l.take x)++[32])++Lib.decDigits (l.getD x 0).toNat=putS (wordF l) (l.take x)++([32]++Lib.decDigits (l.getD x 0).toNat)
    rw [List.append_assoc]
   ·have ex : x=l.length:=by omega
    subst ex
    rw [List.take_length]
    have h6:=hpl l.length (Nat.le_refl _)
    rw [List.take_length] at h6
    have hs0 : 0≤sumF (putS (wordF l) l):=by unfold sumF; omega
    have hs1:=inK_i64.1 (sumF_k (putS (wordF l) l))
    have hd:=decDig_le (n:=(sumF (putS (wordF l) l)).toNat) (by omega)
    refine ⟨⟨by omega,by omega,⟨by omega⟩,⟨hs0⟩,by omega,by omega⟩,by omega,?_⟩
    have e : Lib.itoa (sumF (putS (wordF l) l))=Lib.decDigits (sumF (putS (wordF l) l)).toNat:=itoa_nn hs0
    have eq : rPT b l=(rSyncT b.1 (l.getD 0 0) (l.getD 1 0),List.append b.2.1 (lineF (wordF l) l),b.2.2.1+1,()):=by
     unfold rPT
     rw [if_pos he0,hT]
    have el : (((b.2.1++putS (wordF l) l)++[32])++Lib.decDigits (sumF (putS (wordF l) l)).toNat)++[10]=List.append b.2.1 (lineF (wordF l) l):=by
     show _=b.2.1++(((putS (wordF l) l++[32])++Lib.itoa (sumF (putS (wordF l) l)))++[10])
     rw [e]
     simp only [List.append_assoc]
    rw [eq,he0] at hk
    rw [el]
    exact hk
open Go.Vc Go.Proofs Go.RowKit
def En : Env:={ Es with sa:=[31,36,37] }
theorem En_ok : EnvOk Tryz.prog En:=⟨Es_ok.ty,Es_ok.err,Es_ok.el,Es_ok.mp⟩
def isDg (b : UInt8) : Bool:=decide (48≤b.toNat)&&decide (b.toNat≤57)
def numW (s : List UInt8) : Nat→Int
 | 0=>0
 | i+1=>wr64 (wr64 (wr64 (numW s i*10)+((s.getD i 0).toNat : Int)) - 48)
def numOk (s : List UInt8) : Bool:=decide (1≤s.length)&&decide (s.length≤19)&&s.all isDg
def numN (s : List UInt8) : Int:=if numOk s=true then numW s s.length else 0
def numB (s : List UInt8) : Bool:=numOk s&&decide (0≤numN s)&&(Lib.decDigits (numN s).toNat==s)
def cNumR : Ctr:=cdet [.str] (fun _=>True) (fun s=>[⟨I,numN s⟩,⟨.bool,numB s⟩])
def anNumR (s : List UInt8) : Ann:=[joinAll,loopAt 5 Nat [] (fun st i=>St.at (St.only st [0]) [(4,.d I (numW s i)),(5,.d I (i : Int))]) (fun _ i=>(i≤s.length∧1≤s.length∧s.length≤19)∧(s.take i).all isDg=true) (fun i=>s.length - i)]
open Go.Vc
set_option linter.unusedVariables false
theorem vcNumR (s : List UInt8) (k : List Dat→Prop) : vcF ⟨En,[(75,cDigits)],[],[],[]⟩ (anNumR s) (Tryz.f66.body.getD .skip) Tryz.f66.ntmps [(.tmp 2,I),(.tmp 3,.bool)] [⟨.str,s⟩] k=(
 (decide ((↑s.length : Int)=(0 : Int))=true→k [Dat.mk (I) (0 : Int),Dat.mk Ty.bool false])∧(decide ((↑s.length : Int)=(0 : Int))=false→(decide ((19 : Int) < (↑s.length : Int))=true→k [Dat.mk (I) (0 : Int),Dat.mk Ty.bool false])∧(decide ((19 : Int) < (↑s.length : Int))=false→(∃ (x : Nat),((x≤s.length∧(1 : Nat)≤s.length∧s.length≤(19 : Nat))∧(List.take x s).all isDg=true)∧(s=s∧(0 : Int)=numW s x∧(0 : Int)=(↑x : Int)∧True)∧True∧True)∧∀ (x : Nat),(x≤s.length∧(1 : Nat)≤s.length∧s.length≤(19 : Nat))∧(List.take x s).all isDg=true→(decide ((↑x : Int) < (↑s.length : Int))=true→(0 : Int)≤(↑x : Int)∧(↑x : Int) < (↑s.length : Int)∧(decide ((↑(s.getD (↑x : Int).toNat (0 : UInt8)).toNat : Int) < (48 : Int))=true→k [Dat.mk (I) (0 : Int),Dat.mk Ty.bool false])∧(decide ((↑(s.getD (↑x : Int).toNat (0 : UInt8)).toNat : Int) < (48 : Int))=false→(0 : Int)≤(↑x : Int)∧(↑x : Int) < (↑s.length : Int)∧(decide ((57 : Int) < (↑(s.getD (↑x : Int).toNat (0 : UInt8)).toNat : Int))=true→k [Dat.mk (I) (0 : Int),Dat.mk Ty.bool false])∧(decide ((57 : Int) < (↑(s.getD (↑x : Int).toNat (0 : UInt8)).toNat : Int))=false→(0 : Int)≤(↑x : Int)∧(↑x : Int) < (↑s.length : Int)∧inK IntKind.i64 (↑(s.getD (↑x : Int).toNat (0 : UInt8)).toNat : Int)∧inK IntKind.i64 ((↑x : Int)+(1 : Int))∧∃ (x_1 : Nat),((x_1≤s.length∧(1 : Nat)≤s.length∧s.length≤(19 : Nat))∧(List.take x_1 s).all isDg=true)∧s.length - x_1 < s.length - x∧(s=s∧wr64 (wr64 (wr64 (numW s x*(10 : Int))+(↑(s.getD (↑x : Int).toNat (0 : UInt8)).toNat : Int)) - (48 : Int))=numW s x_1∧(↑x : Int)+(1 : Int)=(↑x_1 : Int)∧True)∧True∧True)))∧(decide ((↑x : Int) < (↑s.length : Int))=false→(decide ((0 : Int)≤numW s x)=true→DigOk (numW s x)∧k [Dat.mk (I) (numW s x),Dat.mk Ty.bool (Lib.decDigits (numW s x).toNat==s)])∧(decide ((0 : Int)≤numW s x)=false→k [Dat.mk (I) (numW s x),Dat.mk Ty.bool false]))))):=by kernel_rfl
open Go.Vc Go.Proofs Go.RowKit
theorem okNumR [Dn] : PlainOk Tryz.prog [] 66 cNumR:=by
 refine plain_of (CxOk.mk' En_ok (by kernel_rfl) mixed (gl:=[]) (GOk.cons okDigits Tryz.func75 (by kernel_rfl) (by kernel_rfl) GOk.nil) GoOk.nil noIt) Tryz.func66 (c:=Tryz.f66.body.getD .skip) (rvs:=[(.tmp 2,I),(.tmp 3,.bool)]) (by kernel_rfl) (by kernel_rfl) (by kernel_rfl) ?_
 intro ds k ⟨hp,hk⟩ hwf
 obtain ⟨s,rfl,-⟩:=dest1 hp
 have hk : k [⟨I,numN s⟩,⟨.bool,numB s⟩]:=hk
 refine ⟨anNumR s,?_⟩
 rw [vcNumR]
 have no : numOk s=false→k [⟨I,(0 : Int)⟩,⟨.bool,false⟩]:=fun h=>by
  have e1 : numN s=0:=by unfold numN; rw [if_neg (by rw [h]; decide)]
  have e2 : numB s=false:=by unfold numB; rw [h]; rfl
  rw [e1,e2] at hk; exact hk
 have bad : ∀ x,x < s.length→isDg (s.getD x 0)=false→numOk s=false:=fun x hx h=>by
  unfold numOk
  have : s.all isDg=false:=by
   rw [List.all_eq_false]
   refine ⟨s.getD x 0,?_,by rw [h]; decide⟩
   rw [List.getD_eq_getElem?_getD,List.getElem?_eq_getElem hx]
   exact List.getElem_mem hx
  rw [this,Bool.and_false]
 simp only [Int.toNat_natCast,decide_eq_true_eq,decide_eq_false_iff_not,true_and,and_true,inK_i64]
 refine ⟨fun h=>no ?_,fun h0=>⟨fun h=>no ?_,fun h19=>⟨⟨0,⟨⟨Nat.zero_le _,by omega,by omega⟩,rfl⟩,rfl,rfl⟩,fun x ⟨⟨hx,h1,h2⟩,ha⟩=>⟨fun hlt=>⟨by omega,hlt,fun hd=>no ?_,fun hd=>⟨by omega,hlt,fun hd2=>no ?_,fun hd2=>⟨by omega,hlt,by omega,by omega,x+1,⟨⟨by omega,h1,h2⟩,?_⟩,by omega,rfl,by omega⟩⟩⟩,fun hge => ?_⟩⟩⟩⟩
 ·unfold numOk; rw [decide_eq_false (by omega : ¬ 1≤s.length)]; rfl
 ·unfold numOk; rw [decide_eq_false (by omega : ¬ s.length≤19),Bool.and_false]; rfl
 ·refine bad x (by omega) ?_
  unfold isDg; rw [decide_eq_false (by omega : ¬ 48≤(s.getD x 0).toNat)]; rfl
 ·refine bad x (by omega) ?_
  unfold isDg; rw [decide_eq_false (by omega : ¬ (s.getD x 0).toNat≤57),Bool.and_false]
 ·have hxl : x < s.length:=by omega
  rw [List.take_succ_eq_append_getElem hxl,List.all_append,ha]
  have : isDg s[x]=true:=by
   have e : s.getD x 0=s[x]:=by rw [List.getD_eq_getElem?_getD,List.getElem?_eq_getElem hxl]; rfl
   rw [← e]
   unfold isDg
   rw [decide_eq_true (by omega : 48≤(s.getD x 0).toNat),decide_eq_true (by omega : (s.getD x 0).toNat≤57)]; rfl
  simp [this]
 ·have ex : x=s.length:=by omega
  subst ex
  rw [List.take_length] at ha
  have ho : numOk s=true:=by
   unfold numOk
   rw [decide_eq_true h1,decide_eq_true h2,ha]; rfl
  have e1 : numN s=numW s s.length:=by unfold numN; rw [if_pos ho]
  refine ⟨fun hn=>⟨⟨hn⟩,?_⟩,fun hn => ?_⟩
  ·have e2 : numB s=(Lib.decDigits (numW s s.length).toNat==s):=by
    unfold numB; rw [ho,e1,decide_eq_true hn]; rfl
   rw [e1,e2] at hk; exact hk
  ·have e2 : numB s=false:=by
    unfold numB; rw [ho,e1,decide_eq_false hn]; rfl
   rw [e1,e2] at hk; exact hk
open Go.Vc Go.Proofs Go.RowKit
def Ec : Env:={ Es with tys:=(78,.sl .str)::Es.tys,els:=[(78,9)] }
theorem Ec_ok : EnvOk Tryz.prog Ec:=EnvOk.of_list (by kernel_rfl) (by kernel_rfl) (by kernel_rfl)
def cutAt (s : List UInt8) (c : Int) (i : Nat) : Bool:=decide (i=s.length)||decide (((s.getD i 0).toNat : Int)=c)
def cutFm (s : List UInt8) (c : Int) : Nat→Nat
 | 0=>0
 | i+1=>if cutAt s c i=true then i+1 else cutFm s c i
def cutG (s : List UInt8) (c : Int) : Nat→List (List UInt8)
 | 0=>[]
 | i+1=>if cutAt s c i=true then cutG s c i++[(s.take i).drop (cutFm s c i)] else cutG s c i
def cutL (s : List UInt8) (c : Int) : List (List UInt8):=cutG s c (s.length+1)
structure CutOk (s : List UInt8) : Prop where
 le : s.length≤1100000
def cCutR : Ctr:=cdet [.str,.int .u8] (fun s _=>CutOk s) (fun s (c : Int)=>[⟨.sl .str,cutL s c⟩])
def anCutR (s : List UInt8) (c : Int) : Ann:=[joinAll,loopAt 4 Nat [(5,9,.d .str)] (fun st i=>{ St.at (St.only st [0,1]) [(5,.os 0),(6,.d I ((cutFm s c i : Nat) : Int)),(7,.d I (i : Int))] with ob:=[.row 9 .str (cutG s c i)] }) (fun _ i=>i≤s.length+1) (fun i=>s.length+1 - i)]
open Go.Vc
set_option linter.unusedVariables false
theorem vcCutR (s : List UInt8) (c : Int) (k : List Dat→Prop) : vcF ⟨Ec,[],[],[],[]⟩ (anCutR s c) (Tryz.f39.body.getD .skip) Tryz.f39.ntmps [(.tmp 4,.sl .str)] [⟨.str,s⟩,⟨.int .u8,c⟩] k=(
 (∃ (x : Nat),x.le (s.length+(1 : Nat))∧(s=s∧c=c∧True∧(0 : Int)=(↑(cutFm s c x) : Int)∧(0 : Int)=(↑x : Int)∧True)∧(((9 : Nat)=(9 : Nat)∧[]=cutG s c x)∧True)∧True)∧∀ (x : Nat),x.le (s.length+(1 : Nat))→(decide ((↑x : Int)≤(↑s.length : Int))=true→(decide ((↑x : Int)=(↑s.length : Int))=true→(0 : Int)≤(↑(cutFm s c x) : Int)∧(↑(cutFm s c x) : Int)≤(↑x : Int)∧(↑x : Int)≤(↑s.length : Int)∧(cutG s c x).length+((List.replicate (1 : Nat) []).set (0 : Nat) (List.drop (↑(cutFm s c x) : Int).toNat (List.take (↑x : Int).toNat s))).length≤(1000000000 : Nat)∧inK IntKind.i64 ((↑x : Int)+(1 : Int))∧inK IntKind.i64 ((↑x : Int)+(1 : Int))∧∃ (x_1 : Nat),x_1.le (s.length+(1 : Nat))∧s.length+(1 : Nat) - x_1 < s.length+(1 : Nat) - x∧(s=s∧c=c∧True∧(↑x : Int)+(1 : Int)=(↑(cutFm s c x_1) : Int)∧(↑x : Int)+(1 : Int)=(↑x_1 : Int)∧True)∧(((9 : Nat)=(9 : Nat)∧(cutG s c x).append ((List.replicate (1 : Nat) []).set (0 : Nat) (List.drop (↑(cutFm s c x) : Int).toNat (List.take (↑x : Int).toNat s)))=cutG s c x_1)∧True)∧True)∧(decide ((↑x : Int)=(↑s.length : Int))=false→(0 : Int)≤(↑x : Int)∧(↑x : Int) < (↑s.length : Int)∧(decide ((↑(s.getD (↑x : Int).toNat (0 : UInt8)).toNat : Int)=c)=true→(0 : Int)≤(↑(cutFm s c x) : Int)∧(↑(cutFm s c x) : Int)≤(↑x : Int)∧(↑x : Int)≤(↑s.length : Int)∧(cutG s c x).length+((List.replicate (1 : Nat) []).set (0 : Nat) (List.drop (↑(cutFm s c x) : Int).toNat (List.take (↑x : Int).toNat s))).length≤(1000000000 : Nat)∧inK IntKind.i64 ((↑x : Int)+(1 : Int))∧inK IntKind.i64 ((↑x : Int)+(1 : Int))∧∃ (x_1 : Nat),x_1.le (s.length+(1 : Nat))∧s.length+(1 : Nat) - x_1 < s.length+(1 : Nat) - x∧(s=s∧c=c∧True∧(↑x : Int)+(1 : Int)=(↑(cutFm s c x_1) : Int)∧(↑x : Int)+(1 : Int)=(↑x_1 : Int)∧True)∧(((9 : Nat)=(9 : Nat)∧(cutG s c x).append ((List.replicate (1 : Nat) []).set (0 : Nat) (List.drop (↑(cutFm s c x) : Int).toNat (List.take (↑x : Int).toNat s)))=cutG s c x_1)∧True)∧True)∧(decide ((↑(s.getD (↑x : Int).toNat (0 : UInt8)).toNat : Int)=c)=false→inK IntKind.i64 ((↑x : Int)+(1 : Int))∧∃ (x_1 : Nat),x_1.le (s.length+(1 : Nat))∧s.length+(1 : Nat) - x_1 < s.length+(1 : Nat) - x∧(s=s∧c=c∧True∧(↑(cutFm s c x) : Int)=(↑(cutFm s c x_1) : Int)∧(↑x : Int)+(1 : Int)=(↑x_1 : Int)∧True)∧(((9 : Nat)=(9 : Nat)∧cutG s c x=cutG s c x_1)∧True)∧True)))∧(decide ((↑x : Int)≤(↑s.length : Int))=false→k [Dat.mk Ty.str.sl (cutG s c x)])):=by kernel_rfl
open Go.Vc Go.Proofs Go.RowKit
theorem cutFm_le (s : List UInt8) (c : Int) : ∀ i,cutFm s c i≤i
 | 0=>Nat.le_refl _
 | i+1=>by
  have ih:=cutFm_le s c i
  unfold cutFm
  split<;>omega
theorem cutG_len (s : List UInt8) (c : Int) : ∀ i,(cutG s c i).length≤i
 | 0=>Nat.le_refl _
 | i+1=>by
  have ih:=cutG_len s c i
  unfold cutG
  split
  ·rw [List.length_append,List.length_singleton]; omega
  ·omega
theorem okCutR [Dn] : PlainOk Tryz.prog [] 39 cCutR:=by
 refine plain_of (CxOk.mk' Ec_ok (by kernel_rfl) mixed (gl:=[]) GOk.nil GoOk.nil noIt) Tryz.func39 (c:=Tryz.f39.body.getD .skip) (rvs:=[(.tmp 4,.sl .str)]) (by kernel_rfl) (by kernel_rfl) (by kernel_rfl) ?_
 intro ds k ⟨hp,hk⟩ hwf
 obtain ⟨s,c,rfl,hs⟩:=dest2 hp
 have hle:=hs.le
 have hk : k [⟨.sl .str,cutL s c⟩]:=hk
 refine ⟨anCutR s c,?_⟩
 rw [vcCutR]
 have e1 : ∀ y : List UInt8,(List.replicate 1 ([] : List UInt8)).set 0 y=[y]:=fun _=>rfl
 have ea : ∀ (m n : List (List UInt8)),List.append m n=m++n:=fun _ _=>rfl
 simp only [e1,ea,Int.toNat_natCast,decide_eq_true_eq,decide_eq_false_iff_not,true_and,and_true,inK_i64,Nat.le_eq,List.length_cons,List.length_nil]
 refine ⟨⟨0,by omega,⟨rfl,rfl⟩,rfl⟩,fun x hx=>⟨fun hxl=>⟨fun he => ?_,fun hne=>⟨by omega,by omega,fun hc => ?_,fun hc => ?_⟩⟩,fun hgt => ?_⟩⟩
 ·have h1:=cutFm_le s c x
  have h2:=cutG_len s c x
  have hat : cutAt s c x=true:=by unfold cutAt; rw [decide_eq_true (by omega : x=s.length)]; rfl
  refine ⟨by omega,by omega,by omega,by omega,by omega,by omega,x+1,by omega,by omega,⟨?_,by omega⟩,?_⟩
  ·show (x : Int)+1=((if cutAt s c x=true then x+1 else cutFm s c x : Nat) : Int)
   rw [if_pos hat]; omega
  ·show _=if cutAt s c x=true then _ else _
   rw [if_pos hat]
 ·have h1:=cutFm_le s c x
  have h2:=cutG_len s c x
  have hat : cutAt s c x=true:=by unfold cutAt; rw [decide_eq_true hc,Bool.or_true]
  refine ⟨by omega,by omega,by omega,by omega,by omega,by omega,x+1,by omega,by omega,⟨?_,by omega⟩,?_⟩
  ·show (x : Int)+1=((if cutAt s c x=true then x+1 else cutFm s c x : Nat) : Int)
   rw [if_pos hat]; omega
  ·show _=if cutAt s c x=true then _ else _
   rw [if_pos hat]
 ·have hat : ¬ cutAt s c x=true:=by unfold cutAt; rw [decide_eq_false (by omega : ¬ x=s.length),decide_eq_false hc]; decide
  refine ⟨by omega,x+1,by omega,by omega,⟨?_,by omega⟩,?_⟩
  ·show _=((if cutAt s c x=true then x+1 else cutFm s c x : Nat) : Int)
   rw [if_neg hat]
  ·show _=if cutAt s c x=true then _ else _
   rw [if_neg hat]
 ·have : x=s.length+1:=by omega
  subst this; exact hk
open Go.Shelf Go.Proofs Go.RowKit
def laidCutS_ren : Go.Shelf.Ren:=⟨fun | 104=>33 | 211=>59 | 207=>81 | n=>n,fun | 9=>9 | 4=>4 | 24=>70 | 3=>3 | n=>n,fun | n=>n⟩
theorem laidCutS : Go.Proofs.Lays.n104 Tryz.prog laidCutS_ren where
 mixed:=by kernel_rfl
 f104:=Tryz.func33.trans (congrArg some (by kernel_rfl))
 f207:=Tryz.func81.trans (congrArg some (by kernel_rfl))
 f211:=Tryz.func59.trans (congrArg some (by kernel_rfl))
 t3:=Tryz.underlying3
 a3:=Tryz.isAgg3
 z3:=Tryz.sizeOf3
 v3:=Tryz.zeroValue3
 t4:=Tryz.underlying4
 a4:=Tryz.isAgg4
 z4:=Tryz.sizeOf4
 v4:=Tryz.zeroValue4
 t9:=Tryz.underlying9
 a9:=Tryz.isAgg9
 z9:=Tryz.sizeOf9
 v9:=Tryz.zeroValue9
 t24:=Tryz.underlying70
 a24:=Tryz.isAgg70
 z24:=Tryz.sizeOf70
 v24:=Tryz.zeroValue70
def laidLastI_ren : Go.Shelf.Ren:=⟨fun | 149=>60 | 222=>82 | n=>n,fun | 9=>9 | 5=>5 | 3=>3 | 4=>4 | n=>n,fun | n=>n⟩
theorem laidLastI : Go.Proofs.Lays.n149 Tryz.prog laidLastI_ren where
 mixed:=by kernel_rfl
 f149:=Tryz.func60.trans (congrArg some (by kernel_rfl))
 f222:=Tryz.func82.trans (congrArg some (by kernel_rfl))
 t3:=Tryz.underlying3
 a3:=Tryz.isAgg3
 z3:=Tryz.sizeOf3
 v3:=Tryz.zeroValue3
 t4:=Tryz.underlying4
 a4:=Tryz.isAgg4
 z4:=Tryz.sizeOf4
 v4:=Tryz.zeroValue4
 t5:=Tryz.underlying5
 a5:=Tryz.isAgg5
 z5:=Tryz.sizeOf5
 v5:=Tryz.zeroValue5
 t9:=Tryz.underlying9
 a9:=Tryz.isAgg9
 z9:=Tryz.sizeOf9
 v9:=Tryz.zeroValue9
def laidIdxB_ren : Go.Shelf.Ren:=⟨fun | 137=>58 | 217=>80 | 266=>107 | n=>n,fun | 9=>9 | 5=>5 | 3=>3 | n=>n,fun | n=>n⟩
theorem laidIdxB : Go.Proofs.Lays.n137 Tryz.prog laidIdxB_ren where
 mixed:=by kernel_rfl
 f137:=Tryz.func58.trans (congrArg some (by kernel_rfl))
 f217:=Tryz.func80.trans (congrArg some (by kernel_rfl))
 f266:=Tryz.func107.trans (congrArg some (by kernel_rfl))
 t3:=Tryz.underlying3
 a3:=Tryz.isAgg3
 z3:=Tryz.sizeOf3
 v3:=Tryz.zeroValue3
 t5:=Tryz.underlying5
 a5:=Tryz.isAgg5
 z5:=Tryz.sizeOf5
 v5:=Tryz.zeroValue5
 t9:=Tryz.underlying9
 a9:=Tryz.isAgg9
 z9:=Tryz.sizeOf9
 v9:=Tryz.zeroValue9
open Go.Vc Go.Proofs Go.RowKit
def cCutS : Ctr:=cdet [.str,.str] (fun _ _=>True) (fun s p=>[⟨.str,Lib.trimSuffix s p⟩,⟨.bool,Lib.hasSuffix s p⟩])
structure LastOk (s : List UInt8) : Prop where
 le : s.length≤1000000000
def lastB (s : List UInt8) (c : Int) : Int:=Lib.lastIndexByte ⟨s.toArray⟩ c
def cLastI : Ctr:=cdet [.str,.int .u8] (fun s _=>LastOk s) (fun s (c : Int)=>[⟨I,lastB s c⟩])
theorem str1 {w : World} {ro : Nat→Prop} {x : List UInt8} {v : Value} (h : (Ty.str).okV w ro x v) : v = .string ⟨x.toArray⟩∧x.length≤maxLen:=by
 have h' : [v]=[Value.string ⟨x.toArray⟩]∧x.length≤maxLen:=h
 exact ⟨by simpa using h'.1,h'.2⟩
theorem bsz (x : List UInt8) : (⟨x.toArray⟩ : ByteArray).size=x.length:=by simp [ByteArray.size]
theorem trim_len (s p : List UInt8) : (Lib.trimSuffix s p).length≤s.length:=by
 unfold Lib.trimSuffix
 split
 ·rw [List.length_take]; omega
 ·exact Nat.le_refl _
theorem okCutS [Dn] : PlainOk Tryz.prog [] 33 cCutS:=by
 intro ds k ⟨hp,hk⟩ w ro vals hlt hgl hD
 obtain ⟨s,p,rfl,-⟩:=dest2 hp
 have hk : k [⟨.str,Lib.trimSuffix s p⟩,⟨.bool,Lib.hasSuffix s p⟩]:=hk
 have hl : vals.length=2:=hD.1
 match vals,hl with
 | [v1,v2],_ =>
  obtain ⟨e1,h1⟩:=str1 (w:=w) (ro:=ro) (x:=s) (v:=v1) (hD.2 0 ⟨.str,s⟩ v1 rfl rfl)
  obtain ⟨e2,h2⟩:=str1 (w:=w) (ro:=ro) (x:=p) (v:=v2) (hD.2 1 ⟨.str,p⟩ v2 rfl rfl)
  subst e1; subst e2
  refine (Any.strings_CutSuffix laidCutS ⟨s.toArray⟩ ⟨p.toArray⟩ w (by rw [bsz]; exact h1)).mono ?_
  rintro e w' ⟨rfl,rfl⟩
  refine ⟨Fr.refl _ _,_,_,rfl,hk,_,rfl,rfl,fun j d v hd hv => ?_⟩
  match j with
  | 0=>simp at hd hv; subst hd; subst hv; exact ⟨rfl,Nat.le_trans (trim_len s p) h1⟩
  | 1=>simp at hd hv; subst hd; subst hv; exact rfl
  | j+2=>simp at hd
theorem lastIdx_k (s : ByteArray) (c : Int) : ∀ k : Nat,-1≤Lib.lastIdx s c k∧Lib.lastIdx s c k < (k : Int)
 | 0=>⟨Int.le_refl _,by show (-1 : Int) < 0; decide⟩
 | k+1=>by
  have ih:=lastIdx_k s c k
  unfold Lib.lastIdx
  split<;>omega
theorem okLastI [Dn] : PlainOk Tryz.prog [] 60 cLastI:=by
 intro ds k ⟨hp,hk⟩ w ro vals hlt hgl hD
 obtain ⟨s,c,rfl,hs⟩:=dest2 hp
 have hk : k [⟨I,lastB s c⟩]:=hk
 have hl : vals.length=2:=hD.1
 match vals,hl with
 | [v1,v2],_ =>
  obtain ⟨e1,h1⟩:=str1 (w:=w) (ro:=ro) (x:=s) (v:=v1) (hD.2 0 ⟨.str,s⟩ v1 rfl rfl)
  have hv : [v2]=[Value.int .u8 c]∧inK .u8 c:=hD.2 1 ⟨.int .u8,c⟩ v2 rfl rfl
  obtain ⟨e2,_⟩:=hv
  injection e2 with e2 _
  subst e1; subst e2
  have hle:=hs.le
  refine (Any.strings_LastIndexByte laidLastI ⟨s.toArray⟩ c (by rw [bsz]; exact Nat.lt_of_le_of_lt hle (by decide)) w).mono ?_
  rintro e w' ⟨rfl,rfl⟩
  refine ⟨Fr.refl _ _,_,_,rfl,hk,rfl,?_⟩
  have:=lastIdx_k ⟨s.toArray⟩ c s.length
  rw [inK_i64]
  show -9223372036854775808≤lastB s c∧lastB s c≤9223372036854775807
  unfold lastB Lib.lastIndexByte
  rw [bsz]
  omega
open Go.Vc Go.Proofs Go.RowKit
def tailL (s : List UInt8) : List UInt8:=s.drop (lastB s 32+1).toNat
def headL (s : List UInt8) : List UInt8:=s.take (lastB s 32).toNat
def wordsL (s : List UInt8) : List (List UInt8):=cutL (headL s) 32
def numsL (s : List UInt8) : List Int:=((wordsL s).drop 1).map numN
def fitL (s : List UInt8) : Bool:=((wordsL s).getD 0 []==[119]&&decide ((numsL s).length=3))||((wordsL s).getD 0 []==[115]&&decide ((numsL s).length=2))
def badL (s : List UInt8) : Int :=
 if lastB s 32 < 0 then 2 else if numB (tailL s)=false then 2 else if numN (tailL s)≠sumF (headL s) then 6 else if ((wordsL s).drop 1).all numB=false then 2 else if fitL s=true then 0 else 2
def rLE (b : RB) (s : List UInt8) : Int:=if badL s=0 then rPE b (numsL s) else badL s
def rLT (b : RB) (s : List UInt8) : RB:=if badL s=0 then rPT b (numsL s) else b
structure LineOk (b : RB) (s : List UInt8) : Prop where
 sh : RSh b.1
 sy : ∀ x y : Int,rSyncE b.1 x y=0→SyOk b.1 x y
 txt : b.2.1.length≤900000000
 lo : 0≤b.2.2.1
 hi : b.2.2.1≤60
 le : s.length≤1100000
def cLineR : Ctr:=cdet [tRB,.str] (fun (b : RB) s=>LineOk b s) (fun (b : RB) s=>[⟨tRB,rLT b s⟩,⟨I,rLE b s⟩])
def Elr : Env:={ Ek with tys:=(78,.sl .str)::Ek.tys,els:=(78,9)::Ek.els }
theorem Elr_ok : EnvOk Tryz.prog Elr:=EnvOk.of_list (by kernel_rfl) (by kernel_rfl) (by kernel_rfl)
def anLineR (b : RB) (s : List UInt8) : Ann:=[joinAll,freezeAt 20 [10],
 loopAt 2 Nat [] (fun st j=>St.at (St.only st [1,2,4]) [(6,.d I ((j : Int) - 1))]) (fun _ j=>j≤s.length∧Lib.lastIdx ⟨s.toArray⟩ 32 j=lastB s 32) (fun j=>j),
 loopAt 14 Nat [(10,3,.d I)] (fun st i=>{ St.at (St.only st [1,2,4,9]) [(10,.os 2),(11,.d I ((i : Int)+1))] with ob:=[.var 45 tRB b,.var 45 tRB rb0,.row 3 I ((((wordsL s).drop 1).take i).map numN)] }) (fun _ i=>(i≤((wordsL s).drop 1).length∧0≤lastB s 32)∧((((wordsL s).drop 1).take i).all numB=true∧numB (tailL s)=true∧numN (tailL s)=sumF (headL s))) (fun i=>((wordsL s).drop 1).length - i)]
open Go.Vc
set_option linter.unusedVariables false
theorem vcLineR (b : RB) (s : List UInt8) (k : List Dat→Prop) : vcF ⟨Elr,[(66,cNumR),(67,cSum),(39,cCutR),(68,cPutR)],[],[],[]⟩ (anLineR b s) (Tryz.f40.body.getD .skip) Tryz.f40.ntmps [(.cell 4 45,tRB),(.tmp 5,I)] [⟨tRB,b⟩,⟨.str,s⟩] k=(
 inK IntKind.i64 ((↑s.length : Int) - (1 : Int))∧(∃ (x : Nat),(x≤s.length∧Lib.lastIdx (ByteArray.mk s.toArray) (32 : Int) x=lastB s (32 : Int))∧(s=s∧([] : List Nat)=[]∧([] : List Nat)=[]∧(↑s.length : Int) - (1 : Int)=(↑x : Int) - (1 : I.D)∧True)∧(((45 : Nat)=(45 : Nat)∧b=b)∧((45 : Nat)=(45 : Nat)∧rb0=rb0)∧True)∧True)∧∀ (x : Nat),x≤s.length∧Lib.lastIdx (ByteArray.mk s.toArray) (32 : Int) x=lastB s (32 : Int)→(decide ((0 : Int)≤(↑x : Int) - (1 : I.D))=true→(0 : Int)≤(↑x : Int) - (1 : I.D)∧(↑x : Int) - (1 : I.D) < (↑s.length : Int)∧((!decide ((↑(s.getD ((↑x : Int) - (1 : I.D)).toNat (0 : UInt8)).toNat : Int)=(32 : Int)))=true→inK IntKind.i64 ((↑x : Int) - (1 : I.D) - (1 : Int))∧∃ (x_1 : Nat),(x_1≤s.length∧Lib.lastIdx (ByteArray.mk s.toArray) (32 : Int) x_1=lastB s (32 : Int))∧x_1 < x∧(s=s∧([] : List Nat)=[]∧([] : List Nat)=[]∧(↑x : Int) - (1 : I.D) - (1 : Int)=(↑x_1 : Int) - (1 : I.D)∧True)∧(((45 : Nat)=(45 : Nat)∧b=b)∧((45 : Nat)=(45 : Nat)∧rb0=rb0)∧True)∧True)∧((!decide ((↑(s.getD ((↑x : Int) - (1 : I.D)).toNat (0 : UInt8)).toNat : Int)=(32 : Int)))=false→(decide ((↑x : Int) - (1 : I.D) < (0 : Int))=true→k [Dat.mk (((I).pr ((tV).sl.sl.pr ((I).sl.pr Ty.un))).pr (Ty.str.pr ((I).pr Ty.un))) b,Dat.mk (I) (2 : Int)])∧(decide ((↑x : Int) - (1 : I.D) < (0 : Int))=false→inK IntKind.i64 ((↑x : Int) - (1 : I.D)+(1 : Int))∧(0 : Int)≤(↑x : Int) - (1 : I.D)+(1 : Int)∧(↑x : Int) - (1 : I.D)+(1 : Int)≤(↑s.length : Int)∧(↑s.length : Int)≤(↑s.length : Int)∧True∧((!numB (List.drop ((↑x : Int) - (1 : I.D)+(1 : Int)).toNat (List.take (↑s.length : Int).toNat s)))=true→k [Dat.mk (((I).pr ((tV).sl.sl.pr ((I).sl.pr Ty.un))).pr (Ty.str.pr ((I).pr Ty.un))) b,Dat.mk (I) (2 : Int)])∧((!numB (List.drop ((↑x : Int) - (1 : I.D)+(1 : Int)).toNat (List.take (↑s.length : Int).toNat s)))=false→(0 : Int)≤(0 : Int)∧(0 : Int)≤(↑x : Int) - (1 : I.D)∧(↑x : Int) - (1 : I.D)≤(↑s.length : Int)∧SumOk (List.drop (Int.toNat (0 : Int)) (List.take ((↑x : Int) - (1 : I.D)).toNat s))∧((!decide (numN (List.drop ((↑x : Int) - (1 : I.D)+(1 : Int)).toNat (List.take (↑s.length : Int).toNat s))=sumF (List.drop (Int.toNat (0 : Int)) (List.take ((↑x : Int) - (1 : I.D)).toNat s))))=true→k [Dat.mk (((I).pr ((tV).sl.sl.pr ((I).sl.pr Ty.un))).pr (Ty.str.pr ((I).pr Ty.un))) b,Dat.mk (I) (6 : Int)])∧((!decide (numN (List.drop ((↑x : Int) - (1 : I.D)+(1 : Int)).toNat (List.take (↑s.length : Int).toNat s))=sumF (List.drop (Int.toNat (0 : Int)) (List.take ((↑x : Int) - (1 : I.D)).toNat s))))=false→(0 : Int)≤(0 : Int)∧(0 : Int)≤(↑x : Int) - (1 : I.D)∧(↑x : Int) - (1 : I.D)≤(↑s.length : Int)∧CutOk (List.drop (Int.toNat (0 : Int)) (List.take ((↑x : Int) - (1 : I.D)).toNat s))∧(∃ (x_1 : Nat),((x_1≤(List.drop (1 : Nat) (wordsL s)).length∧(0 : Int)≤lastB s (32 : Int))∧(List.take x_1 (List.drop (1 : Nat) (wordsL s))).all numB=true∧numB (tailL s)=true∧numN (tailL s)=sumF (headL s))∧(s=s∧([] : List Nat)=[]∧([] : List Nat)=[]∧cutL (List.drop (Int.toNat (0 : Int)) (List.take ((↑x : Int) - (1 : I.D)).toNat s)) (32 : Int)=cutL (List.drop (Int.toNat (0 : Int)) (List.take ((↑x : Int) - (1 : I.D)).toNat s)) (32 : Int)∧True∧(1 : Int)=(↑x_1 : Int)+(1 : I.D)∧True)∧(((45 : Nat)=(45 : Nat)∧b=b)∧((45 : Nat)=(45 : Nat)∧rb0=rb0)∧((3 : Nat)=(3 : Nat)∧[]=List.map numN (List.take x_1 (List.drop (1 : Nat) (wordsL s))))∧True)∧True)∧∀ (x_1 : Nat),(x_1≤(List.drop (1 : Nat) (wordsL s)).length∧(0 : Int)≤lastB s (32 : Int))∧(List.take x_1 (List.drop (1 : Nat) (wordsL s))).all numB=true∧numB (tailL s)=true∧numN (tailL s)=sumF (headL s)→(decide ((↑x_1 : Int)+(1 : I.D) < (↑(cutL (List.drop (Int.toNat (0 : Int)) (List.take ((↑x : Int) - (1 : I.D)).toNat s)) (32 : Int)).length : Int))=true→(0 : Int)≤(↑x_1 : Int)+(1 : I.D)∧(↑x_1 : Int)+(1 : I.D) < (↑(cutL (List.drop (Int.toNat (0 : Int)) (List.take ((↑x : Int) - (1 : I.D)).toNat s)) (32 : Int)).length : Int)∧True∧((!numB ((cutL (List.drop (Int.toNat (0 : Int)) (List.take ((↑x : Int) - (1 : I.D)).toNat s)) (32 : Int)).getD ((↑x_1 : Int)+(1 : I.D)).toNat []))=true→k [Dat.mk (((I).pr ((tV).sl.sl.pr ((I).sl.pr Ty.un))).pr (Ty.str.pr ((I).pr Ty.un))) b,Dat.mk (I) (2 : Int)])∧((!numB ((cutL (List.drop (Int.toNat (0 : Int)) (List.take ((↑x : Int) - (1 : I.D)).toNat s)) (32 : Int)).getD ((↑x_1 : Int)+(1 : I.D)).toNat []))=false→(List.map numN (List.take x_1 (List.drop (1 : Nat) (wordsL s)))).length+((List.replicate (1 : Nat) (0 : Int)).set (0 : Nat) (numN ((cutL (List.drop (Int.toNat (0 : Int)) (List.take ((↑x : Int) - (1 : I.D)).toNat s)) (32 : Int)).getD ((↑x_1 : Int)+(1 : I.D)).toNat []))).length≤(1000000000 : Nat)∧inK IntKind.i64 ((↑x_1 : Int)+(1 : I.D)+(1 : Int))∧∃ (x_2 : Nat),((x_2≤(List.drop (1 : Nat) (wordsL s)).length∧(0 : Int)≤lastB s (32 : Int))∧(List.take x_2 (List.drop (1 : Nat) (wordsL s))).all numB=true∧numB (tailL s)=true∧numN (tailL s)=sumF (headL s))∧(List.drop (1 : Nat) (wordsL s)).length - x_2 < (List.drop (1 : Nat) (wordsL s)).length - x_1∧(s=s∧([] : List Nat)=[]∧([] : List Nat)=[]∧cutL (List.drop (Int.toNat (0 : Int)) (List.take ((↑x : Int) - (1 : I.D)).toNat s)) (32 : Int)=cutL (List.drop (Int.toNat (0 : Int)) (List.take ((↑x : Int) - (1 : I.D)).toNat s)) (32 : Int)∧True∧(↑x_1 : Int)+(1 : I.D)+(1 : Int)=(↑x_2 : Int)+(1 : I.D)∧True)∧(((45 : Nat)=(45 : Nat)∧b=b)∧((45 : Nat)=(45 : Nat)∧rb0=rb0)∧((3 : Nat)=(3 : Nat)∧(List.map numN (List.take x_1 (List.drop (1 : Nat) (wordsL s)))).append ((List.replicate (1 : Nat) (0 : Int)).set (0 : Nat) (numN ((cutL (List.drop (Int.toNat (0 : Int)) (List.take ((↑x : Int) - (1 : I.D)).toNat s)) (32 : Int)).getD ((↑x_1 : Int)+(1 : I.D)).toNat [])))=List.map numN (List.take x_2 (List.drop (1 : Nat) (wordsL s))))∧True)∧True))∧(decide ((↑x_1 : Int)+(1 : I.D) < (↑(cutL (List.drop (Int.toNat (0 : Int)) (List.take ((↑x : Int) - (1 : I.D)).toNat s)) (32 : Int)).length : Int))=false→(0 : Int)≤(0 : Int)∧(0 : Int) < (↑(cutL (List.drop (Int.toNat (0 : Int)) (List.take ((↑x : Int) - (1 : I.D)).toNat s)) (32 : Int)).length : Int)∧(((cutL (List.drop (Int.toNat (0 : Int)) (List.take ((↑x : Int) - (1 : I.D)).toNat s)) (32 : Int)).getD (Int.toNat (0 : Int)) []==[(119 : UInt8)])=true→(decide ((↑(List.map numN (List.take x_1 (List.drop (1 : Nat) (wordsL s)))).length : Int)=(3 : Int))=true→PutOk b (List.map numN (List.take x_1 (List.drop (1 : Nat) (wordsL s))))∧k [Dat.mk (((I).pr ((tV).sl.sl.pr ((I).sl.pr Ty.un))).pr (Ty.str.pr ((I).pr Ty.un))) (rPT b (List.map numN (List.take x_1 (List.drop (1 : Nat) (wordsL s))))),Dat.mk (I) (rPE b (List.map numN (List.take x_1 (List.drop (1 : Nat) (wordsL s)))))])∧(decide ((↑(List.map numN (List.take x_1 (List.drop (1 : Nat) (wordsL s)))).length : Int)=(3 : Int))=false→(0 : Int)≤(0 : Int)∧(0 : Int) < (↑(cutL (List.drop (Int.toNat (0 : Int)) (List.take ((↑x : Int) - (1 : I.D)).toNat s)) (32 : Int)).length : Int)∧(((cutL (List.drop (Int.toNat (0 : Int)) (List.take ((↑x : Int) - (1 : I.D)).toNat s)) (32 : Int)).getD (Int.toNat (0 : Int)) []==[(115 : UInt8)])=true→(decide ((↑(List.map numN (List.take x_1 (List.drop (1 : Nat) (wordsL s)))).length : Int)=(2 : Int))=true→PutOk b (List.map numN (List.take x_1 (List.drop (1 : Nat) (wordsL s))))∧k [Dat.mk (((I).pr ((tV).sl.sl.pr ((I).sl.pr Ty.un))).pr (Ty.str.pr ((I).pr Ty.un))) (rPT b (List.map numN (List.take x_1 (List.drop (1 : Nat) (wordsL s))))),Dat.mk (I) (rPE b (List.map numN (List.take x_1 (List.drop (1 : Nat) (wordsL s)))))])∧(decide ((↑(List.map numN (List.take x_1 (List.drop (1 : Nat) (wordsL s)))).length : Int)=(2 : Int))=false→k [Dat.mk (((I).pr ((tV).sl.sl.pr ((I).sl.pr Ty.un))).pr (Ty.str.pr ((I).pr Ty.un))) b,Dat.mk (I) (2 : Int)]))∧(((cutL (List.drop (Int.toNat (0 : Int)) (List.take ((↑x : Int) - (1 : I.D)).toNat s)) (32 : Int)).getD (Int.toNat (0 : Int)) []==[(115 : UInt8)])=false→k [Dat.mk (((I).pr ((tV).sl.sl.pr ((I).sl.pr Ty.un))).pr (Ty.str.pr ((I).pr Ty.un))) b,Dat.mk (I) (2 : Int)])))∧(((cutL (List.drop (Int.toNat (0 : Int)) (List.take ((↑x : Int) - (1 : I.D)).toNat s)) (32 : Int)).getD (Int.toNat (0 : Int)) []==[(119 : UInt8)])=false→(0 : Int)≤(0 : Int)∧(0 : Int) < (↑(cutL (List.drop (Int.toNat (0 : Int)) (List.take ((↑x : Int) - (1 : I.D)).toNat s)) (32 : Int)).length : Int)∧(((cutL (List.drop (Int.toNat (0 : Int)) (List.take ((↑x : Int) - (1 : I.D)).toNat s)) (32 : Int)).getD (Int.toNat (0 : Int)) []==[(115 : UInt8)])=true→(decide ((↑(List.map numN (List.take x_1 (List.drop (1 : Nat) (wordsL s)))).length : Int)=(2 : Int))=true→PutOk b (List.map numN (List.take x_1 (List.drop (1 : Nat) (wordsL s))))∧k [Dat.mk (((I).pr ((tV).sl.sl.pr ((I).sl.pr Ty.un))).pr (Ty.str.pr ((I).pr Ty.un))) (rPT b (List.map numN (List.take x_1 (List.drop (1 : Nat) (wordsL s))))),Dat.mk (I) (rPE b (List.map numN (List.take x_1 (List.drop (1 : Nat) (wordsL s)))))])∧(decide ((↑(List.map numN (List.take x_1 (List.drop (1 : Nat) (wordsL s)))).length : Int)=(2 : Int))=false→k [Dat.mk (((I).pr ((tV).sl.sl.pr ((I).sl.pr Ty.un))).pr (Ty.str.pr ((I).pr Ty.un))) b,Dat.mk (I) (2 : Int)]))∧(((cutL (List.drop (Int.toNat (0 : Int)) (List.take ((↑x : Int) - (1 : I.D)).toNat s)) (32 : Int)).getD (Int.toNat (0 : Int)) []==[(115 : UInt8)])=false→k [Dat.mk (((I).pr ((tV).sl.sl.pr ((I).sl.pr Ty.un))).pr (Ty.str.pr ((I).pr Ty.un))) b,Dat.mk (I) (2 : Int)]))))))))∧(decide ((0 : Int)≤(↑x : Int) - (1 : I.D))=false→(decide ((↑x : Int) - (1 : I.D) < (0 : Int))=true→k [Dat.mk (((I).pr ((tV).sl.sl.pr ((I).sl.pr Ty.un))).pr (Ty.str.pr ((I).pr Ty.un))) b,Dat.mk (I) (2 : Int)])∧(decide ((↑x : Int) - (1 : I.D) < (0 : Int))=false→inK IntKind.i64 ((↑x : Int) - (1 : I.D)+(1 : Int))∧(0 : Int)≤(↑x : Int) - (1 : I.D)+(1 : Int)∧(↑x : Int) - (1 : I.D)+(1 : Int)≤(↑s.length : Int)∧(↑s.length : Int)≤(↑s.length : Int)∧True∧((!numB (List.drop ((↑x : Int) - (1 : I.D)+(1 : Int)).toNat (List.take (↑s.length : Int).toNat s)))=true→k [Dat.mk (((I).pr ((tV).sl.sl.pr ((I).sl.pr Ty.un))).pr (Ty.str.pr ((I).pr Ty.un))) b,Dat.mk (I) (2 : Int)])∧((!numB (List.drop ((↑x : Int) - (1 : I.D)+(1 : Int)).toNat (List.take (↑s.length : Int).toNat s)))=false→(0 : Int)≤(0 : Int)∧(0 : Int)≤(↑x : Int) - (1 : I.D)∧(↑x : Int) - (1 : I.D)≤(↑s.length : Int)∧SumOk (List.drop (Int.toNat (0 : Int)) (List.take ((↑x : Int) - (1 : I.D)).toNat s))∧((!decide (numN (List.drop ((↑x : Int) - (1 : I.D)+(1 : Int)).toNat (List.take (↑s.length : Int).toNat s))=sumF (List.drop (Int.toNat (0 : Int)) (List.take ((↑x : Int) - (1 : I.D)).toNat s))))=true→k [Dat.mk (((I).pr ((tV).sl.sl.pr ((I).sl.pr Ty.un))).pr (Ty.str.pr ((I).pr Ty.un))) b,Dat.mk (I) (6 : Int)])∧((!decide (numN (List.drop ((↑x : Int) - (1 : I.D)+(1 : Int)).toNat (List.take (↑s.length : Int).toNat s))=sumF (List.drop (Int.toNat (0 : Int)) (List.take ((↑x : Int) - (1 : I.D)).toNat s))))=false→(0 : Int)≤(0 : Int)∧(0 : Int)≤(↑x : Int) - (1 : I.D)∧(↑x : Int) - (1 : I.D)≤(↑s.length : Int)∧CutOk (List.drop (Int.toNat (0 : Int)) (List.take ((↑x : Int) - (1 : I.D)).toNat s))∧(∃ (x_1 : Nat),((x_1≤(List.drop (1 : Nat) (wordsL s)).length∧(0 : Int)≤lastB s (32 : Int))∧(List.take x_1 (List.drop (1 : Nat) (wordsL s))).all numB=true∧numB (tailL s)=true∧numN (tailL s)=sumF (headL s))∧(s=s∧([] : List Nat)=[]∧([] : List Nat)=[]∧cutL (List.drop (Int.toNat (0 : Int)) (List.take ((↑x : Int) - (1 : I.D)).toNat s)) (32 : Int)=cutL (List.drop (Int.toNat (0 : Int)) (List.take ((↑x : Int) - (1 : I.D)).toNat s)) (32 : Int)∧True∧(1 : Int)=(↑x_1 : Int)+(1 : I.D)∧True)∧(((45 : Nat)=(45 : Nat)∧b=b)∧((45 : Nat)=(45 : Nat)∧rb0=rb0)∧((3 : Nat)=(3 : Nat)∧[]=List.map numN (List.take x_1 (List.drop (1 : Nat) (wordsL s))))∧True)∧True)∧∀ (x_1 : Nat),(x_1≤(List.drop (1 : Nat) (wordsL s)).length∧(0 : Int)≤lastB s (32 : Int))∧(List.take x_1 (List.drop (1 : Nat) (wordsL s))).all numB=true∧numB (tailL s)=true∧numN (tailL s)=sumF (headL s)→(decide ((↑x_1 : Int)+(1 : I.D) < (↑(cutL (List.drop (Int.toNat (0 : Int)) (List.take ((↑x : Int) - (1 : I.D)).toNat s)) (32 : Int)).length : Int))=true→(0 : Int)≤(↑x_1 : Int)+(1 : I.D)∧(↑x_1 : Int)+(1 : I.D) < (↑(cutL (List.drop (Int.toNat (0 : Int)) (List.take ((↑x : Int) - (1 : I.D)).toNat s)) (32 : Int)).length : Int)∧True∧((!numB ((cutL (List.drop (Int.toNat (0 : Int)) (List.take ((↑x : Int) - (1 : I.D)).toNat s)) (32 : Int)).getD ((↑x_1 : Int)+(1 : I.D)).toNat []))=true→k [Dat.mk (((I).pr ((tV).sl.sl.pr ((I).sl.pr Ty.un))).pr (Ty.str.pr ((I).pr Ty.un))) b,Dat.mk (I) (2 : Int)])∧((!numB ((cutL (List.drop (Int.toNat (0 : Int)) (List.take ((↑x : Int) - (1 : I.D)).toNat s)) (32 : Int)).getD ((↑x_1 : Int)+(1 : I.D)).toNat []))=false→(List.map numN (List.take x_1 (List.drop (1 : Nat) (wordsL s)))).length+((List.replicate (1 : Nat) (0 : Int)).set (0 : Nat) (numN ((cutL (List.drop (Int.toNat (0 : Int)) (List.take ((↑x : Int) - (1 : I.D)).toNat s)) (32 : Int)).getD ((↑x_1 : Int)+(1 : I.D)).toNat []))).length≤(1000000000 : Nat)∧inK IntKind.i64 ((↑x_1 : Int)+(1 : I.D)+(1 : Int))∧∃ (x_2 : Nat),((x_2≤(List.drop (1 : Nat) (wordsL s)).length∧(0 : Int)≤lastB s (32 : Int))∧(List.take x_2 (List.drop (1 : Nat) (wordsL s))).all numB=true∧numB (tailL s)=true∧numN (tailL s)=sumF (headL s))∧(List.drop (1 : Nat) (wordsL s)).length - x_2 < (List.drop (1 : Nat) (wordsL s)).length - x_1∧(s=s∧([] : List Nat)=[]∧([] : List Nat)=[]∧cutL (List.drop (Int.toNat (0 : Int)) (List.take ((↑x : Int) - (1 : I.D)).toNat s)) (32 : Int)=cutL (List.drop (Int.toNat (0 : Int)) (List.take ((↑x : Int) - (1 : I.D)).toNat s)) (32 : Int)∧True∧(↑x_1 : Int)+(1 : I.D)+(1 : Int)=(↑x_2 : Int)+(1 : I.D)∧True)∧(((45 : Nat)=(45 : Nat)∧b=b)∧((45 : Nat)=(45 : Nat)∧rb0=rb0)∧((3 : Nat)=(3 : Nat)∧(List.map numN (List.take x_1 (List.drop (1 : Nat) (wordsL s)))).append ((List.replicate (1 : Nat) (0 : Int)).set (0 : Nat) (numN ((cutL (List.drop (Int.toNat (0 : Int)) (List.take ((↑x : Int) - (1 : I.D)).toNat s)) (32 : Int)).getD ((↑x_1 : Int)+(1 : I.D)).toNat [])))=List.map numN (List.take x_2 (List.drop (1 : Nat) (wordsL s))))∧True)∧True))∧(decide ((↑x_1 : Int)+(1 : I.D) < (↑(cutL (List.drop (Int.toNat (0 : Int)) (List.take ((↑x : Int) - (1 : I.D)).toNat s)) (32 : Int)).length : Int))=false→(0 : Int)≤(0 : Int)∧(0 : Int) < (↑(cutL (List.drop (Int.toNat (0 : Int)) (List.take ((↑x : Int) - (1 : I.D)).toNat s)) (32 : Int)).length : Int)∧(((cutL (List.drop (Int.toNat (0 : Int)) (List.take ((↑x : Int) - (1 : I.D)).toNat s)) (32 : Int)).getD (Int.toNat (0 : Int)) []==[(119 : UInt8)])=true→(decide ((↑(List.map numN (List.take x_1 (List.drop (1 : Nat) (wordsL s)))).length : Int)=(3 : Int))=true→PutOk b (List.map numN (List.take x_1 (List.drop (1 : Nat) (wordsL s))))∧k [Dat.mk (((I).pr ((tV).sl.sl.pr ((I).sl.pr Ty.un))).pr (Ty.str.pr ((I).pr Ty.un))) (rPT b (List.map numN (List.take x_1 (List.drop (1 : Nat) (wordsL s))))),Dat.mk (I) (rPE b (List.map numN (List.take x_1 (List.drop (1 : Nat) (wordsL s)))))])∧(decide ((↑(List.map numN (List.take x_1 (List.drop (1 : Nat) (wordsL s)))).length : Int)=(3 : Int))=false→(0 : Int)≤(0 : Int)∧(0 : Int) < (↑(cutL (List.drop (Int.toNat (0 : Int)) (List.take ((↑x : Int) - (1 : I.D)).toNat s)) (32 : Int)).length : Int)∧(((cutL (List.drop (Int.toNat (0 : Int)) (List.take ((↑x : Int) - (1 : I.D)).toNat s)) (32 : Int)).getD (Int.toNat (0 : Int)) []==[(115 : UInt8)])=true→(decide ((↑(List.map numN (List.take x_1 (List.drop (1 : Nat) (wordsL s)))).length : Int)=(2 : Int))=true→PutOk b (List.map numN (List.take x_1 (List.drop (1 : Nat) (wordsL s))))∧k [Dat.mk (((I).pr ((tV).sl.sl.pr ((I).sl.pr Ty.un))).pr (Ty.str.pr ((I).pr Ty.un))) (rPT b (List.map numN (List.take x_1 (List.drop (1 : Nat) (wordsL s))))),Dat.mk (I) (rPE b (List.map numN (List.take x_1 (List.drop (1 : Nat) (wordsL s)))))])∧(decide ((↑(List.map numN (List.take x_1 (List.drop (1 : Nat) (wordsL s)))).length : Int)=(2 : Int))=false→k [Dat.mk (((I).pr ((tV).sl.sl.pr ((I).sl.pr Ty.un))).pr (Ty.str.pr ((I).pr Ty.un))) b,Dat.mk (I) (2 : Int)]))∧(((cutL (List.drop (Int.toNat (0 : Int)) (List.take ((↑x : Int) - (1 : I.D)).toNat s)) (32 : Int)).getD (Int.toNat (0 : Int)) []==[(115 : UInt8)])=false→k [Dat.mk (((I).pr ((tV).sl.sl.pr ((I).sl.pr Ty.un))).pr (Ty.str.pr ((I).pr Ty.un))) b,Dat.mk (I) (2 : Int)])))∧(((cutL (List.drop (Int.toNat (0 : Int)) (List.take ((↑x : Int) - (1 : I.D)).toNat s)) (32 : Int)).getD (Int.toNat (0 : Int)) []==[(119 : UInt8)])=false→(0 : Int)≤(0 : Int)∧(0 : Int) < (↑(cutL (List.drop (Int.toNat (0 : Int)) (List.take ((↑x : Int) - (1 : I.D)).toNat s)) (32 : Int)).length : Int)∧(((cutL (List.drop (Int.toNat (0 : Int)) (List.take ((↑x : Int) - (1 : I.D)).toNat s)) (32 : Int)).getD (Int.toNat (0 : Int)) []==[(115 : UInt8)])=true→(decide ((↑(List.map numN (List.take x_1 (List.drop (1 : Nat) (wordsL s)))).length : Int)=(2 : Int))=true→PutOk b (List.map numN (List.take x_1 (List.drop (1 : Nat) (wordsL s))))∧k [Dat.mk (((I).pr ((tV).sl.sl.pr ((I).sl.pr Ty.un))).pr (Ty.str.pr ((I).pr Ty.un))) (rPT b (List.map numN (List.take x_1 (List.drop (1 : Nat) (wordsL s))))),Dat.mk (I) (rPE b (List.map numN (List.take x_1 (List.drop (1 : Nat) (wordsL s)))))])∧(decide ((↑(List.map numN (List.take x_1 (List.drop (1 : Nat) (wordsL s)))).length : Int)=(2 : Int))=false→k [Dat.mk (((I).pr ((tV).sl.sl.pr ((I).sl.pr Ty.un))).pr (Ty.str.pr ((I).pr Ty.un))) b,Dat.mk (I) (2 : Int)]))∧(((cutL (List.drop (Int.toNat (0 : Int)) (List.take ((↑x : Int) - (1 : I.D)).toNat s)) (32 : Int)).getD (Int.toNat (0 : Int)) []==[(115 : UInt8)])=false→k [Dat.mk (((I).pr ((tV).sl.sl.pr ((I).sl.pr Ty.un))).pr (Ty.str.pr ((I).pr Ty.un))) b,Dat.mk (I) (2 : Int)])))))))):=by kernel_rfl
open Go.Vc Go.Proofs Go.RowKit
theorem lastIdx_succ (s : List UInt8) (c : Int) (j : Nat) : Lib.lastIdx ⟨s.toArray⟩ c (j+1)=if ((s.getD j 0).toNat : Int)=c then (j : Int) else Lib.lastIdx ⟨s.toArray⟩ c j:=by
 have e : (s.toArray)[j]! = s.getD j 0:=by
  rw [List.getD_eq_getElem?_getD]
  simp [getElem!_def]
  cases s[j]? <;> rfl
 show (if (((s.toArray)[j]!).toNat : Int)=c then (j : Int) else Lib.lastIdx ⟨s.toArray⟩ c j)=_
 rw [e]
theorem lastB_bound (s : List UInt8) (c : Int) : -1≤lastB s c∧lastB s c < (s.length : Int):=by
 have:=lastIdx_k ⟨s.toArray⟩ c s.length
 unfold lastB Lib.lastIndexByte
 rw [bsz]; exact this
theorem cutG_ne (s : List UInt8) (c : Int) : 1≤(cutL s c).length:=by
 unfold cutL
 show 1≤(if cutAt s c s.length=true then cutG s c s.length++[(s.take s.length).drop (cutFm s c s.length)] else cutG s c s.length).length
 have : cutAt s c s.length=true:=by unfold cutAt; rw [decide_eq_true rfl]; rfl
 rw [if_pos this,List.length_append,List.length_singleton]
 omega
open Go.Vc Go.Proofs Go.RowKit
def hdCons (b : UInt8) : List (List UInt8)→List (List UInt8)
 | []=>[[b]]
 | p::q=>(b::p)::q
def splL (c : UInt8) : List UInt8→List (List UInt8)
 | []=>[[]]
 | b::r=>if b=c then []::splL c r else hdCons b (splL c r)
theorem splL_ne (c : UInt8) : ∀ s,∃ p q,splL c s=p::q
 | []=>⟨[],[],rfl⟩
 | b::r=>by
  obtain ⟨p,q,h⟩:=splL_ne c r
  unfold splL
  split
  ·exact ⟨_,_,rfl⟩
  ·rw [h]; exact ⟨_,_,rfl⟩
theorem splL_le (c : UInt8) : ∀ s,∀ x∈splL c s,x.length≤s.length
 | [],x,h=>by
  have : x=[]:=List.mem_singleton.1 h
  subst this; exact Nat.le_refl _
 | b::r,x,h=>by
  have ih:=splL_le c r
  obtain ⟨p,q,e⟩:=splL_ne c r
  unfold splL at h
  split at h
  ·rcases List.mem_cons.1 h with h | h
   ·subst h; exact Nat.zero_le _
   ·exact Nat.le_succ_of_le (ih x h)
  ·rw [e] at h ih
   rcases List.mem_cons.1 h with h | h
   ·subst h; exact Nat.succ_le_succ (ih p (List.mem_cons_self ..))
   ·exact Nat.le_succ_of_le (ih x (List.mem_cons_of_mem _ h))
theorem splL_no (c : UInt8) : ∀ s,∀ x∈splL c s,c∉x
 | [],x,h=>by
  have : x=[]:=List.mem_singleton.1 h
  subst this; simp
 | b::r,x,h=>by
  have ih:=splL_no c r
  obtain ⟨p,q,e⟩:=splL_ne c r
  unfold splL at h
  split at h
  ·rcases List.mem_cons.1 h with h | h
   ·subst h; simp
   ·exact ih x h
  ·rename_i hb
   rw [e] at h ih
   rcases List.mem_cons.1 h with h | h
   ·subst h
    intro hc
    rcases List.mem_cons.1 hc with hc | hc
    ·exact hb hc.symm
    ·exact ih p (List.mem_cons_self ..) hc
   ·exact ih x (List.mem_cons_of_mem _ h)
theorem splL_snoc (c b : UInt8) : ∀ l,(b=c→splL c (l++[b])=splL c l++[[]])∧(b≠c→∀ x p,splL c l=x++[p]→splL c (l++[b])=x++[p++[b]])
 | []=>by
  refine ⟨fun h=>by simp [splL,h],fun h x p e => ?_⟩
  have e : [[]]=x++[p]:=e
  cases x with
  | nil=>injection e with e; subst e; simp [splL,h,hdCons]
  | cons y x=>injection e with _ e; cases x<;>cases e
 | a::l=>by
  obtain ⟨ih1,ih2⟩:=splL_snoc c b l
  obtain ⟨p0,q0,h0⟩:=splL_ne c l
  refine ⟨fun h => ?_,fun h x p e => ?_⟩
  ·rw [List.cons_append]
   unfold splL
   rw [ih1 h]
   split
   ·rfl
   ·rw [h0]; rfl
  ·rw [List.cons_append]
   unfold splL at e ⊢
   split
   ·rename_i ha
    rw [if_pos ha] at e
    cases x with
    | nil=>injection e with _ e; rw [h0] at e; cases e
    | cons y x =>
     injection e with e1 e2
     rw [ih2 h x p e2,← e1]; rfl
   ·rename_i ha
    rw [if_neg ha] at e
    obtain ⟨x',p',hx⟩ : ∃ x' p',splL c l=x'++[p']:=⟨(splL c l).dropLast,(splL c l).getLast (by rw [h0]; simp),(List.dropLast_concat_getLast _).symm⟩
    ·rw [ih2 h x' p' hx]
     rw [hx] at e
     cases x' with
     | nil =>
      have e : [a::p']=x++[p]:=e
      cases x with
      | nil=>injection e with e; subst e; rfl
      | cons y x=>injection e with _ e; cases x<;>cases e
     | cons y x' =>
      have e : (a::y)::(x'++[p'])=x++[p]:=e
      cases x with
      | nil=>injection e with _ e; cases x'<;>cases e
      | cons z x =>
       injection e with e1 e2
       obtain ⟨e3,e4⟩:=List.append_inj' e2 rfl
       injection e4 with e4
       subst e1; subst e3; subst e4; rfl
theorem cut_spl (s : List UInt8) (c : UInt8) : cutL s (c.toNat : Int)=splL c s:=by
 have h : ∀ i,i≤s.length→cutG s (c.toNat : Int) i++[(s.take i).drop (cutFm s (c.toNat : Int) i)]=splL c (s.take i):=by
  intro i
  induction i with
  | zero=>intro _; rfl
  | succ i ih =>
   intro hi
   have ih:=ih (by omega)
   have hfm:=cutFm_le s (c.toNat : Int) i
   have et : s.take (i+1)=s.take i++[s[i]]:=List.take_succ_eq_append_getElem (by omega)
   have eg : s.getD i 0=s[i]:=by rw [List.getD_eq_getElem?_getD,List.getElem?_eq_getElem (by omega)]; rfl
   have hlen : (s.take i).length=i:=by rw [List.length_take]; omega
   obtain ⟨h1,h2⟩:=splL_snoc c s[i] (s.take i)
   by_cases hb : s[i]=c
   ·have hat : cutAt s (c.toNat : Int) i=true:=by unfold cutAt; rw [eg,hb,decide_eq_true rfl,Bool.or_true]
    rw [et,h1 hb,← ih]
    simp only [cutG,cutFm,hat,if_true]
    have ed : List.drop (i+1) (s.take i++[s[i]])=[]:=List.drop_of_length_le (by rw [List.length_append,hlen]; simp)
    rw [ed]
   ·have hat : ¬ cutAt s (c.toNat : Int) i=true:=by
     unfold cutAt
     rw [eg,decide_eq_false (by omega : ¬ i=s.length),Bool.false_or,decide_eq_true_eq]
     intro h; apply hb; apply UInt8.toNat_inj.1; omega
    rw [et,h2 hb _ _ ih.symm]
    simp only [cutG,cutFm,hat]
    rw [if_neg (by decide),if_neg (by decide),List.drop_append_of_le_length (by omega)]
 have:=h s.length (Nat.le_refl _)
 rw [List.take_length] at this
 rw [← this]
 unfold cutL
 show (if cutAt s (c.toNat : Int) s.length=true then cutG s _ s.length++[(s.take s.length).drop (cutFm s _ s.length)] else cutG s _ s.length)=_
 have hat : cutAt s (c.toNat : Int) s.length=true:=by unfold cutAt; rw [decide_eq_true rfl]; rfl
 rw [if_pos hat,List.take_length]
theorem idxB (c : UInt8) : ∀ s : List UInt8,(Lib.indexByte s c = -1∧splL c s=[s]∧s.count c=0)∨∃ i : Nat,Lib.indexByte s c=(i : Int)∧i < s.length∧splL c s=s.take i::splL c (s.drop (i+1))∧s.getD i 0=c∧s.count c=(s.drop (i+1)).count c+1
 | [] => .inl ⟨rfl,rfl,rfl⟩
 | b::r=>by
  by_cases hb : b=c
  ·subst hb
   refine .inr ⟨0,?_,by simp,?_,rfl,?_⟩
   ·simp [Lib.indexByte]
   ·simp [splL]
   ·simp
  ·have hbb : (b==c)=false:=by simpa using hb
   have hcn : (b::r).count c=r.count c:=List.count_cons_of_ne hb
   rcases idxB c r with ⟨h1,h2,h3⟩ | ⟨i,h1,h2,h3,h4,h5⟩
   ·left
    refine ⟨by simp [Lib.indexByte,hbb,h1],?_,by rw [hcn,h3]⟩
    rw [show splL c (b::r)=hdCons b (splL c r) from if_neg hb,h2]; rfl
   ·right
    refine ⟨i+1,?_,by simp; omega,?_,by simpa using h4,by rw [hcn,h5]; rfl⟩
    ·have hne : (Lib.indexByte r c == -1)=false:=by rw [h1,beq_eq_false_iff_ne]; omega
     show (if (b==c)=true then (0 : Int) else if (Lib.indexByte r c == -1)=true then -1 else Lib.indexByte r c+1)=_
     rw [hbb,hne,h1]; rfl
    ·rw [show splL c (b::r)=hdCons b (splL c r) from if_neg hb,h3]; rfl
theorem splitK_one (c : UInt8) : ∀ (n : Nat) (s : List UInt8),s.length≤n→Lib.splitK [c] 0 (s.count c) s=splL c s:=by
 intro n
 induction n with
 | zero =>
  intro s h
  have : s=[]:=List.eq_nil_of_length_eq_zero (by omega)
  subst this; rfl
 | succ n ih =>
  intro s h
  rcases idxB c s with ⟨h1,h2,h3⟩ | ⟨i,h1,h2,h3,_,h5⟩
  ·rw [h3,h2]; rfl
  ·rw [h5,h3]
   have hm : ¬ (Lib.index s [c] == -1)=true:=fun e=>by have:=beq_iff_eq.1 e; rw [Lib.index_one,h1] at this; omega
   show (if (Lib.index s [c] == -1)=true then _ else _)=_
   rw [if_neg hm,Lib.index_one,h1,Int.toNat_natCast]
   congr 1
   exact ih (s.drop (i+1)) (by rw [List.length_drop]; omega)
theorem split_spl (c : UInt8) (s : ByteArray) : (Lib.splitB ⟨#[c]⟩ 0 (Lib.countB s ⟨#[c]⟩) s).map (·.data.toList)=splL c s.data.toList:=by
 rw [Lib.splitB_data]
 show Lib.splitK [c] 0 (Lib.count s.data.toList [c]) s.data.toList=_
 rw [Lib.count_one]
 exact splitK_one c _ _ (Nat.le_refl _)
def linesK : Nat→List UInt8→List (List UInt8×List UInt8)
 | 0,_=>[]
 | k+1,s=>if s=[] then [] else if Lib.indexByte s 10 < 0 then [(s,[])] else (s.take ((Lib.indexByte s 10).toNat+1),s.drop ((Lib.indexByte s 10).toNat+1))::linesK k (s.drop ((Lib.indexByte s 10).toNat+1))
def linesF (s : List UInt8) : List (List UInt8×List UInt8):=linesK s.length s
theorem linesK_eq : ∀ (k j : Nat) (s : List UInt8),s.length≤k→s.length≤j→linesK k s=linesK j s
 | 0,0,s,_,_=>rfl
 | 0,j+1,s,h,_=>by
  have : s=[]:=List.eq_nil_of_length_eq_zero (by omega)
  subst this; rfl
 | k+1,0,s,_,h=>by
  have : s=[]:=List.eq_nil_of_length_eq_zero (by omega)
  subst this; rfl
 | k+1,j+1,s,h1,h2=>by
  unfold linesK
  split
  ·rfl
  ·rename_i hs
   have hp : 0 < s.length:=List.length_pos_iff.2 hs
   split
   ·rfl
   ·rw [linesK_eq k j _ (by rw [List.length_drop]; omega) (by rw [List.length_drop]; omega)]
theorem linesF_nil : linesF []=[]:=rfl
theorem linesF_last {s : List UInt8} (hs : s≠[]) (h : Lib.indexByte s 10 < 0) : linesF s=[(s,[])]:=by
 cases s with
 | nil=>exact absurd rfl hs
 | cons b r =>
  show linesK (r.length+1) (b::r)=_
  unfold linesK
  rw [if_neg hs,if_pos h]
theorem linesF_line {s : List UInt8} {i : Nat} (h : Lib.indexByte s 10=(i : Int)) : linesF s=(s.take (i+1),s.drop (i+1))::linesF (s.drop (i+1)):=by
 cases s with
 | nil=>have h : (-1 : Int)=i:=h; omega
 | cons b r =>
  show linesK (r.length+1) (b::r)=_
  unfold linesK
  rw [if_neg (by simp),if_neg (by omega),h,Int.toNat_natCast]
  congr 1
  exact linesK_eq _ _ _ (by rw [List.length_drop,List.length_cons]; omega) (Nat.le_refl _)
theorem idx10 (s : List UInt8) : (Lib.indexByte s 10 < 0∧splL 10 s=[s])∨∃ i : Nat,Lib.indexByte s 10=(i : Int)∧i < s.length∧splL 10 s=s.take i::splL 10 (s.drop (i+1))∧s.getD i 0=10:=by
 rcases idxB 10 s with ⟨h1,h2,_⟩ | ⟨i,h1,h2,h3,h4,_⟩
 ·exact .inl ⟨by omega,h2⟩
 ·exact .inr ⟨i,h1,h2,h3,h4⟩
theorem lines_spl (s : List UInt8) : ∃ x p,splL 10 s=x++[p]∧(linesF s).map (·.1)=x.map (· ++ [10])++(if p=[] then [] else [p]):=by
 obtain ⟨n,hn⟩ : ∃ n,s.length≤n:=⟨_,Nat.le_refl _⟩
 induction n generalizing s with
 | zero =>
  have : s=[]:=List.eq_nil_of_length_eq_zero (by omega)
  subst this
  exact ⟨[],[],rfl,rfl⟩
 | succ n ih =>
  rcases idx10 s with ⟨h1,h2⟩ | ⟨i,h1,h2,h3,h4⟩
  ·refine ⟨[],s,h2,?_⟩
   by_cases hs : s=[]
   ·subst hs; rfl
   ·rw [linesF_last hs h1,if_neg hs]; rfl
  ·obtain ⟨x,p,e1,e2⟩:=ih (s.drop (i+1)) (by rw [List.length_drop]; omega)
   refine ⟨s.take i::x,p,by rw [h3,e1]; rfl,?_⟩
   rw [linesF_line h1,List.map_cons,e2,List.map_cons,List.cons_append]
   congr 1
   have eg : s.getD i 0=s[i]:=by rw [List.getD_eq_getElem?_getD,List.getElem?_eq_getElem h2]; rfl
   rw [List.take_succ_eq_append_getElem h2,← eg,h4]
theorem lines_le : ∀ (n : Nat) (s : List UInt8),s.length≤n→∀ p∈linesF s,p.1.length≤s.length∧p.2.length≤s.length
 | 0,s,h,p,hp=>by
  have : s=[]:=List.eq_nil_of_length_eq_zero (by omega)
  subst this; cases hp
 | n+1,s,h,p,hp=>by
  rcases idx10 s with ⟨h1,_⟩ | ⟨i,h1,h2,_,_⟩
  ·by_cases hs : s=[]
   ·subst hs; cases hp
   ·rw [linesF_last hs h1] at hp
    rw [List.mem_singleton] at hp
    subst hp; exact ⟨Nat.le_refl _,Nat.zero_le _⟩
  ·rw [linesF_line h1] at hp
   rcases List.mem_cons.1 hp with hp | hp
   ·subst hp
    simp only [List.length_take,List.length_drop]
    omega
   ·have:=lines_le n (s.drop (i+1)) (by rw [List.length_drop]; omega) p hp
    simp only [List.length_drop] at this
    omega
open Go.Vc Go.Proofs Go.RowKit
theorem wr64_mod (n : Int) : wr64 n=(n+9223372036854775808)%18446744073709551616 - 9223372036854775808:=rfl
theorem dgt {m : Nat} (h : m < 10) : (UInt8.ofNat (48+m)).toNat=48+m:=by
 rw [UInt8.toNat_ofNat']; omega
theorem numW_append (l r : List UInt8) : ∀ i,i≤l.length→numW (l++r) i=numW l i
 | 0,_=>rfl
 | i+1,h=>by
  have e : (l++r).getD i 0=l.getD i 0:=by
   rw [List.getD_eq_getElem?_getD,List.getD_eq_getElem?_getD,List.getElem?_append_left (by omega)]
  simp only [numW,numW_append l r i (by omega),e]
theorem dec_rec (m : Nat) (h : ¬ m < 10) : Lib.decDigits m=Lib.decDigits (m/10)++[UInt8.ofNat (48+m%10)]:=by
 rw [Lib.decDigits,dif_neg h]
theorem numW_dec (m : Nat) (hm : m < 9223372036854775808) : numW (Lib.decDigits m) (Lib.decDigits m).length=(m : Int):=by
 induction m using Nat.strongRecOn with
 | _ m ih =>
  by_cases h : m < 10
  ·rw [Lib.decDigits_one h]
   simp only [List.length_singleton,numW,List.getD_cons_zero,dgt h,wr64_mod]
   omega
  ·rw [dec_rec m h,List.length_append,List.length_singleton]
   have ih:=ih (m/10) (by omega) (by omega)
   have e : (Lib.decDigits (m/10)++[UInt8.ofNat (48+m%10)]).getD (Lib.decDigits (m/10)).length 0=UInt8.ofNat (48+m%10):=by
    rw [List.getD_eq_getElem?_getD,List.getElem?_append_right (Nat.le_refl _)]; simp
   simp only [numW,numW_append _ _ _ (Nat.le_refl _),ih,e,dgt (Nat.mod_lt m (by decide)),wr64_mod]
   omega
theorem dec_all (m : Nat) : (Lib.decDigits m).all isDg=true:=by
 induction m using Nat.strongRecOn with
 | _ m ih =>
  have one : ∀ d,d < 10→isDg (UInt8.ofNat (48+d))=true:=fun d hd=>by
   unfold isDg; rw [dgt hd,decide_eq_true (by omega),decide_eq_true (by omega)]; rfl
  by_cases h : m < 10
  ·rw [Lib.decDigits_one h,List.all_cons,one m h]; rfl
  ·rw [dec_rec m h,List.all_append,ih (m/10) (by omega),List.all_cons,one _ (Nat.mod_lt m (by decide))]; rfl
theorem dec_ne (m : Nat) : 1≤(Lib.decDigits m).length:=by
 rw [Lib.decDigits_length]
 by_cases h : m < 10
 ·rw [Lib.nDigits_small h]; exact Nat.le_refl _
 ·rw [Lib.nDigits_big h]; omega
theorem numB_dec {m : Nat} (hm : m < 9223372036854775808) : numB (Lib.decDigits m)=true∧numN (Lib.decDigits m)=(m : Int):=by
 have ho : numOk (Lib.decDigits m)=true:=by
  unfold numOk
  have h1 : (Lib.decDigits m).length≤19:=by
   rw [Lib.decDigits_length]; exact nDig_le 18 m (by omega)
  rw [decide_eq_true (dec_ne m),decide_eq_true h1,dec_all]; rfl
 have hn : numN (Lib.decDigits m)=(m : Int):=by unfold numN; rw [if_pos ho,numW_dec m hm]
 refine ⟨?_,hn⟩
 unfold numB
 rw [ho,hn,decide_eq_true (by omega),Int.toNat_natCast]; simp
theorem numW_lt (s : List UInt8) : ∀ i,numW s i < 9223372036854775808
 | 0=>by show (0 : Int) < _; decide
 | i+1=>by simp only [numW,wr64_mod]; omega
theorem numB_iff (s : List UInt8) : numB s=true↔∃ m : Nat,m < 9223372036854775808∧s=Lib.decDigits m:=by
 refine ⟨fun h => ?_,fun ⟨m,hm,e⟩=>by rw [e]; exact (numB_dec hm).1⟩
 unfold numB at h
 simp only [Bool.and_eq_true,decide_eq_true_eq,beq_iff_eq] at h
 refine ⟨(numN s).toNat,?_,h.2.symm⟩
 have h1 : numN s < 9223372036854775808:=by
  unfold numN
  split
  ·exact numW_lt s _
  ·decide
 omega
theorem pu_append (l r : List UInt8) : ∀ acc,Lib.parseUint10 acc (l++r)=(match Lib.parseUint10 acc l with | .ok v=>Lib.parseUint10 v r | .syntax => .syntax | .range => .range):=by
 induction l with
 | nil=>intro acc; rfl
 | cons c l ih =>
  intro acc
  rw [List.cons_append]
  simp only [Lib.parseUint10]
  split
  ·split
   ·rfl
   ·split
    ·rfl
    ·exact ih _
  ·rfl
theorem pu_dec (m : Nat) (hm : m < 9223372036854775808) : Lib.parseUint10 0 (Lib.decDigits m) = .ok m:=by
 induction m using Nat.strongRecOn with
 | _ m ih =>
  by_cases h : m < 10
  ·rw [Lib.decDigits_one h]
   simp only [Lib.parseUint10,dgt h]
   rw [if_pos (by omega),if_neg (by omega),if_neg (by omega)]
   congr 1; omega
  ·rw [dec_rec m h,pu_append,ih (m/10) (by omega) (by omega)]
   simp only [Lib.parseUint10,dgt (Nat.mod_lt m (show 0 < 10 by decide))]
   rw [if_pos (by omega),if_neg (by omega),if_neg (by omega)]
   congr 1; omega
theorem atoi_dec (m : Nat) (hm : m < 9223372036854775808) : Lib.atoiAll (Lib.decDigits m) = .ok (m : Int):=by
 have hne:=dec_ne m
 have hp:=pu_dec m hm
 have hall:=dec_all m
 generalize Lib.decDigits m=l at *
 cases l with
 | nil=>simp at hne
 | cons c r =>
  rw [List.all_cons,Bool.and_eq_true] at hall
  have hc:=hall.1
  unfold isDg at hc
  simp only [Bool.and_eq_true,decide_eq_true_eq] at hc
  rw [Lib.atoiAll_plain c r (by omega) (by omega)]
  unfold Lib.parseMag
  rw [if_neg (by simp),hp]
  show (if 9223372036854775808≤m then _ else _)=_
  rw [if_neg (by omega)]
def atN (s : List UInt8) : Int :=
 match Lib.atoiAll s with
 | .ok v=>v
 | .syntax=>0
 | .range=>Lib.atoiSat s
def atB (s : List UInt8) : Bool :=
 match Lib.atoiAll s with
 | .ok _=>true
 | _=>false
theorem num_at (s : List UInt8) : numB s=(atB s&&decide (0≤atN s)&&(Lib.itoa (atN s)==s)):=by
 rw [Bool.eq_iff_iff,numB_iff]
 simp only [Bool.and_eq_true,decide_eq_true_eq,beq_iff_eq]
 constructor
 ·rintro ⟨m,hm,rfl⟩
  have h:=atoi_dec m hm
  have e : atN (Lib.decDigits m)=(m : Int):=by unfold atN; rw [h]
  refine ⟨⟨by unfold atB; rw [h],by rw [e]; omega⟩,by rw [e,Lib.itoa_nonneg]⟩
 ·rintro ⟨⟨h1,h2⟩,h3⟩
  match h : Lib.atoiAll s with
  | .ok v =>
   have e : atN s=v:=by unfold atN; rw [h]
   rw [e] at h2 h3
   have hb:=Lib.atoiAll_bounds h
   refine ⟨v.toNat,by omega,?_⟩
   have : v=((v.toNat : Nat) : Int):=by omega
   rw [this,Lib.itoa_nonneg] at h3
   exact h3.symm
  | .syntax=>unfold atB at h1; rw [h] at h1; cases h1
  | .range=>unfold atB at h1; rw [h] at h1; cases h1
theorem at_num {s : List UInt8} (h : numB s=true) : atN s=numN s:=by
 obtain ⟨m,hm,rfl⟩:=(numB_iff s).1 h
 rw [(numB_dec hm).2]
 unfold atN; rw [atoi_dec m hm]
open Go.Shelf Go.Proofs Go.RowKit
def laidSplit_ren : Go.Shelf.Ren:=⟨fun | 146=>63 | 221=>84 | 268=>110 | 138=>111 | 143=>112 | 195=>129 | 197=>130 | 218=>131 | 219=>132 | 260=>143 | 217=>80 | 225=>144 | 224=>145 | 267=>146 | 266=>107 | 314=>153 | n=>n,fun | 9=>9 | 31=>78 | 3=>3 | 4=>4 | 0=>0 | 105=>192 | 21=>21 | 5=>5 | 46=>128 | 119=>213 | 139=>216 | 138=>215 | 146=>217 | 51=>157 | n=>n,fun | 1=>1 | 3=>5 | 4=>6 | n=>n⟩
theorem laidSplit : Go.Proofs.LaysM.n146 Tryz.prog laidSplit_ren where
 mixed:=by kernel_rfl
 f138:=Tryz.func111.trans (congrArg some (by kernel_rfl))
 f143:=Tryz.func112.trans (congrArg some (by kernel_rfl))
 f146:=Tryz.func63.trans (congrArg some (by kernel_rfl))
 f195:=Tryz.func129.trans (congrArg some (by kernel_rfl))
 f197:=Tryz.func130.trans (congrArg some (by kernel_rfl))
 f217:=Tryz.func80.trans (congrArg some (by kernel_rfl))
 f218:=Tryz.func131.trans (congrArg some (by kernel_rfl))
 f219:=Tryz.func132.trans (congrArg some (by kernel_rfl))
 f221:=Tryz.func84.trans (congrArg some (by kernel_rfl))
 f224:=Tryz.func145.trans (congrArg some (by kernel_rfl))
 f225:=Tryz.func144.trans (congrArg some (by kernel_rfl))
 f260:=Tryz.func143.trans (congrArg some (by kernel_rfl))
 f266:=Tryz.func107.trans (congrArg some (by kernel_rfl))
 f267:=Tryz.func146.trans (congrArg some (by kernel_rfl))
 f268:=Tryz.func110.trans (congrArg some (by kernel_rfl))
 f314:=Tryz.func153.trans (congrArg some (by kernel_rfl))
 t0:=Tryz.underlying0
 a0:=Tryz.isAgg0
 z0:=Tryz.sizeOf0
 v0:=Tryz.zeroValue0
 t3:=Tryz.underlying3
 a3:=Tryz.isAgg3
 z3:=Tryz.sizeOf3
 v3:=Tryz.zeroValue3
 t4:=Tryz.underlying4
 a4:=Tryz.isAgg4
 z4:=Tryz.sizeOf4
 v4:=Tryz.zeroValue4
 t5:=Tryz.underlying5
 a5:=Tryz.isAgg5
 z5:=Tryz.sizeOf5
 v5:=Tryz.zeroValue5
 t9:=Tryz.underlying9
 a9:=Tryz.isAgg9
 z9:=Tryz.sizeOf9
 v9:=Tryz.zeroValue9
 t21:=Tryz.underlying21
 a21:=Tryz.isAgg21
 z21:=Tryz.sizeOf21
 v21:=Tryz.zeroValue21
 t31:=Tryz.underlying78
 a31:=Tryz.isAgg78
 z31:=Tryz.sizeOf78
 v31:=Tryz.zeroValue78
 t46:=Tryz.underlying128
 a46:=Tryz.isAgg128
 z46:=Tryz.sizeOf128
 v46:=Tryz.zeroValue128
 t51:=Tryz.underlying157
 a51:=Tryz.isAgg157
 z51:=Tryz.sizeOf157
 v51:=Tryz.zeroValue157
 t105:=Tryz.underlying192
 a105:=Tryz.isAgg192
 z105:=Tryz.sizeOf192
 v105:=Tryz.zeroValue192
 t119:=Tryz.underlying213
 a119:=Tryz.isAgg213
 z119:=Tryz.sizeOf213
 t138:=Tryz.underlying215
 a138:=Tryz.isAgg215
 z138:=Tryz.sizeOf215
 v138:=Tryz.zeroValue215
 t139:=Tryz.underlying216
 a139:=Tryz.isAgg216
 z139:=Tryz.sizeOf216
 v139:=Tryz.zeroValue216
 t146:=Tryz.underlying217
 a146:=Tryz.isAgg217
 z146:=Tryz.sizeOf217
 v146:=Tryz.zeroValue217
 g1:=by kernel_rfl
 g3:=by kernel_rfl
 g4:=by kernel_rfl
 i0:=by kernel_rfl
 i3:=by kernel_rfl
 i4:=by kernel_rfl
 i5:=by kernel_rfl
 i9:=by kernel_rfl
 i21:=by kernel_rfl
 i31:=by kernel_rfl
 i46:=by kernel_rfl
 i51:=by kernel_rfl
 i105:=by kernel_rfl
 i138:=by kernel_rfl
 i139:=by kernel_rfl
 i146:=by kernel_rfl
 m1:=by kernel_rfl
 s1_3:=fun w h=>Go.Proofs.cell_of_shapedOpen_int (zero:=#[.int .i64 0]) (t:=3) h (of_decide_eq_true (by kernel_rfl)) (by kernel_rfl) rfl (by kernel_rfl) (by kernel_rfl) Tryz.underlying3
 m3:=by kernel_rfl
 m4:=by kernel_rfl
def laidAtoi_ren : Go.Shelf.Ren:=⟨fun | 172=>83 | 244=>108 | 245=>109 | 247=>124 | 279=>125 | 280=>126 | 281=>127 | 282=>128 | 287=>140 | 316=>141 | 171=>64 | 205=>142 | 321=>151 | 322=>152 | 243=>85 | 246=>113 | 283=>133 | 284=>134 | 285=>135 | 286=>136 | 129=>106 | 317=>147 | 318=>148 | 319=>149 | 320=>150 | 337=>154 | 338=>155 | n=>n,fun | 9=>9 | 3=>3 | 75=>29 | 76=>88 | 4=>4 | 5=>5 | 167=>186 | 37=>38 | 0=>0 | 85=>187 | 2=>2 | 168=>189 | 53=>159 | 175=>201 | 46=>128 | 210=>204 | 127=>106 | 145=>212 | 143=>210 | 21=>21 | 171=>194 | 173=>196 | 212=>207 | 51=>157 | 20=>20 | 213=>208 | 232=>219 | 233=>220 | 80=>27 | n=>n,fun | 15=>2 | 16=>3 | 17=>4 | 18=>7 | 19=>8 | n=>n⟩
theorem laidAtoi : Go.Proofs.LaysC.n172 Tryz.prog laidAtoi_ren where
 mixed:=by kernel_rfl
 f129:=Tryz.func106.trans (congrArg some (by kernel_rfl))
 f171:=Tryz.func64.trans (congrArg some (by kernel_rfl))
 f172:=Tryz.func83.trans (congrArg some (by kernel_rfl))
 f205:=Tryz.func142.trans (congrArg some (by kernel_rfl))
 f243:=Tryz.func85.trans (congrArg some (by kernel_rfl))
 f244:=Tryz.func108.trans (congrArg some (by kernel_rfl))
 f245:=Tryz.func109.trans (congrArg some (by kernel_rfl))
 f246:=Tryz.func113.trans (congrArg some (by kernel_rfl))
 f247:=Tryz.func124.trans (congrArg some (by kernel_rfl))
 f279:=Tryz.func125.trans (congrArg some (by kernel_rfl))
 f280:=Tryz.func126.trans (congrArg some (by kernel_rfl))
 f281:=Tryz.func127.trans (congrArg some (by kernel_rfl))
 f282:=Tryz.func128.trans (congrArg some (by kernel_rfl))
 f283:=Tryz.func133.trans (congrArg some (by kernel_rfl))
 f284:=Tryz.func134.trans (congrArg some (by kernel_rfl))
 f285:=Tryz.func135.trans (congrArg some (by kernel_rfl))
 f286:=Tryz.func136.trans (congrArg some (by kernel_rfl))
 f287:=Tryz.func140.trans (congrArg some (by kernel_rfl))
 f316:=Tryz.func141.trans (congrArg some (by kernel_rfl))
 f317:=Tryz.func147.trans (congrArg some (by kernel_rfl))
 f318:=Tryz.func148.trans (congrArg some (by kernel_rfl))
 f319:=Tryz.func149.trans (congrArg some (by kernel_rfl))
 f320:=Tryz.func150.trans (congrArg some (by kernel_rfl))
 f321:=Tryz.func151.trans (congrArg some (by kernel_rfl))
 f322:=Tryz.func152.trans (congrArg some (by kernel_rfl))
 f337:=Tryz.func154.trans (congrArg some (by kernel_rfl))
 f338:=Tryz.func155.trans (congrArg some (by kernel_rfl))
 t0:=Tryz.underlying0
 a0:=Tryz.isAgg0
 z0:=Tryz.sizeOf0
 v0:=Tryz.zeroValue0
 t2:=Tryz.underlying2
 a2:=Tryz.isAgg2
 z2:=Tryz.sizeOf2
 v2:=Tryz.zeroValue2
 t3:=Tryz.underlying3
 a3:=Tryz.isAgg3
 z3:=Tryz.sizeOf3
 v3:=Tryz.zeroValue3
 t4:=Tryz.underlying4
 a4:=Tryz.isAgg4
 z4:=Tryz.sizeOf4
 v4:=Tryz.zeroValue4
 t5:=Tryz.underlying5
 a5:=Tryz.isAgg5
 z5:=Tryz.sizeOf5
 v5:=Tryz.zeroValue5
 t9:=Tryz.underlying9
 a9:=Tryz.isAgg9
 z9:=Tryz.sizeOf9
 v9:=Tryz.zeroValue9
 t20:=Tryz.underlying20
 a20:=Tryz.isAgg20
 z20:=Tryz.sizeOf20
 v20:=Tryz.zeroValue20
 t21:=Tryz.underlying21
 a21:=Tryz.isAgg21
 z21:=Tryz.sizeOf21
 v21:=Tryz.zeroValue21
 t37:=Tryz.underlying38
 a37:=Tryz.isAgg38
 z37:=Tryz.sizeOf38
 v37:=Tryz.zeroValue38
 t46:=Tryz.underlying128
 a46:=Tryz.isAgg128
 z46:=Tryz.sizeOf128
 v46:=Tryz.zeroValue128
 t51:=Tryz.underlying157
 a51:=Tryz.isAgg157
 z51:=Tryz.sizeOf157
 v51:=Tryz.zeroValue157
 t53:=Tryz.underlying159
 a53:=Tryz.isAgg159
 z53:=Tryz.sizeOf159
 v53:=Tryz.zeroValue159
 t75:=Tryz.underlying29
 a75:=Tryz.isAgg29
 z75:=Tryz.sizeOf29
 v75:=Tryz.zeroValue29
 t76:=Tryz.underlying88
 a76:=Tryz.isAgg88
 z76:=Tryz.sizeOf88
 v76:=Tryz.zeroValue88
 t85:=Tryz.underlying187
 a85:=Tryz.isAgg187
 z85:=Tryz.sizeOf187
 v85:=Tryz.zeroValue187
 t127:=Tryz.underlying106
 a127:=Tryz.isAgg106
 z127:=Tryz.sizeOf106
 v127:=Tryz.zeroValue106
 t143:=Tryz.underlying210
 a143:=Tryz.isAgg210
 z143:=Tryz.sizeOf210
 v143:=Tryz.zeroValue210
 t145:=Tryz.underlying212
 a145:=Tryz.isAgg212
 z145:=Tryz.sizeOf212
 v145:=Tryz.zeroValue212
 t167:=Tryz.underlying186
 a167:=Tryz.isAgg186
 z167:=Tryz.sizeOf186
 v167:=Tryz.zeroValue186
 t168:=Tryz.underlying189
 a168:=Tryz.isAgg189
 z168:=Tryz.sizeOf189
 v168:=Tryz.zeroValue189
 t171:=Tryz.underlying194
 a171:=Tryz.isAgg194
 z171:=Tryz.sizeOf194
 v171:=Tryz.zeroValue194
 t173:=Tryz.underlying196
 a173:=Tryz.isAgg196
 z173:=Tryz.sizeOf196
 v173:=Tryz.zeroValue196
 t175:=Tryz.underlying201
 a175:=Tryz.isAgg201
 z175:=Tryz.sizeOf201
 v175:=Tryz.zeroValue201
 t210:=Tryz.underlying204
 a210:=Tryz.isAgg204
 z210:=Tryz.sizeOf204
 v210:=Tryz.zeroValue204
 t212:=Tryz.underlying207
 a212:=Tryz.isAgg207
 z212:=Tryz.sizeOf207
 v212:=Tryz.zeroValue207
 t213:=Tryz.underlying208
 a213:=Tryz.isAgg208
 z213:=Tryz.sizeOf208
 t232:=Tryz.underlying219
 a232:=Tryz.isAgg219
 z232:=Tryz.sizeOf219
 v232:=Tryz.zeroValue219
 t233:=Tryz.underlying220
 a233:=Tryz.isAgg220
 z233:=Tryz.sizeOf220
 v233:=Tryz.zeroValue220
 g15:=by kernel_rfl
 g16:=by kernel_rfl
 g17:=by kernel_rfl
 g18:=by kernel_rfl
 g19:=by kernel_rfl
 t80:=Tryz.underlying27
 a80:=Tryz.isAgg27
 z80:=Tryz.sizeOf27
 v80:=Tryz.zeroValue27
 i0:=by kernel_rfl
 i2:=by kernel_rfl
 i3:=by kernel_rfl
 i4:=by kernel_rfl
 i5:=by kernel_rfl
 i9:=by kernel_rfl
 i20:=by kernel_rfl
 i21:=by kernel_rfl
 i37:=by kernel_rfl
 i46:=by kernel_rfl
 i51:=by kernel_rfl
 i53:=by kernel_rfl
 i75:=by kernel_rfl
 i76:=by kernel_rfl
 i80:=by kernel_rfl
 i85:=by kernel_rfl
 i127:=by kernel_rfl
 i143:=by kernel_rfl
 i145:=by kernel_rfl
 i167:=by kernel_rfl
 i168:=by kernel_rfl
 i171:=by kernel_rfl
 i173:=by kernel_rfl
 i175:=by kernel_rfl
 i210:=by kernel_rfl
 i212:=by kernel_rfl
 i232:=by kernel_rfl
 i233:=by kernel_rfl
 m15:=by kernel_rfl
 m16:=by kernel_rfl
 m17:=by kernel_rfl
 m18:=by kernel_rfl
 m19:=by kernel_rfl
 c0:=by kernel_rfl
 c2:=by kernel_rfl
 c3:=by kernel_rfl
 c4:=by kernel_rfl
 c5:=by kernel_rfl
 c9:=by kernel_rfl
 c20:=by kernel_rfl
 c21:=by kernel_rfl
 c37:=by kernel_rfl
 c46:=by kernel_rfl
 c51:=by kernel_rfl
 c53:=by kernel_rfl
 c75:=by kernel_rfl
 c76:=by kernel_rfl
 c80:=by kernel_rfl
 c85:=by kernel_rfl
 c127:=by kernel_rfl
 c143:=by kernel_rfl
 c145:=by kernel_rfl
 c167:=by kernel_rfl
 c168:=by kernel_rfl
 c171:=by kernel_rfl
 c173:=by kernel_rfl
 c175:=by kernel_rfl
 c210:=by kernel_rfl
 c212:=by kernel_rfl
 c213:=by kernel_rfl
 c232:=by kernel_rfl
 c233:=by kernel_rfl
open Go.Vc Go.Proofs Go.RowKit
structure GV where
 m : Int
 t1 : TypeId
 p1 : Value
 t2 : TypeId
 p2 : Value
abbrev glM (v : GV) : List (Nat×Dat):=[(1,⟨.raw,Value.int .i64 v.m⟩),(2,⟨.raw,Value.iface v.t1 v.p1⟩),(3,⟨.raw,Value.iface v.t2 v.p2⟩)]
structure SplitOk (s p : List UInt8) : Prop where
 le : s.length≤1100000
 sep : p=[32]
def cSplit : Ctr:=cdet [.str,.str] (fun s p=>SplitOk s p) (fun s _=>[⟨.sl .str,cutL s 32⟩])
theorem gl_cell {v : GV} {w : World} {ro : Nat→Prop} (h : GlOk (glM v) w ro) {g : Nat} {t : Ty} {x : t.D} {u : Value} (hm : (g,(⟨t,x⟩ : Dat))∈glM v) (hu : ∀ us,t.ok w ro x us→us=[u]) : w.cell? ⟨g,0,none⟩=some u:=by
 obtain ⟨_,us,h1,h2⟩:=h g _ hm
 have:=hu us h2
 subst this
 exact h1 0 u rfl
theorem okSplit (v : GV) : PlainOk Tryz.prog (glM v) 63 cSplit:=by
 intro ds k ⟨hp,hk⟩ w ro vals hlt hgl hD
 obtain ⟨s,p,rfl,hs⟩:=dest2 hp
 have hk : k [⟨.sl .str,cutL s 32⟩]:=hk
 have hl : vals.length=2:=hD.1
 match vals,hl with
 | [v1,v2],_ =>
  obtain ⟨e1,h1⟩:=str1 (w:=w) (ro:=ro) (x:=s) (v:=v1) (hD.2 0 ⟨.str,s⟩ v1 rfl rfl)
  obtain ⟨e2,h2⟩:=str1 (w:=w) (ro:=ro) (x:=p) (v:=v2) (hD.2 1 ⟨.str,p⟩ v2 rfl rfl)
  subst e1; subst e2
  have hle:=hs.le
  have hsep:=hs.sep
  subst hsep
  have hm : w.cell? ⟨1,0,none⟩=some (.int .i64 v.m):=gl_cell hgl (t := .raw) (x:=Value.int .i64 v.m) (.head _) fun us h=>h.1
  have hsp:=split_spl 32 ⟨s.toArray⟩
  have hcut : cutL s 32=splL 32 s:=cut_spl s 32
  have hlen:=Lib.splitB_all (⟨#[32]⟩ : ByteArray) (by decide) 0 _ ⟨s.toArray⟩ rfl
  refine (Any.strings_Split { laidSplit with } laidSplit.i9 ⟨s.toArray⟩ ⟨#[32]⟩ v.m w (by rw [bsz]; omega) hm (by decide)).mono ?_
  rintro e w' ⟨rfl,rfl⟩
  refine ⟨⟨rfl,rfl,rfl,by simp,fun b hb _=>Ext.alloc w _ b hb,fun e=>Nat.le_refl _⟩,_,_,rfl,hk,?_⟩
  have hcl : (cutL s 32).length=Lib.countB ⟨s.toArray⟩ ⟨#[32]⟩+1:=by rw [hcut,← hsp,List.length_map,hlen]
  have hmx : (cutL s 32).length≤1200000:=Nat.le_trans (cutG_len s 32 (s.length+1)) (by omega)
  refine ⟨some ⟨w.heap.size,0,none⟩,Lib.countB ⟨s.toArray⟩ ⟨#[32]⟩+1,by rw [hcl],by rw [hcl]; exact Nat.le_refl _,by rw [← hcl]; exact Nat.le_trans hmx (by decide),fun _ => ?_⟩
  refine ⟨_,(cutL s 32).map fun x=>[strV x],rfl,rfl,.inr ⟨Nat.le_refl _,by simp⟩,⟨List.length_map _,fun i x u hx hu => ?_⟩,fun j u hj => ?_⟩
  ·rw [List.getElem?_map,hx] at hu
   injection hu with hu; subst hu
   refine ⟨rfl,rfl,?_⟩
   have hx' : x∈splL 32 s:=by rw [← hcut]; exact List.mem_of_getElem? hx
   have:=splL_le 32 s x hx'
   exact Nat.le_trans this (Nat.le_trans hle (by decide))
  ·have hf : ((cutL s 32).map fun x=>[strV x]).flatten=(Lib.splitB ⟨#[32]⟩ 0 (Lib.countB ⟨s.toArray⟩ ⟨#[32]⟩) ⟨s.toArray⟩).map Value.string:=by
    have h0 : ∀ l : List (List UInt8),(l.map fun x=>[strV x]).flatten=l.map strV:=by
     intro l
     induction l with
     | nil=>rfl
     | cons a r ih=>rw [List.map_cons,List.flatten_cons,ih]; rfl
    rw [h0,hcut,← hsp,List.map_map]
    apply List.map_congr_left
    intro x _
    rfl
   rw [hf] at hj
   have : (Addr.add ⟨w.heap.size,0,none⟩ j)=⟨w.heap.size,j,none⟩:=by rw [addr_add,Nat.zero_add]
   rw [this]
   unfold World.cell?
   rw [World.alloc_heap_new]
   simpa using hj
def cAtoi : Ctr:=cgen [.str] (fun s k=>s.length≤1100000∧(atB s=true→k [⟨I,atN s⟩,⟨.raw,Value.nilIface⟩])∧∀ N : Nat,atB s=false→k [⟨I,atN s⟩,⟨.raw,Value.iface 189 (.pointer (some ⟨N,0,none⟩))⟩])
theorem fr_below {w w' : World} (h : Below w.heap.size w w') : Fr (fun _=>False) w w':=⟨h.os,h.tape,h.output,h.size,fun b hb _=>h.block b hb,fun e=>by cases e⟩
theorem okAtoi (v : GV) : PlainOk Tryz.prog (glM v) 83 cAtoi:=by
 intro ds k hp w ro vals hlt hgl hD
 obtain ⟨s,rfl,hle,hk1,hk2⟩:=gdest1 hp
 have hl : vals.length=1:=hD.1
 match vals,hl with
 | [v1],_ =>
  obtain ⟨e1,h1⟩:=str1 (w:=w) (ro:=ro) (x:=s) (v:=v1) (hD.2 0 ⟨.str,s⟩ v1 rfl rfl)
  subst e1
  have hE1 : w.cell? ⟨2,0,none⟩=some (.iface v.t1 v.p1):=gl_cell hgl (t := .raw) (x:=Value.iface v.t1 v.p1) (.tail _ (.head _)) fun us h=>h.1
  have hE2 : w.cell? ⟨3,0,none⟩=some (.iface v.t2 v.p2):=gl_cell hgl (t := .raw) (x:=Value.iface v.t2 v.p2) (.tail _ (.tail _ (.head _))) fun us h=>h.1
  have ret : ∀ (w' : World) (ro' : Nat→Prop) (n : Int) (u : Value),inK .i64 n→u.oneCell'=true→RetOk w' ro' [⟨I,n⟩,⟨.raw,u⟩] (.tuple #[.int .i64 n,u]):=by
   intro w' ro' n u hn hu
   refine ⟨_,rfl,rfl,fun j d v hd hv => ?_⟩
   match j with
   | 0=>simp at hd hv; subst hd; subst hv; exact ⟨rfl,hn⟩
   | 1=>simp at hd hv; subst hd; subst hv; exact ⟨rfl,hu⟩
   | j+2=>simp at hd
  match h : Lib.atoiAll s with
  | .ok n =>
   have hb:=Lib.atoiAll_bounds h
   have en : atN s=n:=by unfold atN; rw [h]
   have eb : atB s=true:=by unfold atB; rw [h]
   have hk:=hk1 eb
   rw [en] at hk
   refine (Any.strconv_Atoi_ok laidAtoi ⟨s.toArray⟩ (by rw [bsz]; omega) n h w).mono ?_
   rintro e w' ⟨rfl,hw⟩
   have hbl : Below w.heap.size w w':=by
    rcases hw with rfl | ⟨t,rfl⟩
    ·exact Below.refl _ _
    ·exact Lib.bytesWorld_below _ _ _
   exact ⟨fr_below hbl,_,_,rfl,hk,ret _ _ n _ (inK_i64.2 hb) rfl⟩
  | .syntax =>
   have en : atN s=0:=by unfold atN; rw [h]
   have eb : atB s=false:=by unfold atB; rw [h]
   refine (Any.strconv_Atoi_syntax laidAtoi ⟨s.toArray⟩ (by rw [bsz]; omega) h (.iface v.t1 v.p1) w hE1 (.inr ⟨_,_,rfl⟩)).mono ?_
   rintro e w' ⟨N,rfl,_,_,hbl⟩
   have hk:=hk2 N eb
   rw [en] at hk
   exact ⟨fr_below hbl,_,_,rfl,hk,ret _ _ 0 _ (inK_i64.2 (by decide)) rfl⟩
  | .range =>
   have en : atN s=Lib.atoiSat s:=by unfold atN; rw [h]
   have eb : atB s=false:=by unfold atB; rw [h]
   refine (Any.strconv_Atoi_range laidAtoi ⟨s.toArray⟩ (by rw [bsz]; omega) h (.iface v.t2 v.p2) w hE2 (.inr ⟨_,_,rfl⟩)).mono ?_
   rintro e w' ⟨N,rfl,_,_,hbl⟩
   have hk:=hk2 N eb
   rw [en] at hk
   exact ⟨fr_below hbl,_,_,rfl,hk,ret _ _ _ _ (inK_i64.2 (Lib.atoiSat_bounds s)) rfl⟩
open Go.Vc Go.Proofs Go.RowKit
theorem okLineR : PlainOk Tryz.prog [] 40 cLineR:=by
 refine plain_of (CxOk.mk' Elr_ok (by kernel_rfl) mixed (gl:=[]) (GOk.cons okNumR Tryz.func66 (by kernel_rfl) (by kernel_rfl) (GOk.cons okSumR Tryz.func67 (by kernel_rfl) (by kernel_rfl) (GOk.cons okCutR Tryz.func39 (by kernel_rfl) (by kernel_rfl) (GOk.cons okPutR Tryz.func68 (by kernel_rfl) (by kernel_rfl) GOk.nil)))) GoOk.nil noIt) Tryz.func40 (c:=Tryz.f40.body.getD .skip) (rvs:=[(.cell 4 45,tRB),(.tmp 5,I)]) (by kernel_rfl) (by kernel_rfl) (by kernel_rfl) ?_
 intro ds k ⟨hp,hk⟩ hwf
 obtain ⟨b,s,rfl,hP⟩:=dest2 hp
 clear hp hwf
 revert hP hk
 revert b s
 intro (b : RB) (s : List UInt8) (hP : LineOk b s) (hk : k [⟨tRB,rLT b s⟩,⟨I,rLE b s⟩])
 refine ⟨anLineR b s,?_⟩
 rw [vcLineR]
 have one : (1 : I.D)=(1 : Int):=rfl
 have i0 : Int.toNat 0=0:=rfl
 have hle:=hP.le
 obtain ⟨lb1,lb2⟩:=lastB_bound s 32
 have bad : ∀ e : Int,e≠0→badL s=e→k [⟨tRB,b⟩,⟨I,e⟩]:=fun e he h=>by
  have e1 : rLE b s=e:=by unfold rLE; rw [if_neg (by rw [h]; exact he),h]
  have e2 : rLT b s=b:=by unfold rLT; rw [if_neg (by rw [h]; exact he)]
  rw [e1,e2] at hk; exact hk
 simp only [one,i0,Int.toNat_natCast,List.take_length,List.drop_zero,decide_eq_true_eq,decide_eq_false_iff_not,true_and,and_true,inK_i64,Bool.not_eq_true',Bool.not_eq_false']
 refine ⟨by omega,⟨s.length,⟨Nat.le_refl _,?_⟩,rfl⟩,fun x ⟨hx,hl⟩=>⟨fun hge=>⟨by omega,by omega,fun hne => ?_,fun he => ?_⟩,fun hlt=>⟨fun _ => ?_,fun h=>absurd hlt (by omega)⟩⟩⟩
 ·rw [lastB,Lib.lastIndexByte,bsz]
 ·obtain ⟨j,rfl⟩ : ∃ j,x=j+1:=⟨x - 1,by omega⟩
  have et : (((j+1 : Nat) : Int) - 1).toNat=j:=by omega
  rw [et] at hne
  rw [lastIdx_succ,if_neg hne] at hl
  exact ⟨by omega,j,⟨by omega,hl⟩,by omega,by omega⟩
 ·have hX : (x : Int) - 1=lastB s 32:=by
   obtain ⟨j,rfl⟩ : ∃ j,x=j+1:=⟨x - 1,by omega⟩
   have et : (((j+1 : Nat) : Int) - 1).toNat=j:=by omega
   rw [et] at he
   rw [lastIdx_succ,if_pos he] at hl
   omega
  rw [hX] at hge ⊢
  have eh : List.take (lastB s 32).toNat s=headL s:=rfl
  have et : List.drop (lastB s 32+1).toNat s=tailL s:=rfl
  have ew : cutL (headL s) 32=wordsL s:=rfl
  have hhl : (headL s).length≤1100000:=by unfold headL; rw [List.length_take]; omega
  simp only [eh,et,ew]
  have hn0 : ¬ lastB s 32 < 0:=by omega
  refine ⟨fun h=>absurd h (by omega),fun _=>⟨by omega,by omega,by omega,Int.le_refl _,fun hb=>bad 2 (by decide) ?_,fun hb=>⟨Int.le_refl _,by omega,by omega,⟨hhl⟩,fun hs=>bad 6 (by decide) ?_,fun hs=>⟨Int.le_refl _,by omega,by omega,⟨hhl⟩,⟨0,⟨⟨Nat.zero_le _,hge⟩,rfl,hb,hs⟩,rfl,rfl⟩,fun y ⟨⟨hy,_⟩,ha,_,_⟩=>⟨fun hlt => ?_,fun hge2 => ?_⟩⟩⟩⟩⟩
  ·unfold badL; rw [if_neg hn0,if_pos hb]
  ·unfold badL; rw [if_neg hn0,if_neg (by rw [hb]; decide),if_pos hs]
  ·have ety : ((y : Int)+1).toNat=y+1:=by omega
   have hyl : y < ((wordsL s).drop 1).length:=by rw [List.length_drop]; omega
   have eg : (wordsL s).getD (y+1) []=((wordsL s).drop 1)[y]:=by
    rw [List.getElem_drop,List.getD_eq_getElem?_getD,List.getElem?_eq_getElem (by omega)]
    simp [Nat.add_comm]
   have hcl:=cutG_len (headL s) 32 ((headL s).length+1)
   have hwl : (wordsL s).length≤1200000:=Nat.le_trans hcl (by omega)
   rw [ety,eg]
   refine ⟨by omega,hlt,fun hn=>bad 2 (by decide) ?_,fun hn=>⟨?_,by omega,y+1,⟨⟨by omega,hge⟩,?_,hb,hs⟩,by omega,by omega,?_⟩⟩
   ·have : ((wordsL s).drop 1).all numB=false:=List.all_eq_false.2 ⟨_,List.getElem_mem hyl,by rw [hn]; decide⟩
    unfold badL; rw [if_neg hn0,if_neg (by rw [hb]; decide),if_neg (by rw [hs]; simp),if_pos this]
   ·have h1 : ((wordsL s).drop 1).length≤(wordsL s).length:=by rw [List.length_drop]; omega
    simp only [List.length_map,List.length_take,List.length_set,List.length_replicate]; omega
   ·rw [List.take_succ_eq_append_getElem hyl,List.all_append,ha,List.all_cons,hn]; rfl
   ·rw [List.take_succ_eq_append_getElem hyl,List.map_append]; rfl
  ·have ey : y=((wordsL s).drop 1).length:=by
    have:=List.length_drop (i:=1) (l:=wordsL s)
    omega
   have hw1:=cutG_ne (headL s) 32
   rw [ew] at hw1
   subst ey
   rw [List.take_length] at ha
   simp only [List.take_length]
   have hnu : List.map numN ((wordsL s).drop 1)=numsL s:=rfl
   simp only [hnu]
   have hbad : fitL s=false→badL s=2:=fun h=>by
    unfold badL; rw [if_neg hn0,if_neg (by rw [hb]; decide),if_neg (by rw [hs]; simp),if_neg (by rw [ha]; decide),if_neg (by rw [h]; decide)]
   have hgo : fitL s=true→k [⟨tRB,rPT b (numsL s)⟩,⟨I,rPE b (numsL s)⟩]:=fun h=>by
    have e0 : badL s=0:=by unfold badL; rw [if_neg hn0,if_neg (by rw [hb]; decide),if_neg (by rw [hs]; simp),if_neg (by rw [ha]; decide),if_pos h]
    have e1 : rLE b s=rPE b (numsL s):=by unfold rLE; rw [if_pos e0]
    have e2 : rLT b s=rPT b (numsL s):=by unfold rLT; rw [if_pos e0]
    rw [e1,e2] at hk; exact hk
   have hput : ((numsL s).length=3∨(numsL s).length=2)→PutOk b (numsL s):=fun h=>⟨hP.sh,h,fun _ h0=>hP.sy _ _ h0,hP.txt,hP.lo,hP.hi⟩
   have w115 : ((wordsL s).getD 0 []==[119])=true→((wordsL s).getD 0 []==[115])=false:=fun h=>by
    rw [eq_of_beq h]; decide
   refine ⟨Int.le_refl _,by omega,fun h119=>⟨fun h3=>⟨hput (.inl (by omega)),hgo ?_⟩,fun h3=>⟨Int.le_refl _,by omega,fun h115=>absurd h115 (by rw [w115 h119]; decide),fun h115=>bad 2 (by decide) (hbad ?_)⟩⟩,fun h119=>⟨Int.le_refl _,by omega,fun h115=>⟨fun h2=>⟨hput (.inr (by omega)),hgo ?_⟩,fun h2=>bad 2 (by decide) (hbad ?_)⟩,fun h115=>bad 2 (by decide) (hbad ?_)⟩⟩
   ·unfold fitL; rw [h119,decide_eq_true (by omega : (numsL s).length=3)]; rfl
   ·unfold fitL; rw [h119,h115,decide_eq_false (by omega : ¬ (numsL s).length=3)]; rfl
   ·unfold fitL; rw [h119,h115,decide_eq_true (by omega : (numsL s).length=2)]; rfl
   ·unfold fitL; rw [h119,h115,decide_eq_false (by omega : ¬ (numsL s).length=2)]; rfl
   ·unfold fitL; rw [h119,h115]; rfl
 ·refine bad 2 (by decide) ?_
  have hx0 : x=0:=by omega
  subst hx0
  have : lastB s 32 = -1:=hl.symm
  unfold badL; rw [if_pos (by omega)]
open Go.Vc Go.Proofs Go.RowKit
def newRB (n : Int) : RB:=((n,List.replicate (n*4).toNat [],List.replicate n.toNat 0,()),[],0,())
def opB (n : Int) (w : List (List UInt8)) : Nat→RB
 | 0=>newRB n
 | i+1=>rLT (opB n w i) (w.getD i [])
def opG (n : Int) (w : List (List UInt8)) : Nat→Bool
 | 0=>true
 | i+1=>opG n w i&&decide (rLE (opB n w i) (w.getD i [])=0)
structure OpenOk (n : Int) (s : List UInt8) : Prop where
 le : s.length≤1100000
 ok : inB n 1 5=true→∀ i,i+1 < (cutL s 10).length→opG n (cutL s 10) i=true→LineOk (opB n (cutL s 10) i) ((cutL s 10).getD i [])
def opE (n : Int) (w : List (List UInt8)) (k : Nat) : Nat→RB×Int×Int
 | 0=>(opB n w k,(opB n w k).2.2.1,0)
 | f+1=>if rLE (opB n w k) (w.getD k [])=0 then opE n w (k+1) f else (rb0,(k : Int)+1,rLE (opB n w k) (w.getD k []))
def opR (n : Int) (s : List UInt8) : RB×Int×Int:=if inB n 1 5=true then opE n (cutL s 10) 0 ((cutL s 10).length - 1) else (rb0,0,1)
def cOpenR : Ctr:=cdet [I,.str] (fun (n : Int) s=>OpenOk n s) (fun (n : Int) s=>[⟨tRB,(opR n s).1⟩,⟨I,(opR n s).2.1⟩,⟨I,(opR n s).2.2⟩])
def anOpenR (n : Int) (s : List UInt8) : Ann:=[joinAll,loopAt 6 Nat [] (fun st i=>{ St.at (St.only st [4,7,8]) [(9,.d I (i : Int))] with ob:=[.var 45 tRB rb0,.var 45 tRB (opB n (cutL s 10) i)] }) (fun _ i=>(i+1≤(cutL s 10).length∧inB n 1 5=true)∧opG n (cutL s 10) i=true) (fun i=>(cutL s 10).length - i)]
open Go.Vc
set_option linter.unusedVariables false
theorem vcOpenR (n : Int) (s : List UInt8) (k : List Dat→Prop) : vcF ⟨Elr,[(37,cWithin),(38,cNewR),(39,cCutR),(40,cLineR)],[],[],[]⟩ (anOpenR n s) (Tryz.f20.body.getD .skip) Tryz.f20.ntmps [(.cell 4 45,tRB),(.tmp 5,I),(.tmp 6,I)] [⟨I,n⟩,⟨.str,s⟩] k=(
 True∧((!inB n (1 : Int) (5 : Int))=true→k [Dat.mk (((I).pr ((tV).sl.sl.pr ((I).sl.pr Ty.un))).pr (Ty.str.pr ((I).pr Ty.un))) rb0,Dat.mk (I) (0 : Int),Dat.mk (I) (1 : Int)])∧((!inB n (1 : Int) (5 : Int))=false→(((0 : Int)≤n∧n≤(5 : Int))∧True)∧CutOk s∧(∃ (x : Nat),((x+(1 : Nat)≤(cutL s (10 : Int)).length∧inB n (1 : Int) (5 : Int)=true)∧opG n (cutL s (10 : Int)) x=true)∧(([] : List Nat)=[]∧([] : List Nat)=[]∧cutL s (10 : Int)=cutL s (10 : Int)∧(0 : Int)=(↑x : Int)∧True)∧(((45 : Nat)=(45 : Nat)∧rb0=rb0)∧((45 : Nat)=(45 : Nat)∧((n,List.replicate (n*(4 : Int)).toNat [],List.replicate n.toNat (0 : Int),()),[],(0 : Int),())=opB n (cutL s (10 : Int)) x)∧True)∧True)∧∀ (x : Nat),(x+(1 : Nat)≤(cutL s (10 : Int)).length∧inB n (1 : Int) (5 : Int)=true)∧opG n (cutL s (10 : Int)) x=true→inK IntKind.i64 ((↑x : Int)+(1 : Int))∧(decide ((↑x : Int)+(1 : Int) < (↑(cutL s (10 : Int)).length : Int))=true→(0 : Int)≤(↑x : Int)∧(↑x : Int) < (↑(cutL s (10 : Int)).length : Int)∧LineOk (opB n (cutL s (10 : Int)) x) ((cutL s (10 : Int)).getD (↑x : Int).toNat [])∧(0 : Int)≤(↑x : Int)∧(↑x : Int) < (↑(cutL s (10 : Int)).length : Int)∧LineOk (opB n (cutL s (10 : Int)) x) ((cutL s (10 : Int)).getD (↑x : Int).toNat [])∧(SV.pv (((I).pr ((tV).sl.sl.pr ((I).sl.pr Ty.un))).pr (Ty.str.pr ((I).pr Ty.un))) (0 : Nat) []=SV.pv (((I).pr ((tV).sl.sl.pr ((I).sl.pr Ty.un))).pr (Ty.str.pr ((I).pr Ty.un))) (0 : Nat) []∧SV.pv (((I).pr ((tV).sl.sl.pr ((I).sl.pr Ty.un))).pr (Ty.str.pr ((I).pr Ty.un))) (1 : Nat) []=SV.pv (((I).pr ((tV).sl.sl.pr ((I).sl.pr Ty.un))).pr (Ty.str.pr ((I).pr Ty.un))) (1 : Nat) []∧cutL s (10 : Int)=cutL s (10 : Int)∧(↑x : Int)=(↑x : Int)∧(↑x : Int)=(↑x : Int)∧(↑x : Int)+(1 : Int)=(↑x : Int)+(1 : Int)∧cutL s (10 : Int)=cutL s (10 : Int)∧(↑(cutL s (10 : Int)).length : Int)=(↑(cutL s (10 : Int)).length : Int)∧decide ((↑x : Int)+(1 : Int) < (↑(cutL s (10 : Int)).length : Int))=decide ((↑x : Int)+(1 : Int) < (↑(cutL s (10 : Int)).length : Int))∧SV.tp [SV.d (((I).pr ((tV).sl.sl.pr ((I).sl.pr Ty.un))).pr (Ty.str.pr ((I).pr Ty.un))) (rLT (opB n (cutL s (10 : Int)) x) ((cutL s (10 : Int)).getD (↑x : Int).toNat [])),SV.d (I) (rLE (opB n (cutL s (10 : Int)) x) ((cutL s (10 : Int)).getD (↑x : Int).toNat []))]=SV.tp [SV.d (((I).pr ((tV).sl.sl.pr ((I).sl.pr Ty.un))).pr (Ty.str.pr ((I).pr Ty.un))) (rLT (opB n (cutL s (10 : Int)) x) ((cutL s (10 : Int)).getD (↑x : Int).toNat [])),SV.d (I) (rLE (opB n (cutL s (10 : Int)) x) ((cutL s (10 : Int)).getD (↑x : Int).toNat []))]∧opB n (cutL s (10 : Int)) x=opB n (cutL s (10 : Int)) x∧cutL s (10 : Int)=cutL s (10 : Int)∧(↑x : Int)=(↑x : Int)∧SV.ra Ty.str ((cutL s (10 : Int)).getD (↑x : Int).toNat [])=SV.ra Ty.str ((cutL s (10 : Int)).getD (↑x : Int).toNat [])∧(cutL s (10 : Int)).getD (↑x : Int).toNat []=(cutL s (10 : Int)).getD (↑x : Int).toNat []∧SV.tp [SV.d (((I).pr ((tV).sl.sl.pr ((I).sl.pr Ty.un))).pr (Ty.str.pr ((I).pr Ty.un))) (rLT (opB n (cutL s (10 : Int)) x) ((cutL s (10 : Int)).getD (↑x : Int).toNat [])),SV.d (I) (rLE (opB n (cutL s (10 : Int)) x) ((cutL s (10 : Int)).getD (↑x : Int).toNat []))]=SV.tp [SV.d (((I).pr ((tV).sl.sl.pr ((I).sl.pr Ty.un))).pr (Ty.str.pr ((I).pr Ty.un))) (rLT (opB n (cutL s (10 : Int)) x) ((cutL s (10 : Int)).getD (↑x : Int).toNat [])),SV.d (I) (rLE (opB n (cutL s (10 : Int)) x) ((cutL s (10 : Int)).getD (↑x : Int).toNat []))]∧rLT (opB n (cutL s (10 : Int)) x) ((cutL s (10 : Int)).getD (↑x : Int).toNat [])=rLT (opB n (cutL s (10 : Int)) x) ((cutL s (10 : Int)).getD (↑x : Int).toNat [])∧rLE (opB n (cutL s (10 : Int)) x) ((cutL s (10 : Int)).getD (↑x : Int).toNat [])=rLE (opB n (cutL s (10 : Int)) x) ((cutL s (10 : Int)).getD (↑x : Int).toNat [])∧True)∧((!decide (rLE (opB n (cutL s (10 : Int)) x) ((cutL s (10 : Int)).getD (↑x : Int).toNat [])=(0 : Int)))=true→inK IntKind.i64 ((↑x : Int)+(1 : Int))∧k [Dat.mk (((I).pr ((tV).sl.sl.pr ((I).sl.pr Ty.un))).pr (Ty.str.pr ((I).pr Ty.un))) rb0,Dat.mk (I) ((↑x : Int)+(1 : Int)),Dat.mk (I) (rLE (opB n (cutL s (10 : Int)) x) ((cutL s (10 : Int)).getD (↑x : Int).toNat []))])∧((!decide (rLE (opB n (cutL s (10 : Int)) x) ((cutL s (10 : Int)).getD (↑x : Int).toNat [])=(0 : Int)))=false→inK IntKind.i64 ((↑x : Int)+(1 : Int))∧∃ (x_1 : Nat),((x_1+(1 : Nat)≤(cutL s (10 : Int)).length∧inB n (1 : Int) (5 : Int)=true)∧opG n (cutL s (10 : Int)) x_1=true)∧(cutL s (10 : Int)).length - x_1 < (cutL s (10 : Int)).length - x∧(([] : List Nat)=[]∧([] : List Nat)=[]∧cutL s (10 : Int)=cutL s (10 : Int)∧(↑x : Int)+(1 : Int)=(↑x_1 : Int)∧True)∧(((45 : Nat)=(45 : Nat)∧rb0=rb0)∧((45 : Nat)=(45 : Nat)∧rLT (opB n (cutL s (10 : Int)) x) ((cutL s (10 : Int)).getD (↑x : Int).toNat [])=opB n (cutL s (10 : Int)) x_1)∧True)∧True))∧(decide ((↑x : Int)+(1 : Int) < (↑(cutL s (10 : Int)).length : Int))=false→(SV.d (I) (opB n (cutL s (10 : Int)) x).snd.snd.fst=SV.d (I) (opB n (cutL s (10 : Int)) x).snd.snd.fst∧True)∧k [Dat.mk (((I).pr ((tV).sl.sl.pr ((I).sl.pr Ty.un))).pr (Ty.str.pr ((I).pr Ty.un))) (opB n (cutL s (10 : Int)) x),Dat.mk (I) (opB n (cutL s (10 : Int)) x).snd.snd.fst,Dat.mk (I) (0 : Int)]))):=by kernel_rfl
end Go.Proofs.YthdbbgajmgjfcaaGreatDoor
