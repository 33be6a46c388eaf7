import Derived.Test.YthdbbgajmgjfcaaGreatDoorTBRowVNA
namespace Go.Vc
open Go.RowKit
theorem plain_of_own[Dn]{P:Program}{gl:List (Nat×Dat)}{f:FuncId}{ct:OCtr}{c:Ctr}(h:OwnOk P gl f ct)
 (hc:∀ ds k,c.sem ds k→ct (ds.map fun d => .d d.t d.x) [] fun s ob=>∃ t x b,asV ⟨[s],ob,[]⟩ t s=some (x,b)∧k [⟨t,x⟩]):PlainOk P gl f c:=by
 intro ds k hs w R0 vals hR0 hG hD
 have I:=Inv.begin (ntmps:=ds.length) hR0 hG hD (fun _ _=>undef)
 have hB:BaseOk gl w ⟨fun _=>False,fun _ _=>undef,false⟩ R0:=⟨hG.mono (fun b hb=>⟨hb,fun h=>h⟩) (fun _ _=>rfl),hR0,fun b h=>h.elim⟩
 have e1:vals.toArray++Array.replicate (ds.length - vals.toArray.size) undef=vals.toArray:=by
  have:ds.length - vals.toArray.size=0:=by simp[hD.1]
  rw[this];simp
 have I1:Inv w ⟨fun _=>False,fun _ _=>undef,false⟩ R0 ⟨0,fun _=>undef,fun _ _=>False,fun _ _=>undef,fun _=>False⟩ ⟨ds.map fun d => .d d.t d.x,[],[]⟩ ⟨vals.toArray,[]⟩ w:=by
  have I2:=I
  rw[e1] at I2
  have e2:start gl ds.length ds=⟨ds.map fun d => .d d.t d.x,[],glS gl⟩:=by
   unfold start;simp
  rw[e2] at I2
  exact⟨I2.fr,I2.defers,I2.mks,I2.num,I2.len,fun k sv hk=>(by cases hk),I2.tm,I2.ob,I2.dj,I2.fp⟩
 refine Calls.mono (h _ _ _ (hc ds k hs) w _ R0 _ vals.toArray hB rfl I1) ?_
 rintro e w' ⟨v,s,ob',A',rfl,⟨t,x,b,ha,hk⟩,I',-⟩
 refine⟨I'.fr,_,v,rfl,hk,?_⟩
 exact asV_ret I' (fun _ h=>h) ha (I'.tm 0 s rfl)
theorem PlainOk.sub'[Dn]{P:Program}{gl gl':List (Nat×Dat)}{f:FuncId}{c:Ctr}(hs:∀ x∈gl,x∈gl')(h:PlainOk P gl f c):PlainOk P gl' f c :=
 fun ds k hk w R0 vals hR0 hG hD=>h ds k hk w R0 vals hR0 (fun g d hg=>hG g d (hs _ hg)) hD
theorem PlainOk.lift[Dn]{P:Program}{gl:List (Nat×Dat)}{f:FuncId}{c:Ctr}(h:PlainOk P [] f c):PlainOk P gl f c:=PlainOk.sub' (fun x hx=>by cases hx) h
theorem own_nilrow[Dn]{P:Program}{gl:List (Nat×Dat)}{f:FuncId}{oc oc':OCtr}(h:OwnOk P gl f oc)(e:TypeId)(t:Ty)
 (h':∀ args ob k,oc' args ob k→keptN args=0∧oc args ob (fun s ob'=>match s with
  | .nils=>k (.os ob'.length) (ob'++[.row e t []])
  | s=>k s ob')):OwnOk P gl f oc':=by
 intro args ob k hc w M R0 A vals hB hrd I
 obtain⟨h0,hc⟩:=h' _ _ _ hc
 refine (h _ _ _ hc w M R0 A vals hB hrd I).mono ?_
 rintro x w' ⟨v,s,ob1,A',rfl,hk,I2,hkeep⟩
 split at hk
 ·obtain⟨A2,I3⟩:=rowNil_ok (l:=[(0,e,.d t)]) I2
  exact⟨v,_,_,A2,rfl,hk,I3,fun i hi=>by omega⟩
 ·exact⟨v,_,_,A',rfl,hk,I2,hkeep⟩
end Go.Vc
