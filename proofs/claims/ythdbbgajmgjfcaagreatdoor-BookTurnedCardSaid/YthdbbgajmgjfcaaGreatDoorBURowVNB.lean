import Derived.Test.YthdbbgajmgjfcaaGreatDoorBURowVNA
namespace Go.Vc
open Go.RowKit
theorem PlainOk.sub' [Dn] {P : Program} {gl gl' : List (Nat×Dat)} {f : FuncId} {c : Ctr} (hs : ∀ x∈gl,x∈gl') (h : PlainOk P gl f c) : PlainOk P gl' f c :=
 fun ds k hk w R0 vals hR0 hG hD=>h ds k hk w R0 vals hR0 (fun g d hg=>hG g d (hs _ hg)) hD
theorem PlainOk.lift [Dn] {P : Program} {gl : List (Nat×Dat)} {f : FuncId} {c : Ctr} (h : PlainOk P [] f c) : PlainOk P gl f c:=PlainOk.sub' (fun x hx=>by cases hx) h
theorem own_nilrow [Dn] {P : Program} {gl : List (Nat×Dat)} {f : FuncId} {oc oc' : OCtr} (h : OwnOk P gl f oc) (e : TypeId) (t : Ty)
   (h' : ∀ args ob k,oc' args ob k→keptN args=0∧oc args ob (fun s ob'=>match s with
     | .nils=>k (.os ob'.length) (ob'++[.row e t []])
     | s=>k s ob')) : OwnOk P gl f oc':=by
 intro args ob k hc w M R0 A vals hB hrd I
 obtain ⟨h0,hc⟩:=h' _ _ _ hc
 refine (h _ _ _ hc w M R0 A vals hB hrd I).mono ?_
 rintro x w' ⟨v,s,ob1,A',rfl,hk,I2,hkeep⟩
 split at hk
 · obtain ⟨A2,I3⟩:=rowNil_ok (l:=[(0,e,.d t)]) I2
   exact ⟨v,_,_,A2,rfl,hk,I3,fun i hi=>by omega⟩
 · exact ⟨v,_,_,A',rfl,hk,I2,hkeep⟩
end Go.Vc
