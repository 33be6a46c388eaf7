import Derived.Test.YtfmiecbmikncpaaDoorTORowVK
namespace Go.Vc
open Go.RowKit
def Pk(F:(SV→Prop)→Prop):Prop:=∀ k,F k→∃ s,k s∧∀ k':SV→Prop,k' s→F k'
theorem pk_ldD{o:Option Dat}{t:Ty}:Pk fun k=>ldD o t k:=by
 intro k h
 simp only[ldD] at h ⊢
 split at h
 · split at h
   · rename_i ht;exact⟨_,h,fun k' hk=>by rw[if_pos ht];exact hk⟩
   · exact h.elim
 · exact h.elim
theorem pk_get{F:(SV→Prop)→(u:Ot)→u.D→Prop}(hF:∀ u y,Pk fun k=>F k u y):∀ {u:Ot} {x:u.D} {p:List Nat},Pk fun k=>u.get x p (F k)
 | .d t,x,[]=>hF _ _
 | .sl e u,x,[]=>hF _ _
 | .sl e u,xs,n::p=>by
   intro k h
   obtain⟨h1,h2⟩:=h
   obtain⟨s,hs,hs'⟩:=pk_get hF (u:=u) k h2
   exact⟨s,hs,fun k' hk=>⟨h1,hs' k' hk⟩⟩
 | .d t,x,_::_=>fun _ h=>h.elim
theorem pk_ldC[Dn]{s:SV}{t0 t:Ty}{q:List Nat}:Pk fun k=>ldC s t0 t q k:=by
 intro k h
 simp only[ldC] at h ⊢
 split at h
 · split at h
   · rename_i ht
     simp only[ht,if_true];exact pk_ldD k h
   · exact h.elim
 · split at h
   · split at h
     · exact h.elim
     · rename_i ht;exact⟨_,h,fun k' hk=>by rw[if_neg ht];exact hk⟩
   · exact h.elim
theorem pk_ldT[Dn]{t0 t:Ty}{i:Nat}{p:List Nat}{kk:Nat}{q:List Nat}{u:Ot}{y:u.D}:Pk fun k=>ldT t0 t i p kk q k u y:=by
 intro k h
 unfold ldT at h
 split at h
 · rename_i e1 t1 ys
   obtain⟨h1,h⟩:=h
   split at h
   · rename_i ht
     obtain⟨s,hs,hs'⟩:=pk_ldD k h
     refine⟨s,hs,fun k' hk => ?_⟩
     simp only[ldT]
     exact⟨h1,by rw[if_pos ht];exact hs' k' hk⟩
   · exact h.elim
 · rename_i e1 e2 u2 ys
   obtain⟨h1,h⟩:=h
   split at h
   · rename_i ht
     split at h
     · split at h
       · exact h.elim
       · rename_i ha
         refine⟨_,h,fun k' hk => ?_⟩
         simp only[ldT]
         exact⟨h1,by rw[if_pos ht,if_neg ha];exact hk⟩
     · exact h.elim
   · exact h.elim
 · exact h.elim
theorem pk_ldP{t u:Ty}{x:u.D}:Pk fun k=>ldP t k u x:=by
 intro k h
 unfold ldP at h
 split at h
 · split at h
   · split at h
     · rename_i ht
       refine⟨_,h,fun k' hk => ?_⟩
       simp only[ldP]
       rw[if_pos ht];exact hk
     · exact h.elim
   · exact h.elim
 · exact h.elim
theorem pk_ldS{t:Ty}{l:List SV}:Pk fun k=>ldS t l k:=by
 intro k h
 simp only[ldS] at h ⊢
 split at h
 · rename_i ha
   simp only[if_pos ha]
   split at h
   · exact⟨_,h,fun k' hk=>hk⟩
   · split at h
     · rename_i hl
       exact⟨_,h,fun k' hk=>by rw[if_pos hl];exact hk⟩
     · exact h.elim
 · exact h.elim
theorem pk_ld[Dn]{st:St}{t:Ty}{s:SV}:Pk fun k=>ld st t k s:=by
 intro k h
 cases s<;>simp only[ld] at h ⊢
 all_goals try exact h.elim
 · exact pk_ldP k h
 · split at h
   · split at h
     · rename_i ht
       simp only[ht,if_true];exact pk_ldD k h
     · exact h.elim
   · split at h
     · exact pk_ldC k h
     · exact h.elim
   · exact h.elim
 · split at h
   · split at h
     · rename_i ht
       simp only[ht,if_true];exact pk_ldD k h
     · exact h.elim
   · exact h.elim
 · split at h
   · rename_i ht;exact⟨_,h,fun k' hk=>by rw[if_pos ht];exact hk⟩
   · exact h.elim
 · split at h
   · exact pk_ldS k h
   · exact h.elim
 · split at h
   · split at h
     · exact pk_ldC k h
     · exact h.elim
   · exact h.elim
 · split at h
   · exact pk_get (fun u y=>pk_ldT) k h
   · exact h.elim
theorem pk_fa{ts:Ty}{f:Nat}{s:SV}:Pk fun k=>fa ts f k s:=by
 intro k h
 cases s<;>simp only[fa] at h ⊢
 all_goals try exact h.elim
 · split at h
   · split at h
     · rename_i ht;exact⟨_,h,fun k' hk=>by rw[if_pos ht];exact hk⟩
     · exact h.elim
   · exact h.elim
 · split at h
   · split at h
     · rename_i ht;exact⟨_,h,fun k' hk=>by rw[if_pos ht];exact hk⟩
     · exact h.elim
   · exact h.elim
 · split at h
   · rename_i ht
     simp only[if_pos ht]
     split at h
     · exact⟨_,h,fun k' hk=>hk⟩
     · exact h.elim
   · exact h.elim
 · split at h
   · split at h
     · rename_i ht;exact⟨_,h,fun k' hk=>by rw[if_pos ht];exact hk⟩
     · exact h.elim
   · exact h.elim
 · split at h
   · split at h
     · rename_i ht;exact⟨_,h,fun k' hk=>by rw[if_pos ht];exact hk⟩
     · exact h.elim
   · exact h.elim
 · split at h
   · split at h
     · rename_i ht;exact⟨_,h,fun k' hk=>by rw[if_pos ht];exact hk⟩
     · exact h.elim
   · exact h.elim
theorem pk_ari{op:BinOp}{kk:IntKind}{a b:Int}:Pk fun k=>ari op kk a b k:=by
 intro k h
 cases op<;>simp only[ari] at h ⊢
 all_goals first
   | exact h.elim
   | exact⟨_,h,fun k' hk=>hk⟩
   | exact⟨_,h.2,fun k' hk=>⟨h.1,hk⟩⟩
   | exact⟨_,h.2.2,fun k' hk=>⟨h.1,h.2.1,hk⟩⟩
   | (split at h
      · rename_i ht;exact⟨_,h.2.2,fun k' hk=>by rw[if_pos ht];exact⟨h.1,h.2.1,hk⟩⟩
      · exact h.elim)
theorem pk_shf{op:BinOp}{kk:IntKind}{a b:Int}:Pk fun k=>shf op kk a b k:=by
 intro k h
 cases op<;>simp only[shf] at h ⊢
 all_goals first
   | exact h.elim
   | exact⟨_,h.2.2.2.2,fun k' hk=>⟨h.1,h.2.1,h.2.2.1,h.2.2.2.1,hk⟩⟩
theorem pk_cmp{eqT:TypeId→Bool}{neg:Bool}{T:TypeId}{t:Ty}{nil:Bool}{s1 s2:SV}:Pk fun k=>cmp eqT neg T t nil s1 s2 k:=by
 intro k h
 simp only[cmp] at h ⊢
 split at h
 · split at h
   · rename_i ht;exact⟨_,h,fun k' hk=>by rw[if_pos ht];exact hk⟩
   · exact h.elim
 · split at h
   · split at h
     · rename_i ht;exact⟨_,h,fun k' hk=>by rw[if_pos ht];exact hk⟩
     · exact h.elim
   · exact⟨_,h,fun k' hk=>hk⟩
   · split at h
     · rename_i h1
       split at h
       · rename_i ht;exact⟨_,h,fun k' hk=>by rw[dif_pos h1,if_pos ht];exact hk⟩
       · exact h.elim
     · exact h.elim
   · exact h.elim
theorem pk_ix{tT:Ty}{n:Int}{s:SV}:Pk fun k=>ix tT n k s:=by
 intro k h
 simp only[ix] at h ⊢
 split at h
 · split at h
   · rename_i ht;exact⟨_,h.2.2,fun k' hk=>by rw[if_pos ht];exact⟨h.1,h.2.1,hk⟩⟩
   · exact h.elim
 · split at h
   · rename_i ht;exact⟨_,h.2.2,fun k' hk=>by rw[if_pos ht];exact⟨h.1,h.2.1,hk⟩⟩
   · exact h.elim
 · exact h.elim
theorem pk_iaT{tT:Ty}{n:Int}{i:Nat}{p:List Nat}{u:Ot}{y:u.D}:Pk fun k=>iaT tT n i p k u y:=by
 intro k h
 unfold iaT at h
 split at h
 · split at h
   · rename_i ht
     refine⟨_,h.2.2,fun k' hk => ?_⟩
     simp only[iaT]
     rw[if_pos ht];exact⟨h.1,h.2.1,hk⟩
   · exact h.elim
 · exact h.elim
theorem pk_ia[Dn]{st:St}{tT:Ty}{n:Int}{s:SV}:Pk fun k=>ia st tT n k s:=by
 intro k h
 simp only[ia] at h ⊢
 split at h
 · split at h
   · split at h
     · rename_i ht;exact⟨_,h.2.2,fun k' hk=>by rw[if_pos ht];exact⟨h.1,h.2.1,hk⟩⟩
     · exact h.elim
   · split at h
     · rename_i ht;exact⟨_,h.2.2,fun k' hk=>by rw[if_pos ht];exact⟨h.1,h.2.1,hk⟩⟩
     · exact h.elim
   · exact h.elim
 · split at h
   · split at h
     · rename_i ht;exact⟨_,h.2.2,fun k' hk=>by rw[if_pos ht];exact⟨h.1,h.2.1,hk⟩⟩
     · exact h.elim
   · exact h.elim
 · split at h
   · exact pk_get (fun u y=>pk_iaT) k h
   · exact h.elim
 · split at h
   · split at h
     · rename_i ht;exact⟨_,h.2.2,fun k' hk=>by rw[if_pos ht];exact⟨h.1,h.2.1,hk⟩⟩
     · exact h.elim
   · exact h.elim
 · split at h
   · split at h
     · rename_i ht;exact⟨_,h.2.2,fun k' hk=>by rw[if_pos ht];exact⟨h.1,h.2.1,hk⟩⟩
     · exact h.elim
   · exact h.elim
 · split at h
   · rename_i ht;exact⟨_,h.2.2,fun k' hk=>by rw[if_pos ht];exact⟨h.1,h.2.1,hk⟩⟩
   · exact h.elim
 · split at h
   · split at h
     · rename_i ht;exact⟨_,h.2.2,fun k' hk=>by rw[if_pos ht];exact⟨h.1,h.2.1,hk⟩⟩
     · exact h.elim
   · exact h.elim
 · split at h
   · split at h
     · rename_i ht;exact⟨_,h.2.2,fun k' hk=>by rw[if_pos ht];exact⟨h.1,h.2.1,hk⟩⟩
     · exact h.elim
   · exact h.elim
 · split at h
   · rename_i ht;exact⟨_,h.2.2,fun k' hk=>by rw[if_pos ht];exact⟨h.1,h.2.1,hk⟩⟩
   · exact h.elim
 · exact h.elim
theorem pk_lnT{u:Ot}{y:u.D}:Pk fun k=>lnT k u y:=by
 intro k h
 unfold lnT at h
 split at h
 · exact⟨_,h,fun k' hk=>by simp only[lnT];exact hk⟩
 · exact h.elim
theorem pk_ln[Dn]{st:St}{tT:Ty}{s:SV}:Pk fun k=>ln st tT k s:=by
 intro k h
 simp only[ln] at h ⊢
 split at h
 · split at h
   · exact⟨_,h,fun k' hk=>hk⟩
   · exact⟨_,h,fun k' hk=>hk⟩
   · exact h.elim
 · split at h
   · exact⟨_,h,fun k' hk=>hk⟩
   · exact h.elim
 · split at h
   · exact pk_get (fun u y=>pk_lnT) k h
   · exact h.elim
 all_goals first
   | exact h.elim
   | (split at h
      · exact⟨_,h,fun k' hk=>hk⟩
      · exact h.elim)
theorem pk_cut3{tT:Ty}{lo:Option Int}{hi mx:Int}{s:SV}:Pk fun k=>cut3 tT lo hi mx k s:=by
 intro k h
 simp only[cut3] at h ⊢
 split at h
 · split at h
   · rename_i ht;exact⟨_,h.2.2.2.2,fun k' hk=>by rw[if_pos ht];exact⟨h.1,h.2.1,h.2.2.1,h.2.2.2.1,hk⟩⟩
   · exact h.elim
 · exact h.elim
theorem pk_nck{s:SV}:Pk fun k=>nck k s:=by
 intro k h
 simp only[nck] at h ⊢
 split at h
 all_goals first
   | exact h.elim
   | exact⟨_,h,fun k' hk=>hk⟩
theorem pk_cut{tT:Ty}{lo hi:Option Int}{s:SV}:Pk fun k=>cut tT lo hi k s:=by
 intro k h
 simp only[cut] at h ⊢
 split at h
 · split at h
   · rename_i ht;exact⟨_,h.2.2.2,fun k' hk=>by rw[if_pos ht];exact⟨h.1,h.2.1,h.2.2.1,hk⟩⟩
   · exact h.elim
 · split at h
   · rename_i ht;exact⟨_,h.2.2.2,fun k' hk=>by rw[if_pos ht];exact⟨h.1,h.2.1,h.2.2.1,hk⟩⟩
   · exact h.elim
 · split at h
   · rename_i ht;exact⟨_,h.2.2.2,fun k' hk=>by rw[if_pos ht];exact⟨h.1,h.2.1,h.2.2.1,hk⟩⟩
   · exact h.elim
 · exact h.elim
theorem pk_bop[Dn]{E:Env}{op:BinOp}{T:TypeId}{y:Operand}{s1 s2:SV}:Pk fun k=>bop E op T y s1 s2 k:=by
 intro k h
 simp only[bop] at h ⊢
 split at h
 · split at h
   · exact pk_shf k h
   · exact pk_shf k h
   · split at h
     · rename_i ht
       simp only[if_pos ht];exact pk_ari k h
     · exact h.elim
 · split at h
   · split at h
     · exact pk_cmp k h
     · exact h.elim
   · split at h
     · exact pk_cmp k h
     · exact h.elim
   · split at h
     · exact⟨_,h.2,fun k' hk=>⟨h.1,hk⟩⟩
     · exact h.elim
   · exact h.elim
theorem pk_qop0[Dn]{E:Env}{st:St}{op:Op}:Pk fun k=>qop0 E st op k:=by
 intro k h
 simp only[qop0] at h ⊢
 split at h
 · exact⟨_,h,fun k' hk=>hk⟩
 · exact⟨_,h,fun k' hk=>hk⟩
 · split at h
   · exact⟨_,h,fun k' hk=>hk⟩
   · exact⟨_,h,fun k' hk=>hk⟩
   · rename_i b _
     cases b
     · exact⟨_,h.2 rfl,fun k' hk=>And.intro (fun h=>by cases h) (fun _=>hk)⟩
     · exact⟨_,h.1 rfl,fun k' hk=>And.intro (fun _=>hk) (fun h=>by cases h)⟩
   · exact h.elim
 · exact pk_nck k h
 · split at h
   · rename_i ht
     simp only[if_pos ht]
     split at h
     · exact⟨_,h,fun k' hk=>hk⟩
     · exact h.elim
   · exact h.elim
 · split at h
   · exact pk_ld k h
   · exact h.elim
 · split at h
   · exact pk_fa k h
   · exact h.elim
 · split at h
   · exact pk_ia k h
   · exact h.elim
 · split at h
   · exact pk_ix k h
   · exact h.elim
 · split at h
   · exact⟨_,h,fun k' hk=>hk⟩
   · exact⟨_,h,fun k' hk=>hk⟩
   · exact h.elim
 · split at h
   · exact⟨_,h.2,fun k' hk=>⟨h.1,hk⟩⟩
   · exact h.elim
 · split at h
   · split at h
     · exact⟨_,h,fun k' hk=>hk⟩
     · exact h.elim
   · exact h.elim
 · split at h
   · rename_i ht
     simp only[if_pos ht]
     split at h
     · exact⟨_,h.2,fun k' hk=>⟨h.1,hk⟩⟩
     · exact h.elim
   · exact h.elim
 · split at h
   · exact⟨_,h.2,fun k' hk=>⟨h.1,hk⟩⟩
   · exact⟨_,h,fun k' hk=>hk⟩
   · exact h.elim
 · split at h
   · exact pk_cut k h
   · exact h.elim
 · split at h
   · exact pk_cut3 k h
   · exact h.elim
 · split at h
   · split at h
     · rename_i ht
       simp only[if_pos ht]
       split at h
       · exact⟨_,h,fun k' hk=>hk⟩
       · split at h
         · rename_i ht2
           simp only[if_pos ht2]
           split at h
           · exact⟨_,h,fun k' hk=>hk⟩
           · exact h.elim
         · exact h.elim
     · exact h.elim
   · exact h.elim
 · exact pk_bop k h
 · split at h
   · split at h
     · exact pk_ln k h
     · exact h.elim
   · split at h
     · split at h
       · exact⟨_,h,fun k' hk=>hk⟩
       · exact h.elim
     · exact h.elim
   · split at h
     · split at h
       · exact⟨_,h,fun k' hk=>hk⟩
       · exact h.elim
     · exact h.elim
   · exact h.elim
 · exact h.elim
theorem pk_qop[Dn]{E:Env}{st:St}{op:Op}:Pk fun k=>qop E st op k:=by
 intro k h
 unfold qop at h ⊢
 split at h
 · exact⟨_,h,fun k' hk=>hk⟩
 · exact pk_qop0 k h
theorem pk_bslv{E:Env}{T:TypeId}{len:Nat}{parts:List (Nat×SV)}:Pk fun k=>bslv E T len parts k:=by
 intro k h
 simp only[bslv] at h ⊢
 split at h
 · split at h
   · rename_i ht
     simp only[if_pos ht]
     split at h
     · exact⟨_,h,fun k' hk=>hk⟩
     · exact h.elim
   · exact h.elim
 · exact h.elim
theorem pk_apv{E:Env}{st:St}{T:TypeId}{s x:SV}:Pk fun k=>apv E st T s x k:=by
 intro k h
 simp only[apv] at h ⊢
 split at h
 · split at h
   · rename_i ht
     simp only[if_pos ht]
     split at h
     · split at h
       · split at h
         · rename_i hh
           subst hh
           obtain⟨h1,h2⟩:=h
           exact⟨_,h2,fun k' hk=>by simp only[dite_true];exact⟨h1,hk⟩⟩
         · exact h.elim
       · exact h.elim
     · exact h.elim
   · exact h.elim
 · exact h.elim
theorem pk_mkv{E:Env}{T:TypeId}{n m:Int}:Pk fun k=>mkv E T n m k:=by
 intro k h
 simp only[mkv] at h ⊢
 split at h
 · split at h
   · rename_i hs
     obtain⟨h0,h1,h2,h3⟩:=h
     exact⟨_,h3,fun k' hk=>by rw[if_pos hs];exact⟨h0,h1,h2,hk⟩⟩
   · exact h.elim
 · exact h.elim
end Go.Vc
