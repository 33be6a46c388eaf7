import Derived.Test.YtfmiecbmikncpaaDoorTORowVW
namespace Go.Vc
open Go.RowKit
def nilE(E:Env)(st:St)(T:TypeId)(x:Operand):Option Prop :=
 match E.ty T with
 | some (.sl t)=>match elems st t (st.ev E x) with
   | some xs=>some (xs=[])
   | none=>none
 | _=>none
def isNilS:Operand→Bool
 | .const (.slice none _ _)=>true
 | _=>false
def nilC(E:Env)(st:St):Op→Option (Bool×Prop)
 | .binOp .eql T x y _=>match isNilS y with
   | true=>match nilE E st T x with
     | some e=>some (false,e)
     | none=>none
   | false=>none
 | .binOp .neq T x y _=>match isNilS y with
   | true=>match nilE E st T x with
     | some e=>some (true,e)
     | none=>none
   | false=>none
 | _=>none
theorem eqGuard_slice{op:BinOp}{T:TypeId}{x y:Operand}{A B:Option Addr}{n c m d:Nat}:eqGuard op T x y (.slice A n c) (.slice B m d)=pure ():=by
 unfold eqGuard
 cases op<;>rfl
theorem equalIn_nil{P:Program}{T e:TypeId}(hu:P.underlying T=some (.slice e)){A:Option Addr}{n c m d:Nat}(w:World)(k:Nat):(Op.equalIn (k+1) T (.slice A n c) (.slice none m d)).run P w = .ok A.isNone w:=by
 cases A<;>simp[Op.equalIn,run_underlying hu]
theorem equal_nil[Dn]{P:Program}{T e:TypeId}(hu:P.underlying T=some (.slice e)){A:Option Addr}{n c m d:Nat}(w:World):(Op.equal T (.slice A n c) (.slice none m d)).run P w = .ok A.isNone w:=by
 exact equalIn_nil hu w 9999
def nb:Bool→Bool→Bool
 | true,b => !b
 | false,b=>b
theorem nilC_ok[Dn]{P:Program}{E:Env}(hE:EnvOk P E){w0:World}{M:Ms}{R0:Nat→Prop}{A:Asg}{st:St}{a:Act}{w:World}(I:Inv w0 M R0 A st a w){op:Op}{neg:Bool}{e:Prop}(h:nilC E st op=some (neg,e)){dst:Option Nat}{type:TypeId}{pos:String}{after:Array Edge}{guard:Option (Nat×Bool)} :
   ∃ b:Bool,(b=true→e)∧(execOp a.eval ⟨dst,op,type,pos,after,guard⟩).run P w = .ok (.value (.bool (nb neg b))) w:=by
 have key:∀ {T:TypeId} {x y:Operand} {e:Prop},isNilS y=true→nilE E st T x=some e→∃ b:Bool,(b=true→e)∧∃ v k,a.eval x=v∧a.eval y=k∧(∀ op,eqGuard op T x y v k=pure ())∧(Op.equal T v k).run P w = .ok b w∧binOp .eql T v k=(do pure (.bool (← Op.equal T v k)))∧binOp .neq T v k=(do pure (.bool (!(← Op.equal T v k)))):=by
   intro T x y e hy he
   unfold nilE at he
   split at he
   · rename_i t ht
     split at he
     · rename_i xs hx
       injection he with he;subst he
       obtain⟨Ad,c,css,hv,_,_,_,hcell⟩:=elems_ok I hx (I.ev (E:=E) x)
       obtain⟨_,e',hu',_⟩:=hE.ty _ _ ht
       unfold isNilS at hy
       split at hy
       · rename_i m d
         refine⟨Ad.isNone,fun hb => ?_,_,_,hv,rfl,fun op=>eqGuard_slice,equal_nil hu' w,rfl,rfl⟩
         by_cases hne:xs=[]
         · exact hne
         · obtain⟨ad,e1,_⟩:=hcell hne
           rw[e1] at hb;cases hb
       · cases hy
     · cases he
   · cases he
 have mkE:∀ {T:TypeId} {x y:Operand} {ty:TypeId} {e:Prop},isNilS y=true→nilE E st T x=some e→∃ b:Bool,(b=true→e)∧(execOp a.eval ⟨dst,Op.binOp .eql T x y ty,type,pos,after,guard⟩).run P w = .ok (.value (.bool (nb false b))) w:=by
   intro T x y ty e hy he
   obtain⟨b,hb,v,k,hv,hk,hg,hr,e1,e2⟩:=key hy he
   refine⟨b,hb,?_⟩
   rw[show (execOp a.eval ⟨dst,Op.binOp .eql T x y ty,type,pos,after,guard⟩)=(do pure (.value (← (do eqGuard .eql T x y (a.eval x) (a.eval y);binOp .eql T (a.eval x) (a.eval y):Sem Value)))) from rfl,hv,hk,hg,e1]
   simp[hr,nb]
 have mkN:∀ {T:TypeId} {x y:Operand} {ty:TypeId} {e:Prop},isNilS y=true→nilE E st T x=some e→∃ b:Bool,(b=true→e)∧(execOp a.eval ⟨dst,Op.binOp .neq T x y ty,type,pos,after,guard⟩).run P w = .ok (.value (.bool (nb true b))) w:=by
   intro T x y ty e hy he
   obtain⟨b,hb,v,k,hv,hk,hg,hr,e1,e2⟩:=key hy he
   refine⟨b,hb,?_⟩
   rw[show (execOp a.eval ⟨dst,Op.binOp .neq T x y ty,type,pos,after,guard⟩)=(do pure (.value (← (do eqGuard .neq T x y (a.eval x) (a.eval y);binOp .neq T (a.eval x) (a.eval y):Sem Value)))) from rfl,hv,hk,hg,e2]
   simp[hr,nb]
 cases op with
 | binOp bo T x y ty =>
   cases bo with
   | eql =>
     simp only[nilC] at h
     split at h
     · rename_i hy
       split at h
       · rename_i e' he
         injection h with h;injection h with h1 h2;subst h1;subst h2
         exact mkE hy he
       · cases h
     · cases h
   | neq =>
     simp only[nilC] at h
     split at h
     · rename_i hy
       split at h
       · rename_i e' he
         injection h with h;injection h with h1 h2;subst h1;subst h2
         exact mkN hy he
       · cases h
     · cases h
   | _=>simp[nilC] at h
 | _=>simp[nilC] at h
def bsl0(E:Env)(st:St)(T:TypeId)(dst:Option Nat)(k:St→Prop):Prop :=
 match E.ty T,E.el T with
 | some (.sl t),some e=>if 0<t.size∧t.size≤64 then k ((st.push (.row e t [])).put dst (.os st.ob.length)) else False
 | _,_=>False
theorem bsl0_ok[Dn]{P:Program}{E:Env}(hE:EnvOk P E){w0:World}{M:Ms}{R0:Nat→Prop}{A:Asg}{st:St}{a:Act}{w:World}(I:Inv w0 M R0 A st a w){T:TypeId}{dst:Option Nat}{k:St→Prop}
   (h:bsl0 E st T dst k):∃ A' st' v w',k st'∧Inv w0 M R0 A' st' (a.put dst v) w'∧(Instr.buildSlice T 0 #[]).run P w = .ok v w':=by
 unfold bsl0 at h
 split at h
 · rename_i t e ht he
   split at h
   · rename_i hsz
     obtain⟨_,e',hu',hfe⟩:=hE.ty _ _ ht
     have hu:=hE.el _ _ he
     rw[hu] at hu';injection hu' with hu';injection hu' with hu';subst hu'
     have hr:(Instr.buildSlice T 0 #[]).run P w = .ok (.slice (some ⟨w.heap.size,0,none⟩) 0 0) (w.alloc (.cells #[] e)):=by
       simp[Instr.buildSlice,run_underlying hu,hfe.size w,Instr.fill,newRow]
       exact congrArg (fun c=>w.alloc (Obj.cells c e)) (by apply Array.toList_inj.1;simp[Array.range])
     obtain⟨A',hI⟩:=I.newRow none (e:=e) (t:=t) (xs:=[]) (v := .slice (some ⟨w.heap.size,0,none⟩) 0 0) (css:=[]) (Same.alloc w _)
       (w':=w.alloc (.cells #[] e)) (fun b hb _=>Ext.alloc w _ b hb)
       (fun b hb => .inl (by simp only[Value.ownBlock,Option.some.injEq] at hb;subst hb;simp)) ⟨rfl,fun i x u hx hu=>by simp at hx⟩
       ⟨by simp,.inr ⟨w.heap.size,0,_,by simp,Nat.zero_le _,heap_alloc_new w _,by simp,by simp[maxLen],by simp,by simp⟩⟩ dst
     exact⟨A',_,_,_,h,hI,hr⟩
   · exact h.elim
 · exact h.elim
end Go.Vc
