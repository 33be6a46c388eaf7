import Derived.Test.YtfmiecbmikncpaaDoorTORowVK
import Derived.TacticsIn
import Derived.OrdersIn
import Derived.RangeFuncLeaves
namespace Go.Vc
open Go.RowKit
theorem callsIn_FW{r:Option Nat}{n:Nat}{P:Program}{f:FuncId}{args:Array Value}{w:World}{R:Ending→World→Prop}:CallsIn (FW r) n P f args w R↔Calls P f args w R :=
 (show CallsIn (FW r) n P f args w R↔CallsIn Fence.wide n P f args w R from Iff.rfl).trans callsIn_wide
theorem rowsIn_FW{r:Option Nat}{n:Nat}{P:Program}{row:String}{args:Array Value}{w:World}{R:Value→World→Prop}(h:Rows P row args w R):RowsIn (FW r) n P row args w R:=by
 intro c cs _
 obtain⟨v,w',hr,hs⟩:=h c cs
 exact⟨v,w',hr,stepsIn_wide.2 hs⟩
def noDefer(o:Oper):Bool :=
 match o.op with
 | .defer _=>false
 | _=>true
theorem wpIn_of_wp[Dn]{r:Option Nat}{n:Nat}{P:Program}{o:Oper}{a:Act}{w:World}{K:Act→World→Prop}{Q:Exit→Act→World→Prop}(hd:noDefer o=true)(h:o.wp P a w K Q):o.wpIn (FW r) n P a w K Q:=by
 unfold Oper.wp at h
 unfold Oper.wpIn
 refine⟨fun f _=>trivial,?_⟩
 rw[Oper.semAt_eq _ _ _ (fun c hc=>by simp[noDefer,hc] at hd)]
 generalize (execOp a.eval o).run P w=x at *
 have hdep:(FW r).depth.isSome=true→1≤n:=fun h=>by simp[FW,Fence.wide] at h
 cases x with
 | ok x w' =>
   cases x<;>simp only[Oper.upon,Oper.uponIn] at h ⊢
   all_goals first
     | exact h
     | exact h.elim
     | exact⟨hdep,callsIn_FW.2 h⟩
     | exact⟨hdep,rowsIn_FW h⟩
 | halt x w'=>cases x<;>simp only[Oper.upon,Oper.uponIn] at h ⊢ <;> exact h
theorem wpIn_weaken{F:Fence}{n:Nat}{P:Program}{o:Oper}{a:Act}{w:World}{K K':Act→World→Prop}{Q:Exit→Act→World→Prop}(hk:∀ a w,K a w→K' a w)(h:o.wpIn F n P a w K Q):o.wpIn F n P a w K' Q:=Oper.wpIn_mono hk h
theorem wpOpsIn_of_wpOps[Dn]{r:Option Nat}{n:Nat}{P:Program}{ops:Array Oper}{Q:Exit→Act→World→Prop}(hd:(ops.toList.all noDefer)=true)(hQ:∀ a w,¬ Q .outgrown a w):∀ (l:List Nat) (a:Act) (w:World),wpOps P ops Q l a w→wpOpsIn (FW r) n P ops Q l a w:=by
 intro l
 induction l with
 | nil=>intro a w h;exact h
 | cons i l ih =>
   intro a w h
   simp only[wpOps] at h
   simp only[wpOpsIn]
   cases ho:ops[i]? with
   | none=>simp only[ho] at h ⊢;exact ih _ _ h
   | some o =>
     simp only[ho] at h ⊢
     have hmem:o∈ops.toList:=by
       have:=Array.getElem?_eq_some_iff.1 ho
       obtain⟨hlt,rfl⟩:=this
       simp
     have hod:=List.all_eq_true.1 hd o hmem
     by_cases hw:Region.wanted o (yielded ops a.tmps)=true
     · rw[if_pos hw] at h ⊢
       rcases h with h | ⟨_,a',w',hq⟩
       · exact wpIn_weaken ih (wpIn_of_wp hod h)
       · exact absurd hq (hQ _ _)
     · rw[if_neg hw] at h ⊢
       exact⟨fun f _=>trivial,ih _ _ h⟩
def RegW(P:Program)(ops:Array Oper)(draw:Bool)(Q:Exit→Act→World→Prop)(a:Act)(w:World):Prop :=
 match draw with
 | false=>wpOps P ops Q (List.range ops.size) a w
 | true=>∀ t,wpOps P ops Q (Region.schedule (P.follows .mixedOrders) ops t) a { w with drawn:=w.drawn+1 }
theorem RegW.list{P:Program}{ops:Array Oper}{Q:Exit→Act→World→Prop}{a:Act}{w:World}(h:wpList P ops Q ops.toList a w):RegW P ops false Q a w:=by
 show wpOps P ops Q (List.range ops.size) a w
 rw[List.range_eq_range',← Array.length_toList,wpOps_eq_wpList ops.toList 0 (by simp)];exact h
theorem RegW.any{P:Program}{ops:Array Oper}{Q:Exit→Act→World→Prop}{a:Act}{w:World}(hm:P.follows .mixedOrders=true)(h:wpAny P .any ops Q ops.size (Array.replicate ops.size false) a { w with drawn:=w.drawn+1 }):RegW P ops true Q a w:=by
 intro t
 simp only[Region.schedule,hm,Bool.true_or,if_true]
 exact wpAny_sound ops.size t _ a _ h
def AnyW(P:Program)(ops:Array Oper)(Q:Exit→Act→World→Prop)(a:Act)(w:World):Prop :=
 wpAny P .any ops Q ops.size (Array.replicate ops.size false) a { w with drawn:=w.drawn+1 }
theorem AnyW.mk{P:Program}{ops:Array Oper}{Q:Exit→Act→World→Prop}{a:Act}{w:World}(h:wpAny P .any ops Q ops.size (Array.replicate ops.size false) a { w with drawn:=w.drawn+1 }):AnyW P ops Q a w:=h
theorem AnyW.quiet[Dn]{P:Program}{ops:Array Oper}{C:World→Prop}{Q:Exit→Act→World→Prop}{a:Act}{w:World}(hB:Region.lexB .any ops=true)(hC:C { w with drawn:=w.drawn+1 })
   (h:wpQuiet P ops C (fun a'=>∀ w',C w'→Q .normal a' w') ops.toList a):AnyW P ops Q a w:=by
 simp only[Region.lexB,Bool.and_eq_true] at hB
 refine AnyW.mk (wpAny_of_quiet (Q:=fun a'=>∀ w',C w'→Q .normal a' w') (fun _ w' hw' h=>h w' hw') _ _ _ _ hC ?_)
 have:=wpAnyQ_lex (C:=C) (md := .any) hB.1 ops.toList 0 (Array.replicate ops.size false) a (by simp) (by simpa using hB.2) h
 simpa using this
theorem RegW.quiet[Dn]{P:Program}{ops:Array Oper}{C:World→Prop}{Q:Exit→Act→World→Prop}{a:Act}{w:World}(hm:P.follows .mixedOrders=true)(hB:Region.lexB .any ops=true)(hC:C { w with drawn:=w.drawn+1 })
   (h:wpQuiet P ops C (fun a'=>∀ w',C w'→Q .normal a' w') ops.toList a):RegW P ops true Q a w:=by
 simp only[Region.lexB,Bool.and_eq_true] at hB
 refine RegW.any hm (wpAny_of_quiet (Q:=fun a'=>∀ w',C w'→Q .normal a' w') (fun _ w' hw' h=>h w' hw') _ _ _ _ hC ?_)
 have:=wpAnyQ_lex (C:=C) (md := .any) hB.1 ops.toList 0 (Array.replicate ops.size false) a (by simp) (by simpa using hB.2) h
 simpa using this
theorem RegW.wpIn[Dn]{r:Option Nat}{n:Nat}{P:Program}{id:Nat}{ops:Array Oper}{draw:Bool}{Q:Exit→Act→World→Prop}{a:Act}{w:World}(hd:(ops.toList.all noDefer)=true)(hQ:∀ a w,¬ Q .outgrown a w)(h:RegW P ops draw Q a w):(Code.region id ops draw).wpIn (FW r) n P Q a w:=by
 cases draw with
 | false=>exact wpIn_region (wpOpsIn_of_wpOps hd hQ _ _ _ h)
 | true=>exact wpIn_region_draw fun t=>wpOpsIn_of_wpOps hd hQ _ _ _ (h t)
end Go.Vc
