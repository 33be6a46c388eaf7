/- TopOrder returns true whatever the trace and the times are, and leaves them as they were. -/
import Derived.Test.YtfmiecbmikncpaaDoorTORowZ2
import Derived.Test.YtfmiecbmikncpaaDoorTie
import Derived.Test.YtfmiecbmikncpaaDoorCards
import Derived.WalkKit
import Derived.OpenShut
import Derived.ProofKit
import Derived.LaidMore
namespace Go.Proofs.YtfmiecbmikncpaaDoor
open Go.Vc Go.ChangeShapes Go.WideShapes Go.ChangeAt Go.RowKit

theorem own : ownKnob Tryd.prog.godebug = none := by kernel_rfl
theorem laidOut : laidOutB Tryd.prog = true := by kernel_rfl

set_option maxRecDepth 100000 in
theorem topOrderContract (H : Type) (enc : TypeId × Value → H) (W : World) (base : Nat) (args : Array Value) (ds gs : List (DataW H)) (before : List MemPlace)
    (hval : ∀ (j : Nat) t v, Tryd.f3.params[j]? = some t → args[j]? = some v → Value.okWide Tryd.prog W .any base t v)
    (hW : DataW.Whole enc Tryd.prog Tryd.f3.params.toList Rows.topOrderSpec.vars false W args.toList ds gs before) (hL : laidMetH Tryd.prog Rows.topOrderRow.laid W) :
    Calls Tryd.prog 3 args W fun e W' => ∃ v, e = .returned v ∧ Rows.topOrderSpec.post enc Tryd.prog Tryd.f3 false true false false W args v W' := by
  have hlen : ∃ d1 d2, ds ++ gs = [d1, d2] ∧ ds = [d1, d2] := by
    obtain ⟨p, q, hA, hV, _⟩ := hW
    obtain ⟨rfl, rfl⟩ := trodVars_none hV
    have hA' : DataW.TrodAll enc Tryd.prog W 0 (fun _ => true) true [24, 25] args.toList ds p := hA
    obtain ⟨_, _, d1, _, _, _, _, rfl, _, _, hA'⟩ := trodAll_cons hA'
    obtain ⟨_, _, d2, _, _, _, _, rfl, _, _, hA'⟩ := trodAll_cons hA'
    obtain ⟨_, rfl, _⟩ := trodAll_nil hA'
    exact ⟨d1, d2, rfl, rfl⟩
  obtain ⟨d1, d2, hdg, rfl⟩ := hlen
  have hg : GlOk glT W (fun b => b < W.heap.size) := glOkTO hL
  refine law_okG Eh_ok laidOut (f := Tryd.f3) okLawTO (tys := [(tTr, 24), (.sl I, 25)]) (s := Rows.topOrderSpec) (tb := 4) (by kernel_rfl) (by decide) (by kernel_rfl) (by kernel_rfl) (by kernel_rfl) rfl W base args _ gs before hval hW hg ?_ ?_
  · rw [hdg]; rfl
  · intro xs hx _
    obtain ⟨x, y, rfl⟩ := types2 hx
    exact ⟨trivial, rfl⟩

theorem doorMet (os : Os) (args : Array Value) : laidMetH Tryd.prog Rows.topOrderRow.laid ((World.doorLaid Tryd.prog 400 os).forCall (fun _ _ => 0) ⟨#[], args, []⟩).memory :=
  laidMetH_of_parts3 (fuel := 8) (laidMet_of_run' 8 (by kernel_rfl) (by kernel_rfl)) (by kernel_rfl) (by kernel_rfl)

set_option maxRecDepth 100000 in
theorem topOrderLifted (os : Os) (started : os.Started) (H : Type) (enc : TypeId × Value → H) :
    ReturnsInHanded {} Tryd.checked os 3 .any (fun w args => (Rows.topOrderSpec.pre enc Tryd.prog Tryd.f3 [] false w args ∧ laidMetH Tryd.prog Rows.topOrderRow.laid w) ∧ sizedMet enc Tryd.prog Tryd.f3 (OpenSpec.ofChange Rows.topOrderSpec) false w args)
      (Rows.topOrderSpec.post enc Tryd.prog Tryd.f3 false true false false) := by
  refine returnsInHanded_of_change_and (C := Tryd.checked) (s := Rows.topOrderSpec) (X := fun w _ => laidMetH Tryd.prog Rows.topOrderRow.laid w) (fun _ _ _ hh h => h.of_heap hh) own started (by kernel_rfl) Tryd.func3
    (ChangeSpec.witness_shaped (enc := enc) (C := Tryd.checked) (os := os) (s := Rows.topOrderSpec) (X := fun w _ => laidMetH Tryd.prog Rows.topOrderRow.laid w) false (World.doorLaid Tryd.prog 400 os) #[.agg #[.int .i64 0, .slice none 0 0], .slice none 0 0] 8 rfl (World.shaped_of_RefB (by kernel_rfl) (by kernel_rfl)) (by kernel_rfl) (by kernel_rfl) (by kernel_rfl) (doorMet os _)) ?_
  intro W base args ds gs before hval hW _ _ hL _
  exact topOrderContract H enc W base args ds gs before hval hW hL

theorem topOrderRow : Rows.TopOrderSaid :=
  OpenClaim.holds_of_wide 3 Tryd.f3 rfl rfl rfl rfl rfl rfl rfl ⟨rfl, rfl, rfl, rfl, rfl⟩ rfl rfl rfl rfl rfl (by kernel_rfl) Tryd.func3 (by kernel_rfl)
    (of_decide_eq_true (by kernel_rfl)) (by unfold Func.isWrapper; first | (rw [if_pos (by decide +kernel)]; kernel_rfl) | (rw [if_neg (by decide +kernel)]; exact ⟨rfl, rfl⟩))
    (fun os started H enc _ => topOrderLifted os started H enc)

theorem topOrder : Rows.TopOrderCardSaid :=
  Claim7.holds_tied_plain_at .later [] [.data, .data] true (true, "81fa6e4f340ecee7e0a966c143f227b662ea271b72f89c38fbb615b8cfcbcc73") false
    topOrderRow (fun _ h => by cases h) (by kernel_rfl) (fun _ h => by cases h) topOrder_row_tie rfl ⟨rfl, rfl⟩ (by kernel_rfl) rfl
    (fun f fn hf hfn => by
      obtain rfl : f = 3 := Option.some.inj ((show Tryd.prog.funcNamed "whenstead/whensteadtop.TopOrder" = some 3 by kernel_rfl).symm.trans hf) |>.symm
      obtain rfl : fn = Tryd.f3 := (Option.some.inj (Tryd.func3.symm.trans hfn)).symm
      exact ⟨by kernel_rfl, fun j t ht => by
        rw [Tryd.params3] at ht
        have hm : t ∈ [24, 25] := by simpa using Array.mem_of_getElem? ht
        have hall : ([24, 25].all fun u => !Tryd.prog.wantsStandIn u) = true := by kernel_rfl
        exact (show Tryd.prog.wantsStandIn t = false by simpa using List.all_eq_true.1 hall t hm)⟩)
    (by kernel_rfl)
end Go.Proofs.YtfmiecbmikncpaaDoor
