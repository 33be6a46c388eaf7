/- QuorumSays returns true whatever it is handed, and leaves it as it was. -/
import Derived.Test.YtlopkkoenfngiaaDoorQSRowZ3
import Derived.Test.YtlopkkoenfngiaaDoorTie
import Derived.Test.YtlopkkoenfngiaaDoorCards
import Derived.WalkKit
import Derived.OpenShut
import Derived.ProofKit
import Derived.LaidMore
namespace Go.Proofs.YtlopkkoenfngiaaDoor
open Go.Vc Go.ChangeShapes Go.WideShapes Go.ChangeAt Go.RowKit

theorem own : ownKnob Tryd.prog.godebug = none := by kernel_rfl
theorem laidOut : laidOutB Tryd.prog = true := by kernel_rfl

set_option maxRecDepth 100000 in
theorem quorumSaysContract (H : Type) (enc : TypeId × Value → H) (W : World) (base : Nat) (args : Array Value) (ds gs : List (DataW H)) (before : List MemPlace)
    (hval : ∀ (j : Nat) t v, Tryd.f7.params[j]? = some t → args[j]? = some v → Value.okWide Tryd.prog W .any base t v)
    (hW : DataW.Whole enc Tryd.prog Tryd.f7.params.toList Rows.quorumSaysSpec.vars false W args.toList ds gs before) (hL : laidMetH Tryd.prog Rows.quorumSaysRow.laid W) :
    Calls Tryd.prog 7 args W fun e W' => ∃ v, e = .returned v ∧ Rows.quorumSaysSpec.post enc Tryd.prog Tryd.f7 false true false false W args v W' := by
  have hlen : ∃ d1 d2 d3 d4 d5, ds ++ gs = [d1, d2, d3, d4, d5] ∧ ds = [d1, d2, d3, d4, d5] := by
    obtain ⟨p, q, hA, hV, _⟩ := hW
    obtain ⟨rfl, rfl⟩ := trodVars_none hV
    have hA' : DataW.TrodAll enc Tryd.prog W 0 (fun _ => true) true [3, 22, 3, 22, 3] args.toList ds p := hA
    obtain ⟨_, _, d1, _, _, _, _, rfl, _, _, hA'⟩ := trodAll_cons hA'
    obtain ⟨_, _, d2, _, _, _, _, rfl, _, _, hA'⟩ := trodAll_cons hA'
    obtain ⟨_, _, d3, _, _, _, _, rfl, _, _, hA'⟩ := trodAll_cons hA'
    obtain ⟨_, _, d4, _, _, _, _, rfl, _, _, hA'⟩ := trodAll_cons hA'
    obtain ⟨_, _, d5, _, _, _, _, rfl, _, _, hA'⟩ := trodAll_cons hA'
    obtain ⟨_, rfl, _⟩ := trodAll_nil hA'
    exact ⟨d1, d2, d3, d4, d5, rfl, rfl⟩
  obtain ⟨d1, d2, d3, d4, d5, hdg, rfl⟩ := hlen
  have hg : GlOk glA W (fun b => b < W.heap.size) := glOkQ hL
  refine law_okG En_ok laidOut (f := Tryd.f7) okQSay (tys := [(I, 3), (.sl I, 22), (I, 3), (.sl I, 22), (I, 3)]) (s := Rows.quorumSaysSpec) (tb := 4) (by kernel_rfl) (by decide) (by kernel_rfl) (by kernel_rfl) (by kernel_rfl) rfl W base args _ gs before hval hW hg ?_ ?_
  · rw [hdg]; rfl
  · intro xs hx _
    obtain ⟨x, y, z, u, v, rfl⟩ := types5 hx
    exact ⟨trivial, rfl⟩

theorem doorMet (os : Os) (args : Array Value) : laidMetH Tryd.prog Rows.quorumSaysRow.laid ((World.doorLaid Tryd.prog 400 os).forCall (fun _ _ => 0) ⟨#[], args, []⟩).memory :=
  laidMetH_of_parts3 (fuel := 8) (laidMet_of_run' 8 (by kernel_rfl) (by kernel_rfl)) (by kernel_rfl) (by kernel_rfl)

set_option maxRecDepth 100000 in
theorem quorumSaysLifted (os : Os) (started : os.Started) (H : Type) (enc : TypeId × Value → H) :
    ReturnsInHanded {} Tryd.checked os 7 .any (fun w args => (Rows.quorumSaysSpec.pre enc Tryd.prog Tryd.f7 [] false w args ∧ laidMetH Tryd.prog Rows.quorumSaysRow.laid w) ∧ sizedMet enc Tryd.prog Tryd.f7 (OpenSpec.ofChange Rows.quorumSaysSpec) false w args)
      (Rows.quorumSaysSpec.post enc Tryd.prog Tryd.f7 false true false false) := by
  refine returnsInHanded_of_change_and (C := Tryd.checked) (s := Rows.quorumSaysSpec) (X := fun w _ => laidMetH Tryd.prog Rows.quorumSaysRow.laid w) (fun _ _ _ hh h => h.of_heap hh) own started (by kernel_rfl) Tryd.func7
    (ChangeSpec.witness_shaped (enc := enc) (C := Tryd.checked) (os := os) (s := Rows.quorumSaysSpec) (X := fun w _ => laidMetH Tryd.prog Rows.quorumSaysRow.laid w) false (World.doorLaid Tryd.prog 400 os) #[.int .i64 0, .slice none 0 0, .int .i64 0, .slice none 0 0, .int .i64 0] 8 rfl (World.shaped_of_RefB (by kernel_rfl) (by kernel_rfl)) (by kernel_rfl) (by kernel_rfl) (by kernel_rfl) (doorMet os _)) ?_
  intro W base args ds gs before hval hW _ _ hL _
  exact quorumSaysContract H enc W base args ds gs before hval hW hL

theorem quorumSaysRow : Rows.QuorumSaysSaid :=
  OpenClaim.holds_of_wide 7 Tryd.f7 rfl rfl rfl rfl rfl rfl rfl ⟨rfl, rfl, rfl, rfl, rfl⟩ rfl rfl rfl rfl rfl (by kernel_rfl) Tryd.func7 (by kernel_rfl)
    (of_decide_eq_true (by kernel_rfl)) (by unfold Func.isWrapper; first | (rw [if_pos (by decide +kernel)]; kernel_rfl) | (rw [if_neg (by decide +kernel)]; exact ⟨rfl, rfl⟩))
    (fun os started H enc _ => quorumSaysLifted os started H enc)

theorem quorumSays : Rows.QuorumSaysCardSaid :=
  Claim7.holds_tied_plain_at .later [] [.data, .data, .handle] true (true, "6e53e5e2e7f0318059a329c0892496c04869feaafea329c5ae51f6ca793f3c34") true
    quorumSaysRow (fun _ h => by cases h) (by kernel_rfl) (fun _ h => by cases h) quorumSays_row_tie rfl ⟨rfl, rfl⟩ (by kernel_rfl) rfl
    (fun f fn hf hfn => by
      obtain rfl : f = 7 := Option.some.inj ((show Tryd.prog.funcNamed "whenstead/whensteadlaw4.QuorumSays" = some 7 by kernel_rfl).symm.trans hf) |>.symm
      obtain rfl : fn = Tryd.f7 := (Option.some.inj (Tryd.func7.symm.trans hfn)).symm
      exact ⟨by kernel_rfl, fun j t ht => by
        rw [Tryd.params7] at ht
        have hm : t ∈ [3, 22, 3, 22, 3] := by simpa using Array.mem_of_getElem? ht
        have hall : ([3, 22, 3, 22, 3].all fun u => !Tryd.prog.wantsStandIn u) = true := by kernel_rfl
        exact (show Tryd.prog.wantsStandIn t = false by simpa using List.all_eq_true.1 hall t hm)⟩)
    (by kernel_rfl)
end Go.Proofs.YtlopkkoenfngiaaDoor
