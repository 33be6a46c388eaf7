/- GossipSame returns true whatever the number of nodes, the steps and the rest are, and leaves the steps as they were: proved by its functions’ contracts. No condition. -/
import Derived.Test.YtgcliogognkdkaaGSRowZ3
import Derived.WalkKit
import Derived.OpenShut
import Derived.ProofKit
namespace Go.Proofs.Ytgcliogognkdkaa
open Go.Vc Go.ChangeShapes Go.WideShapes Go.ChangeAt Go.RowKit

theorem own : ownKnob Try.prog.godebug = none := by kernel_rfl
theorem laidOut : laidOutB Try.prog = true := by kernel_rfl

set_option maxRecDepth 100000 in
theorem gossipSameContract (H : Type) (enc : TypeId × Value → H) (W : World) (base : Nat) (args : Array Value) (ds gs : List (DataW H)) (before : List MemPlace)
    (hval : ∀ (j : Nat) t v, Try.f7.params[j]? = some t → args[j]? = some v → Value.okWide Try.prog W .any base t v)
    (hW : DataW.Whole enc Try.prog Try.f7.params.toList Rows.gossipSameSpec.vars false W args.toList ds gs before) :
    Calls Try.prog 7 args W fun e W' => ∃ v, e = .returned v ∧ Rows.gossipSameSpec.post enc Try.prog Try.f7 false true false false W args v W' := by
  have hlen : ∃ d1 d2 d3, ds ++ gs = [d1, d2, d3] ∧ ds = [d1, d2, d3] := by
    obtain ⟨p, q, hA, hV, _⟩ := hW
    obtain ⟨rfl, rfl⟩ := trodVars_none hV
    have hA' : DataW.TrodAll enc Try.prog W 0 (fun _ => true) true [3, 45, 3] args.toList ds p := hA
    obtain ⟨_, _, d1, _, _, _, _, rfl, _, _, hA'⟩ := trodAll_cons hA'
    obtain ⟨_, _, d2, _, _, _, _, rfl, _, _, hA'⟩ := trodAll_cons hA'
    obtain ⟨_, _, d3, _, _, _, _, rfl, _, _, hA'⟩ := trodAll_cons hA'
    obtain ⟨_, rfl, _⟩ := trodAll_nil hA'
    exact ⟨d1, d2, d3, rfl, rfl⟩
  obtain ⟨d1, d2, d3, hdg, rfl⟩ := hlen
  refine law_ok Eg_ok laidOut okLawGS (tys := [(I, 3), (.sl (.sl I), 45), (I, 3)]) (s := Rows.gossipSameSpec) (tb := 4) (by kernel_rfl) (by decide) (by kernel_rfl) (by kernel_rfl) (by kernel_rfl) rfl W base args _ gs before hval hW ?_ ?_
  · rw [hdg]; rfl
  · intro xs hx _
    obtain ⟨x, y, z, rfl⟩ := types3 hx
    exact ⟨trivial, rfl⟩

set_option maxRecDepth 100000 in
theorem gossipSameLifted (os : Os) (started : os.Started) (H : Type) (enc : TypeId × Value → H) :
    ReturnsInHanded {} Try.checked os 7 .any (Rows.gossipSameSpec.pre6 enc Try.prog Try.f7 Rows.gossipSameRow.domain false) (Rows.gossipSameSpec.post enc Try.prog Try.f7 false true false false) := by
  refine returnsInHanded_of_change (C := Try.checked) (s := Rows.gossipSameSpec) own started (by kernel_rfl) Try.func7
    (ChangeSpec.witness6 (enc := enc) (C := Try.checked) (s := Rows.gossipSameSpec) false ⟨#[], #[.int .i64 0, .slice none 0 0, .int .i64 0], []⟩ 8 (by kernel_rfl) (by kernel_rfl) (by kernel_rfl)
      (by kernel_rfl)) ?_
  intro W base args ds gs before hval hW _ _
  exact gossipSameContract H enc W base args ds gs before hval hW

theorem gossipSame : Rows.GossipSameSaid :=
  OpenClaim.holds_of_wide 7 Try.f7 rfl rfl rfl rfl rfl rfl rfl ⟨rfl, rfl, rfl, rfl, rfl⟩ rfl rfl rfl rfl rfl (by kernel_rfl) Try.func7 (by kernel_rfl)
    (of_decide_eq_true (by kernel_rfl)) (by unfold Func.isWrapper; first | (rw [if_pos (by decide +kernel)]; kernel_rfl) | (rw [if_neg (by decide +kernel)]; exact ⟨rfl, rfl⟩))
    (fun os started H enc _ => gossipSameLifted os started H enc)
end Go.Proofs.Ytgcliogognkdkaa
