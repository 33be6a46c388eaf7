/- MergeJoins returns true whatever the three bags are, and leaves them as they were: proved by its functions' contracts. No condition. -/
import Derived.Test.YtgcliogognkdkaaMJRowZ1
import Derived.WalkKit
import Derived.OpenShut
import Derived.ProofKit
namespace Go.Proofs.Ytgcliogognkdkaa
open Go.Vc Go.ChangeShapes Go.WideShapes Go.ChangeAt Go.RowKit

theorem own : ownKnob Try.prog.godebug = none := by kernel_rfl
theorem laidOut : laidOutB Try.prog = true := by kernel_rfl

set_option maxRecDepth 100000 in
theorem mergeJoinsContract (H : Type) (enc : TypeId × Value → H) (W : World) (base : Nat) (args : Array Value) (ds gs : List (DataW H)) (before : List MemPlace)
    (hval : ∀ (j : Nat) t v, Try.f3.params[j]? = some t → args[j]? = some v → Value.okWide Try.prog W .any base t v)
    (hW : DataW.Whole enc Try.prog Try.f3.params.toList Rows.mergeJoinsSpec.vars false W args.toList ds gs before) :
    Calls Try.prog 3 args W fun e W' => ∃ v, e = .returned v ∧ Rows.mergeJoinsSpec.post enc Try.prog Try.f3 false true false false W args v W' := by
  have hlen : ∃ d1 d2 d3, ds ++ gs = [d1, d2, d3] ∧ ds = [d1, d2, d3] := by
    obtain ⟨p, q, hA, hV, _⟩ := hW
    obtain ⟨rfl, rfl⟩ := trodVars_none hV
    have hA' : DataW.TrodAll enc Try.prog W 0 (fun _ => true) true [24, 24, 24] args.toList ds p := hA
    obtain ⟨_, _, d1, _, _, _, _, rfl, _, _, hA'⟩ := trodAll_cons hA'
    obtain ⟨_, _, d2, _, _, _, _, rfl, _, _, hA'⟩ := trodAll_cons hA'
    obtain ⟨_, _, d3, _, _, _, _, rfl, _, _, hA'⟩ := trodAll_cons hA'
    obtain ⟨_, rfl, _⟩ := trodAll_nil hA'
    exact ⟨d1, d2, d3, rfl, rfl⟩
  obtain ⟨d1, d2, d3, hdg, rfl⟩ := hlen
  refine law_ok Eb_ok laidOut okLawJ (tys := [(tB, 24), (tB, 24), (tB, 24)]) (s := Rows.mergeJoinsSpec) (tb := 4) (by kernel_rfl) (by decide) (by kernel_rfl) (by kernel_rfl) (by kernel_rfl) rfl W base args _ gs before hval hW ?_ ?_
  · rw [hdg]; rfl
  · intro xs hx _
    obtain ⟨x, y, z, rfl⟩ := types3 hx
    exact ⟨trivial, rfl⟩

set_option maxRecDepth 100000 in
theorem mergeJoinsLifted (os : Os) (started : os.Started) (H : Type) (enc : TypeId × Value → H) :
    ReturnsInHanded {} Try.checked os 3 .any (Rows.mergeJoinsSpec.pre6 enc Try.prog Try.f3 Rows.mergeJoinsRow.domain false) (Rows.mergeJoinsSpec.post enc Try.prog Try.f3 false true false false) := by
  refine returnsInHanded_of_change (C := Try.checked) (s := Rows.mergeJoinsSpec) own started (by kernel_rfl) Try.func3
    (ChangeSpec.witness6 (enc := enc) (C := Try.checked) (s := Rows.mergeJoinsSpec) false ⟨#[], #[.agg #[.slice none 0 0, .slice none 0 0], .agg #[.slice none 0 0, .slice none 0 0], .agg #[.slice none 0 0, .slice none 0 0]], []⟩ 8 (by kernel_rfl) (by kernel_rfl) (by kernel_rfl)
      (by kernel_rfl)) ?_
  intro W base args ds gs before hval hW _ _
  exact mergeJoinsContract H enc W base args ds gs before hval hW

theorem mergeJoins : Rows.MergeJoinsSaid :=
  OpenClaim.holds_of_wide 3 Try.f3 rfl rfl rfl rfl rfl rfl rfl ⟨rfl, rfl, rfl, rfl, rfl⟩ rfl rfl rfl rfl rfl (by kernel_rfl) Try.func3 (by kernel_rfl)
    (of_decide_eq_true (by kernel_rfl)) (by unfold Func.isWrapper; first | (rw [if_pos (by decide +kernel)]; kernel_rfl) | (rw [if_neg (by decide +kernel)]; exact ⟨rfl, rfl⟩))
    (fun os started H enc _ => mergeJoinsLifted os started H enc)
end Go.Proofs.Ytgcliogognkdkaa
