/- StampRow returns true whatever the trace is, and leaves it as it was: proved by its functions' contracts. No condition. -/
import Derived.Test.YtbpoeigaoakdiaaSRRowZ1
import Derived.WalkKit
import Derived.OpenShut
import Derived.ProofKit
namespace Go.Proofs.Ytbpoeigaoakdiaa
open Go.Vc Go.ChangeShapes Go.WideShapes Go.ChangeAt Go.RowKit

theorem own : ownKnob Try.prog.godebug = none := by kernel_rfl
theorem laidOut : laidOutB Try.prog = true := by kernel_rfl

theorem stampRowContract (H : Type) (enc : TypeId × Value → H) (W : World) (base : Nat) (args : Array Value) (ds gs : List (DataW H)) (before : List MemPlace)
    (hval : ∀ (j : Nat) t v, Try.f3.params[j]? = some t → args[j]? = some v → Value.okWide Try.prog W .any base t v)
    (hW : DataW.Whole enc Try.prog Try.f3.params.toList Rows.stampRowSpec.vars false W args.toList ds gs before) :
    Calls Try.prog 3 args W fun e W' => ∃ v, e = .returned v ∧ Rows.stampRowSpec.post enc Try.prog Try.f3 false true false false W args v W' := by
  have hlen : ∃ d1, ds ++ gs = [d1] ∧ ds = [d1] := by
    obtain ⟨p, q, hA, hV, _⟩ := hW
    obtain ⟨rfl, rfl⟩ := trodVars_none hV
    have hA' : DataW.TrodAll enc Try.prog W 0 (fun _ => true) true [24] args.toList ds p := hA
    obtain ⟨_, _, d1, _, _, _, _, rfl, _, _, hA'⟩ := trodAll_cons hA'
    obtain ⟨_, rfl, _⟩ := trodAll_nil hA'
    exact ⟨d1, rfl, rfl⟩
  obtain ⟨d1, hdg, rfl⟩ := hlen
  refine law_ok Er_ok laidOut okSR (tys := [(tTr, 24)]) (s := Rows.stampRowSpec) (tb := 4) (by kernel_rfl) (by decide) (by kernel_rfl) (by kernel_rfl) (by kernel_rfl) rfl W base args _ gs before hval hW ?_ ?_
  · rw [hdg]; rfl
  · intro xs hx _
    obtain ⟨x, rfl⟩ := types1 hx
    exact ⟨trivial, rfl⟩

set_option maxRecDepth 100000 in
theorem stampRowLifted (os : Os) (started : os.Started) (H : Type) (enc : TypeId × Value → H) :
    ReturnsInHanded {} Try.checked os 3 .any (Rows.stampRowSpec.pre6 enc Try.prog Try.f3 Rows.stampRowRow.domain false) (Rows.stampRowSpec.post enc Try.prog Try.f3 false true false false) := by
  refine returnsInHanded_of_change (C := Try.checked) (s := Rows.stampRowSpec) own started (by kernel_rfl) Try.func3
    (ChangeSpec.witness6 (enc := enc) (C := Try.checked) (s := Rows.stampRowSpec) false ⟨#[], #[.agg #[.int .i64 1, .slice none 0 0]], []⟩ 8 (by kernel_rfl) (by kernel_rfl) (by kernel_rfl)
      (by kernel_rfl)) ?_
  intro W base args ds gs before hval hW _ _
  exact stampRowContract H enc W base args ds gs before hval hW

theorem stampRow : Rows.StampRowSaid :=
  OpenClaim.holds_of_wide 3 Try.f3 rfl rfl rfl rfl rfl rfl rfl ⟨rfl, rfl, rfl, rfl, rfl⟩ rfl rfl rfl rfl rfl (by kernel_rfl) Try.func3 (by kernel_rfl)
    (of_decide_eq_true (by kernel_rfl)) (by unfold Func.isWrapper; first | (rw [if_pos (by decide +kernel)]; kernel_rfl) | (rw [if_neg (by decide +kernel)]; exact ⟨rfl, rfl⟩))
    (fun os started H enc _ => stampRowLifted os started H enc)
end Go.Proofs.Ytbpoeigaoakdiaa
