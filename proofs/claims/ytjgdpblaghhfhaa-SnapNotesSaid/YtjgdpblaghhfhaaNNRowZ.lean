/- SnapNotes returns true whatever the banks and the moves are, and leaves them as they were: proved by the contracts of its functions. No condition. -/
import Derived.Test.YtjgdpblaghhfhaaNNRowZ3
import Derived.Test.YtjgdpblaghhfhaaVcP
import Derived.WalkKit
import Derived.OpenShut
import Derived.ProofKit
namespace Go.Proofs.Ytjgdpblaghhfhaa
open Go.Vc Go.ChangeShapes Go.WideShapes Go.ChangeAt Go.RowKit

theorem own : ownKnob Try.prog.godebug = none := by kernel_rfl
theorem laidOut : laidOutB Try.prog = true := by kernel_rfl

set_option maxRecDepth 100000 in
theorem snapNotesContract (H : Type) (enc : TypeId × Value → H) (W : World) (base : Nat) (args : Array Value) (ds gs : List (DataW H)) (before : List MemPlace)
    (hval : ∀ (j : Nat) t v, Try.f8.params[j]? = some t → args[j]? = some v → Value.okWide Try.prog W .any base t v)
    (hW : DataW.Whole enc Try.prog Try.f8.params.toList Rows.snapNotesSpec.vars false W args.toList ds gs before) :
    Calls Try.prog 8 args W fun e W' => ∃ v, e = .returned v ∧ Rows.snapNotesSpec.post enc Try.prog Try.f8 false true false false W args v W' := by
  have hlen : ∃ d1 d2, ds ++ gs = [d1, d2] ∧ ds = [d1, d2] := by
    obtain ⟨p, q, hA, hV, _⟩ := hW
    obtain ⟨rfl, rfl⟩ := trodVars_none hV
    have hA' : DataW.TrodAll enc Try.prog W 0 (fun _ => true) true [35, 45] args.toList ds p := hA
    obtain ⟨_, _, d1, _, _, _, _, rfl, _, _, hA'⟩ := trodAll_cons hA'
    obtain ⟨_, _, d2, _, _, _, _, rfl, _, _, hA'⟩ := trodAll_cons hA'
    obtain ⟨_, rfl, _⟩ := trodAll_nil hA'
    exact ⟨d1, d2, rfl, rfl⟩
  obtain ⟨d1, d2, hdg, rfl⟩ := hlen
  refine law_ok N.Et_ok laidOut N.okNotes (tys := [(.sl (.int .i64), 35), (.sl N.tMove, 45)]) (s := Rows.snapNotesSpec) (tb := 4) (by kernel_rfl) (by decide) (by kernel_rfl) (by kernel_rfl) (by kernel_rfl) rfl W base args _ gs before hval hW ?_ ?_
  · rw [hdg]; rfl
  · intro xs hx _
    obtain ⟨x, y, rfl⟩ := types2 hx
    exact ⟨trivial, rfl⟩

set_option maxRecDepth 100000 in
theorem snapNotesLifted (os : Os) (started : os.Started) (H : Type) (enc : TypeId × Value → H) :
    ReturnsInHanded {} Try.checked os 8 .any (Rows.snapNotesSpec.pre6 enc Try.prog Try.f8 Rows.snapNotesRow.domain false) (Rows.snapNotesSpec.post enc Try.prog Try.f8 false true false false) := by
  refine returnsInHanded_of_change (C := Try.checked) (s := Rows.snapNotesSpec) own started (by kernel_rfl) Try.func8
    (ChangeSpec.witness6 (enc := enc) (C := Try.checked) (s := Rows.snapNotesSpec) false ⟨#[], #[.slice none 0 0, .slice none 0 0], []⟩ 8 (by kernel_rfl) (by kernel_rfl) (by kernel_rfl)
      (by kernel_rfl)) ?_
  intro W base args ds gs before hval hW _ _
  exact snapNotesContract H enc W base args ds gs before hval hW

theorem snapNotes : Rows.SnapNotesSaid :=
  OpenClaim.holds_of_wide 8 Try.f8 rfl rfl rfl rfl rfl rfl rfl ⟨rfl, rfl, rfl, rfl, rfl⟩ rfl rfl rfl rfl rfl (by kernel_rfl) Try.func8 (by kernel_rfl)
    (of_decide_eq_true (by kernel_rfl)) (by unfold Func.isWrapper; first | (rw [if_pos (by decide +kernel)]; kernel_rfl) | (rw [if_neg (by decide +kernel)]; exact ⟨rfl, rfl⟩))
    (fun os started H enc _ => snapNotesLifted os started H enc)
end Go.Proofs.Ytjgdpblaghhfhaa
