/- DeskAnswers returns true whatever the text is: proved by the contracts of its functions. No condition. -/
import Derived.Test.YthdbbgajmgjfcaaGreatDoorDARowZ3
import Derived.Test.YthdbbgajmgjfcaaGreatDoorTie
import Derived.Test.YthdbbgajmgjfcaaGreatDoorCards
import Derived.WalkKit
import Derived.OpenShut
import Derived.ProofKit
import Derived.LaidMore
import Derived.Lay
import Derived.MakeChecks
namespace Go.Proofs.YthdbbgajmgjfcaaGreatDoor
open Go.Vc Go.ChangeShapes Go.WideShapes Go.ChangeAt Go.RowKit

theorem own : ownKnob Tryz.prog.godebug = none := by kernel_rfl
theorem laidOut : laidOutB Tryz.prog = true := by kernel_rfl

/-- a world where all lies that is listed: the door's own, and the tables laid over it -/
noncomputable def wT (os : Os) : World := (World.doorLaid Tryz.prog 2000 os).layVars Tryz.prog (Rows.deskAnswersRow.laid.filter fun x => x.2.handleName?.isNone)

set_option maxRecDepth 100000 in
theorem deskAnswersContract (H : Type) (enc : TypeId × Value → H) (W : World) (base : Nat) (args : Array Value) (ds gs : List (DataW H)) (before : List MemPlace)
    (hval : ∀ (j : Nat) t v, Tryz.f7.params[j]? = some t → args[j]? = some v → Value.okWide Tryz.prog W .any base t v)
    (hW : DataW.Whole enc Tryz.prog Tryz.f7.params.toList Rows.deskAnswersSpec.vars false W args.toList ds gs before) (hL : laidMetH Tryz.prog Rows.deskAnswersRow.laid W) (hSh : W.ShapedOpen Tryz.prog) :
    Calls Tryz.prog 7 args W fun e W' => ∃ v, e = .returned v ∧ Rows.deskAnswersSpec.post enc Tryz.prog Tryz.f7 false true false false W args v W' := by
  have hlen : ∃ d1, ds ++ gs = [d1] ∧ ds = [d1] := by
    obtain ⟨p, q, hA, hV, _⟩ := hW
    obtain ⟨rfl, rfl⟩ := trodVars_none hV
    have hA' : DataW.TrodAll enc Tryz.prog W 0 (fun _ => true) true [9] args.toList ds p := hA
    obtain ⟨_, _, d1, _, _, _, _, rfl, _, _, hA'⟩ := trodAll_cons hA'
    obtain ⟨_, rfl, _⟩ := trodAll_nil hA'
    exact ⟨d1, rfl, rfl⟩
  obtain ⟨d1, hdg, rfl⟩ := hlen
  obtain ⟨v, hg⟩ := glDA hSh hL
  refine law_okG Elr_ok laidOut (f := Tryz.f7) (okLawDA v) (tys := [(.str, 9)]) (s := Rows.deskAnswersSpec) (tb := 4) (by kernel_rfl) (by decide) (by kernel_rfl) (by kernel_rfl) (by kernel_rfl) rfl W base args _ gs before hval hW hg ?_ ?_
  · rw [hdg]; rfl
  · intro xs hx _
    obtain ⟨x, rfl⟩ := types1 hx
    exact ⟨trivial, rfl⟩

theorem doorMet (os : Os) (args : Array Value) : laidMetH Tryz.prog Rows.deskAnswersRow.laid ((wT os).forCall (fun _ _ => 0) ⟨#[], args, []⟩).memory :=
  laidMetH_of_parts3 (fuel := 8) (laidMet_over _ (by kernel_rfl) (by kernel_rfl)) (by kernel_rfl) (by kernel_rfl)

set_option maxRecDepth 100000 in
theorem deskAnswersLifted (os : Os) (started : os.Started) (H : Type) (enc : TypeId × Value → H) :
    ReturnsInHanded {} Tryz.checked os 7 .any (fun w args => (Rows.deskAnswersSpec.pre enc Tryz.prog Tryz.f7 [] false w args ∧ laidMetH Tryz.prog Rows.deskAnswersRow.laid w) ∧ sizedMet enc Tryz.prog Tryz.f7 (OpenSpec.ofChange Rows.deskAnswersSpec) false w args)
      (Rows.deskAnswersSpec.post enc Tryz.prog Tryz.f7 false true false false) := by
  refine returnsInHanded_of_shape (C := Tryz.checked) (s := Rows.deskAnswersSpec) (X := fun w _ => laidMetH Tryz.prog Rows.deskAnswersRow.laid w) (fun _ _ _ hh h => h.of_heap hh) own started (by kernel_rfl) Tryz.func7
    (ChangeSpec.witness_shaped (enc := enc) (C := Tryz.checked) (os := os) (s := Rows.deskAnswersSpec) (X := fun w _ => laidMetH Tryz.prog Rows.deskAnswersRow.laid w) false (wT os) #[.string ⟨#[]⟩] 8 (World.layVars_os _ _ _) (World.shaped_of_ZipB (by kernel_rfl) (by kernel_rfl)) (by kernel_rfl) (by kernel_rfl) (by kernel_rfl) (doorMet os _)) ?_
  intro W base args ds gs before hval hW hL hSh
  exact deskAnswersContract H enc W base args ds gs before hval hW hL hSh

theorem deskAnswersRow : Rows.DeskAnswersSaid :=
  OpenClaim.holds_of_wide 7 Tryz.f7 rfl rfl rfl rfl rfl rfl rfl ⟨rfl, rfl, rfl, rfl, rfl⟩ rfl rfl rfl rfl rfl (by kernel_rfl) Tryz.func7 (by kernel_rfl)
    (of_decide_eq_true (by kernel_rfl)) (by unfold Func.isWrapper; first | (rw [if_pos (by decide +kernel)]; kernel_rfl) | (rw [if_neg (by decide +kernel)]; exact ⟨rfl, rfl⟩))
    (fun os started H enc _ => deskAnswersLifted os started H enc)

theorem deskAnswers : Rows.DeskAnswersCardSaid :=
  Claim7.holds_tied_plain_at .later [] [.data, .data, .data, .data, .handle, .sentinel, .sentinel, .pinned] true (true, "d8c9089bd8a3d8f5ff876462d06ecff221c213fe52016c5fe01214fc3dfcff18") true
    deskAnswersRow (fun _ h => by cases h) (by kernel_rfl) (fun _ h => by cases h) deskAnswers_row_tie rfl ⟨rfl, rfl⟩ (by kernel_rfl) rfl
    (fun f fn hf hfn => by
      obtain rfl : f = 7 := Option.some.inj ((show Tryz.prog.funcNamed "whenstead/whensteadlaw5.DeskAnswers" = some 7 by kernel_rfl).symm.trans hf) |>.symm
      obtain rfl : fn = Tryz.f7 := (Option.some.inj (Tryz.func7.symm.trans hfn)).symm
      exact ⟨by kernel_rfl, fun j t ht => by
        rw [Tryz.params7] at ht
        have hm : t ∈ [9] := by simpa using Array.mem_of_getElem? ht
        have hall : ([9].all fun u => !Tryz.prog.wantsStandIn u) = true := by kernel_rfl
        exact (show Tryz.prog.wantsStandIn t = false by simpa using List.all_eq_true.1 hall t hm)⟩)
    (by kernel_rfl)
end Go.Proofs.YthdbbgajmgjfcaaGreatDoor
