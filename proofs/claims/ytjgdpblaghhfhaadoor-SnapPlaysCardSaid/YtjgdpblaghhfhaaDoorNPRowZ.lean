/- SnapPlays returns true whatever it is handed, and leaves it as it was. -/
import Derived.Test.YtjgdpblaghhfhaaDoorNPRowZ2
import Derived.Test.YtjgdpblaghhfhaaDoorTie
import Derived.Test.YtjgdpblaghhfhaaDoorCards
import Derived.WalkKit
import Derived.OpenShut
import Derived.ProofKit
import Derived.LaidMore
namespace Go.Proofs.YtjgdpblaghhfhaaDoor
open Go.Vc Go.ChangeShapes Go.WideShapes Go.ChangeAt Go.RowKit

theorem own : ownKnob Tryd.prog.godebug = none := by kernel_rfl
theorem laidOut : laidOutB Tryd.prog = true := by kernel_rfl

set_option maxRecDepth 100000 in
theorem snapPlaysContract (H : Type) (enc : TypeId × Value → H) (W : World) (base : Nat) (args : Array Value) (ds gs : List (DataW H)) (before : List MemPlace)
    (hval : ∀ (j : Nat) t v, Tryd.f5.params[j]? = some t → args[j]? = some v → Value.okWide Tryd.prog W .any base t v)
    (hW : DataW.Whole enc Tryd.prog Tryd.f5.params.toList Rows.snapPlaysSpec.vars false W args.toList ds gs before) (hL : laidMetH Tryd.prog Rows.snapPlaysRow.laid W) :
    Calls Tryd.prog 5 args W fun e W' => ∃ v, e = .returned v ∧ Rows.snapPlaysSpec.post enc Tryd.prog Tryd.f5 false true false false W args v W' := by
  have hlen : ∃ d1 d2, ds ++ gs = [d1, d2] ∧ ds = [d1, d2] := by
    obtain ⟨p, q, hA, hV, _⟩ := hW
    obtain ⟨rfl, rfl⟩ := trodVars_none hV
    have hA' : DataW.TrodAll enc Tryd.prog W 0 (fun _ => true) true [29, 56] args.toList ds p := hA
    obtain ⟨_, _, d1, _, _, _, _, rfl, _, _, hA'⟩ := trodAll_cons hA'
    obtain ⟨_, _, d2, _, _, _, _, rfl, _, _, hA'⟩ := trodAll_cons hA'
    obtain ⟨_, rfl, _⟩ := trodAll_nil hA'
    exact ⟨d1, d2, rfl, rfl⟩
  obtain ⟨d1, d2, hdg, rfl⟩ := hlen
  have hg : GlOk glE W (fun b => b < W.heap.size) := N.glOkN hL
  refine law_okG N.Ey_ok laidOut (f := Tryd.f5) N.okPlays (tys := [(.sl I, 29), (.sl N.tMove, 56)]) (s := Rows.snapPlaysSpec) (tb := 4) (by kernel_rfl) (by decide) (by kernel_rfl) (by kernel_rfl) (by kernel_rfl) rfl W base args _ gs before hval hW hg ?_ ?_
  · rw [hdg]; rfl
  · intro xs hx _
    obtain ⟨x, y, rfl⟩ := types2 hx
    exact ⟨trivial, rfl⟩

theorem doorMet (os : Os) (args : Array Value) : laidMetH Tryd.prog Rows.snapPlaysRow.laid ((World.doorLaid Tryd.prog 400 os).forCall (fun _ _ => 0) ⟨#[], args, []⟩).memory :=
  laidMetH_of_parts3 (fuel := 8) (laidMet_of_run' 8 (by kernel_rfl) (by kernel_rfl)) (by kernel_rfl) (by kernel_rfl)

set_option maxRecDepth 100000 in
theorem snapPlaysLifted (os : Os) (started : os.Started) (H : Type) (enc : TypeId × Value → H) :
    ReturnsInHanded {} Tryd.checked os 5 .any (fun w args => (Rows.snapPlaysSpec.pre enc Tryd.prog Tryd.f5 [] false w args ∧ laidMetH Tryd.prog Rows.snapPlaysRow.laid w) ∧ sizedMet enc Tryd.prog Tryd.f5 (OpenSpec.ofChange Rows.snapPlaysSpec) false w args)
      (Rows.snapPlaysSpec.post enc Tryd.prog Tryd.f5 false true false false) := by
  refine returnsInHanded_of_change_and (C := Tryd.checked) (s := Rows.snapPlaysSpec) (X := fun w _ => laidMetH Tryd.prog Rows.snapPlaysRow.laid w) (fun _ _ _ hh h => h.of_heap hh) own started (by kernel_rfl) Tryd.func5
    (ChangeSpec.witness_shaped (enc := enc) (C := Tryd.checked) (os := os) (s := Rows.snapPlaysSpec) (X := fun w _ => laidMetH Tryd.prog Rows.snapPlaysRow.laid w) false (World.doorLaid Tryd.prog 400 os) #[.slice none 0 0, .slice none 0 0] 8 rfl (World.shaped_of_RefB (by kernel_rfl) (by kernel_rfl)) (by kernel_rfl) (by kernel_rfl) (by kernel_rfl) (doorMet os _)) ?_
  intro W base args ds gs before hval hW _ _ hL _
  exact snapPlaysContract H enc W base args ds gs before hval hW hL

theorem snapPlaysRow : Rows.SnapPlaysSaid :=
  OpenClaim.holds_of_wide 5 Tryd.f5 rfl rfl rfl rfl rfl rfl rfl ⟨rfl, rfl, rfl, rfl, rfl⟩ rfl rfl rfl rfl rfl (by kernel_rfl) Tryd.func5 (by kernel_rfl)
    (of_decide_eq_true (by kernel_rfl)) (by unfold Func.isWrapper; first | (rw [if_pos (by decide +kernel)]; kernel_rfl) | (rw [if_neg (by decide +kernel)]; exact ⟨rfl, rfl⟩))
    (fun os started H enc _ => snapPlaysLifted os started H enc)

theorem snapPlays : Rows.SnapPlaysCardSaid :=
  Claim7.holds_tied_plain_at .later [] [.handle] true (true, "4b495ef3123012e0048c51bf1eb87f444bbe988bd052773df989129eb79feb81") true
    snapPlaysRow (fun _ h => by cases h) (by kernel_rfl) (fun _ h => by cases h) snapPlays_row_tie rfl ⟨rfl, rfl⟩ (by kernel_rfl) rfl
    (fun f fn hf hfn => by
      obtain rfl : f = 5 := Option.some.inj ((show Tryd.prog.funcNamed "whenstead/whensteadlaw2.SnapPlays" = some 5 by kernel_rfl).symm.trans hf) |>.symm
      obtain rfl : fn = Tryd.f5 := (Option.some.inj (Tryd.func5.symm.trans hfn)).symm
      exact ⟨by kernel_rfl, fun j t ht => by
        rw [Tryd.params5] at ht
        have hm : t ∈ [29, 56] := by simpa using Array.mem_of_getElem? ht
        have hall : ([29, 56].all fun u => !Tryd.prog.wantsStandIn u) = true := by kernel_rfl
        exact (show Tryd.prog.wantsStandIn t = false by simpa using List.all_eq_true.1 hall t hm)⟩)
    (by kernel_rfl)
end Go.Proofs.YtjgdpblaghhfhaaDoor
