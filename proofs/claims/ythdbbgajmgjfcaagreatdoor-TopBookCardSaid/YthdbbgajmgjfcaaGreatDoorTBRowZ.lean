/- TopBook returns true whatever the number of nodes, the steps, the place and the key are, and leaves the steps as they were: proved by the contracts of its functions. No condition. -/
import Derived.Test.YthdbbgajmgjfcaaGreatDoorTBRowZ3
import Derived.Test.YthdbbgajmgjfcaaGreatDoorTie
import Derived.Test.YthdbbgajmgjfcaaGreatDoorCards
import Derived.WalkKit
import Derived.OpenShut
import Derived.ProofKit
import Derived.LaidMore
import Derived.Lay
import Derived.MakeChecks
namespace Go.Proofs.YthdbbgajmgjfcaaGreatDoor
open Go.Vc Go.ChangeShapes Go.WideShapes Go.ChangeAt Go.RowKit

theorem own : ownKnob Tryz.prog.godebug = none := by kernel_rfl
theorem laidOut : laidOutB Tryz.prog = true := by kernel_rfl

set_option maxRecDepth 100000 in
theorem topBookContract (H : Type) (enc : TypeId × Value → H) (W : World) (base : Nat) (args : Array Value) (ds gs : List (DataW H)) (before : List MemPlace)
    (hval : ∀ (j : Nat) t v, Tryz.f10.params[j]? = some t → args[j]? = some v → Value.okWide Tryz.prog W .any base t v)
    (hW : DataW.Whole enc Tryz.prog Tryz.f10.params.toList Rows.topBookSpec.vars false W args.toList ds gs before) (hL : laidMetH Tryz.prog Rows.topBookRow.laid W) (hSh : W.ShapedOpen Tryz.prog) :
    Calls Tryz.prog 10 args W fun e W' => ∃ v, e = .returned v ∧ Rows.topBookSpec.post enc Tryz.prog Tryz.f10 false true false false W args v W' := by
  have hlen : ∃ d1 d2 d3 d4, ds ++ gs = [d1, d2, d3, d4] ∧ ds = [d1, d2, d3, d4] := by
    obtain ⟨p, q, hA, hV, _⟩ := hW
    obtain ⟨rfl, rfl⟩ := trodVars_none hV
    have hA' : DataW.TrodAll enc Tryz.prog W 0 (fun _ => true) true [3, 22, 3, 3] args.toList ds p := hA
    obtain ⟨_, _, d1, _, _, _, _, rfl, _, _, hA'⟩ := trodAll_cons hA'
    obtain ⟨_, _, d2, _, _, _, _, rfl, _, _, hA'⟩ := trodAll_cons hA'
    obtain ⟨_, _, d3, _, _, _, _, rfl, _, _, hA'⟩ := trodAll_cons hA'
    obtain ⟨_, _, d4, _, _, _, _, rfl, _, _, hA'⟩ := trodAll_cons hA'
    obtain ⟨_, rfl, _⟩ := trodAll_nil hA'
    exact ⟨d1, d2, d3, d4, rfl, rfl⟩
  obtain ⟨d1, d2, d3, d4, hdg, rfl⟩ := hlen
  obtain ⟨v, hg⟩ := glTop hSh hL
  refine law_okG Elr_ok laidOut (f := Tryz.f10) (okLawTB v) (tys := [(I, 3), (.sl (.sl I), 22), (I, 3), (I, 3)]) (s := Rows.topBookSpec) (tb := 4) (by kernel_rfl) (by decide) (by kernel_rfl) (by kernel_rfl) (by kernel_rfl) rfl W base args _ gs before hval hW hg ?_ ?_
  · rw [hdg]; rfl
  · intro xs hx _
    obtain ⟨x, y, z, u, rfl⟩ := types4 hx
    exact ⟨trivial, rfl⟩

theorem doorMet (os : Os) (args : Array Value) : laidMetH Tryz.prog Rows.topBookRow.laid ((World.laidAll Tryz.prog os Rows.topBookRow.laid).forCall (fun _ _ => 0) ⟨#[], args, []⟩).memory :=
  by rw [MakeChecks.laidMetH_plain _ _ _ (by kernel_rfl)]; exact laidMet_laidAll _ (by kernel_rfl) (by kernel_rfl)

set_option maxRecDepth 100000 in
theorem topBookLifted (os : Os) (started : os.Started) (H : Type) (enc : TypeId × Value → H) :
    ReturnsInHanded {} Tryz.checked os 10 .any (fun w args => (Rows.topBookSpec.pre enc Tryz.prog Tryz.f10 [] false w args ∧ laidMetH Tryz.prog Rows.topBookRow.laid w) ∧ sizedMet enc Tryz.prog Tryz.f10 (OpenSpec.ofChange Rows.topBookSpec) false w args)
      (Rows.topBookSpec.post enc Tryz.prog Tryz.f10 false true false false) := by
  refine returnsInHanded_of_shape (C := Tryz.checked) (s := Rows.topBookSpec) (X := fun w _ => laidMetH Tryz.prog Rows.topBookRow.laid w) (fun _ _ _ hh h => h.of_heap hh) own started (by kernel_rfl) Tryz.func10
    (ChangeSpec.witness_shaped (enc := enc) (C := Tryz.checked) (os := os) (s := Rows.topBookSpec) (X := fun w _ => laidMetH Tryz.prog Rows.topBookRow.laid w) false (World.laidAll Tryz.prog os Rows.topBookRow.laid) #[.int .i64 0, .slice none 0 0, .int .i64 0, .int .i64 0] 8 (World.laidAll_os _ _ _) (World.shaped_of_ZipB (by kernel_rfl) (by kernel_rfl)) (by kernel_rfl) (by kernel_rfl) (by kernel_rfl) (doorMet os _)) ?_
  intro W base args ds gs before hval hW hL hSh
  exact topBookContract H enc W base args ds gs before hval hW hL hSh

theorem topBookRow : Rows.TopBookSaid :=
  OpenClaim.holds_of_wide 10 Tryz.f10 rfl rfl rfl rfl rfl rfl rfl ⟨rfl, rfl, rfl, rfl, rfl⟩ rfl rfl rfl rfl rfl (by kernel_rfl) Tryz.func10 (by kernel_rfl)
    (of_decide_eq_true (by kernel_rfl)) (by unfold Func.isWrapper; first | (rw [if_pos (by decide +kernel)]; kernel_rfl) | (rw [if_neg (by decide +kernel)]; exact ⟨rfl, rfl⟩))
    (fun os started H enc _ => topBookLifted os started H enc)

theorem topBook : Rows.TopBookCardSaid :=
  Claim7.holds_tied_plain_at .later [] [.data, .data, .data, .data, .sentinel, .sentinel, .pinned] true (true, "d8c9089bd8a3d8f5ff876462d06ecff221c213fe52016c5fe01214fc3dfcff18") true
    topBookRow (fun _ h => by cases h) (by kernel_rfl) (fun _ h => by cases h) topBook_row_tie rfl ⟨rfl, rfl⟩ (by kernel_rfl) rfl
    (fun f fn hf hfn => by
      obtain rfl : f = 10 := Option.some.inj ((show Tryz.prog.funcNamed "whenstead/whensteadtop.TopBook" = some 10 by kernel_rfl).symm.trans hf) |>.symm
      obtain rfl : fn = Tryz.f10 := (Option.some.inj (Tryz.func10.symm.trans hfn)).symm
      exact ⟨by kernel_rfl, fun j t ht => by
        rw [Tryz.params10] at ht
        have hm : t ∈ [3, 22, 3, 3] := by simpa using Array.mem_of_getElem? ht
        have hall : ([3, 22, 3, 3].all fun u => !Tryz.prog.wantsStandIn u) = true := by kernel_rfl
        exact (show Tryz.prog.wantsStandIn t = false by simpa using List.all_eq_true.1 hall t hm)⟩)
    (by kernel_rfl)
end Go.Proofs.YthdbbgajmgjfcaaGreatDoor
