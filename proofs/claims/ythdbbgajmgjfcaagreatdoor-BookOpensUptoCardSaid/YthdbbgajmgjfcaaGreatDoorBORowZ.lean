/- BookOpens (the form for inputs of bulk at most 1048576) returns true whatever the number of nodes and the text are: proved by the contracts of its functions. -/
import Derived.Test.YthdbbgajmgjfcaaGreatDoorBORowZ3
import Derived.Test.YthdbbgajmgjfcaaGreatDoorTie
import Derived.Test.YthdbbgajmgjfcaaGreatDoorCards
import Derived.WalkKit
import Derived.OpenShut
import Derived.ProofKit
import Derived.LaidMore
import Derived.Lay
import Derived.Deep.DeepHandedRow
import Derived.Deep.DeepWitnessRowRef
namespace Go.Proofs.YthdbbgajmgjfcaaGreatDoor
open Go.Vc Go.ChangeShapes Go.WideShapes Go.ChangeAt Go.RowKit

theorem own : ownKnob Tryz.prog.godebug = none := by kernel_rfl
theorem laidOut : laidOutB Tryz.prog = true := by kernel_rfl
theorem glOpens {W : World} (hsh : W.ShapedOpen Tryz.prog) (hL : laidMetH Tryz.prog Rows.bookOpensUptoRow.laid W) : ∃ v, GlOk (glU v) W fun b => b < W.heap.size := by
  obtain ⟨v, hv⟩ := glO_laid (a := ("math/bits.deBruijn32tab", Rows.laid_math_bits_deBruijn32tab)) (b := ("math/bits.deBruijn64tab", Rows.laid_math_bits_deBruijn64tab)) (d := ("unicode/utf8.acceptRanges", Rows.laid_unicode_utf8_acceptRanges)) (f := [("unicode/utf8.first", Rows.laid_unicode_utf8_first)]) hsh hL (by kernel_rfl) (.tail _ (.tail _ (.head _)))
  exact ⟨v, GlOk.append (glE_of (.tail _ (.tail _ (.tail _ (.tail _ (.head _))))) hL) hv⟩
/-- a world where all lies that is listed: the door's own, and the tables laid over it -/
noncomputable def wO (os : Os) : World := (World.doorLaid Tryz.prog 2000 os).layVars Tryz.prog (Rows.bookOpensUptoRow.laid.filter fun x => x.2.handleName?.isNone)
theorem small_le {H : Type} {a : DataW H} {s : List UInt8} (h : Rows.uptoSmall H [a, .lit (.string s)] = true) : s.length ≤ 1048576 := by
  have h := of_decide_eq_true h
  simp only [Rows.uptoBulkAll, Rows.uptoBulk] at h
  omega

set_option maxRecDepth 100000 in
theorem bookOpensContract (H : Type) (enc : TypeId × Value → H) (W : World) (base : Nat) (args : Array Value) (ds gs : List (DataW H)) (before : List MemPlace)
    (hval : ∀ (j : Nat) t v, Tryz.f6.params[j]? = some t → args[j]? = some v → Value.okWide Tryz.prog W .any base t v)
    (hW : DataW.Whole enc Tryz.prog Tryz.f6.params.toList Rows.bookOpensSpec.vars false W args.toList ds gs before) (hk : Rows.uptoSmall H (ds ++ gs) = true) (hL : laidMetH Tryz.prog Rows.bookOpensUptoRow.laid W) (hSh : W.ShapedOpen Tryz.prog) :
    Calls Tryz.prog 6 args W fun e W' => ∃ v, e = .returned v ∧ Rows.bookOpensSpec.post enc Tryz.prog Tryz.f6 false true false false W args v W' := by
  have hlen : ∃ d1 d2, ds ++ gs = [d1, d2] ∧ ds = [d1, d2] := by
    obtain ⟨p, q, hA, hV, _⟩ := hW
    obtain ⟨rfl, rfl⟩ := trodVars_none hV
    have hA' : DataW.TrodAll enc Tryz.prog W 0 (fun _ => true) true [3, 9] args.toList ds p := hA
    obtain ⟨_, _, d1, _, _, _, _, rfl, _, _, hA'⟩ := trodAll_cons hA'
    obtain ⟨_, _, d2, _, _, _, _, rfl, _, _, hA'⟩ := trodAll_cons hA'
    obtain ⟨_, rfl, _⟩ := trodAll_nil hA'
    exact ⟨d1, d2, rfl, rfl⟩
  obtain ⟨d1, d2, hdg, rfl⟩ := hlen
  obtain ⟨v, hg⟩ := glOpens hSh hL
  rw [hdg] at hk
  refine law_okG Elr_ok laidOut (f := Tryz.f6) (okLawO v) (tys := [(I, 3), (.str, 9)]) (s := Rows.bookOpensSpec) (tb := 4) (by kernel_rfl) (by decide) (by kernel_rfl) (by kernel_rfl) (by kernel_rfl) rfl W base args _ gs before hval hW hg ?_ ?_
  · rw [hdg]; rfl
  · intro xs hx hd
    obtain ⟨x, y, rfl⟩ := types2 hx
    obtain ⟨e1, e2, he, _, hy⟩ := ds2 hd
    have h2 : d2 = e2 := (List.cons.inj (List.cons.inj he).2).1
    rw [h2, show e2 = .lit (.string y) from hy] at hk
    have := small_le hk
    exact ⟨Nat.le_trans this (by decide), rfl⟩

theorem laidO (os : Os) (args : Array Value) : laidMetH Tryz.prog Rows.bookOpensUptoRow.laid ((wO os).forCall (fun _ _ => 0) ⟨#[], args, []⟩).memory :=
  laidMetH_of_parts3 (fuel := 8) (laidMet_over _ (by kernel_rfl) (by kernel_rfl)) (by kernel_rfl) (by kernel_rfl)
theorem readsO (os : Os) {H : Type} (enc : TypeId × Value → H) : ∃ places, DataW.whole enc Tryz.prog ((wO os).forCall (fun _ _ => 0) ⟨#[], #[.int .i64 0, .string ⟨#[]⟩], []⟩).memory Tryz.f6.params.toList Rows.bookOpensSpec.vars false #[Value.int .i64 0, .string ⟨#[]⟩].toList 8 = some ([.lit (.int .i64 0), .lit (.string [])], [], places) :=
  ⟨[], by kernel_rfl⟩

set_option maxRecDepth 100000 in
theorem bookOpensLifted (os : Os) (started : os.Started) (H : Type) (enc : TypeId × Value → H) (F : Stop.Interp) :
    ReturnsInHanded {} Tryz.checked os 6 .any ((Rows.OpenSpec.upto Rows.bookOpensSpec).preRow enc Tryz.prog Tryz.f6 Rows.bookOpensUptoRow.domain false Rows.bookOpensUptoRow.laid) (((Rows.OpenSpec.upto Rows.bookOpensSpec).at F).post enc Tryz.prog Tryz.f6 false true false false) := by
  obtain ⟨places, hx⟩ := readsO os enc
  refine returnsInHanded_of_row (C := Tryz.checked) (s := Rows.OpenSpec.upto Rows.bookOpensSpec) own started (by kernel_rfl) Tryz.func6
    (witness_row_atRef (enc := enc) (C := Tryz.checked) false (wO os) #[.int .i64 0, .string ⟨#[]⟩] (World.layVars_os _ _ _) (by kernel_rfl) (by kernel_rfl) (by kernel_rfl)
      (OpenSpec.preRow_of_cond 8 hx (by kernel_rfl) (fun k hk => by cases hk; kernel_rfl) (by kernel_rfl) (laidO os _))) ?_
  intro W base args ds gs before hval hW _ hcond _ hL hSh _
  exact bookOpensContract H enc W base args ds gs before hval hW (hcond _ rfl) hL hSh

theorem bookOpensRow : Rows.BookOpensUptoSaid :=
  OpenClaim.holds_of_cond 6 Tryz.f6 rfl rfl rfl rfl rfl rfl rfl ⟨rfl, rfl, rfl, rfl, rfl⟩ rfl rfl rfl rfl rfl (by kernel_rfl) Tryz.func6 (by kernel_rfl)
    (of_decide_eq_true (by kernel_rfl)) (by unfold Func.isWrapper; first | (rw [if_pos (by decide +kernel)]; kernel_rfl) | (rw [if_neg (by decide +kernel)]; exact ⟨rfl, rfl⟩))
    (fun os started H enc _ F => by rw [OpenClaim.pre_eq_preRow]; exact bookOpensLifted os started H enc F)

theorem plainO (f : FuncId) (fn : Func) (hf : Tryz.pinned.checked.prog.funcNamed "whenstead/whensteadlaw5.BookOpens" = some f) (hfn : Tryz.pinned.checked.prog.funcs[f]? = some fn) :
    true = Tryz.pinned.checked.prog.looks [] ∧ ∀ (j : Nat) t, fn.params[j]? = some t → Tryz.pinned.checked.prog.wantsStandIn t = false := by
  obtain rfl : f = 6 := Option.some.inj ((show Tryz.prog.funcNamed "whenstead/whensteadlaw5.BookOpens" = some 6 by kernel_rfl).symm.trans hf) |>.symm
  obtain rfl : fn = Tryz.f6 := (Option.some.inj (Tryz.func6.symm.trans hfn)).symm
  refine ⟨by kernel_rfl, fun j t ht => ?_⟩
  rw [Tryz.params6] at ht
  have hm : t ∈ [3, 9] := by simpa using Array.mem_of_getElem? ht
  have hall : ([3, 9].all fun u => !Tryz.prog.wantsStandIn u) = true := by kernel_rfl
  exact (show Tryz.prog.wantsStandIn t = false by simpa using List.all_eq_true.1 hall t hm)

theorem bookOpens : Rows.BookOpensUptoCardSaid :=
  Claim7.holds_tied_plain_at .later [] _ _ _ _ bookOpensRow (fun _ h => by cases h) (by kernel_rfl) (fun _ h => by cases h) bookOpensUpto_row_tie rfl ⟨rfl, rfl⟩ (by kernel_rfl) rfl plainO (by kernel_rfl)
end Go.Proofs.YthdbbgajmgjfcaaGreatDoor
