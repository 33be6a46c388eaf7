/- Edits: EditOne's law. -/
import Derived.Test.YtpidkjpjjidghaaDoorM2
namespace Go.Proofs.YtpidkjpjjidghaaDoor
open Go.Vc

theorem one_vc (s : List UInt8) (a b : Ed) (k : List Dat → Prop) (hk : k [⟨.bool, true⟩]) :
    vcF ⟨Ee, [(6, cFact), (7, cApply), (8, cTurn), (9, cError)], glE, [], []⟩ [joinAll] (Tryd.f3.body.getD .skip) Tryd.f3.ntmps [(.tmp 6, .bool)] [⟨.str, s⟩, ⟨tEdit, a⟩, ⟨tEdit, b⟩] k := by
  rw [vcOne]
  simp only [decide_eq_true_eq, decide_eq_false_iff_not, and_true, true_and, Bool.not_eq_true', Bool.not_eq_false']
  refine ⟨(fun h => by cases h), fun _ => ⟨fun _ => hk, fun ha => ⟨fun _ => hk, fun hb => ⟨fun _ => hk, fun h1 => ⟨fun _ => hk, fun h2 => ?_⟩⟩⟩⟩⟩
  have ho := one ha hb h1 h2
  unfold OneP at ho
  rw [← (turn_zero h1).1, ← (turn_zero h2).1] at ho
  rcases ho with ⟨p, q, e⟩ | ⟨p, q⟩
  · exact ⟨fun h => absurd p h, fun _ => ⟨fun h => absurd q h, fun _ => by rw [e, beq_self_eq_true]; exact hk⟩⟩
  · rw [p, q]
    have hin : inK .i64 (4 : Int) := by rw [inK_i64]; omega
    exact ⟨fun _ => ⟨hin, fun _ => ⟨hin, hk⟩, fun h => absurd rfl h⟩, fun h => by cases h⟩

theorem okOne : PlainOk Tryd.prog glE 3 cOne := by
  refine plain_of (CxOk.mk' Ee_ok rfl (by kernel_rfl) (gl := glE) (GOk.cons okFact Tryd.func6 (by kernel_rfl) (by kernel_rfl) (GOk.cons okApply Tryd.func7 (by kernel_rfl) (by kernel_rfl) (GOk.cons okTurn Tryd.func8 (by kernel_rfl) (by kernel_rfl) (GOk.cons okError Tryd.func9 (by kernel_rfl) (by kernel_rfl) GOk.nil)))) GoOk.nil noIt) Tryd.func3 (c := Tryd.f3.body.getD .skip) (rvs := [(.tmp 6, .bool)]) (by kernel_rfl) (by kernel_rfl) (by kernel_rfl) ?_
  intro ds k ⟨hp, hk⟩ hwf
  obtain ⟨s, a, b, rfl, -⟩ := dest3 hp
  exact ⟨[joinAll], one_vc s a b k hk⟩
end Go.Proofs.YtpidkjpjjidghaaDoor
