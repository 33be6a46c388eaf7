/- The edits' functions keep their contracts; what one meant is kept. -/
import Derived.Test.YtpidkjpjjidghaaDoorV
namespace Go.Proofs.YtpidkjpjjidghaaDoor
open Go.Vc

theorem wfE {e : Int × Int × Int × Unit} (h : Ty.wf tEdit e) : inK .i64 e.1 ∧ inK .i64 e.2.1 ∧ inK .i64 e.2.2.1 := ⟨h.1, h.2.1, h.2.2.1⟩

theorem okWithin : PlainOk Tryd.prog glE 19 cWithin := by
  refine plain_of (CxOk.mk' Ee_ok rfl (by kernel_rfl) (gl := glE) GOk.nil GoOk.nil noIt) Tryd.func19 (c := Tryd.f19.body.getD .skip) (rvs := [(.tmp 6, .bool)]) (by kernel_rfl) (by kernel_rfl) (by kernel_rfl) ?_
  intro ds k ⟨hp, hk⟩ hwf
  obtain ⟨a, b, c, rfl, -⟩ := dest3 hp
  have hk : k [⟨.bool, inB a b c⟩] := hk
  refine ⟨[], ?_⟩
  rw [vcWithin]
  unfold inB at hk
  refine ⟨fun h => ?_, fun h => ?_⟩ <;> simpa [h] using hk

theorem okCheck : PlainOk Tryd.prog glE 10 cCheck := by
  refine plain_of (CxOk.mk' Ee_ok rfl (by kernel_rfl) (gl := glE) (GOk.cons okWithin Tryd.func19 (by kernel_rfl) (by kernel_rfl) GOk.nil) GoOk.nil noIt) Tryd.func10 (c := Tryd.f10.body.getD .skip) (rvs := [(.tmp 2, tErr)]) (by kernel_rfl) (by kernel_rfl) (by kernel_rfl) ?_
  intro ds k ⟨hp, hk⟩ hwf
  obtain ⟨e, rfl, -⟩ := dest1 hp
  have hk : k [⟨tErr, chk e⟩] := hk
  refine ⟨[], ?_⟩
  rw [vcCheck]
  unfold chk editOk at hk
  refine ⟨trivial, fun h1 => ⟨by decide, ?_⟩, fun h1 => ⟨trivial, fun h2 => ⟨by decide, ?_⟩, fun h2 => ⟨trivial, fun h3 => ⟨by decide, ?_⟩, fun h3 => ?_⟩⟩⟩
  all_goals simp_all

theorem editOk_iff {e : Int × Int × Int × Unit} : editOk e = true ↔ 0 ≤ e.1 ∧ e.1 ≤ 60 ∧ -2 ≤ e.2.1 ∧ e.2.1 ≤ 255 ∧ 0 ≤ e.2.2.1 ∧ e.2.2.1 ≤ 4 := by
  simp [editOk, inB, and_assoc]
theorem chk0 {e : Int × Int × Int × Unit} : chk e = 0 ↔ editOk e = true := by
  unfold chk; split <;> simp_all
theorem chk1 {e : Int × Int × Int × Unit} (h : ¬ chk e = 0) : chk e = 1 ∧ editOk e = false := by
  unfold chk at *; split <;> simp_all

theorem okTurn : PlainOk Tryd.prog glE 8 cTurn := by
  refine plain_of (CxOk.mk' Ee_ok rfl (by kernel_rfl) (gl := glE) (GOk.cons okCheck Tryd.func10 (by kernel_rfl) (by kernel_rfl) (GOk.cons okWithin Tryd.func19 (by kernel_rfl) (by kernel_rfl) GOk.nil)) GoOk.nil noIt) Tryd.func8 (c := Tryd.f8.body.getD .skip) (rvs := [(.cell 4 23, tEdit), (.tmp 5, tErr)]) (by kernel_rfl) (by kernel_rfl) (by kernel_rfl) ?_
  intro ds k ⟨hp, hk⟩ hwf
  obtain ⟨e, f, rfl, -⟩ := dest2 hp
  have hk : k [⟨tEdit, turn e f⟩, ⟨tErr, turnErr e f⟩] := hk
  refine ⟨[], ?_⟩
  rw [vcTurn]
  have ret : ∀ (a : Int × Int × Int × Unit) (b : Int), turnErr e f = b → turn e f = a → k [⟨tEdit, a⟩, ⟨tErr, b⟩] := by
    intro a b h1 h2; rw [← h1, ← h2]; exact hk
  simp only [Bool.not_eq_true', decide_eq_false_iff_not, decide_eq_true_eq, Bool.not_eq_false', inK_i64]
  refine ⟨trivial, fun h => ?_, fun h => ⟨trivial, fun g => ?_, fun g => ?_⟩⟩
  · obtain ⟨h, h'⟩ := chk1 h
    refine ret _ _ ?_ ?_ <;> simp [turn, turnErr, h, h']
  · have h := chk0.1 h
    obtain ⟨g, g'⟩ := chk1 g
    refine ret _ _ ?_ ?_ <;> simp [turn, turnErr, h, g, g']
  · have h := chk0.1 h
    have g := chk0.1 g
    have he := editOk_iff.1 h
    have hf := editOk_iff.1 g
    obtain ⟨e1, e2, e3, ⟨⟩⟩ := e
    obtain ⟨f1, f2, f3, ⟨⟩⟩ := f
    simp only at *
    have retT : ∀ (a : Int × Int × Int × Unit), e3 ≠ f3 → turned (e1, e2, e3, ()) (f1, f2, f3, ()) = a → ¬ 60 < a.1 → k [⟨tEdit, a⟩, ⟨tErr, 0⟩] := by
      intro a h0 h1 h2
      have : turnErr (e1, e2, e3, ()) (f1, f2, f3, ()) = 0 := by unfold turnErr; simp [h, g, h0, h1]; omega
      refine ret _ _ this ?_
      unfold turn; rw [if_pos this, h1]
    have retF : ∀ (a : Int × Int × Int × Unit), e3 ≠ f3 → turned (e1, e2, e3, ()) (f1, f2, f3, ()) = a → 60 < a.1 → k [⟨tEdit, ((0 : Int), (0 : Int), (0 : Int), ())⟩, ⟨tErr, (4 : Int)⟩] := by
      intro a h0 h1 h2
      have : turnErr (e1, e2, e3, ()) (f1, f2, f3, ()) = 4 := by unfold turnErr; simp [h, g, h0, h1]; omega
      refine ret _ _ this ?_
      unfold turn; rw [if_neg (by rw [this]; decide)]
    refine ⟨fun hw => ⟨by decide, ?_⟩, fun hw => ?_⟩
    · have : turnErr (e1, e2, e3, ()) (f1, f2, f3, ()) = 6 := by
        unfold turnErr; rw [if_neg (by rw [h]; decide), if_neg (by rw [g]; decide)]; exact if_pos hw
      refine ret _ _ this ?_
      unfold turn; rw [if_neg (by rw [this]; decide)]
    · refine ⟨fun h1 => ⟨fun h2 => by omega, fun h2 => retT _ hw (by simp [turned, h1]) h2⟩, fun h1 => ⟨fun h1' => ⟨fun h2 => by omega, fun h2 => retT _ hw (by simp [turned, h1']) h2⟩, fun h1' => ⟨fun h3 => ?_, fun h3 => ?_⟩⟩⟩
      · refine ⟨fun h4 => ⟨by omega, fun h5 => ⟨by decide, retF (e1 + 1, e2, e3, ()) hw (by simp [turned, h1, h1', h3, h4]) h5⟩, fun h5 => retT _ hw (by simp [turned, h1, h1', h3, h4]) h5⟩, fun h4 => ⟨fun h6 => ?_, fun h6 => ?_⟩⟩
        · refine ⟨fun h7 => ?_, fun h7 => ⟨fun h8 => ?_, fun h8 => ?_⟩⟩
          · refine ⟨by omega, fun h5 => ⟨by decide, retF (e1 + 1, e2, e3, ()) hw (by simp [turned, h1, h1', h3, h6]; omega) h5⟩, fun h5 => retT _ hw (by simp [turned, h1, h1', h3, h6]; omega) h5⟩
          · refine ⟨by omega, fun h5 => ⟨by decide, retF (e1 + 1, e2, e3, ()) hw (by simp [turned, h1, h1', h3, h6, h8]) h5⟩, fun h5 => retT _ hw (by simp [turned, h1, h1', h3, h6, h8]) h5⟩
          · refine ⟨fun h5 => by omega, fun h5 => retT _ hw (by simp [turned, h1, h1', h3, h6]; omega) h5⟩
        · refine ⟨fun h5 => by omega, fun h5 => retT _ hw (by simp [turned, h1, h1', h3, h4, h6]) h5⟩
      · refine ⟨fun h4 => ⟨by omega, fun h5 => by omega, fun h5 => retT _ hw (by simp [turned, h1, h1', h3, h4]) h5⟩, fun h4 => ⟨fun h6 => ⟨fun h7 => ⟨fun h5 => by omega, fun h5 => retT _ hw (by simp [turned, h1, h1', h3, h6]; omega) h5⟩, fun h7 => ⟨fun h5 => by omega, fun h5 => retT _ hw (by simp [turned, h1, h1', h3, h6]; omega) h5⟩⟩, fun h6 => ⟨fun h5 => by omega, fun h5 => retT _ hw (by simp [turned, h1, h1', h3, h4, h6]) h5⟩⟩⟩

theorem len_wf {s : List UInt8} (h : Ty.wf .str s) : s.length ≤ maxLen := h

theorem okApply : PlainOk Tryd.prog glE 7 cApply := by
  refine plain_of (CxOk.mk' Ee_ok rfl (by kernel_rfl) (gl := glE) (GOk.cons okCheck Tryd.func10 (by kernel_rfl) (by kernel_rfl) GOk.nil) GoOk.nil noIt) Tryd.func7 (c := Tryd.f7.body.getD .skip) (rvs := [(.tmp 4, .str), (.tmp 5, tErr)]) (by kernel_rfl) (by kernel_rfl) (by kernel_rfl) ?_
  intro ds k ⟨hp, hk⟩ hwf
  obtain ⟨s, e, rfl, -⟩ := dest2 hp
  have hk : k [⟨.str, app s e⟩, ⟨tErr, appErr s e⟩] := hk
  refine ⟨[], ?_⟩
  rw [vcApply]
  have retE : ∀ (b : Int), appErr s e = b → b ≠ 0 → k [⟨.str, []⟩, ⟨tErr, b⟩] := by
    intro b h h0
    have : app s e = [] := by unfold app; rw [if_neg (by rw [h]; exact h0)]
    rw [← h, ← this]; exact hk
  have retT : ∀ (a : List UInt8), appErr s e = 0 → app s e = a → k [⟨.str, a⟩, ⟨tErr, 0⟩] := by
    intro b h h0
    rw [← h, ← h0]; exact hk
  simp only [Bool.not_eq_true', decide_eq_false_iff_not, decide_eq_true_eq, Bool.not_eq_false', inK_i64, inK_u8]
  refine ⟨fun h => ⟨by decide, retE 4 ?_ (by decide)⟩, fun h => ⟨trivial, fun h1 => ?_, fun h1 => ?_⟩⟩
  · unfold appErr; rw [if_pos (by omega)]
  · obtain ⟨h1, h2⟩ := chk1 h1
    rw [h1]
    refine retE 1 ?_ (by decide)
    unfold appErr; rw [if_neg (by omega), if_pos h2]
  · have h1 := chk0.1 h1
    have he := editOk_iff.1 h1
    have hm : maxLen = 1000000000000 ∨ 200 ≤ maxLen := by right; decide
    have hml : 200 ≤ maxLen := by decide
    have b1 : ∀ x : Int, (bstr [x]).length = 1 := fun x => rfl
    have base : appErr s e = if e.2.1 = -2 then 0 else if e.2.1 = -1 then (if (s.length : Int) ≤ e.1 then 5 else 0)
        else if (s.length : Int) < e.1 then 5 else if s.length = 60 then 4 else 0 := by
      unfold appErr; rw [if_neg (by omega), if_neg (by rw [h1]; decide)]
    refine ⟨fun h2 => ?_, fun h2 => ⟨fun h3 => ⟨fun h4 => ⟨by decide, ?_⟩, fun h4 => ?_⟩, fun h3 => ⟨fun h4 => ⟨by decide, ?_⟩, fun h4 => ⟨fun h5 => ⟨by decide, ?_⟩, fun h5 => ?_⟩⟩⟩⟩
    · have h0 : appErr s e = 0 := by rw [base, if_pos h2]
      exact retT _ h0 (by unfold app; rw [if_pos h0, if_pos h2])
    · exact retE 5 (by rw [base, if_neg h2, if_pos h3, if_pos h4]) (by decide)
    · have h0 : appErr s e = 0 := by rw [base, if_neg h2, if_pos h3, if_neg h4]
      refine ⟨by omega, by omega, by omega, by omega, by omega, by omega, by omega, ?_, ?_⟩
      · simp only [List.length_drop, List.length_take]; omega
      · refine retT _ h0 ?_
        unfold app
        rw [if_pos h0, if_neg h2, if_pos h3]
        simp [List.take_of_length_le]
    · exact retE 5 (by rw [base, if_neg h2, if_neg h3, if_pos h4]) (by decide)
    · exact retE 4 (by rw [base, if_neg h2, if_neg h3, if_neg h4, if_pos (by omega)]) (by decide)
    · have h0 : appErr s e = 0 := by rw [base, if_neg h2, if_neg h3, if_neg h4, if_neg (by omega)]
      have hb : (List.replicate 1 (0 : Int)).set 0 e.2.1 = [e.2.1] := rfl
      rw [hb]
      refine ⟨by omega, by omega, by omega, by omega, ?_, by omega, by omega, by omega, ?_, ?_⟩
      · simp only [List.length_drop, List.length_take, b1]; omega
      · simp only [List.append_eq, List.length_append, List.length_drop, List.length_take, b1]; omega
      · refine retT _ h0 ?_
        unfold app
        rw [if_pos h0, if_neg h2, if_neg h3]
        simp [List.take_of_length_le]

theorem okFact : PlainOk Tryd.prog glE 6 cFact := by
  refine plain_of (CxOk.mk' Ee_ok rfl (by kernel_rfl) (gl := glE) (GOk.cons okApply Tryd.func7 (by kernel_rfl) (by kernel_rfl) (GOk.cons okTurn Tryd.func8 (by kernel_rfl) (by kernel_rfl) GOk.nil)) GoOk.nil noIt) Tryd.func6 (c := Tryd.f6.body.getD .skip) (rvs := [(.tmp 0, .bool)]) (by kernel_rfl) (by kernel_rfl) (by kernel_rfl) ?_
  intro ds k ⟨hp, hk⟩ hwf
  obtain ⟨rfl, -⟩ := dest0 hp
  have hk : k [⟨.bool, true⟩] := hk
  refine ⟨[], ?_⟩
  rw [vcFact]
  refine ⟨trivial, trivial, fun _ => ⟨fun _ => ⟨fun _ => hk, fun h => ?_⟩, fun h => ?_⟩, fun h => ?_⟩
  · exact absurd h (by decide)
  · exact absurd h (by decide)
  · exact absurd h (by decide)
end Go.Proofs.YtpidkjpjjidghaaDoor
