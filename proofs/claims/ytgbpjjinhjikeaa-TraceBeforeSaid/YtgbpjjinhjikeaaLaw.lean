/- TraceBefore's function answers true. -/
import Derived.Test.YtgbpjjinhjikeaaM3
import Derived.Test.YtgbpjjinhjikeaaV4
namespace Go.Proofs.Ytgbpjjinhjikeaa
open Go.Vc

theorem bif_false {c : Bool} {a b : Bool} (h1 : c = true → a = false) (h2 : c = false → b = false) : (bif c then a else b) = false := by
  cases c
  · exact h2 rfl
  · exact h1 rfl

theorem law_vc (t : Tr) (o : List Int) (k : List Dat → Prop) (hk : k [⟨.bool, true⟩]) (hlo : o.length ≤ maxLen) : vcF ⟨Et, [(10, cFact), (11, cBefore), (12, cPow2), (13, cBit), (14, cSub)]⟩ (joinAll :: anLaw t o) (Try.f3.body.getD .skip) Try.f3.ntmps [(.tmp 4, .bool)] [⟨tTr, t⟩, ⟨.sl I, o⟩] k := by
  rw [vcLaw]
  have ret : ∀ x : Bool, x = true → k [⟨.bool, x⟩] := by rintro _ rfl; exact hk
  simp only [decide_eq_true_eq, decide_eq_false_iff_not, and_true, true_and, Bool.not_eq_true', Bool.not_eq_false', Int.toNat_natCast, implies_true, eq_self, inK_i64]
  refine ⟨(fun h => by cases h), fun _ => ⟨fun h => ret _ ?_, fun h => ⟨fun h1 => ?_, fun h1 => ?_⟩⟩⟩
  · have : bef t = [] := by unfold bef; rw [if_neg h]
    rw [this]; rfl
  · rw [bef_len h] at h1
    exact absurd rfl h1
  · have g := good_of h
    have hl := g.len
    have hbl : (bef t).length = t.2.1.length := bef_len h
    refine ⟨⟨(0, decide ((o.length : Int) = (t.2.1.length : Int))), ⟨Nat.zero_le _, fun hx => ⟨?_, fun a b ha => ?_, fun b hb => ?_⟩⟩, rfl, rfl⟩, ?_⟩
    · have : (o.length : Int) = (t.2.1.length : Int) := by simpa using hx
      omega
    · exact absurd ha (Nat.not_lt_zero _)
    · exact absurd hb (Nat.not_lt_zero _)
    rintro ⟨i, gd⟩ ⟨hi, hg⟩
    have hi : i ≤ t.2.1.length := hi
    have hg : goodP t o gd i 0 := hg
    dsimp only
    refine ⟨fun hlt => ?_, fun hge => ?_⟩
    · have hlt : i < t.2.1.length := by omega
      have hb := bef_at h hlt
      have hbd := bB_bound g hlt
      simp only [hb]
      refine ⟨⟨by omega, by omega, fun _ => ⟨by omega, by omega, by omega⟩⟩, fun hc => ?_, fun hc => ⟨⟨(0, gd), ⟨by omega, hg⟩, rfl, rfl⟩, ?_⟩⟩
      · simp only [Bool.or_eq_true, decide_eq_true_eq] at hc
        omega
      rintro ⟨j, gd'⟩ ⟨hj, hg'⟩
      have hj : (j : Int) ≤ i := hj
      have hg' : goodP t o gd' i j := hg'
      dsimp only
      refine ⟨fun hjl => ?_, fun hjge => ?_⟩
      · have hjl : j < i := by omega
        have hbj := bef_at h (i := j) (by omega)
        have hm : ∀ m : Bool, (decide ((t.2.1.getD j (0, 0, ())).1 = (t.2.1.getD i (0, 0, ())).1) || decide ((t.2.1.getD i (0, 0, ())).2.1 = (j : Int))) = m → (m = true ↔ mustP t i j) := by
          rintro _ rfl
          simp [mustP]
        simp only [hbj]
        generalize hm0 : (decide ((t.2.1.getD j (0, 0, ())).1 = (t.2.1.getD i (0, 0, ())).1) || decide ((t.2.1.getD i (0, 0, ())).2.1 = (j : Int))) = m
        have hmm := hm m hm0
        have hmb : m = true → bitB ((bB t.2.1 i : Nat) : Int) (j : Int) = true := fun e => must_bit g hlt hjl (hmm.1 e)
        have hbs : bitB ((bB t.2.1 i : Nat) : Int) (j : Int) = true → subB ((bB t.2.1 j : Nat) : Int) ((bB t.2.1 i : Nat) : Int) = true := bit_sub g hlt
        refine ⟨⟨by omega, by omega, by omega, by omega, fun _ => ⟨by omega, by omega⟩⟩, ⟨fun _ => ⟨by omega, by omega, fun _ => ⟨by omega, by omega, fun _ => ⟨by omega, by omega, by omega, by omega⟩⟩⟩, fun _ => ⟨by omega, by omega, fun _ => ⟨by omega, by omega, by omega, by omega⟩⟩⟩, fun hc => ?_, fun _ => ⟨fun e => ?_, by omega, ?_⟩⟩
        · rw [bif_false (fun e => by rw [hmb e, hbs (hmb e)]; rfl) (fun _ => ?_)] at hc
          · cases hc
          · cases e : bitB ((bB t.2.1 i : Nat) : Int) (j : Int) with
            | false => rfl
            | true => rw [hbs e]; rfl
        · have hol := (hg' e).1
          refine ⟨by omega, by omega, fun _ => ⟨fun _ => ⟨by omega, by omega, fun _ => ⟨by omega, by omega, by omega, by omega⟩⟩, fun _ => ⟨by omega, by omega, fun _ => ⟨by omega, by omega, fun _ => ⟨by omega, by omega, by omega, by omega⟩⟩⟩⟩⟩
        · generalize hgd : (gd' && _) = gn
          refine ⟨(j + 1, gn), ⟨(show ((j + 1 : Nat) : Int) ≤ i by omega), ?_⟩, (show t.2.1.length - (j + 1) < t.2.1.length - j by omega), rfl, rfl⟩
          intro hc
          have hc : gn = true := hc
          rw [← hgd] at hc
          simp only [Bool.and_eq_true, decide_eq_true_eq] at hc
          obtain ⟨c1, c2, c3⟩ := hc
          obtain ⟨k1, k2, k3⟩ := hg' c1
          refine ⟨k1, k2, fun b hb => ?_⟩
          by_cases hbj : b = j
          · subst hbj
            refine ⟨c2, fun hmu => ?_, fun hbi => ?_⟩
            · rw [hmm.2 hmu] at c3
              simp only [Bool.not_true, cond_false, Bool.and_eq_true] at c3
              exact c3.1
            · rw [hbi] at c3
              cases m <;> simpa using c3
          · exact k3 b (by omega)
      · have hjge : i ≤ j := by omega
        refine ⟨by omega, (i + 1, gd'), ⟨(show i + 1 ≤ t.2.1.length by omega), fun e => ?_⟩, ?_, rfl, rfl⟩
        · obtain ⟨k1, k2, k3⟩ := hg' e
          refine ⟨k1, fun a b ha hb => ?_, fun b hb => absurd hb (Nat.not_lt_zero _)⟩
          by_cases hai : a = i
          · subst hai; exact k3 b (by omega)
          · exact k2 a b (by have : a < i + 1 := ha; omega) hb
        · show t.2.1.length - (i + 1) < t.2.1.length - i
          omega
    · refine ⟨⟨0, Nat.zero_le _, rfl⟩, fun x hx => ⟨fun hlt => ⟨fun e => ?_, fun _ => hk⟩, fun _ => hk⟩⟩
      have hil : i = t.2.1.length := by omega
      subst hil
      subst e
      have hol := (hg rfl).1
      have hs := good_all g hg x (by omega)
      rw [bef_at h (by omega)]
      refine ⟨⟨by omega, by omega, by omega, by omega⟩, fun hc => ?_, fun _ => ⟨by omega, x + 1, by omega, by omega, rfl⟩⟩
      rw [hs] at hc
      cases hc

theorem okLaw : PlainOk Try.prog 3 (cdet [tTr, .sl I] (fun _ _ => True) (fun _ _ => [⟨.bool, true⟩])) := by
  refine plain_of (CxOk.mk' Et_ok rfl mixed (GOk.cons okFact Try.func10 (by kernel_rfl) (by kernel_rfl) (GOk.cons okBefore Try.func11 (by kernel_rfl) (by kernel_rfl) (GOk.cons okPow2 Try.func12 (by kernel_rfl) (by kernel_rfl) (GOk.cons okBit Try.func13 (by kernel_rfl) (by kernel_rfl) (GOk.cons okSub Try.func14 (by kernel_rfl) (by kernel_rfl) GOk.nil)))))) Try.func3 (c := Try.f3.body.getD .skip) (rvs := [(.tmp 4, .bool)]) (by kernel_rfl) (by kernel_rfl) (by kernel_rfl) ?_
  intro ds k ⟨hp, hk⟩ hwf
  obtain ⟨t, o, rfl, -⟩ := dest2 hp
  exact ⟨joinAll :: anLaw t o, law_vc t o k hk (wf2 hwf).2.1⟩
end Go.Proofs.Ytgbpjjinhjikeaa
