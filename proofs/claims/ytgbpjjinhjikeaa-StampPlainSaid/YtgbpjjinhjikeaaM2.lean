/- Sets in sets, bit by bit. -/
import Derived.Test.YtgbpjjinhjikeaaM
namespace Go.Proofs.Ytgbpjjinhjikeaa
open Go.Vc

theorem tb_succ (a k : Nat) : a.testBit (k + 1) = (a / 2).testBit k := Nat.testBit_succ a k
theorem tb_zero (a : Nat) : a.testBit 0 = decide (a % 2 = 1) := Nat.testBit_zero a

theorem subN_iff : ∀ (f a b : Nat), a ≤ f → (subN f a (b : Int) = true ↔ ∀ k, a.testBit k = true → b.testBit k = true) := by
  intro f
  induction f with
  | zero =>
    intro a b h
    have : a = 0 := by omega
    subst this
    simp [subN]
  | succ f ih =>
    intro a b h
    unfold subN
    by_cases h0 : a = 0
    · subst h0; simp
    · rw [if_neg h0]
      have e1 : (b : Int).tmod 2 = ((b % 2 : Nat) : Int) := (Int.ofNat_tmod b 2).symm
      have e2 : (b : Int).tdiv 2 = ((b / 2 : Nat) : Int) := (Int.ofNat_tdiv b 2).symm
      rw [e1, e2]
      by_cases hc : a % 2 = 1 ∧ ((b % 2 : Nat) : Int) = 0
      · rw [if_pos hc]
        simp only [Bool.false_eq_true, false_iff]
        intro hall
        have := hall 0 (by rw [tb_zero]; simp [hc.1])
        rw [tb_zero, decide_eq_true_eq] at this
        have := hc.2
        omega
      · rw [if_neg hc, ih (a / 2) (b / 2) (by omega)]
        constructor
        · intro hall k hk
          cases k with
          | zero =>
            rw [tb_zero, decide_eq_true_eq] at hk
            rw [tb_zero, decide_eq_true_eq]
            rcases Nat.mod_two_eq_zero_or_one b with hb | hb
            · exact absurd ⟨hk, by rw [hb]; rfl⟩ hc
            · exact hb
          | succ k => rw [tb_succ] at hk ⊢; exact hall k hk
        · intro hall k hk
          rw [← tb_succ] at hk ⊢
          exact hall (k + 1) hk

theorem subB_iff (a b : Nat) : subB (a : Int) (b : Int) = true ↔ ∀ k, a.testBit k = true → b.testBit k = true := subN_iff a a b (Nat.le_refl _)
theorem bitB_nat (a k : Nat) : bitB (a : Int) (k : Int) = a.testBit k := by
  unfold bitB
  simp
end Go.Proofs.Ytgbpjjinhjikeaa
