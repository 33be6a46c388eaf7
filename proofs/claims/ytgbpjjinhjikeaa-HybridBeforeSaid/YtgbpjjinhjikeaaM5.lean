/- How many things a set has; which stamp is less. -/
import Derived.Test.YtgbpjjinhjikeaaM4
import Derived.Test.YtgbpjjinhjikeaaDef6
namespace Go.Proofs.Ytgbpjjinhjikeaa
open Go.Vc

def pp (a : Nat) : Nat := popN a a
theorem popN_fuel : ∀ (f g a : Nat), a ≤ f → a ≤ g → popN f a = popN g a := by
  intro f
  induction f with
  | zero =>
    intro g a h1 h2
    have : a = 0 := by omega
    subst this
    cases g <;> simp [popN]
  | succ f ih =>
    intro g a h1 h2
    cases g with
    | zero =>
      have : a = 0 := by omega
      subst this
      simp [popN]
    | succ g =>
      unfold popN
      by_cases h : a = 0
      · simp [h]
      · rw [if_neg h, if_neg h, ih g (a / 2) (by omega) (by omega)]
theorem pp_step (a : Nat) : pp a = a % 2 + pp (a / 2) := by
  unfold pp
  cases a with
  | zero => rfl
  | succ m =>
    rw [popN, if_neg (by omega), popN_fuel m ((m + 1) / 2) ((m + 1) / 2) (by omega) (Nat.le_refl _)]
theorem pp_le (a : Nat) : pp a ≤ a := by
  induction a using Nat.strongRecOn with
  | _ a ih =>
    rw [pp_step]
    by_cases h : a = 0
    · subst h; decide
    · have := ih (a / 2) (by omega)
      omega
theorem bit0_le {a b : Nat} (h : ∀ k, a.testBit k = true → b.testBit k = true) : a % 2 ≤ b % 2 := by
  have h0 := h 0
  rw [tb_zero, tb_zero, decide_eq_true_eq, decide_eq_true_eq] at h0
  omega
theorem half_sub {a b : Nat} (h : ∀ k, a.testBit k = true → b.testBit k = true) : ∀ k, (a / 2).testBit k = true → (b / 2).testBit k = true := by
  intro k hk
  rw [← tb_succ] at hk ⊢
  exact h _ hk
theorem pp_mono {a b : Nat} (h : ∀ k, a.testBit k = true → b.testBit k = true) : pp a ≤ pp b := by
  induction a using Nat.strongRecOn generalizing b with
  | _ a ih =>
    by_cases h0 : a = 0
    · subst h0; exact Nat.zero_le _
    · have h1 := bit0_le h
      have h2 := ih (a / 2) (by omega) (half_sub h)
      rw [pp_step a, pp_step b]
      omega
theorem pp_more {a b : Nat} (h : ∀ k, a.testBit k = true → b.testBit k = true) {j : Nat} (hb : b.testBit j = true) (ha : a.testBit j = false) : pp a + 1 ≤ pp b := by
  induction j generalizing a b with
  | zero =>
    have h2 := pp_mono (half_sub h)
    rw [tb_zero, decide_eq_true_eq] at hb
    rw [tb_zero, decide_eq_false_iff_not] at ha
    rw [pp_step a, pp_step b]
    omega
  | succ j ih =>
    have h1 := bit0_le h
    rw [tb_succ] at hb ha
    have h2 := ih (half_sub h) hb ha
    rw [pp_step a, pp_step b]
    omega

theorem pop_pos {a : Int} (h : 0 < a) : pop a = a.tmod 2 + pop (a.tdiv 2) := by
  obtain ⟨n, rfl⟩ := Int.eq_ofNat_of_zero_le (Int.le_of_lt h)
  have e1 : ((n : Int).tdiv 2) = ((n / 2 : Nat) : Int) := (Int.ofNat_tdiv n 2).symm
  have e2 : (n : Int).tmod 2 = ((n % 2 : Nat) : Int) := (Int.ofNat_tmod n 2).symm
  rw [e1, e2]
  unfold pop
  simp only [Int.toNat_natCast]
  have := pp_step n
  unfold pp at this
  rw [this]
  exact Int.natCast_add ..
theorem pop_neg {a : Int} (h : ¬ 0 < a) : pop a = 0 := by
  unfold pop
  have : a.toNat = 0 := by omega
  rw [this]; rfl
theorem pop_nonneg (a : Int) : 0 ≤ pop a := Int.natCast_nonneg _
theorem pop_le {a : Int} (h : inK .i64 a) : pop a ≤ 9223372036854775807 := by
  rw [inK_i64] at h
  have := pp_le a.toNat
  unfold pop
  unfold pp at this
  omega
theorem pop_nat (a : Nat) : pop (a : Int) = ((pp a : Nat) : Int) := by
  unfold pop pp
  simp only [Int.toNat_natCast]

/-- is a stamp ahead of another one? -/
def lexP (a b : Stp) : Prop := a.1 < b.1 ∨ (a.1 = b.1 ∧ a.2.1 < b.2.1)
theorem lexP.trans {a b c : Stp} (h : lexP a b) (k : lexP b c) : lexP a c := by
  unfold lexP at *
  omega
theorem nextS_l (a b : Stp) (n : Int) : lexP a (nextS a b n) := by
  unfold lexP nextS
  dsimp only
  by_cases h : max (max a.1 b.1) n = a.1
  · right
    refine ⟨h.symm, ?_⟩
    rw [if_pos h]
    split <;> omega
  · left; omega
theorem nextS_r (a b : Stp) (n : Int) : lexP b (nextS a b n) := by
  unfold lexP nextS
  dsimp only
  by_cases h : max (max a.1 b.1) n = b.1
  · right
    refine ⟨h.symm, ?_⟩
    rw [if_pos h]
    omega
  · left; omega
theorem nextS_n (a b : Stp) (n : Int) : n ≤ (nextS a b n).1 := by
  unfold nextS
  dsimp only
  omega

section
variable {l : List Ev} {ts : List Int} (hp : ∀ i, i < l.length → prc l i < 5) (hf : ∀ i, i < l.length → frm l i < (i : Int))
include hp hf
theorem stp_just {i j : Nat} (hi : i < l.length) (h : justB l i j) : lexP (stp l ts j) (stp l ts i) := by
  obtain ⟨a, b, hS, _, _, hj⟩ := stp_rec (ts := ts) hp hf hi
  rw [hS]
  rcases hj j h with e | e
  · rw [← e]; exact nextS_l _ _ _
  · rw [← e]; exact nextS_r _ _ _
theorem stp_less {i k : Nat} (hi : i < l.length) (h : (bB l i).testBit k = true) : lexP (stp l ts k) (stp l ts i) := by
  induction i using Nat.strongRecOn with
  | _ i ih =>
    obtain ⟨j, hj, hk⟩ := (bB_bit hp hf hi k).1 h
    have h1 := stp_just (ts := ts) hp hf hi hj
    rcases hk with hk | hk
    · exact (ih j hj.1 (by have := hj.1; omega) hk).trans h1
    · rw [hk]; exact h1
theorem stp_own {i : Nat} (hi : i < l.length) : ts.getD i 0 ≤ (stp l ts i).1 := by
  obtain ⟨a, b, hS, _⟩ := stp_rec (ts := ts) hp hf hi
  rw [hS]; exact nextS_n _ _ _
theorem stp_most {i k : Nat} (hi : i < l.length) (h : (bB l i).testBit k = true) : ts.getD k 0 ≤ (stp l ts i).1 := by
  have h1 := stp_less (ts := ts) hp hf hi h
  have h2 := stp_own (ts := ts) hp hf (i := k) (by have := bB_less hp hf hi h; omega)
  unfold lexP at h1
  omega
theorem stp_count (ht : ∀ i, 0 ≤ ts.getD i 0) {i : Nat} (hi : i < l.length) : (stp l ts i).2.1 ≤ ((pp (bB l i) : Nat) : Int) := by
  induction i using Nat.strongRecOn with
  | _ i ih =>
    obtain ⟨a, b, hS, ha, hb, _⟩ := stp_rec (ts := ts) hp hf hi
    have h0 := ht i
    have hone : ∀ c : Stp, (c = noS ∨ ∃ j, justB l i j ∧ c = stp l ts j) → c.1 = -1 ∨ c.2.1 + 1 ≤ ((pp (bB l i) : Nat) : Int) := by
      intro c hc
      rcases hc with rfl | ⟨j, hj, rfl⟩
      · exact .inl rfl
      · right
        have h1 := ih j hj.1 (by have := hj.1; omega)
        have h2 : pp (bB l j) + 1 ≤ pp (bB l i) := by
          refine pp_more (j := j) (fun k hk => (bB_bit hp hf hi k).2 ⟨j, hj, .inl hk⟩) ((bB_bit hp hf hi j).2 ⟨j, hj, .inr rfl⟩) ?_
          cases hq : (bB l j).testBit j with
          | false => rfl
          | true => have := bB_less hp hf (by have := hj.1; omega) hq; omega
        omega
    have h1 := hone a ha
    have h2 := hone b hb
    rw [hS]
    unfold nextS
    dsimp only
    split <;> split <;> omega
end
end Go.Proofs.Ytgbpjjinhjikeaa
