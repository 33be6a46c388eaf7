/- Traces: Before keeps its contract. -/
import Derived.Test.YtgbpjjinhjikeaaOk2
import Derived.Test.YtgbpjjinhjikeaaV2
namespace Go.Proofs.Ytgbpjjinhjikeaa
open Go.Vc

theorem ints_getD (l : List Nat) (j : Nat) : (ints l).getD j (0 : Int) = ((l.getD j 0 : Nat) : Int) := by
  simp only [ints, List.getD_eq_getElem?_getD, List.getElem?_map]
  cases l[j]? <;> rfl
theorem ints_set (l : List Nat) (j n : Nat) : (ints l).set j (n : Int) = ints (l.set j n) := by simp [ints, List.map_set]
theorem ints_len (l : List Nat) : (ints l).length = l.length := by simp [ints]
theorem ints_rep (n : Nat) : List.replicate n (0 : Int) = ints (List.replicate n 0) := by simp [ints]
theorem one_shl (n : Nat) : (1 : Int) * (2 : Int) ^ n = ((2 ^ n : Nat) : Int) := by rw [Int.one_mul, Int.natCast_pow]; rfl

/-- A trace with which nothing is wrong. -/
structure Good (t : Tr) : Prop where
  procs : 1 ≤ t.1 ∧ t.1 ≤ 5
  len : t.2.1.length ≤ 24
  ev : ∀ i, i < t.2.1.length → 0 ≤ (t.2.1.getD i (0, 0, ())).1 ∧ (t.2.1.getD i (0, 0, ())).1 ≤ t.1 - 1 ∧ -1 ≤ (t.2.1.getD i (0, 0, ())).2.1 ∧ (t.2.1.getD i (0, 0, ())).2.1 ≤ (i : Int) - 1 ∧
    (0 ≤ (t.2.1.getD i (0, 0, ())).2.1 → (t.2.1.getD (t.2.1.getD i (0, 0, ())).2.1.toNat (0, 0, ())).1 ≠ (t.2.1.getD i (0, 0, ())).1)

theorem evsErr_zero {p : Int} {l : List Ev} : ∀ {f i : Nat}, evsErr p l f i = 0 → ∀ j, i ≤ j → j < i + f → evErr p l j = 0 := by
  intro f
  induction f with
  | zero => intro i _ j h1 h2; omega
  | succ f ih =>
    intro i h j h1 h2
    unfold evsErr at h
    split at h
    · rename_i h0
      by_cases hj : j = i
      · rw [hj]; exact h0
      · exact ih h j (by omega) (by omega)
    · rename_i h0; exact absurd h h0

theorem good_of {t : Tr} (h : chk t = 0) : Good t := by
  unfold chk at h
  split at h
  · cases h
  · rename_i h1
    split at h
    · cases h
    · rename_i h2
      have hp : 1 ≤ t.1 ∧ t.1 ≤ 5 := by simpa [inB] using h1
      refine ⟨hp, by omega, fun i hi => ?_⟩
      have he := evsErr_zero h i (Nat.zero_le _) (by omega)
      unfold evErr at he
      split at he
      · cases he
      · rename_i h3
        split at he
        · cases he
        · rename_i h4
          have h3' : (0 ≤ (t.2.1.getD i (0, 0, ())).1 ∧ (t.2.1.getD i (0, 0, ())).1 ≤ t.1 - 1) ∧ -1 ≤ (t.2.1.getD i (0, 0, ())).2.1 ∧ (t.2.1.getD i (0, 0, ())).2.1 ≤ (i : Int) - 1 := by
            simpa only [inB, Bool.not_eq_false, Bool.and_eq_true, decide_eq_true_eq] using h3
          exact ⟨h3'.1.1, h3'.1.2, h3'.2.1, h3'.2.2, fun h0 hc => h4 ⟨h0, hc⟩⟩

theorem bst_len (l : List Ev) : ∀ i, (bst l i).1.length = l.length ∧ (bst l i).2.length = 5
  | 0 => by simp [bst]
  | i + 1 => by
    have := bst_len l i
    simp [bst, this.1, this.2]

theorem getD_set_self {l : List Nat} {i n : Nat} (h : i < l.length) : (l.set i n).getD i 0 = n := by
  simp [List.getD_eq_getElem?_getD, h]
theorem getD_set_ne {l : List Nat} {i j n : Nat} (h : i ≠ j) : (l.set i n).getD j 0 = l.getD j 0 := by
  simp [List.getD_eq_getElem?_getD, List.getElem?_set_ne h]

theorem before_vc (t : Tr) (k : List Dat → Prop) (hk : k [⟨.sl I, bef t⟩, ⟨tErr, chk t⟩]) : vcF ⟨Et, [(26, cCheck)]⟩ (anBefore t) (Try.f11.body.getD .skip) Try.f11.ntmps [(.tmp 2, .sl I), (.tmp 3, tErr)] [⟨tTr, t⟩] k := by
  rw [vcBefore]
  simp only [decide_eq_true_eq, decide_eq_false_iff_not, and_true, true_and, Bool.not_eq_true', Bool.not_eq_false', Int.toNat_natCast, one_shl, ints_rep, ints_getD, ints_set, ints_len, List.length_set]
  refine ⟨fun h => ?_, fun h => ?_⟩
  · have : bef t = [] := by unfold bef; rw [if_neg h]
    rw [← this]; exact hk
  · have g := good_of h
    have hl := g.len
    have hshl : ∀ j : Nat, j ≤ 61 → inK .i64 ((2 ^ j : Nat) : Int) := by
      intro j hj
      have h1 := two_pow_le (n := j) (by omega)
      have h2 := two_pow_pos j
      have e : ((2 ^ j : Nat) : Int) = (2 : Int) ^ j := by rw [Int.natCast_pow]; rfl
      rw [e, inK_i64]
      omega
    have hN : ∀ n : Nat, (0 : Int) ≤ (n : Int) := fun n => Int.natCast_nonneg n
    have hb0 : befN t = (bst t.2.1 t.2.1.length).1 := rfl
    refine ⟨by omega, Int.le_refl _, by omega, ⟨0, ⟨by omega, h⟩, rfl, rfl, rfl⟩, fun x ⟨hx, _⟩ => ⟨fun hlt => ?_, fun hge => ?_⟩⟩
    · obtain ⟨b1, b2⟩ := bst_len t.2.1 x
      obtain ⟨p0, p1, f0, f1, _⟩ := g.ev x (by omega)
      have hpr := g.procs
      have h5 : ((5 : Nat) : Int) = 5 := rfl
      refine ⟨hN _, hlt, p0, by omega, hN _, by omega, fun h0 => ?_, fun h0 => ?_⟩
      · have hfl : (t.2.1.getD x (0, 0, ())).2.1.toNat < x := by omega
        refine ⟨hN _, by omega, h0, by omega, h0, by omega, rfl, hshl _ (by omega), hN _, hN _, hN _, hN _, hN _, by omega, hN _, by omega, hN _, by omega, rfl, hshl _ (by omega), hN _, hN _, p0, by omega, inK_i64.2 (by omega), x + 1, ⟨by omega, h⟩, by omega, by omega, ?_, ?_⟩
        · rw [List.set_set, getD_set_self (by omega), getD_set_ne (by omega)]
          simp only [bst, if_pos h0]
        · rw [getD_set_self (by rw [List.length_set]; omega), getD_set_self (by omega), getD_set_ne (by omega)]
          simp only [bst, if_pos h0]
      · refine ⟨hN _, by omega, hN _, by omega, rfl, hshl _ (by omega), hN _, hN _, p0, by omega, inK_i64.2 (by omega), x + 1, ⟨by omega, h⟩, by omega, by omega, ?_, ?_⟩
        · simp only [bst, if_neg h0]
        · rw [getD_set_self (by omega)]
          simp only [bst, if_neg h0]
    · have : x = t.2.1.length := by omega
      rw [this]
      have e : bef t = ints (bst t.2.1 t.2.1.length).1 := by unfold bef; rw [if_pos h, hb0]
      rw [← e]
      rw [h] at hk
      exact hk

theorem okBefore : PlainOk Try.prog 11 cBefore := by
  refine plain_of (CxOk.mk' Et_ok rfl mixed (GOk.cons okCheck Try.func26 (by kernel_rfl) (by kernel_rfl) GOk.nil)) Try.func11 (c := Try.f11.body.getD .skip) (rvs := [(.tmp 2, .sl I), (.tmp 3, tErr)]) (by kernel_rfl) (by kernel_rfl) (by kernel_rfl) ?_
  intro ds k ⟨hp, hk⟩ hwf
  obtain ⟨t, rfl, -⟩ := dest1 hp
  exact ⟨anBefore t, before_vc t k hk⟩
end Go.Proofs.Ytgbpjjinhjikeaa
