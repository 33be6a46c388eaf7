/- What happened before what, as sets of numbers: the facts that the laws of traces ask. -/
import Derived.Test.YtgbpjjinhjikeaaOk4
import Derived.Test.YtgbpjjinhjikeaaDef4
namespace Go.Proofs.Ytgbpjjinhjikeaa
open Go.Vc

/-- what happened before event i -/
def bB (l : List Ev) (i : Nat) : Nat := (bst l (i + 1)).1.getD i 0
def prc (l : List Ev) (i : Nat) : Nat := (l.getD i (0, 0, ())).1.toNat
def frm (l : List Ev) (i : Nat) : Int := (l.getD i (0, 0, ())).2.1

theorem bst_keep (l : List Ev) {i : Nat} (hi : i < l.length) : ∀ m, i < m → (bst l m).1.getD i 0 = bB l i := by
  intro m
  induction m with
  | zero => intro h; omega
  | succ m ih =>
    intro h
    by_cases hm : i = m
    · subst hm; rfl
    · rw [← ih (by omega)]
      simp only [bst]
      rw [getD_set_ne (fun e => hm e.symm)]

theorem bB_eq (l : List Ev) {i : Nat} (hi : i < l.length) (hf : frm l i < (i : Int)) :
    bB l i = if 0 ≤ frm l i then (bst l i).2.getD (prc l i) 0 ||| (bB l (frm l i).toNat ||| 2 ^ (frm l i).toNat) else (bst l i).2.getD (prc l i) 0 := by
  have hl := (bst_len l i).1
  unfold bB
  simp only [bst]
  rw [getD_set_self (by omega)]
  show (if 0 ≤ frm l i then _ else _) = _
  split
  · rename_i h
    rw [show (bst l i).1.getD (l.getD i (0, 0, ())).2.1.toNat 0 = bB l (frm l i).toNat from bst_keep l (by show (frm l i).toNat < _; omega) i (by show (frm l i).toNat < _; omega)]
    rfl
  · rfl

/-- the last event of a process -/
theorem last_of (l : List Ev) (hp : ∀ i, i < l.length → prc l i < 5) : ∀ m, m ≤ l.length → ∀ p, p < 5 →
    ((bst l m).2.getD p 0 = 0 ∧ ∀ j, j < m → prc l j ≠ p) ∨ ∃ j, j < m ∧ prc l j = p ∧ (∀ j', j < j' → j' < m → prc l j' ≠ p) ∧ (bst l m).2.getD p 0 = bB l j ||| 2 ^ j := by
  intro m
  induction m with
  | zero =>
    intro _ p hp5
    refine .inl ⟨?_, fun j hj => by omega⟩
    simp only [bst, List.getD_eq_getElem?_getD, List.getElem?_replicate]
    split <;> rfl
  | succ m ih =>
    intro hm p hp5
    have hl := (bst_len l m)
    have hstep : (bst l (m + 1)).2 = (bst l m).2.set (prc l m) (bB l m ||| 2 ^ m) := by
      have : bB l m = (if 0 ≤ (l.getD m (0, 0, ())).2.1 then (bst l m).2.getD (l.getD m (0, 0, ())).1.toNat 0 ||| ((bst l m).1.getD (l.getD m (0, 0, ())).2.1.toNat 0 ||| 2 ^ (l.getD m (0, 0, ())).2.1.toNat) else (bst l m).2.getD (l.getD m (0, 0, ())).1.toNat 0) := by
        unfold bB
        simp only [bst]
        rw [getD_set_self (by omega)]
      rw [this]; rfl
    rw [hstep]
    by_cases h : prc l m = p
    · refine .inr ⟨m, by omega, h, fun j' h1 h2 => by omega, ?_⟩
      rw [h, getD_set_self (by omega)]
    · rw [getD_set_ne h]
      rcases ih (by omega) p hp5 with ⟨h1, h2⟩ | ⟨j, h1, h2, h3, h4⟩
      · refine .inl ⟨h1, fun j hj => ?_⟩
        by_cases hjm : j = m
        · rw [hjm]; exact h
        · exact h2 j (by omega)
      · refine .inr ⟨j, by omega, h2, fun j' hj1 hj2 => ?_, h4⟩
        by_cases hjm : j' = m
        · rw [hjm]; exact h
        · exact h3 j' hj1 (by omega)

/-- is it one of those straight ahead of the other? -/
def justB (l : List Ev) (i j : Nat) : Prop := j < i ∧ ((prc l j = prc l i ∧ ∀ j', j < j' → j' < i → prc l j' ≠ prc l i) ∨ frm l i = (j : Int))

theorem bit_or2 {a j k : Nat} : (a ||| 2 ^ j).testBit k = true ↔ a.testBit k = true ∨ k = j := by
  rw [Nat.testBit_or, Nat.testBit_two_pow, Bool.or_eq_true, decide_eq_true_eq]
  exact ⟨fun h => h.imp id Eq.symm, fun h => h.imp id Eq.symm⟩

theorem bB_bit {l : List Ev} (hp : ∀ i, i < l.length → prc l i < 5) (hf : ∀ i, i < l.length → frm l i < (i : Int)) {i : Nat} (hi : i < l.length) (k : Nat) :
    (bB l i).testBit k = true ↔ ∃ j, justB l i j ∧ ((bB l j).testBit k = true ∨ k = j) := by
  have hlast := last_of l hp i (by omega) (prc l i) (hp i hi)
  have hbit : ((bst l i).2.getD (prc l i) 0).testBit k = true ↔ ∃ j, (j < i ∧ prc l j = prc l i ∧ ∀ j', j < j' → j' < i → prc l j' ≠ prc l i) ∧ ((bB l j).testBit k = true ∨ k = j) := by
    rcases hlast with ⟨h1, h2⟩ | ⟨j, h1, h2, h3, h4⟩
    · rw [h1]
      constructor
      · intro h; simp at h
      · rintro ⟨j, ⟨h3, h4, _⟩, _⟩; exact absurd h4 (h2 j h3)
    · rw [h4, bit_or2]
      constructor
      · intro h; exact ⟨j, ⟨h1, h2, h3⟩, h⟩
      · rintro ⟨j', ⟨k1, k2, k3⟩, h⟩
        have : j' = j := by
          rcases Nat.lt_trichotomy j' j with h | h | h
          · exact absurd h2 (k3 j h h1)
          · exact h
          · exact absurd k2 (h3 j' h k1)
        rw [this] at h; exact h
  rw [bB_eq l hi (hf i hi)]
  split
  · rename_i h0
    rw [Nat.testBit_or, Bool.or_eq_true, hbit, bit_or2]
    constructor
    · rintro (⟨j, ⟨h1, h2, h3⟩, h⟩ | h)
      · exact ⟨j, ⟨h1, .inl ⟨h2, h3⟩⟩, h⟩
      · exact ⟨(frm l i).toNat, ⟨by have := hf i hi; omega, .inr (by omega)⟩, h⟩
    · rintro ⟨j, ⟨h1, h2 | h2⟩, h⟩
      · exact .inl ⟨j, ⟨h1, h2.1, h2.2⟩, h⟩
      · have : (frm l i).toNat = j := by omega
        rw [this]; exact .inr h
  · rename_i h0
    rw [hbit]
    constructor
    · rintro ⟨j, ⟨h1, h2, h3⟩, h⟩
      exact ⟨j, ⟨h1, .inl ⟨h2, h3⟩⟩, h⟩
    · rintro ⟨j, ⟨h1, h2 | h2⟩, h⟩
      · exact ⟨j, ⟨h1, h2.1, h2.2⟩, h⟩
      · omega

section
variable {l : List Ev} (hp : ∀ i, i < l.length → prc l i < 5) (hf : ∀ i, i < l.length → frm l i < (i : Int))
include hp hf

theorem bB_less {i : Nat} (hi : i < l.length) {k : Nat} (h : (bB l i).testBit k = true) : k < i := by
  induction i using Nat.strongRecOn with
  | _ i ih =>
    obtain ⟨j, hj, h⟩ := (bB_bit hp hf hi k).1 h
    rcases h with h | h
    · have := ih j hj.1 (by have := hj.1; omega) h
      have := hj.1; omega
    · have := hj.1; omega

theorem bB_lt {i : Nat} (hi : i < l.length) : bB l i < 2 ^ i := by
  apply Nat.lt_pow_two_of_testBit
  intro k hk
  cases h : (bB l i).testBit k with
  | false => rfl
  | true => have := bB_less hp hf hi h; omega

theorem bB_must {i j : Nat} (hi : i < l.length) (hj : j < i) (h : prc l j = prc l i ∨ frm l i = (j : Int)) : (bB l i).testBit j = true := by
  rcases h with h | h
  · -- the last one of its process
    have key : ∀ d j, i - j = d → j < i → prc l j = prc l i → (bB l i).testBit j = true := by
      intro d
      induction d using Nat.strongRecOn with
      | _ d ihd =>
        intro j hd hj h
        by_cases hc : ∃ j', j < j' ∧ j' < i ∧ prc l j' = prc l i
        · obtain ⟨j1, h1, h2, h3⟩ := hc
          -- the first one behind j: take any; by induction on i inside
          have hb1 := ihd (i - j1) (by omega) j1 rfl h2 h3
          have hin : (bB l j1).testBit j = true := by
            have : ∀ i', i' < i → j < i' → i' < l.length → prc l j = prc l i' → (bB l i').testBit j = true := by
              intro i'
              induction i' using Nat.strongRecOn with
              | _ i' ih' =>
                intro a1 a2 a3 a4
                by_cases hc' : ∃ j', j < j' ∧ j' < i' ∧ prc l j' = prc l i' ∧ ∀ j'', j' < j'' → j'' < i' → prc l j'' ≠ prc l i'
                · obtain ⟨j2, b1, b2, b3, b4⟩ := hc'
                  refine (bB_bit hp hf a3 j).2 ⟨j2, ⟨b2, .inl ⟨b3, b4⟩⟩, .inl (ih' j2 b2 (by omega) b1 (by omega) (by rw [b3]; exact a4))⟩
                · refine (bB_bit hp hf a3 j).2 ⟨j, ⟨a2, .inl ⟨a4, ?_⟩⟩, .inr rfl⟩
                  intro j' c1 c2 c3
                  -- then there is a last one
                  have : ∃ j', j < j' ∧ j' < i' ∧ prc l j' = prc l i' ∧ ∀ j'', j' < j'' → j'' < i' → prc l j'' ≠ prc l i' := by
                    have hmax : ∀ d j', i' - j' = d → j < j' → j' < i' → prc l j' = prc l i' → ∃ j', j < j' ∧ j' < i' ∧ prc l j' = prc l i' ∧ ∀ j'', j' < j'' → j'' < i' → prc l j'' ≠ prc l i' := by
                      intro d
                      induction d using Nat.strongRecOn with
                      | _ d ihm =>
                        intro j' e0 e1 e2 e3
                        by_cases hx : ∃ j'', j' < j'' ∧ j'' < i' ∧ prc l j'' = prc l i'
                        · obtain ⟨j'', f1, f2, f3⟩ := hx
                          exact ihm (i' - j'') (by omega) j'' rfl (by omega) f2 f3
                        · exact ⟨j', e1, e2, e3, fun j'' g1 g2 g3 => hx ⟨j'', g1, g2, g3⟩⟩
                    exact hmax _ j' rfl c1 c2 c3
                  exact hc' this
            exact this j1 h2 h1 (by omega) (by rw [h, h3])
          have trans : ∀ i', i' ≤ i → i' < l.length → ∀ k m, (bB l i').testBit k = true → (bB l k).testBit m = true → (bB l i').testBit m = true := by
            intro i'
            induction i' using Nat.strongRecOn with
            | _ i' ih' =>
              intro a1 a2 k m hk hm
              obtain ⟨q, hq, hk'⟩ := (bB_bit hp hf a2 k).1 hk
              rcases hk' with hk' | hk'
              · exact (bB_bit hp hf a2 m).2 ⟨q, hq, .inl (ih' q hq.1 (by have := hq.1; omega) (by have := hq.1; omega) k m hk' hm)⟩
              · subst hk'
                exact (bB_bit hp hf a2 m).2 ⟨k, hq, .inl hm⟩
          exact trans i (Nat.le_refl _) hi j1 j hb1 hin
        · exact (bB_bit hp hf hi j).2 ⟨j, ⟨hj, .inl ⟨h, fun j' h1 h2 h3 => hc ⟨j', h1, h2, h3⟩⟩⟩, .inr rfl⟩
    exact key _ j rfl hj h
  · exact (bB_bit hp hf hi j).2 ⟨j, ⟨hj, .inr h⟩, .inr rfl⟩

theorem bB_trans {i : Nat} (hi : i < l.length) {k m : Nat} (hk : (bB l i).testBit k = true) (hm : (bB l k).testBit m = true) : (bB l i).testBit m = true := by
  induction i using Nat.strongRecOn with
  | _ i ih =>
    obtain ⟨q, hq, hk'⟩ := (bB_bit hp hf hi k).1 hk
    rcases hk' with hk' | hk'
    · exact (bB_bit hp hf hi m).2 ⟨q, hq, .inl (ih q hq.1 (by have := hq.1; omega) hk')⟩
    · subst hk'
      exact (bB_bit hp hf hi m).2 ⟨k, hq, .inl hm⟩
end
end Go.Proofs.Ytgbpjjinhjikeaa
