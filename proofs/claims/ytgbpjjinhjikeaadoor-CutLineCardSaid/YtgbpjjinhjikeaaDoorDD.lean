/- What happened before what, as sets of numbers: the facts that the laws of traces ask. -/
import Derived.Test.YtgbpjjinhjikeaaDoorDC
import Derived.Test.YtgbpjjinhjikeaaDoorDA
namespace Go.Proofs.YtgbpjjinhjikeaaDoor
open Go.Vc

/-- what happened before event i -/
def bB (l : List Ev) (i : Nat) : Nat := (bst l (i + 1)).1.getD i 0
def prc (l : List Ev) (i : Nat) : Nat := (l.getD i (0, 0, ())).1.toNat
def frm (l : List Ev) (i : Nat) : Int := (l.getD i (0, 0, ())).2.1

theorem bst_keep (l : List Ev) {i : Nat} (hi : i < l.length) : ∀ m, i < m → (bst l m).1.getD i 0 = bB l i := by
  intro m
  induction m with
  | zero => intro h; omega
  | succ m ih =>
    intro h
    by_cases hm : i = m
    · subst hm; rfl
    · rw [← ih (by omega)]
      simp only [bst]
      rw [getD_set_ne (fun e => hm e.symm)]

theorem bB_eq (l : List Ev) {i : Nat} (hi : i < l.length) (hf : frm l i < (i : Int)) :
    bB l i = if 0 ≤ frm l i then (bst l i).2.getD (prc l i) 0 ||| (bB l (frm l i).toNat ||| 2 ^ (frm l i).toNat) else (bst l i).2.getD (prc l i) 0 := by
  have hl := (bst_len l i).1
  unfold bB
  simp only [bst]
  rw [getD_set_self (by omega)]
  show (if 0 ≤ frm l i then _ else _) = _
  split
  · rename_i h
    rw [show (bst l i).1.getD (l.getD i (0, 0, ())).2.1.toNat 0 = bB l (frm l i).toNat from bst_keep l (by show (frm l i).toNat < _; omega) i (by show (frm l i).toNat < _; omega)]
    rfl
  · rfl

/-- the last event of a process -/
theorem last_of (l : List Ev) (hp : ∀ i, i < l.length → prc l i < 5) : ∀ m, m ≤ l.length → ∀ p, p < 5 →
    ((bst l m).2.getD p 0 = 0 ∧ ∀ j, j < m → prc l j ≠ p) ∨ ∃ j, j < m ∧ prc l j = p ∧ (∀ j', j < j' → j' < m → prc l j' ≠ p) ∧ (bst l m).2.getD p 0 = bB l j ||| 2 ^ j := by
  intro m
  induction m with
  | zero =>
    intro _ p hp5
    refine .inl ⟨?_, fun j hj => by omega⟩
    simp only [bst, List.getD_eq_getElem?_getD, List.getElem?_replicate]
    split <;> rfl
  | succ m ih =>
    intro hm p hp5
    have hl := (bst_len l m)
    have hstep : (bst l (m + 1)).2 = (bst l m).2.set (prc l m) (bB l m ||| 2 ^ m) := by
      have : bB l m = (if 0 ≤ (l.getD m (0, 0, ())).2.1 then (bst l m).2.getD (l.getD m (0, 0, ())).1.toNat 0 ||| ((bst l m).1.getD (l.getD m (0, 0, ())).2.1.toNat 0 ||| 2 ^ (l.getD m (0, 0, ())).2.1.toNat) else (bst l m).2.getD (l.getD m (0, 0, ())).1.toNat 0) := by
        unfold bB
        simp only [bst]
        rw [getD_set_self (by omega)]
      rw [this]; rfl
    rw [hstep]
    by_cases h : prc l m = p
    · refine .inr ⟨m, by omega, h, fun j' h1 h2 => by omega, ?_⟩
      rw [h, getD_set_self (by omega)]
    · rw [getD_set_ne h]
      rcases ih (by omega) p hp5 with ⟨h1, h2⟩ | ⟨j, h1, h2, h3, h4⟩
      · refine .inl ⟨h1, fun j hj => ?_⟩
        by_cases hjm : j = m
        · rw [hjm]; exact h
        · exact h2 j (by omega)
      · refine .inr ⟨j, by omega, h2, fun j' hj1 hj2 => ?_, h4⟩
        by_cases hjm : j' = m
        · rw [hjm]; exact h
        · exact h3 j' hj1 (by omega)

/-- is it one of those straight ahead of the other? -/
def justB (l : List Ev) (i j : Nat) : Prop := j < i ∧ ((prc l j = prc l i ∧ ∀ j', j < j' → j' < i → prc l j' ≠ prc l i) ∨ frm l i = (j : Int))

theorem bit_or2 {a j k : Nat} : (a ||| 2 ^ j).testBit k = true ↔ a.testBit k = true ∨ k = j := by
  rw [Nat.testBit_or, Nat.testBit_two_pow, Bool.or_eq_true, decide_eq_true_eq]
  exact ⟨fun h => h.imp id Eq.symm, fun h => h.imp id Eq.symm⟩

theorem bB_bit {l : List Ev} (hp : ∀ i, i < l.length → prc l i < 5) (hf : ∀ i, i < l.length → frm l i < (i : Int)) {i : Nat} (hi : i < l.length) (k : Nat) :
    (bB l i).testBit k = true ↔ ∃ j, justB l i j ∧ ((bB l j).testBit k = true ∨ k = j) := by
  have hlast := last_of l hp i (by omega) (prc l i) (hp i hi)
  have hbit : ((bst l i).2.getD (prc l i) 0).testBit k = true ↔ ∃ j, (j < i ∧ prc l j = prc l i ∧ ∀ j', j < j' → j' < i → prc l j' ≠ prc l i) ∧ ((bB l j).testBit k = true ∨ k = j) := by
    rcases hlast with ⟨h1, h2⟩ | ⟨j, h1, h2, h3, h4⟩
    · rw [h1]
      constructor
      · intro h; simp at h
      · rintro ⟨j, ⟨h3, h4, _⟩, _⟩; exact absurd h4 (h2 j h3)
    · rw [h4, bit_or2]
      constructor
      · intro h; exact ⟨j, ⟨h1, h2, h3⟩, h⟩
      · rintro ⟨j', ⟨k1, k2, k3⟩, h⟩
        have : j' = j := by
          rcases Nat.lt_trichotomy j' j with h | h | h
          · exact absurd h2 (k3 j h h1)
          · exact h
          · exact absurd k2 (h3 j' h k1)
        rw [this] at h; exact h
  rw [bB_eq l hi (hf i hi)]
  split
  · rename_i h0
    rw [Nat.testBit_or, Bool.or_eq_true, hbit, bit_or2]
    constructor
    · rintro (⟨j, ⟨h1, h2, h3⟩, h⟩ | h)
      · exact ⟨j, ⟨h1, .inl ⟨h2, h3⟩⟩, h⟩
      · exact ⟨(frm l i).toNat, ⟨by have := hf i hi; omega, .inr (by omega)⟩, h⟩
    · rintro ⟨j, ⟨h1, h2 | h2⟩, h⟩
      · exact .inl ⟨j, ⟨h1, h2.1, h2.2⟩, h⟩
      · have : (frm l i).toNat = j := by omega
        rw [this]; exact .inr h
  · rename_i h0
    rw [hbit]
    constructor
    · rintro ⟨j, ⟨h1, h2, h3⟩, h⟩
      exact ⟨j, ⟨h1, .inl ⟨h2, h3⟩⟩, h⟩
    · rintro ⟨j, ⟨h1, h2 | h2⟩, h⟩
      · exact ⟨j, ⟨h1, h2.1, h2.2⟩, h⟩
      · omega

section
variable {l : List Ev} (hp : ∀ i, i < l.length → prc l i < 5) (hf : ∀ i, i < l.length → frm l i < (i : Int))
include hp hf

theorem bB_less {i : Nat} (hi : i < l.length) {k : Nat} (h : (bB l i).testBit k = true) : k < i := by
  induction i using Nat.strongRecOn with
  | _ i ih =>
    obtain ⟨j, hj, h⟩ := (bB_bit hp hf hi k).1 h
    rcases h with h | h
    · have := ih j hj.1 (by have := hj.1; omega) h
      have := hj.1; omega
    · have := hj.1; omega

theorem bB_lt {i : Nat} (hi : i < l.length) : bB l i < 2 ^ i := by
  apply Nat.lt_pow_two_of_testBit
  intro k hk
  cases h : (bB l i).testBit k with
  | false => rfl
  | true => have := bB_less hp hf hi h; omega

theorem bB_must {i j : Nat} (hi : i < l.length) (hj : j < i) (h : prc l j = prc l i ∨ frm l i = (j : Int)) : (bB l i).testBit j = true := by
  rcases h with h | h
  · -- the last one of its process
    have key : ∀ d j, i - j = d → j < i → prc l j = prc l i → (bB l i).testBit j = true := by
      intro d
      induction d using Nat.strongRecOn with
      | _ d ihd =>
        intro j hd hj h
        by_cases hc : ∃ j', j < j' ∧ j' < i ∧ prc l j' = prc l i
        · obtain ⟨j1, h1, h2, h3⟩ := hc
          -- the first one behind j: take any; by induction on i inside
          have hb1 := ihd (i - j1) (by omega) j1 rfl h2 h3
          have hin : (bB l j1).testBit j = true := by
            have : ∀ i', i' < i → j < i' → i' < l.length → prc l j = prc l i' → (bB l i').testBit j = true := by
              intro i'
              induction i' using Nat.strongRecOn with
              | _ i' ih' =>
                intro a1 a2 a3 a4
                by_cases hc' : ∃ j', j < j' ∧ j' < i' ∧ prc l j' = prc l i' ∧ ∀ j'', j' < j'' → j'' < i' → prc l j'' ≠ prc l i'
                · obtain ⟨j2, b1, b2, b3, b4⟩ := hc'
                  refine (bB_bit hp hf a3 j).2 ⟨j2, ⟨b2, .inl ⟨b3, b4⟩⟩, .inl (ih' j2 b2 (by omega) b1 (by omega) (by rw [b3]; exact a4))⟩
                · refine (bB_bit hp hf a3 j).2 ⟨j, ⟨a2, .inl ⟨a4, ?_⟩⟩, .inr rfl⟩
                  intro j' c1 c2 c3
                  -- then there is a last one
                  have : ∃ j', j < j' ∧ j' < i' ∧ prc l j' = prc l i' ∧ ∀ j'', j' < j'' → j'' < i' → prc l j'' ≠ prc l i' := by
                    have hmax : ∀ d j', i' - j' = d → j < j' → j' < i' → prc l j' = prc l i' → ∃ j', j < j' ∧ j' < i' ∧ prc l j' = prc l i' ∧ ∀ j'', j' < j'' → j'' < i' → prc l j'' ≠ prc l i' := by
                      intro d
                      induction d using Nat.strongRecOn with
                      | _ d ihm =>
                        intro j' e0 e1 e2 e3
                        by_cases hx : ∃ j'', j' < j'' ∧ j'' < i' ∧ prc l j'' = prc l i'
                        · obtain ⟨j'', f1, f2, f3⟩ := hx
                          exact ihm (i' - j'') (by omega) j'' rfl (by omega) f2 f3
                        · exact ⟨j', e1, e2, e3, fun j'' g1 g2 g3 => hx ⟨j'', g1, g2, g3⟩⟩
                    exact hmax _ j' rfl c1 c2 c3
                  exact hc' this
            exact this j1 h2 h1 (by omega) (by rw [h, h3])
          have trans : ∀ i', i' ≤ i → i' < l.length → ∀ k m, (bB l i').testBit k = true → (bB l k).testBit m = true → (bB l i').testBit m = true := by
            intro i'
            induction i' using Nat.strongRecOn with
            | _ i' ih' =>
              intro a1 a2 k m hk hm
              obtain ⟨q, hq, hk'⟩ := (bB_bit hp hf a2 k).1 hk
              rcases hk' with hk' | hk'
              · exact (bB_bit hp hf a2 m).2 ⟨q, hq, .inl (ih' q hq.1 (by have := hq.1; omega) (by have := hq.1; omega) k m hk' hm)⟩
              · subst hk'
                exact (bB_bit hp hf a2 m).2 ⟨k, hq, .inl hm⟩
          exact trans i (Nat.le_refl _) hi j1 j hb1 hin
        · exact (bB_bit hp hf hi j).2 ⟨j, ⟨hj, .inl ⟨h, fun j' h1 h2 h3 => hc ⟨j', h1, h2, h3⟩⟩⟩, .inr rfl⟩
    exact key _ j rfl hj h
  · exact (bB_bit hp hf hi j).2 ⟨j, ⟨hj, .inr h⟩, .inr rfl⟩

theorem bB_trans {i : Nat} (hi : i < l.length) {k m : Nat} (hk : (bB l i).testBit k = true) (hm : (bB l k).testBit m = true) : (bB l i).testBit m = true := by
  induction i using Nat.strongRecOn with
  | _ i ih =>
    obtain ⟨q, hq, hk'⟩ := (bB_bit hp hf hi k).1 hk
    rcases hk' with hk' | hk'
    · exact (bB_bit hp hf hi m).2 ⟨q, hq, .inl (ih q hq.1 (by have := hq.1; omega) hk')⟩
    · subst hk'
      exact (bB_bit hp hf hi m).2 ⟨k, hq, .inl hm⟩
end
end Go.Proofs.YtgbpjjinhjikeaaDoor

/- Sets in sets, bit by bit. -/
namespace Go.Proofs.YtgbpjjinhjikeaaDoor
open Go.Vc

theorem tb_succ (a k : Nat) : a.testBit (k + 1) = (a / 2).testBit k := Nat.testBit_succ a k
theorem tb_zero (a : Nat) : a.testBit 0 = decide (a % 2 = 1) := Nat.testBit_zero a

theorem subN_iff : ∀ (f a b : Nat), a ≤ f → (subN f a (b : Int) = true ↔ ∀ k, a.testBit k = true → b.testBit k = true) := by
  intro f
  induction f with
  | zero =>
    intro a b h
    have : a = 0 := by omega
    subst this
    simp [subN]
  | succ f ih =>
    intro a b h
    unfold subN
    by_cases h0 : a = 0
    · subst h0; simp
    · rw [if_neg h0]
      have e1 : (b : Int).tmod 2 = ((b % 2 : Nat) : Int) := (Int.ofNat_tmod b 2).symm
      have e2 : (b : Int).tdiv 2 = ((b / 2 : Nat) : Int) := (Int.ofNat_tdiv b 2).symm
      rw [e1, e2]
      by_cases hc : a % 2 = 1 ∧ ((b % 2 : Nat) : Int) = 0
      · rw [if_pos hc]
        simp only [Bool.false_eq_true, false_iff]
        intro hall
        have := hall 0 (by rw [tb_zero]; simp [hc.1])
        rw [tb_zero, decide_eq_true_eq] at this
        have := hc.2
        omega
      · rw [if_neg hc, ih (a / 2) (b / 2) (by omega)]
        constructor
        · intro hall k hk
          cases k with
          | zero =>
            rw [tb_zero, decide_eq_true_eq] at hk
            rw [tb_zero, decide_eq_true_eq]
            rcases Nat.mod_two_eq_zero_or_one b with hb | hb
            · exact absurd ⟨hk, by rw [hb]; rfl⟩ hc
            · exact hb
          | succ k => rw [tb_succ] at hk ⊢; exact hall k hk
        · intro hall k hk
          rw [← tb_succ] at hk ⊢
          exact hall (k + 1) hk

theorem subB_iff (a b : Nat) : subB (a : Int) (b : Int) = true ↔ ∀ k, a.testBit k = true → b.testBit k = true := subN_iff a a b (Nat.le_refl _)
theorem bitB_nat (a k : Nat) : bitB (a : Int) (k : Int) = a.testBit k := by
  unfold bitB
  simp
end Go.Proofs.YtgbpjjinhjikeaaDoor

/- Whatever else goes so has it all: the last step of the law of the least order. -/
namespace Go.Proofs.YtgbpjjinhjikeaaDoor
open Go.Vc

theorem good_prc {t : Tr} (g : Good t) : ∀ i, i < t.2.1.length → prc t.2.1 i < 5 := by
  intro i hi
  have := g.ev i hi
  have := g.procs
  unfold prc
  omega
theorem good_frm {t : Tr} (g : Good t) : ∀ i, i < t.2.1.length → frm t.2.1 i < (i : Int) := by
  intro i hi
  have := g.ev i hi
  unfold frm
  omega
theorem prc_eq {t : Tr} (g : Good t) {i j : Nat} (hi : i < t.2.1.length) (hj : j < t.2.1.length) : prc t.2.1 j = prc t.2.1 i ↔ (t.2.1.getD j (0, 0, ())).1 = (t.2.1.getD i (0, 0, ())).1 := by
  have h1 := g.ev i hi
  have h2 := g.ev j hj
  unfold prc
  omega
theorem befN_at {t : Tr} {i : Nat} (hi : i < t.2.1.length) : (befN t).getD i 0 = bB t.2.1 i := bst_keep t.2.1 hi t.2.1.length hi
theorem bef_at {t : Tr} (h : chk t = 0) {i : Nat} (hi : i < t.2.1.length) : (bef t).getD i (0 : Int) = ((bB t.2.1 i : Nat) : Int) := by
  unfold bef
  rw [if_pos h, ints_getD, befN_at hi]
theorem bef_len {t : Tr} (h : chk t = 0) : (bef t).length = t.2.1.length := by
  unfold bef
  rw [if_pos h, ints_len]
  exact (bst_len _ _).1

theorem must_bit {t : Tr} (g : Good t) {i j : Nat} (hi : i < t.2.1.length) (hj : j < i) (h : mustP t i j) : bitB ((bB t.2.1 i : Nat) : Int) (j : Int) = true := by
  rw [bitB_nat]
  refine bB_must (good_prc g) (good_frm g) hi hj (h.imp ?_ id)
  exact (prc_eq g hi (by omega)).2

theorem bit_sub {t : Tr} (g : Good t) {i j : Nat} (hi : i < t.2.1.length) (h : bitB ((bB t.2.1 i : Nat) : Int) (j : Int) = true) : subB ((bB t.2.1 j : Nat) : Int) ((bB t.2.1 i : Nat) : Int) = true := by
  rw [bitB_nat] at h
  rw [subB_iff]
  intro k hk
  exact bB_trans (good_prc g) (good_frm g) hi h hk

theorem bB_bound {t : Tr} (g : Good t) {i : Nat} (hi : i < t.2.1.length) : ((bB t.2.1 i : Nat) : Int) < (2 : Int) ^ i := by
  have := bB_lt (good_prc g) (good_frm g) hi
  have e : (2 : Int) ^ i = ((2 ^ i : Nat) : Int) := by rw [Int.natCast_pow]; rfl
  rw [e]
  exact Int.ofNat_lt.2 this

theorem good_all {t : Tr} (g : Good t) {o : List Int} (h : goodP t o true t.2.1.length 0) : ∀ i, i < t.2.1.length → subB ((bB t.2.1 i : Nat) : Int) (o.getD i 0) = true := by
  obtain ⟨hl, hp, -⟩ := h rfl
  intro i
  induction i using Nat.strongRecOn with
  | _ i ih =>
    intro hi
    cases i with
    | zero =>
      have := bB_lt (good_prc g) (good_frm g) hi
      have : bB t.2.1 0 = 0 := by simpa using this
      rw [this]
      rfl
    | succ m =>
      obtain ⟨h0, -, -⟩ := hp (m + 1) 0 hi (by omega)
      obtain ⟨n, hn⟩ := Int.eq_ofNat_of_zero_le h0
      rw [hn, subB_iff]
      intro k hk
      obtain ⟨j, hj, hjk⟩ := (bB_bit (good_prc g) (good_frm g) hi k).1 hk
      have hjl : j < m + 1 := hj.1
      obtain ⟨-, h2, h3⟩ := hp (m + 1) j hi hjl
      have hb := h2 (hj.2.imp (fun h => (prc_eq g hi (by omega)).1 h.1) id)
      have hs := h3 hb
      rw [hn, bitB_nat] at hb
      rcases hjk with hjk | hjk
      · have hsub := ih j hjl (by omega)
        cases j with
        | zero =>
          have := bB_lt (good_prc g) (good_frm g) (i := 0) (by omega)
          have : bB t.2.1 0 = 0 := by simpa using this
          rw [this] at hjk
          simp at hjk
        | succ q =>
          obtain ⟨h0', -, -⟩ := hp (q + 1) 0 (by omega) (by omega)
          obtain ⟨n', hn'⟩ := Int.eq_ofNat_of_zero_le h0'
          rw [hn', subB_iff] at hsub
          rw [hn', hn, subB_iff] at hs
          exact hs k (hsub k hjk)
      · rw [hjk]; exact hb
end Go.Proofs.YtgbpjjinhjikeaaDoor
