/- Clocks that count: each comes from that of the one ahead at its process and that of the one it heard of; who is below is before. -/
import Derived.Test.YtgbpjjinhjikeaaOk10
import Derived.Test.YtgbpjjinhjikeaaDef8
namespace Go.Proofs.Ytgbpjjinhjikeaa
open Go.Vc

theorem last_gen {α : Type} (l : List Ev) (z z0 : α) (val : Nat → α) (st : Nat → List α) (hp : ∀ i, i < l.length → prc l i < 5) (hl : ∀ m, (st m).length = 5)
    (h0 : ∀ p, p < 5 → (st 0).getD p z = z0) (hs : ∀ m, st (m + 1) = (st m).set (prc l m) (val m)) : ∀ m, m ≤ l.length → ∀ p, p < 5 →
    ((st m).getD p z = z0 ∧ ∀ j, j < m → prc l j ≠ p) ∨ ∃ j, j < m ∧ prc l j = p ∧ (∀ j', j < j' → j' < m → prc l j' ≠ p) ∧ (st m).getD p z = val j := by
  intro m
  induction m with
  | zero => exact fun _ p hp5 => .inl ⟨h0 p hp5, fun j hj => by omega⟩
  | succ m ih =>
    intro hm p hp5
    rw [hs, getD_set', hl]
    by_cases h : prc l m = p
    · rw [if_pos ⟨h, by rw [h]; exact hp5⟩]
      exact .inr ⟨m, by omega, h, fun j' h1 h2 => by omega, rfl⟩
    · rw [if_neg (fun e => h e.1)]
      rcases ih (by omega) p hp5 with ⟨h1, h2⟩ | ⟨j, h1, h2, h3, h4⟩
      · refine .inl ⟨h1, fun j hj => ?_⟩
        by_cases hjm : j = m
        · rw [hjm]; exact h
        · exact h2 j (by omega)
      · refine .inr ⟨j, by omega, h2, fun j' hj1 hj2 => ?_, h4⟩
        by_cases hjm : j' = m
        · rw [hjm]; exact h
        · exact h3 j' hj1 (by omega)

theorem keep_gen {α : Type} (z : α) (val : Nat → α) (st : Nat → List α) (hl : ∀ m, (st m).length = m) (hs : ∀ m, st (m + 1) = st m ++ [val m]) {i : Nat} : ∀ m, i < m → (st m).getD i z = val i := by
  intro m
  induction m with
  | zero => intro h; omega
  | succ m ih =>
    intro h
    rw [hs, getD_app, hl]
    by_cases hm : i = m
    · rw [if_pos hm, hm]
    · rw [if_neg hm]; exact ih (by omega)

/-- the plain clock of event i -/
def pl (l : List Ev) (i : Nat) : Int := (if 0 ≤ frm l i then max ((plst l i).2.getD (prc l i) 0) ((plst l i).1.getD (frm l i).toNat 0) else (plst l i).2.getD (prc l i) 0) + 1
theorem plst_succ (l : List Ev) (i : Nat) : plst l (i + 1) = ((plst l i).1 ++ [pl l i], (plst l i).2.set (prc l i) (pl l i)) := rfl
theorem pl_keep (l : List Ev) {i m : Nat} (h : i < m) : (plst l m).1.getD i 0 = pl l i :=
  keep_gen 0 (pl l) (fun m => (plst l m).1) (fun m => (plst_len l m).1) (fun m => by rw [plst_succ]) m h

theorem pl_rec {l : List Ev} (hp : ∀ i, i < l.length → prc l i < 5) (hf : ∀ i, i < l.length → frm l i < (i : Int)) {i : Nat} (hi : i < l.length) :
    ∃ a b, pl l i = max a b + 1 ∧ (a = 0 ∨ ∃ j, justB l i j ∧ a = pl l j) ∧ (b = 0 ∨ ∃ j, justB l i j ∧ b = pl l j) ∧ ∀ j, justB l i j → a = pl l j ∨ b = pl l j := by
  have hlast := last_gen l (0 : Int) 0 (pl l) (fun m => (plst l m).2) hp (fun m => (plst_len l m).2) (fun p hp5 => by
    show (List.replicate 5 (0 : Int)).getD p 0 = 0
    rw [List.getD_eq_getElem?_getD, List.getElem?_replicate, if_pos hp5]; rfl) (fun m => by rw [plst_succ]) i (by omega) (prc l i) (hp i hi)
  have hb := (plst_bd l i (prc l i)).2
  refine ⟨(plst l i).2.getD (prc l i) 0, if 0 ≤ frm l i then (plst l i).1.getD (frm l i).toNat 0 else 0, ?_, ?_, ?_, ?_⟩
  · unfold pl
    split
    · rfl
    · congr 1; omega
  · rcases hlast with ⟨h1, _⟩ | ⟨j, h1, h2, h3, h4⟩
    · exact .inl h1
    · exact .inr ⟨j, ⟨h1, .inl ⟨h2, h3⟩⟩, h4⟩
  · split
    · rename_i h0
      have := hf i hi
      exact .inr ⟨(frm l i).toNat, ⟨by omega, .inr (by omega)⟩, pl_keep l (by omega)⟩
    · exact .inl rfl
  · intro j hj
    rcases hj with ⟨hji, ⟨h1, h2⟩ | h1⟩
    · left
      rcases hlast with ⟨_, k2⟩ | ⟨j', k1, k2, k3, k4⟩
      · exact absurd h1 (k2 j hji)
      · have : j = j' := by
          rcases Nat.lt_trichotomy j j' with h | h | h
          · exact absurd k2 (h2 j' h k1)
          · exact h
          · exact absurd h1 (k3 j h hji)
        rw [this]; exact k4
    · right
      rw [if_pos (by omega), show (frm l i).toNat = j by omega]
      exact pl_keep l hji
theorem pl_pos (l : List Ev) (i : Nat) : 1 ≤ pl l i := by
  have h1 := (plst_bd l i (prc l i)).2
  unfold pl
  split <;> omega
theorem pl_le (l : List Ev) (i : Nat) : pl l i ≤ (i : Int) + 1 := by
  have h1 := (plst_bd l i (prc l i)).2
  have h2 := (plst_bd l i (frm l i).toNat).1
  unfold pl
  split <;> omega
theorem pl_less {l : List Ev} (hp : ∀ i, i < l.length → prc l i < 5) (hf : ∀ i, i < l.length → frm l i < (i : Int)) {i : Nat} (hi : i < l.length) {k : Nat} (hk : (bB l i).testBit k = true) : pl l k < pl l i := by
  induction i using Nat.strongRecOn with
  | _ i ih =>
    obtain ⟨a, b, hS, c1, c2, hall⟩ := pl_rec hp hf hi
    clear c1 c2
    obtain ⟨j, hj, hkj⟩ := (bB_bit hp hf hi k).1 hk
    have hji := hj.1
    have h1 : pl l j < pl l i := by
      rcases hall j hj with h | h <;> omega
    rcases hkj with h | h
    · have := ih j hji (by omega) h
      omega
    · rw [h]; exact h1
theorem pl_near {l : List Ev} (hp : ∀ i, i < l.length → prc l i < 5) (hf : ∀ i, i < l.length → frm l i < (i : Int)) {i : Nat} (hi : i < l.length) :
    (∃ k, (bB l i).testBit k = true ∧ pl l k + 1 = pl l i) ∨ (pl l i = 1 ∧ bB l i = 0) := by
  obtain ⟨a, b, hS, ha, hb, hall⟩ := pl_rec hp hf hi
  have bit : ∀ j, justB l i j → (bB l i).testBit j = true := fun j hj => (bB_bit hp hf hi j).2 ⟨j, hj, .inr rfl⟩
  have zero : a = 0 → b = 0 → pl l i = 1 ∧ bB l i = 0 := by
    clear ha hb
    intro h1 h2
    refine ⟨by omega, Nat.eq_of_testBit_eq fun k => ?_⟩
    rw [Nat.zero_testBit]
    cases hq : (bB l i).testBit k with
    | false => rfl
    | true =>
      obtain ⟨j, hj, _⟩ := (bB_bit hp hf hi k).1 hq
      have := pl_pos l j
      rcases hall j hj with h | h <;> omega
  rcases ha with ha | ⟨j, hj, ha⟩ <;> rcases hb with hb | ⟨j', hj', hb⟩
  · exact .inr (zero ha hb)
  · have := pl_pos l j'
    exact .inl ⟨j', bit j' hj', by omega⟩
  · have := pl_pos l j
    exact .inl ⟨j, bit j hj, by omega⟩
  · by_cases h : a ≤ b
    · exact .inl ⟨j', bit j' hj', by omega⟩
    · exact .inl ⟨j, bit j hj, by omega⟩

/-! Vectors. -/
def V (l : List Ev) (i q : Nat) : Int := (vec l i).getD q 0
theorem vec_keep (l : List Ev) {i m : Nat} (h : i < m) : (vst l m).1.getD i [] = vec l i :=
  keep_gen [] (vec l) (fun m => (vst l m).1) (fun m => (vst_len l m).1) (fun m => by rw [vst_succ, vec_eq]) m h

theorem vec_rec {l : List Ev} (hp : ∀ i, i < l.length → prc l i < 5) (hf : ∀ i, i < l.length → frm l i < (i : Int)) {i : Nat} (hi : i < l.length) :
    ∃ a b : Nat → Int, (∀ q, q < 5 → V l i q = max (a q) (b q) + (if prc l i = q then 1 else 0)) ∧ (a = (fun _ => 0) ∨ ∃ j, justB l i j ∧ a = V l j) ∧ (b = (fun _ => 0) ∨ ∃ j, justB l i j ∧ b = V l j) ∧ ∀ j, justB l i j → a = V l j ∨ b = V l j := by
  have hlast := last_gen l ([] : List Int) (List.replicate 5 0) (vec l) (fun m => (vst l m).2) hp (fun m => (vst_len l m).2) (fun p hp5 => by
    show (List.replicate 5 (List.replicate 5 (0 : Int))).getD p [] = _
    rw [List.getD_eq_getElem?_getD, List.getElem?_replicate, if_pos hp5]; rfl) (fun m => by rw [vst_succ, vec_eq]) i (by omega) (prc l i) (hp i hi)
  obtain ⟨o1, o2⟩ := vst_ok l hp hf i (by omega)
  have hb := o2 (prc l i) (hp i hi)
  have z5 : ∀ q, (List.replicate 5 (0 : Int)).getD q 0 = 0 := by
    intro q
    rw [List.getD_eq_getElem?_getD, List.getElem?_replicate]
    split <;> rfl
  refine ⟨fun q => ((vst l i).2.getD (prc l i) []).getD q 0, if 0 ≤ frm l i then (fun q => ((vst l i).1.getD (frm l i).toNat []).getD q 0) else (fun _ => 0), ?_, ?_, ?_, ?_⟩
  · intro q hq
    have hlen : (vpre l i).length = 5 := by
      unfold vpre
      split
      · exact vjoin_len ..
      · exact hb.1
    have hat : (vpre l i).getD q 0 = max (((vst l i).2.getD (prc l i) []).getD q 0) ((if 0 ≤ frm l i then (fun q => ((vst l i).1.getD (frm l i).toNat []).getD q 0) else (fun _ => 0)) q) := by
      unfold vpre
      split
      · rw [vjoin_at, if_pos hq, if_pos hq]
      · have := hb.2 q
        show ((vst l i).2.getD (prc l i) []).getD q 0 = max _ 0
        omega
    unfold V
    rw [vec_eq]
    unfold vmore
    rw [getD_set', hlen]
    by_cases h : prc l i = q
    · subst h
      rw [if_pos ⟨rfl, hp i hi⟩, if_pos rfl, hat]
    · rw [if_neg (fun e => h e.1), if_neg h, hat, Int.add_zero]
  · rcases hlast with ⟨h1, _⟩ | ⟨j, h1, h2, h3, h4⟩
    · left
      funext q
      rw [h1]; exact z5 q
    · refine .inr ⟨j, ⟨h1, .inl ⟨h2, h3⟩⟩, ?_⟩
      funext q
      rw [h4]; rfl
  · split
    · rename_i h0
      have := hf i hi
      refine .inr ⟨(frm l i).toNat, ⟨by omega, .inr (by omega)⟩, ?_⟩
      funext q
      rw [vec_keep l (by omega)]; rfl
    · exact .inl rfl
  · intro j hj
    rcases hj with ⟨hji, ⟨h1, h2⟩ | h1⟩
    · left
      rcases hlast with ⟨_, k2⟩ | ⟨j', k1, k2, k3, k4⟩
      · exact absurd h1 (k2 j hji)
      · have : j = j' := by
          rcases Nat.lt_trichotomy j j' with h | h | h
          · exact absurd k2 (h2 j' h k1)
          · exact h
          · exact absurd h1 (k3 j h hji)
        funext q
        rw [this, k4]; rfl
    · right
      rw [if_pos (by omega), show (frm l i).toNat = j by omega]
      funext q
      rw [vec_keep l hji]; rfl

theorem V_nonneg {l : List Ev} (hp : ∀ i, i < l.length → prc l i < 5) (hf : ∀ i, i < l.length → frm l i < (i : Int)) {i : Nat} (hi : i < l.length) (q : Nat) : 0 ≤ V l i q := by
  have := ((vst_ok l hp hf (i + 1) (by omega)).1 i (by omega)).2 q
  exact this.1
/-- A: who is before has no more. -/
theorem V_mono {l : List Ev} (hp : ∀ i, i < l.length → prc l i < 5) (hf : ∀ i, i < l.length → frm l i < (i : Int)) {i : Nat} (hi : i < l.length) {k : Nat} (hk : (bB l i).testBit k = true) {q : Nat} (hq : q < 5) : V l k q + (if prc l i = q then 1 else 0) ≤ V l i q := by
  induction i using Nat.strongRecOn with
  | _ i ih =>
    obtain ⟨a, b, hS, _, _, hall⟩ := vec_rec hp hf hi
    obtain ⟨j, hj, hkj⟩ := (bB_bit hp hf hi k).1 hk
    have hji := hj.1
    have h1 : V l j q + (if prc l i = q then 1 else 0) ≤ V l i q := by
      rw [hS q hq]
      rcases hall j hj with h | h <;> rw [h] <;> omega
    rcases hkj with h | h
    · have := ih j hji (by omega) h
      split at this <;> omega
    · rw [h]; exact h1
/-- B: what one knows of a process comes from an event there. -/
theorem V_from {l : List Ev} (hp : ∀ i, i < l.length → prc l i < 5) (hf : ∀ i, i < l.length → frm l i < (i : Int)) {i : Nat} (hi : i < l.length) {q : Nat} (hq : q < 5) :
    V l i q = 0 ∨ ∃ k, k < l.length ∧ prc l k = q ∧ (k = i ∨ (bB l i).testBit k = true) ∧ V l k q = V l i q := by
  induction i using Nat.strongRecOn with
  | _ i ih =>
    obtain ⟨a, b, hS, ha, hb, _⟩ := vec_rec hp hf hi
    by_cases hpq : prc l i = q
    · exact .inr ⟨i, hi, hpq, .inl rfl, rfl⟩
    · have e := hS q hq
      rw [if_neg hpq] at e
      have one : ∀ c : Nat → Int, (c = (fun _ => 0) ∨ ∃ j, justB l i j ∧ c = V l j) → c q = V l i q → V l i q = 0 ∨ ∃ k, k < l.length ∧ prc l k = q ∧ (k = i ∨ (bB l i).testBit k = true) ∧ V l k q = V l i q := by
        intro c hc hq'
        rcases hc with rfl | ⟨j, hj, rfl⟩
        · exact .inl hq'.symm
        · have hji := hj.1
          rcases ih j hji (by omega) with h | ⟨k, h1, h2, h3, h4⟩
          · exact .inl (by omega)
          · exact .inr ⟨k, h1, h2, .inr ((bB_bit hp hf hi k).2 ⟨j, hj, h3.symm⟩), by omega⟩
      by_cases hab : a q ≤ b q
      · exact one b hb (by omega)
      · exact one a ha (by omega)
theorem V_own {l : List Ev} (hp : ∀ i, i < l.length → prc l i < 5) (hf : ∀ i, i < l.length → frm l i < (i : Int)) {i : Nat} (hi : i < l.length) : 1 ≤ V l i (prc l i) := by
  obtain ⟨a, b, hS, ha, hb, _⟩ := vec_rec hp hf hi
  have e := hS _ (hp i hi)
  rw [if_pos rfl] at e
  have h0 : 0 ≤ a (prc l i) := by
    rcases ha with rfl | ⟨j, hj, rfl⟩
    · exact Int.le_refl 0
    · have := hj.1
      exact V_nonneg hp hf (by omega) _
  omega
/-- One knows of as many of the other one's process just if it is that one, or that one is before it. -/
theorem V_iff {l : List Ev} (hp : ∀ i, i < l.length → prc l i < 5) (hf : ∀ i, i < l.length → frm l i < (i : Int)) {i j : Nat} (hi : i < l.length) (hj : j < l.length) :
    V l i (prc l i) ≤ V l j (prc l i) ↔ (i = j ∨ (bB l j).testBit i = true) := by
  constructor
  · intro h
    have h1 := V_own hp hf hi
    rcases V_from hp hf hj (hp i hi) with h0 | ⟨k, hk, hkp, hkj, hV⟩
    · omega
    · have hik : ¬ k < i := by
        intro hlt
        have := V_mono hp hf hi (bB_must hp hf hi hlt (.inl hkp)) (hp i hi)
        rw [if_pos rfl] at this
        omega
      by_cases he : i = k
      · rw [he]
        rcases hkj with h | h
        · exact .inl h
        · exact .inr h
      · have hb := bB_must hp hf hk (j := i) (by omega) (.inl hkp.symm)
        rcases hkj with h | h
        · right; rw [← h]; exact hb
        · right; exact bB_trans hp hf hj h hb
  · rintro (rfl | h)
    · exact Int.le_refl _
    · have := V_mono hp hf hj h (hp i hi)
      split at this <;> omega
end Go.Proofs.Ytgbpjjinhjikeaa
