/- What goes along the events: each answer comes from that of the one ahead at its process and that of the one it heard of. -/
import Derived.Test.YtgbpjjinhjikeaaLate
namespace Go.Proofs.Ytgbpjjinhjikeaa
open Go.Vc

/-- the stamp of event i -/
def stp (l : List Ev) (ts : List Int) (i : Nat) : Stp := (sst l ts (i + 1)).1.getD i (0, 0, ())

theorem sst_keep (l : List Ev) (ts : List Int) {i : Nat} : ∀ m, i < m → (sst l ts m).1.getD i (0, 0, ()) = stp l ts i := by
  intro m
  induction m with
  | zero => intro h; omega
  | succ m ih =>
    intro h
    by_cases hm : i = m
    · subst hm; rfl
    · rw [← ih (by omega)]
      simp only [sst, getD_app, (sst_len l ts m).1]
      rw [if_neg hm]

theorem sst_last (l : List Ev) (ts : List Int) (hp : ∀ i, i < l.length → prc l i < 5) : ∀ m, m ≤ l.length → ∀ p, p < 5 →
    ((sst l ts m).2.getD p (0, 0, ()) = noS ∧ ∀ j, j < m → prc l j ≠ p) ∨ ∃ j, j < m ∧ prc l j = p ∧ (∀ j', j < j' → j' < m → prc l j' ≠ p) ∧ (sst l ts m).2.getD p (0, 0, ()) = stp l ts j := by
  intro m
  induction m with
  | zero =>
    intro _ p hp5
    refine .inl ⟨?_, fun j hj => by omega⟩
    simp only [sst, List.getD_eq_getElem?_getD, List.getElem?_replicate, if_pos hp5]
    rfl
  | succ m ih =>
    intro hm p hp5
    have hl := sst_len l ts m
    have hstep : (sst l ts (m + 1)).2 = (sst l ts m).2.set (prc l m) (stp l ts m) := by
      have : stp l ts m = nextS ((sst l ts m).2.getD (l.getD m (0, 0, ())).1.toNat (0, 0, ())) (if 0 ≤ (l.getD m (0, 0, ())).2.1 then (sst l ts m).1.getD (l.getD m (0, 0, ())).2.1.toNat (0, 0, ()) else noS) (ts.getD m 0) := by
        unfold stp
        simp only [sst, getD_app, hl.1, if_true]
      rw [this]; rfl
    rw [hstep, getD_set', hl.2]
    by_cases h : prc l m = p
    · rw [if_pos ⟨h, by rw [h]; exact hp5⟩]
      exact .inr ⟨m, by omega, h, fun j' h1 h2 => by omega, rfl⟩
    · rw [if_neg (fun e => h e.1)]
      rcases ih (by omega) p hp5 with ⟨h1, h2⟩ | ⟨j, h1, h2, h3, h4⟩
      · refine .inl ⟨h1, fun j hj => ?_⟩
        by_cases hjm : j = m
        · rw [hjm]; exact h
        · exact h2 j (by omega)
      · refine .inr ⟨j, by omega, h2, fun j' hj1 hj2 => ?_, h4⟩
        by_cases hjm : j' = m
        · rw [hjm]; exact h
        · exact h3 j' hj1 (by omega)

/-- Of a stamp: it comes from two, each of which is none or that of one straight ahead. -/
theorem stp_rec {l : List Ev} {ts : List Int} (hp : ∀ i, i < l.length → prc l i < 5) (hf : ∀ i, i < l.length → frm l i < (i : Int)) {i : Nat} (hi : i < l.length) :
    ∃ a b, stp l ts i = nextS a b (ts.getD i 0) ∧ (a = noS ∨ ∃ j, justB l i j ∧ a = stp l ts j) ∧ (b = noS ∨ ∃ j, justB l i j ∧ b = stp l ts j) ∧ ∀ j, justB l i j → a = stp l ts j ∨ b = stp l ts j := by
  have hl := sst_len l ts i
  have hS : stp l ts i = nextS ((sst l ts i).2.getD (prc l i) (0, 0, ())) (if 0 ≤ frm l i then (sst l ts i).1.getD (frm l i).toNat (0, 0, ()) else noS) (ts.getD i 0) := by
    unfold stp
    simp only [sst, getD_app, hl.1, if_true]
    rfl
  have hlast := sst_last l ts hp i (by omega) (prc l i) (hp i hi)
  refine ⟨_, _, hS, ?_, ?_, ?_⟩
  · rcases hlast with ⟨h1, _⟩ | ⟨j, h1, h2, h3, h4⟩
    · exact .inl h1
    · exact .inr ⟨j, ⟨h1, .inl ⟨h2, h3⟩⟩, h4⟩
  · split
    · rename_i h0
      have := hf i hi
      refine .inr ⟨(frm l i).toNat, ⟨by omega, .inr (by omega)⟩, sst_keep l ts i (by omega)⟩
    · exact .inl rfl
  · intro j hj
    rcases hj with ⟨hji, ⟨h1, h2⟩ | h1⟩
    · left
      rcases hlast with ⟨_, k2⟩ | ⟨j', k1, k2, k3, k4⟩
      · exact absurd h1 (k2 j hji)
      · have : j = j' := by
          rcases Nat.lt_trichotomy j j' with h | h | h
          · exact absurd k2 (h2 j' h k1)
          · exact h
          · exact absurd h1 (k3 j h hji)
        rw [this]; exact k4
    · right
      rw [if_pos (by omega), sst_keep l ts i (by omega)]
      congr 1
      omega

/-- A stamp's time is the time of an event that happened before, or of its own. -/
theorem stp_mem {l : List Ev} {ts : List Int} (hp : ∀ i, i < l.length → prc l i < 5) (hf : ∀ i, i < l.length → frm l i < (i : Int)) (ht : ∀ i, 0 ≤ ts.getD i 0) {i : Nat} (hi : i < l.length) :
    ∃ k, (k = i ∨ (bB l i).testBit k = true) ∧ (stp l ts i).1 = ts.getD k 0 := by
  induction i using Nat.strongRecOn with
  | _ i ih =>
    obtain ⟨a, b, hS, ha, hb, _⟩ := stp_rec (ts := ts) hp hf hi
    have hone : ∀ c : Stp, (c = noS ∨ ∃ j, justB l i j ∧ c = stp l ts j) → c.1 = -1 ∨ ∃ k, (bB l i).testBit k = true ∧ c.1 = ts.getD k 0 := by
      intro c hc
      rcases hc with rfl | ⟨j, hj, rfl⟩
      · exact .inl rfl
      · obtain ⟨k, hk, e⟩ := ih j hj.1 (by have := hj.1; omega)
        exact .inr ⟨k, (bB_bit hp hf hi k).2 ⟨j, hj, hk.symm⟩, e⟩
    have e : (stp l ts i).1 = max (max a.1 b.1) (ts.getD i 0) := by rw [hS]; rfl
    have h0 := ht i
    by_cases c1 : max a.1 b.1 ≤ ts.getD i 0
    · exact ⟨i, .inl rfl, by rw [e]; omega⟩
    · by_cases c2 : b.1 ≤ a.1
      · rcases hone a ha with h | ⟨k, hk, e2⟩
        · omega
        · exact ⟨k, .inr hk, by rw [e, ← e2]; omega⟩
      · rcases hone b hb with h | ⟨k, hk, e2⟩
        · omega
        · exact ⟨k, .inr hk, by rw [e, ← e2]; omega⟩

/-- Where its time is above all that happened before, the stamp is the time. -/
theorem stp_true {l : List Ev} {ts : List Int} (hp : ∀ i, i < l.length → prc l i < 5) (hf : ∀ i, i < l.length → frm l i < (i : Int)) (ht : ∀ i, 0 ≤ ts.getD i 0) {i : Nat} (hi : i < l.length)
    (h : ∀ k, (bB l i).testBit k = true → ts.getD k 0 < ts.getD i 0) : stp l ts i = (ts.getD i 0, 0, ()) := by
  obtain ⟨a, b, hS, ha, hb, _⟩ := stp_rec (ts := ts) hp hf hi
  have h0 := ht i
  have hone : ∀ c : Stp, (c = noS ∨ ∃ j, justB l i j ∧ c = stp l ts j) → c.1 < ts.getD i 0 := by
    intro c hc
    rcases hc with rfl | ⟨j, hj, rfl⟩
    · show (-1 : Int) < _
      omega
    · obtain ⟨k, hk, e⟩ := stp_mem hp hf ht (i := j) (by have := hj.1; omega)
      rw [e]
      exact h k ((bB_bit hp hf hi k).2 ⟨j, hj, hk.symm⟩)
  have h1 := hone a ha
  have h2 := hone b hb
  rw [hS]
  unfold nextS
  have e : max (max a.1 b.1) (ts.getD i 0) = ts.getD i 0 := by omega
  rw [e, if_neg (by omega), if_neg (by omega)]
end Go.Proofs.Ytgbpjjinhjikeaa
