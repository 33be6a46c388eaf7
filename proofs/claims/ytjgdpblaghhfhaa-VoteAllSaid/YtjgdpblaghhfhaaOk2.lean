/- Votes: the closed fact; what a poll keeps. -/
import Derived.Test.YtjgdpblaghhfhaaOk
namespace Go.Proofs.Ytjgdpblaghhfhaa
open Go.Vc

theorem okStuck : OwnOk Try.prog [] 28 cStuck := by
  refine own_of X1_ok Try.func28 (c := Try.f28.body.getD .skip) (rvs := [(.tmp 2, I)]) (by kernel_rfl) (by kernel_rfl) (by kernel_rfl) ?_
  intro args ob k h hw1 hw2
  clear hw1 hw2
  unfold cStuck at h
  have hh := onPoll_out h
  clear h
  obtain ⟨n, y, l, dc, rs, r, rfl, rfl, h⟩ := hh
  split at h
  · obtain ⟨h1, h2, hk⟩ := h
    simp only at h1 h2
    subst h1; subst h2
    refine ⟨anStuck, ?_⟩
    rw [vcStuck]
    simp only [decide_eq_true_eq, decide_eq_false_iff_not, inK_i64, true_and, and_true, Bool.not_eq_true', Bool.not_eq_false', List.length_singleton]
    refine ⟨⟨0, Nat.zero_le 1, rfl, rfl⟩, fun x hx => ⟨fun h => ?_, fun h => ⟨(fun h => by cases h), fun _ => ?_⟩⟩⟩
    · have : x = 0 := by omega
      subst this
      exact ⟨by omega, by omega, (fun h => absurd rfl h), fun _ => ⟨by omega, by omega, by rfl, by decide, by omega, by decide, by decide, 1, Nat.le_refl 1, by decide, by decide, by decide⟩⟩
    · have : x = 1 := by have hx : x ≤ 1 := hx; omega
      subst this; exact hk
  · exact h.elim

theorem X2_ok : CxOk Try.prog X2 := CxOk.mk' Ev_ok rfl mixed (GOk.cons okWithin Try.func29 rfl rfl GOk.nil)
  (GoOk.cons okNew Try.func11 rfl rfl (GoOk.cons okDo Try.func12 rfl rfl (GoOk.cons okMem Try.func13 rfl rfl (GoOk.cons okStuck Try.func28 rfl rfl GoOk.nil)))) noIt

theorem okFact : PlainOk Try.prog [] 10 cFact := by
  refine plain_of X2_ok Try.func10 (c := Try.f10.body.getD .skip) (rvs := [(.tmp 0, .bool)]) (by kernel_rfl) (by kernel_rfl) (by kernel_rfl) ?_
  intro ds k ⟨hp, hk⟩ hwf
  obtain ⟨rfl, -⟩ := dest0 hp
  have hk : k [⟨.bool, true⟩] := hk
  refine ⟨[joinAll], ?_⟩
  rw [vcFact]
  refine ⟨fun _ => ⟨(fun h => by cases h), fun _ => ⟨⟨by decide, by decide, by decide, by decide, by decide⟩, fun e q h => ?_⟩⟩, fun h => absurd h (by decide)⟩
  obtain ⟨rfl, rfl⟩ := Prod.mk.inj (h.trans (show _ = ((0 : Int), (⟨1, 1, [1], false, false⟩ : Pl)) from rfl))
  refine ⟨rfl, rfl, ⟨by decide, by decide, by decide, by decide, by decide⟩, fun e1 q1 h => ?_⟩
  obtain ⟨rfl, rfl⟩ := Prod.mk.inj (h.trans (show _ = ((0 : Int), (⟨1, 1, [1], true, true⟩ : Pl)) from rfl))
  refine ⟨⟨by decide, by decide, by decide, by decide, by decide⟩, fun e2 q2 h => ?_⟩
  obtain ⟨rfl, rfl⟩ := Prod.mk.inj (h.trans (show _ = ((0 : Int), (⟨1, 1, [2], true, true⟩ : Pl)) from rfl))
  refine ⟨fun _ => ⟨fun _ => ⟨fun _ => ⟨fun _ => ⟨⟨by decide, by decide, by decide, by decide, by decide⟩, hk⟩, fun h => by cases h⟩, fun h => by cases h⟩, fun h => by cases h⟩, fun h => by cases h⟩

theorem X3_ok : CxOk Try.prog X3 := CxOk.mk' Ev_ok rfl mixed (GOk.cons okWithin Try.func29 rfl rfl (GOk.cons okFact Try.func10 rfl rfl GOk.nil))
  (GoOk.cons okNew Try.func11 rfl rfl (GoOk.cons okDo Try.func12 rfl rfl (GoOk.cons okMem Try.func13 rfl rfl GoOk.nil))) noIt

theorem getD_set (l : List Int) (i j : Nat) (v : Int) (hi : i < l.length) : (l.set i v).getD j 0 = if i = j then v else l.getD j 0 := by
  rw [List.getD_eq_getElem?_getD, List.getElem?_set]
  split
  · rename_i h; subst h; simp [hi]
  · rw [List.getD_eq_getElem?_getD]

theorem all_bits {y n : Nat} (h : y = 2 ^ n - 1) {k : Nat} (hk : k < n) : y.testBit k = true := by
  subst h
  rw [Nat.testBit_two_pow_sub_one]; simpa using hk

/-- What happens leaves a poll that is right; nobody turns back; who voted is written down. -/
theorem inv_do {p q : Pl} {a : Act3} {e : Int} (hp : p.inv) (h : (e, q) = doP p a) : q.inv ∧ q.n = p.n ∧ (∀ k, k < p.n.toNat → stays (p.ends.getD k 0) (q.ends.getD k 0)) ∧
    ∀ k, k < p.n.toNat → q.yes.toNat.testBit k = if e = 0 ∧ a.1 = 0 ∧ 0 ≤ a.2.1 ∧ a.2.1 < p.n ∧ a.2.1.toNat = k then decide (a.2.2.1 = 1) else p.yes.toNat.testBit k := by
  obtain ⟨⟨p1, p2, p3, p4, p5⟩, hk⟩ := hp
  have same : ∀ (e : Int), e ≠ 0 ∨ ¬ (a.1 = 0 ∧ 0 ≤ a.2.1 ∧ a.2.1 < p.n) → (p.inv ∧ p.n = p.n ∧ (∀ k, k < p.n.toNat → stays (p.ends.getD k 0) (p.ends.getD k 0)) ∧ ∀ k, k < p.n.toNat → p.yes.toNat.testBit k = if e = 0 ∧ a.1 = 0 ∧ 0 ≤ a.2.1 ∧ a.2.1 < p.n ∧ a.2.1.toNat = k then decide (a.2.2.1 = 1) else p.yes.toNat.testBit k) := by
    intro e he
    refine ⟨⟨⟨p1, p2, p3, p4, p5⟩, hk⟩, rfl, fun k _ => ⟨fun _ => rfl, fun h => by omega⟩, fun k _ => ?_⟩
    rw [if_neg]
    rintro ⟨h1, h2, h3, h4, _⟩
    rcases he with he | he
    · exact he h1
    · exact he ⟨h2, h3, h4⟩
  unfold doP at h
  split at h
  · obtain ⟨rfl, rfl⟩ := Prod.mk.inj h; exact same 1 (.inl (by decide))
  rename_i hin
  have hin : 0 ≤ a.1 ∧ a.1 ≤ 3 := by
    have : (inB a.1 0 3 && inB a.2.2.1 0 1) = true := by simpa using hin
    rw [Bool.and_eq_true] at this
    exact inB_iff.1 this.1
  split at h
  · rename_i ha
    split at h
    · obtain ⟨rfl, rfl⟩ := Prod.mk.inj h; exact same 7 (.inl (by decide))
    · rename_i hd
      obtain ⟨rfl, rfl⟩ := Prod.mk.inj h
      refine ⟨⟨⟨p1, p2, p3, p4, p5⟩, fun k hkk => ?_⟩, rfl, fun k _ => ⟨fun _ => rfl, fun h => by show p.ends.getD k 0 ≠ 0; omega⟩, fun k _ => ?_⟩
      · obtain ⟨k1, k2, k3, k4, k5, k6⟩ := hk k hkk
        have hd : p.dec = false := by simpa using hd
        refine ⟨k1, k2, fun hb h3 => ?_, fun h2 => ?_, k5, fun _ hr => ?_⟩
        · have := (k3 hb h3).1; rw [hd] at this; cases this
        · have := (k4 h2).1; rw [hd] at this; cases this
        · have hr : p.yes = 2 ^ p.n.toNat - 1 := by simpa using hr
          refine all_bits (n := p.n.toNat) ?_ hkk
          have h2 : (2 : Int) ^ p.n.toNat = ((2 ^ p.n.toNat : Nat) : Int) := by rw [Int.natCast_pow]; rfl
          have h1 : 1 ≤ 2 ^ p.n.toNat := Nat.one_le_two_pow
          show p.yes.toNat = _
          omega
      · rw [if_neg]; rintro ⟨_, h2, _⟩; omega
  rename_i ha1
  split at h
  · obtain ⟨rfl, rfl⟩ := Prod.mk.inj h; exact same 1 (.inl (by decide))
  rename_i hwho
  have hwho : 0 ≤ a.2.1 ∧ a.2.1 ≤ p.n - 1 := inB_iff.1 (by simpa using hwho)
  have hwl : a.2.1.toNat < p.ends.length := by omega
  have hww : a.2.1.toNat < p.n.toNat := by omega
  obtain ⟨w1, w2, w3, w4, w5, w6⟩ := hk a.2.1.toNat hww
  -- one member's state is turned, all else stays
  have turn : ∀ (v : Int) (y : Int), (0 ≤ v ∧ v ≤ 3) → 0 ≤ y → y < 2 ^ p.n.toNat → (∀ k, k < p.n.toNat → k ≠ a.2.1.toNat → y.toNat.testBit k = p.yes.toNat.testBit k) →
      (y.toNat.testBit a.2.1.toNat = true → v ≠ 0) → (y.toNat.testBit a.2.1.toNat = true → v = 3 → p.dec = true ∧ p.res = false) → (v = 2 → p.dec = true ∧ p.res = true) → (v = 1 → y.toNat.testBit a.2.1.toNat = true) →
      (p.dec = true → p.res = true → y.toNat.testBit a.2.1.toNat = true) → stays (p.ends.getD a.2.1.toNat 0) v →
      (y.toNat.testBit a.2.1.toNat = if a.1 = 0 then decide (a.2.2.1 = 1) else p.yes.toNat.testBit a.2.1.toNat) →
      ({ p with yes := y, ends := p.ends.set a.2.1.toNat v } : Pl).inv ∧ p.n = p.n ∧ (∀ k, k < p.n.toNat → stays (p.ends.getD k 0) ((p.ends.set a.2.1.toNat v).getD k 0)) ∧
        ∀ k, k < p.n.toNat → y.toNat.testBit k = if (0 : Int) = 0 ∧ a.1 = 0 ∧ 0 ≤ a.2.1 ∧ a.2.1 < p.n ∧ a.2.1.toNat = k then decide (a.2.2.1 = 1) else p.yes.toNat.testBit k := by
    intro v y v1 y0 y1 yk v2 v3 v4 v5 v6 v7 v8
    refine ⟨⟨⟨p1, p2, by simpa using p3, y0, y1⟩, fun k hkk => ?_⟩, rfl, fun k hkk => ?_, fun k hkk => ?_⟩
    · show ((0 ≤ (p.ends.set a.2.1.toNat v).getD k 0 ∧ (p.ends.set a.2.1.toNat v).getD k 0 ≤ 3) ∧ (y.toNat.testBit k = true → (p.ends.set a.2.1.toNat v).getD k 0 ≠ 0) ∧ (y.toNat.testBit k = true → (p.ends.set a.2.1.toNat v).getD k 0 = 3 → p.dec = true ∧ p.res = false) ∧
        ((p.ends.set a.2.1.toNat v).getD k 0 = 2 → p.dec = true ∧ p.res = true) ∧ ((p.ends.set a.2.1.toNat v).getD k 0 = 1 → y.toNat.testBit k = true) ∧ (p.dec = true → p.res = true → y.toNat.testBit k = true))
      rw [getD_set _ _ _ _ hwl]
      split
      · rename_i e; subst e; exact ⟨v1, v2, v3, v4, v5, v6⟩
      · rename_i e
        rw [yk k hkk (fun h => e h.symm)]
        exact hk k hkk
    · rw [getD_set _ _ _ _ hwl]
      split
      · rename_i e; subst e; exact v7
      · exact ⟨fun _ => rfl, fun h => by omega⟩
    · by_cases e : a.2.1.toNat = k
      · subst e
        rw [v8]
        by_cases h0 : a.1 = 0
        · rw [if_pos h0, if_pos ⟨rfl, h0, hwho.1, by omega, rfl⟩]
        · rw [if_neg h0, if_neg (fun h => h0 h.2.1)]
      · rw [if_neg (fun h => e h.2.2.2.2)]
        exact yk k hkk (fun h => e h.symm)
  split at h
  · rename_i h0
    split at h
    · rename_i hidle
      split at h
      · rename_i hy
        obtain ⟨rfl, rfl⟩ := Prod.mk.inj h
        have hlt : p.yes.toNat ||| 2 ^ a.2.1.toNat < 2 ^ p.n.toNat := by
          refine Nat.or_lt_two_pow ?_ (Nat.pow_lt_pow_right (by decide) hww)
          have h2 : (2 : Int) ^ p.n.toNat = ((2 ^ p.n.toNat : Nat) : Int) := by rw [Int.natCast_pow]; rfl
          omega
        have hlt' : ((p.yes.toNat ||| 2 ^ a.2.1.toNat : Nat) : Int) < 2 ^ p.n.toNat := by
          have h2 : (2 : Int) ^ p.n.toNat = ((2 ^ p.n.toNat : Nat) : Int) := by rw [Int.natCast_pow]; rfl
          rw [h2]; exact Int.ofNat_lt.2 hlt
        have hbit : ∀ k, (p.yes.toNat ||| 2 ^ a.2.1.toNat).testBit k = (p.yes.toNat.testBit k || decide (a.2.1.toNat = k)) := by
          intro k; rw [Nat.testBit_or, Nat.testBit_two_pow]
        refine turn 1 _ (by decide) (Int.natCast_nonneg _) hlt' (fun k _ hne => ?_) (fun _ => by decide) (fun _ h => by cases h) (fun h => by cases h) (fun _ => ?_) (fun _ _ => ?_) ⟨fun h => by omega, fun h => by omega⟩ ?_
        · rw [Int.toNat_natCast, hbit, decide_eq_false (fun h => hne h.symm), Bool.or_false]
        · rw [Int.toNat_natCast, hbit]; simp
        · rw [Int.toNat_natCast, hbit]; simp
        · rw [Int.toNat_natCast, hbit, if_pos h0]; simp [hy]
      · rename_i hy
        obtain ⟨rfl, rfl⟩ := Prod.mk.inj h
        have hnb : p.yes.toNat.testBit a.2.1.toNat = false := by
          cases hb : p.yes.toNat.testBit a.2.1.toNat with
          | false => rfl
          | true => exact absurd hidle (w2 hb)
        refine turn 3 p.yes (by decide) p4 p5 (fun _ _ _ => rfl) (fun _ => by decide) (fun h => by rw [hnb] at h; cases h) (fun h => by cases h) (fun h => by cases h) w6 ⟨fun h => by omega, fun h => by omega⟩ ?_
        rw [if_pos h0, hnb]; simp [hy]
    · obtain ⟨rfl, rfl⟩ := Prod.mk.inj h; exact same 7 (.inl (by decide))
  · rename_i h0
    split at h
    · split at h
      · rename_i hd
        obtain ⟨rfl, rfl⟩ := Prod.mk.inj h
        have key : ({ p with yes := p.yes, ends := p.ends.set a.2.1.toNat (if p.res = true then 2 else 3) } : Pl).inv ∧ p.n = p.n ∧ (∀ k, k < p.n.toNat → stays (p.ends.getD k 0) ((p.ends.set a.2.1.toNat (if p.res = true then 2 else 3)).getD k 0)) ∧
            ∀ k, k < p.n.toNat → p.yes.toNat.testBit k = if (0 : Int) = 0 ∧ a.1 = 0 ∧ 0 ≤ a.2.1 ∧ a.2.1 < p.n ∧ a.2.1.toNat = k then decide (a.2.2.1 = 1) else p.yes.toNat.testBit k := by
          by_cases hr : p.res = true
          · rw [if_pos hr]
            refine turn 2 p.yes (by decide) p4 p5 (fun _ _ _ => rfl) (fun _ => by decide) (fun _ h => by cases h) (fun _ => ⟨hd, hr⟩) (fun h => by cases h) w6 ⟨fun h => ?_, fun _ => by decide⟩ (by rw [if_neg h0])
            have hb := w6 hd hr
            rcases Int.lt_or_le (p.ends.getD a.2.1.toNat 0) 3 with h' | h'
            · omega
            · have := (w3 hb (by omega)).2; rw [hr] at this; cases this
          · rw [if_neg hr]
            have hr : p.res = false := by simpa using hr
            refine turn 3 p.yes (by decide) p4 p5 (fun _ _ _ => rfl) (fun _ => by decide) (fun _ _ => ⟨hd, hr⟩) (fun h => by cases h) (fun h => by cases h) w6 ⟨fun h => ?_, fun _ => by decide⟩ (by rw [if_neg h0])
            rcases Int.lt_or_le 2 (p.ends.getD a.2.1.toNat 0) with h' | h'
            · omega
            · have := (w4 (by omega)).2; rw [hr] at this; cases this
        exact key
      · obtain ⟨rfl, rfl⟩ := Prod.mk.inj h; exact same 5 (.inl (by decide))
    · split at h
      · rename_i hidle
        obtain ⟨rfl, rfl⟩ := Prod.mk.inj h
        have hnb : p.yes.toNat.testBit a.2.1.toNat = false := by
          cases hb : p.yes.toNat.testBit a.2.1.toNat with
          | false => rfl
          | true => exact absurd hidle (w2 hb)
        exact turn 3 p.yes (by decide) p4 p5 (fun _ _ _ => rfl) (fun _ => by decide) (fun h => by rw [hnb] at h; cases h) (fun h => by cases h) (fun h => by cases h) w6 ⟨fun h => by omega, fun h => by omega⟩ (by rw [if_neg h0])
      · obtain ⟨rfl, rfl⟩ := Prod.mk.inj h; exact same 0 (.inr (fun h => h0 h.1))

theorem inv_new {n : Int} (h : inB n 1 8 = true) : (newP n).inv := by
  have h := inB_iff.1 h
  refine ⟨⟨h.1, h.2, by simp [newP]; omega, by simp [newP], two_pow_pos _⟩, fun k hk => ?_⟩
  have e : (newP n).ends.getD k 0 = 0 := by
    simp only [newP, List.getD_eq_getElem?_getD, List.getElem?_replicate]; split <;> rfl
  rw [e]
  have e2 : (newP n).yes.toNat.testBit k = false := by simp [newP]
  rw [e2]
  exact ⟨by decide, (fun h => by cases h), (fun h => by cases h), (fun h => by cases h), (fun h => by cases h), fun h => by cases h⟩
end Go.Proofs.Ytjgdpblaghhfhaa
