/- Votes: the two laws. -/
import Derived.Test.YtjgdpblaghhfhaaOk2
namespace Go.Proofs.Ytjgdpblaghhfhaa
open Go.Vc
def cAll : Ctr := cdet [I, .sl tA] (fun _ _ => True) (fun _ _ => [⟨.bool, true⟩])

theorem anyB_succ (l : List Int) (k : Nat) (v : Int) (hk : k < l.length) : anyB l (k + 1) v = (anyB l k v || decide (l.getD k 0 = v)) := by
  unfold anyB
  rw [List.take_add_one, List.any_append, List.getD_eq_getElem?_getD, List.getElem?_eq_getElem hk]
  simp
theorem allB_succ (l : List Bool) (k : Nat) (hk : k < l.length) : allB l (k + 1) = (allB l k && l.getD k false) := by
  unfold allB
  rw [List.take_add_one, List.all_append, List.getD_eq_getElem?_getD, List.getElem?_eq_getElem hk]
  simp
theorem memP_in {p : Pl} {k : Nat} (h : (k : Int) < p.n) : memP p (k : Int) = p.ends.getD k 0 := by
  unfold memP
  rw [if_pos (inB_iff.2 ⟨by omega, by omega⟩)]; rfl
theorem anyB_out {l : List Int} {k : Nat} {v : Int} (h : anyB l k v = true) : ∃ i, i < k ∧ l.getD i 0 = v := by
  induction k with
  | zero => simp [anyB] at h
  | succ k ih =>
    by_cases hk : k < l.length
    · rw [anyB_succ _ _ _ hk, Bool.or_eq_true] at h
      rcases h with h | h
      · obtain ⟨i, h1, h2⟩ := ih h; exact ⟨i, by omega, h2⟩
      · exact ⟨k, by omega, by simpa using h⟩
    · have : anyB l (k + 1) v = anyB l k v := by unfold anyB; rw [List.take_of_length_le (by omega), List.take_of_length_le (by omega)]
      rw [this] at h
      obtain ⟨i, h1, h2⟩ := ih h; exact ⟨i, by omega, h2⟩
theorem allB_of {y : List Bool} : ∀ {k : Nat}, k ≤ y.length → (∀ i, i < k → y.getD i false = true) → allB y k = true
  | 0, _, _ => by simp [allB]
  | k + 1, hk, h => by rw [allB_succ _ _ (by omega), allB_of (by omega) (fun i hi => h i (by omega)), h k (by omega)]; rfl

theorem getDB_set (l : List Bool) (i j : Nat) (v : Bool) (hi : i < l.length) : (l.set i v).getD j false = if i = j then v else l.getD j false := by
  rw [List.getD_eq_getElem?_getD, List.getElem?_set]
  split
  · rename_i h; subst h; simp [hi]
  · rw [List.getD_eq_getElem?_getD]

theorem link_do {p q : Pl} {a : Act3} {e : Int} {y : List Bool} (hp : p.inv) (hy : linkY p y) (h : (e, q) = doP p a) : linkY q (yesAfter p.n a e y) := by
  obtain ⟨_, hn, _, hb⟩ := inv_do hp h
  obtain ⟨h1, h2⟩ := hy
  refine ⟨by unfold yesAfter; split <;> simp [h1, hn], fun k hk => ?_⟩
  rw [hn] at hk
  rw [hb k hk]
  unfold yesAfter
  by_cases hc : e = 0 ∧ a.1 = 0 ∧ 0 ≤ a.2.1 ∧ a.2.1 < p.n
  · rw [if_pos hc, getDB_set _ _ _ _ (by omega)]
    by_cases hk2 : a.2.1.toNat = k
    · rw [if_pos hk2, if_pos ⟨hc.1, hc.2.1, hc.2.2.1, hc.2.2.2, hk2⟩]
    · rw [if_neg hk2, if_neg (fun h => hk2 h.2.2.2.2)]
      exact h2 k hk
  · rw [if_neg hc, if_neg (fun h => hc ⟨h.1, h.2.1, h.2.2.1, h.2.2.2.1⟩)]
    exact h2 k hk

/-- Nobody has committed while somebody has stopped; all voted yes. -/
theorem law_all {p : Pl} {y : List Bool} (hp : p.inv) (hy : linkY p y) (h : anyB p.ends p.n.toNat 2 = true) : anyB p.ends p.n.toNat 3 = false ∧ allB y p.n.toNat = true := by
  obtain ⟨⟨p1, p2, p3, p4, p5⟩, hk⟩ := hp
  obtain ⟨i, hi, h2⟩ := anyB_out h
  obtain ⟨hd, hr⟩ := (hk i hi).2.2.2.1 h2
  refine ⟨?_, allB_of (by have := hy.1; omega) fun k hkk => by rw [hy.2 k hkk]; exact (hk k hkk).2.2.2.2.2 hd hr⟩
  cases hq : anyB p.ends p.n.toNat 3 with
  | false => rfl
  | true =>
    obtain ⟨j, hj, h3⟩ := anyB_out hq
    have := ((hk j hj).2.2.1 ((hk j hj).2.2.2.2.2 hd hr) h3).2
    rw [hr] at this; cases this

theorem link_new {n : Int} (h : inB n 1 8 = true) : linkY (newP n) (List.replicate n.toNat false) := by
  have h := inB_iff.1 h
  refine ⟨by simp [newP]; omega, fun k hk => ?_⟩
  simp only [newP, List.getD_eq_getElem?_getD, List.getElem?_replicate, Int.toNat_zero, Nat.zero_testBit]
  split <;> rfl

theorem okAll : PlainOk Try.prog [] 3 cAll := by
  refine plain_of X3_ok Try.func3 (c := Try.f3.body.getD .skip) (rvs := [(.tmp 4, .bool)]) (by kernel_rfl) (by kernel_rfl) (by kernel_rfl) ?_
  intro ds k ⟨hp, hk⟩ hwf
  obtain ⟨n, l, rfl, -⟩ := dest2 hp
  have hk : k [⟨.bool, true⟩] := hk
  have hwl := (wf2 hwf).2.1
  refine ⟨anAll n l, ?_⟩
  rw [vcAll]
  simp only [decide_eq_true_eq, decide_eq_false_iff_not, inK_i64, true_and, and_true, Bool.not_true, Bool.not_false, Bool.not_eq_true', Bool.not_eq_false', reduceCtorEq, false_implies, forall_const, not_true, ne_eq]
  refine ⟨fun hn => ?_, fun hn => ?_⟩
  · have hnn := inB_iff.1 hn
    refine ⟨by omega, by omega, by omega, ⟨(0, newP n, List.replicate n.toNat false), ⟨Nat.zero_le _, rfl, inv_new hn, link_new hn⟩, rfl, ⟨rfl, rfl, rfl, rfl⟩, rfl, rfl⟩, fun x hx => ?_⟩
    obtain ⟨i, p, y⟩ := x
    obtain ⟨hi, hpn, hinv, hlink⟩ := hx
    simp only at hi hpn hinv hlink
    refine ⟨fun h1 => ⟨fun h2 => ⟨by omega, h1, hinv.1, fun e q hdo => ?_⟩, fun h2 => hk⟩, fun h1 => hk⟩
    obtain ⟨hq, hqn, _, _⟩ := inv_do hinv hdo
    have hlq := link_do hinv hlink hdo
    rw [hpn] at hlq hqn
    refine ⟨⟨fun c1 => ⟨fun c2 => ⟨fun c3 => ⟨fun c4 => ⟨c3, by have h := c4; rw [← hpn, ← hlink.1] at h; exact h, _, rfl, ?_⟩, fun c4 => ⟨_, rfl, ?_⟩⟩, fun c3 => ⟨_, rfl, ?_⟩⟩, fun c2 => ⟨_, rfl, ?_⟩⟩, fun c1 => ⟨_, rfl, ?_⟩⟩, fun y' hy' => ⟨⟨(0, false, false, true), ⟨by have := hq.1.1; show (0 : Int) ≤ q.n; omega, by simp [anyB], by simp [anyB], by simp [allB]⟩, rfl, rfl, rfl, rfl⟩, fun x hx => ?_⟩⟩
    · unfold yesAfter; rw [if_pos ⟨c1, c2, c3, c4⟩]
    · unfold yesAfter; rw [if_neg (fun h => c4 h.2.2.2)]
    · unfold yesAfter; rw [if_neg (fun h => c3 h.2.2.1)]
    · unfold yesAfter; rw [if_neg (fun h => c2 h.2.1)]
    · unfold yesAfter; rw [if_neg (fun h => c1 h.1)]
    rw [← hy'] at hlq
    clear hy'
    obtain ⟨k', d, nt, al⟩ := x
    obtain ⟨g1, g2, g3, g4⟩ := hx
    simp only at g1 g2 g3 g4
    have hql := hq.1.2.2.1
    have hyl := hlq.1
    refine ⟨fun hkn => ?_, fun hkn => ?_⟩
    · have hkn : (k' : Int) < n := hkn
      have e2 : anyB q.ends (k' + 1) 2 = (d || decide (memP ⟨q.n, q.yes, q.ends, q.dec, q.res⟩ (k' : Int) = 2)) := by rw [memP_in (by show (k' : Int) < q.n; omega), anyB_succ _ _ _ (by omega), g2]
      have e3 : anyB q.ends (k' + 1) 3 = (nt || decide (memP ⟨q.n, q.yes, q.ends, q.dec, q.res⟩ (k' : Int) = 3)) := by rw [memP_in (by show (k' : Int) < q.n; omega), anyB_succ _ _ _ (by omega), g3]
      have e4 : allB y' (k' + 1) = (al && y'.getD ((k' : Int).toNat) false) := by rw [allB_succ _ _ (by omega), g4]; rfl
      have fin : ∀ (d' nt' al' : Bool), d' = anyB q.ends (k' + 1) 2 → nt' = anyB q.ends (k' + 1) 3 → al' = allB y' (k' + 1) → ∃ x_3 : Nat × Bool × Bool × Bool, ((x_3.1 : Int) ≤ q.n ∧ x_3.2.1 = anyB q.ends x_3.1 2 ∧ x_3.2.2.1 = anyB q.ends x_3.1 3 ∧ x_3.2.2.2 = allB y' x_3.1) ∧
          Int.toNat n - x_3.1 < Int.toNat n - k' ∧ d' = x_3.2.1 ∧ nt' = x_3.2.2.1 ∧ al' = x_3.2.2.2 ∧ (k' : Int) + 1 = (x_3.1 : Int) := by
        intro d' nt' al' h1 h2 h3
        exact ⟨(k' + 1, d', nt', al'), ⟨by show ((k' + 1 : Nat) : Int) ≤ q.n; omega, h1, h2, h3⟩, by show Int.toNat n - (k' + 1) < _; omega, rfl, rfl, rfl, by simp⟩
      refine ⟨fun hd => ⟨fun hnt => ⟨fun hal => ⟨by omega, by show (k' : Int) < _; omega, ⟨by omega, by show (k' : Int) + 1 ≤ _; omega⟩, fin _ _ _ ?_ ?_ ?_⟩, fun hal => ⟨⟨by omega, by show (k' : Int) + 1 ≤ _; omega⟩, fin _ _ _ ?_ ?_ ?_⟩⟩, fun hnt => ⟨hq.1, fun hal => ⟨by omega, by show (k' : Int) < _; omega, ⟨by omega, by show (k' : Int) + 1 ≤ _; omega⟩, fin _ _ _ ?_ ?_ ?_⟩, fun hal => ⟨⟨by omega, by show (k' : Int) + 1 ≤ _; omega⟩, fin _ _ _ ?_ ?_ ?_⟩⟩⟩,
        fun hd => ⟨hq.1, fun hnt => ⟨fun hal => ⟨by omega, by show (k' : Int) < _; omega, ⟨by omega, by show (k' : Int) + 1 ≤ _; omega⟩, fin _ _ _ ?_ ?_ ?_⟩, fun hal => ⟨⟨by omega, by show (k' : Int) + 1 ≤ _; omega⟩, fin _ _ _ ?_ ?_ ?_⟩⟩, fun hnt => ⟨hq.1, fun hal => ⟨by omega, by show (k' : Int) < _; omega, ⟨by omega, by show (k' : Int) + 1 ≤ _; omega⟩, fin _ _ _ ?_ ?_ ?_⟩, fun hal => ⟨⟨by omega, by show (k' : Int) + 1 ≤ _; omega⟩, fin _ _ _ ?_ ?_ ?_⟩⟩⟩⟩
      all_goals
        simp only at hd hnt hal
        subst hd; subst hnt; subst hal
        first
          | (rw [e2]; simp; done)
          | (rw [e3]; simp; done)
          | (rw [e4]; simp; done)
    · have hkn : ¬ (k' : Int) < n := hkn
      have hke : k' = q.n.toNat := by omega
      have h1' : (i : Int) < (List.length l : Int) := h1
      have h2' : (i : Int) < 60 := h2
      have nxt : ∃ x_3 : Nat × Pl × List Bool, (x_3.1 ≤ List.length l ∧ x_3.2.1.n = n ∧ x_3.2.1.inv ∧ linkY x_3.2.1 x_3.2.2) ∧ List.length l - x_3.1 < List.length l - i ∧ (i : Int) + 1 = (x_3.1 : Int) ∧
          (q.n = x_3.2.1.n ∧ q.yes = x_3.2.1.yes ∧ q.dec = x_3.2.1.dec ∧ q.res = x_3.2.1.res) ∧ q.ends = x_3.2.1.ends ∧ y' = x_3.2.2 :=
        ⟨(i + 1, q, y'), ⟨by show i + 1 ≤ List.length l; omega, hqn, hq, hlq⟩, by show List.length l - (i + 1) < _; omega, by simp, ⟨rfl, rfl, rfl, rfl⟩, rfl, rfl⟩
      have hin : -9223372036854775808 ≤ (i : Int) + 1 ∧ (i : Int) + 1 ≤ 9223372036854775807 := ⟨by omega, by omega⟩
      subst hke
      refine ⟨fun hd => ?_, fun _ => ⟨hin, nxt⟩⟩
      obtain ⟨l1, l2⟩ := law_all hq hlq (g2.symm.trans hd)
      refine ⟨fun h => ?_, fun _ => ⟨fun h => ?_, fun _ => ⟨hin, nxt⟩⟩⟩
      · have := g3.symm.trans h; rw [l1] at this; cases this
      · have := g4.symm.trans h; rw [l2] at this; cases this
  · refine ⟨fun _ => ⟨fun _ => hk, fun h => ?_⟩, fun h => absurd h (by decide)⟩
    have : decide (8 < n) = true := by
      rcases Int.lt_or_le 8 n with h8 | h8
      · exact decide_eq_true h8
      · have : inB n 1 8 = true := inB_iff.2 ⟨by omega, h8⟩
        rw [this] at hn; cases hn
    rw [this]; exact hk

theorem link_newW {n : Int} (h : inB n 1 8 = true) : linkW (newP n) (List.replicate n.toNat 0) := by
  have h := inB_iff.1 h
  exact ⟨by simp only [List.length_replicate]; show ((n.toNat : Nat) : Int) = n; omega, fun k hk => rfl⟩

theorem okStays : PlainOk Try.prog [] 4 cAll := by
  refine plain_of X3_ok Try.func4 (c := Try.f4.body.getD .skip) (rvs := [(.tmp 4, .bool)]) (by kernel_rfl) (by kernel_rfl) (by kernel_rfl) ?_
  intro ds k ⟨hp, hk⟩ hwf
  obtain ⟨n, l, rfl, -⟩ := dest2 hp
  have hk : k [⟨.bool, true⟩] := hk
  have hwl := (wf2 hwf).2.1
  refine ⟨anStays n l, ?_⟩
  rw [vcStays]
  simp only [decide_eq_true_eq, decide_eq_false_iff_not, inK_i64, true_and, and_true, Bool.not_true, Bool.not_false, Bool.not_eq_true', Bool.not_eq_false', reduceCtorEq, false_implies, forall_const, not_true, ne_eq]
  refine ⟨fun hn => ?_, fun hn => ?_⟩
  · have hnn := inB_iff.1 hn
    refine ⟨by omega, by omega, by omega, ⟨(0, newP n, List.replicate n.toNat 0), ⟨Nat.zero_le _, rfl, inv_new hn, link_newW hn⟩, rfl, ⟨rfl, rfl, rfl, rfl⟩, rfl, rfl⟩, fun x hx => ?_⟩
    obtain ⟨i, p, w⟩ := x
    obtain ⟨hi, hpn, hinv, hlink⟩ := hx
    simp only at hi hpn hinv hlink
    refine ⟨fun h1 => ⟨fun h2 => ⟨by omega, h1, hinv.1, fun e q hdo => ?_⟩, fun h2 => hk⟩, fun h1 => hk⟩
    obtain ⟨hq, hqn, hst, _⟩ := inv_do hinv hdo
    rw [hpn] at hqn
    have hqn' : q.n = n := hqn
    refine ⟨⟨(0, w), ⟨by show (0 : Int) ≤ n; omega, by rw [← hpn]; exact hlink.1, fun k hk => absurd hk (Nat.not_lt_zero k), fun k _ => rfl⟩, rfl, rfl⟩, fun x hx => ?_⟩
    obtain ⟨k', w'⟩ := x
    obtain ⟨g1, g2, g3, g4⟩ := hx
    simp only at g1 g2 g3 g4
    have h1' : (i : Int) < (List.length l : Int) := h1
    have h2' : (i : Int) < 60 := h2
    have hql := hq.1.2.2.1
    refine ⟨fun hkn => ?_, fun hkn => ?_⟩
    · have hkn : (k' : Int) < n := hkn
      have hkq : k' < q.n.toNat := by omega
      have hkp : k' < p.n.toNat := by omega
      have em : memP ⟨q.n, q.yes, q.ends, q.dec, q.res⟩ (k' : Int) = q.ends.getD k' 0 := memP_in (by show (k' : Int) < q.n; omega)
      have ew : w'.getD (k' : Int).toNat 0 = p.ends.getD k' 0 := by
        rw [Int.toNat_natCast, g4 k' (Nat.le_refl _), hlink.2 k' hkp]
      have hs := hst k' hkp
      rw [← ew, ← em] at hs
      have nxt : ∃ x_2 : Nat × List Int, ((x_2.1 : Int) ≤ n ∧ (x_2.2.length : Int) = n ∧ (∀ k, k < x_2.1 → x_2.2.getD k 0 = q.ends.getD k 0) ∧ ∀ k, x_2.1 ≤ k → x_2.2.getD k 0 = w.getD k 0) ∧
          Int.toNat n - x_2.1 < Int.toNat n - k' ∧ (k' : Int) + 1 = (x_2.1 : Int) ∧ w'.set (k' : Int).toNat (memP ⟨q.n, q.yes, q.ends, q.dec, q.res⟩ (k' : Int)) = x_2.2 := by
        have hkw : k' < w'.length := by omega
        refine ⟨(k' + 1, _), ⟨by show ((k' + 1 : Nat) : Int) ≤ n; omega, by simpa using g2, fun j hj => ?_, fun j hj => ?_⟩, by show Int.toNat n - (k' + 1) < _; omega, by simp, rfl⟩
        · rw [em, Int.toNat_natCast, getD_set _ _ _ _ hkw]
          split
          · rename_i e; subst e; rfl
          · exact g3 j (by have : j < k' + 1 := hj; omega)
        · rw [Int.toNat_natCast, getD_set _ _ _ _ hkw, if_neg (by have : k' + 1 ≤ j := hj; omega)]
          exact g4 j (by have : k' + 1 ≤ j := hj; omega)
      have b0 : (0 : Int) ≤ (k' : Int) := by omega
      have b1 : (k' : Int) < (w'.length : Int) := by omega
      have b2 : -9223372036854775808 ≤ (k' : Int) + 1 ∧ (k' : Int) + 1 ≤ 9223372036854775807 := ⟨by omega, by omega⟩
      refine ⟨hq.1, b0, b1, fun h => ⟨b0, b1, fun hne => absurd (hs.1 h) hne, fun _ => ⟨b0, b1, fun h1 => ⟨fun h0 => absurd h0 (hs.2 h1), fun _ => ⟨b0, b1, b2, nxt⟩⟩, fun _ => ⟨b0, b1, b2, nxt⟩⟩⟩, fun _ => ⟨b0, b1, fun h1 => ⟨fun h0 => absurd h0 (hs.2 h1), fun _ => ⟨b0, b1, b2, nxt⟩⟩, fun _ => ⟨b0, b1, b2, nxt⟩⟩⟩
    · have hkn : ¬ (k' : Int) < n := hkn
      refine ⟨⟨by show _ ≤ (i : Int) + 1; omega, by show (i : Int) + 1 ≤ _; omega⟩, (i + 1, q, w'), ⟨by show i + 1 ≤ List.length l; omega, hqn, hq, by rw [hqn']; exact g2, fun k hk => ?_⟩, by show List.length l - (i + 1) < _ - i; omega, by simp, ⟨rfl, rfl, rfl, rfl⟩, rfl, rfl⟩
      have hk : k < q.n.toNat := hk
      exact g3 k (by omega)
  · refine ⟨fun _ => ⟨fun _ => hk, fun h => ?_⟩, fun h => absurd h (by decide)⟩
    have : decide (8 < n) = true := by
      rcases Int.lt_or_le 8 n with h8 | h8
      · exact decide_eq_true h8
      · have : inB n 1 8 = true := inB_iff.2 ⟨by omega, h8⟩
        rw [this] at hn; cases hn
    rw [this]; exact hk
end Go.Proofs.Ytjgdpblaghhfhaa
