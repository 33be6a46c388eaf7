/- Traces: the small functions keep their contracts. -/
import Derived.Test.YtgbpjjinhjikeaaDoorDB
namespace Go.Proofs.YtgbpjjinhjikeaaDoor
open Go.Vc

theorem mixed : Tryd.prog.follows .mixedOrders = true := by kernel_rfl

theorem okWithin : PlainOk Tryd.prog glT 32 cWithin := by
  refine plain_of (CxOk.mk' Et_ok rfl mixed (gl := glT) GOk.nil GoOk.nil noIt) Tryd.func32 (c := Tryd.f32.body.getD .skip) (rvs := [(.tmp 6, .bool)]) (by kernel_rfl) (by kernel_rfl) (by kernel_rfl) ?_
  intro ds k ⟨hp, hk⟩ hwf
  obtain ⟨a, b, c, rfl, -⟩ := dest3 hp
  have hk : k [⟨.bool, inB a b c⟩] := hk
  refine ⟨[], ?_⟩
  rw [vcWithin]
  unfold inB at hk
  refine ⟨fun h => ?_, fun h => ?_⟩ <;> simpa [h] using hk

theorem two_pow_le {n : Nat} (h : n ≤ 62) : (2 : Int) ^ n ≤ 4611686018427387904 := by
  have : 2 ^ n ≤ 2 ^ 62 := Nat.pow_le_pow_right (by decide) h
  have h2 : ((2 ^ n : Nat) : Int) ≤ ((2 ^ 62 : Nat) : Int) := Int.ofNat_le.2 this
  rw [Int.natCast_pow] at h2
  exact h2
theorem two_pow_pos (n : Nat) : (0 : Int) < (2 : Int) ^ n := Int.pow_pos (by decide)

theorem okPow2 : PlainOk Tryd.prog glT 44 cPow2 := by
  refine plain_of (CxOk.mk' Et_ok rfl mixed (gl := glT) GOk.nil GoOk.nil noIt) Tryd.func44 (c := Tryd.f44.body.getD .skip) (rvs := [(.tmp 2, I)]) (by kernel_rfl) (by kernel_rfl) (by kernel_rfl) ?_
  intro ds k ⟨hp, hk⟩ hwf
  obtain ⟨n, rfl, hn, -⟩ := dest1 hp
  have hk : k [⟨I, (2 : Int) ^ n.toNat⟩] := hk
  refine ⟨anPow2 n, ?_⟩
  rw [vcPow2]
  simp only [decide_eq_true_eq, decide_eq_false_iff_not, inK_i64, and_true, true_and]
  refine ⟨⟨0, by omega, rfl, rfl⟩, fun x hx => ⟨fun h => ?_, fun h => ?_⟩⟩
  · have h1 := two_pow_le (n := x + 1) (by omega)
    have h2 := two_pow_pos (x + 1)
    rw [Int.pow_succ] at h1 h2
    refine ⟨by omega, by omega, x + 1, by omega, by omega, by rw [Int.pow_succ], by omega⟩
  · have : x = n.toNat := by omega
    rw [this]; exact hk

theorem tdivN (n x : Nat) : (n : Int).tdiv ((2 : Int) ^ x) = ((n / 2 ^ x : Nat) : Int) := by
  rw [show (2 : Int) ^ x = ((2 ^ x : Nat) : Int) by rw [Int.natCast_pow]; rfl, ← Int.ofNat_tdiv]
theorem tdiv_pow (s : Int) (x : Nat) : (s.tdiv ((2 : Int) ^ x)).tdiv 2 = s.tdiv ((2 : Int) ^ (x + 1)) := by
  have key : ∀ n : Nat, ((n : Int).tdiv ((2 : Int) ^ x)).tdiv 2 = (n : Int).tdiv ((2 : Int) ^ (x + 1)) := by
    intro n
    rw [tdivN, tdivN, Nat.pow_succ, ← Nat.div_div_eq_div_mul]
    have := tdivN (n / 2 ^ x) 1
    simpa using this
  rcases Int.le_total 0 s with h | h
  · obtain ⟨n, rfl⟩ := Int.eq_ofNat_of_zero_le h
    exact key n
  · obtain ⟨n, hn⟩ := Int.eq_ofNat_of_zero_le (show 0 ≤ -s by omega)
    have e : s = -(n : Int) := by omega
    rw [e, Int.neg_tdiv, Int.neg_tdiv, Int.neg_tdiv, key]

theorem bit_of {s : Int} {x : Nat} : decide ((s.tdiv ((2 : Int) ^ x)).tmod 2 = 1) = bitB s x := by
  unfold bitB
  by_cases h : 0 ≤ s
  · obtain ⟨n, rfl⟩ := Int.eq_ofNat_of_zero_le h
    have e : ((n : Int).tdiv ((2 : Int) ^ x)).tmod 2 = ((n / 2 ^ x % 2 : Nat) : Int) := by
      rw [show (2 : Int) ^ x = ((2 ^ x : Nat) : Int) by rw [Int.natCast_pow]; rfl, ← Int.ofNat_tdiv]
      exact (Int.ofNat_tmod _ 2).symm
    rw [e]
    simp only [h, decide_true, Bool.true_and, Int.toNat_natCast]
    rw [Nat.testBit_eq_decide_div_mod_eq]
    apply decide_eq_decide.2
    exact ⟨fun h => by exact_mod_cast h, fun h => by exact_mod_cast h⟩
  · have hd : decide (0 ≤ s) = false := by simpa using h
    rw [hd, Bool.false_and]
    have hle : s.tdiv ((2 : Int) ^ x) ≤ 0 := by
      have := Int.tdiv_nonneg (a := -s) (b := (2 : Int) ^ x) (by omega) (Int.le_of_lt (two_pow_pos x))
      rw [Int.neg_tdiv] at this; omega
    simp only [decide_eq_false_iff_not]
    intro hc
    have h2 := Int.tmod_nonneg (a := -(s.tdiv ((2 : Int) ^ x))) 2 (by omega)
    rw [Int.neg_tmod] at h2
    omega

theorem tdiv_in {s : Int} (h : inK .i64 s) (x : Nat) : inK .i64 (s.tdiv ((2 : Int) ^ x)) ∧ inK .i64 ((s.tdiv ((2 : Int) ^ x)).tmod 2) := by
  rw [inK_i64] at h
  have key : ∀ n : Nat, ((n : Int).tdiv ((2 : Int) ^ x)) ≤ n ∧ 0 ≤ ((n : Int).tdiv ((2 : Int) ^ x)) := by
    intro n
    rw [tdivN]
    have h := Nat.div_le_self n (2 ^ x)
    generalize n / 2 ^ x = q at h
    omega
  have hb : -9223372036854775808 ≤ s.tdiv ((2 : Int) ^ x) ∧ s.tdiv ((2 : Int) ^ x) ≤ 9223372036854775807 := by
    rcases Int.le_total 0 s with h0 | h0
    · obtain ⟨n, rfl⟩ := Int.eq_ofNat_of_zero_le h0
      have := key n; omega
    · obtain ⟨n, hn⟩ := Int.eq_ofNat_of_zero_le (show 0 ≤ -s by omega)
      have e : s = -(n : Int) := by omega
      have := key n
      rw [e, Int.neg_tdiv]; omega
  refine ⟨inK_i64.2 hb, inK_i64.2 ?_⟩
  generalize s.tdiv ((2 : Int) ^ x) = q at hb
  have := Int.tmod_two_eq q
  omega

theorem okBit : PlainOk Tryd.prog glT 27 cBit := by
  refine plain_of (CxOk.mk' Et_ok rfl mixed (gl := glT) GOk.nil GoOk.nil noIt) Tryd.func27 (c := Tryd.f27.body.getD .skip) (rvs := [(.tmp 4, .bool)]) (by kernel_rfl) (by kernel_rfl) (by kernel_rfl) ?_
  intro ds k ⟨hp, hk⟩ hwf
  obtain ⟨s, i, rfl, -⟩ := dest2 hp
  have hk : k [⟨.bool, bitB s i⟩] := hk
  have hs : inK .i64 s := (wf2 hwf).1
  have hi := inK_i64.1 ((wf2 hwf).2 : inK .i64 i)
  refine ⟨anBit s i, ?_⟩
  rw [vcBit]
  simp only [decide_eq_true_eq, decide_eq_false_iff_not, and_true, true_and, Bool.not_eq_true', Bool.not_eq_false', ne_eq]
  have ret : ∀ x : Nat, bitB s x = bitB s i → k [⟨.bool, decide ((s.tdiv ((2 : Int) ^ x)).tmod 2 = 1)⟩] := by
    intro x hx; rw [bit_of, hx]; exact hk
  refine ⟨⟨0, by omega, by simp, rfl⟩, fun x hx => ⟨fun h => ⟨fun h0 => ⟨by decide, ?_, by rw [inK_i64]; omega, x + 1, by omega, by omega, tdiv_pow s x, by omega⟩, fun h0 => ⟨by decide, (tdiv_in hs x).2, ret x ?_⟩⟩, fun h => ⟨by decide, (tdiv_in hs x).2, ret x ?_⟩⟩⟩
  · rw [tdiv_pow]; exact (tdiv_in hs (x + 1)).1
  · unfold bitB
    by_cases hs0 : 0 ≤ s
    · obtain ⟨n, hn⟩ := Int.eq_ofNat_of_zero_le hs0
      rw [hn, tdivN] at h0
      have h0' : n / 2 ^ x = 0 := by exact_mod_cast h0
      have hlt : n < 2 ^ x := by
        rcases Nat.lt_or_ge n (2 ^ x) with h | h
        · exact h
        · have := Nat.div_pos h (Nat.two_pow_pos x); omega
      have hf : ∀ j, x ≤ j → n.testBit j = false := fun j hj => Nat.testBit_lt_two_pow (Nat.lt_of_lt_of_le hlt (Nat.pow_le_pow_right (by decide) hj))
      have e1 : s.toNat = n := by rw [hn]; rfl
      rw [e1, hf _ (by rw [Int.toNat_natCast]; exact Nat.le_refl _), hf _ (by omega)]
    · have : decide (0 ≤ s) = false := by simpa using hs0
      rw [this]; rfl
  · have : (x : Int).toNat = i.toNat := by omega
    unfold bitB; rw [this]
end Go.Proofs.YtgbpjjinhjikeaaDoor

/- Traces: sets in sets; what is wrong with a trace. -/
namespace Go.Proofs.YtgbpjjinhjikeaaDoor
open Go.Vc

theorem subN_fuel : ∀ (f g a : Nat) (b : Int), a ≤ f → a ≤ g → subN f a b = subN g a b := by
  intro f
  induction f with
  | zero =>
    intro g a b h1 h2
    have : a = 0 := by omega
    subst this
    cases g <;> simp [subN]
  | succ f ih =>
    intro g a b h1 h2
    cases g with
    | zero =>
      have : a = 0 := by omega
      subst this
      simp [subN]
    | succ g =>
      unfold subN
      by_cases h : a = 0
      · simp [h]
      · rw [if_neg h, if_neg h, ih g (a / 2) (b.tdiv 2) (by omega) (by omega)]

theorem subB_pos {a b : Int} (h : 0 < a) : subB a b = if a.tmod 2 = 1 ∧ b.tmod 2 = 0 then false else subB (a.tdiv 2) (b.tdiv 2) := by
  obtain ⟨n, rfl⟩ := Int.eq_ofNat_of_zero_le (Int.le_of_lt h)
  have hn : 0 < n := by omega
  have e1 : ((n : Int).tdiv 2) = ((n / 2 : Nat) : Int) := by simp
  have e2 : ((n : Int).tmod 2 = 1) ↔ n % 2 = 1 := by
    have : (n : Int).tmod 2 = ((n % 2 : Nat) : Int) := (Int.ofNat_tmod n 2).symm
    rw [this]; omega
  rw [e1]
  unfold subB
  simp only [Int.toNat_natCast, e2]
  obtain ⟨m, rfl⟩ : ∃ m, n = m + 1 := ⟨n - 1, by omega⟩
  rw [subN, if_neg (by omega)]
  rw [subN_fuel m ((m + 1) / 2) ((m + 1) / 2) _ (by omega) (Nat.le_refl _)]

theorem subB_neg {a b : Int} (h : ¬ 0 < a) : subB a b = true := by
  unfold subB
  have : a.toNat = 0 := by omega
  rw [this]; rfl

theorem half_in {q : Int} (h : inK .i64 q) : inK .i64 (q.tmod 2) ∧ inK .i64 (q.tdiv 2) := by
  have h1 := tdiv_in h 0
  have h2 := tdiv_in h 1
  simp only [Int.pow_zero, Int.tdiv_one] at h1
  rw [Int.pow_succ, Int.pow_zero, Int.one_mul] at h2
  exact ⟨h1.2, h2.1⟩

theorem okSub : PlainOk Tryd.prog glT 28 cSub := by
  refine plain_of (CxOk.mk' Et_ok rfl mixed (gl := glT) GOk.nil GoOk.nil noIt) Tryd.func28 (c := Tryd.f28.body.getD .skip) (rvs := [(.tmp 4, .bool)]) (by kernel_rfl) (by kernel_rfl) (by kernel_rfl) ?_
  intro ds k ⟨hp, hk⟩ hwf
  obtain ⟨a, b, rfl, -⟩ := dest2 hp
  have hk : k [⟨.bool, subB a b⟩] := hk
  have ha : inK .i64 a := (wf2 hwf).1
  have hb : inK .i64 b := (wf2 hwf).2
  refine ⟨anSub a b, ?_⟩
  rw [vcSub]
  simp only [decide_eq_true_eq, decide_eq_false_iff_not, and_true, true_and, ne_eq]
  have ret : ∀ x : Bool, subB a b = x → k [⟨.bool, x⟩] := by rintro _ rfl; exact hk
  have h20 : ¬ (2 : Int) = 0 := by decide
  refine ⟨⟨(a, b), ⟨rfl, ha, hb⟩, rfl, rfl⟩, fun x ⟨h1, h2, h3⟩ => ⟨fun h => ?_, fun h => ret _ (by rw [h1, subB_neg h])⟩⟩
  have hst := subB_pos (b := x.2) h
  have hlt : (x.1.tdiv 2).toNat < x.1.toNat := by
    obtain ⟨n, hn⟩ := Int.eq_ofNat_of_zero_le (Int.le_of_lt h)
    have e1 : (x.1.tdiv 2) = ((n / 2 : Nat) : Int) := by rw [hn]; simp
    rw [e1]; omega
  refine ⟨h20, (half_in h2).1, fun h4 => ⟨h20, (half_in h3).1, fun h5 => ret _ (by rw [h1, hst, if_pos ⟨h4, h5⟩]), fun h5 => ⟨h20, (half_in h2).2, h20, (half_in h3).2, (x.1.tdiv 2, x.2.tdiv 2), ⟨by rw [h1, hst, if_neg (fun h => h5 h.2)], (half_in h2).2, (half_in h3).2⟩, hlt, rfl, rfl⟩⟩,
    fun h4 => ⟨h20, (half_in h2).2, h20, (half_in h3).2, (x.1.tdiv 2, x.2.tdiv 2), ⟨by rw [h1, hst, if_neg (fun h => h4 h.1)], (half_in h2).2, (half_in h3).2⟩, hlt, rfl, rfl⟩⟩

theorem okCheck : PlainOk Tryd.prog glT 10 cCheck := by
  refine plain_of (CxOk.mk' Et_ok rfl mixed (gl := glT) (GOk.cons okWithin Tryd.func32 (by kernel_rfl) (by kernel_rfl) GOk.nil) GoOk.nil noIt) Tryd.func10 (c := Tryd.f10.body.getD .skip) (rvs := [(.tmp 2, tErr)]) (by kernel_rfl) (by kernel_rfl) (by kernel_rfl) ?_
  intro ds k ⟨hp, hk⟩ hwf
  obtain ⟨t, rfl, -⟩ := dest1 hp
  revert hk hwf
  revert t
  intro (t : Tr) _ hk hwf
  have hk : k [⟨tErr, chk t⟩] := hk
  have ht : inK .i64 t.1 := (wf1 hwf).1
  refine ⟨anCheck t, ?_⟩
  rw [vcCheck]
  have ret : ∀ x : Int, chk t = x → k [⟨tErr, x⟩] := by rintro _ rfl; exact hk
  simp only [decide_eq_true_eq, decide_eq_false_iff_not, and_true, true_and, ne_eq, Bool.not_eq_true', Bool.not_eq_false', Int.toNat_natCast]
  have h10 : ¬ (1 : Int) = 0 := by decide
  have h40 : ¬ (4 : Int) = 0 := by decide
  have h60 : ¬ (6 : Int) = 0 := by decide
  refine ⟨fun h => ⟨h10, ret _ (by unfold chk; rw [if_pos h])⟩, fun h => ⟨fun g => ⟨h40, ret _ (by unfold chk; rw [if_neg (by rw [h]; decide), if_pos (by omega)])⟩, fun g => ?_⟩⟩
  have hp : 1 ≤ t.1 ∧ t.1 ≤ 5 := by simpa [inB] using h
  have hlen : t.2.1.length ≤ 24 := by omega
  have hc0 : chk t = evsErr t.1 t.2.1 t.2.1.length 0 := by
    unfold chk; rw [if_neg (by rw [h]; decide), if_neg (by omega)]
  have hstep : ∀ x, x < t.2.1.length → evsErr t.1 t.2.1 (t.2.1.length - x) x = if evErr t.1 t.2.1 x = 0 then evsErr t.1 t.2.1 (t.2.1.length - (x + 1)) (x + 1) else evErr t.1 t.2.1 x := by
    intro x hx
    rw [show t.2.1.length - x = (t.2.1.length - (x + 1)) + 1 by omega]
    rfl
  refine ⟨⟨0, ⟨hc0, Nat.zero_le _⟩, rfl⟩, fun x ⟨hx, hxl⟩ => ⟨fun hlt => ?_, fun hge => ret _ ?_⟩⟩
  · have hst := hstep x (by omega)
    have bad : ∀ n, evErr t.1 t.2.1 x = n → n ≠ 0 → k [⟨tErr, n⟩] := fun n h1 h2 => ret n (by rw [hx, hst, if_neg (by rw [h1]; exact h2), h1])
    have good : evErr t.1 t.2.1 x = 0 → inK IntKind.i64 ((x : Int) + 1) ∧ ∃ x', (chk t = evsErr t.1 t.2.1 (t.2.1.length - x') x' ∧ x' ≤ t.2.1.length) ∧ t.2.1.length - x' < t.2.1.length - x ∧ (x : Int) + 1 = (x' : Int) := fun h1 =>
      ⟨inK_i64.2 (by omega), x + 1, ⟨by rw [hx, hst, if_pos h1], by omega⟩, by omega, by omega⟩
    refine ⟨by omega, hlt, inK_i64.2 (by omega), fun h1 => ⟨h10, bad 1 ?_ h10⟩, fun h1 => ⟨inK_i64.2 (by omega), fun h2 => ⟨h10, bad 1 ?_ h10⟩, fun h2 => ⟨fun h3 => ⟨h3, ?_, fun h4 => ⟨h60, bad 6 ?_ h60⟩, fun h4 => good ?_⟩, fun h3 => good ?_⟩⟩⟩
    · unfold evErr; rw [if_pos (by rw [h1]; rfl)]
    · unfold evErr; rw [if_pos (by rw [h1, h2]; rfl)]
    · have : (t.2.1.getD x (0, 0, ())).2.1 ≤ (x : Int) - 1 := by
        simp only [inB, Bool.and_eq_true, decide_eq_true_eq] at h2; exact h2.2
      omega
    · unfold evErr; rw [if_neg (by rw [h1, h2]; decide), if_pos ⟨h3, h4⟩]
    · unfold evErr; rw [if_neg (by rw [h1, h2]; decide), if_neg (fun h => h4 h.2)]
    · unfold evErr; rw [if_neg (by rw [h1, h2]; decide), if_neg (fun h => h3 h.1)]
  · have : x = t.2.1.length := by omega
    rw [hx, this, Nat.sub_self]; rfl
end Go.Proofs.YtgbpjjinhjikeaaDoor

/- Traces: Before keeps its contract. -/
namespace Go.Proofs.YtgbpjjinhjikeaaDoor
open Go.Vc

theorem ints_getD (l : List Nat) (j : Nat) : (ints l).getD j (0 : Int) = ((l.getD j 0 : Nat) : Int) := by
  simp only [ints, List.getD_eq_getElem?_getD, List.getElem?_map]
  cases l[j]? <;> rfl
theorem ints_set (l : List Nat) (j n : Nat) : (ints l).set j (n : Int) = ints (l.set j n) := by simp [ints, List.map_set]
theorem ints_len (l : List Nat) : (ints l).length = l.length := by simp [ints]
theorem ints_rep (n : Nat) : List.replicate n (0 : Int) = ints (List.replicate n 0) := by simp [ints]
theorem one_shl (n : Nat) : (1 : Int) * (2 : Int) ^ n = ((2 ^ n : Nat) : Int) := by rw [Int.one_mul, Int.natCast_pow]; rfl

/-- A trace with which nothing is wrong. -/
structure Good (t : Tr) : Prop where
  procs : 1 ≤ t.1 ∧ t.1 ≤ 5
  len : t.2.1.length ≤ 24
  ev : ∀ i, i < t.2.1.length → 0 ≤ (t.2.1.getD i (0, 0, ())).1 ∧ (t.2.1.getD i (0, 0, ())).1 ≤ t.1 - 1 ∧ -1 ≤ (t.2.1.getD i (0, 0, ())).2.1 ∧ (t.2.1.getD i (0, 0, ())).2.1 ≤ (i : Int) - 1 ∧
    (0 ≤ (t.2.1.getD i (0, 0, ())).2.1 → (t.2.1.getD (t.2.1.getD i (0, 0, ())).2.1.toNat (0, 0, ())).1 ≠ (t.2.1.getD i (0, 0, ())).1)

theorem evsErr_zero {p : Int} {l : List Ev} : ∀ {f i : Nat}, evsErr p l f i = 0 → ∀ j, i ≤ j → j < i + f → evErr p l j = 0 := by
  intro f
  induction f with
  | zero => intro i _ j h1 h2; omega
  | succ f ih =>
    intro i h j h1 h2
    unfold evsErr at h
    split at h
    · rename_i h0
      by_cases hj : j = i
      · rw [hj]; exact h0
      · exact ih h j (by omega) (by omega)
    · rename_i h0; exact absurd h h0

theorem good_of {t : Tr} (h : chk t = 0) : Good t := by
  unfold chk at h
  split at h
  · cases h
  · rename_i h1
    split at h
    · cases h
    · rename_i h2
      have hp : 1 ≤ t.1 ∧ t.1 ≤ 5 := by simpa [inB] using h1
      refine ⟨hp, by omega, fun i hi => ?_⟩
      have he := evsErr_zero h i (Nat.zero_le _) (by omega)
      unfold evErr at he
      split at he
      · cases he
      · rename_i h3
        split at he
        · cases he
        · rename_i h4
          have h3' : (0 ≤ (t.2.1.getD i (0, 0, ())).1 ∧ (t.2.1.getD i (0, 0, ())).1 ≤ t.1 - 1) ∧ -1 ≤ (t.2.1.getD i (0, 0, ())).2.1 ∧ (t.2.1.getD i (0, 0, ())).2.1 ≤ (i : Int) - 1 := by
            simpa only [inB, Bool.not_eq_false, Bool.and_eq_true, decide_eq_true_eq] using h3
          exact ⟨h3'.1.1, h3'.1.2, h3'.2.1, h3'.2.2, fun h0 hc => h4 ⟨h0, hc⟩⟩

theorem bst_len (l : List Ev) : ∀ i, (bst l i).1.length = l.length ∧ (bst l i).2.length = 5
  | 0 => by simp [bst]
  | i + 1 => by
    have := bst_len l i
    simp [bst, this.1, this.2]

theorem getD_set_self {l : List Nat} {i n : Nat} (h : i < l.length) : (l.set i n).getD i 0 = n := by
  simp [List.getD_eq_getElem?_getD, h]
theorem getD_set_ne {l : List Nat} {i j n : Nat} (h : i ≠ j) : (l.set i n).getD j 0 = l.getD j 0 := by
  simp [List.getD_eq_getElem?_getD, List.getElem?_set_ne h]

theorem before_vc (t : Tr) (k : List Dat → Prop) (hk : k [⟨.sl I, bef t⟩, ⟨tErr, chk t⟩]) : vcF ⟨Et, [(10, cCheck)], glT, [], []⟩ (anBefore t) (Tryd.f13.body.getD .skip) Tryd.f13.ntmps [(.tmp 2, .sl I), (.tmp 3, tErr)] [⟨tTr, t⟩] k := by
  rw [vcBefore]
  simp only [decide_eq_true_eq, decide_eq_false_iff_not, and_true, true_and, Bool.not_eq_true', Bool.not_eq_false', Int.toNat_natCast, one_shl, ints_rep, ints_getD, ints_set, ints_len, List.length_set]
  refine ⟨fun h => ?_, fun h => ?_⟩
  · have : bef t = [] := by unfold bef; rw [if_neg h]
    rw [← this]; exact hk
  · have g := good_of h
    have hl := g.len
    have hshl : ∀ j : Nat, j ≤ 61 → inK .i64 ((2 ^ j : Nat) : Int) := by
      intro j hj
      have h1 := two_pow_le (n := j) (by omega)
      have h2 := two_pow_pos j
      have e : ((2 ^ j : Nat) : Int) = (2 : Int) ^ j := by rw [Int.natCast_pow]; rfl
      rw [e, inK_i64]
      omega
    have hN : ∀ n : Nat, (0 : Int) ≤ (n : Int) := fun n => Int.natCast_nonneg n
    have hb0 : befN t = (bst t.2.1 t.2.1.length).1 := rfl
    refine ⟨by omega, Int.le_refl _, by omega, ⟨0, ⟨by omega, h⟩, rfl, rfl, rfl⟩, fun x ⟨hx, _⟩ => ⟨fun hlt => ?_, fun hge => ?_⟩⟩
    · obtain ⟨b1, b2⟩ := bst_len t.2.1 x
      obtain ⟨p0, p1, f0, f1, _⟩ := g.ev x (by omega)
      have hpr := g.procs
      have h5 : ((5 : Nat) : Int) = 5 := rfl
      refine ⟨hN _, hlt, p0, by omega, hN _, by omega, fun h0 => ?_, fun h0 => ?_⟩
      · have hfl : (t.2.1.getD x (0, 0, ())).2.1.toNat < x := by omega
        refine ⟨hN _, by omega, h0, by omega, h0, by omega, rfl, hshl _ (by omega), hN _, hN _, hN _, hN _, hN _, by omega, hN _, by omega, hN _, by omega, rfl, hshl _ (by omega), hN _, hN _, p0, by omega, inK_i64.2 (by omega), x + 1, ⟨by omega, h⟩, by omega, by omega, ?_, ?_⟩
        · rw [List.set_set, getD_set_self (by omega), getD_set_ne (by omega)]
          simp only [bst, if_pos h0]
        · rw [getD_set_self (by rw [List.length_set]; omega), getD_set_self (by omega), getD_set_ne (by omega)]
          simp only [bst, if_pos h0]
      · refine ⟨hN _, by omega, hN _, by omega, rfl, hshl _ (by omega), hN _, hN _, p0, by omega, inK_i64.2 (by omega), x + 1, ⟨by omega, h⟩, by omega, by omega, ?_, ?_⟩
        · simp only [bst, if_neg h0]
        · rw [getD_set_self (by omega)]
          simp only [bst, if_neg h0]
    · have : x = t.2.1.length := by omega
      rw [this]
      have e : bef t = ints (bst t.2.1 t.2.1.length).1 := by unfold bef; rw [if_pos h, hb0]
      rw [← e]
      rw [h] at hk
      exact hk

theorem okBefore : PlainOk Tryd.prog glT 13 cBefore := by
  refine plain_of (CxOk.mk' Et_ok rfl mixed (gl := glT) (GOk.cons okCheck Tryd.func10 (by kernel_rfl) (by kernel_rfl) GOk.nil) GoOk.nil noIt) Tryd.func13 (c := Tryd.f13.body.getD .skip) (rvs := [(.tmp 2, .sl I), (.tmp 3, tErr)]) (by kernel_rfl) (by kernel_rfl) (by kernel_rfl) ?_
  intro ds k ⟨hp, hk⟩ hwf
  obtain ⟨t, rfl, -⟩ := dest1 hp
  exact ⟨anBefore t, before_vc t k hk⟩
end Go.Proofs.YtgbpjjinhjikeaaDoor

/- Traces: the small trace that the laws try first. -/
namespace Go.Proofs.YtgbpjjinhjikeaaDoor
open Go.Vc

theorem okTalk : PlainOk Tryd.prog glT 38 cTalk := by
  refine plain_of (CxOk.mk' Et_ok rfl mixed (gl := glT) GOk.nil GoOk.nil noIt) Tryd.func38 (c := Tryd.f38.body.getD .skip) (rvs := [(.cell 0 24, tTr)]) (by kernel_rfl) (by kernel_rfl) (by kernel_rfl) ?_
  intro ds k ⟨hp, hk⟩ hwf
  obtain ⟨rfl, -⟩ := dest0 hp
  refine ⟨[], ?_⟩
  rw [vcTalk]
  exact hk

theorem ints_vc (a b : List Int) (k : List Dat → Prop) (hl : a.length ≤ maxLen) (hk : k [⟨.bool, a == b⟩]) : vcF ⟨Et, [], glT, [], []⟩ (anInts a b) (Tryd.f14.body.getD .skip) Tryd.f14.ntmps [(.tmp 4, .bool)] [⟨.sl I, a⟩, ⟨.sl I, b⟩] k := by
  rw [vcInts]
  have hml : maxLen ≤ 9223372036854775807 := by decide
  simp only [decide_eq_true_eq, decide_eq_false_iff_not, and_true, true_and, Bool.not_eq_true', Bool.not_eq_false', Int.toNat_natCast, inK_i64]
  have ret : ∀ x : Bool, (a == b) = x → k [⟨.bool, x⟩] := by rintro _ rfl; exact hk
  refine ⟨fun h => ret _ ?_, fun h => ⟨⟨0, ⟨by omega, rfl⟩, rfl⟩, fun x ⟨hx, ht⟩ => ⟨fun hlt => ⟨by omega, hlt, by omega, by omega, fun hne => ret _ ?_, fun he => ⟨by omega, x + 1, ⟨by omega, ?_⟩, by omega, by omega⟩⟩, fun hge => ret _ ?_⟩⟩⟩
  · simp only [beq_eq_false_iff_ne, ne_eq]; intro he; exact h (by rw [he])
  · simp only [beq_eq_false_iff_ne, ne_eq]; intro h; exact hne (by rw [h])
  · have h1 : x < a.length := by omega
    have h2 : x < b.length := by omega
    rw [List.take_add_one, List.take_add_one, ht]
    rw [List.getD_eq_getElem?_getD, List.getD_eq_getElem?_getD, List.getElem?_eq_getElem h1, List.getElem?_eq_getElem h2] at he
    rw [List.getElem?_eq_getElem h1, List.getElem?_eq_getElem h2]
    simp only [Option.getD_some] at he
    rw [he]
  · have h1 : x = a.length := by omega
    rw [h1, List.take_length, List.take_of_length_le (by omega)] at ht
    simp [ht]

theorem okInts : PlainOk Tryd.prog glT 14 cInts := by
  refine plain_of (CxOk.mk' Et_ok rfl mixed (gl := glT) GOk.nil GoOk.nil noIt) Tryd.func14 (c := Tryd.f14.body.getD .skip) (rvs := [(.tmp 4, .bool)]) (by kernel_rfl) (by kernel_rfl) (by kernel_rfl) ?_
  intro ds k ⟨hp, hk⟩ hwf
  obtain ⟨a, b, rfl, -⟩ := dest2 hp
  exact ⟨anInts a b, ints_vc a b k (wf2 hwf).1.1 hk⟩

end Go.Proofs.YtgbpjjinhjikeaaDoor
