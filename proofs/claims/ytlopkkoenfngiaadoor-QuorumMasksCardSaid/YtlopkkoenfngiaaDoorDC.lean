/- Quorums: the small functions keep their contracts. -/
import Derived.Test.YtlopkkoenfngiaaDoorDB
namespace Go.Proofs.YtlopkkoenfngiaaDoor
open Go.Vc
theorem mixed : Tryd.prog.follows .mixedOrders = true := by kernel_rfl
theorem okWithin : PlainOk Tryd.prog glT 39 cWithin := by
  refine plain_of (CxOk.mk' Et_ok rfl mixed (gl := glT) GOk.nil GoOk.nil noIt) Tryd.func39 (c := Tryd.f39.body.getD .skip) (rvs := [(.tmp 6, .bool)]) (by kernel_rfl) (by kernel_rfl) (by kernel_rfl) ?_
  intro ds k ⟨hp, hk⟩ hwf
  obtain ⟨a, b, c, rfl, -⟩ := dest3 hp
  have hk : k [⟨.bool, inB a b c⟩] := hk
  refine ⟨[], ?_⟩
  rw [vcWithin]
  unfold inB at hk
  refine ⟨fun h => ?_, fun h => ?_⟩ <;> simpa [h] using hk
theorem two_pow_le {n : Nat} (h : n ≤ 62) : (2 : Int) ^ n ≤ 4611686018427387904 := by
  have : 2 ^ n ≤ 2 ^ 62 := Nat.pow_le_pow_right (by decide) h
  have h2 : ((2 ^ n : Nat) : Int) ≤ ((2 ^ 62 : Nat) : Int) := Int.ofNat_le.2 this
  rw [Int.natCast_pow] at h2
  exact h2
theorem two_pow_pos (n : Nat) : (0 : Int) < (2 : Int) ^ n := Int.pow_pos (by decide)
theorem okPow2 : PlainOk Tryd.prog glT 14 cPow2 := by
  refine plain_of (CxOk.mk' Et_ok rfl mixed (gl := glT) GOk.nil GoOk.nil noIt) Tryd.func14 (c := Tryd.f14.body.getD .skip) (rvs := [(.tmp 2, I)]) (by kernel_rfl) (by kernel_rfl) (by kernel_rfl) ?_
  intro ds k ⟨hp, hk⟩ hwf
  obtain ⟨n, rfl, hn, -⟩ := dest1 hp
  have hk : k [⟨I, (2 : Int) ^ n.toNat⟩] := hk
  refine ⟨anPow2 n, ?_⟩
  rw [vcPow2]
  simp only [decide_eq_true_eq, decide_eq_false_iff_not, inK_i64, and_true, true_and]
  refine ⟨⟨0, by omega, rfl, rfl⟩, fun x hx => ⟨fun h => ?_, fun h => ?_⟩⟩
  · have h1 := two_pow_le (n := x + 1) (by omega)
    have h2 := two_pow_pos (x + 1)
    rw [Int.pow_succ] at h1 h2
    refine ⟨by omega, by omega, x + 1, by omega, by omega, by rw [Int.pow_succ], by omega⟩
  · have : x = n.toNat := by omega
    rw [this]; exact hk
theorem tdivN (n x : Nat) : (n : Int).tdiv ((2 : Int) ^ x) = ((n / 2 ^ x : Nat) : Int) := by
  rw [show (2 : Int) ^ x = ((2 ^ x : Nat) : Int) by rw [Int.natCast_pow]; rfl, ← Int.ofNat_tdiv]
theorem tdiv_pow (s : Int) (x : Nat) : (s.tdiv ((2 : Int) ^ x)).tdiv 2 = s.tdiv ((2 : Int) ^ (x + 1)) := by
  have key : ∀ n : Nat, ((n : Int).tdiv ((2 : Int) ^ x)).tdiv 2 = (n : Int).tdiv ((2 : Int) ^ (x + 1)) := by
    intro n
    rw [tdivN, tdivN, Nat.pow_succ, ← Nat.div_div_eq_div_mul]
    have := tdivN (n / 2 ^ x) 1
    simpa using this
  rcases Int.le_total 0 s with h | h
  · obtain ⟨n, rfl⟩ := Int.eq_ofNat_of_zero_le h
    exact key n
  · obtain ⟨n, hn⟩ := Int.eq_ofNat_of_zero_le (show 0 ≤ -s by omega)
    have e : s = -(n : Int) := by omega
    rw [e, Int.neg_tdiv, Int.neg_tdiv, Int.neg_tdiv, key]
theorem bit_of {s : Int} {x : Nat} : decide ((s.tdiv ((2 : Int) ^ x)).tmod 2 = 1) = bitB s x := by
  unfold bitB
  by_cases h : 0 ≤ s
  · obtain ⟨n, rfl⟩ := Int.eq_ofNat_of_zero_le h
    have e : ((n : Int).tdiv ((2 : Int) ^ x)).tmod 2 = ((n / 2 ^ x % 2 : Nat) : Int) := by
      rw [show (2 : Int) ^ x = ((2 ^ x : Nat) : Int) by rw [Int.natCast_pow]; rfl, ← Int.ofNat_tdiv]
      exact (Int.ofNat_tmod _ 2).symm
    rw [e]
    simp only [h, decide_true, Bool.true_and, Int.toNat_natCast]
    rw [Nat.testBit_eq_decide_div_mod_eq]
    apply decide_eq_decide.2
    exact ⟨fun h => by exact_mod_cast h, fun h => by exact_mod_cast h⟩
  · have hd : decide (0 ≤ s) = false := by simpa using h
    rw [hd, Bool.false_and]
    have hle : s.tdiv ((2 : Int) ^ x) ≤ 0 := by
      have := Int.tdiv_nonneg (a := -s) (b := (2 : Int) ^ x) (by omega) (Int.le_of_lt (two_pow_pos x))
      rw [Int.neg_tdiv] at this; omega
    simp only [decide_eq_false_iff_not]
    intro hc
    have h2 := Int.tmod_nonneg (a := -(s.tdiv ((2 : Int) ^ x))) 2 (by omega)
    rw [Int.neg_tmod] at h2
    omega
theorem tdiv_in {s : Int} (h : inK .i64 s) (x : Nat) : inK .i64 (s.tdiv ((2 : Int) ^ x)) ∧ inK .i64 ((s.tdiv ((2 : Int) ^ x)).tmod 2) := by
  rw [inK_i64] at h
  have key : ∀ n : Nat, ((n : Int).tdiv ((2 : Int) ^ x)) ≤ n ∧ 0 ≤ ((n : Int).tdiv ((2 : Int) ^ x)) := by
    intro n
    rw [tdivN]
    have h := Nat.div_le_self n (2 ^ x)
    generalize n / 2 ^ x = q at h
    omega
  have hb : -9223372036854775808 ≤ s.tdiv ((2 : Int) ^ x) ∧ s.tdiv ((2 : Int) ^ x) ≤ 9223372036854775807 := by
    rcases Int.le_total 0 s with h0 | h0
    · obtain ⟨n, rfl⟩ := Int.eq_ofNat_of_zero_le h0
      have := key n; omega
    · obtain ⟨n, hn⟩ := Int.eq_ofNat_of_zero_le (show 0 ≤ -s by omega)
      have e : s = -(n : Int) := by omega
      have := key n
      rw [e, Int.neg_tdiv]; omega
  refine ⟨inK_i64.2 hb, inK_i64.2 ?_⟩
  generalize s.tdiv ((2 : Int) ^ x) = q at hb
  have := Int.tmod_two_eq q
  omega
theorem okBit : PlainOk Tryd.prog glT 35 cBit := by
  refine plain_of (CxOk.mk' Et_ok rfl mixed (gl := glT) GOk.nil GoOk.nil noIt) Tryd.func35 (c := Tryd.f35.body.getD .skip) (rvs := [(.tmp 4, .bool)]) (by kernel_rfl) (by kernel_rfl) (by kernel_rfl) ?_
  intro ds k ⟨hp, hk⟩ hwf
  obtain ⟨s, i, rfl, -⟩ := dest2 hp
  have hk : k [⟨.bool, bitB s i⟩] := hk
  have hs : inK .i64 s := (wf2 hwf).1
  have hi := inK_i64.1 ((wf2 hwf).2 : inK .i64 i)
  refine ⟨anBit s i, ?_⟩
  rw [vcBit]
  simp only [decide_eq_true_eq, decide_eq_false_iff_not, and_true, true_and, Bool.not_eq_true', Bool.not_eq_false', ne_eq]
  have ret : ∀ x : Nat, bitB s x = bitB s i → k [⟨.bool, decide ((s.tdiv ((2 : Int) ^ x)).tmod 2 = 1)⟩] := by
    intro x hx; rw [bit_of, hx]; exact hk
  refine ⟨⟨0, by omega, by simp, rfl⟩, fun x hx => ⟨fun h => ⟨fun h0 => ⟨by decide, ?_, by rw [inK_i64]; omega, x + 1, by omega, by omega, tdiv_pow s x, by omega⟩, fun h0 => ⟨by decide, (tdiv_in hs x).2, ret x ?_⟩⟩, fun h => ⟨by decide, (tdiv_in hs x).2, ret x ?_⟩⟩⟩
  · rw [tdiv_pow]; exact (tdiv_in hs (x + 1)).1
  · unfold bitB
    by_cases hs0 : 0 ≤ s
    · obtain ⟨n, hn⟩ := Int.eq_ofNat_of_zero_le hs0
      rw [hn, tdivN] at h0
      have h0' : n / 2 ^ x = 0 := by exact_mod_cast h0
      have hlt : n < 2 ^ x := by
        rcases Nat.lt_or_ge n (2 ^ x) with h | h
        · exact h
        · have := Nat.div_pos h (Nat.two_pow_pos x); omega
      have hf : ∀ j, x ≤ j → n.testBit j = false := fun j hj => Nat.testBit_lt_two_pow (Nat.lt_of_lt_of_le hlt (Nat.pow_le_pow_right (by decide) hj))
      have e1 : s.toNat = n := by rw [hn]; rfl
      rw [e1, hf _ (by rw [Int.toNat_natCast]; exact Nat.le_refl _), hf _ (by omega)]
    · have : decide (0 ≤ s) = false := by simpa using hs0
      rw [this]; rfl
  · have : (x : Int).toNat = i.toNat := by omega
    unfold bitB; rw [this]
theorem subN_fuel : ∀ (f g a : Nat) (b : Int), a ≤ f → a ≤ g → subN f a b = subN g a b := by
  intro f
  induction f with
  | zero =>
    intro g a b h1 h2
    have : a = 0 := by omega
    subst this
    cases g <;> simp [subN]
  | succ f ih =>
    intro g a b h1 h2
    cases g with
    | zero =>
      have : a = 0 := by omega
      subst this
      simp [subN]
    | succ g =>
      unfold subN
      by_cases h : a = 0
      · simp [h]
      · rw [if_neg h, if_neg h, ih g (a / 2) (b.tdiv 2) (by omega) (by omega)]
theorem subB_pos {a b : Int} (h : 0 < a) : subB a b = if a.tmod 2 = 1 ∧ b.tmod 2 = 0 then false else subB (a.tdiv 2) (b.tdiv 2) := by
  obtain ⟨n, rfl⟩ := Int.eq_ofNat_of_zero_le (Int.le_of_lt h)
  have hn : 0 < n := by omega
  have e1 : ((n : Int).tdiv 2) = ((n / 2 : Nat) : Int) := by simp
  have e2 : ((n : Int).tmod 2 = 1) ↔ n % 2 = 1 := by
    have : (n : Int).tmod 2 = ((n % 2 : Nat) : Int) := (Int.ofNat_tmod n 2).symm
    rw [this]; omega
  rw [e1]
  unfold subB
  simp only [Int.toNat_natCast, e2]
  obtain ⟨m, rfl⟩ : ∃ m, n = m + 1 := ⟨n - 1, by omega⟩
  rw [subN, if_neg (by omega)]
  rw [subN_fuel m ((m + 1) / 2) ((m + 1) / 2) _ (by omega) (Nat.le_refl _)]
theorem subB_neg {a b : Int} (h : ¬ 0 < a) : subB a b = true := by
  unfold subB
  have : a.toNat = 0 := by omega
  rw [this]; rfl
theorem half_in {q : Int} (h : inK .i64 q) : inK .i64 (q.tmod 2) ∧ inK .i64 (q.tdiv 2) := by
  have h1 := tdiv_in h 0
  have h2 := tdiv_in h 1
  simp only [Int.pow_zero, Int.tdiv_one] at h1
  rw [Int.pow_succ, Int.pow_zero, Int.one_mul] at h2
  exact ⟨h1.2, h2.1⟩
theorem okSub : PlainOk Tryd.prog glT 16 cSub := by
  refine plain_of (CxOk.mk' Et_ok rfl mixed (gl := glT) GOk.nil GoOk.nil noIt) Tryd.func16 (c := Tryd.f16.body.getD .skip) (rvs := [(.tmp 4, .bool)]) (by kernel_rfl) (by kernel_rfl) (by kernel_rfl) ?_
  intro ds k ⟨hp, hk⟩ hwf
  obtain ⟨a, b, rfl, -⟩ := dest2 hp
  have hk : k [⟨.bool, subB a b⟩] := hk
  have ha : inK .i64 a := (wf2 hwf).1
  have hb : inK .i64 b := (wf2 hwf).2
  refine ⟨anSub a b, ?_⟩
  rw [vcSub]
  simp only [decide_eq_true_eq, decide_eq_false_iff_not, and_true, true_and, ne_eq]
  have ret : ∀ x : Bool, subB a b = x → k [⟨.bool, x⟩] := by rintro _ rfl; exact hk
  have h20 : ¬ (2 : Int) = 0 := by decide
  refine ⟨⟨(a, b), ⟨rfl, ha, hb⟩, rfl, rfl⟩, fun x ⟨h1, h2, h3⟩ => ⟨fun h => ?_, fun h => ret _ (by rw [h1, subB_neg h])⟩⟩
  have hst := subB_pos (b := x.2) h
  have hlt : (x.1.tdiv 2).toNat < x.1.toNat := by
    obtain ⟨n, hn⟩ := Int.eq_ofNat_of_zero_le (Int.le_of_lt h)
    have e1 : (x.1.tdiv 2) = ((n / 2 : Nat) : Int) := by rw [hn]; simp
    rw [e1]; omega
  refine ⟨h20, (half_in h2).1, fun h4 => ⟨h20, (half_in h3).1, fun h5 => ret _ (by rw [h1, hst, if_pos ⟨h4, h5⟩]), fun h5 => ⟨h20, (half_in h2).2, h20, (half_in h3).2, (x.1.tdiv 2, x.2.tdiv 2), ⟨by rw [h1, hst, if_neg (fun h => h5 h.2)], (half_in h2).2, (half_in h3).2⟩, hlt, rfl, rfl⟩⟩,
    fun h4 => ⟨h20, (half_in h2).2, h20, (half_in h3).2, (x.1.tdiv 2, x.2.tdiv 2), ⟨by rw [h1, hst, if_neg (fun h => h4 h.1)], (half_in h2).2, (half_in h3).2⟩, hlt, rfl, rfl⟩⟩
theorem ints_vc (a b : List Int) (k : List Dat → Prop) (hl : a.length ≤ maxLen) (hk : k [⟨.bool, a == b⟩]) : vcF ⟨Et, [], glT, [], []⟩ (anInts a b) (Tryd.f29.body.getD .skip) Tryd.f29.ntmps [(.tmp 4, .bool)] [⟨.sl I, a⟩, ⟨.sl I, b⟩] k := by
  rw [vcInts]
  have hml : maxLen ≤ 9223372036854775807 := by decide
  simp only [decide_eq_true_eq, decide_eq_false_iff_not, and_true, true_and, Bool.not_eq_true', Bool.not_eq_false', Int.toNat_natCast, inK_i64]
  have ret : ∀ x : Bool, (a == b) = x → k [⟨.bool, x⟩] := by rintro _ rfl; exact hk
  refine ⟨fun h => ret _ ?_, fun h => ⟨⟨0, ⟨by omega, rfl⟩, rfl⟩, fun x ⟨hx, ht⟩ => ⟨fun hlt => ⟨by omega, hlt, by omega, by omega, fun hne => ret _ ?_, fun he => ⟨by omega, x + 1, ⟨by omega, ?_⟩, by omega, by omega⟩⟩, fun hge => ret _ ?_⟩⟩⟩
  · simp only [beq_eq_false_iff_ne, ne_eq]; intro he; exact h (by rw [he])
  · simp only [beq_eq_false_iff_ne, ne_eq]; intro h; exact hne (by rw [h])
  · have h1 : x < a.length := by omega
    have h2 : x < b.length := by omega
    rw [List.take_add_one, List.take_add_one, ht]
    rw [List.getD_eq_getElem?_getD, List.getD_eq_getElem?_getD, List.getElem?_eq_getElem h1, List.getElem?_eq_getElem h2] at he
    rw [List.getElem?_eq_getElem h1, List.getElem?_eq_getElem h2]
    simp only [Option.getD_some] at he
    rw [he]
  · have h1 : x = a.length := by omega
    rw [h1, List.take_length, List.take_of_length_le (by omega)] at ht
    simp [ht]
theorem okInts : PlainOk Tryd.prog glT 29 cInts := by
  refine plain_of (CxOk.mk' Et_ok rfl mixed (gl := glT) GOk.nil GoOk.nil noIt) Tryd.func29 (c := Tryd.f29.body.getD .skip) (rvs := [(.tmp 4, .bool)]) (by kernel_rfl) (by kernel_rfl) (by kernel_rfl) ?_
  intro ds k ⟨hp, hk⟩ hwf
  obtain ⟨a, b, rfl, -⟩ := dest2 hp
  exact ⟨anInts a b, ints_vc a b k (wf2 hwf).1.1 hk⟩
theorem bit_or2 {a j k : Nat} : (a ||| 2 ^ j).testBit k = true ↔ a.testBit k = true ∨ k = j := by
  rw [Nat.testBit_or, Nat.testBit_two_pow, Bool.or_eq_true, decide_eq_true_eq]
  exact ⟨fun h => h.imp id Eq.symm, fun h => h.imp id Eq.symm⟩
theorem tb_succ (a k : Nat) : a.testBit (k + 1) = (a / 2).testBit k := Nat.testBit_succ a k
theorem tb_zero (a : Nat) : a.testBit 0 = decide (a % 2 = 1) := Nat.testBit_zero a

theorem subN_iff : ∀ (f a b : Nat), a ≤ f → (subN f a (b : Int) = true ↔ ∀ k, a.testBit k = true → b.testBit k = true) := by
  intro f
  induction f with
  | zero =>
    intro a b h
    have : a = 0 := by omega
    subst this
    simp [subN]
  | succ f ih =>
    intro a b h
    unfold subN
    by_cases h0 : a = 0
    · subst h0; simp
    · rw [if_neg h0]
      have e1 : (b : Int).tmod 2 = ((b % 2 : Nat) : Int) := (Int.ofNat_tmod b 2).symm
      have e2 : (b : Int).tdiv 2 = ((b / 2 : Nat) : Int) := (Int.ofNat_tdiv b 2).symm
      rw [e1, e2]
      by_cases hc : a % 2 = 1 ∧ ((b % 2 : Nat) : Int) = 0
      · rw [if_pos hc]
        simp only [Bool.false_eq_true, false_iff]
        intro hall
        have := hall 0 (by rw [tb_zero]; simp [hc.1])
        rw [tb_zero, decide_eq_true_eq] at this
        have := hc.2
        omega
      · rw [if_neg hc, ih (a / 2) (b / 2) (by omega)]
        constructor
        · intro hall k hk
          cases k with
          | zero =>
            rw [tb_zero, decide_eq_true_eq] at hk
            rw [tb_zero, decide_eq_true_eq]
            rcases Nat.mod_two_eq_zero_or_one b with hb | hb
            · exact absurd ⟨hk, by rw [hb]; rfl⟩ hc
            · exact hb
          | succ k => rw [tb_succ] at hk ⊢; exact hall k hk
        · intro hall k hk
          rw [← tb_succ] at hk ⊢
          exact hall (k + 1) hk

theorem subB_iff (a b : Nat) : subB (a : Int) (b : Int) = true ↔ ∀ k, a.testBit k = true → b.testBit k = true := subN_iff a a b (Nat.le_refl _)
theorem bitB_nat (a k : Nat) : bitB (a : Int) (k : Int) = a.testBit k := by
  unfold bitB
  simp
end Go.Proofs.YtlopkkoenfngiaaDoor

/- Quorums: checks, sets in sets, what is among what. -/
namespace Go.Proofs.YtlopkkoenfngiaaDoor
open Go.Vc

theorem getD_at {l : List Int} {i : Nat} (h : i < l.length) : l.getD i 0 = l[i] := by
  rw [List.getD_eq_getElem?_getD, List.getElem?_eq_getElem h]; rfl
theorem take_snoc {l : List Int} {i : Nat} (h : i < l.length) : l.take (i + 1) = l.take i ++ [l.getD i 0] := by
  rw [List.take_add_one, List.getElem?_eq_getElem h, getD_at h]; rfl
theorem getD_mem {l : List Int} {i : Nat} (h : i < l.length) : l.getD i 0 ∈ l := by
  rw [getD_at h]; exact List.getElem_mem h

theorem both_step (a b x : Nat) : (a &&& b) % 2 ^ (x + 1) = (a &&& b) % 2 ^ x + (if a.testBit x = true ∧ b.testBit x = true then 2 ^ x else 0) := by
  have h : (a.testBit x = true ∧ b.testBit x = true) ↔ (a &&& b) / 2 ^ x % 2 = 1 := by
    have := Nat.testBit_and a b x
    rw [Nat.testBit_eq_decide_div_mod_eq] at this
    rw [← Bool.and_eq_true, ← this, decide_eq_true_eq]
  rw [Nat.mod_pow_succ]
  by_cases hb : (a &&& b) / 2 ^ x % 2 = 1
  · rw [if_pos (h.2 hb), hb, Nat.mul_one]
  · have h0 : (a &&& b) / 2 ^ x % 2 = 0 := by omega
    rw [if_neg (fun e => hb (h.1 e)), h0, Nat.mul_zero]

theorem tmod_bit (n x : Nat) : (((n : Int).tdiv ((2 : Int) ^ x)).tmod 2 = 1) ↔ n.testBit x = true := by
  have h := bit_of (s := (n : Int)) (x := x)
  rw [bitB_nat] at h
  constructor
  · intro e; rw [← h]; exact decide_eq_true e
  · intro e; rw [e] at h; exact of_decide_eq_true h

theorem okBoth : PlainOk Tryd.prog glT 15 cBoth := by
  refine plain_of (CxOk.mk' Et_ok rfl mixed (gl := glT) GOk.nil GoOk.nil noIt) Tryd.func15 (c := Tryd.f15.body.getD .skip) (rvs := [(.tmp 4, I)]) (by kernel_rfl) (by kernel_rfl) (by kernel_rfl) ?_
  intro ds k ⟨hp, hk⟩ hwf
  obtain ⟨a, b, rfl, ha61, -⟩ := dest2 hp
  have hk : k [⟨I, ((a.toNat &&& b.toNat : Nat) : Int)⟩] := hk
  have ha : inK .i64 a := (wf2 hwf).1
  have hb : inK .i64 b := (wf2 hwf).2
  have hbi := inK_i64.1 hb
  refine ⟨anBoth a b, ?_⟩
  rw [vcBoth]
  simp only [decide_eq_true_eq, decide_eq_false_iff_not, and_true, true_and, ne_eq]
  have h20 : ¬ (2 : Int) = 0 := by decide
  have fin : ∀ (s : Int) (x : Nat), ¬ 0 < s.tdiv ((2 : Int) ^ x) → s.toNat < 2 ^ x := by
    intro s x h
    by_cases hs : 0 ≤ s
    · obtain ⟨n, rfl⟩ := Int.eq_ofNat_of_zero_le hs
      rw [tdivN] at h
      have h0 : n / 2 ^ x = 0 := by
        generalize n / 2 ^ x = q at h
        omega
      rcases Nat.lt_or_ge n (2 ^ x) with h | h
      · exact h
      · have := Nat.div_pos h (Nat.two_pow_pos x); omega
    · have : s.toNat = 0 := by omega
      rw [this]; exact Nat.two_pow_pos x
  have fink : ∀ x : Nat, (a.toNat &&& b.toNat) < 2 ^ x → k [⟨I, (((a.toNat &&& b.toNat) % 2 ^ x : Nat) : Int)⟩] := by
    intro x h; rw [Nat.mod_eq_of_lt h]; exact hk
  refine ⟨⟨0, by omega, by simp, by simp, by simp [Nat.mod_one], rfl⟩, fun x hx => ⟨fun hA => ⟨fun hB => ?_, fun hB => fink x (Nat.lt_of_le_of_lt Nat.and_le_right (fin b x hB))⟩, fun hA => fink x (Nat.lt_of_le_of_lt Nat.and_le_left (fin a x hA))⟩⟩
  have hpos := two_pow_pos x
  have hapos : 0 ≤ a := by
    refine Int.not_lt.1 fun hneg => ?_
    have := Int.tdiv_nonneg (a := -a) (b := (2 : Int) ^ x) (by omega) (by omega)
    rw [Int.neg_tdiv] at this; omega
  have hbpos : 0 ≤ b := by
    refine Int.not_lt.1 fun hneg => ?_
    have := Int.tdiv_nonneg (a := -b) (b := (2 : Int) ^ x) (by omega) (by omega)
    rw [Int.neg_tdiv] at this; omega
  obtain ⟨m, rfl⟩ := Int.eq_ofNat_of_zero_le hapos
  obtain ⟨n, rfl⟩ := Int.eq_ofNat_of_zero_le hbpos
  simp only [Int.toNat_natCast] at *
  have hx60 : x ≤ 60 := by
    rcases Nat.lt_or_ge x 61 with h | h
    · omega
    · rw [tdivN] at hA
      have h61 : (2 : Nat) ^ 61 = 2305843009213693952 := by decide
      have hpw : 2 ^ 61 ≤ 2 ^ x := Nat.pow_le_pow_right (by decide) h
      have hm61 : m < 2 ^ 61 := by rw [h61]; omega
      have h0 : m / 2 ^ x = 0 := Nat.div_eq_of_lt (Nat.lt_of_lt_of_le hm61 hpw)
      rw [h0] at hA
      exact absurd hA (by decide)
  have hp2 : (2 : Int) ^ x * 2 = 2 ^ (x + 1) := by rw [Int.pow_succ]
  have hple := two_pow_le (n := x + 1) (by omega)
  have hplx : (2 : Int) ^ x ≤ 2 ^ (x + 1) := by rw [← hp2]; omega
  have hcast : ((2 ^ x : Nat) : Int) = (2 : Int) ^ x := by rw [Int.natCast_pow]; rfl
  have hmod : (((m &&& n) % 2 ^ x : Nat) : Int) < (2 : Int) ^ x := by
    rw [← hcast]; exact Int.ofNat_lt.2 (Nat.mod_lt _ (Nat.two_pow_pos x))
  have hst := both_step m n x
  have nxt : ∀ v : Int, (v = (((m &&& n) % 2 ^ (x + 1) : Nat) : Int)) → ¬(2 : Int) = 0 ∧ inK .i64 (((m : Int).tdiv ((2 : Int) ^ x)).tdiv 2) ∧ ¬(2 : Int) = 0 ∧ inK .i64 (((n : Int).tdiv ((2 : Int) ^ x)).tdiv 2) ∧ inK .i64 ((2 : Int) ^ x * 2) ∧ ∃ x_1 : Nat, x_1 ≤ 61 ∧ 62 - x_1 < 62 - x ∧ ((m : Int).tdiv ((2 : Int) ^ x)).tdiv 2 = (m : Int).tdiv ((2 : Int) ^ x_1) ∧
      ((n : Int).tdiv ((2 : Int) ^ x)).tdiv 2 = (n : Int).tdiv ((2 : Int) ^ x_1) ∧ v = (((m &&& n) % 2 ^ x_1 : Nat) : Int) ∧ (2 : Int) ^ x * 2 = 2 ^ x_1 := by
    intro v hv
    refine ⟨h20, by rw [tdiv_pow]; exact (tdiv_in ha (x + 1)).1, h20, by rw [tdiv_pow]; exact (tdiv_in hb (x + 1)).1, inK_i64.2 (by rw [hp2]; omega), x + 1, by omega, by omega, tdiv_pow _ _, tdiv_pow _ _, hv, hp2⟩
  refine ⟨h20, (tdiv_in ha x).2, fun hAb => ⟨h20, (tdiv_in hb x).2, fun hBb => ⟨inK_i64.2 (by omega), nxt _ ?_⟩, fun hBb => nxt _ ?_⟩, fun hAb => nxt _ ?_⟩
  · rw [tmod_bit] at hAb hBb
    rw [hst, if_pos ⟨hAb, hBb⟩]
    omega
  · rw [tmod_bit] at hBb
    rw [hst, if_neg (fun h => hBb h.2)]; rfl
  · rw [tmod_bit] at hAb
    rw [hst, if_neg (fun h => hAb h.1)]; rfl

theorem okMask : PlainOk Tryd.prog glT 43 cMask := by
  refine plain_of (CxOk.mk' Et_ok rfl mixed (gl := glT) GOk.nil GoOk.nil noIt) Tryd.func43 (c := Tryd.f43.body.getD .skip) (rvs := [(.tmp 4, .bool)]) (by kernel_rfl) (by kernel_rfl) (by kernel_rfl) ?_
  intro ds k ⟨hp, hk⟩ hwf
  obtain ⟨s, n, rfl, h0, h61⟩ := dest2 hp
  have hk : k [⟨.bool, maskB s n⟩] := hk
  refine ⟨[joinAll], ?_⟩
  rw [vcMask]
  have hp1 := two_pow_le (n := n.toNat) (by omega)
  have hp2 := two_pow_pos n.toNat
  rw [Int.one_mul]
  unfold maskB at hk
  refine ⟨fun h => ⟨h0, by omega, rfl, inK_i64.2 (by omega), ?_⟩, fun h => ?_⟩
  · rw [h, Bool.true_and] at hk; exact hk
  · rw [h, Bool.false_and] at hk; exact hk

theorem okHas1 : PlainOk Tryd.prog glT 56 cHas1 := by
  refine plain_of (CxOk.mk' Et_ok rfl mixed (gl := glT) GOk.nil GoOk.nil noIt) Tryd.func56 (c := Tryd.f56.body.getD .skip) (rvs := [(.tmp 3, .bool)]) (by kernel_rfl) (by kernel_rfl) (by kernel_rfl) ?_
  intro ds k ⟨hp, hk⟩ hwf
  obtain ⟨s, p, rfl, h0, v, rfl, hv⟩ := dest2 hp
  have hk : k [⟨.bool, subS s v⟩] := hk
  refine ⟨[], ?_⟩
  rw [vcHas1]
  exact ⟨h0, hv, hk⟩

theorem okLeast1 : PlainOk Tryd.prog glT 46 cLeast1 := by
  refine plain_of (CxOk.mk' Et_ok rfl mixed (gl := glT) GOk.nil GoOk.nil noIt) Tryd.func46 (c := Tryd.f46.body.getD .skip) (rvs := [(.tmp 3, .bool)]) (by kernel_rfl) (by kernel_rfl) (by kernel_rfl) ?_
  intro ds k ⟨hp, hk⟩ hwf
  obtain ⟨s, p, rfl, h0, v, rfl, hv⟩ := dest2 hp
  have hk : k [⟨.bool, lstB v s⟩] := hk
  refine ⟨[joinAll], ?_⟩
  rw [vcLeast1]
  unfold lstB at hk
  refine ⟨fun h => ⟨h0, hv, ?_⟩, fun h => ?_⟩
  · rw [h, Bool.true_and] at hk; exact hk
  · rw [h, Bool.false_and] at hk; exact hk

theorem idxP_at {p : Int → Bool} {l : List Int} {x : Nat} (h : x < l.length) (i : Int) : idxP p (l.drop x) i = if p (l.getD x 0) = true then i else idxP p (l.drop (x + 1)) (i + 1) := by
  rw [List.drop_eq_getElem_cons h, getD_at h]; rfl
theorem idxP_any (p : Int → Bool) : ∀ (l : List Int) (i : Int), 0 ≤ i → decide (0 ≤ idxP p l i) = l.any p := by
  intro l
  induction l with
  | nil => intro i _; rfl
  | cons a r ih =>
    intro i hi
    rw [List.any_cons]
    unfold idxP
    cases h : p a with
    | true => simp [hi]
    | false => simp [ih (i + 1) (by omega)]

theorem okIdxA : PlainOk Tryd.prog glT 58 (cIdxF 56 fun v s => subS s v) := by
  refine plain_of (CxOk.mk' Et_ok rfl mixed (gl := glT) (GOk.cons okHas1 Tryd.func56 (by kernel_rfl) (by kernel_rfl) GOk.nil) GoOk.nil noIt) Tryd.func58 (c := Tryd.f58.body.getD .skip) (rvs := [(.tmp 4, I)]) (by kernel_rfl) (by kernel_rfl) (by kernel_rfl) ?_
  intro ds k ⟨hp, hk⟩ hwf
  obtain ⟨l, f, rfl, ⟨v, rfl, hv⟩, hl⟩ := dest2 hp
  have hk : k [⟨I, idxP (fun s => subS s v) l 0⟩] := hk
  have hml : maxLen ≤ 9223372036854775807 := by decide
  have hlen : l.length ≤ maxLen := (wf2 hwf).1.1
  refine ⟨anIdx (fun s => subS s v) l, ?_⟩
  rw [vcIdxA]
  simp only [decide_eq_true_eq, decide_eq_false_iff_not, and_true, true_and, Int.toNat_natCast]
  refine ⟨⟨0, ⟨by omega, rfl⟩, rfl⟩, fun x ⟨hx, he⟩ => ⟨fun hlt => ?_, fun hge => ?_⟩⟩
  · have hxl : x < l.length := by omega
    rw [idxP_at hxl] at he
    refine ⟨by omega, hlt, ⟨hl _ (getD_mem hxl), v, rfl, hv⟩, fun hb => ?_, fun hb => ⟨inK_i64.2 (by omega), x + 1, ⟨by omega, ?_⟩, by omega, by omega⟩⟩
    · rw [he, if_pos hb] at hk; exact hk
    · rw [he, if_neg (by rw [hb]; decide)]; rfl
  · have : x = l.length := by omega
    subst this
    rw [he, List.drop_length] at hk
    exact hk

theorem okIdxB : PlainOk Tryd.prog glT 58 (cIdxF 46 lstB) := by
  refine plain_of (CxOk.mk' Et2_ok rfl mixed (gl := glT) (GOk.cons okLeast1 Tryd.func46 (by kernel_rfl) (by kernel_rfl) GOk.nil) GoOk.nil noIt) Tryd.func58 (c := Tryd.f58.body.getD .skip) (rvs := [(.tmp 4, I)]) (by kernel_rfl) (by kernel_rfl) (by kernel_rfl) ?_
  intro ds k ⟨hp, hk⟩ hwf
  obtain ⟨l, f, rfl, ⟨v, rfl, hv⟩, hl⟩ := dest2 hp
  have hk : k [⟨I, idxP (lstB v) l 0⟩] := hk
  have hml : maxLen ≤ 9223372036854775807 := by decide
  have hlen : l.length ≤ maxLen := (wf2 hwf).1.1
  refine ⟨anIdx (lstB v) l, ?_⟩
  rw [vcIdxB]
  simp only [decide_eq_true_eq, decide_eq_false_iff_not, and_true, true_and, Int.toNat_natCast]
  refine ⟨⟨0, ⟨by omega, rfl⟩, rfl⟩, fun x ⟨hx, he⟩ => ⟨fun hlt => ?_, fun hge => ?_⟩⟩
  · have hxl : x < l.length := by omega
    rw [idxP_at hxl] at he
    refine ⟨by omega, hlt, ⟨hl _ (getD_mem hxl), v, rfl, hv⟩, fun hb => ?_, fun hb => ⟨inK_i64.2 (by omega), x + 1, ⟨by omega, ?_⟩, by omega, by omega⟩⟩
    · rw [he, if_pos hb] at hk; exact hk
    · rw [he, if_neg (by rw [hb]; decide)]; rfl
  · have : x = l.length := by omega
    subst this
    rw [he, List.drop_length] at hk
    exact hk

theorem okConA : PlainOk Tryd.prog glT 45 (cConF 56 fun v s => subS s v) := by
  refine plain_of (CxOk.mk' Et_ok rfl mixed (gl := glT) (GOk.cons okIdxA Tryd.func58 (by kernel_rfl) (by kernel_rfl) GOk.nil) GoOk.nil noIt) Tryd.func45 (c := Tryd.f45.body.getD .skip) (rvs := [(.tmp 4, .bool)]) (by kernel_rfl) (by kernel_rfl) (by kernel_rfl) ?_
  intro ds k ⟨hp, hk⟩ hwf
  obtain ⟨l, f, rfl, ⟨v, rfl, hv⟩, hl⟩ := dest2 hp
  have hk : k [⟨.bool, l.any fun s => subS s v⟩] := hk
  refine ⟨[], ?_⟩
  rw [vcConA, idxP_any _ _ _ (by decide)]
  exact ⟨⟨⟨v, rfl, hv⟩, hl⟩, hk⟩
theorem okConB : PlainOk Tryd.prog glT 45 (cConF 46 lstB) := by
  refine plain_of (CxOk.mk' Et2_ok rfl mixed (gl := glT) (GOk.cons okIdxB Tryd.func58 (by kernel_rfl) (by kernel_rfl) GOk.nil) GoOk.nil noIt) Tryd.func45 (c := Tryd.f45.body.getD .skip) (rvs := [(.tmp 4, .bool)]) (by kernel_rfl) (by kernel_rfl) (by kernel_rfl) ?_
  intro ds k ⟨hp, hk⟩ hwf
  obtain ⟨l, f, rfl, ⟨v, rfl, hv⟩, hl⟩ := dest2 hp
  have hk : k [⟨.bool, l.any (lstB v)⟩] := hk
  refine ⟨[], ?_⟩
  rw [vcConB, idxP_any _ _ _ (by decide)]
  exact ⟨⟨⟨v, rfl, hv⟩, hl⟩, hk⟩

theorem okHas0 : PlainOk Tryd.prog glT 42 cHas0 := by
  refine plain_of (CxOk.mk' Et_ok rfl mixed (gl := glT) (GOk.cons okConA Tryd.func45 (by kernel_rfl) (by kernel_rfl) GOk.nil) GoOk.nil noIt) Tryd.func42 (c := Tryd.f42.body.getD .skip) (rvs := [(.tmp 4, .bool)]) (by kernel_rfl) (by kernel_rfl) (by kernel_rfl) ?_
  intro ds k ⟨hp, hk⟩ hwf
  obtain ⟨l, v, rfl, hv, hl⟩ := dest2 hp
  have hk : k [⟨.bool, hasB l v⟩] := hk
  refine ⟨anHas0, ?_⟩
  rw [vcHas0]
  exact ⟨⟨⟨v, rfl, hv⟩, hl⟩, hk⟩

theorem okIdx : PlainOk Tryd.prog glT 57 cIdx := by
  refine plain_of (CxOk.mk' Et_ok rfl mixed (gl := glT) GOk.nil GoOk.nil noIt) Tryd.func57 (c := Tryd.f57.body.getD .skip) (rvs := [(.tmp 4, I)]) (by kernel_rfl) (by kernel_rfl) (by kernel_rfl) ?_
  intro ds k ⟨hp, hk⟩ hwf
  obtain ⟨l, v, rfl, -⟩ := dest2 hp
  have hk : k [⟨I, idxP (fun s => decide (v = s)) l 0⟩] := hk
  have hml : maxLen ≤ 9223372036854775807 := by decide
  have hlen : l.length ≤ maxLen := (wf2 hwf).1.1
  refine ⟨anIdx (fun s => decide (v = s)) l, ?_⟩
  rw [vcIdx]
  simp only [decide_eq_true_eq, decide_eq_false_iff_not, and_true, true_and, Int.toNat_natCast]
  refine ⟨⟨0, ⟨by omega, rfl⟩, rfl⟩, fun x ⟨hx, he⟩ => ⟨fun hlt => ?_, fun hge => ?_⟩⟩
  · have hxl : x < l.length := by omega
    rw [idxP_at hxl] at he
    refine ⟨by omega, hlt, fun hb => ?_, fun hb => ⟨inK_i64.2 (by omega), x + 1, ⟨by omega, ?_⟩, by omega, by omega⟩⟩
    · rw [he, if_pos (decide_eq_true hb)] at hk; exact hk
    · rw [he, if_neg (by rw [decide_eq_false hb]; decide)]; rfl
  · have : x = l.length := by omega
    subst this
    rw [he, List.drop_length] at hk
    exact hk
theorem okCon : PlainOk Tryd.prog glT 44 cCon := by
  refine plain_of (CxOk.mk' Et_ok rfl mixed (gl := glT) (GOk.cons okIdx Tryd.func57 (by kernel_rfl) (by kernel_rfl) GOk.nil) GoOk.nil noIt) Tryd.func44 (c := Tryd.f44.body.getD .skip) (rvs := [(.tmp 4, .bool)]) (by kernel_rfl) (by kernel_rfl) (by kernel_rfl) ?_
  intro ds k ⟨hp, hk⟩ hwf
  obtain ⟨l, v, rfl, -⟩ := dest2 hp
  have hk : k [⟨.bool, l.any fun s => decide (v = s)⟩] := hk
  refine ⟨[], ?_⟩
  rw [vcCon, idxP_any _ _ _ (by decide)]
  exact ⟨trivial, hk⟩
end Go.Proofs.YtlopkkoenfngiaaDoor

/- Quorums: what is wrong with sets; the least ones; whether they are full. -/
namespace Go.Proofs.YtlopkkoenfngiaaDoor
open Go.Vc

theorem setsE_at {n : Int} {l : List Int} {x : Nat} (h : x < l.length) : setsE n l (l.length - x) x = if setE n l x = 0 then setsE n l (l.length - (x + 1)) (x + 1) else setE n l x := by
  obtain ⟨m, hm⟩ : ∃ m, l.length - x = m + 1 := ⟨l.length - x - 1, by omega⟩
  rw [hm, show l.length - (x + 1) = m by omega]; rfl

theorem check_vc (n : Int) (l : List Int) (k : List Dat → Prop) (hk : k [⟨tErr, chkS n l⟩]) :
    vcF ⟨Et, [(39, cWithin), (43, cMask)], glT, [], []⟩ (anCheck n l) (Tryd.f20.body.getD .skip) Tryd.f20.ntmps [(.tmp 4, tErr)] [⟨I, n⟩, ⟨.sl I, l⟩] k := by
  rw [vcCheck]
  simp only [decide_eq_true_eq, decide_eq_false_iff_not, and_true, true_and, Bool.not_eq_true', Bool.not_eq_false', Int.toNat_natCast]
  have ret : ∀ e : Int, chkS n l = e → k [⟨tErr, e⟩] := by rintro e rfl; exact hk
  refine ⟨fun h => ⟨by decide, ret 1 ?_⟩, fun h => ⟨fun h0 => ⟨by decide, ret 5 ?_⟩, fun h0 => ⟨fun h2 => ⟨by decide, ret 4 ?_⟩, fun h2 => ?_⟩⟩⟩
  · unfold chkS; rw [if_pos h]
  · unfold chkS; rw [if_neg (by rw [h]; decide), if_pos (by omega)]
  · unfold chkS; rw [if_neg (by rw [h]; decide), if_neg (by omega), if_pos (by omega)]
  · have hn : 1 ≤ n ∧ n ≤ 8 := by unfold inB at h; simpa using h
    have hst : chkS n l = setsE n l (l.length - 0) 0 := by unfold chkS; rw [if_neg (by rw [h]; decide), if_neg (by omega), if_neg (by omega)]; rfl
    refine ⟨⟨0, ⟨hst, by omega, h, fun j hj => by omega⟩, by omega⟩, fun x ⟨hx1, hx2, _, hx3⟩ => ⟨fun hlt => ?_, fun hge => ret 0 ?_⟩⟩
    · have hxl : x < l.length := by omega
      have hx1' := hx1
      rw [setsE_at hxl] at hx1'
      have bad : setE n l x ≠ 0 → chkS n l = setE n l x := fun h => by rw [hx1', if_neg h]
      refine ⟨by omega, hlt, ⟨by omega, by omega⟩, fun hm => ⟨by decide, ret 1 ?_⟩, fun hm => ⟨fun h0 => ⟨by decide, ret 3 ?_⟩, fun h0 => ⟨by omega, by omega, by omega, ⟨0, ⟨by omega, fun t ht => by simp at ht⟩, by omega⟩, fun y ⟨hy, hall⟩ => ⟨fun hlt2 => ?_, fun hge2 => ?_⟩⟩⟩⟩
      · have e : setE n l x = 1 := by unfold setE; rw [if_pos hm]
        rw [bad (by rw [e]; decide), e]
      · have e : setE n l x = 3 := by unfold setE; rw [if_neg (by rw [hm]; decide), if_pos h0]
        rw [bad (by rw [e]; decide), e]
      · have htl : (List.drop (Int.toNat 0) (List.take x l)) = List.take x l := rfl
        rw [htl] at hlt2 ⊢
        have hylt : y < (l.take x).length := by omega
        have hlx : (l.take x).length = x := by rw [List.length_take]; omega
        have hmm : ∀ j, j ≤ x → j < l.length → maskB (l.getD j 0) n = true := by
          intro j hj hjl
          rcases Nat.lt_or_ge j x with h1 | h1
          · have := hx3 j h1
            unfold setE at this
            split at this
            · cases this
            · rename_i h3; simpa using h3
          · have : j = x := by omega
            subst this; exact hm
        have pos : ∀ j, j ≤ x → j < l.length → 0 ≤ l.getD j 0 := by
          intro j h1 h2
          have := hmm j h1 h2
          unfold maskB at this
          simp only [Bool.and_eq_true, decide_eq_true_eq] at this
          exact this.1
        have hty : (l.take x).getD y 0 = l.getD y 0 := by
          rw [getD_at hylt, getD_at (by omega), List.getElem_take]
        refine ⟨by omega, hlt2, pos x (Nat.le_refl _) hxl, by rw [hty]; exact pos y (by omega) (by omega), fun hc => ⟨by decide, ret 6 ?_⟩, fun hc => ⟨inK_i64.2 (by omega), y + 1, ⟨by omega, fun t ht => ?_⟩, by omega, by omega⟩⟩
        · have hno : (l.take x).all (fun t => meetB (l.getD x 0) t) = false := by
            cases hcase : (l.take x).all (fun t => meetB (l.getD x 0) t) with
            | false => rfl
            | true =>
              have := List.all_eq_true.1 hcase _ (getD_mem hylt)
              unfold meetB at this
              exact absurd hc (of_decide_eq_true this)
          have e : setE n l x = 6 := by unfold setE; rw [if_neg (by rw [hm]; decide), if_neg h0, if_neg (by rw [hno]; decide)]
          rw [bad (by rw [e]; decide), e]
        · rw [take_snoc hylt] at ht
          rcases List.mem_append.1 ht with ht | ht
          · exact hall t ht
          · rw [List.mem_singleton.1 ht]
            exact decide_eq_true hc
      · have hlx : (l.take x).length = x := by rw [List.length_take]; omega
        have htl : (List.drop (Int.toNat 0) (List.take x l)) = List.take x l := rfl
        rw [htl] at hge2
        have hyx : y = (l.take x).length := by omega
        rw [hyx, List.take_length] at hall
        have e : setE n l x = 0 := by unfold setE; rw [if_neg (by rw [hm]; decide), if_neg h0, if_pos (List.all_eq_true.2 hall)]
        refine ⟨inK_i64.2 (by omega), x + 1, ⟨by rw [hx1', if_pos e], by omega, h, fun j hj => ?_⟩, by omega, by omega⟩
        rcases Nat.lt_or_ge j x with h1 | h1
        · exact hx3 j h1
        · have : j = x := by omega
          subst this; exact e
    · have : x = l.length := by omega
      rw [hx1, this, Nat.sub_self]; rfl

theorem okCheck : PlainOk Tryd.prog glT 20 cCheck := by
  refine plain_of (CxOk.mk' Et_ok rfl mixed (gl := glT) (GOk.cons okWithin Tryd.func39 (by kernel_rfl) (by kernel_rfl) (GOk.cons okMask Tryd.func43 (by kernel_rfl) (by kernel_rfl) GOk.nil)) GoOk.nil noIt) Tryd.func20 (c := Tryd.f20.body.getD .skip) (rvs := [(.tmp 4, tErr)]) (by kernel_rfl) (by kernel_rfl) (by kernel_rfl) ?_
  intro ds k ⟨hp, hk⟩ hwf
  obtain ⟨n, l, rfl, -⟩ := dest2 hp
  exact ⟨anCheck n l, check_vc n l k hk⟩

/-- Sets with which nothing is wrong. -/
structure Sets (n : Int) (l : List Int) : Prop where
  rng : 1 ≤ n ∧ n ≤ 8
  len : 0 < l.length ∧ l.length ≤ 20
  mem : ∀ s ∈ l, 0 < s ∧ s < 2 ^ n.toNat
  meet : ∀ s ∈ l, ∀ t ∈ l, s.toNat &&& t.toNat ≠ 0

theorem setsE_zero {n : Int} {l : List Int} : ∀ {f i : Nat}, setsE n l f i = 0 → ∀ j, i ≤ j → j < i + f → setE n l j = 0 := by
  intro f
  induction f with
  | zero => intro i _ j h1 h2; omega
  | succ f ih =>
    intro i h j h1 h2
    unfold setsE at h
    split at h
    · rename_i h0
      by_cases hj : j = i
      · rw [hj]; exact h0
      · exact ih h j (by omega) (by omega)
    · rename_i h0; exact absurd h h0

theorem setE_zero {n : Int} {l : List Int} {i : Nat} (h : setE n l i = 0) : (0 < l.getD i 0 ∧ l.getD i 0 < 2 ^ n.toNat) ∧ ∀ t ∈ l.take i, (l.getD i 0).toNat &&& t.toNat ≠ 0 := by
  unfold setE at h
  split at h
  · exact absurd h (by decide)
  · rename_i h1
    split at h
    · exact absurd h (by decide)
    · rename_i h2
      split at h
      · rename_i h3
        have hm : maskB (l.getD i 0) n = true := by simpa using h1
        unfold maskB at hm
        simp only [Bool.and_eq_true, decide_eq_true_eq] at hm
        refine ⟨⟨by omega, hm.2⟩, fun t ht => ?_⟩
        have := of_decide_eq_true (List.all_eq_true.1 h3 t ht)
        omega
      · exact absurd h (by decide)

theorem sets_of {n : Int} {l : List Int} (h : chkS n l = 0) : Sets n l := by
  unfold chkS at h
  split at h
  · exact absurd h (by decide)
  rename_i h1
  split at h
  · exact absurd h (by decide)
  rename_i h2
  split at h
  · exact absurd h (by decide)
  rename_i h3
  have hz : ∀ j, j < l.length → setE n l j = 0 := fun j hj => setsE_zero h j (by omega) (by omega)
  have hn : 1 ≤ n ∧ n ≤ 8 := by
    have : inB n 1 8 = true := by simpa using h1
    unfold inB at this; simpa using this
  have hmem : ∀ s ∈ l, 0 < s ∧ s < 2 ^ n.toNat := by
    intro s hs
    obtain ⟨i, hi, rfl⟩ := List.getElem_of_mem hs
    rw [← getD_at hi]
    exact (setE_zero (hz i hi)).1
  refine ⟨hn, ⟨by omega, by omega⟩, hmem, fun s hs t ht => ?_⟩
  obtain ⟨i, hi, rfl⟩ := List.getElem_of_mem hs
  obtain ⟨j, hj, rfl⟩ := List.getElem_of_mem ht
  rcases Nat.lt_trichotomy i j with h | h | h
  · have := (setE_zero (hz j hj)).2 l[i] (List.mem_take_iff_getElem.2 ⟨i, by omega, rfl⟩)
    rw [getD_at hj, Nat.and_comm] at this; exact this
  · subst h
    have := hmem _ hs
    rw [Nat.and_self]
    omega
  · have := (setE_zero (hz i hi)).2 l[j] (List.mem_take_iff_getElem.2 ⟨j, by omega, rfl⟩)
    rw [getD_at hi] at this; exact this

theorem mask_of {n v : Int} (h : maskB v n = true) : 0 ≤ v ∧ v < 2 ^ n.toNat := by
  unfold maskB at h; simpa using h
theorem mask_mk {n v : Int} (h0 : 0 ≤ v) (h : v < 2 ^ n.toNat) : maskB v n = true := by
  unfold maskB; simp [h0, h]

theorem chk_mk {n : Int} {l : List Int} (h : Sets n l) : chkS n l = 0 := by
  unfold chkS
  have h1 : inB n 1 8 = true := by have := h.rng; unfold inB; simp; omega
  rw [if_neg (by rw [h1]; decide), if_neg (by have := h.len; omega), if_neg (by have := h.len; omega)]
  have hz : ∀ i, i < l.length → setE n l i = 0 := by
    intro i hi
    have hm := h.mem _ (getD_mem hi)
    unfold setE
    rw [if_neg (by rw [mask_mk (by omega) hm.2]; decide), if_neg (by omega), if_pos]
    refine List.all_eq_true.2 fun t ht => decide_eq_true ?_
    have := h.meet _ (getD_mem hi) t (List.mem_of_mem_take ht)
    omega
  have key : ∀ f i, i + f = l.length → setsE n l f i = 0 := by
    intro f
    induction f with
    | zero => intro i _; rfl
    | succ f ih =>
      intro i hi
      unfold setsE
      rw [if_pos (hz i (by omega))]
      exact ih (i + 1) (by omega)
  exact key l.length 0 (by omega)

theorem okHas : PlainOk Tryd.prog glT 19 cHas := by
  refine plain_of (CxOk.mk' Et_ok rfl mixed (gl := glT) (GOk.cons okCheck Tryd.func20 (by kernel_rfl) (by kernel_rfl) (GOk.cons okMask Tryd.func43 (by kernel_rfl) (by kernel_rfl) (GOk.cons okHas0 Tryd.func42 (by kernel_rfl) (by kernel_rfl) GOk.nil))) GoOk.nil noIt) Tryd.func19 (c := Tryd.f19.body.getD .skip) (rvs := [(.tmp 6, .bool), (.tmp 7, tErr)]) (by kernel_rfl) (by kernel_rfl) (by kernel_rfl) ?_
  intro ds k ⟨hp, hk⟩ hwf
  obtain ⟨n, l, v, rfl, -⟩ := dest3 hp
  have hk : k [⟨.bool, if hasE n l v = 0 then hasB l v else false⟩, ⟨tErr, hasE n l v⟩] := hk
  refine ⟨[], ?_⟩
  rw [vcHas]
  simp only [decide_eq_false_iff_not, and_true, true_and, Bool.not_eq_true', Bool.not_eq_false']
  refine ⟨fun h => ?_, fun h => ?_⟩
  · have e : hasE n l v = chkS n l := by unfold hasE; rw [if_neg h]
    rw [e, if_neg h] at hk; exact hk
  · have h : chkS n l = 0 := by simpa using h
    have g := sets_of h
    have := g.rng
    refine ⟨⟨by omega, by omega⟩, fun hm => ⟨by decide, ?_⟩, fun hm => ⟨⟨(mask_of hm).1, fun s hs => by have := g.mem s hs; omega⟩, ?_⟩⟩
    · have e : hasE n l v = 1 := by unfold hasE; rw [if_pos h, if_neg (by rw [hm]; decide)]
      rw [e] at hk; exact hk
    · have e : hasE n l v = 0 := by unfold hasE; rw [if_pos h, if_pos hm]
      rw [e] at hk; exact hk

theorem firstP_at {p : Nat → Bool} {m x : Nat} (h : x < m) : firstP p (m - x) x = if p x = true then some x else firstP p (m - (x + 1)) (x + 1) := by
  obtain ⟨q, hq⟩ : ∃ q, m - x = q + 1 := ⟨m - x - 1, by omega⟩
  rw [hq, show m - (x + 1) = q by omega]; rfl

theorem pow8 {n : Int} (h : n ≤ 8) : (2 : Nat) ^ n.toNat ≤ 256 := Nat.pow_le_pow_right (n := 2) (by decide) (show n.toNat ≤ 8 by omega)
theorem powC (n : Nat) : (2 : Int) ^ n = ((2 ^ n : Nat) : Int) := by rw [Int.natCast_pow]; rfl

theorem full_vc (n : Int) (l : List Int) (k : List Dat → Prop) (hk : k [⟨.bool, (fullO n l).isNone⟩, ⟨I, (((fullO n l).getD 0 : Nat) : Int)⟩, ⟨tErr, chkS n l⟩]) :
    vcF ⟨Et, [(20, cCheck), (42, cHas0)], glT, [], []⟩ (anFull n l) (Tryd.f18.body.getD .skip) Tryd.f18.ntmps [(.tmp 4, .bool), (.tmp 5, I), (.tmp 6, tErr)] [⟨I, n⟩, ⟨.sl I, l⟩] k := by
  rw [vcFull]
  simp only [decide_eq_true_eq, decide_eq_false_iff_not, and_true, true_and, Bool.not_eq_true', Bool.not_eq_false']
  refine ⟨fun h => ?_, fun h => ?_⟩
  · have e : fullO n l = some 0 := by unfold fullO; rw [if_neg h]
    rw [e] at hk; exact hk
  · have g := sets_of h
    have hn := g.rng
    have hpw := pow8 hn.2
    have hpp := Nat.two_pow_pos n.toNat
    have hpc := powC n.toNat
    rw [h] at hk
    have ho : fullO n l = firstP (neither n l) (2 ^ n.toNat) 0 := by unfold fullO; rw [if_pos h]
    have hmem : ∀ s ∈ l, 0 ≤ s := fun s hs => by have := g.mem s hs; omega
    refine ⟨by omega, by omega, rfl, inK_i64.2 (by rw [hpc]; omega), ⟨0, ⟨by omega, ho, h⟩, rfl⟩, fun x ⟨hx, hxo, _⟩ => ⟨fun hlt => ?_, fun hge => ?_⟩⟩
    · have hxl : x < 2 ^ n.toNat := by rw [hpc] at hlt; omega
      rw [firstP_at hxl] at hxo
      have nxt : neither n l x = false → inK .i64 ((x : Int) + 1) ∧ ∃ x_1 : Nat, (x_1 ≤ 2 ^ n.toNat ∧ fullO n l = firstP (neither n l) (2 ^ n.toNat - x_1) x_1 ∧ chkS n l = 0) ∧ 2 ^ n.toNat - x_1 < 2 ^ n.toNat - x ∧ (x : Int) + 1 = (x_1 : Int) := by
        intro hne
        rw [if_neg (by rw [hne]; decide)] at hxo
        exact ⟨inK_i64.2 (by omega), x + 1, ⟨by omega, hxo, h⟩, by omega, by omega⟩
      refine ⟨⟨by omega, hmem⟩, fun ha => ⟨by omega, by omega, rfl, inK_i64.2 (by rw [hpc]; omega), inK_i64.2 (by rw [hpc]; omega), by rw [hpc]; omega, by omega, ⟨Int.natCast_nonneg _, hmem⟩, fun hb => ?_, fun hb => nxt ?_⟩, fun ha => nxt ?_⟩
      · have e : neither n l x = true := by
          unfold neither complN
          rw [ha, hb]; rfl
        rw [hxo, if_pos e] at hk; exact hk
      · unfold neither complN
        rw [ha, hb]; rfl
      · unfold neither
        rw [ha]; rfl
    · have : x = 2 ^ n.toNat := by rw [hpc] at hge; omega
      rw [hxo, this, Nat.sub_self] at hk
      exact hk

theorem okFull : PlainOk Tryd.prog glT 18 cFull := by
  refine plain_of (CxOk.mk' Et_ok rfl mixed (gl := glT) (GOk.cons okCheck Tryd.func20 (by kernel_rfl) (by kernel_rfl) (GOk.cons okHas0 Tryd.func42 (by kernel_rfl) (by kernel_rfl) GOk.nil)) GoOk.nil noIt) Tryd.func18 (c := Tryd.f18.body.getD .skip) (rvs := [(.tmp 4, .bool), (.tmp 5, I), (.tmp 6, tErr)]) (by kernel_rfl) (by kernel_rfl) (by kernel_rfl) ?_
  intro ds k ⟨hp, hk⟩ hwf
  obtain ⟨n, l, rfl, -⟩ := dest2 hp
  exact ⟨anFull n l, full_vc n l k hk⟩

theorem leastU_succ (l : List Int) (k : Nat) : leastU l (k + 1) = leastU l k ++ (if leastB l (k : Int) = true then [(k : Int)] else []) := by
  unfold leastU
  rw [List.range_succ, List.map_append, List.filter_append]
  congr 1
  cases h : leastB l (k : Int) <;> simp [h]
theorem leastU_len (l : List Int) (k : Nat) : (leastU l k).length ≤ k := by
  unfold leastU
  exact Nat.le_trans (List.length_filter_le _ _) (by simp)

theorem least_vc (n : Int) (l : List Int) (k : List Dat → Prop) (hk : k [⟨.sl I, if chkS n l = 0 then leastU l (2 ^ n.toNat) else []⟩, ⟨tErr, chkS n l⟩]) :
    vcF ⟨Et2, [(20, cCheck), (44, cCon), (45, cConF 46 lstB)], glT, [], []⟩ (anLeast n l) (Tryd.f21.body.getD .skip) Tryd.f21.ntmps [(.tmp 4, .sl I), (.tmp 5, tErr)] [⟨I, n⟩, ⟨.sl I, l⟩] k := by
  rw [vcLeast]
  simp only [decide_eq_true_eq, decide_eq_false_iff_not, and_true, true_and, Bool.not_eq_true', Bool.not_eq_false']
  refine ⟨fun h => ?_, fun h => ?_⟩
  · rw [if_neg h] at hk; exact hk
  · have g := sets_of h
    have hn := g.rng
    have hpw := pow8 hn.2
    have hpp := Nat.two_pow_pos n.toNat
    have hpc := powC n.toNat
    rw [if_pos h, h] at hk
    have hmem : ∀ s ∈ l, 0 ≤ s := fun s hs => by have := g.mem s hs; omega
    refine ⟨by omega, by omega, rfl, inK_i64.2 (by rw [hpc]; omega), ⟨0, ⟨by omega, h⟩, rfl, rfl⟩, fun x ⟨hx, _⟩ => ⟨fun hlt => ?_, fun hge => ?_⟩⟩
    · have hxl : x < 2 ^ n.toNat := by rw [hpc] at hlt; omega
      have hlen := leastU_len l x
      refine ⟨fun ha => ⟨⟨⟨(x : Int), rfl, by omega⟩, hmem⟩, fun hb => ⟨by simp only [List.replicate, List.set, List.length_cons, List.length_nil]; omega, inK_i64.2 (by omega), x + 1, ⟨by omega, h⟩, by omega, by omega, ?_⟩, fun hb => ⟨inK_i64.2 (by omega), x + 1, ⟨by omega, h⟩, by omega, by omega, ?_⟩⟩, fun ha => ⟨inK_i64.2 (by omega), x + 1, ⟨by omega, h⟩, by omega, by omega, ?_⟩⟩
      · have e : leastB l (x : Int) = true := by unfold leastB; rw [ha, hb]; rfl
        rw [leastU_succ, if_pos e]; rfl
      · have e : leastB l (x : Int) = false := by unfold leastB; rw [ha, hb]; rfl
        rw [leastU_succ, if_neg (by rw [e]; decide), List.append_nil]
      · have e : leastB l (x : Int) = false := by unfold leastB; rw [ha]; rfl
        rw [leastU_succ, if_neg (by rw [e]; decide), List.append_nil]
    · have : x = 2 ^ n.toNat := by rw [hpc] at hge; omega
      rw [this]
      exact hk

theorem okLeast : PlainOk Tryd.prog glT 21 cLeast := by
  refine plain_of (CxOk.mk' Et2_ok rfl mixed (gl := glT) (GOk.cons okCheck Tryd.func20 (by kernel_rfl) (by kernel_rfl) (GOk.cons okCon Tryd.func44 (by kernel_rfl) (by kernel_rfl) (GOk.cons okConB Tryd.func45 (by kernel_rfl) (by kernel_rfl) GOk.nil))) GoOk.nil noIt) Tryd.func21 (c := Tryd.f21.body.getD .skip) (rvs := [(.tmp 4, .sl I), (.tmp 5, tErr)]) (by kernel_rfl) (by kernel_rfl) (by kernel_rfl) ?_
  intro ds k ⟨hp, hk⟩ hwf
  obtain ⟨n, l, rfl, -⟩ := dest2 hp
  exact ⟨anLeast n l, least_vc n l k hk⟩
end Go.Proofs.YtlopkkoenfngiaaDoor

/- Quorums: votes. -/
namespace Go.Proofs.YtlopkkoenfngiaaDoor
open Go.Vc

theorem okBits : PlainOk Tryd.prog glT 41 cBitsF := by
  refine plain_of (CxOk.mk' Et_ok rfl mixed (gl := glT) GOk.nil GoOk.nil noIt) Tryd.func41 (c := Tryd.f41.body.getD .skip) (rvs := [(.tmp 2, tB)]) (by kernel_rfl) (by kernel_rfl) (by kernel_rfl) ?_
  intro ds k ⟨hp, hk⟩ hwf
  obtain ⟨s, rfl, -⟩ := dest1 hp
  refine ⟨anBits, ?_⟩
  rw [vcBits]
  exact hk
theorem itB : ∀ g c, (g, c) ∈ [(54, cBits)] → ItOk Tryd.prog glT g c := fun g c h => by
  obtain ⟨rfl, rfl⟩ := Prod.mk.inj (List.mem_singleton.1 h)
  exact itBits

theorem bitsOf_mem {N : Nat} (hN : N < 2 ^ 64) (y : Int) : y ∈ bitsOf (N : Int) ↔ ∃ i : Nat, y = (i : Int) ∧ N.testBit i = true := by
  have e : ((N : Int) % 18446744073709551616).toNat = N := by
    have : N < 18446744073709551616 := hN
    omega
  unfold bitsOf bitsN
  rw [e]
  constructor
  · intro h
    obtain ⟨i, hi, rfl⟩ := List.mem_map.1 h
    exact ⟨i, rfl, (List.mem_filter.1 hi).2⟩
  · rintro ⟨i, rfl, hi⟩
    refine List.mem_map.2 ⟨i, List.mem_filter.2 ⟨List.mem_range'_1.2 ⟨by omega, ?_⟩, hi⟩, rfl⟩
    rcases Nat.lt_or_ge i 64 with h | h
    · omega
    · have := Nat.testBit_lt_two_pow (Nat.lt_of_lt_of_le hN (Nat.pow_le_pow_right (by omega) h))
      rw [this] at hi; cases hi
theorem bitsOf_len (s : Int) : (bitsOf s).length ≤ 64 := by
  unfold bitsOf bitsN
  rw [List.length_map]
  exact Nat.le_trans (List.length_filter_le _ _) (by simp)
theorem sumL_snoc (w l : List Int) (y : Int) : sumL w (l ++ [y]) = sumL w l + w.getD y.toNat 0 := by
  unfold sumL
  rw [List.map_append, List.sum_append]; simp
theorem w_at {w : List Int} (h : wOk w) (i : Nat) : 0 ≤ w.getD i 0 ∧ w.getD i 0 ≤ 20 := by
  rcases Nat.lt_or_ge i w.length with hi | hi
  · exact h.2 _ (getD_mem hi)
  · rw [List.getD_eq_getElem?_getD, List.getElem?_eq_none hi]; decide
theorem sumL_bd {w : List Int} (h : wOk w) : ∀ l : List Int, 0 ≤ sumL w l ∧ sumL w l ≤ 20 * (l.length : Int) := by
  intro l
  induction l with
  | nil => simp [sumL]
  | cons a r ih =>
    have e : sumL w (a :: r) = w.getD a.toNat 0 + sumL w r := by simp [sumL]
    have := w_at h a.toNat
    rw [e, List.length_cons]
    omega
theorem bit_pos {s : Int} {n : Nat} (h0 : 0 ≤ s) (hs : s < 2 ^ n) (hn : n ≤ 62) {y : Int} (hy : y ∈ bitsOf s) : 0 ≤ y ∧ y < (n : Int) ∧ s.toNat.testBit y.toNat = true := by
  obtain ⟨N, rfl⟩ := Int.eq_ofNat_of_zero_le h0
  have hs' : N < 2 ^ n := by rw [powC] at hs; omega
  have hN : N < 2 ^ 64 := Nat.lt_of_lt_of_le hs' (Nat.pow_le_pow_right (by decide) (by omega))
  obtain ⟨i, rfl, hi⟩ := (bitsOf_mem hN y).1 hy
  refine ⟨by omega, ?_, by simpa using hi⟩
  rcases Nat.lt_or_ge i n with h | h
  · omega
  · have := Nat.testBit_lt_two_pow (Nat.lt_of_lt_of_le hs' (Nat.pow_le_pow_right (by decide) h))
    rw [this] at hi; cases hi

theorem okSumW : PlainOk Tryd.prog glT 40 cSumW := by
  refine plain_of (CxOk.mk' Et_ok rfl mixed (gl := glT) (GOk.cons okBits Tryd.func41 (by kernel_rfl) (by kernel_rfl) GOk.nil) GoOk.nil itB) Tryd.func40 (c := Tryd.f40.body.getD .skip) (rvs := [(.cell 3 3, I)]) (by kernel_rfl) (by kernel_rfl) (by kernel_rfl) ?_
  intro ds k ⟨hp, hk⟩ hwf
  obtain ⟨s, p, rfl, w, rfl, hw, h0, hs⟩ := dest2 hp
  have hk : k [⟨I, sumL w (bitsOf s)⟩] := hk
  refine ⟨anSumW w, ?_⟩
  rw [vcSumW]
  simp only [and_true, true_and]
  refine ⟨⟨[], rfl, rfl⟩, fun _ _ => trivial, fun x y rest _ hx => ?_, fun x _ hx => by rw [hx]; exact hk⟩
  have hy : y ∈ bitsOf s := by rw [hx]; exact List.mem_append_right _ (.head _)
  obtain ⟨b1, b2, -⟩ := bit_pos h0 hs (by have := hw.1; omega) hy
  have hl := bitsOf_len s
  rw [hx, List.length_append, List.length_cons] at hl
  have h1 := sumL_bd hw x
  have h2 := w_at hw y.toNat
  exact ⟨b1, b2, inK_i64.2 (by omega), x ++ [y], rfl, (sumL_snoc w x y).symm⟩

theorem sum_bd : ∀ {l : List Int}, (∀ x ∈ l, 0 ≤ x ∧ x ≤ 20) → 0 ≤ l.sum ∧ l.sum ≤ 20 * (l.length : Int) := by
  intro l
  induction l with
  | nil => simp
  | cons a r ih =>
    intro h
    have h1 := h a (.head _)
    have h2 := ih fun x hx => h x (.tail _ hx)
    rw [List.sum_cons, List.length_cons]
    omega
theorem sum_snoc {l : List Int} {x : Nat} (h : x < l.length) : (l.take (x + 1)).sum = (l.take x).sum + l.getD x 0 := by
  rw [take_snoc h, List.sum_append]; simp

theorem okSumL : PlainOk Tryd.prog glT 17 cSumL := by
  refine plain_of (CxOk.mk' Et_ok rfl mixed (gl := glT) GOk.nil GoOk.nil noIt) Tryd.func17 (c := Tryd.f17.body.getD .skip) (rvs := [(.tmp 2, I)]) (by kernel_rfl) (by kernel_rfl) (by kernel_rfl) ?_
  intro ds k ⟨hp, hk⟩ hwf
  obtain ⟨l, rfl, hl, hlen⟩ := dest1 hp
  have hk : k [⟨I, l.sum⟩] := hk
  refine ⟨anSum l, ?_⟩
  rw [vcSumL]
  simp only [Nat.le_eq, decide_eq_true_eq, decide_eq_false_iff_not, and_true, true_and, Int.toNat_natCast]
  refine ⟨⟨0, by omega, by simp⟩, fun x hx => ⟨fun hlt => ?_, fun hge => ?_⟩⟩
  · have hxl : x < l.length := by omega
    have h1 := sum_bd (l := l.take x) fun y hy => hl y (List.mem_of_mem_take hy)
    have h2 := hl _ (getD_mem hxl)
    have h3 : (l.take x).length ≤ 8 := by rw [List.length_take]; omega
    exact ⟨by omega, hlt, inK_i64.2 (by omega), inK_i64.2 (by omega), x + 1, by omega, by omega, (sum_snoc hxl).symm, by omega⟩
  · rw [List.take_of_length_le (by omega)]; exact hk

theorem lessI_lt {s y : Int} {n : Nat} (h0 : 0 ≤ s) (hs : s < 2 ^ n) : 0 ≤ lessI s y ∧ lessI s y < 2 ^ n := by
  obtain ⟨N, rfl⟩ := Int.eq_ofNat_of_zero_le h0
  have hs' : N < 2 ^ n := by rw [powC] at hs; omega
  refine ⟨Int.natCast_nonneg _, ?_⟩
  unfold lessI
  rw [powC n, Int.toNat_natCast]
  exact Int.ofNat_lt.2 (Nat.xor_lt_two_pow hs' (Nat.lt_of_le_of_lt Nat.and_le_left hs'))
theorem lowL_snoc (w : List Int) (need s : Int) (l : List Int) (y : Int) : lowL w need s (l ++ [y]) = (lowL w need s l && decide (sumW w (lessI s y) < need)) := by
  unfold lowL
  rw [List.all_append]
  simp [Bool.and_assoc]
theorem votesU_succ (w : List Int) (need : Int) (k : Nat) : votesU w need (k + 1) = votesU w need k ++ (if lowB w need (k : Int) = true then [(k : Int)] else []) := by
  unfold votesU
  rw [List.range_succ, List.map_append, List.filter_append]
  congr 1
  cases h : lowB w need (k : Int) <;> simp [h]
theorem votesU_len (w : List Int) (need : Int) (k : Nat) : (votesU w need k).length ≤ k := by
  unfold votesU
  exact Nat.le_trans (List.length_filter_le _ _) (by simp)
theorem inB_of {x lo hi : Int} (h : inB x lo hi = true) : lo ≤ x ∧ x ≤ hi := by unfold inB at h; simpa using h

theorem votes_vc (w : List Int) (need : Int) (k : List Dat → Prop) (hk : k [⟨.sl I, votesL w need⟩, ⟨tErr, votesE w need⟩]) :
    vcF ⟨Et, [(39, cWithin), (41, cBitsF), (40, cSumW)], glT, [(54, cBits)], []⟩ (anVotes w need) (Tryd.f13.body.getD .skip) Tryd.f13.ntmps [(.tmp 4, .sl I), (.tmp 5, tErr)] [⟨.sl I, w⟩, ⟨I, need⟩] k := by
  rw [vcVotes]
  simp only [decide_eq_true_eq, decide_eq_false_iff_not, and_true, true_and, Bool.not_eq_true', Bool.not_eq_false', Int.toNat_natCast]
  have bad : ∀ e : Int, e ≠ 0 → votesE w need = e → e ≠ 0 ∧ k [⟨.sl I, ([] : List Int)⟩, ⟨tErr, e⟩] := by
    intro e h0 he
    refine ⟨h0, ?_⟩
    unfold votesL at hk
    rw [he, if_neg h0] at hk; exact hk
  refine ⟨fun h => bad 5 (by decide) ?_, fun h0 => ⟨fun h => bad 4 (by decide) ?_, fun h8 => ⟨⟨0, ⟨by omega, by omega, by omega, fun y hy => by simp at hy⟩, by simp⟩, fun x ⟨hx, _, _, hall⟩ => ⟨fun hlt => ?_, fun hge => ?_⟩⟩⟩⟩
  · unfold votesE; rw [if_pos (by omega)]
  · unfold votesE; rw [if_neg (by omega), if_pos (by omega)]
  · have hxl : x < w.length := by omega
    refine ⟨by omega, hlt, fun hb => bad 1 (by decide) ?_, fun hb => ?_⟩
    · have : w.all (fun x => inB x 0 20) = false := by
        cases hc : w.all (fun x => inB x 0 20) with
        | false => rfl
        | true =>
          have := List.all_eq_true.1 hc _ (getD_mem hxl)
          rw [hb] at this; cases this
      unfold votesE; rw [if_neg (by omega), if_neg (by omega), if_pos this]
    · have h1 := sum_bd (l := w.take x) fun y hy => inB_of (hall y hy)
      have h2 := inB_of hb
      have h3 : (w.take x).length ≤ 8 := by rw [List.length_take]; omega
      refine ⟨inK_i64.2 (by omega), inK_i64.2 (by omega), x + 1, ⟨by omega, by omega, by omega, fun y hy => ?_⟩, by omega, (sum_snoc hxl).symm, by omega⟩
      rw [take_snoc hxl] at hy
      rcases List.mem_append.1 hy with hy | hy
      · exact hall y hy
      · rw [List.mem_singleton.1 hy]; exact hb
  · have htk : w.take x = w := List.take_of_length_le (by omega)
    rw [htk] at hall
    rw [htk]
    have hwall : w.all (fun x => inB x 0 20) = true := List.all_eq_true.2 hall
    have hw : wOk w := ⟨by omega, fun y hy => inB_of (hall y hy)⟩
    have h1 := sum_bd hw.2
    refine ⟨fun hb => bad 1 (by decide) ?_, fun hb => ⟨inK_i64.2 (by have := inB_of hb; omega), fun h2 => bad 6 (by decide) ?_, fun h2 => ?_⟩⟩
    · unfold votesE; rw [if_neg (by omega), if_neg (by omega), if_neg (by rw [hwall]; decide), if_pos hb]
    · unfold votesE; rw [if_neg (by omega), if_neg (by omega), if_neg (by rw [hwall]; decide), if_neg (by rw [hb]; decide), if_pos h2]
    · have he : votesE w need = 0 := by
        unfold votesE; rw [if_neg (by omega), if_neg (by omega), if_neg (by rw [hwall]; decide), if_neg (by rw [hb]; decide), if_neg h2]
      have hpc := powC w.length
      have hpp := Nat.two_pow_pos w.length
      have hpw : 2 ^ w.length ≤ 256 := Nat.pow_le_pow_right (n := 2) (by decide) (show w.length ≤ 8 by omega)
      simp only [he, and_true, Int.one_mul]
      refine ⟨by omega, by omega, rfl, inK_i64.2 (by rw [hpc]; omega), ⟨0, by omega, rfl, rfl⟩, fun x hx => ⟨fun hlt => ?_, fun hge => ?_⟩⟩
      · have hxl : x < 2 ^ w.length := by rw [hpc] at hlt; omega
        refine ⟨⟨w, rfl, hw, by omega, hlt⟩, ⟨w, rfl, hw, by omega, hlt⟩, ⟨[], rfl, by unfold lowL; simp⟩, fun _ _ => trivial, fun z y rest _ hz => ?_, fun z _ hz => ?_⟩
        · have hy : y ∈ bitsOf (x : Int) := by rw [hz]; exact List.mem_append_right _ (.head _)
          obtain ⟨b1, b2, -⟩ := bit_pos (by omega) hlt (by omega) hy
          have hle := two_pow_le (n := y.toNat) (by omega)
          have hlp := two_pow_pos y.toNat
          have hless := lessI_lt (y := y) (by omega) hlt
          unfold lessI at hless
          rw [Int.one_mul, Int.toNat_natCast] at hless
          refine ⟨⟨fun _ => ⟨b1, by omega, rfl, inK_i64.2 (by omega), by omega, by omega, w, rfl, hw, hless.1, hless.2⟩, fun _ => trivial⟩, z ++ [y], rfl, ?_⟩
          rw [lowL_snoc]
          unfold lessI
          rw [Int.one_mul, Int.toNat_natCast]
        · subst hz
          have hlen := votesU_len w need x
          refine ⟨fun hb => ⟨by simp only [List.replicate, List.set, List.length_cons, List.length_nil]; omega, inK_i64.2 (by omega), x + 1, by omega, by omega, by omega, ?_⟩, fun hb => ⟨inK_i64.2 (by omega), x + 1, by omega, by omega, by omega, ?_⟩⟩
          · have e : lowB w need (x : Int) = true := hb
            rw [votesU_succ, if_pos e]; rfl
          · have e : lowB w need (x : Int) = false := hb
            rw [votesU_succ, if_neg (by rw [e]; decide), List.append_nil]
      · have : x = 2 ^ w.length := by rw [hpc] at hge; omega
        subst this
        unfold votesL at hk
        rw [he, if_pos rfl] at hk
        exact hk

theorem okVotes : PlainOk Tryd.prog glT 13 cVotes := by
  refine plain_of (CxOk.mk' Et_ok rfl mixed (gl := glT) (GOk.cons okWithin Tryd.func39 (by kernel_rfl) (by kernel_rfl) (GOk.cons okBits Tryd.func41 (by kernel_rfl) (by kernel_rfl) (GOk.cons okSumW Tryd.func40 (by kernel_rfl) (by kernel_rfl) GOk.nil))) GoOk.nil itB) Tryd.func13 (c := Tryd.f13.body.getD .skip) (rvs := [(.tmp 4, .sl I), (.tmp 5, tErr)]) (by kernel_rfl) (by kernel_rfl) (by kernel_rfl) ?_
  intro ds k ⟨hp, hk⟩ hwf
  obtain ⟨w, need, rfl, -⟩ := dest2 hp
  exact ⟨anVotes w need, votes_vc w need k hk⟩
end Go.Proofs.YtlopkkoenfngiaaDoor
