/- Own texts, merged: HOk, HOk2, KDef, CDef, RDef. -/
import Derived.Test.YtbpoeigaoakdiaaDoorSSRowZ2
/- Traces: the document's functions keep their contracts. -/
namespace Go.Proofs.YtbpoeigaoakdiaaDoor.H
open Go.Vc

theorem okRIn : PlainOk Tryd.prog [] 42 cWithin := by
  refine plain_of (CxOk.mk' Em_ok (by kernel_rfl) mixed (gl := []) GOk.nil GoOk.nil noIt) Tryd.func42 (c := Tryd.f42.body.getD .skip) (rvs := [(.tmp 6, .bool)]) (by kernel_rfl) (by kernel_rfl) (by kernel_rfl) ?_
  intro ds k ⟨hp, hk⟩ hwf
  obtain ⟨a, b, c, rfl, -⟩ := dest3 hp
  have hk : k [⟨.bool, inB a b c⟩] := hk
  refine ⟨[joinAll], ?_⟩
  rw [vcRIn]
  unfold inB at hk
  refine ⟨fun h => ?_, fun h => ?_⟩ <;> simpa [h] using hk

theorem rtrace_vc (t : Tr) (ht : inK .i64 t.1) (k : List Dat → Prop) (hk : k [⟨I, chk t⟩]) : vcF ⟨Em, [(42, cWithin)], [], [], []⟩ (anRTrace t) (Tryd.f8.body.getD .skip) Tryd.f8.ntmps [(.tmp 2, I)] [⟨tTr, t⟩] k := by
  rw [vcRTrace]
  have ret : ∀ x : Int, chk t = x → k [⟨I, x⟩] := by rintro _ rfl; exact hk
  simp only [decide_eq_true_eq, decide_eq_false_iff_not, and_true, true_and, ne_eq, Bool.not_eq_true', Bool.not_eq_false', Int.toNat_natCast]
  refine ⟨fun h => ret _ (by unfold chk; rw [if_pos h]), fun h => ⟨fun g => ret _ (by unfold chk; rw [if_neg (by rw [h]; decide), if_pos (by omega)]), fun g => ?_⟩⟩
  have hp : 1 ≤ t.1 ∧ t.1 ≤ 5 := by simpa [inB] using h
  have hlen : t.2.1.length ≤ 24 := by omega
  have hc0 : chk t = evsErr t.1 t.2.1 t.2.1.length 0 := by
    unfold chk; rw [if_neg (by rw [h]; decide), if_neg (by omega)]
  have hstep : ∀ x, x < t.2.1.length → evsErr t.1 t.2.1 (t.2.1.length - x) x = if evErr t.1 t.2.1 x = 0 then evsErr t.1 t.2.1 (t.2.1.length - (x + 1)) (x + 1) else evErr t.1 t.2.1 x := by
    intro x hx
    rw [show t.2.1.length - x = (t.2.1.length - (x + 1)) + 1 by omega]
    rfl
  refine ⟨⟨0, ⟨hc0, Nat.zero_le _⟩, rfl⟩, fun x ⟨hx, hxl⟩ => ⟨fun hlt => ?_, fun hge => ret _ ?_⟩⟩
  · have hst := hstep x (by omega)
    have bad : ∀ n, evErr t.1 t.2.1 x = n → n ≠ 0 → k [⟨I, n⟩] := fun n h1 h2 => ret n (by rw [hx, hst, if_neg (by rw [h1]; exact h2), h1])
    have good : evErr t.1 t.2.1 x = 0 → inK IntKind.i64 ((x : Int) + 1) ∧ ∃ x', (chk t = evsErr t.1 t.2.1 (t.2.1.length - x') x' ∧ x' ≤ t.2.1.length) ∧ t.2.1.length - x' < t.2.1.length - x ∧ (x : Int) + 1 = (x' : Int) := fun h1 =>
      ⟨inK_i64.2 (by omega), x + 1, ⟨by rw [hx, hst, if_pos h1], by omega⟩, by omega, by omega⟩
    have hpi : inK .i64 (t.1 - 1) := inK_i64.2 (by omega)
    refine ⟨by omega, hlt, hpi, fun h1 => bad 1 ?_ (by decide), fun h1 => ⟨inK_i64.2 (by omega), fun h2 => bad 1 ?_ (by decide), fun h2 => ⟨⟨fun h3 => ⟨h3, ?_⟩, fun _ => trivial⟩, fun h4 => bad 6 ?_ (by decide), fun h4 => good ?_⟩⟩⟩
    · unfold evErr; rw [if_pos (by rw [h1]; rfl)]
    · unfold evErr; rw [if_pos (by rw [h1, h2]; rfl)]
    · have : (t.2.1.getD x (0, 0, ())).2.1 ≤ (x : Int) - 1 := by
        simp only [inB, Bool.and_eq_true, decide_eq_true_eq] at h2; exact h2.2
      omega
    · rw [Bool.and_eq_true, decide_eq_true_eq, decide_eq_true_eq] at h4
      unfold evErr; rw [if_neg (by rw [h1, h2]; decide), if_pos h4]
    · unfold evErr; rw [if_neg (by rw [h1, h2]; decide), if_neg]
      rintro ⟨ha, hb⟩
      rw [decide_eq_true ha, decide_eq_true hb] at h4
      cases h4
  · have : x = t.2.1.length := by omega
    rw [hx, this, Nat.sub_self]; rfl

theorem okRTrace : PlainOk Tryd.prog [] 8 cRTrace := by
  refine plain_of (CxOk.mk' Em_ok (by kernel_rfl) mixed (gl := []) (GOk.cons okRIn Tryd.func42 (by kernel_rfl) (by kernel_rfl) GOk.nil) GoOk.nil noIt) Tryd.func8 (c := Tryd.f8.body.getD .skip) (rvs := [(.tmp 2, I)]) (by kernel_rfl) (by kernel_rfl) (by kernel_rfl) ?_
  intro ds k ⟨hp, hk⟩ hwf
  obtain ⟨t, rfl, -⟩ := dest1 hp
  exact ⟨anRTrace t, rtrace_vc t (wf1 hwf).1 k hk⟩

theorem bitB_nat (a k : Nat) : bitB (a : Int) (k : Int) = a.testBit k := by
  unfold bitB
  simp
theorem both_step (a b x : Nat) : (a &&& b) % 2 ^ (x + 1) = (a &&& b) % 2 ^ x + (if a.testBit x = true ∧ b.testBit x = true then 2 ^ x else 0) := by
  have h : (a.testBit x = true ∧ b.testBit x = true) ↔ (a &&& b) / 2 ^ x % 2 = 1 := by
    have := Nat.testBit_and a b x
    rw [Nat.testBit_eq_decide_div_mod_eq] at this
    rw [← Bool.and_eq_true, ← this, decide_eq_true_eq]
  rw [Nat.mod_pow_succ]
  by_cases hb : (a &&& b) / 2 ^ x % 2 = 1
  · rw [if_pos (h.2 hb), hb, Nat.mul_one]
  · have h0 : (a &&& b) / 2 ^ x % 2 = 0 := by omega
    rw [if_neg (fun e => hb (h.1 e)), h0, Nat.mul_zero]

theorem tmod_bit (n x : Nat) : (((n : Int).tdiv ((2 : Int) ^ x)).tmod 2 = 1) ↔ n.testBit x = true := by
  have h := bit_of (s := (n : Int)) (x := x)
  rw [bitB_nat] at h
  constructor
  · intro e; rw [← h]; exact decide_eq_true e
  · intro e; rw [e] at h; exact of_decide_eq_true h

theorem okBoth : PlainOk Tryd.prog [] 67 cBoth := by
  refine plain_of (CxOk.mk' Em_ok (by kernel_rfl) mixed (gl := []) GOk.nil GoOk.nil noIt) Tryd.func67 (c := Tryd.f67.body.getD .skip) (rvs := [(.tmp 4, I)]) (by kernel_rfl) (by kernel_rfl) (by kernel_rfl) ?_
  intro ds k ⟨hp, hk⟩ hwf
  obtain ⟨a, b, rfl, ha61, -⟩ := dest2 hp
  have hk : k [⟨I, ((a.toNat &&& b.toNat : Nat) : Int)⟩] := hk
  have ha : inK .i64 a := (wf2 hwf).1
  have hb : inK .i64 b := (wf2 hwf).2
  have hbi := inK_i64.1 hb
  refine ⟨anBoth a b, ?_⟩
  rw [vcBoth]
  simp only [decide_eq_true_eq, decide_eq_false_iff_not, and_true, true_and, ne_eq]
  have h20 : ¬ (2 : Int) = 0 := by decide
  have fin : ∀ (s : Int) (x : Nat), ¬ 0 < s.tdiv ((2 : Int) ^ x) → s.toNat < 2 ^ x := by
    intro s x h
    by_cases hs : 0 ≤ s
    · obtain ⟨n, rfl⟩ := Int.eq_ofNat_of_zero_le hs
      rw [tdivN] at h
      have h0 : n / 2 ^ x = 0 := by
        generalize n / 2 ^ x = q at h
        omega
      rcases Nat.lt_or_ge n (2 ^ x) with h | h
      · exact h
      · have := Nat.div_pos h (Nat.two_pow_pos x); omega
    · have : s.toNat = 0 := by omega
      rw [this]; exact Nat.two_pow_pos x
  have fink : ∀ x : Nat, (a.toNat &&& b.toNat) < 2 ^ x → k [⟨I, (((a.toNat &&& b.toNat) % 2 ^ x : Nat) : Int)⟩] := by
    intro x h; rw [Nat.mod_eq_of_lt h]; exact hk
  refine ⟨⟨0, by omega, by simp, by simp, by simp [Nat.mod_one], rfl⟩, fun x hx => ⟨fun hA => ⟨fun hB => ?_, fun hB => fink x (Nat.lt_of_le_of_lt Nat.and_le_right (fin b x hB))⟩, fun hA => fink x (Nat.lt_of_le_of_lt Nat.and_le_left (fin a x hA))⟩⟩
  have hpos := two_pow_pos x
  have hapos : 0 ≤ a := by
    refine Int.not_lt.1 fun hneg => ?_
    have := Int.tdiv_nonneg (a := -a) (b := (2 : Int) ^ x) (by omega) (by omega)
    rw [Int.neg_tdiv] at this; omega
  have hbpos : 0 ≤ b := by
    refine Int.not_lt.1 fun hneg => ?_
    have := Int.tdiv_nonneg (a := -b) (b := (2 : Int) ^ x) (by omega) (by omega)
    rw [Int.neg_tdiv] at this; omega
  obtain ⟨m, rfl⟩ := Int.eq_ofNat_of_zero_le hapos
  obtain ⟨n, rfl⟩ := Int.eq_ofNat_of_zero_le hbpos
  simp only [Int.toNat_natCast] at *
  have hx60 : x ≤ 60 := by
    rcases Nat.lt_or_ge x 61 with h | h
    · omega
    · rw [tdivN] at hA
      have h61 : (2 : Nat) ^ 61 = 2305843009213693952 := by decide
      have hpw : 2 ^ 61 ≤ 2 ^ x := Nat.pow_le_pow_right (by decide) h
      have hm61 : m < 2 ^ 61 := by rw [h61]; omega
      have h0 : m / 2 ^ x = 0 := Nat.div_eq_of_lt (Nat.lt_of_lt_of_le hm61 hpw)
      rw [h0] at hA
      exact absurd hA (by decide)
  have hp2 : (2 : Int) ^ x * 2 = 2 ^ (x + 1) := by rw [Int.pow_succ]
  have hple := two_pow_le (n := x + 1) (by omega)
  have hplx : (2 : Int) ^ x ≤ 2 ^ (x + 1) := by rw [← hp2]; omega
  have hcast : ((2 ^ x : Nat) : Int) = (2 : Int) ^ x := by rw [Int.natCast_pow]; rfl
  have hmod : (((m &&& n) % 2 ^ x : Nat) : Int) < (2 : Int) ^ x := by
    rw [← hcast]; exact Int.ofNat_lt.2 (Nat.mod_lt _ (Nat.two_pow_pos x))
  have hst := both_step m n x
  have nxt : ∀ v : Int, (v = (((m &&& n) % 2 ^ (x + 1) : Nat) : Int)) → ¬(2 : Int) = 0 ∧ inK .i64 (((m : Int).tdiv ((2 : Int) ^ x)).tdiv 2) ∧ ¬(2 : Int) = 0 ∧ inK .i64 (((n : Int).tdiv ((2 : Int) ^ x)).tdiv 2) ∧ inK .i64 ((2 : Int) ^ x * 2) ∧ ∃ x_1 : Nat, x_1 ≤ 61 ∧ 62 - x_1 < 62 - x ∧ ((m : Int).tdiv ((2 : Int) ^ x)).tdiv 2 = (m : Int).tdiv ((2 : Int) ^ x_1) ∧
      ((n : Int).tdiv ((2 : Int) ^ x)).tdiv 2 = (n : Int).tdiv ((2 : Int) ^ x_1) ∧ v = (((m &&& n) % 2 ^ x_1 : Nat) : Int) ∧ (2 : Int) ^ x * 2 = 2 ^ x_1 := by
    intro v hv
    refine ⟨h20, by rw [tdiv_pow]; exact (tdiv_in ha (x + 1)).1, h20, by rw [tdiv_pow]; exact (tdiv_in hb (x + 1)).1, inK_i64.2 (by rw [hp2]; omega), x + 1, by omega, by omega, tdiv_pow _ _, tdiv_pow _ _, hv, hp2⟩
  refine ⟨h20, (tdiv_in ha x).2, fun hAb => ⟨h20, (tdiv_in hb x).2, fun hBb => ⟨inK_i64.2 (by omega), nxt _ ?_⟩, fun hBb => nxt _ ?_⟩, fun hAb => nxt _ ?_⟩
  · rw [tmod_bit] at hAb hBb
    rw [hst, if_pos ⟨hAb, hBb⟩]
    omega
  · rw [tmod_bit] at hBb
    rw [hst, if_neg (fun h => hBb h.2)]; rfl
  · rw [tmod_bit] at hAb
    rw [hst, if_neg (fun h => hAb h.1)]; rfl


theorem either_eq (a b : Int) (ha : 0 ≤ a) (hb : 0 ≤ b) : a + b - ((a.toNat &&& b.toNat : Nat) : Int) = ((a.toNat ||| b.toNat : Nat) : Int) ∧ 0 ≤ a + b - ((a.toNat &&& b.toNat : Nat) : Int) ∧ a + b - ((a.toNat &&& b.toNat : Nat) : Int) ≤ a + b := by
  have h := or_and_add a.toNat b.toNat
  generalize a.toNat &&& b.toNat = p at *
  generalize a.toNat ||| b.toNat = q at *
  omega
theorem okEither : PlainOk Tryd.prog [] 45 cEither := by
  refine plain_of (CxOk.mk' Em_ok (by kernel_rfl) mixed (gl := []) (GOk.cons okBoth Tryd.func67 (by kernel_rfl) (by kernel_rfl) GOk.nil) GoOk.nil noIt) Tryd.func45 (c := Tryd.f45.body.getD .skip) (rvs := [(.tmp 4, I)]) (by kernel_rfl) (by kernel_rfl) (by kernel_rfl) ?_
  intro ds k ⟨hp, hk⟩ hwf
  obtain ⟨a, b, rfl, ⟨ha, ha'⟩, hb, hb'⟩ := dest2 hp
  have hk : k [⟨I, ((a.toNat ||| b.toNat : Nat) : Int)⟩] := hk
  refine ⟨[], ?_⟩
  rw [vcEither]
  obtain ⟨he, h1, h2⟩ := either_eq a b ha hb
  have ha'' : a < (1152921504606846976 : Int) := ha'
  have hb'' : b < (1152921504606846976 : Int) := hb'
  refine ⟨inK_i64.2 ⟨by have := Int.add_nonneg ha hb; omega, by have := Int.add_lt_add ha'' hb''; omega⟩, ⟨by omega, trivial⟩, inK_i64.2 ⟨by omega, by have := Int.add_lt_add ha'' hb''; omega⟩, ?_⟩
  rw [he]; exact hk

theorem okWith : PlainOk Tryd.prog [] 46 cWith := by
  refine plain_of (CxOk.mk' Em_ok (by kernel_rfl) mixed (gl := []) (GOk.cons okBit Tryd.func49 (by kernel_rfl) (by kernel_rfl) (GOk.cons okPow2 Tryd.func56 (by kernel_rfl) (by kernel_rfl) GOk.nil)) GoOk.nil noIt) Tryd.func46 (c := Tryd.f46.body.getD .skip) (rvs := [(.tmp 4, I)]) (by kernel_rfl) (by kernel_rfl) (by kernel_rfl) ?_
  intro ds k ⟨hp, hk⟩ hwf
  obtain ⟨a, i, rfl, ⟨ha, ha'⟩, hi, hi'⟩ := dest2 hp
  have hk : k [⟨I, ((a.toNat ||| 2 ^ i.toNat : Nat) : Int)⟩] := hk
  obtain ⟨m, rfl⟩ := Int.eq_ofNat_of_zero_le ha
  obtain ⟨n, rfl⟩ := Int.eq_ofNat_of_zero_le hi
  simp only [Int.toNat_natCast] at hk
  refine ⟨[], ?_⟩
  rw [vcWith, bitB_nat]
  have h2 := two_pow_le (n := n) (by omega)
  have h3 := two_pow_pos n
  refine ⟨trivial, fun h => ?_, fun h => ⟨⟨by omega, trivial⟩, ?_, ?_⟩⟩
  · rw [or_pow_in h] at hk; exact hk
  · rw [Int.toNat_natCast, inK_i64]; omega
  · rw [or_pow_out h, Int.natCast_add, Int.natCast_pow] at hk; exact hk

theorem nth_vc (t : Tr) (i : Int) (hi : 0 ≤ i ∧ i < t.2.1.length) (hl : t.2.1.length ≤ maxLen) (k : List Dat → Prop) (hk : k [⟨I, (nth t.2.1 i.toNat : Int)⟩]) : vcF ⟨Em, [], [], [], []⟩ (anNth t i) (Tryd.f47.body.getD .skip) Tryd.f47.ntmps [(.tmp 4, I)] [⟨tTr, t⟩, ⟨I, i⟩] k := by
  rw [vcNth]
  have hml : maxLen ≤ 9223372036854775807 := by decide
  simp only [decide_eq_true_eq, decide_eq_false_iff_not, and_true, true_and, Int.toNat_natCast, inK_i64]
  refine ⟨⟨0, ⟨Nat.zero_le _, Nat.le_refl _⟩, rfl, rfl⟩, fun x ⟨hx, hn⟩ => ⟨fun hlt => ⟨⟨by omega, by omega, hi.1, hi.2⟩, fun he => ?_, fun he => ?_⟩, fun hge => ?_⟩⟩
  · have e : nthU t.2.1 i.toNat (x + 1) = nthU t.2.1 i.toNat x + 1 := by rw [nthU, if_pos he]
    exact ⟨by omega, by omega, x + 1, ⟨by omega, by omega⟩, by omega, by rw [e]; rfl, rfl⟩
  · have e : nthU t.2.1 i.toNat (x + 1) = nthU t.2.1 i.toNat x := by rw [nthU, if_neg he]
    exact ⟨by omega, x + 1, ⟨by omega, by omega⟩, by omega, by rw [e], rfl⟩
  · have : x = i.toNat := by omega
    rw [this]; exact hk
theorem okNth : PlainOk Tryd.prog [] 47 cNth := by
  refine plain_of (CxOk.mk' Em_ok (by kernel_rfl) mixed (gl := []) GOk.nil GoOk.nil noIt) Tryd.func47 (c := Tryd.f47.body.getD .skip) (rvs := [(.tmp 4, I)]) (by kernel_rfl) (by kernel_rfl) (by kernel_rfl) ?_
  intro ds k ⟨hp, hk⟩ hwf
  obtain ⟨t, i, rfl, hi⟩ := dest2 hp
  exact ⟨anNth t i, nth_vc t i hi (wf2 hwf).1.2.1.1 k hk⟩

theorem small_of {n m : Nat} (h : n < 2 ^ m) (hm : m ≤ 25) : setP (n : Int) := by
  have : 2 ^ m ≤ 2 ^ 25 := Nat.pow_le_pow_right (by decide) hm
  unfold setP
  omega
theorem rbefore_vc (t : Tr) (hc : chk t = 0) (k : List Dat → Prop) (hk : k [⟨.sl I, ints (befN t)⟩]) : vcF ⟨Em, [(45, cEither), (46, cWith)], [], [], []⟩ (anRBefore t) (Tryd.f11.body.getD .skip) Tryd.f11.ntmps [(.tmp 2, .sl I)] [⟨tTr, t⟩] k := by
  rw [vcRBefore]
  have g := gd_of hc
  simp only [decide_eq_true_eq, decide_eq_false_iff_not, and_true, true_and, Int.toNat_natCast, inK_i64, bBs_len]
  have hl := g.len
  refine ⟨⟨0, Nat.zero_le _, rfl, rfl⟩, fun x hx => ⟨fun hlt => ?_, fun hge => ?_⟩⟩
  · have hxl : x < t.2.1.length := by omega
    refine ⟨⟨0, Nat.zero_le _, rfl, rfl⟩, fun y hy => ⟨fun hyx => ?_, fun hyx => ?_⟩⟩
    · have hyx : y < x := by omega
      refine ⟨⟨by omega, by omega, by omega, hlt, fun _ => trivial, fun _ => ⟨by omega, hlt⟩⟩, fun hm => ?_, fun hm => ?_⟩
      · have hm' : mustB t.2.1 x y = true := hm
        have hb := bB_lt g.p g.f (i := y) (by omega)
        have hs := setU_lt g hxl y (by omega)
        rw [bBs_at hyx, Int.toNat_natCast]
        refine ⟨by omega, by omega, ⟨small_of hb (by omega), by omega, by omega⟩, ⟨small_of hs (by omega), small_of (m := y + 1) (Nat.or_lt_two_pow (Nat.lt_trans hb (Nat.pow_lt_pow_right (by decide) (by omega))) (Nat.pow_lt_pow_right (by decide) (by omega))) (by omega)⟩, by omega, y + 1, by omega, by omega, ?_, rfl⟩
        rw [setU, if_pos hm']
      · have hm' : ¬ mustB t.2.1 x y = true := by
          intro h
          unfold mustB at h
          rw [hm] at h
          cases h
        refine ⟨by omega, y + 1, by omega, by omega, ?_, rfl⟩
        rw [setU, if_neg hm']
    · have hyx : y = x := by omega
      subst hyx
      rw [set_eq g hxl]
      refine ⟨by simp; omega, by omega, y + 1, by omega, by omega, rfl, ?_⟩
      rw [bBs_succ]; rfl
  · have : x = t.2.1.length := by omega
    rw [this, bBs_all g]; exact hk
theorem okRBefore : PlainOk Tryd.prog [] 11 cRBefore := by
  refine plain_of (CxOk.mk' Em_ok (by kernel_rfl) mixed (gl := []) (GOk.cons okEither Tryd.func45 (by kernel_rfl) (by kernel_rfl) (GOk.cons okWith Tryd.func46 (by kernel_rfl) (by kernel_rfl) GOk.nil)) GoOk.nil noIt) Tryd.func11 (c := Tryd.f11.body.getD .skip) (rvs := [(.tmp 2, .sl I)]) (by kernel_rfl) (by kernel_rfl) (by kernel_rfl) ?_
  intro ds k ⟨hp, hk⟩ hwf
  obtain ⟨t, rfl, hc, -⟩ := dest1 hp
  exact ⟨anRBefore t, rbefore_vc t hc k hk⟩
end Go.Proofs.YtbpoeigaoakdiaaDoor.H

/- Traces: a process's events: the document's answers. -/
namespace Go.Proofs.YtbpoeigaoakdiaaDoor.H
open Go.Vc

theorem ofU_succ (l : List Ev) (p : Int) (k : Nat) : ofU l p (k + 1) = ofU l p k ++ (if (l.getD k (0, 0, ())).1 = p then [(k : Int)] else []) := by
  unfold ofU
  rw [List.range_succ, List.filter_append, List.map_append]
  congr 1
  rw [List.filter_cons]
  by_cases h : (l.getD k (0, 0, ())).1 = p
  · rw [if_pos (decide_eq_true h), if_pos h]; rfl
  · rw [if_neg (by simpa using h), if_neg h]; rfl
theorem ofU_len (l : List Ev) (p : Int) (k : Nat) : (ofU l p k).length ≤ k := by
  unfold ofU
  rw [List.length_map]
  exact Nat.le_trans (List.length_filter_le _ _) (by simp)

theorem rof_vc (t : Tr) (p : Int) (h : chk t = 0) (k : List Dat → Prop) (hk : k [⟨.sl I, ofT t p⟩]) :
    vcF ⟨Em, [], [], [], []⟩ (anROf t p) (Tryd.f12.body.getD .skip) Tryd.f12.ntmps [(.tmp 4, .sl I)] [⟨tTr, t⟩, ⟨I, p⟩] k := by
  rw [vcROf]
  have hl := (good_of h).len
  simp only [decide_eq_true_eq, decide_eq_false_iff_not, and_true, true_and, Int.toNat_natCast]
  refine ⟨⟨0, by omega, rfl, rfl⟩, fun x hx => ⟨fun hlt => ⟨by omega, hlt, fun he => ⟨?_, inK_i64.2 (by omega), x + 1, by omega, by omega, rfl, ?_⟩, fun he => ⟨inK_i64.2 (by omega), x + 1, by omega, by omega, rfl, ?_⟩⟩, fun hge => ?_⟩⟩
  · have := ofU_len t.2.1 p x
    simp only [List.replicate, List.set, List.length_cons, List.length_nil]
    omega
  · rw [ofU_succ, if_pos he]; rfl
  · rw [ofU_succ, if_neg he, List.append_nil]
  · have : x = t.2.1.length := by omega
    subst this
    exact hk
theorem okROf : PlainOk Tryd.prog [] 12 cROf := by
  refine plain_of (CxOk.mk' Em_ok (by kernel_rfl) mixed (gl := []) GOk.nil GoOk.nil noIt) Tryd.func12 (c := Tryd.f12.body.getD .skip) (rvs := [(.tmp 4, .sl I)]) (by kernel_rfl) (by kernel_rfl) (by kernel_rfl) ?_
  intro ds k ⟨hp, hk⟩ hwf
  obtain ⟨t, p, rfl, h, -⟩ := dest2 hp
  exact ⟨anROf t p, rof_vc t p h k hk⟩

theorem of_vc (t : Tr) (p : Int) (k : List Dat → Prop) (hk : k [⟨.sl I, if ofE t p = 0 then ofT t p else []⟩, ⟨tErr, ofE t p⟩]) :
    vcF ⟨Em, [(10, cCheck), (44, cWithin)], [], [], []⟩ (anOf t p) (Tryd.f15.body.getD .skip) Tryd.f15.ntmps [(.tmp 4, .sl I), (.tmp 5, tErr)] [⟨tTr, t⟩, ⟨I, p⟩] k := by
  rw [vcOf]
  simp only [decide_eq_true_eq, decide_eq_false_iff_not, and_true, true_and, Bool.not_eq_true', Bool.not_eq_false', Int.toNat_natCast]
  refine ⟨fun h => ?_, fun h => ?_⟩
  · have e : ofE t p = chk t := by unfold ofE; rw [if_neg h]
    rw [e, if_neg h] at hk; exact hk
  · have g := good_of h
    have hl := g.len
    have hpr := g.procs
    refine ⟨inK_i64.2 (by omega), fun hw => ⟨by decide, ?_⟩, fun hw => ⟨⟨0, ⟨by omega, h⟩, rfl, rfl⟩, fun x ⟨hx, _⟩ => ⟨fun hlt => ⟨by omega, hlt, fun he => ⟨?_, inK_i64.2 (by omega), x + 1, ⟨by omega, h⟩, by omega, rfl, ?_⟩, fun he => ⟨inK_i64.2 (by omega), x + 1, ⟨by omega, h⟩, by omega, rfl, ?_⟩⟩, fun hge => ?_⟩⟩⟩
    · have e : ofE t p = 1 := by unfold ofE; rw [if_pos h, if_neg (by rw [hw]; decide)]
      rw [e] at hk; exact hk
    · have := ofU_len t.2.1 p x
      simp only [List.replicate, List.set, List.length_cons, List.length_nil]
      omega
    · rw [ofU_succ, if_pos he]; rfl
    · rw [ofU_succ, if_neg he, List.append_nil]
    · have : x = t.2.1.length := by omega
      subst this
      have e : ofE t p = 0 := by unfold ofE; rw [if_pos h, if_pos hw]
      rw [e] at hk; exact hk
theorem okOf : PlainOk Tryd.prog [] 15 cOf := by
  refine plain_of (CxOk.mk' Em_ok (by kernel_rfl) mixed (gl := []) (GOk.cons okCheck Tryd.func10 (by kernel_rfl) (by kernel_rfl) (GOk.cons okWithin Tryd.func44 (by kernel_rfl) (by kernel_rfl) GOk.nil)) GoOk.nil noIt) Tryd.func15 (c := Tryd.f15.body.getD .skip) (rvs := [(.tmp 4, .sl I), (.tmp 5, tErr)]) (by kernel_rfl) (by kernel_rfl) (by kernel_rfl) ?_
  intro ds k ⟨hp, hk⟩ hwf
  obtain ⟨t, p, rfl, -⟩ := dest2 hp
  exact ⟨anOf t p, of_vc t p k hk⟩

theorem evsErr_in {p : Int} {l : List Ev} : ∀ (f i : Nat), 0 ≤ evsErr p l f i ∧ evsErr p l f i ≤ 6 := by
  intro f
  induction f with
  | zero => intro i; unfold evsErr; omega
  | succ f ih =>
    intro i
    unfold evsErr
    split
    · exact ih _
    · unfold evErr
      split
      · omega
      · split <;> omega
theorem chk_in (t : Tr) : 0 ≤ chk t ∧ chk t ≤ 6 := by
  unfold chk
  split
  · omega
  · split
    · omega
    · exact evsErr_in _ _
theorem ofE_in (t : Tr) (p : Int) : 0 ≤ ofE t p ∧ ofE t p ≤ 6 := by
  have := chk_in t
  unfold ofE
  split
  · split <;> omega
  · omega
theorem lift {f : FuncId} {c : Ctr} {gl : List (Nat × Dat)} (h : PlainOk Tryd.prog [] f c) : PlainOk Tryd.prog gl f c := PlainOk.sub (fun x hx => by cases hx) h
end Go.Proofs.YtbpoeigaoakdiaaDoor.H

/- Clocks that count: what the functions answer. -/
namespace Go.Proofs.YtbpoeigaoakdiaaDoor
open Go.Vc
def Ev5 : Env := { tys := [(3, I), (4, .bool), (5, .int .u8), (9, .str), (22, .sl tEv), (24, tTr), (30, .sl I), (28, tErr), (70, tEv), (61, .sl (.sl I)), (74, .ar 5 I), (100, .ar 5 (.ar 5 I)), (89, .sl (.ar 5 I))], errT := 71, eqs := [], els := [(22, 70), (30, 3), (61, 30), (89, 74)] }
theorem Ev5_ok : EnvOk Tryd.prog Ev5 := EnvOk.of_list (by kernel_rfl) (by kernel_rfl) (by kernel_rfl)
def cClone : Ctr := cdet [.sl I] (fun (l : List Int) => l.length ≤ 1000000000 ∧ True) (fun (l : List Int) => [⟨.sl I, l⟩])
/-- the plain clocks -/
def plst (l : List Ev) : Nat → List Int × List Int
  | 0 => ([], List.replicate 5 0)
  | i + 1 =>
    ((plst l i).1 ++ [(if 0 ≤ (l.getD i (0, 0, ())).2.1 then max ((plst l i).2.getD (l.getD i (0, 0, ())).1.toNat 0) ((plst l i).1.getD (l.getD i (0, 0, ())).2.1.toNat 0) else (plst l i).2.getD (l.getD i (0, 0, ())).1.toNat 0) + 1],
     (plst l i).2.set (l.getD i (0, 0, ())).1.toNat ((if 0 ≤ (l.getD i (0, 0, ())).2.1 then max ((plst l i).2.getD (l.getD i (0, 0, ())).1.toNat 0) ((plst l i).1.getD (l.getD i (0, 0, ())).2.1.toNat 0) else (plst l i).2.getD (l.getD i (0, 0, ())).1.toNat 0) + 1))
def plain (t : Tr) : List Int := if chk t = 0 then (plst t.2.1 t.2.1.length).1 else []
def cPlain : Ctr := cdet [tTr] (fun _ => True) (fun t => [⟨.sl I, plain t⟩, ⟨tErr, chk t⟩])
def anPlain (t : Tr) : Ann :=
  [loopAt 7 Nat [(6, 3, I)] (fun st i => { St.at st [(18, .d I (i : Int)), (8, .any), (9, .any)] with ob := (st.ob.set 1 (.var 74 (.ar 5 I) (plst t.2.1 i).2)).set 2 (.row 3 I (plst t.2.1 i).1) }) (fun _ i => i ≤ t.2.1.length ∧ True) (fun i => t.2.1.length - i)]
/-- the vectors: one that is joined with another one, from place p on; one event more at a process -/
def vjoin (v w : List Int) (p : Nat) : List Int := (List.range 5).map fun q => if q < p then max (v.getD q 0) (w.getD q 0) else v.getD q 0
def vmore (v : List Int) (p : Nat) : List Int := v.set p (v.getD p 0 + 1)
def vst (l : List Ev) : Nat → List (List Int) × List (List Int)
  | 0 => ([], List.replicate 5 (List.replicate 5 0))
  | i + 1 =>
    ((vst l i).1 ++ [vmore (if 0 ≤ (l.getD i (0, 0, ())).2.1 then vjoin ((vst l i).2.getD (l.getD i (0, 0, ())).1.toNat []) ((vst l i).1.getD (l.getD i (0, 0, ())).2.1.toNat []) 5 else (vst l i).2.getD (l.getD i (0, 0, ())).1.toNat []) (l.getD i (0, 0, ())).1.toNat],
     (vst l i).2.set (l.getD i (0, 0, ())).1.toNat (vmore (if 0 ≤ (l.getD i (0, 0, ())).2.1 then vjoin ((vst l i).2.getD (l.getD i (0, 0, ())).1.toNat []) ((vst l i).1.getD (l.getD i (0, 0, ())).2.1.toNat []) 5 else (vst l i).2.getD (l.getD i (0, 0, ())).1.toNat []) (l.getD i (0, 0, ())).1.toNat))
def vecs (t : Tr) : List (List Int) := if chk t = 0 then (vst t.2.1 t.2.1.length).1.map (fun v => v.take t.1.toNat) else []
def cVecs : Ctr := cdet [tTr] (fun _ => True) (fun t => [⟨.sl (.sl I), vecs t⟩, ⟨tErr, chk t⟩])
def anVecs (t : Tr) : Ann :=
  [freezeAt 20 [10],
   loopAt 8 Nat [(6, 74, Ty.ar 5 I), (7, 30, Ty.sl I)] (fun st i => { St.at (St.only st [1, 5, 6, 7, 19, 20]) [(21, .d I (i : Int))] with ob := ((st.ob.set 1 (.var 100 (.ar 5 (.ar 5 I)) (vst t.2.1 i).2)).set 2 (.row 74 (.ar 5 I) (vst t.2.1 i).1)).set 3 (.row 30 (.sl I) ((vst t.2.1 i).1.map fun v => v.take t.1.toNat)) }) (fun _ i => i ≤ t.2.1.length ∧ True) (fun i => t.2.1.length - i),
   loopAt 13 Nat [] (fun st p => { St.at (St.only st [1, 5, 6, 7, 9, 10, 19, 20, 21, 36]) [(37, .d I (p : Int))] with ob := st.ob.set 5 (.var 74 (.ar 5 I) (vjoin ((vst t.2.1 (st.i 21).toNat).2.getD (t.2.1.getD (st.i 21).toNat (0, 0, ())).1.toNat []) ((vst t.2.1 (st.i 21).toNat).1.getD (t.2.1.getD (st.i 21).toNat (0, 0, ())).2.1.toNat []) p)) }) (fun _ p => p ≤ 5 ∧ True) (fun p => 5 - p)]
def cRows : Ctr := cdet [.sl (.sl I), .sl (.sl I)] (fun _ _ => True) (fun (a b : List (List Int)) => [⟨.bool, a == b⟩])
def anRows (a b : List (List Int)) : Ann := an1 Nat 4 (fun st i => St.at (St.only st [0, 1]) [(5, .d I (i : Int))]) (fun i => i ≤ a.length ∧ a.take i = b.take i) (fun i => a.length - i)
def cSFact : Ctr := cdet [] True [⟨.bool, true⟩]
end Go.Proofs.YtbpoeigaoakdiaaDoor

/- How two events are set in a row: which is less. -/
namespace Go.Proofs.YtbpoeigaoakdiaaDoor
open Go.Vc
def Ec : Env := { tys := [(3, I), (4, .bool), (5, .int .u8), (9, .str), (22, .sl tEv), (24, tTr), (30, .sl I), (28, tErr), (70, tEv)], errT := 71, eqs := [], els := [(22, 70), (30, 3)] }
theorem Ec_ok : EnvOk Tryd.prog Ec := EnvOk.of_list (by kernel_rfl) (by kernel_rfl) (by kernel_rfl)
def cNaN : Ctr := cdet [I] (fun _ => True) (fun _ => [⟨.bool, false⟩])
def cmpI (a b : Int) : Int := if a < b then -1 else if b < a then 1 else 0
def cCmp : Ctr := cdet [I, I] (fun _ _ => True) (fun a b => [⟨I, cmpI a b⟩])
def orI : List Int → Int
  | [] => 0
  | x :: r => if x = 0 then orI r else x
def cOr : Ctr := cdet [.sl I] (fun _ => True) (fun l => [⟨I, orI l⟩])
def anOr (l : List Int) : Ann := [loopAt 3 Nat [] (fun st i => St.at (St.only st [3, 6, 7]) [(8, .d I (i : Int))]) (fun _ i => i ≤ l.length ∧ orI l = orI (l.drop i)) (fun i => l.length - i)]
/-- by clock, and then by process -/
def cmpR (l : List Int) (t : Tr) (i j : Int) : Int :=
  orI [cmpI (l.getD i.toNat 0) (l.getD j.toNat 0), cmpI (t.2.1.getD i.toNat (0, 0, ())).1 (t.2.1.getD j.toNat (0, 0, ())).1]
abbrev tCa : Ty := .pr (.ptr (.sl I)) (.pr (.ptr tTr) .un)
def inR (l : List Int) (t : Tr) (i : Int) : Prop := 0 ≤ i ∧ i < (l.length : Int) ∧ i < (t.2.1.length : Int)
def cCls : Ctr := cgen [I, I, .ptr (.sl I), .ptr tTr] (fun (i j : Int) (l : Option (List Int)) (t : Option Tr) k => match l, t with
  | some l, some t => inR l t i ∧ inR l t j ∧ k [⟨I, cmpR l t i j⟩]
  | _, _ => False)
end Go.Proofs.YtbpoeigaoakdiaaDoor

/- The row of all events: its contract, and that of the sort. -/
namespace Go.Proofs.YtbpoeigaoakdiaaDoor
open Go.Vc
def Erw : Env := { tys := [(3, I), (4, .bool), (5, .int .u8), (9, .str), (22, .sl tEv), (24, tTr), (30, .sl I), (28, tErr), (73, .fn 62 tCa), (70, tEv), (74, .ar 5 I)], errT := 71, eqs := [], els := [(22, 70), (30, 3)] }
theorem Erw_ok : EnvOk Tryd.prog Erw := EnvOk.of_list (by kernel_rfl) (by kernel_rfl) (by kernel_rfl)
/-- sorted, by clock and process -/
def srtP (l : List Int) (t : Tr) (xs ys : List Int) : Prop := ys.Perm xs ∧ ys.Pairwise fun a b => 0 ≤ cmpR l t b a
def oSort : OCtr := fun args ob k =>
  match args, ob with
  | [.os 0, .d (.fn 62 (.pr (.ptr (.sl (.int .i64))) (.pr (.ptr (.pr (.int .i64) (.pr (.sl (.pr (.int .i64) (.pr (.int .i64) .un))) .un))) .un))) (some (some l, some t, _))], [.row 3 (.int .i64) xs] =>
    (∀ x ∈ (xs : List Int), inR l t x) ∧ (xs : List Int).length ≤ 1000000000 ∧ ∀ ys : List Int, srtP l t xs ys → k (.tp []) [.row 3 I ys]
  | _, _ => False
def iota (n : Nat) : List Int := (List.range n).map fun (i : Nat) => (i : Int)
def rowP (t : Tr) (r : List Int) : Prop := srtP (plain t) t (iota t.2.1.length) r
def cRow : Ctr := cgen [tTr] (fun (t : Tr) k => (chk t ≠ 0 → ∀ r : List Int, r = [] → k [⟨.sl I, r⟩, ⟨tErr, chk t⟩]) ∧ (chk t = 0 → ∀ r : List Int, rowP t r → k [⟨.sl I, r⟩, ⟨tErr, (0 : Int)⟩]))
def anRow (t : Tr) : Ann :=
  [joinAll, freezeAt 10 [4, 1], loopAt 6 Nat [(6, 3, I)] (fun st i => { St.at (St.only st [1, 4, 6, 17]) [(18, .d I (i : Int))] with ob := [.var 24 tTr t, .var 30 (.sl I) (plain t), .row 3 I (iota i)] }) (fun _ i => i ≤ (plain t).length ∧ True) (fun i => (plain t).length - i)]
end Go.Proofs.YtbpoeigaoakdiaaDoor
